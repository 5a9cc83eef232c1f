/- The proof's parts, merged: The pure interpreter of the model s code over owned trees  definitions alone, nothing is claimed here.. No conditions but those that each states. -/
import GoSem.Core.Code
import GoSem.Core.View
import Derived.Laws.IdiomCopy
import Derived.Laws.Cells
import Derived.Laws.AppendOwn
import Derived.Calls
import Derived.Lib.LaidTab
import Derived.Lib.ItoaNum
import Derived.Laws.Entries
import Derived.Laws.NewFold
import Derived.Laws.Sem
namespace OT
open Go
set_option linter.defProp false
def aA:=@Option.bind_some
def aB:=@List.getElem?_eq_getElem
def aC:=@Int.toNat_natCast
def aD:=@cond_false
def aE:=@decide_false
def aF:=@Bool.and_eq_true
def aG:=@decide_true
def aH:=@cond_true
def aI:=@if_true
def aJ:=@Bool.false_eq_true
def aK:=@Int.natCast_nonneg
def aL:=@Nat.le_refl
def aM:=@if_pos
def aN:=@Bool.not_true
def aO:=@if_false
def aP:=@if_neg
def aQ:=@Eq.trans
def aR:=@List.getElem?_eq_some_iff
def aS:=@Option.some.injEq
def aU:=@List.getElem_mem
def aV:=@decide_eq_true
def aW:=@List.length_cons
def aX:=@Int.lt_irrefl
def aY:=@decide_eq_false
def aZ:=@List.length_set
def bA:=@Bool.not_false
def bB:=@List.mem_cons
def bC:=@List.length_nil
def bD:=@Nat.zero_le
def bE:=@List.length_append
def bF:=@List.mem_cons_of_mem
def bG:=@List.isEmpty_iff
def bH:=@Nat.mul_le_mul_right
def bI:=@decide_eq_true_eq
def bJ:=@List.mem_singleton
def bK:=@List.all_eq_true
def bL:=@Nat.le_trans
def bM:=@Nat.eq_zero_or_pos
def bN:=@List.append_assoc
def bO:=@List.nil_append
def bP:=@Prod.mk.injEq
def bQ:=@List.length_drop
def bR:=@and_self
def bS:=@List.eq_nil_of_length_eq_zero
def bT:=@Option.map_some
def bU:=@List.mem_append
def bV:=@List.any_nil
def bW:=@List.getD_eq_getElem?_getD
def bX:=@List.drop_eq_getElem_cons
def bZ:=@List.getElem?_drop
def cA:=@List.mem_cons_self
def cB:=@Nat.zero_add
def cC:=@Bool.not_eq_true'
def cD:=@List.mem_of_getElem?
def cE:=@Array.getElem?_eq_some_iff
def cG:=@List.length_range
def cH:=@List.mem_range
def cI:=@List.append_nil
def cJ:=@List.getElem?_take
def cK:=@Nat.lt_or_ge
def cL:=@List.cons_append
def cM:=@List.isEmpty_nil
def cN:=@List.filterMap_append
def cO:=@List.nodup_cons
def cP:=@congrArg
def cQ:=@Nat.eq_of_beq_eq_true
def cR:=@List.length_replicate
def cS:=@List.getElem?_append_left
def cT:=@List.mem_of_find?_eq_some
def cU:=@List.drop_drop
def cV:=@List.mem_iff_getElem
def cW:=@Nat.add_assoc
def cX:=@List.mem_flatMap
def cY:=@List.map_cons
def cZ:=@Bool.false_or
def dA:=@List.pairwise_iff_getElem
def dB:=@Nat.lt_of_lt_of_le
def dC:=@Bool.or_eq_true
def dD:=@List.length_take
def dE:=@List.take_append_drop
def dF:=@List.count_pos_iff
def dG:=@Int.tdiv_eq_ediv_of_nonneg
def dH:=@List.cons.injEq
def dI:=@List.all_cons
def dJ:=@Bool.true_and
def dK:=@Nat.ble_eq
def dL:=@Nat.add_mul
def dM:=@not_false_eq_true
def dN:=@List.flatMap_cons
def dP:=@Array.getElem?_toList
def dQ:=@true_and
def dR:=@List.set_set
def dT:=@List.pairwise_cons
def dU:=@Int.eq_ofNat_of_zero_le
def dV:=@List.drop_zero
def dW:=@Nat.add_zero
def dX:=@List.drop_of_length_le
def dY:=@Array.getElem?_eq_none
def dZ:=@List.take_succ_eq_append_getElem
def eA:=@List.getElem?_eq_none
def eB:=@decide_eq_decide
def eC:=@Option.isSome_iff_exists
def eD:=@List.drop_take
def eE:=@List.mem_of_mem_take
def eF:=@List.ext_getElem?
def eG:=@decide_eq_false_iff_not
def eH:=@List.getElem?_set
def eI:=@List.getElem?_cons_zero
def eJ:=@and_true
def eK:=@List.findIdx?_eq_some_iff_findIdx_eq
def eL:=@List.getElem_of_mem
def eM:=@beq_self_eq_true
def eN:=@Nat.beq_eq
def eO:=@List.filterMap_nil
def eP:=@Nat.add_sub_cancel
def eQ:=@List.find?_eq_none
def eR:=@List.mem_or_eq_of_mem_set
def eS:=@List.map_append
def eU:=@List.foldl_cons
def eV:=@List.getElem?_map
def eW:=@Nat.succ_mul
def eX:=@List.mem_map
def eY:=@List.pairwise_append
def eZ:=@List.nodup_append
def fA:=@Nat.le_of_lt
def fB:=@List.take_length
def fC:=@List.any_eq_true
def fD:=@List.pairwise_singleton
def fE:=@List.perm_middle
def fF:=@BitVec.toNat_ofInt
def fG:=@List.length_zip
def fH:=@Nat.div_lt_iff_lt_mul
def fI:=@List.mem_iff_getElem?
def fJ:=@Bool.eq_false_iff
def fK:=@not_true_eq_false
def fL:=@List.take_take
def fM:=@Int.fdiv_eq_ediv_of_nonneg
def fN:=@List.range_eq_range'
def fO:=@List.getElem?_append_right
def fP:=@Array.getElem?_append_left
def fQ:=@List.mem_of_mem_drop
def fR:=@List.Perm.refl
def fS:=@Int.tmod_eq_emod_of_nonneg
def fT:=@List.filter_cons
def fU:=@List.map_nil
def fV:=@Int.natCast_zero
def fW:=@List.findIdx?_eq_none_iff
def fX:=@List.flatMap_append
def fY:=@UInt8.toNat_inj
def fZ:=@Nat.not_lt
def gA:=@UInt8.toNat_ofNat'
def gB:=@List.mem_filterMap
def gC:=@Classical.axiomOfChoice
def gD:=@List.getElem?_replicate
def gE:=@Bool.or_self
def gF:=@List.nodup_nil
def gG:=@List.pairwise_map
def gH:=@List.replicate_append_replicate
def gI:=@Array.getElem?_modify
def gJ:=@List.singleton_append
def gK:=@eq_of_heq
def gL:=@Array.eq_empty_of_size_eq_zero
def gM:=@List.flatMap_nil
def gN:=@List.any_cons
def gO:=@Bool.and_self
def gP:=@List.take_append_of_le_length
def gQ:=@List.drop_append_of_le_length
def gR:=@Option.map_none
def gS:=@List.find?_cons
def gT:=@List.range_succ
def gU:=@List.find?_some
def gV:=@List.length_map
def gW:=@List.getElem?_range
def gX:=@List.mem_map_of_mem
def gY:=@Array.getElem_setIfInBounds
def gZ:=@Nat.le_of_eq
def hJ:=@Bool.true_or
def hK:=@List.map_map
def hU:=@false_and
def iA:=@List.nodup_iff_pairwise_ne
def iB:=@Array.getElem?_eq_getElem
def iC:=@List.mem_take_iff_getElem
def iD:=@List.size_toArray
def iE:=@Int.le_refl
def iG:=@List.range'_succ
def iH:=@Iff.rfl
def iI:=@Nat.beq_refl
def iJ:=@Bool.or_true
def iK:=@List.take_left'
def iL:=@List.drop_left'
def iM:=@Bool.eq_iff_iff
def iP:=@Nat.min_le_left
def iQ:=@UInt8.toNat_lt
def iR:=@Nat.mul_one
def iS:=@false_or
def iT:=@true_or
inductive Ty where
 | int (k:IntKind)
 | bool
 | str
 | unit
 | pair (a b:Ty)
 | arr (n:Nat) (e:Ty)
 | aa (e:Ty)
 | ptr (e:Ty)
 | fn
 | map (k v:Ty)
 deriving DecidableEq
@[reducible] def BY:IntKind->Type
 | .u8=>UInt8
 | _=>Int
@[reducible] def Ty.den:Ty->Type
 | .int k=>BY k
 | .bool=>Bool
 | .str=>List UInt8
 | .unit=>Unit
 | .pair a b=>a.den×b.den
 | .arr _ e=>List e.den
 | .aa e=>List e.den
 | .ptr e=>e.den
 | .fn=>Nat×Int
 | .map k v=>List (k.den×v.den)
def Ty.sz:Ty->Nat
 | .unit=>0
 | .pair a b=>a.sz+b.sz
 | .arr n e=>n*e.sz
 | _=>1
def Ty.flat:Ty->Bool
 | .pair a b=>a.flat&&b.flat
 | .arr _ e=>e.flat
 | .aa _ | .ptr _ | .map _ _=>false
 | _=>true
def pU:(k:IntKind)->BY k->Int
 | .u8,n=>(n.toNat:Int)
 | .i8,n=>n
 | .i16,n=>n
 | .i32,n=>n
 | .i64,n=>n
 | .u16,n=>n
 | .u32,n=>n
 | .u64,n=>n
def DT:(k:IntKind)->Int->BY k
 | .u8,n=>UInt8.ofInt n
 | .i8,n=>IntKind.wrap .i8 n
 | .i16,n=>IntKind.wrap .i16 n
 | .i32,n=>IntKind.wrap .i32 n
 | .i64,n=>IntKind.wrap .i64 n
 | .u16,n=>IntKind.wrap .u16 n
 | .u32,n=>IntKind.wrap .u32 n
 | .u64,n=>IntKind.wrap .u64 n
def Wh:(k:IntKind)->Int->BY k
 | .u8,n=>UInt8.ofInt n
 | .i8,n=>n
 | .i16,n=>n
 | .i32,n=>n
 | .i64,n=>n
 | .u16,n=>n
 | .u32,n=>n
 | .u64,n=>n
def Ty.zero:(t:Ty)->t.den
 | .int k=>Wh k 0
 | .bool=>false
 | .str=>[]
 | .unit=>()
 | .pair a b=>(a.zero,b.zero)
 | .arr n e=>List.replicate n e.zero
 | .aa _=>[]
 | .ptr e=>e.zero
 | .fn=>(0,0)
 | .map _ _=>[]
def Ty.wl:Ty->Bool
 | .pair a b=>a.wl&&b.wl
 | .arr _ e=>e.wl
 | .ptr _ | .fn | .map _ _=>false
 | _=>true
def Ty.eq:(t:Ty)->t.den->t.den->Bool
 | .int .u8,a,b=>a == b
 | .int .i8,a,b=>decide (a=b)
 | .int .i16,a,b=>decide (a=b)
 | .int .i32,a,b=>decide (a=b)
 | .int .i64,a,b=>decide (a=b)
 | .int .u16,a,b=>decide (a=b)
 | .int .u32,a,b=>decide (a=b)
 | .int .u64,a,b=>decide (a=b)
 | .bool,a,b=>a == b
 | .str,a,b=>decide (a=b)
 | .pair x y,a,b=>x.eq a.1 b.1&&y.eq a.2 b.2
 | .arr _ e,a,b=>(a.zip b).all λp=>e.eq p.1 p.2
 | _,_,_=>true
def Ty.oh:Ty->Bool
 | .int _ | .bool | .str | .unit=>true
 | .pair a b=>a.oh&&b.oh
 | .arr _ e=>e.oh
 | _=>false
def Ty.rW:Ty->Bool
 | .pair a b=>a.rW&&b.rW
 | .arr _ e | .aa e | .ptr e=>e.rW
 | .map k v=>k.rW&&v.rW
 | .fn=>false
 | _=>true
inductive Md where
 | leaf
 | pair (a b:Md)
 | arr (e:Md)
 | aa (own:Bool) (e:Md)
 | ptr (own:Bool) (e:Md)
 deriving DecidableEq
def uK (own:Bool):Ty->Md
 | .pair a b=>.pair (uK own a) (uK own b)
 | .arr _ e=>.arr (uK own e)
 | .aa e=>.aa own (uK own e)
 | .ptr e=>.ptr own (uK own e)
 | .map _ _=>.aa own .leaf
 | _=>.leaf
abbrev ak:=uK false
abbrev ai:=uK true
def Md.l:Md->Md
 | .pair a _=>a
 | _=>.leaf
def Md.r:Md->Md
 | .pair _ b=>b
 | _=>.leaf
def Md.e:Md->Md
 | .arr e | .aa _ e | .ptr _ e=>e
 | _=>.leaf
def Md.own:Md->Bool
 | .aa o _ | .ptr o _=>o
 | _=>false
def Md.kH:Md->Bool
 | .leaf=>true
 | .pair a b=>a.kH&&b.kH
 | .arr e=>e.kH
 | .aa o e=>!o&&e.kH
 | .ptr o e=>!o&&e.kH
def fits:Md->Md->Bool
 | .leaf,.leaf=>true
 | .pair a b,.pair c d=>fits a c&&fits b d
 | .arr a,.arr b=>fits a b
 | .aa o a,.aa o' b=>(o||!o')&&(o'||b.kH)&&fits a b
 | .ptr o a,.ptr o' b=>(o||!o')&&(o'||b.kH)&&fits a b
 | _,_=>false
inductive Step where
 | fst
 | snd
 | idx (i:Nat)
 | qO (i:Nat)
abbrev Path:=List Step
def d9:Path->Nat
 | []=>0
 | .idx _::p=>d9 p+1
 | _::p=>d9 p
structure Hs where
 t:Ty
 m:Md
 v:t.den
inductive Slot where
 | dead
 | wC
 | val (t:Ty) (v:t.den)
 | cp (t:Ty) (v:t.den)
 | own (t:Ty) (m:Md) (H:List Path) (v:t.den)
 | box (t:Ty) (m:Md) (H:List Path) (v:t.den)
 | ref (r:Nat) (p:Path) (snap:List Nat)
 | sub (r:Nat) (p:Path) (snap:List Nat) (lo hi:Nat)
 | ptr (r:Nat) (p:Path) (snap:List Nat)
 | rT (xs:List Hs)
structure St where
 n:Nat
 sl:List (Nat×Slot)
 vr:List (Nat×List Nat)
 az:List (Nat×Nat×Bool)
 gh:List (Nat×Nat×Path×List Nat):=[]
def nO {α:Type}:List (Nat×α)->Nat->Option α
 | [],_=>none
 | (k,x)::l,i=>if Nat.beq k i then some x else nO l i
def St.get (σ:St) (i:Nat):Slot:=if Nat.blt i σ.n then (match nO σ.sl i with | some s=>s | none=>.dead) else .dead
def St.kZ (σ:St) (i:Nat):List Nat:=match nO σ.vr i with | some v=>v | none=>[0,0,0,0,0]
def sL:List Nat->List Nat:=λv=>v.map (·+1)
def ug (d:Nat):List Nat->List Nat
 | [b,x,y,z,w]=>match d with
  | 0=>[b,x+1,y,z,w+1]
  | 1=>[b,x,y+1,z,w+1]
  | 2=>[b,x,y,z+1,w+1]
  | _=>[b+1,x,y,z,w+1]
 | v=>sL v
def wD:List Nat->List Nat
 | [b,x,y,z,w]=>[b,x,y,z,w+1]
 | v=>sL v
def St.mN (σ:St) (i:Nat) (f:List Nat->List Nat):St:={ σ with vr:=(i,f (σ.kZ i))::σ.vr }
def zN:List (Nat×Nat×Bool)->Nat->List (Nat×Nat×Bool)
 | [],_=>[]
 | (k,b)::l,i=>if Nat.beq k i then zN l i else (k,b)::zN l i
def Lm:List (Nat×Nat×Path×List Nat)->Nat->List (Nat×Nat×Path×List Nat)
 | [],_=>[]
 | (d,x)::l,i=>if Nat.beq d i then Lm l i else (d,x)::Lm l i
def zO:List (Nat×Nat×Bool)->Nat->List (Nat×Nat×Bool)
 | [],_=>[]
 | (k,n,b)::l,i=>if Nat.beq k i&&b then zO l i else (k,n,b)::zO l i
def BZ:List (Nat×Nat×Bool)->Nat->Nat->Bool->Bool
 | [],_,_,_=>false
 | (k,n,b)::l,i,j,c=>(Nat.beq k i&&Nat.beq n j&&(b == c))||BZ l i j c
def Cw:List (Nat×Nat×Bool)->Nat->Bool
 | [],_=>false
 | (k,_,b)::l,i=>(Nat.beq k i&&!b)||Cw l i
def Ht:List (Nat×Nat×Bool)->Nat->Option Nat
 | [],_=>none
 | (k,n,b)::l,i=>if Nat.beq k i&&b then some n else Ht l i
def St.put (σ:St) (i:Nat) (s:Slot):St:={ n:=σ.n,sl:=(i,s)::σ.sl,vr:=(i,sL (σ.kZ i))::σ.vr,az:=zN σ.az i,gh:=Lm σ.gh i }
def St.head (σ:St) (r d:Nat):St:=match d with
 | 0=>{ σ with az:=zO σ.az r }
 | _=>σ
def St.lS (σ:St) (i:Nat) (s:Slot):St:={ σ with sl:=(i,s)::σ.sl }
def St.bz (σ:St) (d:Option Tmp) (s:Slot):St:=match d with
 | some i=>σ.put i s
 | none=>σ
def preB:List Nat->List Nat->Bool
 | [],_=>true
 | a::x,b::y=>Nat.beq a b&&preB x y
 | _::_,[]=>false
section
variable {R:Type}
def jJ (t t':Ty) (v:t.den) (K:t'.den->Option R):Option R:=
 if h:t=t' then K (h ▸ v) else none
def vJ:Path->Option Path
 | .fst::p=>some p
 | _=>none
def vK:Path->Option Path
 | .snd::p=>some p
 | _=>none
def xK (H:List Path) (i:Nat) (K:List Path->Option R):Option R:=
 match H with
 | []=>K []
 | [.idx j::q]=>if i=j then K [q] else none
 | _=>none
def ol:(p:Path)->(t:Ty)->Md->List Path->t.den->((t':Ty)->Md->List Path->t'.den->Option R)->Option R
 | [],t,m,H,v,K=>K t m H v
 | .fst::p,.pair a _,m,H,v,K=>if H.any (·.isEmpty) then none else ol p a m.l (H.filterMap vJ) v.1 K
 | .snd::p,.pair _ b,m,H,v,K=>if H.any (·.isEmpty) then none else ol p b m.r (H.filterMap vK) v.2 K
 | .idx i::p,.aa e,m,H,v,K=>xK H i λH'=>(v[i]?).bind λx=>ol p e m.e H' x K
 | .qO i::p,.arr _ e,m,H,v,K=>if H.isEmpty then (v[i]?).bind λx=>ol p e m.e [] x K else none
 | _,_,_,_,_,_=>none
def rD:(p:Path)->(t:Ty)->Md->List Path->t.den ->
    ((t':Ty)->Md->List Path->t'.den->(Md->List Path->t'.den->Option R)->Option R)->(Md->List Path->t.den->Option R)->Option R
 | [],t,m,H,v,f,K=>f t m H v K
 | .fst::p,.pair a _,m,H,v,f,K=>
  if H.any (·.isEmpty) then none else
  rD p a m.l (H.filterMap vJ) v.1 f λm' H' x=>K (.pair m' m.r) (H'.map (.fst::·)++(H.filterMap vK).map (.snd::·)) (x,v.2)
 | .snd::p,.pair _ b,m,H,v,f,K=>
  if H.any (·.isEmpty) then none else
  rD p b m.r (H.filterMap vK) v.2 f λm' H' x=>K (.pair m.l m') ((H.filterMap vJ).map (.fst::·)++H'.map (.snd::·)) (v.1,x)
 | .idx i::p,.aa e,m,H,v,f,K=>
  if m.own then
   xK H i λH0=>(v[i]?).bind λx=>
    rD p e m.e H0 x f λm' H' y=>
     if m'=m.e then K (.aa true m.e) (H'.map (.idx i::·)) (v.set i y)
     else if H'.isEmpty then K (.aa true (ak e)) [] (v.set i y) else none
  else none
 | .qO i::p,.arr _ e,m,H,v,f,K=>
  if H.isEmpty then (v[i]?).bind λx=>
   rD p e m.e [] x f λ_ H' y=>if H'.isEmpty then K m [] (v.set i y) else none
  else none
 | _,_,_,_,_,_,_=>none
def BH:Path->Ty->Option Ty
 | [],t=>some t
 | .fst::p,.pair a _=>BH p a
 | .snd::p,.pair _ b=>BH p b
 | .idx _::p,.aa e=>BH p e
 | .qO _::p,.arr _ e=>BH p e
 | _,_=>none
def wE (σ:St) (r:Nat) (K:(t:Ty)->Md->List Path->t.den->Option R):Option R:=
 match σ.get r with
 | .own t m H v | .box t m H v=>K t m H v
 | _=>none
def St.ky (σ:St) (r:Nat) (t:Ty) (m:Md) (H:List Path) (v:t.den):St:=
 match σ.get r with
 | .box ..=>σ.lS r (.box t m H v)
 | _=>σ.lS r (.own t m H v)
def St.ok (σ:St) (r:Nat) (snap:List Nat):Bool:=preB snap (σ.kZ r)
def pK (σ:St) (r:Nat) (p:Path) (K:(t:Ty)->Md->List Path->t.den->Option R):Option R:=
 wE σ r λt m H v=>ol p t m H v K
def vF (σ:St) (r:Nat) (p:Path) (t:Ty) (m:Md) (v:t.den) (K:St->Option R):Option R:=
 wE σ r λt0 m0 H0 v0=>
  rD p t0 m0 H0 v0 (λt' _ _ _ k=>jJ t t' v λx=>k m [] x) λm' H' v'=>
   K (((σ.ky r t0 m' H' v').mN r (if t.flat then wD else ug (d9 p))).head r (d9 p))
def ut:Ty->List Path
 | .pair a b=>(ut a).map (.fst::·)++(ut b).map (.snd::·)
 | .aa _ | .ptr _ | .map _ _=>[[]]
 | .arr _ e=>if e.flat then [] else [[]]
 | _=>[]
def zg (σ:St) (r:Nat) (p:Path) (K:St->Option R):Option R:=
 wE σ r λt0 m0 H0 v0=>
  rD p t0 m0 H0 v0 (λt' m' _ x k=>k m' (ut t') x) λm' H' v'=>
   K (((σ.ky r t0 m' H' v').mN r (ug (d9 p))).head r (d9 p))
def xL (σ:St) (r:Nat) (p:Path) (K:St->Option R):Option R:=
 wE σ r λt0 m0 H0 v0=>
  rD p t0 m0 H0 v0 (λt' m H x k=>if H.isEmpty&&fits m (ak t') then k (ak t') [] x else none) λm' H' v'=>
   K (σ.ky r t0 m' H' v')
def wm (σ:St) (r:Nat) (p:Path) (m1:Md) (K:St->Option R):Option R:=
 wE σ r λt0 m0 H0 v0=>
  rD p t0 m0 H0 v0 (λ_ m H x k=>if H.isEmpty&&fits m m1 then k m1 [] x else none) λm' H' v'=>
   K (σ.ky r t0 m' H' v')
def wo (σ:St) (r:Nat) (p:Path):List Nat:=(σ.kZ r).take (1+d9 p)
def vk (σ:St) (r:Nat) (p:Path) (t:Ty):List Nat:=match t with
 | .aa _ | .map _ _=>(σ.kZ r).take (2+d9 p)
 | _=>σ.kZ r
def yw:Value->Slot
 | .int .u8 n=>if ((UInt8.ofInt n).toNat:Int)=n then .val (.int .u8) (UInt8.ofInt n) else .dead
 | .int .i64 n=>.val (.int .i64) n
 | .int .u64 n=>.val (.int .u64) n
 | .int .u32 n=>.val (.int .u32) n
 | .int .i32 n=>.val (.int .i32) n
 | .bool b=>.val .bool b
 | .string s=>.val .str s.data.toList
 | .slice none 0 0=>.wC
 | _=>.dead
def d7 (σ:St):Operand->Slot
 | .tmp i=>match σ.get i with
  | .own t _ _ _=>.ref i [] (vk σ i [] t)
  | .box _ _ _ _=>.ptr i [] (wo σ i [])
  | s=>s
 | .const v=>yw v
 | .func f=>.val .fn (f,0)
 | .global _=>.dead
def mV (σ:St) (s:Slot) (mv:Bool) (t:Ty) (K:Md->t.den->St->Option R):Option R:=
 match s with
 | .val t' v=>jJ t' t v λv=>K (ak t) v σ
 | .cp t' v=>jJ (.ptr t') t v λv=>K (ak t) v σ
 | .wC=>match t with
  | .aa e=>K (ai (.aa e)) [] σ
  | _=>none
 | .ref r p snap=>
  if σ.ok r snap then
   pK σ r p λt' m H v=>
    if H.isEmpty then jJ t' t v λv=>
     if m=ak t then K m v σ
     else if mv then zg σ r p λσ=>K m v σ
     else xL σ r p λσ=>K (ak t) v σ
    else none
  else none
 | .sub r p snap lo hi=>
  if σ.ok r snap then
   pK σ r p λt' m H v=>
    if H.isEmpty then jJ t' t v λv=>match t,v with
     | .aa e,v=>
      if m=ak (.aa e) then K m ((v.take hi).drop lo) σ
      else if mv then (if lo=0 then zg σ r p λσ=>K m ((v.take hi).drop lo) σ else none)
      else xL σ r p λσ=>K (ak (.aa e)) ((v.take hi).drop lo) σ
     | _,_=>none
    else none
  else none
 | .ptr r [] snap=>
  if σ.ok r snap then
   match σ.get r with
   | .box t' m H v=>if H.isEmpty&&!Cw σ.az r then jJ (.ptr t') t v λv=>K (.ptr true m) v (σ.put r .dead) else none
   | _=>none
  else none
 | _=>none
def s_ (σ:St) (s:Slot) (t:Ty) (K:t.den->Option R):Option R:=
 match s with
 | .val t' v=>jJ t' t v K
 | .cp t' v=>jJ (.ptr t') t v K
 | .wC=>match t with
  | .aa _=>K []
  | _=>none
 | .ref r p snap=>
  if σ.ok r snap then pK σ r p λt' _ H v=>if H.isEmpty then jJ t' t v K else none
  else none
 | .sub r p snap lo hi=>
  if σ.ok r snap then
   pK σ r p λt' _ H v=>if H.isEmpty then jJ t' t v λv=>match t,v with
    | .aa _,v=>K ((v.take hi).drop lo)
    | _,_=>none
   else none
  else none
 | .ptr r p snap=>
  if σ.ok r snap then pK σ r p λt' _ H v=>if H.isEmpty then jJ (.ptr t') t v K else none
  else none
 | _=>none
def wc (s:Slot) (K:Int->Option R):Option R:=
 match s with
 | .val (.int k) n=>K (pU k n)
 | _=>none
def Hu (s:Slot) (K:Bool->Option R):Option R:=
 match s with
 | .val .bool b=>K b
 | _=>none
def laid (t:Ty) (m:Md) (v:t.den):Slot:=
 if m=ak t then .val t v else
 match t,m,v with
 | .ptr e,.ptr true m',v=>.box e m' [] v
 | t,m,v=>.own t m [] v
end
end OT
namespace OT
open Go
noncomputable section
inductive PM where
 | ro
 | jV (m m':Md)
 | k8 (m:Md)
 | sg (m:Md)
 | p6 (m:Md)
 | fix (f:Nat)
 deriving DecidableEq
def bq:List Ty->Ty
 | []=>.unit
 | t::ts=>.pair t (bq ts)
def ll:List (PM×Ty)->List Ty
 | []=>[]
 | (.jV _ _,t)::ps=>t::ll ps
 | (.k8 _,t)::ps=>t::ll ps
 | _::ps=>ll ps
structure uL where
 cap:Bool:=false
 ps:List (PM×Ty)
 rs:List (Ty×Md)
 F:(bq (ps.map (·.2))).den->Option (bq (rs.map (·.1)++ll ps)).den
 FR:(bq (ps.map (·.2))).den->List Path->Bool:=λ_ H=>H.isEmpty
structure Env where
 TI:Nat->Option Ty
 G:Nat->Option uL
 fz:List (Nat×Nat×Nat):=[]
 lv:List (Nat×List Nat):=[]
 lx:List (Nat×List Nat):=[]
 lf:List (Nat×List (Nat×Md)):=[]
 od:List (Nat×List Nat):=[]
 ar:List (Nat×List Nat):=[]
 bx:List (Nat×List Nat):=[]
 pd:List (Nat×List Nat):=[]
 er:List (Nat×List (Nat×Nat)):=[]
def UK:List (Nat×Nat×Nat)->Nat->Nat->Nat->Bool
 | [],_,_,_=>false
 | (a,b,c)::l,i,j,k=>(Nat.beq a i&&Nat.beq b j&&Nat.beq c k)||UK l i j k
def cg:Nat:=274877906944
section
variable {R:Type}
def p_ (E:Env) (t:Nat) (K:Ty->Option R):Option R:=
 match E.TI t with
 | some t=>K t
 | none=>none
def om:Nat->Path
 | 0=>[.fst]
 | n+1=>.snd::om n
def uE:Nat->Ty->Option Ty
 | 0,.pair a _=>some a
 | n+1,.pair _ b=>uE n b
 | _,_=>none
def Qe:Nat->(t:Ty)->t.den->((t':Ty)->t'.den->Option R)->Option R
 | 0,.pair a _,v,K=>K a v.1
 | n+1,.pair _ b,v,K=>Qe n b v.2 K
 | _,_,_,_=>none
def Ln (σ:St) (r:Nat):Option Ty:=
 match σ.get r with
 | .own t _ _ _ | .box t _ _ _=>some t
 | _=>none
def GF (σ:St) (r:Nat) (p:Path):Option Ty:=
 match Ln σ r with
 | some t=>BH p t
 | none=>none
def Cx (E:Env) (σ:St) (T:Nat) (a:Slot) (mv:Bool) (d:Option Tmp) (K:St->Option R):Option R:=
 p_ E T λT=>
 match a with
 | .cp t v=>if t=T then K (σ.bz d (.val t v)) else none
 | .ptr r p snap=>
  if σ.ok r snap then
   pK σ r p λt m H v=>
    if t=T then
     if t.flat then (if H.isEmpty then K (σ.bz d (.val t v)) else none)
     else if m=ak t then (if H.isEmpty then (match mv with
      | true=>K (σ.bz d (.ref r p (vk σ r p t)))
      | false=>K (σ.bz d (.val t v))) else none)
     else match mv with
      | false=>K (σ.bz d (.ref r p (vk σ r p t)))
      | true=>if H.isEmpty then zg σ r p λσ=>K (σ.bz d (laid t m v)) else none
    else none
  else none
 | _=>none
def Hv (E:Env) (σ:St) (T:Nat) (a:Operand) (mv fr:Bool) (d:Option Tmp) (K:St->Option R):Option R:=
 match fr with
 | false=>Cx E σ T (d7 σ a) mv d K
 | true=>match d7 σ a with
  | .ptr r p snap=>if σ.ok r snap then xL σ r p λσ=>Cx E σ T (d7 σ a) mv d K else none
  | _=>none
def Lo (E:Env) (σ:St) (T:Nat) (a x:Slot) (mv:Bool) (K:St->Option R):Option R:=
 p_ E T λT=>
 match a with
 | .ptr r p snap=>
  if σ.ok r snap then
   if GF σ r p=some T then mV σ x mv T λm v σ=>vF σ r p T m v K else none
  else none
 | _=>none
def Cy (E:Env) (σ:St) (S:Nat) (x:Slot) (j:Nat) (d:Option Tmp) (K:St->Option R):Option R:=
 p_ E S λS=>
 match x with
 | .cp t v=>if t=S then Qe j t v λt' v'=>K (σ.bz d (.cp t' v')) else none
 | .ptr r p snap=>if σ.ok r snap then (if GF σ r p=some S then (if (uE j S).isSome then K (σ.bz d (.ptr r (p++om j) snap)) else none) else none) else none
 | _=>none
def IX (E:Env) (σ:St) (S:Nat) (x:Slot) (j:Nat) (d:Option Tmp) (K:St->Option R):Option R:=
 p_ E S λS=>
 match x with
 | .val t v=>if t=S then Qe j t v λt' v'=>K (σ.bz d (.val t' v')) else none
 | .ref r p snap=>
  if σ.ok r snap then
   if GF σ r p=some S then
    pK σ r (p++om j) λt m H v=>
     if t.flat||(m=ak t) then (if H.isEmpty then K (σ.bz d (.val t v)) else none)
     else K (σ.bz d (.ref r (p++om j) (vk σ r (p++om j) t)))
   else none
  else none
 | _=>none
def Sm (n:Int) (len:Nat) (K:Nat->Option R):Option R:=
 if 0<=n/\n < (len:Int) then K n.toNat else none
def Cz (E:Env) (σ:St) (T:Nat) (x ix:Slot) (d:Option Tmp) (K:St->Option R):Option R:=
 p_ E T λT=>wc ix λn=>
 match x with
 | .val (.aa e) v=>if T=.aa e then (if 0<=n then (v[n.toNat]?).bind λy=>K (σ.bz d (.cp e y)) else none) else none
 | .cp (.arr m e) v=>if T=.arr m e then (if 0<=n then (v[n.toNat]?).bind λy=>K (σ.bz d (.cp e y)) else none) else none
 | .ref r p snap=>
  if σ.ok r snap then
   pK σ r p λt m H v=>
    if H.any (·.isEmpty) then none else
    if t=T then
     match t,v with
     | .aa e,v=>
      if m.own then Sm n v.length λi=>K (σ.bz d (.ptr r (p++[.idx i]) (wo σ r (p++[.idx i]))))
      else if 0<=n then (v[n.toNat]?).bind λy=>K (σ.bz d (.cp e y)) else none
     | _,_=>none
    else none
  else none
 | .sub r p snap lo hi=>
  if σ.ok r snap then
   pK σ r p λt _ H _=>if H.any (·.isEmpty) then none else if t=T then Sm n (hi - lo) λi=>K (σ.bz d (.ptr r (p++[.idx (lo+i)]) (wo σ r (p++[.idx (lo+i)])))) else none
  else none
 | .ptr r p snap=>
  if σ.ok r snap then
   pK σ r p λt _ _ v=>
    if t=T then
     match t,v with
     | .arr _ _,v=>Sm n v.length λi=>K (σ.bz d (.ptr r (p++[.qO i]) snap))
     | _,_=>none
    else none
  else none
 | _=>none
def Lp (E:Env) (σ:St) (T:Nat) (x ix:Slot) (d:Option Tmp) (K:St->Option R):Option R:=
 p_ E T λT=>wc ix λn=>
 match x with
 | .val .str s=>if T=.str then (if 0<=n then (s[n.toNat]?).bind λc=>K (σ.bz d (.val (.int .u8) c)) else none) else none
 | .val (.arr m e) v=>if T=.arr m e then (if 0<=n then (v[n.toNat]?).bind λy=>K (σ.bz d (.val e y)) else none) else none
 | _=>none
def uu (len:Nat) (lo hi:Option Slot) (K:Nat->Nat->Option R):Option R:=
 match lo,hi with
 | none,none=>K 0 len
 | some l,none=>wc l λl=>if 0<=l/\l<=(len:Int) then K l.toNat len else none
 | none,some h=>wc h λh=>if 0<=h/\h<=(len:Int) then K 0 h.toNat else none
 | some l,some h=>wc l λl=>wc h λh=>if 0<=l/\l<=h/\h<=(len:Int) then K l.toNat h.toNat else none
def Lq (E:Env) (σ:St) (T:Nat) (x:Slot) (lo hi:Option Slot) (d:Option Tmp) (K:St->Option R):Option R:=
 p_ E T λT=>
 match x with
 | .val .str s=>if T=.str then uu s.length lo hi λl h=>K (σ.bz d (.val .str ((s.take h).drop l))) else none
 | .val (.aa e) v=>if T=.aa e then uu v.length lo hi λl h=>K (σ.bz d (.val (.aa e) ((v.take h).drop l))) else none
 | .ref r p snap=>
  if σ.ok r snap then
   pK σ r p λt m H v=>
    if H.any (·.isEmpty) then none else
    if t=T then
     match t,v with
     | .aa e,v=>
      if m.own then uu v.length lo hi λl h=>K (σ.bz d (.sub r p snap l h))
      else uu v.length lo hi λl h=>K (σ.bz d (.val (.aa e) ((v.take h).drop l)))
     | _,_=>none
    else none
  else none
 | .sub r p snap l0 h0=>
  if σ.ok r snap then
   pK σ r p λt _ H _=>if H.any (·.isEmpty) then none else if t=T then uu (h0 - l0) lo hi λl h=>K (σ.bz d (.sub r p snap (l0+l) (l0+h))) else none
  else none
 | _=>none
def UL (E:Env) (σ:St) (t:Nat) (x:Slot) (K:Nat->Option R):Option R:=
 p_ E t λT=>
 match T with
 | .str=>match x with
  | .val .str s=>K s.length
  | _=>none
 | .aa _=>match x with
  | .val (.aa _) v=>K v.length
  | .wC=>K 0
  | .ref r p snap=>
   if σ.ok r snap then
    pK σ r p λt _ H v=>if H.any (·.isEmpty) then none else match t,v with
     | .aa _,v=>K v.length
     | _,_=>none
   else none
  | .sub r _ snap lo hi=>if σ.ok r snap then K (hi - lo) else none
  | _=>none
 | _=>none
def A6 (σ:St) (x:Slot) (e:Ty) (mv:Bool) (K:Md->List e.den->St->Option R):Option R:=
 match x with
 | .val .str s=>jJ (.aa (.int .u8)) (.aa e) s λs=>K .leaf s σ
 | x=>mV σ x mv (.aa e) λm v σ=>K m.e v σ
def IY (E:Env) (σ:St) (T:Nat) (b:Slot) (x:Operand) (mv tf:Bool) (d:Option Tmp) (K:St->Option R):Option R:=
 p_ E T λT=>
 match T with
 | .aa e=>
  match tf&&(e.flat&&e.rW) with
  | true=>A6 σ (d7 σ x) e false λ_ y _=>mV σ b true (.aa e) λm v σ=>
   if m.own then
    if v.length+y.length<=cg then K (σ.bz d (.own (.aa e) (.aa true (ak e)) [] (v++y))) else none
   else none
  | false=>
  mV σ b true (.aa e) λm v σ=>
   if m.own then
    A6 σ (d7 σ x) e mv λme y σ=>
     if v.length+y.length<=cg then
      K (σ.bz d (.own (.aa e) (.aa true (if me=m.e then me else ak e)) [] (v++y)))
     else none
   else none
 | _=>none
def oo {α:Type} (v:List α) (lo n:Nat) (y:List α):List α:=v.take lo++y.take n++v.drop (lo+n)
def Qf (E:Env) (σ:St) (T:Nat) (b:Operand) (x:Slot) (d:Option Tmp) (K:St->Option R):Option R:=
 p_ E T λT=>
 match T with
 | .aa e=>
  if e.flat then
   A6 σ x e true λ_ y σ=>
    match d7 σ b with
    | .sub r p snap lo hi=>
     if σ.ok r snap then
      pK σ r p λt m H v=>
       if m.own&&H.isEmpty then jJ t (.aa e) v λv=>
        vF σ r p (.aa e) m (oo v lo (min y.length (hi - lo)) y) λσ'=>
         K (({ σ' with vr:=(σ.mN r wD).vr,az:=σ.az }).bz d (.val (.int .i64) ((min y.length (hi - lo):Nat):Int)))
       else none
     else none
    | .ref r p snap=>
     if σ.ok r snap then
      pK σ r p λt m H v=>
       if m.own&&H.isEmpty then jJ t (.aa e) v λv=>
        vF σ r p (.aa e) m (oo v 0 (min y.length v.length) y) λσ'=>
         K (({ σ' with vr:=(σ.mN r wD).vr,az:=σ.az }).bz d (.val (.int .i64) ((min y.length v.length:Nat):Int)))
       else none
     else none
    | _=>none
  else none
 | _=>none
def D2:Nat->(t:Ty)->Md->t.den->(t':Ty)->Md->t'.den->(Md->t.den->Option R)->Option R
 | 0,.pair a _,m,v,t',m',x,K=>jJ t' a x λx=>K (.pair m' m.r) (x,v.2)
 | n+1,.pair _ b,m,v,t',m',x,K=>D2 n b m.r v.2 t' m' x λm'' y=>K (.pair m.l m'') (v.1,y)
 | _,_,_,_,_,_,_,_=>none
def D3 (E:Env) (σ:St) (t:Ty) (fz:Nat->Bool):List (Nat×Operand)->Nat->Md->t.den->(Md->t.den->St->Option R)->Option R
 | [],_,m,v,K=>K m v σ
 | (j,x)::ps,n,m,v,K=>
  match uE j t with
  | some t'=>mV σ (d7 σ x) (!fz n) t' λm' y σ'=>D2 j t m v t' m' y λm v=>D3 E σ' t fz ps (n+1) m v K
  | none=>none
def GG (σ:St) (e:Ty) (fz:Nat->Bool):List (Nat×Operand)->Nat->Md->List e.den->(Md->List e.den->St->Option R)->Option R
 | [],_,m,v,K=>K m v σ
 | (j,x)::ps,n,m,v,K=>
  if Nat.beq j n then
   mV σ (d7 σ x) (!fz n) e λm' y σ'=>GG σ' e fz ps (n+1) (if m'=m then m else ak e) (v++[y]) K
  else none
def Lr (σ:St) (e:Ty) (fz:Nat->Bool):List (Nat×Operand)->Nat->List e.den->(List e.den->St->Option R)->Option R
 | [],_,v,K=>K v σ
 | (j,x)::ps,n,v,K=>
  mV σ (d7 σ x) (!fz n) e λ_ y σ'=>if j < v.length then Lr σ' e fz ps (n+1) (v.set j y) K else none
def Ls (op:BinOp) (k:IntKind) (a b:Int) (K:(t:Ty)->t.den->Option R):Option R:=
 match op with
 | .add=>K (.int k) (DT k (a+b))
 | .sub=>K (.int k) (DT k (a - b))
 | .mul=>K (.int k) (DT k (a*b))
 | .quo=>if b=0 then none else K (.int k) (DT k (a.tdiv b))
 | .rem=>if b=0 then none else K (.int k) (Wh k (a.tmod b))
 | .and=>K (.int k) (DT k ((BitVec.ofInt k.bits a &&& BitVec.ofInt k.bits b).toNat:Int))
 | .or=>K (.int k) (DT k ((BitVec.ofInt k.bits a ||| BitVec.ofInt k.bits b).toNat:Int))
 | .xor=>K (.int k) (DT k ((BitVec.ofInt k.bits a ^^^ BitVec.ofInt k.bits b).toNat:Int))
 | .shl=>if b < 0 then none else K (.int k) (DT k (a*2 ^ (min b.toNat k.bits)))
 | .shr=>if b < 0 then none else K (.int k) (Wh k (a.fdiv (2 ^ (min b.toNat k.bits))))
 | .eql=>K .bool (decide (a=b))
 | .neq=>K .bool (!decide (a=b))
 | .lss=>K .bool (decide (a < b))
 | .leq=>K .bool (decide (a<=b))
 | .gtr=>K .bool (decide (b < a))
 | .geq=>K .bool (decide (b<=a))
 | _=>none
def UM (op:BinOp) (a b:List UInt8) (K:(t:Ty)->t.den->Option R):Option R:=
 match op with
 | .add=>if a.length+b.length<=cg then K .str (a++b) else none
 | .eql=>K .bool (decide (a=b))
 | .neq=>K .bool (!decide (a=b))
 | _=>none
def both (a b:Option R):Option R:=open Classical in if a=b then a else none
def zP {α:Type} (v:List α) (a b:Option R):Option R:=match v with
 | []=>both a b
 | _::_=>b
def Yw {α:Type} (op:BinOp) (v:List α) (K:(t:Ty)->t.den->Option R):Option R:=match op with
 | .eql=>zP v (K .bool true) (K .bool false)
 | .neq=>zP v (K .bool false) (K .bool true)
 | _=>none
def Lt (E:Env) (tid:Nat) (op:BinOp) (x y:Slot) (K:(t:Ty)->t.den->Option R):Option R:=
 match x,y with
 | .val (.int k) a,.val (.int k') b=>
  match op with
  | .shl | .shr=>Ls op k (pU k a) (pU k' b) K
  | _=>if k=k' then Ls op k (pU k a) (pU k' b) K else none
 | .val .str a,.val .str b=>UM op a b K
 | .val t a,.val t' b=>
  match op with
  | .eql=>if t.oh then p_ E tid λT=>if T=t then jJ t' t b λb=>K .bool (t.eq a b) else none else none
  | .neq=>if t.oh then p_ E tid λT=>if T=t then jJ t' t b λb=>K .bool (!t.eq a b) else none else none
  | _=>none
 | .val (.aa e) v,.wC=>p_ E tid λT=>if T=.aa e then Yw op v K else none
 | _,_=>none
def CA (E:Env) (σ:St) (S T:Nat) (x:Slot) (d:Option Tmp) (K:St->Option R):Option R:=
 p_ E S λS=>p_ E T λT=>
 match T with
 | .int k=>match x with
  | .val (.int k') n=>if S=.int k' then K (σ.bz d (.val (.int k) (DT k (pU k' n)))) else none
  | _=>none
 | .str=>match S with
  | .str=>match x with
   | .val .str s=>K (σ.bz d (.val .str s))
   | _=>none
  | .aa (.int .u8)=>s_ σ x (.aa (.int .u8)) λv=>K (σ.bz d (.val .str v))
  | _=>none
 | .aa (.int .u8)=>match x with
  | .val .str s=>if S=.str then (if s.length<=cg then K (σ.bz d (.own (.aa (.int .u8)) (ai (.aa (.int .u8))) [] s)) else none) else none
  | _=>none
 | _=>none
def Lu (σ:St) (s:Slot) (t:Ty) (K:t.den->Option R):Option R:=
 match s with
 | .val t' v=>jJ t' t v K
 | .cp t' v=>jJ (.ptr t') t v K
 | .wC=>match t with
  | .aa _=>K []
  | _=>none
 | .ref r p snap=>
  if σ.ok r snap then pK σ r p λt' m H v=>if H.isEmpty&&(t'.flat||decide (m=ak t')) then jJ t' t v K else none
  else none
 | .sub r p snap lo hi=>
  if σ.ok r snap then
   pK σ r p λt' m H v=>if H.isEmpty&&decide (m=ak t') then jJ t' t v λv=>match t,v with
    | .aa _,v=>K ((v.take hi).drop lo)
    | _,_=>none
   else none
  else none
 | _=>none
def zQ (σ:St) (ow:Bool) (pm:PM) (t:Ty) (s:Slot) (K:t.den->Option (Nat×Path)->Option R):Option R:=
 match pm with
 | .ro=>match ow with
  | true=>s_ σ s t λv=>K v none
  | false=>Lu σ s t λv=>K v none
 | .fix f=>match s with
  | .val .fn v=>if Nat.beq v.1 f then jJ .fn t v λv=>K v none else none
  | _=>none
 | .jV m _=>match s with
  | .ptr r p snap=>
   if σ.ok r snap then pK σ r p λt' m' H v=>if H.isEmpty&&decide (m'=m) then jJ t' t v λv=>K v (some (r,p)) else none
   else none
  | _=>none
 | .sg m=>match s with
  | .ptr r p snap=>
   if σ.ok r snap then pK σ r p λt' m' H v=>if H.isEmpty&&decide (m'=m) then jJ t' t v λv=>K v (some (r,p)) else none
   else none
  | _=>none
 | .k8 m=>match s with
  | .ref r p snap=>
   if σ.ok r snap then pK σ r p λt' m' H v=>if H.isEmpty&&decide (m'=m) then jJ t' t v λv=>K v (some (r,p)) else none
   else none
  | _=>none
 | .p6 m=>match s with
  | .ref r p snap=>
   if σ.ok r snap then pK σ r p λt' m' _ v=>if m'=m then jJ t' t v λv=>K v (some (r,p)) else none
   else none
  | _=>none
def m9:Slot->List Nat
 | .ref r _ _ | .sub r _ _ _ _ | .ptr r _ _=>[r]
 | _=>[]
def K1 (σ:St) (ow:Bool):(ps:List (PM×Ty))->List Slot->((bq (ps.map (·.2))).den->List (Nat×Path)->Option R)->Option R
 | [],[],K=>K () []
 | (pm,t)::ps,s::ss,K=>zQ σ ow pm t s λv w=>K1 σ ow ps ss λvs ws=>K (v,vs) (match w with | some x=>x::ws | none=>ws)
 | _,_,_=>none
def sh (σ:St):List (PM×Ty)->List Operand->(St->Option R)->Option R
 | (.jV m _,_)::ps,x::xs,K=>match d7 σ x with
  | .ptr r p snap=>if σ.ok r snap then pK σ r p λ_ m' _ _=>if m'=m then sh σ ps xs K else wm σ r p m λσ=>sh σ ps xs K else none
  | _=>none
 | (.sg m,_)::ps,x::xs,K=>match d7 σ x with
  | .ptr r p snap=>if σ.ok r snap then pK σ r p λ_ m' _ _=>if m'=m then sh σ ps xs K else wm σ r p m λσ=>sh σ ps xs K else none
  | _=>none
 | (.k8 m,_)::ps,x::xs,K=>match d7 σ x with
  | .ref r p snap=>if σ.ok r snap then pK σ r p λ_ m' _ _=>if m'=m then sh σ ps xs K else wm σ r p m λσ=>sh σ ps xs K else none
  | _=>none
 | (.p6 m,_)::ps,x::xs,K=>match d7 σ x with
  | .ref r p snap=>if σ.ok r snap then pK σ r p λ_ m' _ _=>if m'=m then sh σ ps xs K else wm σ r p m λσ=>sh σ ps xs K else none
  | _=>none
 | _::ps,_::xs,K=>sh σ ps xs K
 | _,_,K=>K σ
def Yx (x:Operand) (r:Nat) (t:Ty) (v:t.den) (σ:St):St:=match x with
 | .tmp i=>match Nat.beq i r||!Nat.blt i σ.n with
  | true=>σ
  | false=>(σ.put i .dead).put i (.cp t v)
 | _=>σ
def zR (σ:St):List (PM×Ty)->List Operand->(St->Option R)->Option R
 | (.ro,t)::ps,x::xs,K=>
  if t.flat then zR σ ps xs K else
  match d7 σ x with
  | .ref r p snap=>if σ.ok r snap then xL σ r p λσ=>zR σ ps xs K else none
  | .sub r p snap _ _=>if σ.ok r snap then xL σ r p λσ=>zR σ ps xs K else none
  | .ptr r p snap=>if σ.ok r snap then
    match p,σ.get r with
    | [],.box t m H v=>if H.isEmpty&&fits m (ak t) then zR (Yx x r t v ((σ.put r .dead).put r (.cp t v))) ps xs K else none
    | _,_=>none
   else none
  | _=>zR σ ps xs K
 | _::ps,_::xs,K=>zR σ ps xs K
 | _,_,K=>K σ
def apart:List Nat->List (Nat×Path)->Bool
 | _,[]=>true
 | all,(r,_)::ws=>Nat.ble (all.count r) 1&&apart all ws
def si (σ:St):(ps:List (PM×Ty))->List (Nat×Path)->(bq (ll ps)).den->(St->Option R)->Option R
 | [],[],_,K=>K σ
 | (.ro,_)::ps,ws,v,K=>si σ ps ws v K
 | (.fix _,_)::ps,ws,v,K=>si σ ps ws v K
 | (.jV _ m,t)::ps,(r,p)::ws,v,K=>vF σ r p t m v.1 λσ=>si σ ps ws v.2 K
 | (.sg m,t)::ps,(r,p)::ws,v,K=>match vF σ r p t m t.zero (λ_=>some ()) with
  | some _=>si (σ.put r .dead) ps ws v K
  | none=>none
 | (.p6 _,_)::ps,(r,p)::ws,v,K=>zg σ r p λσ=>si σ ps ws v K
 | (.k8 m,t)::ps,(r,p)::ws,v,K=>vF σ r p t m v.1 λσ'=>si { σ' with vr:=(σ.mN r (ug (d9 p+1))).vr,az:=σ.az } ps ws v.2 K
 | _,_,_,_=>none
def lm:(rs:List (Ty×Md))->{ts:List Ty}->(bq (rs.map (·.1)++ts)).den->List Hs×(bq ts).den
 | [],_,v=>([],v)
 | (t,m)::rs,_,v=>(⟨t,m,v.1⟩::(lm rs v.2).1,(lm rs v.2).2)
def vl:List Hs->Slot
 | []=>.dead
 | [x]=>laid x.t x.m x.v
 | xs=>.rT xs
def zS:List (Ty×Md)->Bool
 | []=>true
 | (t,m)::rs=>(t.flat||decide (m=ai t))&&t.rW&&zS rs
def ov:List (PM×Ty)->Bool
 | []=>true
 | (.jV m m',t)::ps=>(t.flat||decide (m=ai t))&&t.rW&&((t.flat||decide (m'=ai t))&&ov ps)
 | (.k8 m,t)::ps=>(t.flat||decide (m=ai t))&&t.rW&&ov ps
 | (.sg m,t)::ps=>(t.flat||decide (m=ai t))&&t.rW&&ov ps
 | (.p6 m,t)::ps=>(t.flat||decide (m=ai t))&&t.rW&&ov ps
 | _::ps=>ov ps
def Qg:List (PM×Ty)->Bool
 | []=>false
 | (.p6 _,_)::_=>true
 | _::ps=>Qg ps
def UN (σ:St) (hv:Bool) (ho:List Path->Bool) (ws:List (Nat×Path)) (K:Option R):Option R:=
 match hv,ws with
 | true,(r,p)::_=>pK σ r p λ_ _ H _=>match ho H with
  | true=>K
  | false=>none
 | _,_=>K
def Hw (g:uL) (ow:Bool) (σ:St) (xs:List Operand) (ex:List Slot) (d:Option Tmp) (K:St->Option R):Option R:=
 sh σ g.ps xs λσ=>
  K1 σ ow g.ps (xs.map (d7 σ)++ex) λv ws=>
   if Nat.ble ws.length 1&&apart ((xs.map (d7 σ)++ex).flatMap m9) ws then
    UN σ (Qg g.ps) (g.FR v) ws ((g.F v).bind λout=>
     si σ g.ps ws (lm g.rs out).2 λσ=>K (σ.bz d (vl (lm g.rs out).1)))
   else none
def CB (g:uL) (σ:St) (xs:List Operand) (ex:List Slot) (d:Option Tmp) (K:St->Option R):Option R:=
 match zS g.rs&&ov g.ps with
 | true=>Hw g true σ xs ex d K
 | false=>zR σ g.ps xs λσ=>Hw g false σ xs ex d K
def IZ (E:Env) (σ:St) (T:Nat) (x:Operand) (mv:Bool) (d:Option Tmp) (K:St->Option R):Option R:=
 match d7 σ x with
 | .dead=>K (σ.bz d .dead)
 | .wC=>p_ E T λT=>match T with
  | .aa e=>K (σ.bz d (.own (.aa e) (ai (.aa e)) [] []))
  | _=>none
 | .rT []=>K (σ.bz d (.rT []))
 | .rT _=>none
 | .ref r p snap=>
  if σ.ok r snap then
   match GF σ r p with
   | some t=>mV σ (.ref r p snap) mv t λm v σ=>K (σ.bz d (laid t m v))
   | none=>none
  else none
 | .sub r p snap lo hi=>
  if σ.ok r snap then
   match GF σ r p with
   | some t=>mV σ (.sub r p snap lo hi) mv t λm v σ=>K (σ.bz d (laid t m v))
   | none=>none
  else none
 | .ptr r p snap=>
  match p,σ.get r with
  | [],.box t m H v=>if σ.ok r snap&&mv&&!Cw σ.az r then (match d with | some i=>K ((σ.put r .dead).put i (.box t m H v)) | none=>none) else K (σ.bz d (.ptr r [] snap))
  | p,_=>K (σ.bz d (.ptr r p snap))
 | s=>K (σ.bz d s)
def Qh (σ:St) (x:Operand) (d:Option Tmp) (K:St->Option R):Option R:=
 match d7 σ x,x with
 | .rT xs,.tmp i=>K ((σ.put i .dead).bz d (.rT xs))
 | .rT _,_=>none
 | s,_=>K (σ.bz d s)
def Lv (σ:St) (x:Operand) (d:Option Tmp) (σ':St):St:=
 match x,d with
 | .tmp i,some d=>match σ.get i with
  | .own _ _ _ _=>match Ht σ.az i with
   | some n=>{ σ' with az:=(d,n,true)::σ'.az }
   | none=>σ'
  | _=>σ'
 | _,_=>σ'
def Lw:Slot->Option (Nat×Int)
 | .val .fn f=>some f
 | _=>none
def jQ {α:Type} (k:Ty) (m:List (k.den×α)) (x:k.den):Option α:=(m.find? λe=>k.eq x e.1).map (·.2)
def oV {α:Type} (k:Ty) (m:List (k.den×α)) (x:k.den) (y:α):List (k.den×α):=match m.findIdx? (λe=>k.eq x e.1) with
 | some i=>m.set i (x,y)
 | none=>m++[(x,y)]
def A7 {α:Type} (o:Option α) (z:α):α:=match o with
 | some x=>x
 | none=>z
def I0 (E:Env) (σ:St) (T:Nat) (x ix:Slot) (ok:Bool) (d:Option Tmp) (K:St->Option R):Option R:=
 p_ E T λT=>
 match T with
 | .map k v=>
  if v.wl then
   match x with
   | .ref r p snap=>
    if σ.ok r snap then
     pK σ r p λt _ H y=>
      if H.isEmpty then jJ t (.map k v) y λy=>
       match ix with
       | .val t2 i=>jJ t2 k i λi=>
        match ok with
        | true=>K (σ.bz d (.rT [⟨v,ak v,A7 (jQ k y i) v.zero⟩,⟨.bool,.leaf,(jQ k y i).isSome⟩]))
        | false=>K (σ.bz d (.val v (A7 (jQ k y i) v.zero)))
       | _=>none
      else none
    else none
   | _=>none
  else none
 | _=>none
def I1 (E:Env) (σ:St) (T:Nat) (x ix y:Slot) (K:St->Option R):Option R:=
 p_ E T λT=>
 match T with
 | .map k v=>
  match x with
  | .ref r p snap=>
   if σ.ok r snap then
    pK σ r p λt m H z=>
     if m.own&&H.isEmpty then jJ t (.map k v) z λz=>
      match ix,y with
      | .val t2 i,.val t3 w=>jJ t2 k i λi=>jJ t3 v w λw=>
       vF σ r p (.map k v) m (oV k z i w) λσ'=>K { σ' with vr:=(σ.mN r wD).vr,az:=σ.az }
      | _,_=>none
     else none
   else none
  | _=>none
 | _=>none
def Sn:Option Ty->Bool
 | some (.map _ _)=>true
 | _=>false
def I2 (E:Env) (σ:St) (T:Nat) (x:Slot) (K:Nat->Option R):Option R:=
 p_ E T λT=>
 match T with
 | .map k v=>
  match x with
  | .ref r p snap=>
   if σ.ok r snap then
    pK σ r p λt _ H y=>if H.isEmpty then jJ t (.map k v) y λy=>K (List.length y) else none
   else none
  | _=>none
 | _=>none
def rO (E:Env) (ip i:Nat) (o:Oper) (σ:St) (K:St->Option R):Option R:=
 let fz:=UK E.fz ip i
 let d:=o.dst
 match o.op with
 | .move x=>Qh σ x d K
 | .assign x=>IZ E σ o.type x (!fz 0) d K
 | .pick c a b=>Hu (d7 σ c) λc=>match d7 σ (bif c then a else b) with
  | .val .bool x=>K (σ.bz d (.val .bool x))
  | _=>none
 | .alloc t=>p_ E t λt=>if t.wl then K (σ.bz d (.box t (ai t) [] t.zero)) else none
 | .box t x=>p_ E t λt=>mV σ (d7 σ x) (!fz 0) t λm v σ'=>K (Lv σ x d (σ'.bz d (.box t m [] v)))
 | .build t ps=>p_ E t λt=>match t with
  | .arr n e=>if e.wl then Lr σ e fz ps.toList 0 (Ty.arr n e).zero λv σ=>K (σ.bz d (laid (.arr n e) (ai (.arr n e)) v)) else none
  | .pair t1 t2=>if (Ty.pair t1 t2).wl then D3 E σ (.pair t1 t2) fz ps.toList 0 (ai (.pair t1 t2)) (Ty.pair t1 t2).zero λm v σ=>K (σ.bz d (laid (.pair t1 t2) m v)) else none
  | _=>none
 | .buildSlice t n ps=>p_ E t λt=>match t with
  | .aa e=>if Nat.beq n ps.size&&e.wl&&Nat.ble (n*e.sz) 16777216 then GG σ e fz ps.toList 0 (ai e) [] λm v σ=>K (σ.bz d (.own (.aa e) (.aa true m) [] v)) else none
  | _=>none
 | .load t a=>Hv E σ t a (fz 7) (fz 8) d K
 | .store t a x=>match d with
  | none=>Lo E σ t (d7 σ a) (d7 σ x) (!fz 1) K
  | some _=>none
 | .nilCheck x=>match d7 σ x with
  | .ptr r p snap=>if σ.ok r snap then K (σ.bz d (.ptr r p snap)) else none
  | .cp t v=>K (σ.bz d (.cp t v))
  | .val .fn f=>K (σ.bz d (.val .fn f))
  | _=>none
 | .binOp op t x y _=>Lt E t op (d7 σ x) (d7 σ y) λt v=>K (σ.bz d (.val t v))
 | .unOp op _ x=>match op,d7 σ x with
  | .not,.val .bool b=>K (σ.bz d (.val .bool (!b)))
  | .neg,.val (.int k) n=>K (σ.bz d (.val (.int k) (DT k (0 - pU k n))))
  | _,_=>none
 | .convert s t x=>CA E σ s t (d7 σ x) d K
 | .fieldAddr t x j=>Cy E σ t (d7 σ x) j d K
 | .field t x j=>IX E σ t (d7 σ x) j d K
 | .indexAddr t x ix=>Cz E σ t (d7 σ x) (d7 σ ix) d K
 | .index t x ix=>Lp E σ t (d7 σ x) (d7 σ ix) d K
 | .slice t x lo hi none=>Lq E σ t (d7 σ x) (lo.map (d7 σ)) (hi.map (d7 σ)) d K
 | .makeSlice t n c=>p_ E t λt=>match t with
  | .aa e=>wc (d7 σ n) λn=>wc (d7 σ c) λc=>
   if e.wl then (if 0<=n/\n<=c/\c<=(cg:Int) then K (σ.bz d (.own (.aa e) (ai (.aa e)) [] (List.replicate n.toNat e.zero))) else none) else none
  | _=>none
 | .extract x j=>match x with
  | .tmp i=>match σ.get i with
   | .rT xs=>match xs[j]? with
    | some x=>if x.t=.unit then none else K ((σ.put i (.rT (xs.set j ⟨.unit,.leaf,()⟩))).bz d (laid x.t x.m x.v))
    | none=>none
   | _=>none
  | _=>none
 | .makeFunc (.func f) first cs=>
  if first.size=0 then
   match cs.toList with
   | []=>K (σ.bz d (.val .fn (f,0)))
   | [.tmp i]=>match σ.get i with
    | .box (.int .i64) _ _ n=>K (((σ.put i .dead).put i (.cp (.int .i64) n)).bz d (.val .fn (f,n)))
    | _=>none
   | _=>none
  else none
 | .makeMap t none=>p_ E t λt=>match t with
  | .map k v=>if k.flat&&v.flat then K (σ.bz d (.own (.map k v) (ai (.map k v)) [] [])) else none
  | _=>none
 | .lookup t x ix ok=>I0 E σ t (d7 σ x) (d7 σ ix) ok d K
 | .mapUpdate t x ix y=>match d with
  | none=>I1 E σ t (d7 σ x) (d7 σ ix) (d7 σ y) K
  | some _=>none
 | .call c=>match c.callee with
  | .builtin .len=>match c.args.toList,c.argTypes.toList with
   | [x],[t]=>match Sn (E.TI t) with
    | false=>UL E σ t (d7 σ x) λn=>K (σ.bz d (.val (.int .i64) (n:Int)))
    | true=>I2 E σ t (d7 σ x) λn=>K (σ.bz d (.val (.int .i64) (n:Int)))
   | _,_=>none
  | .builtin .append=>match c.args.toList,c.argTypes.toList with
   | [b,x],t::_=>IY E σ t (d7 σ b) x (!fz 1) (fz 2) d K
   | _,_=>none
  | .builtin .copy=>match c.args.toList,c.argTypes.toList with
   | [b,x],t::_=>Qf E σ t b (d7 σ x) d K
   | _,_=>none
  | .value (.func f)=>match E.G f with
   | some g=>match g.cap with
    | false=>CB g σ c.args.toList [] d K
    | true=>none
   | none=>none
  | .value (.tmp i)=>match Lw (σ.get i) with
   | some (f,n)=>match E.G f with
    | some g=>match g.cap with
     | true=>CB g σ c.args.toList [.cp (.int .i64) n] d K
     | false=>CB g σ c.args.toList [] d K
    | none=>none
   | none=>none
  | _=>none
 | _=>none
def ox (l:List (Nat×List Nat)) (i:Nat):List Nat:=match nO l i with | some x=>x | none=>[]
def D4 (ops:List Oper) (σ:St) (g:Option (Nat×Bool)) (K:Bool->St->Option R):Option R:=
 match g with
 | none=>K true σ
 | some (j,want)=>match (ops[j]?).bind (·.dst) with
  | none=>none
  | some t=>match σ.get t with
   | .val .bool b=>match b with
    | true=>K (want == true) (σ.lS t (.val .bool true))
    | false=>K (want == false) (σ.lS t (.val .bool false))
   | .rT []=>K false σ
   | _=>none
def I3 (E:Env) (ip:Nat) (ops:List Oper):List Oper->Nat->St->(St->Option R)->Option R
 | [],_,σ,K=>K σ
 | o::rest,i,σ,K=>D4 ops σ o.guard λb σ=>
  match b with
  | true=>rO E ip i o σ λσ=>I3 E ip ops rest (i+1) σ K
  | false=>I3 E ip ops rest (i+1) (σ.bz o.dst (.rT [])) K
def Lx (σ:St) (o:Oper):Bool:=match o.op with
 | .load _ x=>match d7 σ x with
  | .cp _ _=>true
  | _=>false
 | .convert _ _ x=>match d7 σ x with
  | .val (.int _) _=>true
  | .val .str _=>true
  | .val (.aa (.int .u8)) _=>true
  | _=>false
 | _=>false
def Ly (E:Env) (ip i:Nat):Bool:=(ox E.ar ip).any (Nat.beq i)
def Ft:Op->Bool
 | .store .. | .mapUpdate .. | .call ..=>true
 | _=>false
def wF:Path->Path->Bool
 | [],[]=>true
 | .fst::p,.fst::q=>wF p q
 | .snd::p,.snd::q=>wF p q
 | .idx i::p,.idx j::q=>Nat.beq i j&&wF p q
 | .qO i::p,.qO j::q=>Nat.beq i j&&wF p q
 | _,_=>false
def Wi (σ:St) (r:Nat) (p:Path) (v:Int):Bool:=
 match pK σ r p λt _ _ x=>jJ t (.int .i64) x λy=>some (decide ((y:Int)=v)) with
 | some b=>b
 | none=>false
def UO (σ:St) (o:Oper):Bool:=match o.op,o.dst with
 | .load _ (.tmp i),some d=>match σ.get i with
  | .ptr r p s=>match σ.get d with
   | .ref r' p' s'=>Nat.beq r r'&&(σ.ok r s&&σ.ok r s')&&wF p p'
   | .val (.int .i64) v=>σ.ok r s&&Wi σ r p v
   | _=>false
  | .box ..=>match σ.get d with
   | .ref r' p' s'=>Nat.beq i r'&&σ.ok i s'&&wF [] p'
   | _=>false
  | _=>false
 | _,_=>false
def Hx (l:List (Nat×List (Nat×Nat))) (i:Nat):List (Nat×Nat):=match nO l i with | some x=>x | none=>[]
def Qi (E:Env) (ip i:Nat):Bool:=(Hx E.er ip).any λe=>Nat.beq i e.1
def Qj (E:Env) (ip:Nat) (ops:List Oper) (is:List Nat) (σ:St):Bool:=(Hx E.er ip).all λe=>is.any (Nat.beq e.1)||!(is.any (Nat.beq e.2)||Nat.ble ops.length e.2)||(match ops[e.1]? with
 | some o=>UO σ o
 | none=>false)
def Hy (E:Env) (ip:Nat) (ops:List Oper) (i:Nat) (o:Oper) (is:List Nat) (σ:St):Bool:=!(Ft o.op||Qi E ip i)||Qj E ip ops is σ
def Pb (σ:St):List Nat->(St->Option R)->Option R
 | [],K=>K σ
 | i::is,K=>match σ.get i with
  | .box t m H v=>if H.isEmpty&&fits m (ak t) then Pb ((σ.put i .dead).put i (.cp t v)) is K else none
  | _=>none
def I4 (σ:St) (d:Nat):Bool:=Nat.blt d σ.n&&(match σ.get d with
 | .dead=>true
 | _=>false)&&!Cw σ.az d&&!σ.gh.any λe=>Nat.beq e.1 d
def Qk (E:Env) (ip:Nat) (ops:List Oper) (is:List Nat) (σ:St):Bool:=(ox E.pd ip).all λj=>!is.any (Nat.beq j)||(match (ops[j]?).bind (·.dst) with
 | some d=>I4 σ d
 | none=>false)
def So (ops:List Oper) (σ:St):List Nat->(St->Option R)->Option R
 | [],K=>K σ
 | j::js,K=>match (ops[j]?).bind (·.dst) with
  | some d=>So ops (σ.put d .dead) js K
  | none=>none
def D5 (E:Env) (ip:Nat) (ops:List Oper):List Nat->St->(St->Option R)->Option R
 | [],σ,K=>K σ
 | i::is,σ,K=>
  match Qk E ip ops (i::is) σ with
  | false=>none
  | true=>
  match ops[i]? with
  | none=>none
  | some o=>D4 ops σ o.guard λb σ=>
   match b with
   | true=>match Ly E ip i&&!Lx σ o with
    | true=>none
    | false=>rO E ip i o σ λσ=>match Hy E ip ops i o is σ with
     | true=>D5 E ip ops is σ K
     | false=>none
   | false=>D5 E ip ops is (σ.bz o.dst (.rT [])) K
def sM:Code->Nat
 | .region id _ _=>id
 | .seq a _=>sM a
 | .block _ b=>sM b
 | .loop b=>sM b
 | .scope b=>sM b
 | _=>0
def D6 (live:List Nat) (fr:List (Nat×Md)) (r:Nat):Bool:=live.any (Nat.beq r)&&(match nO fr r with
 | none=>true
 | some _=>false)
def k9 (live:List Nat) (fr:List (Nat×Md)) (σ:St) (i:Nat):Slot:=
 match σ.get i with
 | .ptr r p snap=>if σ.ok r snap&&D6 live fr r then .ptr r p (snap.map λ_=>0) else .dead
 | .ref r p snap=>if σ.ok r snap&&D6 live fr r then .ref r p (snap.map λ_=>0) else .dead
 | .sub r p snap lo hi=>if σ.ok r snap&&D6 live fr r then .sub r p (snap.map λ_=>0) lo hi else .dead
 | s=>s
def yN (live:List Nat) (σ:St):St:={ n:=σ.n,sl:=live.map λi=>(i,k9 live [] σ i),vr:=[],az:=σ.az }
def A8 (fr:List (Nat×Md)) (i:Nat) (s:Slot):Slot:=
 match nO fr i with
 | none=>s
 | some m1=>
  match s with
  | .own t m H v=>if H.isEmpty&&fits m m1 then (if m1=ak t then .val t v else .own t m1 [] v) else .dead
  | .box t m H v=>if H.isEmpty&&fits m m1 then .box t m1 [] v else .dead
  | s=>s
def fw (live:List Nat) (fr:List (Nat×Md)) (σ:St):St:={ n:=σ.n,sl:=live.map λi=>(i,A8 fr i (k9 live fr σ i)),vr:=[],az:=σ.az }
def Ql (l:List (Nat×List (Nat×Md))) (i:Nat):List (Nat×Md):=match nO l i with | some x=>x | none=>[]
inductive Ex where
 | normal
 | exit (id:Nat)
def iV (rec:St->Option R) (kp:St->St) (K:Ex->St->Option R):Ex->St->Option R
 | .normal,σ=>rec (kp σ)
 | .exit j,σ=>K (.exit j) σ
def av (B:St->(Ex->St->Option R)->Option R) (K:Ex->St->Option R):Ex->St->Option R
 | .normal,σ=>B σ K
 | .exit j,σ=>K (.exit j) σ
def ah (id:Nat) (K:Ex->St->Option R):Ex->St->Option R
 | .normal,σ=>K .normal σ
 | .exit j,σ=>if Nat.beq j id then K .normal σ else K (.exit j) σ
def Fu (F:St->(Ex->St->Option R)->Option R) (kp:St->St) (K:Ex->St->Option R):Nat->St->Option R
 | 0,_=>none
 | k+1,σ=>F σ (iV (Fu F kp K k) kp K)
def uF (E:Env) (k:Nat) (fin:St->Option R):Code->St->(Ex->St->Option R)->Option R
 | .skip,σ,K=>K .normal σ
 | .region id ops d,σ,K=>match d with
  | false=>I3 E id ops.toList ops.toList 0 σ λσ=>Pb σ (ox E.bx id) λσ=>K .normal σ
  | true=>Pb σ (ox E.bx id) λσ=>So ops.toList σ (ox E.pd id) λσ=>D5 E id ops.toList (ox E.od id) σ λσ=>K .normal σ
 | .seq a b,σ,K=>uF E k fin a σ (av (uF E k fin b) K)
 | .cond c a b,σ,K=>Hu (d7 σ c) λc=>match c with
  | true=>uF E k fin a σ K
  | false=>uF E k fin b σ K
 | .block id b,σ,K=>uF E k fin b σ (ah id K)
 | .loop b,σ,K=>Fu (uF E k fin b) (fw (ox E.lv (sM b)) (Ql E.lf (sM b))) K k (fw (ox E.lv (sM b)) (Ql E.lf (sM b)) σ)
 | .scope b,σ,K=>uF E k fin b σ K
 | .exit id,σ,K=>K (.exit id) (yN (ox E.lx id) σ)
 | .ret,σ,_=>fin σ
 | _,_,_=>none
end
def sub:List Nat->Code->Code
 | [],c=>c
 | i::p,.seq a b=>match i with
  | 0=>sub p a
  | _=>sub p b
 | i::p,.cond _ a b=>match i with
  | 0=>sub p a
  | _=>sub p b
 | _::p,.block _ b=>sub p b
 | _::p,.loop b=>sub p b
 | _::p,.scope b=>sub p b
 | _,c=>c
def al {V R:Type} (B:(V->Option R)->V->Option R):Nat->V->Option R
 | 0,_=>none
 | k+1,v=>B (al B k) v
theorem ap {V R:Type} (F:St->(Ex->St->Option R)->Option R) (kp:St->St) (K:Ex->St->Option R) (σ:V->St) (B:(V->Option R)->V->Option R)
  (h:∀ (rec:St->Option R) (v:V),F (σ v) (iV rec kp K)=B (λv'=>rec (σ v')) v):∀ (n:Nat) (v:V),Fu F kp K n (σ v)=al B n v:=by
 intro n
 induction n with
 | zero=>intro v;rfl
 | succ n ih=>
  intro v;show F (σ v) (iV (Fu F kp K n) kp K)=B (al B n) v;simp_all
end
end OT
namespace OT
open Go
noncomputable section
def i_:(ps:List (PM×Ty))->(bq (ps.map (·.2))).den->List Slot
 | [],_=>[]
 | (.ro,.ptr e)::ps,v=>.cp e v.1::i_ ps v.2
 | (.fix f,.fn)::ps,v=>.val .fn (f,v.1.2)::i_ ps v.2
 | (.fix _,_)::ps,v=>.dead::i_ ps v.2
 | (.ro,t)::ps,v=>.val t v.1::i_ ps v.2
 | (.jV m _,t)::ps,v=>.box t m [] v.1::i_ ps v.2
 | (.k8 m,t)::ps,v=>.own t m [] v.1::i_ ps v.2
 | (.p6 m,t)::ps,v=>.own t m [] v.1::i_ ps v.2
 | (.sg m,t)::ps,v=>.box t m [] v.1::i_ ps v.2
def zT:Nat->List Slot->List (Nat×Slot)
 | _,[]=>[]
 | i,s::ss=>(i,s)::zT (i+1) ss
def uM:Nat->List (PM×Ty)->List (Nat×Nat×Bool)
 | _,[]=>[]
 | i,(.jV _ _,_)::ps=>(i,i,false)::uM (i+1) ps
 | i,(.k8 _,_)::ps=>(i,i,true)::uM (i+1) ps
 | i,(.sg _,_)::ps=>(i,i,false)::uM (i+1) ps
 | i,_::ps=>uM (i+1) ps
def B5 (ps:List (PM×Ty)) (v:(bq (ps.map (·.2))).den) (n:Nat):St:={ n:=n,sl:=zT 0 (i_ ps v),vr:=[],az:=uM 0 ps }
section
variable {R:Type}
def wG (σ:St):Nat->(ps:List (PM×Ty))->List Nat->((bq (ll ps)).den->Option R)->Option R
 | _,[],_,K=>K ()
 | j,(.ro,_)::ps,es,K=>wG σ (j+1) ps es K
 | j,(.fix _,_)::ps,es,K=>wG σ (j+1) ps es K
 | j,(.sg _,_)::ps,es,K=>wG σ (j+1) ps es K
 | j,(.p6 _,_)::ps,es,K=>wG σ (j+1) ps es K
 | j,(.jV _ m,t)::ps,i::es,K=>match σ.get i with
  | .box t' m' H v=>if H.isEmpty&&(decide (m'=m)||fits m' m)&&BZ σ.az i j false then jJ t' t v λv=>wG σ (j+1) ps es λvs=>K (v,vs) else none
  | _=>none
 | j,(.k8 m,t)::ps,i::es,K=>match σ.get i with
  | .own t' m' H v | .box t' m' H v=>if H.isEmpty&&(decide (m'=m)||fits m' m)&&BZ σ.az i j true then jJ t' t v λv=>wG σ (j+1) ps es λvs=>K (v,vs) else none
  | _=>none
 | _,_,_,_=>none
def Hz (σ:St):ResultVar->Slot
 | .tmp i=>d7 σ (.tmp i)
 | .cell a _=>match σ.get a with
  | .box _ _ _ _=>.ref a [] (σ.kZ a)
  | _=>.dead
def Qm (σ:St) (ts:List Ty) (mv:Nat->Bool) (fin:St->((bq ts).den->Option R)->Option R) :
    (rs:List (Ty×Md))->List ResultVar->Nat->((bq (rs.map (·.1)++ts)).den->Option R)->Option R
 | [],[],_,K=>fin σ K
 | (t,m)::rs,x::xs,j,K=>mV σ (Hz σ x) (mv j) t λm' v σ'=>
  if m'=m\/fits m' m=true then Qm σ' ts mv fin rs xs (j+1) λvs=>K (v,vs) else none
 | _,_,_,_=>none
end
def LA (ps:List (PM×Ty)) (rs:List (Ty×Md)) (es:List Nat) (B6:List ResultVar) (mv:Nat->Bool) (σ:St):Option (bq (rs.map (·.1)++ll ps)).den:=
 Qm σ (ll ps) mv (λσ K=>wG σ 0 ps es K) rs B6 0 some
def Wj (fr:List Nat) (j:Nat):Bool:=!(fr.any (Nat.beq j))
def Yy {R:Type} (fin:St->Option R):Ex->St->Option R
 | .normal,σ=>fin σ
 | .exit _,_=>none
def D7 (fn:Func):Code:=match fn.body with
 | some c=>c
 | none=>.refuse ""
abbrev PQ:Type:=List (PM×Ty)
abbrev RQ:Type:=List (Ty×Md)
abbrev TL:Type:=List (Nat×Ty)
abbrev GL:Type:=List (Nat×uL)
abbrev KT (R:Type):Type:=Ex->St->Option R
abbrev RT (R:Type):Type:=St->Option R
def K3 (E:Env) (k:Nat) (fn:Func) (ps:List (PM×Ty)) (rs:List (Ty×Md)) (es fr:List Nat) (v:(bq (ps.map (·.2))).den):Option (bq (rs.map (·.1)++ll ps)).den:=
 uF E k (LA ps rs es fn.results.toList (Wj fr)) (D7 fn) (B5 ps v fn.ntmps) (Yy (LA ps rs es fn.results.toList (Wj fr)))
def lift {R:Type} (f:Nat->Option R):Option R:=open Classical in if h:∃ out,∃ k,∀ k',k<=k'->f k'=some out then some h.choose else none
theorem ag {R:Type} {f:Nat->Option R} {out:R} {k:Nat} (h:∀ k',k<=k'->f k'=some out):lift f=some out:=by
 have hex:∃ out,∃ k,∀ k',k<=k'->f k'=some out:=⟨out,k,h⟩
 unfold lift;rw[dif_pos hex];obtain ⟨k2,h2⟩:=hex.choose_spec;have e1:=h (max k k2) (Nat.le_max_left _ _);grind
theorem Sp {R:Type} {f:Nat->Option R} {out:R} (h:lift f=some out):∃ k,f k=some out:=by
 unfold lift at h;split at h
 ·rename_i hex;obtain ⟨k,hk⟩:=hex.choose_spec;injection h with h;exact ⟨k,by grind⟩
 ·cases h
abbrev i64:Ty:=.int .i64
abbrev u8:Ty:=.int .u8
def af (n:Int):Int:=IntKind.wrap .i64 n
end
end OT
set_option linter.unusedVariables false
set_option linter.unusedSimpArgs false
namespace OT
open Go
abbrev FP:=Nat->Nat->Nat
abbrev Cells:=Nat->Nat->Prop
def isAgg:Ty->Bool
 | .unit | .pair _ _ | .arr _ _=>true
 | _=>false
def dq (t:Ty) (cs:List Value):Value:=if isAgg t then .agg cs.toArray else cs.headD undef
def CC (uh:List (Value×Value)):Value:=.tuple (uh.map λkv=>Value.tuple #[kv.1,kv.2]).toArray
def entriesOf (es:Array MapEntry):List (Value×Value):=es.toList.map λe=>(e.key,e.val)
def Qn (u:Value):Option Value:=if u.oneCell' then some u else none
def ce (w:World) (b i:Nat):Option Value:=match w.heap[b]? with
 | some (.map es _)=>if i=0 then some (CC (entriesOf es)) else none
 | _=>(w.cell? ⟨b,i,none⟩).bind Qn
theorem zU {w w2:World} {b:Nat} (h:w2.heap[b]?=w.heap[b]?) (i:Nat):ce w2 b i=ce w b i:=by grind [ce,World.cell?]
theorem D8 {u v:Value} (h:Qn u=some v):v=u/\u.oneCell'=true:=by
 grind [Qn]
theorem vm {w:World} {b i:Nat} {u:Value} (h:ce w b i=some u) (hu:u.oneCell'=true):w.cell? ⟨b,i,none⟩=some u:=by
 unfold ce at h;split at h
 ·split at h
  ·injection h with h;subst h;cases hu
  ·cases h
 ·cases hc:w.cell? ⟨b,i,none⟩ with
  | none=>grind
  | some v=>
   rw[hc] at h;have:=D8 h;rw[this.1]
theorem Fx {w:World} {b i:Nat} {u:Value} (h:w.cell? ⟨b,i,none⟩=some u) (hu:u.oneCell'=true):ce w b i=some u:=by
 grind [World.cell?,ce,Qn]
theorem UP:∀ {a b:List (Value×Value)},CC a=CC b->a=b:=by
 have main:∀ (a b:List (Value×Value)),(a.map λkv=>Value.tuple #[kv.1,kv.2])=(b.map λkv=>Value.tuple #[kv.1,kv.2])->a=b:=by
  intro a
  induction a with
  | nil=>simp_all
  | cons x a ih=>
   intro b h;cases b <;> grind
 grind [CC]
theorem Sq {w:World} {r:Nat} {uh:List (Value×Value)} (h:ce w r 0=some (CC uh)):∃ es clock,w.heap[r]?=some (.map es clock)/\entriesOf es=uh:=by
 unfold ce at h;split at h
 ·grind [UP]
 ·cases hc:w.cell? ⟨r,0,none⟩ with
  | none=>grind
  | some v=>
   rw[hc] at h;have:=D8 h;have h2:=this.2;rw[<-this.1] at h2;cases h2
theorem Sr {w:World} {r:Nat} {es:Array MapEntry} {clock:Nat} (h:w.heap[r]?=some (.map es clock)):ce w r 0=some (CC (entriesOf es)):=by
 grind [ce]
def Has (w:World) (b o:Nat) (L:List Value):Prop:=∀ j u,L[j]?=some u->ce w b (o+j)=some u
def I5:Ty->Bool
 | .int .u8=>true
 | _=>false
def je (w:World) (b:Nat) (n:Nat×Bool):Prop:=∃ c e fr,w.heap[b]?=some (.cells c e fr)/\c.size=n.1/\(∀ i,i < n.1->¬ (fr.1<=i/\i < fr.2))/\(n.2=false->¬ (fr.1<=n.1/\n.1 < fr.2))
def ep (b o n:Nat):FP:=λb' i=>if b'=b/\o<=i/\i < o+n then 1 else 0
def bg:Nat->(Nat->FP)->FP
 | 0,_=>λ_ _=>0
 | n+1,f=>λb i=>bg n f b i+f n b i
def ge (f:Nat->FP) (j:Nat) (g:FP):Nat->FP:=λi=>if i=j then g else f i
theorem wH {n:Nat} {f g:Nat->FP} (h:∀ j,j < n->f j=g j):bg n f=bg n g:=by
 induction n with
 | zero=>rfl
 | succ n ih=>
  funext b i;simp only[bg];rw[ih (λj hj=>h j (by omega)),h n (by omega)]
theorem tO {n:Nat} (f:Nat->FP) {j:Nat} (hj:j < n) (g:FP) (b i:Nat):bg n (ge f j g) b i+f j b i=bg n f b i+g b i:=by
 induction n with
 | zero=>omega
 | succ n ih=>
  simp only[bg];by_cases h:j=n
  ·subst h;have:bg j (ge f j g)=bg j f:=wH λk hk=>by grind [ge]
   rw[this];simp[ge];omega
  ·have:=ih (by omega);have e:ge f j g n=f n:=by grind [ge]
   rw[e];omega
theorem LB {n:Nat} (f:Nat->FP) {j:Nat} (hj:n<=j) (g:FP):bg n (ge f j g)=bg n f:=
 wH λk hk=>by grind [ge]
theorem dv {n:Nat} (f:Nat->FP) {j:Nat} (hj:j < n) (b i:Nat):f j b i<=bg n f b i:=by
 induction n <;> grind [bg]
theorem uN {n:Nat} (f:Nat->FP) {j k:Nat} (hj:j < n) (hk:k < n) (kF:j≠k) (b i:Nat):f j b i+f k b i<=bg n f b i:=by
 have h1:=tO f hj (λ_ _=>0) b i;have h2:=dv (ge f j λ_ _=>0) hk b i;have e:ge f j (λ_ _=>0) k=f k:=by grind [ge]
 rw[e] at h2;grind
theorem m_ (n:Nat) (b i:Nat):bg n (λ_ _ _=>0) b i=0:=by
 induction n <;> grind [bg]
theorem xM (n m:Nat) (f:Nat->FP) (b i:Nat):bg (n+m) f b i=bg n f b i+bg m (λj=>f (n+j)) b i:=by
 induction m <;> grind [bg]
theorem I6 {n:Nat} {f g:Nat->FP} (b i:Nat) (h:∀ j,j < n->f j b i<=g j b i):bg n f b i<=bg n g b i:=by
 induction n <;> grind [bg]
theorem Ss (n:Nat) (f:Nat->FP) (k m:Nat) (h:k+m<=n) (b i:Nat):bg m (λj=>f (k+j)) b i<=bg n f b i:=by
 have e:n=k+(m+(n - k - m)):=by omega
 grind [xM]
theorem LC {n:Nat} {f:Nat->FP} {b i:Nat} (h:1<=bg n f b i):∃ j,j < n/\1<=f j b i:=by
 induction n <;> grind [bg]
section
variable (P:Program) (w:World) (A:Cells)
def Ro:(t:Ty)->t.den->List Value->Prop
 | .int k,v,cs=>cs=[.int k (pU k v)]
 | .bool,v,cs=>cs=[.bool v]
 | .str,v,cs=>cs=[.string ⟨List.toArray v⟩]
 | .unit,_,cs=>cs=[]
 | .pair a b,v,cs=>Ro a v.1 (cs.take a.sz)/\Ro b v.2 (cs.drop a.sz)
 | .arr n e,v,cs=>e.flat=true/\List.length v=n/\cs.length=n*e.sz/\∀ (i:Nat) (x:e.den),v[i]?=some x->Ro e x ((cs.drop (i*e.sz)).take e.sz)
 | .aa e,v,cs=>∃ a cap,cs=[.slice a (List.length v) cap]/\List.length v<=cap/\(a=none->List.length v=0)/\∀ ad,a=some ad->(0 < cap->ad.spot=none) /\
   ∀ (i:Nat) (x:e.den),v[i]?=some x->∃ L:List Value,L.length=e.sz/\(∀ j u,L[j]?=some u->ce w ad.block (ad.off+i*e.sz+j)=some u/\A ad.block (ad.off+i*e.sz+j))/\Ro e x L
 | .ptr e,v,cs=>∃ ad,cs=[.pointer (some ad)]/\ad.spot=none /\
   ∃ L:List Value,L.length=e.sz/\(∀ j u,L[j]?=some u->ce w ad.block (ad.off+j)=some u/\A ad.block (ad.off+j))/\Ro e v L
 | .fn,v,cs=>∃ yO,cs=[.func (.func v.1) #[] yO]/\∃ fn,P.funcs[v.1]?=some fn /\
   ((fn.nfree=0/\yO=#[])\/(fn.nfree=1/\∃ ad:Addr,yO=#[.pointer (some ad)]/\ad.spot=none/\ce w ad.block ad.off=some (.int .i64 v.2)/\A ad.block ad.off))
 | .map k v,x,cs=>k.flat=true/\v.flat=true/\∃ (r:Nat) (uh:List (Value×Value)),cs=[.map (some r)]/\ce w r 0=some (CC uh)/\A r 0/\uh.length=List.length x /\
   ∀ (i:Nat) (y:k.den×v.den),x[i]?=some y->∃ (kc vc:List Value),uh[i]?=some (dq k kc,dq v vc)/\Ro k y.1 kc/\Ro v y.2 vc
def hole (H:List Path):Bool:=H.any (·.isEmpty)
def lG (i:Nat):Path->Option Path
 | .idx j::p=>if i=j then some p else none
 | _=>none
def ao:(t:Ty)->Md->List Path->t.den->List Value->FP->Prop
 | .pair a b,m,H,v,cs,F=>hole H=false/\∃ F1 F2:FP,(∀ x i,F1 x i+F2 x i<=F x i) /\
   ao a m.l (H.filterMap vJ) v.1 (cs.take a.sz) F1/\ao b m.r (H.filterMap vK) v.2 (cs.drop a.sz) F2
 | .aa e,m,H,v,cs,F=>
   if hole H then ∃ x:Value,cs=[x]/\x.oneCell'=true
   else if m.own then ∃ a cap,cs=[.slice a (List.length v) cap]/\List.length v<=cap/\cap<=maxLen/\(a=none->cap=0)/\∀ ad,a=some ad->ad.off=0/\ad.spot=none /\
    je w ad.block (cap*e.sz,I5 e)/\∃ Fi:Nat->FP,(∀ x i,ep ad.block 0 (cap*e.sz) x i+bg (List.length v) Fi x i<=F x i) /\
    ∀ (i:Nat) (x:e.den),v[i]?=some x->∃ L:List Value,L.length=e.sz/\Has w ad.block (i*e.sz) L/\ao e m.e (H.filterMap (lG i)) x L (Fi i)
   else H=[]/\m.e.kH=true/\Ro P w A (.aa e) v cs
 | .ptr e,m,H,v,cs,F=>
   if hole H then ∃ x:Value,cs=[x]/\x.oneCell'=true
   else if m.own then ∃ b,cs=[.pointer (some ⟨b,0,none⟩)]/\je w b (e.sz,false)/\∃ (L:List Value) (F1:FP),L.length=e.sz/\Has w b 0 L /\
    (∀ x i,ep b 0 e.sz x i+F1 x i<=F x i)/\ao e m.e [] v L F1
   else H=[]/\m.e.kH=true/\Ro P w A (.ptr e) v cs
 | .int k,_,_,v,cs,_=>Ro P w A (.int k) v cs
 | .bool,_,_,v,cs,_=>Ro P w A .bool v cs
 | .str,_,_,v,cs,_=>Ro P w A .str v cs
 | .unit,_,_,v,cs,_=>Ro P w A .unit v cs
 | .arr n e,_,H,v,cs,_=>H=[]/\Ro P w A (.arr n e) v cs
 | .fn,_,_,v,cs,_=>Ro P w A .fn v cs
 | .map k v,m,H,x,cs,F=>
   if hole H then ∃ x:Value,cs=[x]/\x.oneCell'=true
   else if m.own then k.flat=true/\v.flat=true/\∃ (r:Nat) (uh:List (Value×Value)),cs=[.map (some r)]/\ce w r 0=some (CC uh)/\1<=F r 0/\uh.length=List.length x /\
    ∀ (i:Nat) (y:k.den×v.den),x[i]?=some y->∃ (kc vc:List Value),uh[i]?=some (dq k kc,dq v vc)/\Ro P w A k y.1 kc/\Ro P w A v y.2 vc
   else H=[]/\m.e.kH=true/\Ro P w A (.map k v) x cs
end
theorem Ro.length {P:Program} {w:World} {A:Cells}:∀ (t:Ty) {v:t.den} {cs:List Value},Ro P w A t v cs->cs.length=t.sz:=by
 intro t
 induction t <;> grind [Ty.sz,Ro]
theorem ao.length {P:Program} {w:World} {A:Cells}:∀ (t:Ty) {m:Md} {H:List Path} {v:t.den} {cs:List Value} {F:FP},ao P w A t m H v cs F->cs.length=t.sz:=by
 intro t
 induction t <;> grind [Ty.sz,ao,Ro.length]
structure Agr (w w':World) (S:Nat->Nat->Prop):Prop where
 cell:∀ b i,S b i->∀ u,ce w b i=some u->ce w' b i=some u
 xE:∀ b n,je w b n->je w' b n
theorem Ro.mono {P:Program} {w w':World} {A A':Cells} (hc:∀ b i,A b i->∀ u,ce w b i=some u->ce w' b i=some u) (hA:∀ b i,A b i->A' b i) :
  ∀ (t:Ty) {v:t.den} {cs:List Value},Ro P w A t v cs->Ro P w' A' t v cs:=by
 intro t
 induction t with
 | pair a b mX mO=>intro v cs h;exact ⟨mX h.1,mO h.2⟩
 | arr n e ih=>intro v cs h;exact ⟨h.1,h.2.1,h.2.2.1,λi x hx=>ih (h.2.2.2 i x hx)⟩
 | aa e ih=>
  rintro v cs ⟨a,cap,h1,h2,h3,h4⟩;refine ⟨a,cap,h1,h2,h3,λad lH=>⟨(h4 ad lH).1,λi x hx=>?_⟩⟩
  grind
 | ptr e ih=>
  rintro v cs ⟨ad,h1,h2,L,hl,hL,hr⟩;exact ⟨ad,h1,h2,L,hl,λj u hu=>⟨hc _ _ (hL j u hu).2 u (hL j u hu).1,hA _ _ (hL j u hu).2⟩,ih hr⟩
 | fn=>
  rintro v cs ⟨yO,h1,fn,h2,h3⟩;refine ⟨yO,h1,fn,h2,?_⟩
  grind
 | map k v Yz YA=>
  rintro x cs ⟨h1,h2,r,uh,h3,h4,h5,h6,h7⟩;refine ⟨h1,h2,r,uh,h3,hc _ _ h5 _ h4,hA _ _ h5,h6,λi y hy=>?_⟩
  grind
 | _=>intro v cs h;exact h
theorem ao.mono {P:Program} {w w':World} {A A':Cells} (hA:∀ b i,A b i->A' b i) (hc:∀ b i,A b i->∀ u,ce w b i=some u->ce w' b i=some u) (hb:∀ b n,je w b n->je w' b n) :
  ∀ (t:Ty) {m:Md} {H:List Path} {v:t.den} {cs:List Value} {F F':FP},ao P w A t m H v cs F->(∀ b i,F b i<=F' b i)->(∀ b i,1<=F b i->∀ u,ce w b i=some u->ce w' b i=some u)->ao P w' A' t m H v cs F':=by
 intro t
 induction t with
 | pair a b mX mO=>
  intro m H v cs F F' h hF zV;obtain ⟨h0,F1,F2,hs,h1,h2⟩:=h
  exact ⟨h0,F1,F2,λx i=>bL (hs x i) (hF x i),mX h1 (λ_ _=>aL _) (λb i hp=>zV b i (by grind)),
   mO h2 (λ_ _=>aL _) (λb i hp=>zV b i (by grind))⟩
 | aa e ih=>
  intro m H v cs F F' h hF zV;simp only[ao] at h ⊢;split at h
  ·grind
  ·rename_i hh;rw[aP hh];split at h
   ·rename_i hm;rw[aM hm];obtain ⟨a,cap,h1,h2,h3,h4,h5⟩:=h;refine ⟨a,cap,h1,h2,h3,h4,λad lH=>?_⟩
    obtain ⟨g1,g2,g3,Fi,g4,g5⟩:=h5 ad lH;refine ⟨g1,g2,hb _ _ g3,Fi,λx i=>bL (g4 x i) (hF x i),λi x hx=>?_⟩
    obtain ⟨L,hl,hL,hr⟩:=g5 i x hx;have hi:i < List.length v:=(aR.1 hx).1;refine ⟨L,hl,λj u hu=>zV _ _ ?_ u (hL j u hu),ih hr (λ_ _=>aL _) (λb k hp=>zV b k ?_)⟩
    ·have:=g4 ad.block (i*e.sz+j);have hj:j < e.sz:=hl ▸ (aR.1 hu).1
     have:i*e.sz+j < cap*e.sz:=by
      have h1:(i+1)*e.sz<=cap*e.sz:=bH _ (by omega);grind
     grind [ep]
    grind [dv]
   grind [Ro.mono]
 | ptr e ih=>
  intro m H v cs F F' h hF zV;simp only[ao] at h ⊢;split at h
  ·grind
  ·rename_i hh;rw[aP hh];split at h
   ·rename_i hm;rw[aM hm];obtain ⟨b,h1,h2,L,F1,h3,h4,h5,h6⟩:=h;refine ⟨b,h1,hb _ _ h2,L,F1,h3,λj u hu=>zV _ _ ?_ u (h4 j u hu),λx i=>bL (h5 x i) (hF x i),ih h6 (λ_ _=>aL _) (λb' k hp=>zV b' k ?_)⟩
    all_goals grind [ep]
   grind [Ro.mono]
 | arr n e ih=>intro m H v cs F F' h hF zV;exact ⟨h.1,Ro.mono hc hA _ h.2⟩
 | map k v Yz YA=>
  grind [ao,Ro.mono]
 | _=>intro m H v cs F F' h hF zV;exact Ro.mono hc hA _ h
theorem ao.le {P:Program} {w:World} {A:Cells} {t:Ty} {m:Md} {H:List Path} {v:t.den} {cs:List Value} {F F':FP} (h:ao P w A t m H v cs F) (hF:∀ b i,F b i<=F' b i):ao P w A t m H v cs F':=
 ao.mono (λ_ _ h=>h) (λ_ _ _ _ h=>h) (λ_ _ h=>h) t h hF (λ_ _ _ _ h=>h)
theorem ao.wI {P:Program} {w:World} {A A':Cells} (hA:∀ b i,A b i->A' b i) :
  ∀ (t:Ty) {m:Md} {v:t.den} {cs:List Value} {F:FP},ao P w A t m [] v cs F->(∀ b i,1<=F b i->A' b i)->Ro P w A' t v cs:=by
 intro t
 induction t with
 | pair a b mX mO=>
  intro m v cs F h hF;obtain ⟨h0,F1,F2,hs,h1,h2⟩:=h;exact ⟨mX h1 (λb i hp=>hF b i (by grind)),mO h2 (λb i hp=>hF b i (by grind))⟩
 | aa e ih=>
  intro m v cs F h hF;simp only[ao,hole,bV,aJ,aO] at h;split at h
  ·obtain ⟨a,cap,h1,h2,h3,h4,h5⟩:=h;refine ⟨a,cap,h1,h2,λhn=>by grind,λad lH=>?_⟩
   obtain ⟨g1,g2,g3,Fi,g4,g5⟩:=h5 ad lH;refine ⟨λ_=>g2,λi x hx=>?_⟩
   obtain ⟨L,hl,hL,hr⟩:=g5 i x hx;have hi:i < List.length v:=(aR.1 hx).1;refine ⟨L,hl,λj u hu=>?_,ih hr λb k hp=>hF b k ?_⟩
   ·rw[g1,cB];refine ⟨hL j u hu,hF _ _ ?_⟩
    have:=g4 ad.block (i*e.sz+j);have hj:j < e.sz:=hl ▸ (aR.1 hu).1
    have:i*e.sz+j < cap*e.sz:=by
     have h1:(i+1)*e.sz<=cap*e.sz:=bH _ (by omega);grind
    grind [ep]
   grind [dv]
  grind [Ro.mono]
 | ptr e ih=>
  intro m v cs F h hF;simp only[ao,hole,bV,aJ,aO] at h;split at h
  ·obtain ⟨b,h1,h2,L,F1,h3,h4,h5,h6⟩:=h;refine ⟨_,h1,rfl,L,h3,λj u hu=>⟨h4 j u hu,hF _ _ ?_⟩,ih h6 λb' k hp=>hF _ _ ?_⟩
   all_goals grind [ep]
  grind [Ro.mono]
 | arr n e ih=>intro m v cs F h hF;exact Ro.mono (λ_ _ _ _ h=>h) hA _ h.2
 | map k v Yz YA=>
  intro m x cs F h hF;simp only[ao,hole,bV,aJ,aO] at h;split at h
  ·obtain ⟨h1,h2,r,uh,h3,h4,h5,h6,h7⟩:=h;refine ⟨h1,h2,r,uh,h3,h4,hF _ _ h5,h6,λi y hy=>?_⟩
   grind [Ro.mono]
  grind [Ro.mono]
 | _=>intro m v cs F h hF;exact Ro.mono (λ_ _ _ _ h=>h) hA _ h
end OT
set_option linter.unusedVariables false
set_option linter.unusedSimpArgs false
namespace OT
open Go
theorem Pc {m:Md} (h:m.kH=true):m.l.kH=true:=by cases m <;> simp_all [Md.kH,Md.l]
theorem Pd {m:Md} (h:m.kH=true):m.r.kH=true:=by cases m <;> simp_all [Md.kH,Md.r]
theorem I7 {m:Md} (h:m.kH=true):m.e.kH=true:=by cases m <;> simp_all [Md.kH,Md.e]
theorem wr {m:Md} (h:m.kH=true):m.own=false:=by cases m <;> simp_all [Md.kH,Md.own]
theorem it (t:Ty):(ak t).kH=true:=by
 induction t <;> simp_all [ak,uK,Md.kH]
theorem YB {m m1:Md} (h:fits m m1=true):fits m.l m1.l=true:=by cases m <;> cases m1 <;> simp_all [fits,Md.l]
theorem YC {m m1:Md} (h:fits m m1=true):fits m.r m1.r=true:=by cases m <;> cases m1 <;> simp_all [fits,Md.r]
theorem Su {m m1:Md} (h:fits m m1=true):fits m.e m1.e=true:=by cases m <;> cases m1 <;> simp_all [fits,Md.e]
theorem GH {m m1:Md} (h:fits m m1=true):m1.own=true->m.own=true:=by
 intro h1;cases m <;> cases m1 <;> simp_all [fits,Md.own]
theorem I8 {m m1:Md} (h:fits m m1=true) (h1:m1.own=false):m1.e.kH=true\/∃ e,m1=.arr e:=by
 cases m <;> cases m1 <;> simp_all [fits,Md.own,Md.e,Md.kH]
theorem CD:∀ {m m1:Md},fits m m1=true->m.kH=true->m1.kH=true:=by
 intro m
 induction m with
 | leaf=>grind [fits]
 | pair a b mX mO=>
  intro m1 h hn;cases m1 <;> grind [fits,Md.kH]
 | arr e ih=>
  intro m1 h hn;cases m1 <;> grind [fits,Md.kH]
 | aa o e ih=>
  intro m1 h hn;cases m1 <;> grind [fits,Md.kH]
 | ptr o e ih=>
  intro m1 h hn;cases m1 <;> grind [fits,Md.kH]
section
variable {P:Program} {w:World} {A:Cells}
theorem Ro.rep:∀ (t:Ty) {m:Md} {v:t.den} {cs:List Value} (F:FP),m.kH=true->Ro P w A t v cs->ao P w A t m [] v cs F:=by
 intro t
 induction t with
 | pair a b mX mO=>
  intro m v cs F hm h;exact ⟨rfl,λ_ _=>0,λ_ _=>0,λ_ _=>bD _,mX _ (Pc hm) h.1,mO _ (Pd hm) h.2⟩
 | aa e ih=>grind [ao,hole,wr,I7]
 | ptr e ih=>grind [ao,hole,wr,I7]
 | arr n e ih=>intro m v cs F hm h;exact ⟨rfl,h⟩
 | map k v=>grind [ao,hole,wr,I7]
 | _=>intro m v cs F hm h;exact h
theorem ao.ro:∀ (t:Ty) {m:Md} {v:t.den} {cs:List Value} {F:FP},m.kH=true->ao P w A t m [] v cs F->Ro P w A t v cs:=by
 intro t
 induction t with
 | pair a b mX mO=>
  intro m v cs F hm h;obtain ⟨_,F1,F2,_,h1,h2⟩:=h;exact ⟨mX (Pc hm) h1,mO (Pd hm) h2⟩
 | aa e ih=>grind [ao,hole,wr]
 | ptr e ih=>grind [ao,hole,wr]
 | arr n e ih=>intro m v cs F hm h;exact h.2
 | map k v=>grind [ao,hole,wr]
 | _=>intro m v cs F hm h;exact h
theorem Ro.flat:∀ (t:Ty) {m:Md} {v:t.den} {cs:List Value} (F:FP),t.flat=true->Ro P w A t v cs->ao P w A t m [] v cs F:=by
 intro t
 induction t with
 | pair a b mX mO=>
  intro m v cs F hm h;simp only[Ty.flat,aF] at hm;exact ⟨rfl,λ_ _=>0,λ_ _=>0,λ_ _=>bD _,mX _ hm.1 h.1,mO _ hm.2 h.2⟩
 | aa e ih=>grind [Ty.flat]
 | ptr e ih=>grind [Ty.flat]
 | arr n e ih=>intro m v cs F hm h;exact ⟨rfl,h⟩
 | map k v=>grind [Ty.flat]
 | _=>intro m v cs F hm h;exact h
theorem ao.flat:∀ (t:Ty) {m:Md} {H:List Path} {v:t.den} {cs:List Value} {F:FP},t.flat=true->ao P w A t m H v cs F->Ro P w A t v cs:=by
 intro t
 induction t with
 | pair a b mX mO=>
  intro m H v cs F hm h;simp only[Ty.flat,aF] at hm;obtain ⟨_,F1,F2,_,h1,h2⟩:=h;exact ⟨mX hm.1 h1,mO hm.2 h2⟩
 | aa e ih=>grind [Ty.flat]
 | ptr e ih=>grind [Ty.flat]
 | arr n e ih=>intro m H v cs F hm h;exact h.2
 | map k v=>grind [Ty.flat]
 | _=>intro m H v cs F hm h;exact h
theorem ao.fits:∀ (t:Ty) {m m1:Md} {v:t.den} {cs:List Value} {F:FP},fits m m1=true->ao P w A t m [] v cs F->(∀ b i,F b i<=1) ->
  ∃ F1:FP,(∀ b i,F1 b i<=F b i)/\∀ A':Cells,(∀ b i,A b i->A' b i)->(∀ b i,1<=F b i->F1 b i=0->A' b i)->ao P w A' t m1 [] v cs F1:=by
 intro t
 induction t with
 | pair a b mX mO=>
  intro m m1 v cs F hf h hF;obtain ⟨_,Fa,Fb,hs,h1,h2⟩:=h;obtain ⟨G1,hG1,k1⟩:=mX (YB hf) h1 (λb i=>by grind);obtain ⟨G2,hG2,k2⟩:=mO (YC hf) h2 (λb i=>by grind);refine ⟨λb i=>G1 b i+G2 b i,λb i=>by grind,λA' hA nc=>⟨rfl,G1,G2,λ_ _=>aL _,k1 A' hA λb i hp hz=>?_,k2 A' hA λb i hp hz=>?_⟩⟩
  ·have:=hs b i;have:=hF b i;have:=hG2 b i
   exact nc b i (by omega) (by grind)
  ·have:=hs b i;have:=hF b i;have:=hG1 b i
   exact nc b i (by omega) (by grind)
 | aa e ih=>
  intro m m1 v cs F hf h hF;by_cases B7:m1.own=true
  ·have hm:=GH hf B7;simp only[ao,hole,bV,aJ,aO,hm,aI] at h;obtain ⟨a,cap,h1,h2,h3,h4,h5⟩:=h
   cases a with
   | none=>
    refine ⟨λ_ _=>0,λ_ _=>bD _,λA' hA nc=>?_⟩
    grind [ao,hole]
   | some ad=>
    obtain ⟨g1,g2,g3,Fi,g4,g5⟩:=h5 ad rfl
    have each:∀ i,∃ Gi:FP,(∀ b k,Gi b k<=Fi i b k)/\∀ A':Cells,(∀ b i,A b i->A' b i)->(∀ b k,1<=Fi i b k->Gi b k=0->A' b k) ->
      ∀ x,v[i]?=some x->∃ L:List Value,L.length=e.sz/\Has w ad.block (i*e.sz) L/\ao P w A' e m1.e (([]:List Path).filterMap (lG i)) x L Gi:=by
     intro i
     cases hx:(v:List e.den)[i]? with
     | none=>exact ⟨λ_ _=>0,λ_ _=>bD _,λA' _ _ x LD=>by cases LD⟩
     | some x=>
      obtain ⟨L,hl,hL,hr⟩:=g5 i x hx;have hi:i < List.length v:=(aR.1 hx).1;obtain ⟨G,hG,k⟩:=ih (Su hf) hr (λb k=>by have:=dv Fi hi b k;grind);exact ⟨G,hG,λA' hA nc x' LD=>by injection LD with LD;subst LD;exact ⟨L,hl,hL,k A' hA nc⟩⟩
    have ⟨Gi,YD⟩:=gC each;refine ⟨λb k=>ep ad.block 0 (cap*e.sz) b k+bg (List.length v) Gi b k,λb k=>?_,λA' hA nc=>?_⟩
    ·have:=g4 b k;have:=I6 b k (f:=Gi) (g:=Fi) (n:=List.length v) λj _=>(YD j).1 b k
     grind
    ·simp only[ao,hole,bV,aJ,aO,B7,aI];refine ⟨some ad,cap,h1,h2,h3,h4,λc_ Qo=>?_⟩
     injection Qo with Qo;subst Qo;refine ⟨g1,g2,g3,Gi,λ_ _=>aL _,λi x hx=>(YD i).2 A' hA (λb k hp hz=>?_) x hx⟩
     have hi:i < List.length v:=(aR.1 hx).1;have h1:=g4 b k;have h2:=hF b k;have h3:=dv Fi hi b k
     refine nc b k (by omega) ?_;show ep ad.block 0 (cap*e.sz) b k+bg (List.length v) Gi b k=0
     have:bg (List.length v) Gi b k=0:=by
      rcases bM (bg (List.length v) Gi b k) with h0 | h0
      ·exact h0
      ·obtain ⟨j,hj,hp'⟩:=LC h0;have:=(YD j).1 b k;by_cases oy:j=i
       all_goals grind [uN]
     omega
  ·have LE:m1.own=false:=by simpa using B7
   have oN:m1.e.kH=true:=by
    rcases I8 hf LE with h | ⟨e',rfl⟩
    ·exact h
    ·cases m <;> simp[OT.fits] at hf;simp only[ao,hole,bV,aJ,aO,Md.own] at h;exact CD hf h.2.1
   refine ⟨λ_ _=>0,λ_ _=>bD _,λA' hA nc=>?_⟩
   grind [ao.wI,ao]
 | ptr e ih=>
  intro m m1 v cs F hf h hF;by_cases B7:m1.own=true
  ·have hm:=GH hf B7;simp only[ao,hole,bV,aJ,aO,hm,aI] at h;obtain ⟨b,h1,h2,L,F1,h3,h4,h5,h6⟩:=h;obtain ⟨G,hG,k⟩:=ih (Su hf) h6 (λb' i=>by grind);refine ⟨λb' k=>ep b 0 e.sz b' k+G b' k,λb' k=>by grind,λA' hA nc=>?_⟩
   simp only[ao,hole,bV,aJ,aO,B7,aI];refine ⟨b,h1,h2,L,G,h3,h4,λ_ _=>aL _,k A' hA λb' i hp hz=>nc b' i ?_ ?_⟩
   all_goals grind
  ·have LE:m1.own=false:=by simpa using B7
   have oN:m1.e.kH=true:=by
    rcases I8 hf LE with h | ⟨e',rfl⟩
    ·exact h
    ·cases m <;> simp[OT.fits] at hf;simp only[ao,hole,bV,aJ,aO,Md.own] at h;exact CD hf h.2.1
   refine ⟨λ_ _=>0,λ_ _=>bD _,λA' hA nc=>?_⟩
   grind [ao.wI,ao]
 | arr n e ih=>intro m m1 v cs F hf h hF;exact ⟨λ_ _=>0,λ_ _=>bD _,λA' hA nc=>⟨rfl,Ro.mono (λ_ _ _ _ h=>h) hA _ h.2⟩⟩
 | map k v Yz YA=>
  intro m m1 x cs F hf h hF;by_cases B7:m1.own=true
  ·have hm:=GH hf B7;simp only[ao,hole,bV,aJ,aO,hm,aI] at h;obtain ⟨h1,h2,r,uh,h3,h4,h5,h6,h7⟩:=h;refine ⟨F,λ_ _=>aL _,λA' hA nc=>?_⟩
   grind [ao,hole,Ro.mono]
  ·have LE:m1.own=false:=by simpa using B7
   have oN:m1.e.kH=true:=by
    rcases I8 hf LE with h | ⟨e',rfl⟩
    ·exact h
    ·cases m <;> simp[OT.fits] at hf;simp only[ao,hole,bV,aJ,aO,Md.own] at h;exact CD hf h.2.1
   refine ⟨λ_ _=>0,λ_ _=>bD _,λA' hA nc=>?_⟩
   grind [ao.wI,ao]
 | _=>intro m m1 v cs F hf h hF;exact ⟨λ_ _=>0,λ_ _=>bD _,λA' hA nc=>Ro.mono (λ_ _ _ _ h=>h) hA _ h⟩
end
end OT
set_option linter.unusedVariables false
set_option linter.unusedSimpArgs false
namespace OT
open Go
def rd (w:World) (b o n:Nat):List Value:=(List.range n).map λj=>(ce w b (o+j)).getD undef
theorem yx (w:World) (b o n:Nat):(rd w b o n).length=n:=by simp[rd]
theorem fi {w:World} {b o:Nat} {L:List Value} {n:Nat} (h:Has w b o L) (hn:L.length=n):rd w b o n=L:=by
 subst hn;apply eF;intro j;unfold rd;rw[eV];by_cases hj:j < L.length
 ·rw[gW hj];have:=h j L[j] (aB hj);grind
 grind
structure Pl where
 t:Ty
 H:List Path
 cs:List Value
 ad:Option (Nat×Nat)
def iu (ad:Option (Nat×Nat)) (k:Nat):Option (Nat×Nat):=ad.map λx=>(x.1,x.2+k)
def bn (w:World):Path->Ty->List Path->List Value->Option (Nat×Nat)->Option Pl
 | [],t,H,cs,ad=>some ⟨t,H,cs,ad⟩
 | .fst::p,.pair a _,H,cs,ad=>if hole H then none else bn w p a (H.filterMap vJ) (cs.take a.sz) ad
 | .snd::p,.pair a b,H,cs,ad=>if hole H then none else bn w p b (H.filterMap vK) (cs.drop a.sz) (iu ad a.sz)
 | .idx i::p,.aa e,H,cs,_=>if hole H then none else match cs with
  | [.slice (some a) n _]=>if i < n then bn w p e (H.filterMap (lG i)) (rd w a.block (a.off+i*e.sz) e.sz) (some (a.block,a.off+i*e.sz)) else none
  | _=>none
 | .qO i::p,.arr n e,H,cs,ad=>if H.isEmpty then (if i < n then bn w p e [] ((cs.drop (i*e.sz)).take e.sz) (iu ad (i*e.sz)) else none) else none
 | _,_,_,_,_=>none
def wJ:Ty->Bool
 | .aa _ | .map _ _=>true
 | _=>false
def rX (d:Nat) (full:Prop) (w:World) (t:Ty) (H:List Path) (cs:List Value) (ad:Option (Nat×Nat)) (w2:World) (H2:List Path) (d6:List Value):Prop:=
 ∀ q pl,d9 q<=d->bn w q t H cs ad=some pl->∃ H' bu,bn w2 q t H2 d6 ad=some ⟨pl.t,H',bu,pl.ad⟩/\((d9 q < d/\wJ pl.t=true)\/full->bu=pl.cs)
theorem D9 {R:Type} {H:List Path} {i:Nat} {K:List Path->Option R} {r:R} (h:xK H i K=some r) :
  K (H.filterMap (lG i))=some r/\(∀ j,j≠i->H.filterMap (lG j)=[])/\hole H=false:=by
 unfold xK at h;split at h
 ·exact ⟨h,λ_ _=>rfl,rfl⟩
 ·rename_i j q;split at h
  ·rename_i ui;subst ui;refine ⟨by simpa [lG] using h,λj hj=>by simp[lG,hj],rfl⟩
  ·cases h
 ·cases h
theorem CE {R S:Type} {H:List Path} {i:Nat} {K:List Path->Option R} {r:R} (h:xK H i K=some r) (K2:List Path->Option S) :
  xK H i K2=K2 (H.filterMap (lG i)):=by
 unfold xK at h ⊢;grind [lG]
theorem uj (H:List Path):(H.map (.fst::·)).filterMap vJ=H:=by
 induction H <;> simp_all [vJ]
theorem uk (H:List Path):(H.map (.snd::·)).filterMap vK=H:=by
 induction H <;> simp_all [vK]
theorem uO (H:List Path):(H.map (.snd::·)).filterMap vJ=[]:=by
 simp_all [vJ]
theorem uP (H:List Path):(H.map (.fst::·)).filterMap vK=[]:=by
 simp_all [vK]
theorem DU (i:Nat) (H:List Path):(H.map (.idx i::·)).filterMap (lG i)=H:=by
 induction H <;> simp_all [lG]
theorem zW {i j:Nat} (h:j≠i) (H:List Path):(H.map (.idx i::·)).filterMap (lG j)=[]:=by
 simp_all [lG]
theorem rE (s:Step) (H:List Path):hole (H.map (s::·))=false:=by
 grind [hole]
theorem sN (H1 H2:List Path):hole (H1++H2)=(hole H1||hole H2):=by simp[hole]
theorem aam {w:World}:∀ (q:Path) (t:Ty) {H H2:List Path} {cs:List Value} {ad:Option (Nat×Nat)} {pl JM:Pl},bn w q t H cs ad=some pl->bn w q t H2 cs ad=some JM->JM.t=pl.t/\JM.cs=pl.cs/\JM.ad=pl.ad:=by
 intro q
 induction q with
 | nil=>grind [bn]
 | cons s q ih=>
  intro t H H2 cs ad pl JM h h2
  cases t with
  | pair a b=>
   cases s <;> grind [bn]
  | aa e=>
   cases s with
   | idx i=>
    simp only[bn] at h h2;grind
   | _=>simp[bn] at h
  | arr n e=>
   cases s <;> grind [bn]
  | _=>grind [bn]
section
variable {P:Program}
theorem wt {w w2:World} {A:Cells} (hA:∀ b i,A b i->∀ u,ce w b i=some u->ce w2 b i=some u) :
  ∀ (q:Path) (t:Ty) {m:Md} {H:List Path} {v:t.den} {cs:List Value} {F:FP} {ad:Option (Nat×Nat)} {pl:Pl},ao P w A t m H v cs F->(∀ b i,1<=F b i->∀ u,ce w b i=some u->ce w2 b i=some u) ->
  bn w q t H cs ad=some pl->bn w2 q t H cs ad=some pl:=by
 intro q
 induction q with
 | nil=>intro t m H v cs F ad pl _ _ h;exact h
 | cons s q ih=>
  intro t m H v cs F ad pl hr hF h
  cases t with
  | pair a b=>
   obtain ⟨h0,F1,F2,hs,h1,h2⟩:=hr;cases s <;> grind [bn]
  | aa e=>
   cases s with
   | fst=>simp[bn] at h
   | snd=>simp[bn] at h
   | qO i=>simp[bn] at h
   | idx i=>
    simp only[ao] at hr;simp only[bn] at h ⊢;split at h
    ·cases h
    ·rename_i hh;rw[aP hh];rw[aP hh] at hr;split at hr
     ·obtain ⟨a,cap,rfl,h2,h3,h4,h5⟩:=hr
      cases a with
      | none=>cases h
      | some ik=>
       obtain ⟨g1,g2,g3,Fi,g4,g5⟩:=h5 ik rfl;simp only at h ⊢;split at h
       ·rename_i hi;rw[aM hi];obtain ⟨L,hl,hL,jj⟩:=g5 i _ (aB hi);have ax:(i+1)*e.sz<=cap*e.sz:=bH _ (by omega);rw[dL] at ax
        have hL2:Has w2 ik.block (i*e.sz) L:=λj u hu=>by
         have hj:j < e.sz:=hl ▸ (aR.1 hu).1;refine hF _ _ ?_ u (hL j u hu);grind [ep]
        rw[g1,cB,fi hL hl] at h;grind [fi,dv]
       ·cases h
     ·obtain ⟨rfl,oN,a,cap,rfl,h2,h3,h4⟩:=hr
      cases a with
      | none=>cases h
      | some ik=>
       simp only at h ⊢;split at h
       ·rename_i hi;rw[aM hi];obtain ⟨L,hl,hL,jj⟩:=(h4 ik rfl).2 i _ (aB hi);rw[fi (λj u hu=>(hL j u hu).1) hl] at h;rw[fi (λj u hu=>hA _ _ (hL j u hu).2 u (hL j u hu).1) hl];exact ih e (Ro.rep e (λ_ _=>0) oN jj) (λb k hp=>by simp at hp) h
       ·cases h
  | arr n e=>
   cases s with
   | fst=>simp[bn] at h
   | snd=>simp[bn] at h
   | idx i=>simp[bn] at h
   | qO i=>
    obtain ⟨rfl,hf,hl,hlen,hr⟩:=hr;simp only[bn,cM,aI] at h ⊢;split at h
    ·rename_i hi;rw[aM hi];exact ih e (Ro.flat e (m:=.leaf) (λ_ _=>0) hf (hr i _ (aB (by grind)))) (λb k hp=>by simp at hp) h
    ·cases h
  | _=>grind [bn]
theorem Sv {w:World} {A:Cells} {S:Nat->Nat->Prop} (hA:∀ b i,A b i->S b i) :
  ∀ (q:Path) (t:Ty) {m:Md} {H:List Path} {v:t.den} {cs:List Value} {F:FP} {ad:Option (Nat×Nat)} {pl:Pl},ao P w A t m H v cs F->(∀ b i,1<=F b i->S b i) ->
  (∀ b o,ad=some (b,o)->∀ j,j < t.sz->S b (o+j))->bn w q t H cs ad=some pl->∀ b o,pl.ad=some (b,o)->∀ j,j < pl.t.sz->S b (o+j):=by
 intro q
 induction q with
 | nil=>grind [bn]
 | cons s q ih=>
  intro t m H v cs F ad pl hr hF lH h
  cases t with
  | pair a b=>
   obtain ⟨h0,F1,F2,hs,h1,h2⟩:=hr
   cases s with
   | fst=>grind [bn,Ty.sz]
   | snd=>
    simp only[bn,h0,aO] at h;refine ih b h2 (λb i hp=>hF b i (by grind)) (λb' o e j hj=>?_) h
    cases ad with
    | none=>cases e
    | some y=>
     simp only[iu,bT,aS,bP] at e;obtain ⟨rfl,rfl⟩:=e;grind [Ty.sz]
   | idx i=>simp[bn] at h
   | qO i=>simp[bn] at h
  | aa e=>
   cases s with
   | fst=>simp[bn] at h
   | snd=>simp[bn] at h
   | qO i=>simp[bn] at h
   | idx i=>
    simp only[ao] at hr;simp only[bn] at h;split at h
    ·cases h
    ·rename_i hh;rw[aP hh] at hr;split at hr
     ·obtain ⟨a,cap,rfl,h2,h3,h4,h5⟩:=hr
      cases a with
      | none=>cases h
      | some ik=>
       obtain ⟨g1,g2,g3,Fi,g4,g5⟩:=h5 ik rfl;simp only at h;split at h
       ·rename_i hi;obtain ⟨L,hl,hL,jj⟩:=g5 i _ (aB hi);have ax:(i+1)*e.sz<=cap*e.sz:=bH _ (by omega);rw[dL] at ax;rw[g1,cB,fi hL hl] at h;grind [dv,ep]
       ·cases h
     ·obtain ⟨rfl,oN,a,cap,rfl,h2,h3,h4⟩:=hr
      cases a with
      | none=>cases h
      | some ik=>
       simp only at h;split at h
       ·rename_i hi;obtain ⟨L,hl,hL,jj⟩:=(h4 ik rfl).2 i _ (aB hi);rw[fi (λj u hu=>(hL j u hu).1) hl] at h;refine ih e (Ro.rep e (λ_ _=>0) oN jj) (λb k hp=>by simp at hp) (λb' o e' j hj=>?_) h;simp only[aS,bP] at e';obtain ⟨rfl,rfl⟩:=e';exact hA _ _ (hL j _ (aB (by omega))).2
       ·cases h
  | arr n e=>
   cases s with
   | fst=>simp[bn] at h
   | snd=>simp[bn] at h
   | idx i=>simp[bn] at h
   | qO i=>
    obtain ⟨rfl,hf,hl,hlen,hr⟩:=hr;simp only[bn,cM,aI] at h;split at h
    ·rename_i hi;refine ih e (Ro.flat e (m:=.leaf) (λ_ _=>0) hf (hr i _ (aB (by grind)))) (λb k hp=>by simp at hp) (λb' o e' j hj=>?_) h
     cases ad with
     | none=>cases e'
     | some y=>
      simp only[iu,bT,aS,bP] at e';obtain ⟨rfl,rfl⟩:=e';have ax:(i+1)*e.sz<=n*e.sz:=bH _ hi;rw[dL] at ax;have:=lH y.1 y.2 rfl (i*e.sz+j) (by grind [Ty.sz])
      rwa [cW]
    ·cases h
  | _=>grind [bn]
theorem Pe {w:World} {A:Cells} :
  ∀ (q:Path) (t:Ty) {m:Md} {H:List Path} {v:t.den} {cs:List Value} {F:FP} {ad:Option (Nat×Nat)} {pl:Pl},ao P w A t m H v cs F ->
  (∀ b o,ad=some (b,o)->Has w b o cs)->bn w q t H cs ad=some pl->(∀ b o,pl.ad=some (b,o)->Has w b o pl.cs)/\∃ (m':Md) (v':pl.t.den) (F':FP),ao P w A pl.t m' pl.H v' pl.cs F':=by
 intro q
 induction q with
 | nil=>grind [bn]
 | cons s q ih=>
  intro t m H v cs F ad pl hr lH h
  cases t with
  | pair a b=>
   obtain ⟨h0,F1,F2,hs,h1,h2⟩:=hr
   cases s with
   | fst=>
    simp only[bn,h0,aO] at h;exact ih a h1 (λb' o e j u hu=>lH b' o e j u (by grind)) h
   | snd=>
    simp only[bn,h0,aO] at h;refine ih b h2 (λb' o e j u hu=>?_) h
    cases ad with
    | none=>cases e
    | some y=>
     simp only[iu,bT,aS,bP] at e;obtain ⟨rfl,rfl⟩:=e;rw[bZ] at hu;have:=lH y.1 y.2 rfl (a.sz+j) u hu
     rwa [cW]
   | idx i=>simp[bn] at h
   | qO i=>simp[bn] at h
  | aa e=>
   cases s with
   | fst=>simp[bn] at h
   | snd=>simp[bn] at h
   | qO i=>simp[bn] at h
   | idx i=>
    simp only[ao] at hr;simp only[bn] at h;split at h
    ·cases h
    ·rename_i hh;rw[aP hh] at hr;split at hr
     ·obtain ⟨a,cap,rfl,h2,h3,h4,h5⟩:=hr
      cases a with
      | none=>cases h
      | some ik=>
       obtain ⟨g1,g2,g3,Fi,g4,g5⟩:=h5 ik rfl;simp only at h;split at h
       ·rename_i hi;obtain ⟨L,hl,hL,jj⟩:=g5 i _ (aB hi);grind [fi]
       ·cases h
     ·obtain ⟨rfl,oN,a,cap,rfl,h2,h3,h4⟩:=hr
      cases a with
      | none=>cases h
      | some ik=>
       simp only at h;split at h
       ·rename_i hi;obtain ⟨L,hl,hL,jj⟩:=(h4 ik rfl).2 i _ (aB hi);rw[fi (λj u hu=>(hL j u hu).1) hl] at h;refine ih e (Ro.rep e (λ_ _=>0) oN jj) (λb' o e'=>?_) h;simp only[aS,bP] at e';obtain ⟨rfl,rfl⟩:=e';exact λj u hu=>(hL j u hu).1
       ·cases h
  | arr n e=>
   cases s with
   | fst=>simp[bn] at h
   | snd=>simp[bn] at h
   | idx i=>simp[bn] at h
   | qO i=>
    obtain ⟨rfl,hf,hl,hlen,hr⟩:=hr;simp only[bn,cM,aI] at h;split at h
    ·rename_i hi;refine ih e (Ro.flat e (m:=.leaf) (λ_ _=>0) hf (hr i _ (aB (by grind)))) (λb' o e' j u hu=>?_) h
     cases ad with
     | none=>cases e'
     | some y=>
      simp only[iu,bT,aS,bP] at e';obtain ⟨rfl,rfl⟩:=e';rw[cJ] at hu;split at hu
      ·rw[bZ] at hu;have:=lH y.1 y.2 rfl (i*e.sz+j) u hu
       rwa [cW]
      ·cases hu
    ·cases h
  | _=>grind [bn]
theorem A9 {w w2:World} {A A2:Cells} :
  ∀ (q:Path) (t:Ty) {m m2:Md} {H H2:List Path} {v v2:t.den} {cs d6:List Value} {F F2:FP} {ad:Option (Nat×Nat)} {pl:Pl},
  ao P w2 A2 t m2 H2 v2 d6 F2->(d9 q=0\/t.flat=true) ->
  bn w q t H cs ad=some pl->∃ H' bu,bn w2 q t H2 d6 ad=some ⟨pl.t,H',bu,pl.ad⟩/\(t.flat=true->wJ pl.t=false):=by
 intro q
 induction q with
 | nil=>
  intro t m m2 H H2 v v2 cs d6 F F2 ad pl hr hq h;simp only[bn,aS] at h;subst h;exact ⟨_,_,rfl,λhf=>by cases t <;> simp_all [Ty.flat,wJ]⟩
 | cons s q ih=>
  intro t m m2 H H2 v v2 cs d6 F F2 ad pl hr hq h
  cases t with
  | pair a b=>
   obtain ⟨h0,F1,F2,hs,h1,h2⟩:=hr;simp only[Ty.flat,aF] at hq ⊢
   cases s with
   | fst=>
    simp only[bn,h0,aO] at h ⊢;split at h
    ·cases h
    ·obtain ⟨H',bu,h3,h4⟩:=ih a (v:=v.1) (m:=.leaf) (F:=F) h1 (hq.imp (λh=>by simpa [d9] using h) (·.1)) h;grind
   | snd=>
    simp only[bn,h0,aO] at h ⊢;split at h
    ·cases h
    ·obtain ⟨H',bu,h3,h4⟩:=ih b (v:=v.2) (m:=.leaf) (F:=F) h2 (hq.imp (λh=>by simpa [d9] using h) (·.2)) h;grind
   | idx i=>simp[bn] at h
   | qO i=>simp[bn] at h
  | aa e=>
   cases s <;> grind [bn,d9,Ty.flat]
  | arr n e=>
   cases s with
   | fst=>simp[bn] at h
   | snd=>simp[bn] at h
   | idx i=>simp[bn] at h
   | qO i=>
    obtain ⟨rfl,hf,hl,hlen,hr⟩:=hr;simp only[bn,cM,aI] at h ⊢;split at h
    ·split at h
     ·rename_i hi;rw[aM hi];obtain ⟨H',bu,h3,h4⟩:=ih e (v:=e.zero) (m:=.leaf) (F:=F) (Ro.flat e (m:=.leaf) (λ_ _=>0) hf (hr i _ (aB (by grind)))) (.inr hf) h;grind
     ·cases h
    ·cases h
  | _=>grind [bn]
theorem rX.zero {w w2:World} {A A2:Cells} {t:Ty} {m2:Md} {H H2:List Path} {v2:t.den} {cs d6:List Value} {F2:FP} (ad:Option (Nat×Nat)) (h:ao P w2 A2 t m2 H2 v2 d6 F2):rX 0 False w t H cs ad w2 H2 d6:=by
 intro q pl hq hp;obtain ⟨H',bu,h1,_⟩:=A9 (A:=A) (m:=m2) (v:=v2) (F:=F2) q t h (.inl (by omega)) hp;grind
theorem rX.flat {w w2:World} {A A2:Cells} {t:Ty} {m2:Md} {H H2:List Path} {v2:t.den} {cs d6:List Value} {F2:FP} (ad:Option (Nat×Nat)) (h:ao P w2 A2 t m2 H2 v2 d6 F2) (hf:t.flat=true) (d:Nat):rX d False w t H cs ad w2 H2 d6:=by
 intro q pl hq hp;obtain ⟨H',bu,h1,h2⟩:=A9 (A:=A) (m:=m2) (v:=v2) (F:=F2) q t h (.inr hf) hp;grind
theorem rX.same {w w2:World} {A:Cells} {t:Ty} {m:Md} {H:List Path} {v:t.den} {cs:List Value} {F:FP} (ad:Option (Nat×Nat)) (h:ao P w A t m H v cs F)
  (hA:∀ b i,A b i->∀ u,ce w b i=some u->ce w2 b i=some u) (hF:∀ b i,1<=F b i->∀ u,ce w b i=some u->ce w2 b i=some u) (d:Nat) (full:Prop):rX d full w t H cs ad w2 H cs:=by
 intro q pl hq hp;exact ⟨pl.H,pl.cs,wt hA q t h hF hp,λ_=>rfl⟩
end
end OT
set_option linter.unusedVariables false
set_option linter.unusedSimpArgs false
namespace OT
open Go
def zX (cs:List Value) (off:Nat) (n:Nat) (c2:List Value):List Value:=cs.take off++c2++cs.drop (off+n)
def lr (loc:Option Nat) (cs:List Value) (n:Nat) (c2:List Value):List Value:=match loc with
 | some off=>zX cs off n c2
 | none=>cs
theorem vn {cs c2:List Value} {off n:Nat} (h:off+n<=cs.length) (h2:c2.length=n):(zX cs off n c2).length=cs.length:=by
 simp[zX];omega
theorem zY {cs:List Value} {off n:Nat} (h:off+n<=cs.length):zX cs off n ((cs.drop off).take n)=cs:=by
 unfold zX;rw[bN]
 have:(cs.drop off).take n++cs.drop (off+n)=cs.drop off:=by
  rw[<-cU];exact dE n (cs.drop off)
 rw[this];exact dE off cs
theorem B8 {cs c2:List Value} {off n:Nat} (h:off+n<=cs.length) (h2:c2.length=n) (j:Nat):(zX cs off n c2)[j]?=if off<=j/\j < off+n then c2[j - off]? else cs[j]?:=by
 unfold zX;rw[List.getElem?_append,List.getElem?_append];simp only[bE,dD];have h1:min off cs.length=off:=by omega
 rw[h1,h2];split
 ·split
  ·rw[aP (by omega),cJ,aM (by omega)]
  ·rw[aM (by omega)]
 ·rw[aP (by omega),bZ];congr 1;omega
theorem Xz {cs c2:List Value} {k n' off n:Nat} (h:off+n<=n') (h':k+n'<=cs.length) (h2:c2.length=n) :
  zX cs k n' (zX ((cs.drop k).take n') off n c2)=zX cs (k+off) n c2:=by
 have hl:((cs.drop k).take n').length=n':=by simp;omega
 apply eF;intro j;rw[B8 h' (by rw[vn (by omega) h2,hl]),B8 (by omega) h2,B8 (by omega) h2];by_cases h3:k<=j/\j < k+n'
 ·rw[aM h3];by_cases h4:off<=j - k/\j - k < off+n
  ·rw[aM h4,aM (by omega)];congr 1;omega
  ·rw[aP h4,aP (by omega),cJ,aM (by omega),bZ];congr 1;omega
 ·rw[aP h3,aP (by omega)]
theorem Pf {w2:World} {b o:Nat} {cs c2:List Value} {off n:Nat} (h:off+n<=cs.length) (h2:c2.length=n)
  (hc:Has w2 b (o+off) c2) (hk:∀ j u,cs[j]?=some u->¬ (off<=j/\j < off+n)->ce w2 b (o+j)=some u):Has w2 b o (zX cs off n c2):=by
 intro j u hu;rw[B8 h h2] at hu;split at hu
 ·have:=hc _ u hu;rw[show o+off+(j - off)=o+j by omega] at this;exact this
 ·exact hk j u hu (by assumption)
section
variable {P:Program} {R:Type}
theorem YE {w:World} {A:Cells} {r:R}:∀ (p:Path) (t:Ty) {m:Md} {H:List Path} {v:t.den} {cs:List Value} {F:FP} {ad:Option (Nat×Nat)} {K:(t':Ty)->Md->List Path->t'.den->Option R},
  ol p t m H v K=some r->ao P w A t m H v cs F->(∀ b o,ad=some (b,o)->Has w b o cs) ->
  ∃ (t':Ty) (m':Md) (H':List Path) (v':t'.den) (bu:List Value) (c_:Option (Nat×Nat)) (F':FP),K t' m' H' v'=some r/\(∀ {S:Type} (K0:(t:Ty)->Md->List Path->t.den->Option S),ol p t m H v K0=K0 t' m' H' v')/\bn w p t H cs ad=some ⟨t',H',bu,c_⟩/\ao P w A t' m' H' v' bu F' /\
   (∀ b i,F' b i<=F b i)/\(∀ b o,c_=some (b,o)->Has w b o bu)/\(ad.isSome=true->c_.isSome=true):=by
 intro p
 induction p with
 | nil=>intro t m H v cs F ad K h hr lH;exact ⟨t,m,H,v,cs,ad,F,h,λ_=>rfl,rfl,hr,λ_ _=>aL _,lH,λh=>h⟩
 | cons s p ih=>
  intro t m H v cs F ad K h hr lH
  cases t with
  | pair a b=>
   obtain ⟨h0,F1,F2,hs,h1,h2⟩:=hr;have hle:=ao.length a h1;have LF:=ao.length b h2;simp only[dD,bQ] at hle LF
   cases s with
   | fst=>
    have tH:H.any (·.isEmpty)=false:=h0;simp only[ol,tH] at h
    obtain ⟨t',m',H',v',bu,c_,F',k1,kn,k2,k3,k4,k5,k6⟩:=ih a h h1 (ad:=ad) (λb o hb j u hu=>by
     rw[cJ] at hu;split at hu;exact lH b o hb j u hu;cases hu)
    exact ⟨t',m',H',v',bu,c_,F',k1,λK0=>by simp only[ol,tH];exact kn K0,by simp only[bn,h0];exact k2,k3,λb i=>by have:=hs b i;have:=k4 b i;omega,k5,k6⟩
   | snd=>
    have tH:H.any (·.isEmpty)=false:=h0;simp only[ol,tH] at h
    obtain ⟨t',m',H',v',bu,c_,F',k1,kn,k2,k3,k4,k5,k6⟩:=ih b h h2 (ad:=iu ad a.sz) (λb' o hb j u hu=>by
     cases ad with
     | none=>cases hb
     | some x=>
      simp only[iu,bT,aS,bP] at hb;obtain ⟨rfl,rfl⟩:=hb;rw[bZ] at hu;have:=lH x.1 x.2 rfl _ u hu
      rwa [cW])
    exact ⟨t',m',H',v',bu,c_,F',k1,λK0=>by simp only[ol,tH];exact kn K0,by simp only[bn,h0];exact k2,k3,λb i=>by have:=hs b i;have:=k4 b i;omega,k5,λh=>k6 (by cases ad <;> simp_all [iu])⟩
   | idx i=>simp[ol] at h
   | qO i=>simp[ol] at h
  | aa e=>
   cases s with
   | fst=>simp[ol] at h
   | snd=>simp[ol] at h
   | qO i=>simp[ol] at h
   | idx i=>
    simp only[ol] at h;obtain ⟨h1,h2,h3⟩:=D9 h
    cases hx:(v:List e.den)[i]? with
    | none=>rw[hx] at h1;cases h1
    | some x=>
     rw[hx] at h1;simp only[aA] at h1;have hi:i < List.length v:=(aR.1 hx).1;simp only[ao,h3,aJ,aO] at hr;split at hr
     ·obtain ⟨a,cap,rfl,g2,g3,g4,g5⟩:=hr
      cases a with
      | none=>have:=g4 rfl;omega
      | some ik=>
       obtain ⟨q1,q2,q3,Fi,q4,q5⟩:=g5 ik rfl;obtain ⟨L,hl,hL,jj⟩:=q5 i x hx
       obtain ⟨t',m',H',v',bu,c_,F',k1,kn,k2,k3,k4,k5,k6⟩:=ih e h1 jj (ad:=some (ik.block,i*e.sz)) (λb o hb=>by
        simp only[aS,bP] at hb;obtain ⟨rfl,rfl⟩:=hb;exact hL)
       refine ⟨t',m',H',v',bu,c_,F',k1,λK0=>by simp only[ol];rw[CE h,hx];exact kn K0,?_,k3,λb k=>?_,k5,λ_=>k6 rfl⟩
       ·simp only[bn,h3,aJ,aO,hi,aI,q1,cB,fi hL hl];exact k2
       ·have:=k4 b k;have:=q4 b k;have:=dv Fi hi b k;omega
     ·obtain ⟨rfl,oN,a,cap,rfl,g2,g3,g4⟩:=hr
      cases a with
      | none=>have:=g3 rfl;omega
      | some ik=>
       obtain ⟨L,hl,hL,jj⟩:=(g4 ik rfl).2 i x hx;have Wk:Has w ik.block (ik.off+i*e.sz) L:=λj u hu=>(hL j u hu).1
       obtain ⟨t',m',H',v',bu,c_,F',k1,kn,k2,k3,k4,k5,k6⟩:=ih e h1 (Ro.rep e (λ_ _=>0) oN jj) (ad:=some (ik.block,ik.off+i*e.sz)) (λb o hb=>by
        simp only[aS,bP] at hb;obtain ⟨rfl,rfl⟩:=hb;exact Wk)
       refine ⟨t',m',H',v',bu,c_,F',k1,λK0=>by simp only[ol];rw[CE h,hx];exact kn K0,?_,k3,λb k=>?_,k5,λ_=>k6 rfl⟩
       ·simp only[bn,h3,aJ,aO,hi,aI,fi Wk hl];exact k2
       ·have:=k4 b k;omega
  | arr n e=>
   cases s with
   | fst=>simp[ol] at h
   | snd=>simp[ol] at h
   | idx i=>simp[ol] at h
   | qO i=>
    obtain ⟨rfl,hf,hl,hlen,hr⟩:=hr;simp only[ol,cM,aI] at h
    cases hx:(v:List e.den)[i]? with
    | none=>rw[hx] at h;cases h
    | some x=>
     rw[hx] at h;simp only[aA] at h;have hi:i < n:=hl ▸ (aR.1 hx).1
     obtain ⟨t',m',H',v',bu,c_,F',k1,kn,k2,k3,k4,k5,k6⟩:=ih e h (Ro.flat e (λ_ _=>0) hf (hr i x hx)) (ad:=iu ad (i*e.sz)) (λb' o hb j u hu=>by
      cases ad with
      | none=>cases hb
      | some y=>
       simp only[iu,bT,aS,bP] at hb;obtain ⟨rfl,rfl⟩:=hb;rw[cJ] at hu;split at hu
       ·rw[bZ] at hu;have:=lH y.1 y.2 rfl _ u hu
        rwa [cW]
       ·cases hu)
     exact ⟨t',m',H',v',bu,c_,F',k1,λK0=>by simp only[ol,cM,aI,hx,aA];exact kn K0,by simp only[bn,cM,aI,hi];exact k2,k3,λb k=>by have:=k4 b k;omega,k5,λh=>k6 (by cases ad <;> simp_all [iu])⟩
  | _=>cases s <;> simp[ol] at h
structure aan (P:Program) (w:World) (A:Cells) {R:Type} (r:R) (p:Path) (t:Ty) (m:Md) (H:List Path) (v:t.den) (cs:List Value) (F:FP) (ad:Option (Nat×Nat))
  (f:(t':Ty)->Md->List Path->t'.den->(Md->List Path->t'.den->Option R)->Option R) (K:Md->List Path->t.den->Option R)
  (t':Ty) (m':Md) (H':List Path) (v':t'.den) (bu:List Value) (c_:Option (Nat×Nat)) (F' G:FP) (kk:Md->List Path->t'.den->Option R) (loc:Option Nat):Prop where
 run:f t' m' H' v' kk=some r
 Sw:∀ {S:Type} (K0:(t':Ty)->Md->List Path->t'.den->Option S),ol p t m H v K0=K0 t' m' H' v'
 place:bn w p t H cs ad=some ⟨t',H',bu,c_⟩
 rep:ao P w A t' m' H' v' bu F'
 sum:∀ b i,F' b i+G b i<=F b i
 has:∀ b o,c_=some (b,o)->Has w b o bu
 ul:∀ off,loc=some off->off+t'.sz<=t.sz/\bu=(cs.drop off).take t'.sz/\c_=iu ad off
 Qp:1<=d9 p->loc=none
 out:loc=none->∃ b o,c_=some (b,o)/\∀ j,j < t'.sz->1<=G b (o+j)/\w.frozen? ⟨b,o+j,none⟩=false
 back:∀ m2 H2 (v2:t'.den),kk m2 H2 v2=some r->∀ (w2:World) (A2:Cells) (d6:List Value) (F2:FP),
  (∀ b n,je w b n->je w2 b n)->(∀ b i,A b i->A2 b i)->(∀ b i,A b i->∀ u,ce w b i=some u->ce w2 b i=some u) ->
  (∀ b i,1<=G b i->(∀ o,c_=some (b,o)->¬ (o<=i/\i < o+t'.sz))->∀ u,ce w b i=some u->ce w2 b i=some u) ->
  (∀ b o,c_=some (b,o)->Has w2 b o d6)->ao P w2 A2 t' m2 H2 v2 d6 F2->(∀ b i,F2 b i+G b i<=1) ->
  ∃ m3 H3 v3 F3,K m3 H3 v3=some r/\(∀ b i,F3 b i<=F2 b i+G b i) /\
   (∀ A3:Cells,(∀ b i,A2 b i->A3 b i)->(∀ b i,1<=F2 b i+G b i->F3 b i=0->A3 b i)->ao P w2 A3 t m3 H3 v3 (lr loc cs t'.sz d6) F3) /\
   (∀ d full,rX d full w t' H' bu c_ w2 H2 d6->rX (d+d9 p) full w t H cs ad w2 H3 (lr loc cs t'.sz d6))
theorem je.frozen {w:World} {b:Nat} {n:Nat×Bool} (h:je w b n) {i:Nat} (hi:i < n.1):w.frozen? ⟨b,i,none⟩=false:=by
 obtain ⟨c,e,fr,h1,h2,h3,_⟩:=h;obtain ⟨lo,pj⟩:=fr;have:=h3 i hi;simp only[World.frozen?,h1];simp only[Bool.and_eq_false_iff,eG];simp only at this;omega
theorem YF {w:World} {A:Cells} {r:R}:∀ (p:Path) (t:Ty) {m:Md} {H:List Path} {v:t.den} {cs:List Value} {F:FP} {ad:Option (Nat×Nat)}
  {f:(t':Ty)->Md->List Path->t'.den->(Md->List Path->t'.den->Option R)->Option R} {K:Md->List Path->t.den->Option R},
  rD p t m H v f K=some r->ao P w A t m H v cs F->(∀ b i,F b i<=1)->(∀ b o,ad=some (b,o)->Has w b o cs)->(∀ b o,ad=some (b,o)->∀ j,j < t.sz->F b (o+j)=0) ->
  ∃ t' m' H' v' bu c_ F' G kk loc,aan P w A r p t m H v cs F ad f K t' m' H' v' bu c_ F' G kk loc:=by
 intro p
 induction p with
 | nil=>
  intro t m H v cs F ad f K h hr hF lH CF;have hlen:=ao.length t hr;refine ⟨t,m,H,v,cs,ad,F,λ_ _=>0,K,some 0,h,λ_=>rfl,rfl,hr,λ_ _=>by simp,lH,?_,(λh=>by simp[d9] at h),(λh=>by cases h),?_⟩
  ·intro off ho;injection ho with ho;subst ho;refine ⟨by omega,?_,?_⟩
   ·rw[dV,<- hlen,fB]
   ·cases ad <;> simp[iu]
  ·intro m2 H2 v2 hk w2 A2 d6 F2 hb hA tr hG CG wu hs;have wK:=ao.length t wu
   have abi:lr (some 0) cs t.sz d6=d6:=by
    simp[lr,zX,List.drop_eq_nil_of_le (show cs.length<=t.sz by omega)]
   rw[abi];refine ⟨m2,H2,v2,F2,hk,λ_ _=>by simp,λA3 rF _=>ao.mono rF (λ_ _ _ _ h=>h) (λ_ _ h=>h) t wu (λ_ _=>aL _) (λ_ _ _ _ h=>h),λd full hd=>hd⟩
 | cons s p ih=>
  intro t m H v cs F ad f K h hr hF lH CF
  cases t with
  | pair a b=>
   obtain ⟨h0,F1,F2,hs,h1,h2⟩:=hr;have hle:=ao.length a h1;have LF:=ao.length b h2;simp only[dD,bQ] at hle LF;have tH:H.any (·.isEmpty)=false:=h0
   have aao:∀ b o,ad=some (b,o)->Has w b o (cs.take a.sz):=λb o hb j u hu=>by
    rw[cJ] at hu;split at hu;exact lH b o hb j u hu;cases hu
   have aap:∀ b' o,iu ad a.sz=some (b',o)->Has w b' o (cs.drop a.sz):=λb' o hb j u hu=>by
    cases ad with
    | none=>cases hb
    | some x=>
     simp only[iu,bT,aS,bP] at hb;obtain ⟨rfl,rfl⟩:=hb;rw[bZ] at hu;have:=lH x.1 x.2 rfl _ u hu
     rwa [cW]
   cases s with
   | fst=>
    simp only[rD,tH] at h
    obtain ⟨t',m',H',v',bu,c_,F',G,kk,loc,M⟩:=ih a h h1 (λb i=>by have:=hs b i;have:=hF b i;omega) aao (λb' o hb j hj=>by
     have:=CF b' o hb j (by simp only[Ty.sz];omega);have:=hs b' (o+j);omega)
    refine ⟨t',m',H',v',bu,c_,F',λb i=>G b i+F2 b i,kk,loc,M.run,λK0=>by simp only[ol,tH];exact M.Sw K0,by simp only[bn,h0];exact M.place,M.rep,λb i=>by have:=hs b i;have:=M.sum b i;omega,M.has,?_,(λh=>M.Qp (by simpa [d9] using h)),?_,?_⟩
    ·intro off ho;obtain ⟨q1,q2,q3⟩:=M.ul off ho;refine ⟨by simp only[Ty.sz];omega,?_,q3⟩
     rw[q2,eD,fL];congr 1;omega
    ·intro ho;obtain ⟨b',o,q1,q2⟩:=M.out ho;exact ⟨b',o,q1,λj hj=>⟨by have:=(q2 j hj).1;omega,(q2 j hj).2⟩⟩
    ·intro m2 H2 v2 hk w2 A2 d6 JN hb hA tr hG CG wu qa;obtain ⟨m3,H3,v3,F3,k1,k2,k3,k4⟩:=M.back m2 H2 v2 hk w2 A2 d6 JN hb hA tr (λb' i hp hn=>hG b' i (by omega) hn) CG wu (λb' i=>by have:=qa b' i;omega);have wK:=ao.length t' wu
     have uG:lr loc cs t'.sz d6=lr loc (cs.take a.sz) t'.sz d6++cs.drop a.sz:=by
      cases loc with
      | none=>simp[lr]
      | some off=>
       have:=(M.ul off rfl).1;simp only[lr,zX];rw[fL,show min off a.sz=off by omega,bN,bN,bN];congr 2;rw[eD];have e:cs.drop a.sz=(cs.drop (off+t'.sz)).drop (a.sz - (off+t'.sz)):=by rw[cU];congr 1;omega
       rw[e,dE]
     have yy:(lr loc (cs.take a.sz) t'.sz d6).length=a.sz:=by
      cases loc with
      | none=>simp[lr];omega
      | some off=>have:=(M.ul off rfl).1;simp only[lr];rw[vn (by simp;omega) wK];simp;omega
     have zh:∀ d full,rX d full w t' H' bu c_ w2 H2 d6->full->lr loc cs t'.sz d6=cs:=λd full hd wL=>by
      obtain ⟨H5,c5,e1,e2⟩:=hd [] ⟨t',H',bu,c_⟩ (bD _) rfl;simp only[bn,aS,Pl.mk.injEq] at e1;have e3:d6=bu:=e1.2.2.1.trans (e2 (.inr wL))
      cases loc with
      | none=>rfl
      | some off=>
       have:=M.ul off rfl;rw[e3,this.2.1,eD,fL,show min t'.sz (a.sz - off)=t'.sz by omega];exact zY (by omega)
     have qp:(lr loc cs t'.sz d6).take a.sz=lr loc (cs.take a.sz) t'.sz d6:=by rw[uG];exact iK yy
     have D_:(lr loc cs t'.sz d6).drop a.sz=cs.drop a.sz:=by rw[uG];exact iL yy
     have JO:∀ b' i,1<=F2 b' i->∀ u,ce w b' i=some u->ce w2 b' i=some u:=λb' i hp u hu=>by
      refine hG b' i (by omega) (λo mi zZ=>?_) u hu;have hsb:=hs b' i;have hFb:=hF b' i
      cases loc with
      | none=>
       obtain ⟨b0,o0,q1,q2⟩:=M.out rfl;rw[q1] at mi;simp only[aS,bP] at mi;obtain ⟨rfl,rfl⟩:=mi;have:=(q2 (i - o0) (by omega)).1;rw[show o0+(i - o0)=i by omega] at this;have:=M.sum b0 i;omega
      | some off=>
       obtain ⟨q1,q2,q3⟩:=M.ul off rfl
       cases ad with
       | none=>rw[q3] at mi;cases mi
       | some x=>
        rw[q3] at mi;simp only[iu,bT,aS,bP] at mi;obtain ⟨rfl,rfl⟩:=mi;have:=CF x.1 x.2 rfl (i - x.2) (by simp only[Ty.sz];omega);rw[show x.2+(i - x.2)=i by omega] at this;omega
     refine ⟨_,_,_,λb' i=>F3 b' i+F2 b' i,k1,λb' i=>by have:=k2 b' i;show F3 b' i+F2 b' i<=_;omega,λA3 rF nc=>?_,λd full hd=>?_⟩
     ·refine ⟨by rw[sN,rE,rE];rfl,F3,F2,λ_ _=>aL _,?_,?_⟩
      ·rw[qp,cN,uj,uO,cI];refine k3 A3 rF λb' i hp hz=>nc b' i (by omega) ?_;have:=qa b' i;show F3 b' i+F2 b' i=0;omega
      ·rw[D_,cN,uP,uk,bO];exact ao.mono (λb' i ha=>rF b' i (hA b' i ha)) tr hb b h2 (λ_ _=>aL _) JO
     ·intro q pl hq hp
      cases q with
      | nil=>
       simp only[bn,aS] at hp;subst hp;refine ⟨_,_,rfl,λh=>?_⟩
       rcases h with ⟨_,hs⟩ | wL
       ·simp[wJ] at hs
       ·exact zh d full hd wL
      | cons s q=>
       cases s with
       | fst=>
        simp only[bn,h0,aJ,aO] at hp;obtain ⟨H4,Wl,e1,e2⟩:=k4 d full hd q pl (by simpa [d9] using hq) hp;refine ⟨H4,Wl,?_,λtt=>e2 (by simpa [d9] using tt)⟩
        simp only[bn,sN,rE,gE,aJ,aO];rw[qp,cN,uj,uO,cI];exact e1
       | snd=>
        simp only[bn,h0,aJ,aO] at hp;refine ⟨pl.H,pl.cs,?_,λ_=>rfl⟩
        simp only[bn,sN,rE,gE,aJ,aO];rw[D_,cN,uP,uk,bO];exact wt tr q b h2 JO hp
       | idx i=>simp[bn] at hp
       | qO i=>simp[bn] at hp
   | snd=>
    simp only[rD,tH] at h
    obtain ⟨t',m',H',v',bu,c_,F',G,kk,loc,M⟩:=ih b h h2 (λb i=>by have:=hs b i;have:=hF b i;omega) aap (λb' o hb j hj=>by
     cases ad with
     | none=>cases hb
     | some x=>
      simp only[iu,bT,aS,bP] at hb;obtain ⟨rfl,rfl⟩:=hb;have:=CF x.1 x.2 rfl (a.sz+j) (by simp only[Ty.sz];omega);have:=hs x.1 (x.2+(a.sz+j))
      rw[cW];omega)
    refine ⟨t',m',H',v',bu,c_,F',λb i=>G b i+F1 b i,kk,loc.map (a.sz+·),M.run,λK0=>by simp only[ol,tH];exact M.Sw K0,by simp only[bn,h0];exact M.place,M.rep,λb i=>by have:=hs b i;have:=M.sum b i;omega,M.has,?_,(λh=>by rw[M.Qp (by simpa [d9] using h)];rfl),?_,?_⟩
    ·intro YG ho;obtain ⟨off,YH,rfl⟩:=Option.map_eq_some_iff.1 ho;obtain ⟨q1,q2,q3⟩:=M.ul off YH;refine ⟨by simp only[Ty.sz];omega,by rw[q2,cU],?_⟩
     rw[q3];cases ad <;> simp[iu,cW]
    ·intro ho;obtain ⟨b',o,q1,q2⟩:=M.out (by simpa using ho);exact ⟨b',o,q1,λj hj=>⟨by have:=(q2 j hj).1;omega,(q2 j hj).2⟩⟩
    ·intro m2 H2 v2 hk w2 A2 d6 JN hb hA tr hG CG wu qa;obtain ⟨m3,H3,v3,F3,k1,k2,k3,k4⟩:=M.back m2 H2 v2 hk w2 A2 d6 JN hb hA tr (λb' i hp hn=>hG b' i (by omega) hn) CG wu (λb' i=>by have:=qa b' i;omega);have wK:=ao.length t' wu
     have uG:lr (loc.map (a.sz+·)) cs t'.sz d6=cs.take a.sz++lr loc (cs.drop a.sz) t'.sz d6:=by
      cases loc with
      | none=>simp[lr]
      | some off=>
       have:=(M.ul off rfl).1;simp only[lr,zX,bT];rw[List.take_add,cU,bN,bN,bN,cW]
     have yy:(cs.take a.sz).length=a.sz:=by simp;omega
     have zh:∀ d full,rX d full w t' H' bu c_ w2 H2 d6->full->lr (loc.map (a.sz+·)) cs t'.sz d6=cs:=λd full hd wL=>by
      obtain ⟨H5,c5,e1,e2⟩:=hd [] ⟨t',H',bu,c_⟩ (bD _) rfl;simp only[bn,aS,Pl.mk.injEq] at e1;have e3:d6=bu:=e1.2.2.1.trans (e2 (.inr wL))
      cases loc with
      | none=>rfl
      | some off=>
       have:=M.ul off rfl;rw[e3,this.2.1,cU];exact zY (show a.sz+off+t'.sz<=cs.length by omega)
     have qp:(lr (loc.map (a.sz+·)) cs t'.sz d6).take a.sz=cs.take a.sz:=by rw[uG];exact iK yy
     have D_:(lr (loc.map (a.sz+·)) cs t'.sz d6).drop a.sz=lr loc (cs.drop a.sz) t'.sz d6:=by rw[uG];exact iL yy
     have JO:∀ b' i,1<=F1 b' i->∀ u,ce w b' i=some u->ce w2 b' i=some u:=λb' i hp u hu=>by
      refine hG b' i (by omega) (λo mi zZ=>?_) u hu;have hsb:=hs b' i;have hFb:=hF b' i
      cases loc with
      | none=>
       obtain ⟨b0,o0,q1,q2⟩:=M.out rfl;rw[q1] at mi;simp only[aS,bP] at mi;obtain ⟨rfl,rfl⟩:=mi;have:=(q2 (i - o0) (by omega)).1;rw[show o0+(i - o0)=i by omega] at this;have:=M.sum b0 i;omega
      | some off=>
       obtain ⟨q1,q2,q3⟩:=M.ul off rfl
       cases ad with
       | none=>rw[q3] at mi;cases mi
       | some x=>
        rw[q3] at mi;simp only[iu,bT,aS,bP] at mi;obtain ⟨rfl,rfl⟩:=mi;have:=CF x.1 x.2 rfl (i - x.2) (by simp only[Ty.sz];omega);rw[show x.2+(i - x.2)=i by omega] at this;omega
     refine ⟨_,_,_,λb' i=>F3 b' i+F1 b' i,k1,λb' i=>by have:=k2 b' i;show F3 b' i+F1 b' i<=_;omega,λA3 rF nc=>?_,λd full hd=>?_⟩
     ·refine ⟨by rw[sN,rE,rE];rfl,F1,F3,λb' i=>by show F1 b' i+F3 b' i<=F3 b' i+F1 b' i;omega,?_,?_⟩
      ·rw[qp,cN,uj,uO,cI];exact ao.mono (λb' i ha=>rF b' i (hA b' i ha)) tr hb a h1 (λ_ _=>aL _) JO
      ·rw[D_,cN,uP,uk,bO];refine k3 A3 rF λb' i hp hz=>nc b' i (by omega) ?_;have:=qa b' i;show F3 b' i+F1 b' i=0;omega
     ·intro q pl hq hp
      cases q with
      | nil=>
       simp only[bn,aS] at hp;subst hp;refine ⟨_,_,rfl,λh=>?_⟩
       rcases h with ⟨_,hs⟩ | wL
       ·simp[wJ] at hs
       ·exact zh d full hd wL
      | cons s q=>
       cases s with
       | snd=>
        simp only[bn,h0,aJ,aO] at hp;obtain ⟨H4,Wl,e1,e2⟩:=k4 d full hd q pl (by simpa [d9] using hq) hp;refine ⟨H4,Wl,?_,λtt=>e2 (by simpa [d9] using tt)⟩
        simp only[bn,sN,rE,gE,aJ,aO];rw[D_,cN,uP,uk,bO];exact e1
       | fst=>
        simp only[bn,h0,aJ,aO] at hp;refine ⟨pl.H,pl.cs,?_,λ_=>rfl⟩
        simp only[bn,sN,rE,gE,aJ,aO];rw[qp,cN,uj,uO,cI];exact wt tr q a h1 JO hp
       | idx i=>simp[bn] at hp
       | qO i=>simp[bn] at hp
   | idx i=>simp[rD] at h
   | qO i=>simp[rD] at h
  | aa e=>
   cases s with
   | fst=>simp[rD] at h
   | snd=>simp[rD] at h
   | qO i=>simp[rD] at h
   | idx i=>
    simp only[rD] at h;split at h
    ·rename_i jE;obtain ⟨h1,h2,h3⟩:=D9 h
     cases hx:(v:List e.den)[i]? with
     | none=>rw[hx] at h1;cases h1
     | some x=>
      rw[hx] at h1;simp only[aA] at h1;have hi:i < List.length v:=(aR.1 hx).1;simp only[ao,h3,aJ,aO,jE,aI] at hr;obtain ⟨a,cap,rfl,g2,g3,g4,g5⟩:=hr
      cases a with
      | none=>have:=g4 rfl;omega
      | some ik=>
       obtain ⟨q1,q2,q3,Fi,q4,q5⟩:=g5 ik rfl;obtain ⟨L,hl,hL,jj⟩:=q5 i x hx
       have ax:∀ k,k < List.length v->∀ j,j < e.sz->k*e.sz+j < cap*e.sz:=λk hk j hj=>by
        have ax:(k+1)*e.sz<=cap*e.sz:=bH _ (by omega);rw[dL] at ax;omega
       have LG:∀ k,k < cap*e.sz->ep ik.block 0 (cap*e.sz) ik.block k=1:=λk hk=>by simp[ep,hk]
       obtain ⟨t',m',H',v',bu,c_,F',G,kk,loc,M⟩:=ih e h1 jj (λb k=>by have:=q4 b k;have:=hF b k;have:=dv Fi hi b k;omega)
        (ad:=some (ik.block,i*e.sz)) (λb o hb=>by simp only[aS,bP] at hb;obtain ⟨rfl,rfl⟩:=hb;exact hL)
        (λb o hb j hj=>by
         simp only[aS,bP] at hb;obtain ⟨rfl,rfl⟩:=hb;have:=q4 ik.block (i*e.sz+j);have:=hF ik.block (i*e.sz+j);have:=dv Fi hi ik.block (i*e.sz+j)
         have:=LG _ (ax i hi j hj);omega)
       have I9:∀ b k,bg (List.length v) (ge Fi i G) b k+Fi i b k=bg (List.length v) Fi b k+G b k:=tO Fi hi G
       have BI:∀ b k,G b k<=bg (List.length v) (ge Fi i G) b k:=λb k=>by
        have:=dv (ge Fi i G) hi b k;simpa [ge] using this
       refine ⟨t',m',H',v',bu,c_,F',λb k=>ep ik.block 0 (cap*e.sz) b k+bg (List.length v) (ge Fi i G) b k,kk,none,M.run,λK0=>by simp only[ol];rw[CE h,hx];exact M.Sw K0,?_,M.rep,λb k=>by have:=I9 b k;have:=M.sum b k;have:=q4 b k;omega,M.has,(λoff ho=>by cases ho),(λ_=>rfl),?_,?_⟩
       ·simp only[bn,h3,aJ,aO,hi,aI,q1,cB,fi hL hl];exact M.place
       ·intro _
        cases loc with
        | none=>
         obtain ⟨b',o,e1,e2⟩:=M.out rfl;exact ⟨b',o,e1,λj hj=>⟨by have:=(e2 j hj).1;have:=BI b' (o+j);omega,(e2 j hj).2⟩⟩
        | some off=>
         obtain ⟨e1,e2,e3⟩:=M.ul off rfl;refine ⟨ik.block,i*e.sz+off,e3,λj hj=>?_⟩
         have zb:=ax i hi (off+j) (by omega);rw[<-cW] at zb;exact ⟨by have:=LG _ zb;omega,q3.frozen zb⟩
       ·intro m2 H2 v2 hk w2 A2 d6 JN hb hA tr hG CG wu qa
        obtain ⟨m3,H3,v3,F3,k1,k2,k3,k4⟩:=M.back m2 H2 v2 hk w2 A2 d6 JN hb hA tr (λb' i hp hn=>hG b' i (by have:=BI b' i;omega) hn) CG wu
         (λb' i=>by have:=qa b' i;have:=BI b' i;omega)
        have wK:=ao.length t' wu
        have apart:∀ b' k,(∀ o,c_=some (b',o)->o<=k/\k < o+t'.sz->1<=Fi i b' k\/(b'=ik.block/\i*e.sz<=k/\k < i*e.sz+e.sz)):=λb' k o mi zZ=>by
         cases loc with
         | none=>
          obtain ⟨b0,o0,e1,e2⟩:=M.out rfl;rw[e1] at mi;simp only[aS,bP] at mi;obtain ⟨rfl,rfl⟩:=mi;have:=(e2 (k - o0) (by omega)).1;rw[show o0+(k - o0)=k by omega] at this;have:=M.sum b0 k;left;omega
         | some off=>
          obtain ⟨e1,e2,e3⟩:=M.ul off rfl;rw[e3] at mi;simp only[iu,bT,aS,bP] at mi;obtain ⟨rfl,rfl⟩:=mi;exact .inr ⟨rfl,by omega,by omega⟩
        have JO:∀ j,j < List.length v->j≠i->∀ b' k,1<=Fi j b' k->∀ u,ce w b' k=some u->ce w2 b' k=some u:=λj hj oy b' k hp u hu=>by
         have h1:=dv (ge Fi i G) hj b' k;have e1:ge Fi i G j=Fi j:=by simp[ge,oy]
         rw[e1] at h1;refine hG b' k (by omega) (λo mi zZ=>?_) u hu;have h2:=q4 b' k;have h3:=hF b' k;have h4:=uN Fi hj hi oy b' k
         rcases apart b' k o mi zZ with h | ⟨rfl,YI,YJ⟩
         ·omega
         ·have:=LG (i*e.sz+(k - i*e.sz)) (ax i hi _ (by omega));rw[show i*e.sz+(k - i*e.sz)=k by omega] at this;omega
        have cell:∀ j,j < List.length v->j≠i->∀ k,k < e.sz->∀ u,ce w ik.block (j*e.sz+k)=some u->ce w2 ik.block (j*e.sz+k)=some u:=λj hj oy k hk u hu=>by
         have wM:=LG _ (ax j hj k hk);refine hG _ _ (by omega) (λo mi zZ=>?_) u hu;have h2:=q4 ik.block (j*e.sz+k);have h3:=hF ik.block (j*e.sz+k)
         rcases apart _ _ o mi zZ with h | ⟨_,YI,YJ⟩
         ·have:=dv Fi hi ik.block (j*e.sz+k);omega
         ·have kF:j < i\/i < j:=by omega
          rcases kF with z6 | z6
          ·have:(j+1)*e.sz<=i*e.sz:=bH _ z6;rw[dL] at this;omega
          ·have:(i+1)*e.sz<=j*e.sz:=bH _ z6;rw[dL] at this;omega
        have YK:Has w2 ik.block (i*e.sz) (lr loc L t'.sz d6):=by
         have yN:∀ j u,L[j]?=some u->(∀ off,loc=some off->¬ (off<=j/\j < off+t'.sz))->ce w2 ik.block (i*e.sz+j)=some u:=λj u hu hn=>by
          have hj:j < e.sz:=hl ▸ (aR.1 hu).1;have wM:=LG _ (ax i hi j hj);refine hG _ _ (by omega) (λo mi zZ=>?_) u (hL j u hu)
          cases loc with
          | none=>
           obtain ⟨b0,o0,e1,e2⟩:=M.out rfl;rw[e1] at mi;simp only[aS,bP] at mi;obtain ⟨rfl,rfl⟩:=mi;have:=(e2 (i*e.sz+j - o0) (by omega)).1;rw[show o0+(i*e.sz+j - o0)=i*e.sz+j by omega] at this;have h2:=q4 ik.block (i*e.sz+j);have h3:=hF ik.block (i*e.sz+j);have:=BI ik.block (i*e.sz+j);have:=I9 ik.block (i*e.sz+j);have:=M.sum ik.block (i*e.sz+j)
           have:=dv Fi hi ik.block (i*e.sz+j);omega
          | some off=>
           obtain ⟨e1,e2,e3⟩:=M.ul off rfl;rw[e3] at mi;simp only[iu,bT,aS,bP] at mi;obtain ⟨_,rfl⟩:=mi;exact hn off rfl (by omega)
         cases loc with
         | none=>exact λj u hu=>yN j u hu (λoff ho=>by cases ho)
         | some off=>
          obtain ⟨e1,e2,e3⟩:=M.ul off rfl;exact Pf (by omega) wK (CG _ _ e3) (λj u hu hn=>yN j u hu (λYG ho=>by injection ho with ho;subst ho;exact hn))
        have Sx:(lr loc L t'.sz d6).length=e.sz:=by
         cases loc with
         | none=>exact hl
         | some off=>have:=(M.ul off rfl).1;simp only[lr];rw[vn (by omega) wK,hl]
        have GI:∀ (j:Nat) (y:e.den),(List.set v i v3)[j]?=some y->(j=i/\y=v3)\/(j≠i/\(v:List e.den)[j]?=some y):=λj y hy=>by
         rw[eH] at hy;split at hy
         ·rename_i ui;subst ui;injection hy with hy;exact .inl ⟨rfl,hy.symm⟩
         ·rename_i ui;exact .inr ⟨λh=>ui h.symm,hy⟩
        have others:∀ A3:Cells,(∀ b i,A2 b i->A3 b i)->∀ (j:Nat) (y:e.den),j≠i->(v:List e.den)[j]?=some y->∃ L:List Value,L.length=e.sz/\Has w2 ik.block (j*e.sz) L/\Has w ik.block (j*e.sz) L/\ao P w A e m.e [] y L (Fi j)/\ao P w2 A3 e m.e [] y L (Fi j):=λA3 rF j y oy hy=>by
         have hj:j < List.length v:=(aR.1 hy).1;obtain ⟨Lj,HA,Wm,Sy⟩:=q5 j y hy;rw[h2 j oy] at Sy;exact ⟨Lj,HA,λk u hu=>cell j hj oy k (HA ▸ (aR.1 hu).1) u (Wm k u hu),Wm,Sy,ao.mono (λb' i ha=>rF b' i (hA b' i ha)) tr hb e Sy (λ_ _=>aL _) (JO j hj oy)⟩
        have YL:∀ H4:List Path,hole H4=false->H4.filterMap (lG i)=H3->(∀ j,j≠i->H4.filterMap (lG j)=[])->∀ d full,rX d full w t' H' bu c_ w2 H2 d6->rX (d+d9 (.idx i::p)) full w (.aa e) H [.slice (some ik) (List.length v) cap] ad w2 H4 [.slice (some ik) (List.length v) cap]:=by
         intro H4 hH4 hHi hHj d full hd q pl hq hp
         cases q with
         | nil=>
          simp only[bn,aS] at hp;subst hp;exact ⟨_,_,rfl,λ_=>rfl⟩
         | cons s q=>
          cases s with
          | fst=>simp[bn] at hp
          | snd=>simp[bn] at hp
          | qO j=>simp[bn] at hp
          | idx j=>
           simp only[bn,h3,aJ,aO] at hp;split at hp
           ·rename_i hj;by_cases oy:j=i
            ·subst oy;rw[q1,cB,fi hL hl] at hp;obtain ⟨H5,YM,e1,e2⟩:=k4 d full hd q pl (by simp only[d9] at hq;omega) hp;refine ⟨H5,YM,?_,λtt=>e2 (tt.imp (λh=>⟨by have:=h.1;simp only[d9] at this;omega,h.2⟩) id)⟩
             simp only[bn,hH4,aJ,aO,hj,aI,q1,cB,fi YK Sx,hHi];exact e1
            ·obtain ⟨Lj,HA,LH,Wm,Sy,_⟩:=others A2 (λ_ _ h=>h) j _ oy (aB hj);rw[q1,cB,fi Wm HA,h2 j oy] at hp;refine ⟨pl.H,pl.cs,?_,λ_=>rfl⟩
             simp only[bn,hH4,aJ,aO,hj,aI,q1,cB,fi LH HA,hHj j oy];exact wt tr q e Sy (JO j hj oy) hp
           ·cases hp
        simp only[lr];by_cases DV:m3=m.e
        ·rw[aM DV] at k1;subst DV;refine ⟨_,_,_,λb' k=>ep ik.block 0 (cap*e.sz) b' k+bg (List.length v) (ge Fi i F3) b' k,k1,λb' k=>?_,λA3 rF nc=>?_,YL _ (rE _ _) (DU _ _) (λj hj=>zW hj _)⟩
         ·have:=tO Fi hi F3 b' k;have:=I9 b' k;have:=k2 b' k
          show ep ik.block 0 (cap*e.sz) b' k+bg (List.length v) (ge Fi i F3) b' k<=_;omega
         ·simp only[ao,rE,aJ,aO,Md.own,aI];refine ⟨some ik,cap,by simp,by simpa using g2,g3,(λhn=>by cases hn),λFS GJ=>?_⟩
          injection GJ with GJ;subst GJ;refine ⟨q1,q2,hb _ _ q3,ge Fi i F3,λb' k=>by simp,λj y hy=>?_⟩
          rcases GI j y hy with ⟨rfl,rfl⟩ | ⟨oy,FT⟩
          ·refine ⟨_,Sx,YK,?_⟩
           rw[DU];simp only[Md.e,ge,aI];refine k3 A3 rF λb' k hp hz=>nc b' k ?_ ?_
           ·have:=BI b' k;omega
           ·have h5:=qa b' k;have h6:=tO Fi hi F3 b' k;have h7:=I9 b' k;have:=BI b' k
            have h8:=q4 b' k;have h9:=M.sum b' k
            have:=k2 b' k;show ep ik.block 0 (cap*e.sz) b' k+bg (List.length v) (ge Fi j F3) b' k=0;omega
          ·obtain ⟨Lj,HA,LH,_,_,UQ⟩:=others A3 rF j y oy FT;refine ⟨Lj,HA,LH,?_⟩
           rw[zW oy];simp only[ge,aP oy];exact UQ
        ·rw[aP DV] at k1;split at k1
         ·rename_i JP;have JP:H3=[]:=bG.1 JP;refine ⟨_,_,_,λb' k=>ep ik.block 0 (cap*e.sz) b' k,k1,λb' k=>by show ep ik.block 0 (cap*e.sz) b' k<=_;omega,λA3 rF nc=>?_,YL _ rfl (by rw[JP];rfl) (λj hj=>rfl)⟩
          simp only[ao,hole,bV,aJ,aO,Md.own,aI];refine ⟨some ik,cap,by simp,by simpa using g2,g3,(λhn=>by cases hn),λFS GJ=>?_⟩
          injection GJ with GJ;subst GJ;refine ⟨q1,q2,hb _ _ q3,λ_ _ _=>0,λb' k=>by rw[m_];simp,λj y hy=>?_⟩
          have fz:∀ b' k,1<=JN b' k+(ep ik.block 0 (cap*e.sz) b' k+bg (List.length v) (ge Fi i G) b' k)->ep ik.block 0 (cap*e.sz) b' k=0->A3 b' k:=nc
          rcases GI j y hy with ⟨rfl,rfl⟩ | ⟨oy,FT⟩
          ·refine ⟨_,Sx,YK,?_⟩
           have YN:=k3 A3 rF λb' k hp hz=>fz b' k (by have:=BI b' k;omega) (by
            have h5:=qa b' k;have:=BI b' k;omega)
           rw[JP] at YN;refine Ro.rep e _ (it e) (ao.wI (λ_ _ h=>h) e YN λb' k hp=>fz b' k ?_ ?_)
           ·have:=k2 b' k;have:=BI b' k;omega
           ·have h5:=qa b' k;have:=BI b' k;have:=k2 b' k;omega
          ·obtain ⟨Lj,HA,LH,_,_,UQ⟩:=others A3 rF j y oy FT;have hj:j < List.length v:=(aR.1 FT).1;refine ⟨Lj,HA,LH,Ro.rep e _ (it e) (ao.wI (λ_ _ h=>h) e UQ λb' k hp=>?_)⟩
           have h1:=dv (ge Fi i G) hj b' k;have e1:ge Fi i G j=Fi j:=by simp[ge,oy]
           rw[e1] at h1;have h5:=qa b' k;exact fz b' k (by omega) (by omega)
         ·cases k1
    ·cases h
  | arr n e=>
   cases s with
   | fst=>simp[rD] at h
   | snd=>simp[rD] at h
   | idx i=>simp[rD] at h
   | qO i=>
    obtain ⟨rfl,hf,hl,hlen,hr⟩:=hr;simp only[rD,cM,aI] at h
    cases hx:(v:List e.den)[i]? with
    | none=>rw[hx] at h;cases h
    | some x=>
     rw[hx] at h;simp only[aA] at h;have hi:i < n:=hl ▸ (aR.1 hx).1
     have i7:∀ j,j < n->j*e.sz+e.sz<=cs.length:=λj hj=>by
      have:(j+1)*e.sz<=n*e.sz:=bH _ hj;rw[dL] at this;omega
     have lT:∀ j,j < n->((cs.drop (j*e.sz)).take e.sz).length=e.sz:=λj hj=>by have:=i7 j hj;simp;omega
     obtain ⟨t',m',H',v',bu,c_,F',G,kk,loc,M⟩:=ih e h (Ro.flat e (λ_ _=>0) hf (hr i x hx)) (λ_ _=>bD _) (ad:=iu ad (i*e.sz)) (λb' o hb j u hu=>by
      cases ad with
      | none=>cases hb
      | some y=>
       simp only[iu,bT,aS,bP] at hb;obtain ⟨rfl,rfl⟩:=hb;rw[cJ] at hu;split at hu
       ·rw[bZ] at hu;have:=lH y.1 y.2 rfl _ u hu
        rwa [cW]
       ·cases hu) (λ_ _ _ _ _=>rfl)
     have Pg:∀ b k,G b k=0:=λb k=>by have:=M.sum b k;omega
     have FU:∀ b k,F' b k=0:=λb k=>by have:=M.sum b k;omega
     have Qq:∀ h:loc=none,t'.sz=0:=λh=>by
      obtain ⟨b',o,e1,e2⟩:=M.out h;rcases bM t'.sz with h0 | h0
      ·exact h0
      ·have:=(e2 0 h0).1;rw[Pg] at this;omega
     refine ⟨t',m',H',v',bu,c_,F',F,kk,loc.map (i*e.sz+·),M.run,λK0=>by simp only[ol,cM,aI,hx,aA];exact M.Sw K0,by simp only[bn,cM,aI,hi];exact M.place,M.rep,λb k=>by rw[FU];omega,M.has,?_,(λh=>by rw[M.Qp (by simpa [d9] using h)];rfl),?_,?_⟩
     ·intro YG ho;obtain ⟨off,YH,rfl⟩:=Option.map_eq_some_iff.1 ho;obtain ⟨q1,q2,q3⟩:=M.ul off YH;have:=i7 i hi;refine ⟨by simp only[Ty.sz];omega,?_,by rw[q3];cases ad <;> simp[iu,cW]⟩
      rw[q2,eD,fL,cU];congr 1;omega
     ·intro ho;obtain ⟨b',o,q1,q2⟩:=M.out (by simpa using ho);have:=Qq (by simpa using ho);exact ⟨b',o,q1,λj hj=>by omega⟩
     ·intro m2 H2 v2 hk w2 A2 d6 JN hb hA tr hG CG wu qa;obtain ⟨m3,H3,v3,F3,k1,k2,k3,k4⟩:=M.back m2 H2 v2 hk w2 A2 d6 JN hb hA tr (λb' i hp hn=>by rw[Pg] at hp;omega) CG wu (λb' i=>by have:=qa b' i;rw[Pg];omega);have wK:=ao.length t' wu;split at k1
      ·rename_i JP;have JP:H3=[]:=bG.1 JP
       have uG:lr (loc.map (i*e.sz+·)) cs t'.sz d6=zX cs (i*e.sz) e.sz (lr loc ((cs.drop (i*e.sz)).take e.sz) t'.sz d6):=by
        cases loc with
        | none=>simp only[lr,gR];exact (zY (i7 i hi)).symm
        | some off=>
         have:=(M.ul off rfl).1;exact (Xz this (i7 i hi) wK).symm
       have yy:(lr loc ((cs.drop (i*e.sz)).take e.sz) t'.sz d6).length=e.sz:=by
        cases loc with
        | none=>exact lT i hi
        | some off=>have:=(M.ul off rfl).1;simp only[lr];rw[vn (by rw[lT i hi];omega) wK,lT i hi]
       have Qr:∀ j,j < n->((lr (loc.map (i*e.sz+·)) cs t'.sz d6).drop (j*e.sz)).take e.sz=if j=i then lr loc ((cs.drop (i*e.sz)).take e.sz) t'.sz d6 else (cs.drop (j*e.sz)).take e.sz:=λj hj=>by
        rw[uG];apply eF;intro k;rw[cJ];split
        ·rename_i hk;rw[bZ,B8 (i7 i hi) yy];by_cases oy:j=i
         ·subst oy;rw[aM (by omega),aM rfl];congr 1;omega
         ·rw[aP oy,cJ,aM hk,bZ,aP];have kF:j < i\/i < j:=by omega
          rcases kF with z6 | z6
          ·have:(j+1)*e.sz<=i*e.sz:=bH _ z6;rw[dL] at this;omega
          ·have:(i+1)*e.sz<=j*e.sz:=bH _ z6;rw[dL] at this;omega
        ·rename_i hk;by_cases oy:j=i
         ·rw[aM oy,eA (by omega)]
         ·rw[aP oy,eA (by rw[lT j hj];omega)]
       have zh:∀ d full,rX d full w t' H' bu c_ w2 H2 d6->full->lr (loc.map (i*e.sz+·)) cs t'.sz d6=cs:=λd full hd wL=>by
        obtain ⟨H5,c5,e1,e2⟩:=hd [] ⟨t',H',bu,c_⟩ (bD _) rfl;simp only[bn,aS,Pl.mk.injEq] at e1;have e3:d6=bu:=e1.2.2.1.trans (e2 (.inr wL))
        cases loc with
        | none=>rfl
        | some off=>
         have:=M.ul off rfl;have:=i7 i hi;rw[e3,(M.ul off rfl).2.1,eD,fL,show min t'.sz (e.sz - off)=t'.sz by omega,cU];exact zY (show i*e.sz+off+t'.sz<=cs.length by omega)
       have aaq:(lr (loc.map (i*e.sz+·)) cs t'.sz d6).length=n*e.sz:=by rw[uG,vn (i7 i hi) yy,hlen]
       refine ⟨_,_,_,λb' k=>F3 b' k+F b' k,k1,λb' k=>by have:=k2 b' k;have:=Pg b' k;show F3 b' k+F b' k<=_;omega,λA3 rF nc=>?_,λd full hd=>?_⟩
       ·refine ⟨rfl,hf,by simpa using hl,aaq,λj y hy=>?_⟩
        have hj:j < n:=by have:=(aR.1 hy).1;rw[aZ] at this;omega
        rw[Qr j hj];rw[eH] at hy;split at hy
        ·rename_i ui;subst ui
         have hy:some v3=some y:=by
          split at hy
          ·exact hy
          ·cases hy
         injection hy with hy;rw[aM rfl,<- hy];exact ao.flat e hf (k3 A3 rF λb' k hp hz=>nc b' k (by have:=Pg b' k;omega) (by have:=qa b' k;have:=Pg b' k;show F3 b' k+F b' k=0;omega))
        ·rename_i ui;rw[aP (λh=>ui h.symm)];exact Ro.mono tr (λb' k ha=>rF b' k (hA b' k ha)) e (hr j y hy)
       ·intro q pl hq hp
        cases q with
        | nil=>
         simp only[bn,aS] at hp;subst hp;refine ⟨_,_,rfl,λh=>?_⟩
         rcases h with ⟨_,hs⟩ | wL
         ·simp[wJ] at hs
         ·exact zh d full hd wL
        | cons s q=>
         cases s with
         | fst=>simp[bn] at hp
         | snd=>simp[bn] at hp
         | idx j=>simp[bn] at hp
         | qO j=>
          simp only[bn,cM,aI] at hp;split at hp
          ·rename_i hj;by_cases oy:j=i
           ·subst oy;obtain ⟨H5,YM,e1,e2⟩:=k4 d full hd q pl (by simp only[d9] at hq;omega) hp;refine ⟨H5,YM,?_,λtt=>e2 (tt.imp (λh=>⟨by have:=h.1;simp only[d9] at this;omega,h.2⟩) id)⟩
            simp only[bn,cM,aI,hj];rw[Qr j hj,aM rfl];rw[JP] at e1;exact e1
           ·refine ⟨pl.H,pl.cs,?_,λ_=>rfl⟩
            simp only[bn,cM,aI,hj];rw[Qr j hj,aP oy];exact wt tr q e (Ro.flat e (m:=.leaf) (λ_ _=>0) hf (hr j _ (aB (by rw[hl];exact hj)))) (λb k hp=>by simp at hp) hp
          ·cases hp
      ·cases k1
  | _=>cases s <;> simp[rD] at h
end
end OT
set_option linter.unusedVariables false
set_option linter.unusedSimpArgs false
namespace OT
open Go
def tmp (a:Act) (i:Nat):Value:=a.tmps.getD i undef
section
variable {P:Program} {w:World} {A:Cells}
theorem Ro.one:∀ (t:Ty) {v:t.den} {cs:List Value},Ro P w A t v cs->∀ x ∈ cs,x.oneCell'=true:=by
 intro t
 induction t with
 | pair a b mX mO=>
  intro v cs h x hx;rw[<-dE a.sz cs] at hx;rcases bU.1 hx with hx | hx
  ·exact mX h.1 x hx
  ·exact mO h.2 x hx
 | arr n e ih=>
  intro v cs h x hx;obtain ⟨hf,hl,hlen,hr⟩:=h;obtain ⟨k,hk,rfl⟩:=cV.1 hx;rw[hlen] at hk
  have nC:0 < e.sz:=by
   grind
  have hi:k / e.sz < n:=(fH nC).2 hk;refine ih (hr (k / e.sz) _ (aB (by grind))) _ ?_;rw[fI];refine ⟨k % e.sz,?_⟩
  grind [Nat.mod_lt,Nat.div_add_mod]
 | aa e ih=>rintro v cs ⟨a,cap,rfl,_⟩ x hx;simp at hx;subst hx;rfl
 | ptr e ih=>rintro v cs ⟨a,rfl,_⟩ x hx;simp at hx;subst hx;rfl
 | fn=>rintro v cs ⟨a,rfl,_⟩ x hx;simp at hx;subst hx;rfl
 | map k v=>rintro v cs ⟨_,_,r,uh,rfl,_⟩ x hx;simp at hx;subst hx;rfl
 | unit=>grind [Ro]
 | _=>intro v cs h x hx;simp only[Ro] at h;subst h;simp at hx;subst hx;rfl
theorem ao.one:∀ (t:Ty) {m:Md} {H:List Path} {v:t.den} {cs:List Value} {F:FP},ao P w A t m H v cs F->∀ x ∈ cs,x.oneCell'=true:=by
 intro t
 induction t with
 | pair a b mX mO=>
  intro m H v cs F h x hx;obtain ⟨_,F1,F2,_,h1,h2⟩:=h;grind [List.take_append_drop]
 | aa e ih=>
  intro m H v cs F h x hx;simp only[ao] at h;split at h
  ·grind
  ·split at h
   ·obtain ⟨a,cap,rfl,_⟩:=h;simp at hx;subst hx;rfl
   grind [Ro.one]
 | ptr e ih=>
  intro m H v cs F h x hx;simp only[ao] at h;split at h
  ·grind
  ·split at h
   ·obtain ⟨a,rfl,_⟩:=h;simp at hx;subst hx;rfl
   grind [Ro.one]
 | arr n e ih=>intro m H v cs F h;exact Ro.one _ h.2
 | map k v=>
  intro m H v cs F h x hx;simp only[ao] at h;split at h
  ·grind
  ·split at h
   ·obtain ⟨_,_,r,uh,rfl,_⟩:=h;simp at hx;subst hx;rfl
   grind [Ro.one]
 | _=>intro m H v cs F h;exact Ro.one _ h
end
theorem lu {t:Ty} {cs:List Value} (hl:cs.length=t.sz) (h1:∀ x ∈ cs,x.oneCell'=true):(dq t cs).cells.toList=cs:=by
 unfold dq;split
 ·simp[Value.cells]
 ·rename_i h;have:t.sz=1:=by cases t <;> simp_all [isAgg,Ty.sz]
  match cs,hl with
  | [x],_=>
   have:=h1 x (by simp);cases x <;> simp_all [Value.cells,Value.oneCell']
  | [],hl=>grind
  | _::_::_,hl=>grind
def Below (snap v:List Nat):Prop:=∀ (j x:Nat),snap[j]?=some x->∃ y,v[j]?=some y/\x<=y
theorem GK:∀ (s v:List Nat),preB s v=true↔∀ (j x:Nat),s[j]?=some x->v[j]?=some x
 | [],v=>by simp[preB]
 | a::s,[]=>by
  simp only[preB,aJ,false_iff];intro h;have:=h 0 a rfl;cases this
 | a::s,b::v=>by
  simp only[preB,aF,eN,GK s v];constructor
  ·grind
  ·intro h;refine ⟨by have:=h 0 a rfl;simpa using this.symm,λj x hj=>h (j+1) x hj⟩
theorem Fy {s v v':List Nat} (hs:Below s v) (hv:Below v v') (h:preB s v'=true):preB s v=true/\∀ (j:Nat),j < s.length->v[j]?=v'[j]?:=by
 have key:∀ (j x:Nat),s[j]?=some x->v[j]?=some x/\v'[j]?=some x:=λj x hj=>by
  obtain ⟨y,hy,tI⟩:=hs j x hj;obtain ⟨z,hz,hyz⟩:=hv j y hy;grind [GK]
 grind [GK]
theorem Below.trans {s v v':List Nat} (h1:Below s v) (h2:Below v v'):Below s v':=λj x hj=>by
 obtain ⟨y,hy,tI⟩:=h1 j x hj;obtain ⟨z,hz,hyz⟩:=h2 j y hy;grind
theorem Below.refl (s:List Nat):Below s s:=λj x hj=>⟨x,hj,aL _⟩
def d8 (w:World) (tv:Value):Slot->Option Pl
 | .own t _ H _=>some ⟨t,H,tv.cells.toList,none⟩
 | .box t _ H _=>match tv with
  | .pointer (some a)=>some ⟨t,H,rd w a.block a.off t.sz,some (a.block,a.off)⟩
  | _=>none
 | _=>none
def place (σ:St) (a:Act) (w:World) (r:Nat) (p:Path):Option Pl:=
 (d8 w (tmp a r) (σ.get r)).bind λR=>bn w p R.t R.H R.cs R.ad
def rG (σ:St) (a:Act) (w:World) (tv:Value) (r:Nat) (p:Path) (snap:List Nat):Prop:=
 Below snap (σ.kZ r)/\(σ.ok r snap=true->∃ pl,place σ a w r p=some pl/\tv=dq pl.t pl.cs/\((wJ pl.t=true/\snap.length=min 5 (2+d9 p))\/snap.length=5))
def B9 (σ:St) (a:Act) (w:World) (tv:Value) (r:Nat) (p:Path) (snap:List Nat):Prop:=
 Below snap (σ.kZ r)/\(σ.ok r snap=true->∃ pl b o,place σ a w r p=some pl/\pl.ad=some (b,o)/\tv=.pointer (some ⟨b,o,none⟩)/\snap.length=min 5 (1+d9 p))
def Ea (σ:St) (a:Act) (w:World) (tv:Value) (r:Nat) (p:Path) (snap:List Nat) (lo hi:Nat):Prop:=
 Below snap (σ.kZ r)/\(σ.ok r snap=true->∃ pl e x n cap x' cap',place σ a w r p=some pl/\pl.t=.aa e/\pl.cs=[.slice x n cap]/\lo<=hi/\hi<=n/\tv=.slice x' (hi - lo) cap'/\cap'+lo=cap/\(lo=0->x'=x) /\
  (x=none->x'=none)/\(∀ ad,x=some ad->∃ c_,x'=some c_/\c_.spot=ad.spot/\c_.block=ad.block/\(lo < hi->c_.off=ad.off+lo*e.sz))/\(snap.length=min 5 (2+d9 p)\/snap.length=5))
section
variable (P:Program) (A:Cells)
def YO (w:World) (x:Hs) (tv:Value) (F:FP):Prop:=x.t=.unit\/∃ cs,tv=dq x.t cs/\ao P w A x.t x.m [] x.v cs F
def c8 (σ:St) (a:Act) (w:World) (tv:Value):Slot->FP->Prop
 | .dead,_=>True
 | .wC,_=>tv=.slice none 0 0
 | .val t v,_=>∃ cs,tv=dq t cs/\Ro P w A t v cs
 | .cp t v,_=>Ro P w A (.ptr t) v [tv]
 | .own t m H v,F=>∃ cs,tv=dq t cs/\ao P w A t m H v cs F
 | .box t m H v,F=>∃ b o L F1,tv=.pointer (some ⟨b,o,none⟩)/\L.length=t.sz/\Has w b o L/\(∀ j,j < t.sz->w.frozen? ⟨b,o+j,none⟩=false) /\
   (∀ x i,ep b o t.sz x i+F1 x i<=F x i)/\ao P w A t m H v L F1
 | .ref r p snap,_=>rG σ a w tv r p snap
 | .ptr r p snap,_=>B9 σ a w tv r p snap
 | .sub r p snap lo hi,_=>Ea σ a w tv r p snap lo hi
 | .rT xs,F=>∃ (vs:Array Value) (Fi:Nat->FP),tv=.tuple vs/\(∀ b i,bg xs.length Fi b i<=F b i)/\∀ j x,xs[j]?=some x->∃ v,vs[j]?=some v/\YO P A w x v (Fi j)
end
structure Ext (w w':World) (F:FP):Prop where
 size:w.heap.size<=w'.heap.size
 cell:∀ b i,b < w.heap.size->F b i=0->∀ u,ce w b i=some u->ce w' b i=some u
 xE:∀ b n,je w b n->je w' b n
 yP:∀ b i,b < w.heap.size->w'.frozen? ⟨b,i,none⟩=w.frozen? ⟨b,i,none⟩
 os:w'.os=w.os
 tape:w'.tape=w.tape
 output:w'.output=w.output
 obj:∀ b,b < w.heap.size->(∀ i,F b i=0)->w'.heap[b]?=w.heap[b]?
 drawn:w.drawn<=w'.drawn
def Sz (P:Program):Bool:=(P.globalNamed "internal/strconv.uint64pow10").isSome||(P.globalNamed "internal/bytealg.MaxLen").isSome
def vZ (P:Program) (w:World) (F0:FP):Prop:=Sz P=true->(∃ w0:World,(w0.ShapedOpen P/\((P.globalNamed "internal/strconv.uint64pow10").isSome=true->Go.Lib.TabIs P w0 "internal/strconv.uint64pow10" .u64 Go.Lib.pow10Tab))/\∀ b,b < P.globals.size->w.heap[b]?=w0.heap[b]?) /\
 P.globals.size<=w.heap.size/\∀ b i,b < P.globals.size->F0 b i=0
theorem aar {P:Program} {w:World} {F0:FP} (h:Sz P=false):vZ P w F0:=λe=>by grind
theorem vZ.ext {P:Program} {w w':World} {F0 G:FP} (h:vZ P w F0) (he:Ext w w' F0) (hG:∀ b i,1<=G b i->1<=F0 b i\/w.heap.size<=b):vZ P w' G:=λe=>by
 obtain ⟨⟨w0,g,hw⟩,hs,hf⟩:=h e;refine ⟨⟨w0,g,λb hb=>?_⟩,bL hs he.size,λb i hb=>?_⟩
 ·rw[he.obj b (by omega) (λi=>hf b i hb)];exact hw b hb
 grind
structure Ctx where
 w0:World
 A0:Cells
 F0:FP
 args:Array Value
structure Rel (P:Program) (C:Ctx) (A:Cells) (X:FP) (σ:St) (a:Act) (w:World) (F:Nat->FP):Prop where
 size:a.tmps.size=σ.n
 defers:a.defers=[]
 iW:∀ i,i < σ.n->c8 P A σ a w (tmp a i) (σ.get i) (F i)
 gh:∀ d r p snap,(d,r,p,snap) ∈ σ.gh->rG σ a w (tmp a d) r p snap
 pk:∀ b i,X b i+bg σ.n F b i<=1
 qb:∀ b i,1<=X b i+bg σ.n F b i->¬ A b i
 kN:∀ b i,1<=X b i+bg σ.n F b i\/A b i->b < w.heap.size
 l8:∀ i,(σ.kZ i).length=5
 ext:Ext C.w0 w C.F0
 own:∀ b i,1<=X b i+bg σ.n F b i->1<=C.F0 b i\/C.w0.heap.size<=b
 a0:∀ b i,C.A0 b i->A b i
 a1:∀ b i,A b i->C.A0 b i\/1<=C.F0 b i\/C.w0.heap.size<=b
 oL:∀ j k,(j,k,false) ∈ σ.az->tmp a j=C.args.getD k undef
 whole:∀ r t m H v,σ.get r=.box t m H v->(∀ k,(r,k,false) ∉ σ.az)->∃ b,tmp a r=.pointer (some ⟨b,0,none⟩)/\je w b (t.sz,false)
 nD:∀ j k,(j,k,true) ∈ σ.az->∀ R,d8 w (tmp a j) (σ.get j)=some R->dq R.t R.cs=C.args.getD k undef
 wN:vZ P C.w0 C.F0
theorem Rel.CH {P:Program} {C:Ctx} {A:Cells} {X:FP} {σ:St} {a:Act} {w:World} {F:Nat->FP} (h:Rel P C A X σ a w F) {G:FP} (hG:∀ b i,1<=G b i->1<=X b i+bg σ.n F b i):vZ P w G:=
 h.wN.ext h.ext λb i hp=>h.own b i (hG b i hp)
def xN (σ:St) (a:Act) (w:World) (σ':St) (a':Act) (w':World):Prop:=
 ∀ r p snap,Below snap (σ.kZ r)->Below snap (σ'.kZ r)/\(σ'.ok r snap=true->σ.ok r snap=true /\
  (snap.length=min 5 (1+d9 p)\/snap.length=min 5 (2+d9 p)\/snap.length=5->∀ pl,place σ a w r p=some pl->∃ H' bu,place σ' a' w' r p=some ⟨pl.t,H',bu,pl.ad⟩ /\
   ((wJ pl.t=true/\snap.length=min 5 (2+d9 p))\/snap.length=5->bu=pl.cs)))
section
variable {P:Program} {A A':Cells} {σ σ':St} {a a':Act} {w w':World} {tv:Value} {F:FP}
theorem rG.mW (hp:xN σ a w σ' a' w') {r:Nat} {p:Path} {snap:List Nat} (h:rG σ a w tv r p snap):rG σ' a' w' tv r p snap:=by
 obtain ⟨h1,h2⟩:=h;obtain ⟨h3,h4⟩:=hp r p snap h1;refine ⟨h3,λba=>?_⟩
 grind
theorem B9.mW (hp:xN σ a w σ' a' w') {r:Nat} {p:Path} {snap:List Nat} (h:B9 σ a w tv r p snap):B9 σ' a' w' tv r p snap:=by
 obtain ⟨h1,h2⟩:=h;obtain ⟨h3,h4⟩:=hp r p snap h1;refine ⟨h3,λba=>?_⟩
 grind
theorem Ea.mW (hp:xN σ a w σ' a' w') {r:Nat} {p:Path} {snap:List Nat} {lo hi:Nat} (h:Ea σ a w tv r p snap lo hi):Ea σ' a' w' tv r p snap lo hi:=by
 obtain ⟨h1,h2⟩:=h;obtain ⟨h3,h4⟩:=hp r p snap h1;refine ⟨h3,λba=>?_⟩
 grind [wJ]
theorem c8.mW (hp:xN σ a w σ' a' w') (hA:∀ b i,A b i->A' b i) (hc:∀ b i,A b i->∀ u,ce w b i=some u->ce w' b i=some u) (hb:∀ b n,je w b n->je w' b n)
  (hF:∀ b i,1<=F b i->(∀ u,ce w b i=some u->ce w' b i=some u)/\w'.frozen? ⟨b,i,none⟩=w.frozen? ⟨b,i,none⟩) {s:Slot} (h:c8 P A σ a w tv s F):c8 P A' σ' a' w' tv s F:=by
 cases s with
 | dead=>trivial
 | wC=>exact h
 | val t v=>obtain ⟨cs,h1,h2⟩:=h;exact ⟨cs,h1,Ro.mono hc hA t h2⟩
 | cp t v=>exact Ro.mono hc hA (.ptr t) h
 | own t m H v=>obtain ⟨cs,h1,h2⟩:=h;exact ⟨cs,h1,ao.mono hA hc hb t h2 (λ_ _=>aL _) (λb i hp=>(hF b i hp).1)⟩
 | box t m H v=>
  obtain ⟨b,o,L,F1,h1,h2,h3,h4,h5,h6⟩:=h
  have hr:∀ j,j < t.sz->1<=F b (o+j):=λj hj=>by
   grind [ep]
  exact ⟨b,o,L,F1,h1,h2,λj u hu=>(hF _ _ (hr j (h2 ▸ (aR.1 hu).1))).1 u (h3 j u hu),λj hj=>by grind,h5,
   ao.mono hA hc hb t h6 (λ_ _=>aL _) (λb i hp=>(hF b i (by grind)).1)⟩
 | ref r p snap=>exact rG.mW hp h
 | ptr r p snap=>exact B9.mW hp h
 | sub r p snap lo hi=>exact Ea.mW hp h
 | rT xs=>
  obtain ⟨vs,Fi,h1,h2,h3⟩:=h;refine ⟨vs,Fi,h1,h2,λj x hx=>?_⟩
  obtain ⟨v,h4,h5⟩:=h3 j x hx;refine ⟨v,h4,h5.imp id λ⟨cs,h6,h7⟩=>⟨cs,h6,ao.mono hA hc hb x.t h7 (λ_ _=>aL _) (λb i hp=>(hF b i ?_).1)⟩⟩
  grind [dv]
end
end OT
set_option linter.unusedVariables false
set_option linter.unusedSimpArgs false
namespace OT
open Go
theorem zi {α:Type} (k:Nat) (x:α) (l:List (Nat×α)) (i:Nat):nO ((k,x)::l) i=if k=i then some x else nO l i:=by
 simp_all [nO]
theorem xO (σ:St) (d:Nat) (s:Slot) (i:Nat):(σ.put d s).get i=if d=i/\i < σ.n then s else σ.get i:=by
 grind [St.get,St.put,zi,Nat.blt_eq]
theorem Fz (σ:St) (d:Nat) (s:Slot) (i:Nat):(σ.lS d s).get i=if d=i/\i < σ.n then s else σ.get i:=by
 grind [St.get,St.lS,zi,Nat.blt_eq]
theorem zH (σ:St) (d:Nat) (s:Slot) (i:Nat):(σ.put d s).kZ i=if d=i then sL (σ.kZ d) else σ.kZ i:=by
 grind [St.kZ,St.put,zi]
theorem qR (σ:St) (d:Nat) (f:List Nat->List Nat) (i:Nat):(σ.mN d f).kZ i=if d=i then f (σ.kZ d) else σ.kZ i:=by
 grind [St.kZ,St.mN,zi]
theorem zj {l:List (Nat×Nat×Bool)} {d:Nat} {e:Nat×Nat×Bool} (h:e ∈ zN l d):e ∈ l/\e.1≠d:=by
 induction l with
 | nil=>cases h
 | cons x l ih=>
  obtain ⟨k,b⟩:=x;simp only[zN] at h;split at h
  ·grind
  ·rename_i hk;rcases bB.1 h with rfl | h
   all_goals simp_all
theorem HB {l:List (Nat×Nat×Bool)} {d:Nat} {e:Nat×Nat×Bool} (h:e ∈ l) (hd:e.1≠d):e ∈ zN l d:=by
 induction l with
 | nil=>cases h
 | cons x l ih=>
  obtain ⟨k,b⟩:=x;simp only[zN];rcases bB.1 h with rfl | h
  ·simp_all
  grind
theorem Qs {l:List (Nat×Nat×Bool)} {d j k:Nat} (h:(j,k,false) ∈ l):(j,k,false) ∈ zO l d:=by
 induction l <;> grind [zO]
theorem HC {l:List (Nat×Nat×Bool)} {d:Nat} {e:Nat×Nat×Bool} (h:e ∈ zO l d):e ∈ l/\¬ (e.1=d/\e.2.2=true):=by
 induction l with
 | nil=>cases h
 | cons x l ih=>
  obtain ⟨k,n,b⟩:=x;simp only[zO] at h;split at h
  ·grind
  ·rename_i hk;rcases bB.1 h with rfl | h
   all_goals simp_all
theorem LI {l:List (Nat×Nat×Path×List Nat)} {d:Nat} {e:Nat×Nat×Path×List Nat} (h:e ∈ Lm l d):e ∈ l/\e.1≠d:=by
 induction l with
 | nil=>cases h
 | cons x l ih=>
  obtain ⟨k,b⟩:=x;simp only[Lm] at h;split at h
  ·grind
  ·rename_i hk;rcases bB.1 h with rfl | h
   all_goals simp_all
theorem tu (v:List Nat):Below v (sL v):=λj x hj=>⟨x+1,by simp[sL,hj],by omega⟩
theorem Eb {v:List Nat} (h:v.length=5):∃ b x y z w,v=[b,x,y,z,w]:=by
 match v,h with
 | [b,x,y,z,w],_=>grind
theorem SA {b x y z w b' x' y' z' w':Nat} (h0:b<=b') (h1:x<=x') (h2:y<=y') (h3:z<=z') (h4:w<=w'):Below [b,x,y,z,w] [b',x',y',z',w']:=by
 intro j n hj;grind
theorem uQ (d:Nat) {v:List Nat} (h:v.length=5):Below v (ug d v):=by
 obtain ⟨b,x,y,z,w,rfl⟩:=Eb h
 match d with
 | 0 | 1 | 2 | n+3=>exact SA (by omega) (by omega) (by omega) (by omega) (by omega)
theorem yc {v:List Nat} (h:v.length=5):Below v (wD v):=by
 obtain ⟨b,x,y,z,w,rfl⟩:=Eb h;exact SA (by omega) (by omega) (by omega) (by omega) (by omega)
theorem Ec {v:List Nat}:(sL v).length=v.length:=by simp[sL]
theorem CI (d:Nat) {v:List Nat} (h:v.length=5):(ug d v).length=5:=by
 obtain ⟨b,x,y,z,w,rfl⟩:=Eb h
 match d with
 | 0 | 1 | 2 | n+3=>rfl
theorem Ed {v:List Nat} (h:v.length=5):(wD v).length=5:=by
 obtain ⟨b,x,y,z,w,rfl⟩:=Eb h;rfl
theorem HD {s v v':List Nat} (hs:Below s v) (hv:Below v v') (h:preB s v'=true) {j:Nat} (hj:v[j]?≠v'[j]?):s.length<=j:=by
 rcases cK j s.length with h' | h'
 ·exact absurd ((Fy hs hv h).2 j h') hj
 ·exact h'
theorem FV {s v:List Nat} (hl:v.length=5) (hs:Below s v) (h:preB s (sL v)=true):s.length=0:=by
 obtain ⟨b,x,y,z,w,rfl⟩:=Eb hl;have:=HD hs (tu _) h (j:=0) (by simp[sL]);omega
theorem Ee {s v:List Nat} (d:Nat) (hl:v.length=5) (hs:Below s v) (h:preB s (ug d v)=true):s.length<=min 4 (1+d):=by
 have h4:s.length<=4:=by
  refine HD hs (uQ d hl) h ?_;obtain ⟨b,x,y,z,w,rfl⟩:=Eb hl
  match d with
  | 0 | 1 | 2 | n+3=>simp[ug]
 have hd:s.length<=1+d:=by
  rcases cK d 3 with hd | hd
  ·refine HD hs (uQ d hl) h ?_;obtain ⟨b,x,y,z,w,rfl⟩:=Eb hl
   match d,hd with
   | 0,_ | 1,_ | 2,_=>simp[ug]
  ·omega
 omega
theorem GN {s v:List Nat} (hl:v.length=5) (hs:Below s v) (h:preB s (wD v)=true):s.length<=4:=by
 refine HD hs (yc hl) h ?_;grind [Eb,wD]
section
variable {P:Program} {C:Ctx} {A A2:Cells} {X:FP} {σ:St} {a:Act} {w w2:World} {F:Nat->FP}
theorem oz (a:Act) (d:Nat) (v:Value) (i:Nat):tmp (a.put (some d) v) i=if d=i/\i < a.tmps.size then v else tmp a i:=by
 simp only[tmp,Act.put,Array.getD_eq_getD_getElem?,Array.getElem?_setIfInBounds];grind
theorem wO {tv:Value} {s:Slot} {G:FP} {R:Pl} (h:c8 P A σ a w tv s G) (hR:d8 w tv s=some R) :
  ∃ (m:Md) (v:R.t.den) (F1:FP),ao P w A R.t m R.H v R.cs F1/\(∀ b i,F1 b i<=G b i) /\
   (∀ b o,R.ad=some (b,o)->Has w b o R.cs/\(∀ x i,ep b o R.t.sz x i+F1 x i<=G x i)/\∀ j,j < R.t.sz->w.frozen? ⟨b,o+j,none⟩=false) /\
   ((∃ v',s=.own R.t m R.H v'/\HEq v v'/\R.ad=none)\/(∃ v',s=.box R.t m R.H v'/\HEq v v'/\R.ad.isSome=true)):=by
 cases s with
 | own t m H v=>
  simp only[d8,aS] at hR;subst hR;obtain ⟨cs,h1,h2⟩:=h;refine ⟨m,v,G,?_,λ_ _=>aL _,(λb o h=>by cases h),.inl ⟨v,rfl,HEq.rfl,rfl⟩⟩
  grind [lu,ao.length,ao.one]
 | box t m H v=>
  obtain ⟨b,o,L,F1,h1,h2,h3,h4,h5,h6⟩:=h;grind [d8,fi]
 | _=>simp[d8] at hR
theorem wP {tv:Value} {s:Slot} {G:FP} {R:Pl} (h:c8 P A σ a w tv s G) (hc:∀ b i,1<=G b i->∀ u,ce w b i=some u->ce w2 b i=some u)
  (hR:d8 w tv s=some R):d8 w2 tv s=some R:=by
 cases s with
 | own t m H v=>exact hR
 | box t m H v=>
  obtain ⟨b,o,L,F1,h1,h2,h3,h4,h5,h6⟩:=h;subst h1;simp only[d8,aS] at hR ⊢
  have:Has w2 b o L:=λj u hu=>hc _ _ (by
   grind [ep]) u (h3 j u hu)
  grind [fi]
 | _=>simp[d8] at hR
theorem vL {σ':St} {a':Act} {r:Nat} {p:Path} {G:FP} {pl:Pl} (h:c8 P A σ a w (tmp a r) (σ.get r) G) (hg:σ'.get r=σ.get r) (ht:tmp a' r=tmp a r)
  (hA:∀ b i,A b i->∀ u,ce w b i=some u->ce w2 b i=some u) (hc:∀ b i,1<=G b i->∀ u,ce w b i=some u->ce w2 b i=some u)
  (hp:place σ a w r p=some pl):place σ' a' w2 r p=some pl:=by
 unfold place at hp ⊢;rw[hg,ht];cases hR:d8 w (tmp a r) (σ.get r) <;> grind [wP,wO,wt]
theorem mf {σ:St} {i:Nat} (h:¬ i < σ.n):σ.get i=.dead:=by simp[St.get,h]
theorem tP {r:Nat} {p:Path} {pl:Pl} (h:place σ a w r p=some pl):r < σ.n:=by
 grind [place,mf,d8]
theorem Rel.put (h:Rel P C A X σ a w F) {d:Nat} (hd:d < σ.n) {s:Slot} {v:Value} {Fd X':FP} (hs:c8 P A σ a w v s Fd) (ht:∀ b i,X' b i+Fd b i<=X b i+F d b i)
  (Wn:∀ t m H v',s=.box t m H v'->∃ b,v=.pointer (some ⟨b,0,none⟩)/\je w b (t.sz,false)) :
  Rel P C A X' (σ.put d s) (a.put (some d) v) w (ge F d Fd):=by
 have nC:=h.size
 have nP:xN σ a w (σ.put d s) (a.put (some d) v) w:=by
  intro r p snap hb;rw[zH,St.ok,zH];by_cases hr:d=r
  ·subst hr;simp only[aI];refine ⟨hb.trans (tu _),λba=>?_⟩
   have h0:=FV (h.l8 d) hb ba;exact ⟨(Fy hb (tu _) ba).1,λhl=>by omega⟩
  ·simp only[aP hr];refine ⟨hb,λba=>⟨ba,λhl pl iU=>⟨pl.H,pl.cs,?_,λ_=>rfl⟩⟩⟩
   exact vL (h.iW r (tP iU)) (by grind [xO]) (by grind [oz]) (λ_ _ _ _ h=>h) (λ_ _ _ _ h=>h) iU
 have wQ:∀ b i,X' b i+bg σ.n (ge F d Fd) b i<=X b i+bg σ.n F b i:=λb i=>by
  grind [tO]
 refine ⟨by simp[Act.put,nC,St.put],by simpa [Act.put] using h.defers,λi hi=>?_,?_,λb i=>bL (wQ b i) (h.pk b i),λb i hp=>h.qb b i (bL hp (wQ b i)),
  λb i hp=>h.kN b i (hp.imp (λhp=>bL hp (wQ b i)) id),λi=>?_,h.ext,λb i hp=>h.own b i (bL hp (wQ b i)),h.a0,h.a1,?_,?_,?_,h.wN⟩
 ·have hi:i < σ.n:=hi;rw[xO,oz,nC];by_cases Wo:d=i
  ·subst Wo;rw[aM ⟨rfl,hi⟩,aM ⟨rfl,hi⟩];simp only[ge,aI];exact c8.mW nP (λ_ _ h=>h) (λ_ _ _ _ h=>h) (λ_ _ h=>h) (λ_ _ _=>⟨λ_ h=>h,rfl⟩) hs
  ·rw[aP (λh=>Wo h.1),aP (λh=>Wo h.1)];simp only[ge,aP (λh:i=d=>Wo h.symm)];exact c8.mW nP (λ_ _ h=>h) (λ_ _ _ _ h=>h) (λ_ _ h=>h) (λ_ _ _=>⟨λ_ h=>h,rfl⟩) (h.iW i hi)
 ·intro d' r p snap hm;obtain ⟨hm,kF⟩:=LI hm;rw[oz,aP (λh=>kF h.1.symm)];exact rG.mW nP (h.gh d' r p snap hm)
 ·rw[zH];split
  ·rw[Ec];exact h.l8 d
  ·exact h.l8 i
 ·intro j k hm;obtain ⟨hm,kF⟩:=zj hm;rw[oz,aP (λh=>kF h.1.symm)];exact h.oL j k hm
 ·intro r t m H v' hg hl;rw[xO] at hg;rw[oz,nC];by_cases D_:d=r/\r < σ.n
  ·grind
  ·rw[aP D_] at hg ⊢;refine h.whole r t m H v' hg λk hm=>hl k (HB hm λe=>D_ ⟨e.symm,?_⟩);grind
 ·intro j k hm R hR;obtain ⟨hm,kF⟩:=zj hm;rw[oz,aP (λh=>kF h.1.symm),xO,aP (λh=>kF h.1.symm)] at hR;exact h.nD j k hm R hR
theorem Rel.less (h:Rel P C A X σ a w F) {X':FP} (ht:∀ b i,X' b i<=X b i):Rel P C A X' σ a w F:=
 { h with
  pk:=λb i=>by have:=h.pk b i;grind
  qb:=λb i hp=>h.qb b i (by grind)
  kN:=λb i hp=>h.kN b i (hp.imp (λhp=>by grind) id)
  own:=λb i hp=>h.own b i (by grind) }
theorem Ext.refl (w:World) (F:FP):Ext w w F:=⟨aL _,λ_ _ _ _ _ h=>h,λ_ _ h=>h,λ_ _ _=>rfl,rfl,rfl,rfl,λ_ _ _=>rfl,aL _⟩
theorem Ext.mono {F F':FP} (h:Ext w w2 F) (hF:∀ b i,F' b i=0->F b i=0):Ext w w2 F':={ h with cell:=λb i hb hz=>h.cell b i hb (hF b i hz),obj:=λb hb hz=>h.obj b hb λi=>hF b i (hz i) }
theorem Ext.trans {w3:World} {F G:FP} (h:Ext w w2 F) (h2:Ext w2 w3 G) (hG:∀ b i,b < w.heap.size->F b i=0->G b i=0):Ext w w3 F:=
 ⟨bL h.size h2.size,λb i hb hz u hu=>h2.cell b i (dB hb h.size) (hG b i hb hz) u (h.cell b i hb hz u hu),λb n hn=>h2.xE b n (h.xE b n hn),
  λb i hb=>(h2.yP b i (dB hb h.size)).trans (h.yP b i hb),h2.os.trans h.os,h2.tape.trans h.tape,h2.output.trans h.output,
  λb hb hz=>(h2.obj b (dB hb h.size) λi=>hG b i hb (hz i)).trans (h.obj b hb hz),bL h.drawn h2.drawn⟩
theorem Rel.chg (h:Rel P C A X σ a w F) {r:Nat} (hr:r < σ.n) {σ':St} (hn:σ'.n=σ.n) (wR:∀ i,i≠r->σ'.get i=σ.get i) (YP:∀ i,i≠r->σ'.kZ i=σ.kZ i)
  (hvr:Below (σ.kZ r) (σ'.kZ r)) (Ph:(σ'.kZ r).length=5) (CJ:∀ e,e ∈ σ'.az->e ∈ σ.az) (YQ:∀ j k,(j,k,false) ∈ σ.az->(j,k,false) ∈ σ'.az) (Wp:∀ e,e ∈ σ'.gh->e ∈ σ.gh)
  {X2 SB:FP} {R:Pl} {H2:List Path} {d6:List Value} (hs:c8 P A2 σ' a w2 (tmp a r) (σ'.get r) SB) (hR:d8 w (tmp a r) (σ.get r)=some R)
  (hR2:d8 w2 (tmp a r) (σ'.get r)=some ⟨R.t,H2,d6,R.ad⟩)
  (dc:∀ (p:Path) (snap:List Nat),Below snap (σ.kZ r)->σ'.ok r snap=true->(snap.length=min 5 (1+d9 p)\/snap.length=min 5 (2+d9 p)\/snap.length=5) ->
   ∃ D full,d9 p<=D/\(snap.length=min 5 (2+d9 p)->d9 p < D\/full)/\(snap.length=5->full)/\rX D full w R.t R.H R.cs R.ad w2 H2 d6)
  (hA:∀ b i,A b i->A2 b i) (YR:∀ b i,A2 b i->A b i\/(1<=X b i+F r b i/\X2 b i+SB b i=0))
  (hx:∀ b i,X2 b i+SB b i<=X b i+F r b i) (hw:Ext w w2 λb i=>X b i+F r b i) (YS:∀ t m H v,σ'.get r=.box t m H v->∃ m0 H0 v0,σ.get r=.box t m0 H0 v0) (z7:∀ k,(r,k,true) ∈ σ'.az->d6=R.cs) :
  Rel P C A2 X2 σ' a w2 (ge F r SB):=by
 have hle:∀ b i,X b i+F r b i<=X b i+bg σ.n F b i:=λb i=>by grind [dv]
 have tr:∀ b i,A b i->∀ u,ce w b i=some u->ce w2 b i=some u:=λb i ha u hu=>by
  refine hw.cell b i (h.kN b i (.inr ha)) ?_ u hu;rcases bM (X b i+F r b i) with h0 | h0
  ·exact h0
  ·exact absurd ha (h.qb b i (bL h0 (hle b i)))
 have Ef:∀ j,j < σ.n->j≠r->∀ b i,1<=F j b i->(∀ u,ce w b i=some u->ce w2 b i=some u)/\w2.frozen? ⟨b,i,none⟩=w.frozen? ⟨b,i,none⟩:=λj hj SC b i hp=>by
  have h1:=uN F hj hr SC b i;have h2:=h.pk b i;have hb:=h.kN b i (.inl (by grind));exact ⟨λu hu=>hw.cell b i hb (by grind) u hu,hw.yP b i hb⟩
 have nP:xN σ a w σ' a w2:=by
  intro r' p snap hb;by_cases Wq:r'=r
  ·subst Wq;refine ⟨hb.trans hvr,λba=>?_⟩
   refine ⟨(Fy hb hvr ba).1,λhl pl iU=>?_⟩
   obtain ⟨D,full,h1,h2,h3,h4⟩:=dc p snap hb ba hl;unfold place at iU ⊢;rw[hR] at iU;rw[hR2];obtain ⟨H',bu,h5,h6⟩:=h4 p pl h1 iU;grind
  ·rw[St.ok,YP r' Wq];refine ⟨hb,λba=>⟨ba,λhl pl iU=>⟨pl.H,pl.cs,?_,λ_=>rfl⟩⟩⟩
   have ax:=tP iU;exact vL (h.iW r' ax) (wR r' Wq) rfl tr (λb i hp=>(Ef r' ax Wq b i hp).1) iU
 have wQ:∀ b i,X2 b i+bg σ.n (ge F r SB) b i<=X b i+bg σ.n F b i:=λb i=>by
  grind [tO]
 refine ⟨by rw[hn];exact h.size,h.defers,λi hi=>?_,λd r' p snap hm=>rG.mW nP (h.gh d r' p snap (Wp _ hm)),λb i=>by rw[hn];exact bL (wQ b i) (h.pk b i),λb i hp ha=>?_,
  λb i hp=>?_,λi=>?_,h.ext.trans hw λb i hb hz=>?_,λb i hp=>by rw[hn] at hp;exact h.own b i (bL hp (wQ b i)),λb i ha=>hA b i (h.a0 b i ha),λb i ha=>?_,
  λj k hm=>h.oL j k (CJ _ hm),λr' t m H v hg hl=>?_,λj k hm R' po=>?_,h.wN⟩
 ·rw[hn] at hi;by_cases Pi:i=r
  ·grind [ge]
  ·simp only[ge,aP Pi];rw[wR i Pi];exact c8.mW nP hA tr hw.xE (Ef i hi Pi) (h.iW i hi)
 ·rw[hn] at hp
  rcases YR b i ha with ha | ⟨h1,h2⟩
  ·exact h.qb b i (bL hp (wQ b i)) ha
  ·have h3:=h.pk b i;grind [tO]
 ·rw[hn] at hp;refine dB (h.kN b i ?_) hw.size;grind
 ·by_cases Pi:i=r
  ·grind
  ·rw[YP i Pi];exact h.l8 i
 ·rcases bM (X b i+F r b i) with h0 | h0
  ·exact h0
  ·have:=h.own b i (bL h0 (hle b i));omega
 ·rcases YR b i ha with ha | ⟨h1,_⟩
  ·exact h.a1 b i ha
  ·exact .inr (h.own b i (bL h1 (hle b i)))
 ·have:∃ m0 H0 v0,σ.get r'=.box t m0 H0 v0:=by
   grind
  obtain ⟨m0,H0,v0,YT⟩:=this;obtain ⟨b,h1,h2⟩:=h.whole r' t m0 H0 v0 YT λk hm=>hl k (YQ _ _ hm);exact ⟨b,h1,hw.xE _ _ h2⟩
 ·by_cases SC:j=r
  ·subst SC;rw[hR2] at po;injection po with po;subst po;show dq R.t d6=_;rw[z7 k hm];exact h.nD j k (CJ _ hm) R hR
  ·rcases cK j σ.n with hj | hj
   ·rw[wR j SC] at po;have lT:=h.iW j hj
    cases zd:d8 w (tmp a j) (σ.get j) with
    | none=>exfalso;cases hg:σ.get j <;> rw[hg] at zd po <;> simp only[d8] at zd po <;> first | grind | grind | grind
    | some R0=>
     rw[wP lT (λb i hp=>(Ef j hj SC b i hp).1) zd] at po;injection po with po;subst po;exact h.nD j k (CJ _ hm) _ zd
   ·rw[mf (by rw[hn];omega)] at po;cases po
end
end OT
set_option linter.unusedVariables false
set_option linter.unusedSimpArgs false
namespace OT
open Go
def k_ (ad:Option (Nat×Nat)) (n:Nat):FP:=λb i=>match ad with
 | some (b',o)=>ep b' o n b i
 | none=>0
section
variable {P:Program} {C:Ctx} {A:Cells} {X:FP} {σ:St} {a:Act} {w:World} {F:Nat->FP} {R:Type} {x:R}
theorem HE {r:Nat} {K:(t:Ty)->Md->List Path->t.den->Option R} (h:wE σ r K=some x) :
  r < σ.n/\∃ t m H v,(σ.get r=.own t m H v\/σ.get r=.box t m H v)/\K t m H v=some x:=by
 grind [wE,mf]
structure YU (P:Program) (A:Cells) (σ:St) (a:Act) (w:World) (r:Nat) (G:FP) (t:Ty) (m:Md) (H:List Path) (v:t.den) (cs:List Value) (ad:Option (Nat×Nat)) (F1:FP):Prop where
 root:d8 w (tmp a r) (σ.get r)=some ⟨t,H,cs,ad⟩
 rep:ao P w A t m H v cs F1
 le:∀ b i,k_ ad t.sz b i+F1 b i<=G b i
 has:∀ b o,ad=some (b,o)->Has w b o cs
 yP:∀ b o,ad=some (b,o)->∀ j,j < t.sz->w.frozen? ⟨b,o+j,none⟩=false
 val:ad=none->tmp a r=dq t cs/\σ.get r=.own t m H v
 ptr:∀ b o,ad=some (b,o)->tmp a r=.pointer (some ⟨b,o,none⟩)/\σ.get r=.box t m H v
theorem c8.root {r:Nat} {G:FP} (h:c8 P A σ a w (tmp a r) (σ.get r) G) {t:Ty} {m:Md} {H:List Path} {v:t.den} (hg:σ.get r=.own t m H v\/σ.get r=.box t m H v) :
  ∃ cs ad F1,YU P A σ a w r G t m H v cs ad F1:=by
 rcases hg with hg | hg
 ·rw[hg] at h;obtain ⟨cs,h1,h2⟩:=h;refine ⟨cs,none,G,by grind [d8,lu,ao.length,ao.one],h2,λb i=>by simp[k_],(λb o h=>by cases h),(λb o h=>by cases h),λ_=>⟨h1,hg⟩,(λb o h=>by cases h)⟩
 ·rw[hg] at h;obtain ⟨b,o,L,F1,h1,h2,h3,h4,h5,h6⟩:=h;refine ⟨L,some (b,o),F1,by grind [d8,fi],h6,λb i=>h5 b i,?_,?_,(λh=>by cases h),?_⟩
  all_goals grind
theorem lA (h:Rel P C A X σ a w F) {r:Nat} {p:Path} {K:(t:Ty)->Md->List Path->t.den->Option R} (hk:pK σ r p K=some x) :
  r < σ.n/\∃ (t':Ty) (m':Md) (H':List Path) (v':t'.den) (bu:List Value) (c_:Option (Nat×Nat)) (F':FP),K t' m' H' v'=some x/\(∀ {S:Type} (K0:(t:Ty)->Md->List Path->t.den->Option S),pK σ r p K0=K0 t' m' H' v')/\place σ a w r p=some ⟨t',H',bu,c_⟩/\ao P w A t' m' H' v' bu F' /\
   (∀ b i,F' b i<=F r b i)/\(∀ b o,c_=some (b,o)->Has w b o bu):=by
 obtain ⟨hr,t,m,H,v,hg,hk⟩:=HE hk;obtain ⟨cs,ad,F1,RO⟩:=(h.iW r hr).root hg;obtain ⟨t',m',H',v',bu,c_,F',h1,hn,h2,h3,h4,h5,_⟩:=YE p t hk RO.rep (ad:=ad) RO.has;refine ⟨hr,t',m',H',v',bu,c_,F',h1,λK0=>?_,?_,h3,λb i=>by have:=h4 b i;have:=RO.le b i;omega,h5⟩
 ·grind [pK,wE]
 unfold place;rw[RO.root];exact h2
theorem yd (r:Nat) (t:Ty) (m:Md) (H:List Path) (v:t.den) (i:Nat) (h:i≠r):(σ.ky r t m H v).get i=σ.get i:=by
 grind [St.ky,Fz]
theorem wS {r:Nat} (hr:r < σ.n) {t t0:Ty} {m m0:Md} {H H0:List Path} {v0:t0.den} (v:t.den) (h:σ.get r=.own t0 m0 H0 v0):(σ.ky r t m H v).get r=.own t m H v:=by
 grind [St.ky,Fz]
theorem wT {r:Nat} (hr:r < σ.n) {t t0:Ty} {m m0:Md} {H H0:List Path} {v0:t0.den} (v:t.den) (h:σ.get r=.box t0 m0 H0 v0):(σ.ky r t m H v).get r=.box t m H v:=by
 grind [St.ky,Fz]
theorem uR (r:Nat) (t:Ty) (m:Md) (H:List Path) (v:t.den):(σ.ky r t m H v).n=σ.n:=by unfold St.ky;split <;> rfl
theorem rq (r:Nat) (t:Ty) (m:Md) (H:List Path) (v:t.den) (i:Nat):(σ.ky r t m H v).kZ i=σ.kZ i:=by unfold St.ky;split <;> rfl
theorem wU (r:Nat) (t:Ty) (m:Md) (H:List Path) (v:t.den):(σ.ky r t m H v).az=σ.az:=by unfold St.ky;split <;> rfl
theorem CK (r:Nat) (t:Ty) (m:Md) (H:List Path) (v:t.den):(σ.ky r t m H v).gh=σ.gh:=by unfold St.ky;split <;> rfl
def qS (σ σ':St):Prop:=∀ (w:World) (tv:Value) (i:Nat) (R:Pl),d8 w tv (σ'.get i)=some R->∃ H,d8 w tv (σ.get i)=some ⟨R.t,H,R.cs,R.ad⟩
theorem qS.refl (σ:St):qS σ σ:=λw tv i R h=>⟨R.H,h⟩
theorem qS.trans {σ σ' xP:St} (h:qS σ σ') (h':qS σ' xP):qS σ xP:=by
 intro w tv i R0 hR;obtain ⟨H,h1⟩:=h' w tv i R0 hR;exact h w tv i ⟨R0.t,H,R0.cs,R0.ad⟩ h1
theorem yQ {r:Nat} (hr:r < σ.n) {t:Ty} {m m0:Md} {H H0:List Path} {v0:t.den} (v:t.den) (h:σ.get r=.own t m0 H0 v0\/σ.get r=.box t m0 H0 v0) {σ':St} (hg:∀ i,σ'.get i=(σ.ky r t m H v).get i):qS σ σ':=by
 intro w tv i R hR;rw[hg] at hR;by_cases hi:i=r
 ·subst hi;rcases h with h | h
  ·grind [wS,d8]
  ·rw[wT hr v h] at hR;rw[h];simp only[d8] at hR ⊢;grind
 ·rw[yd r t m H v i hi] at hR;exact ⟨R.H,hR⟩
structure UR (σ:St) (r:Nat) (s:Slot) (YV:Prop) (σ':St):Prop where
 n:σ'.n=σ.n
 get:∀ i,i≠r->σ'.get i=σ.get i
 root:σ'.get r=s
 kZ:∀ i,i≠r->σ'.kZ i=σ.kZ i
 below:Below (σ.kZ r) (σ'.kZ r)
 l8:(σ'.kZ r).length=5
 az:∀ e,e ∈ σ'.az->e ∈ σ.az
 Wr:∀ j k,(j,k,false) ∈ σ.az->(j,k,false) ∈ σ'.az
 gh:∀ e,e ∈ σ'.gh->e ∈ σ.gh
 head:∀ k,(r,k,true) ∈ σ'.az->YV
theorem Rel.yR (h:Rel P C A X σ a w F) {r:Nat} {p:Path} {f:(t':Ty)->Md->List Path->t'.den->(Md->List Path->t'.den->Option R)->Option R}
  {Kf:(t:Ty)->Md->List Path->t.den->Option R} (hk:wE σ r (λt0 m0 H0 v0=>rD p t0 m0 H0 v0 f λm' H' v'=>Kf t0 m' H' v')=some x) :
  r < σ.n/\∃ (t':Ty) (m':Md) (H':List Path) (v':t'.den) (bu:List Value) (c_:Option (Nat×Nat)) (F':FP) (kk:Md->List Path->t'.den->Option R),
   f t' m' H' v' kk=some x/\(∀ {S:Type} (K0:(t:Ty)->Md->List Path->t.den->Option S),pK σ r p K0=K0 t' m' H' v')/\place σ a w r p=some ⟨t',H',bu,c_⟩/\ao P w A t' m' H' v' bu F' /\
   (∀ b i,k_ c_ t'.sz b i+F' b i<=F r b i)/\(∀ b o,c_=some (b,o)->Has w b o bu)/\(∀ b o,c_=some (b,o)->∀ j,j < t'.sz->w.frozen? ⟨b,o+j,none⟩=false) /\
   ∀ m2 H2 (v2:t'.den),kk m2 H2 v2=some x->∀ (w2:World) (A2:Cells) (d6:List Value) (F2 X2:FP),
    Ext w w2 (λb i=>X b i+(F' b i+k_ c_ t'.sz b i))->(∀ b i,A b i->A2 b i)->(∀ b i,A2 b i->A b i\/(1<=X b i+F' b i/\X2 b i+F2 b i=0)) ->
    (∀ b i,X2 b i+F2 b i<=X b i+F' b i)->(∀ b o,c_=some (b,o)->Has w2 b o d6)->(c_=none->d6=bu)->ao P w2 A2 t' m2 H2 v2 d6 F2 ->
    ∃ (t0:Ty) (m3:Md) (H3:List Path) (v3:t0.den) (Fr:FP) (A3:Cells),Kf t0 m3 H3 v3=some x/\(∃ (m0:Md) (H0:List Path) (v0:t0.den),σ.get r=.own t0 m0 H0 v0\/σ.get r=.box t0 m0 H0 v0)/\(∀ b i,A2 b i->A3 b i)/\(∀ b i,Fr b i<=F r b i+X b i) /\
     ∀ σ',UR σ r ((σ.ky r t0 m3 H3 v3).get r) (1<=d9 p\/d6=bu) σ' ->
      (∀ (p':Path) (snap:List Nat),Below snap (σ.kZ r)->σ'.ok r snap=true->(snap.length=min 5 (1+d9 p')\/snap.length=min 5 (2+d9 p')\/snap.length=5) ->
       ∃ D full,d9 p'<=D+d9 p/\(snap.length=min 5 (2+d9 p')->d9 p' < D+d9 p\/full)/\(snap.length=5->full)/\rX D full w t' H' bu c_ w2 H2 d6) ->
      Rel P C A3 X2 σ' a w2 (ge F r Fr):=by
 obtain ⟨hr,t,m,H,v,hg,hk⟩:=HE hk;obtain ⟨cs,ad,F1,RO⟩:=(h.iW r hr).root hg;have FW:∀ b i,X b i+F r b i<=1:=λb i=>by have:=h.pk b i;grind [dv]
 have CF:∀ b o,ad=some (b,o)->∀ j,j < t.sz->F1 b (o+j)=0:=λb o e j hj=>by
  have h1:=RO.le b (o+j);grind [k_,ep]
 obtain ⟨t',m',H',v',bu,c_,F',G,kk,loc,M⟩:=YF p t hk RO.rep (λb i=>by have:=FW b i;have:=RO.le b i;omega) RO.has CF;have hlen:=ao.length t RO.rep
 have LJ:∀ b i,k_ c_ t'.sz b i+F' b i<=F r b i/\(1<=k_ c_ t'.sz b i->1<=G b i\/1<=k_ ad t.sz b i)/\k_ c_ t'.sz b i<=1:=λb i=>by
  have h1:=M.sum b i;have h2:=RO.le b i;have h3:=FW b i
  cases lH:c_ with
  | none=>grind [k_]
  | some bo=>
   obtain ⟨b0,o0⟩:=bo;simp only[k_,ep];split
   ·rename_i i7;obtain ⟨rfl,acj,US⟩:=i7
    cases loc with
    | none=>
     obtain ⟨b',o',e1,e2⟩:=M.out rfl;rw[lH] at e1;simp only[aS,bP] at e1;obtain ⟨rfl,rfl⟩:=e1;have:=(e2 (i - o0) (by omega)).1;grind
    | some off=>
     obtain ⟨e1,e2,e3⟩:=M.ul off rfl;grind [iu,ep,k_]
   ·omega
 refine ⟨hr,t',m',H',v',bu,c_,F',kk,M.run,λK0=>?_,by unfold place;rw[RO.root];exact M.place,M.rep,λb i=>(LJ b i).1,M.has,λb o e j hj=>?_,?_⟩
 ·unfold pK wE;rcases hg with hg | hg <;> rw[hg] <;> exact M.Sw K0
 ·cases loc with
  | none=>
   obtain ⟨b',o',e1,e2⟩:=M.out rfl;grind
  | some off=>
   obtain ⟨e1,e2,e3⟩:=M.ul off rfl
   cases z8:ad with
   | none=>rw[e,z8] at e3;cases e3
   | some y=>
    rw[e,z8] at e3;simp only[iu,bT,aS,bP] at e3;obtain ⟨rfl,rfl⟩:=e3;have:=RO.yP y.1 y.2 z8 (off+j) (by omega);grind
 intro m2 H2 v2 LK w2 A2 d6 F2 X2 gf hA YR hX wV Qq FA;have wK:=ao.length t' FA
 have tr:∀ b i,A b i->∀ u,ce w b i=some u->ce w2 b i=some u:=λb i ha u hu=>by
  refine gf.cell b i (h.kN b i (.inr ha)) ?_ u hu;have h1:=(LJ b i).1;have h2:=dv F hr b i;have h3:=h.qb b i;grind
 have hGc:∀ b i,1<=G b i\/1<=k_ ad t.sz b i->(∀ o,c_=some (b,o)->¬ (o<=i/\i < o+t'.sz))->∀ u,ce w b i=some u->ce w2 b i=some u:=λb i hp hn u hu=>by
  have h1:=LJ b i;have h2:=FW b i;have h3:=M.sum b i;have h4:=RO.le b i
  refine gf.cell b i (h.kN b i (.inl (by grind [dv]))) ?_ u hu;show X b i+(F' b i+k_ c_ t'.sz b i)=0
  have h5:k_ c_ t'.sz b i=0:=by
   cases lH:c_ <;> grind [k_,ep]
  omega
 have aas:∀ b i,F2 b i+G b i<=1:=λb i=>by
  have:=hX b i;have:=M.sum b i;have:=RO.le b i;grind
 obtain ⟨m3,H3,v3,F3,k1,k2,k3,k4⟩:=M.back m2 H2 v2 LK w2 A2 d6 F2 gf.xE hA tr (λb i hp hn=>hGc b i (.inl hp) hn) wV FA aas
 have YW:(lr loc cs t'.sz d6).length=t.sz:=by
  cases loc with
  | none=>exact hlen
  | some off=>have:=(M.ul off rfl).1;grind [lr,vn]
 have zh:d6=bu->lr loc cs t'.sz d6=cs:=λe=>by
  cases loc with
  | none=>rfl
  | some off=>
   obtain ⟨e1,e2,_⟩:=M.ul off rfl;rw[e,e2];exact zY (by omega)
 have Qt:∀ b o,ad=some (b,o)->Has w2 b o (lr loc cs t'.sz d6):=λb o e=>by
  have cells:∀ j u,cs[j]?=some u->(∀ o',c_=some (b,o')->¬ (o'<=o+j/\o+j < o'+t'.sz))->ce w2 b (o+j)=some u:=λj u hu hn=>by
   have hj:j < t.sz:=hlen ▸ (aR.1 hu).1;exact hGc b (o+j) (.inr (by grind [k_,ep])) hn u (RO.has b o e j u hu)
  cases LL:loc with
  | none=>
   intro j u hu;refine cells j u hu λo' he i7=>?_;have hj:j < t.sz:=hlen ▸ (aR.1 hu).1;obtain ⟨b',o'',e1,e2⟩:=M.out LL;rw[he] at e1;simp only[aS,bP] at e1;obtain ⟨rfl,rfl⟩:=e1;have h1:=(e2 (o+j - o') (by omega)).1;rw[show o'+(o+j - o')=o+j by omega] at h1;have h2:=RO.le b (o+j);have h3:=FW b (o+j);have h4:=M.sum b (o+j)
   grind
  | some off=>
   obtain ⟨e1,e2,e3⟩:=M.ul off LL;rw[e] at e3;simp only[iu,bT] at e3
   exact Pf (by omega) wK (wV b (o+off) e3) (λj u hu hn=>cells j u hu λo' he i7=>by
    grind)
 refine ⟨t,m3,H3,v3,λb i=>k_ ad t.sz b i+F3 b i,λb i=>A2 b i\/(1<=F2 b i+G b i/\F3 b i=0),k1,⟨m,H,v,hg⟩,λ_ _ h=>.inl h,λb i=>?_,λσ' on dc=>?_⟩
 ·have h1:=k2 b i;have h2:=hX b i;have h3:=M.sum b i;have h4:=RO.le b i
  grind
 have Qu:=k3 (λb i=>A2 b i\/(1<=F2 b i+G b i/\F3 b i=0)) (λ_ _ h=>.inl h) (λb i h1 h2=>.inr ⟨h1,h2⟩)
 have K4:c8 P (λb i=>A2 b i\/(1<=F2 b i+G b i/\F3 b i=0)) σ' a w2 (tmp a r) (σ'.get r) (λb i=>k_ ad t.sz b i+F3 b i)/\d8 w2 (tmp a r) (σ'.get r)=some ⟨t,H3,lr loc cs t'.sz d6,ad⟩:=by
  rw[on.root]
  cases z8:ad with
  | none=>
   obtain ⟨e1,e2⟩:=RO.val z8
   have e3:lr loc cs t'.sz d6=cs:=by
    cases LL:loc with
    | none=>rfl
    | some off=>
     have:=(M.ul off LL).2.2;rw[z8] at this;rw[<-LL];exact zh (Qq this)
   rw[wS hr v3 e2];rw[e3] at Qu ⊢;exact ⟨⟨cs,e1,ao.le Qu (λb i=>by grind)⟩,by grind [d8,lu,ao.one]⟩
  | some bo=>
   obtain ⟨b,o⟩:=bo;obtain ⟨e1,e2⟩:=RO.ptr b o z8;rw[wT hr v3 e2,e1];have hh:=Qt b o z8;refine ⟨⟨b,o,_,F3,rfl,YW,hh,λj hj=>?_,λb' i=>?_,Qu⟩,by grind [d8,fi]⟩
   ·have hb:b < w.heap.size:=h.kN b (o+j) (.inl (by
     have h1:=RO.le b (o+j);grind [dv,k_,ep]))
    rw[gf.yP b (o+j) hb];exact RO.yP b o z8 j hj
   ·exact aL _
 refine h.chg hr on.n on.get on.kZ on.below on.l8 on.az on.Wr on.gh K4.1 RO.root K4.2 (λp' snap h1 h2 h3=>?_) (λb i ha=>.inl (hA b i ha)) (λb i ha=>?_) (λb i=>?_) (gf.mono λb i hz=>?_) (λt5 m5 H5 v5 hg5=>?_) (λk hm=>?_)
 ·grind
 ·have h1:=hX b i;have h2:=k2 b i;have h3:=M.sum b i;have h4:=RO.le b i;grind
 ·have h1:=hX b i;have h2:=k2 b i;have h3:=M.sum b i;have h4:=RO.le b i
  grind
 ·grind
 ·rw[on.root] at hg5;grind [wS,wT]
 ·rcases on.head k hm with hp | he
  ·rw[M.Qp hp];rfl
  grind
end
end OT
set_option linter.unusedVariables false
set_option linter.unusedSimpArgs false
namespace OT
open Go
theorem ao.Ws {P:Program} {w:World} {A:Cells}:∀ (t:Ty) {m:Md} {H:List Path} {v:t.den} {cs:List Value} {F:FP},ao P w A t m H v cs F->ao P w A t m (ut t) v cs (λ_ _=>0):=by
 intro t
 induction t with
 | pair a b mX mO=>
  intro m H v cs F h;obtain ⟨_,F1,F2,hs,h1,h2⟩:=h;refine ⟨by grind [ut,sN,rE],λ_ _=>0,λ_ _=>0,λ_ _=>aL _,?_,?_⟩
  all_goals grind [ut,uj,uO,uP,uk]
 | aa e ih=>
  intro m H v cs F h;have h1:=ao.length _ h;have h2:=ao.one _ h
  match cs,h1 with
  | [y],_=>grind [ao,ut,hole]
 | ptr e ih=>
  intro m H v cs F h;have h1:=ao.length _ h;have h2:=ao.one _ h
  match cs,h1 with
  | [y],_=>grind [ao,ut,hole]
 | arr n e ih=>intro m H v cs F h;rw[ut,h.2.1];obtain ⟨rfl,h⟩:=h;exact ⟨rfl,h⟩
 | map k v=>
  intro m H v cs F h;have h1:=ao.length _ h;have h2:=ao.one _ h
  match cs,h1 with
  | [y],_=>grind [ao,ut,hole]
 | _=>intro m H v cs F h;exact h
section
variable {P:Program} {C:Ctx} {A:Cells} {X:FP} {σ:St} {a:Act} {w:World} {F:Nat->FP} {R:Type} {x:R}
structure At (σ:St) (r:Nat) (p:Path) (t:Ty) (m:Md) (H:List Path) (v:t.den):Prop where
 eq:∀ {S:Type} (K0:(t:Ty)->Md->List Path->t.den->Option S),pK σ r p K0=K0 t m H v
theorem At.inj {r:Nat} {p:Path} {t t':Ty} {m m':Md} {H H':List Path} {v:t.den} {v':t'.den} (h:At σ r p t m H v) (h':At σ r p t' m' H' v'):t=t'/\m=m'/\H=H'/\HEq v v':=by
 have h1:=h.eq (λt m H v=>some (⟨t,m,H,v⟩:(t:Ty)×Md×List Path×t.den));rw[h'.eq] at h1;grind
theorem HF (σ:St) (r d:Nat):(σ.head r d).n=σ.n:=by unfold St.head;split <;> rfl
theorem z_ (σ:St) (r d i:Nat):(σ.head r d).get i=σ.get i:=by unfold St.head;split <;> rfl
theorem Aa (σ:St) (r d i:Nat):(σ.head r d).kZ i=σ.kZ i:=by unfold St.head;split <;> rfl
theorem Pj (σ:St) (r d:Nat):(σ.head r d).gh=σ.gh:=by unfold St.head;split <;> rfl
theorem LM {r d:Nat} {f:List Nat->List Nat} (h1:Below (σ.kZ r) (f (σ.kZ r))) (h2:(f (σ.kZ r)).length=5) {t:Ty} {m:Md} {H:List Path} {v:t.den} {q:Prop} (hq:1<=d->q) :
  UR σ r ((σ.ky r t m H v).get r) q (((σ.ky r t m H v).mN r f).head r d) where
 n:=by rw[HF];exact uR r t m H v
 get i hi:=by rw[z_];exact yd r t m H v i hi
 root:=by rw[z_];rfl
 kZ i hi:=by grind [Aa,qR,rq]
 below:=by grind [Aa,qR,rq]
 l8:=by grind [Aa,qR,rq]
 az e he:=by
  unfold St.head at he;grind [HC,St.mN,wU]
 Wr j k hm:=by
  unfold St.head;grind [Qs,St.mN,wU]
 gh e he:=by grind [Pj,St.mN,CK]
 head k hm:=by
  unfold St.head at hm;split at hm
  ·exact absurd ⟨rfl,rfl⟩ (HC hm).2
  grind
theorem LN (h:Rel P C A X σ a w F) {r:Nat} {p:Path} {K:St->Option R} (hk:zg σ r p K=some x) {t':Ty} {m':Md} {H':List Path} {v':t'.den} (hn:At σ r p t' m' H' v') :
  ∃ (A':Cells) (σ':St) (F':Nat->FP) (cs:List Value) (ad:Option (Nat×Nat)) (Fv:FP),K σ'=some x/\(∀ b i,A b i->A' b i)/\Rel P C A' (λb i=>X b i+Fv b i) σ' a w F'/\σ'.n=σ.n/\qS σ σ' /\
   place σ a w r p=some ⟨t',H',cs,ad⟩/\ao P w A t' m' H' v' cs Fv/\∀ b i,Fv b i<=F r b i:=by
 obtain ⟨hr,t1,m1,H1,v1,cs,ad,Fv,kk,h1,h2,h3,h4,h5,h6,h7,h8⟩:=h.yR hk;obtain ⟨e1,e2,e3,e4⟩:=hn.inj ⟨h2⟩;subst e1;subst e2;subst e3;have e4:=gK e4;subst e4;obtain ⟨t0,m3,H3,v3,Fr,A3,k1,⟨m0,H0,v0,k0⟩,k2,k3,k4⟩:=h8 _ _ _ h1 w A cs (λ_ _=>0) (λb i=>X b i+Fv b i) (Ext.refl _ _) (λ_ _ h=>h) (λ_ _ h=>.inl h) (λb i=>aL _) h6 (λ_=>rfl) (ao.Ws _ h4);refine ⟨A3,_,_,cs,ad,Fv,k1,k2,k4 _ (LM (uQ _ (h.l8 r)) (CI _ (h.l8 r)) .inl) (λp' snap hb ba hl=>?_),?_,yQ hr v3 k0 (λi=>by rw[z_];rfl),h3,h4,λb i=>by grind⟩
 ·refine ⟨0,False,?_,?_,?_,rX.zero (A:=A) ad (ao.Ws _ h4)⟩
  all_goals
   unfold St.ok at ba;rw[Aa,qR,aM rfl,rq] at ba;have:=Ee (d9 p) (h.l8 r) hb ba
  all_goals omega
 ·rw[HF];exact uR _ _ _ _ _
theorem I_ (h:Rel P C A X σ a w F) {r:Nat} {p:Path} {K:St->Option R} (hk:zg σ r p K=some x) {t':Ty} {m':Md} {v':t'.den} (hn:At σ r p t' m' [] v') :
  ∃ (A':Cells) (σ':St) (F':Nat->FP) (cs:List Value) (ad:Option (Nat×Nat)) (Fv:FP),K σ'=some x/\(∀ b i,A b i->A' b i)/\Rel P C A' (λb i=>X b i+Fv b i) σ' a w F'/\σ'.n=σ.n/\qS σ σ' /\
   place σ a w r p=some ⟨t',[],cs,ad⟩/\ao P w A t' m' [] v' cs Fv:=
 have ⟨A',σ',F',cs,ad,Fv,h1,h2,h3,h4,h5,h6,h7,_⟩:=LN h hk hn
 ⟨A',σ',F',cs,ad,Fv,h1,h2,h3,h4,h5,h6,h7⟩
theorem JQ {r:Nat} (hv:(σ.kZ r).length=5) {t:Ty} {m:Md} {H:List Path} {v:t.den} {q:Prop} (hq:q):UR σ r ((σ.ky r t m H v).get r) q (σ.ky r t m H v):=
 ⟨uR _ _ _ _ _,λi hi=>yd _ _ _ _ _ i hi,rfl,λi _=>rq _ _ _ _ _ i,by rw[rq];exact Below.refl _,by grind [rq],
  λe he=>by grind [wU],λj k hm=>by grind [wU],λe he=>by grind [CK],λ_ _=>hq⟩
theorem N4 (h:Rel P C A X σ a w F) {r:Nat} {p:Path} {m2:Md} {K:St->Option R} (hk:wm σ r p m2 K=some x) :
  ∃ (A':Cells) (σ':St) (F':Nat->FP),K σ'=some x/\(∀ b i,A b i->A' b i)/\Rel P C A' X σ' a w F'/\σ'.n=σ.n/\qS σ σ':=by
 obtain ⟨hr,t1,m1,H1,v1,cs,ad,Fv,kk,h1,h2,h3,h4,h5,h6,h7,h8⟩:=h.yR hk;have FW:∀ b i,X b i+F r b i<=1:=λb i=>by have:=h.pk b i;grind [dv]
 split at h1
 ·rename_i hc;simp only[aF,bG] at hc;obtain ⟨rfl,hc⟩:=hc;obtain ⟨F1,hF1,jj⟩:=ao.fits _ hc h4 (λb i=>by grind);have Wt:=jj (λb i=>A b i\/(1<=Fv b i/\F1 b i=0)) (λ_ _ h=>.inl h) (λb i h1 h2=>.inr ⟨h1,h2⟩)
  obtain ⟨t0,m3,H3,v3,Fr,A3,k1,⟨m0,H0,v0,k0⟩,k2,k3,k4⟩:=h8 _ _ _ h1 w (λb i=>A b i\/(1<=Fv b i/\F1 b i=0)) cs F1 X (Ext.refl _ _) (λ_ _ h=>.inl h)
   (λb i ha=>ha.imp id λ⟨h1,h2⟩=>⟨by omega,by grind⟩) (λb i=>by grind) h6 (λ_=>rfl) Wt
  exact ⟨A3,_,_,k1,λb i ha=>k2 b i (.inl ha),k4 _ (JQ (h.l8 r) (.inr rfl)) (λp' snap hb ba hl=>⟨d9 p'+1,True,by omega,λ_=>.inr trivial,λ_=>trivial,
   rX.same ad h4 (λ_ _ _ _ h=>h) (λ_ _ _ _ h=>h) _ True⟩),uR _ _ _ _ _,yQ hr v3 k0 (λi=>rfl)⟩
 ·cases h1
theorem yz (h:Rel P C A X σ a w F) {r:Nat} {p:Path} {K:St->Option R} (hk:xL σ r p K=some x) :
  ∃ (A':Cells) (σ':St) (F':Nat->FP) (t':Ty) (m':Md) (v':t'.den) (cs:List Value) (ad:Option (Nat×Nat)),K σ'=some x/\(∀ b i,A b i->A' b i)/\Rel P C A' X σ' a w F'/\σ'.n=σ.n/\qS σ σ' /\
   At σ r p t' m' [] v'/\place σ a w r p=some ⟨t',[],cs,ad⟩/\Ro P w A' t' v' cs:=by
 obtain ⟨hr,t1,m1,H1,v1,cs,ad,Fv,kk,h1,h2,h3,h4,h5,h6,h7,h8⟩:=h.yR hk;have FW:∀ b i,X b i+F r b i<=1:=λb i=>by have:=h.pk b i;grind [dv]
 split at h1
 ·rename_i hc;simp only[aF,bG] at hc;obtain ⟨rfl,hc⟩:=hc;have wW:Ro P w (λb i=>A b i\/1<=Fv b i) t1 v1 cs:=ao.wI (λ_ _ h=>.inl h) t1 h4 (λb i hp=>.inr hp)
  obtain ⟨t0,m3,H3,v3,Fr,A3,k1,⟨m0,H0,v0,k0⟩,k2,k3,k4⟩:=h8 _ _ _ h1 w (λb i=>A b i\/1<=Fv b i) cs (λ_ _=>0) X (Ext.refl _ _) (λ_ _ h=>.inl h)
   (λb i ha=>ha.imp id λh1=>⟨by omega,by grind⟩) (λb i=>by omega) h6 (λ_=>rfl) (Ro.rep _ _ (it _) wW)
  exact ⟨A3,_,_,t1,m1,v1,cs,ad,k1,λb i ha=>k2 b i (.inl ha),k4 _ (JQ (h.l8 r) (.inr rfl)) (λp' snap hb ba hl=>⟨d9 p'+1,True,by omega,λ_=>.inr trivial,λ_=>trivial,
   rX.same ad h4 (λ_ _ _ _ h=>h) (λ_ _ _ _ h=>h) _ True⟩),uR _ _ _ _ _,yQ hr v3 k0 (λi=>rfl),⟨h2⟩,h3,Ro.mono (λ_ _ _ _ h=>h) k2 _ wW⟩
 ·cases h1
theorem cy {t t':Ty} {v:t.den} {K:t'.den->Option R} (h:jJ t t' v K=some x):∃ e:t=t',K (e ▸ v)=some x:=by
 grind [jJ]
theorem B_ (h:Rel P C A X σ a w F) {r:Nat} {p:Path} {t:Ty} {m:Md} {v:t.den} {K:St->Option R} (hk:vF σ r p t m v K=some x) :
  r < σ.n/\∃ (m':Md) (H':List Path) (v':t.den) (cs:List Value) (ad:Option (Nat×Nat)) (F':FP),At σ r p t m' H' v'/\place σ a w r p=some ⟨t,H',cs,ad⟩/\ao P w A t m' H' v' cs F' /\
   (∀ b i,k_ ad t.sz b i+F' b i<=F r b i)/\(∀ b o,ad=some (b,o)->Has w b o cs/\∀ j,j < t.sz->w.frozen? ⟨b,o+j,none⟩=false) /\
   ∀ (w2:World) (A2:Cells) (d6:List Value) (Fv X2:FP),Ext w w2 (λb i=>X b i+(F' b i+k_ ad t.sz b i))->(∀ b i,A b i->A2 b i)->(∀ b i,A2 b i->A b i\/(1<=X b i+F' b i/\X2 b i+Fv b i=0)) ->
    (∀ b i,X2 b i+Fv b i<=X b i+F' b i)->(∀ b o,ad=some (b,o)->Has w2 b o d6)->(ad=none->d6=cs)->ao P w2 A2 t m [] v d6 Fv ->
    ∃ (A3:Cells) (σ':St) (Fr:FP),K σ'=some x/\(∀ b i,A2 b i->A3 b i)/\Rel P C A3 X2 σ' a w2 (ge F r Fr)/\σ'.n=σ.n /\
     ∀ g:List Nat->List Nat,Below (σ.kZ r) (g (σ.kZ r))->(g (σ.kZ r)).length=5->d6=cs ->
      (∀ (p':Path) (snap:List Nat),Below snap (σ.kZ r)->preB snap (g (σ.kZ r))=true->(snap.length=min 5 (1+d9 p')\/snap.length=min 5 (2+d9 p')\/snap.length=5) ->
       ∃ D full,d9 p'<=D+d9 p/\(snap.length=min 5 (2+d9 p')->d9 p' < D+d9 p\/full)/\(snap.length=5->full)/\rX D full w t H' cs ad w2 [] d6) ->
      Rel P C A3 X2 { σ' with vr:=(σ.mN r g).vr,az:=σ.az } a w2 (ge F r Fr):=by
 obtain ⟨hr,t1,m1,H1,v1,cs,ad,Fv,kk,h1,h2,h3,h4,h5,h6,h7,h8⟩:=h.yR hk;obtain ⟨e,h1⟩:=cy h1;subst e;refine ⟨hr,m1,H1,v1,cs,ad,Fv,⟨h2⟩,h3,h4,h5,λb o e=>⟨h6 b o e,h7 b o e⟩,λw2 A2 d6 Fv2 X2 g1 g2 g3 g4 g5 g6 g7=>?_⟩
 obtain ⟨t0,m3,H3,v3,Fr,A3,k1,⟨m0,H0,v0,k0⟩,k2,k3,k4⟩:=h8 m [] v h1 w2 A2 d6 Fv2 X2 g1 g2 g3 g4 g5 g6 g7;refine ⟨A3,_,Fr,k1,k2,k4 _ (LM ?_ ?_ .inl) (λp' snap hb ba hl=>?_),?_,λg hg1 hg2 uG dc=>?_⟩
 ·split
  ·exact yc (h.l8 r)
  ·exact uQ _ (h.l8 r)
 ·split
  ·exact Ed (h.l8 r)
  ·exact CI _ (h.l8 r)
 ·unfold St.ok at ba;rw[Aa,qR,aM rfl,rq] at ba;by_cases hf:t.flat=true
  ·rw[aM hf] at ba;have:=GN (h.l8 r) hb ba;exact ⟨d9 p'+1,False,by omega,λ_=>.inl (by omega),λ_=>by omega,rX.flat (A:=A) ad g7 hf _⟩
  ·rw[aP hf] at ba;have:=Ee (d9 p) (h.l8 r) hb ba;exact ⟨0,False,by omega,λ_=>.inl (by omega),λ_=>by omega,rX.zero (A:=A) ad g7⟩
 ·rw[HF];exact uR _ _ _ _ _
 ·refine k4 _ ⟨by rw[HF];exact uR _ _ _ _ _,λi hi=>?_,?_,λi hi=>?_,?_,?_,λe he=>he,λj k hm=>hm,λe he=>?_,λ_ _=>.inr uG⟩ (λp' snap hb ba hl=>dc p' snap hb ?_ hl)
  ·show (((σ.ky r t0 m3 H3 v3).mN r _).head r _).get i=_;rw[z_];exact yd r t0 m3 H3 v3 i hi
  ·show (((σ.ky r t0 m3 H3 v3).mN r _).head r _).get r=_;rw[z_];rfl
  ·show (σ.mN r g).kZ i=σ.kZ i;grind [qR]
  ·show Below _ ((σ.mN r g).kZ r);grind [qR]
  ·show ((σ.mN r g).kZ r).length=5;grind [qR]
  ·grind [Pj,St.mN,CK]
  ·have ba:preB snap ((σ.mN r g).kZ r)=true:=ba;grind [qR]
end
end OT
set_option linter.unusedVariables false
set_option linter.unusedSimpArgs false
namespace OT
open Go
section
variable {P:Program} {C:Ctx} {A:Cells} {X:FP} {σ:St} {a:Act} {w:World} {F:Nat->FP} {R:Type} {x:R}
theorem Rel.grow (h:Rel P C A X σ a w F) {w1:World} (hw:Ext w w1 (λ_ _=>0)) {A1:Cells} {X1:FP} (hA:∀ b i,A b i->A1 b i)
  (FX:∀ b i,A1 b i->A b i\/(w.heap.size<=b/\b < w1.heap.size/\X1 b i=0)) (hX:∀ b i,X1 b i<=X b i\/(w.heap.size<=b/\b < w1.heap.size/\X1 b i<=1)):Rel P C A1 X1 σ a w1 F:=by
 have tr:∀ b i,A b i->∀ u,ce w b i=some u->ce w1 b i=some u:=λb i ha u hu=>hw.cell b i (h.kN b i (.inr ha)) rfl u hu
 have JR:∀ b i,w.heap.size<=b->bg σ.n F b i=0:=λb i hb=>by
  rcases bM (bg σ.n F b i) with h0 | h0
  ·exact h0
  ·have:=h.kN b i (.inl (by omega));omega
 have Ef:∀ j,j < σ.n->∀ b i,1<=F j b i->(∀ u,ce w b i=some u->ce w1 b i=some u)/\w1.frozen? ⟨b,i,none⟩=w.frozen? ⟨b,i,none⟩:=λj hj b i hp=>by
  have hb:=h.kN b i (.inl (by grind [dv]));exact ⟨λu hu=>hw.cell b i hb rfl u hu,hw.yP b i hb⟩
 have nP:xN σ a w σ a w1:=λr p snap hb=>⟨hb,λba=>⟨ba,λhl pl iU=>⟨pl.H,pl.cs,by
  have ax:=tP iU
  exact vL (h.iW r ax) rfl rfl tr (λb i hp=>(Ef r ax b i hp).1) iU,λ_=>rfl⟩⟩⟩
 refine ⟨h.size,h.defers,λi hi=>c8.mW nP hA tr hw.xE (Ef i hi) (h.iW i hi),λd r p snap hm=>rG.mW nP (h.gh d r p snap hm),λb i=>?_,λb i hp ha=>?_,λb i hp=>?_,
  h.l8,h.ext.trans hw (λ_ _ _ _=>rfl),λb i hp=>?_,λb i ha=>hA b i (h.a0 b i ha),λb i ha=>?_,h.oL,λr t m H v hg hl=>?_,λj k hm R' po=>?_,h.wN⟩
 ·have h1:=h.pk b i;grind
 ·rcases FX b i ha with ha | ⟨h1,h2,h3⟩
  ·have ax:=h.kN b i (.inr ha)
   rcases hX b i with h2 | ⟨h2,_⟩
   ·exact h.qb b i (by omega) ha
   ·omega
  grind
 ·rcases hp with hp | ha
  ·rcases hX b i with h2 | ⟨h2,h3,_⟩
   ·exact dB (h.kN b i (.inl (by omega))) hw.size
   ·exact h3
  ·rcases FX b i ha with ha | ⟨h1,h2,h3⟩
   ·exact dB (h.kN b i (.inr ha)) hw.size
   ·exact h2
 ·rcases hX b i with h2 | ⟨h2,_⟩
  ·exact h.own b i (by omega)
  ·exact .inr (bL h.ext.size h2)
 ·rcases FX b i ha with ha | ⟨h1,_⟩
  ·exact h.a1 b i ha
  ·exact .inr (.inr (bL h.ext.size h1))
 ·obtain ⟨b,h1,h2⟩:=h.whole r t m H v hg hl;exact ⟨b,h1,hw.xE _ _ h2⟩
 ·rcases cK j σ.n with hj | hj
  ·have lT:=h.iW j hj
   cases zd:d8 w (tmp a j) (σ.get j) with
   | none=>exfalso;cases hg:σ.get j <;> rw[hg] at zd po <;> simp only[d8] at zd po <;> first | grind | grind | grind
   | some R0=>
    rw[wP lT (λb i hp=>(Ef j hj b i hp).1) zd] at po;injection po with po;subst po;exact h.nD j k hm _ zd
  ·rw[mf (fZ.2 hj)] at po;cases po
def dO (P:Program):Operand->Bool
 | .func f=>(P.funcs[f]?).any (·.nfree == 0)
 | _=>true
theorem fy (h:Rel P C A X σ a w F) {o:Operand} (ho:dO P o=true):c8 P A σ a w (a.eval o) (d7 σ o) (λ_ _=>0)\/∃ xs,d7 σ o=.rT xs:=by
 cases o with
 | tmp i=>
  show c8 P A σ a w (tmp a i) _ _\/_;rcases cK i σ.n with hi | hi
  ·have hs:=h.iW i hi;simp only[d7]
   cases hg:σ.get i with
   | own t m H v=>
    rw[hg] at hs;obtain ⟨cs,h1,h2⟩:=hs;left
    have iU:place σ a w i []=some ⟨t,H,cs,none⟩:=by
     grind [place,d8,lu,ao.length,ao.one,bn]
    have h5:=h.l8 i;refine ⟨?_,λ_=>⟨_,iU,h1,?_⟩⟩
    ·unfold vk;split
     ·intro j y hj;grind
     ·intro j y hj;grind
     ·exact Below.refl _
    ·unfold vk;grind [wJ]
   | box t m H v=>
    rw[hg] at hs;obtain ⟨b,o,L,F1,h1,h2,h3,h4,h5,h6⟩:=hs;left;have h5':=h.l8 i;refine ⟨?_,λ_=>⟨⟨t,H,L,some (b,o)⟩,b,o,?_,rfl,h1,by grind [wo]⟩⟩
    ·unfold wo;intro j y hj;grind
    grind [place,d8,fi,bn]
   | rT xs=>grind
   | dead=>exact .inl trivial
   | wC=>rw[hg] at hs;exact .inl hs
   | val t v=>rw[hg] at hs;exact .inl hs
   | cp t v=>rw[hg] at hs;exact .inl hs
   | ref r p snap=>rw[hg] at hs;exact .inl hs
   | ptr r p snap=>rw[hg] at hs;exact .inl hs
   | sub r p snap lo hi=>rw[hg] at hs;exact .inl hs
  ·simp only[d7,mf (fZ.2 hi)];exact .inl trivial
 | const v=>
  left;show c8 P A σ a w v (yw v) _;unfold yw;split
  ·split
   ·rename_i hn;exact ⟨[_],rfl,by grind [Ro,pU]⟩
   ·trivial
  ·exact ⟨[_],rfl,rfl⟩
  ·exact ⟨[_],rfl,rfl⟩
  ·exact ⟨[_],rfl,rfl⟩
  ·exact ⟨[_],rfl,rfl⟩
  ·exact ⟨[_],rfl,rfl⟩
  ·exact ⟨[_],rfl,by simp[Ro]⟩
  ·rfl
  ·trivial
 | func f=>
  left;simp only[dO,Option.any_eq_true,beq_iff_eq] at ho;obtain ⟨fn,h1,h2⟩:=ho;exact ⟨[_],rfl,#[],rfl,fn,h1,.inl ⟨h2,rfl⟩⟩
 | global g=>exact .inl trivial
def AO (A:Cells) (σ:St) (F:Nat->FP):Cells:=λb i=>A b i\/1<=bg σ.n F b i
theorem eo (t:Ty) (y:Value) (h:isAgg t=false):dq t [y]=y:=by simp[dq,h]
theorem Ro.piece {e:Ty} {v:List e.den} {xa:Option Addr} {n cap lo hi cap':Nat} {vM:Option Addr} (h:Ro P w A (.aa e) v [.slice xa n cap]) (h1:lo<=hi) (h2:hi<=n) (h3:cap'+lo=cap) (h4:xa=none->vM=none)
  (h5:∀ ad,xa=some ad->∃ c_,vM=some c_/\c_.spot=ad.spot/\c_.block=ad.block/\(lo < hi->c_.off=ad.off+lo*e.sz)) :
  Ro P w A (.aa e) ((v.take hi).drop lo) [.slice vM (hi - lo) cap']:=by
 obtain ⟨a0,abj,g1,g2,g3,g4⟩:=h;simp only[dH,Value.slice.injEq,eJ] at g1;obtain ⟨rfl,rfl,rfl⟩:=g1;have hlen:List.length ((v.take hi).drop lo)=hi - lo:=by simp;omega
 refine ⟨vM,cap',by rw[hlen],by grind,λhn=>?_,λc_ Qo=>?_⟩
 ·rw[hlen];cases SE:xa <;> grind
 ·cases SE:xa <;> grind
def AR (A:Cells) (F:Nat->FP) (rs:List Nat):Cells:=λb i=>A b i\/∃ r ∈ rs,1<=F r b i
theorem JS (h:Rel P C A X σ a w F) {s:Slot} {tv:Value} {G:FP} (hs:c8 P A σ a w tv s G) {t:Ty} {K:t.den->Option R} (hk:s_ σ s t K=some x) :
  ∃ (v:t.den) (cs:List Value),K v=some x/\tv=dq t cs/\Ro P w (AR A F (m9 s)) t v cs:=by
 have SF:∀ b i,A b i->AR A F (m9 s) b i:=λb i ha=>.inl ha;have zh:∀ b i,A b i->∀ u,ce w b i=some u->ce w b i=some u:=λ_ _ _ _ h=>h
 cases s with
 | val t' v=>
  obtain ⟨e,hk⟩:=cy hk;subst e;obtain ⟨cs,h1,h2⟩:=hs;grind [Ro.mono]
 | cp t' v=>
  obtain ⟨e,hk⟩:=cy hk;subst e;exact ⟨v,[tv],hk,(eo _ _ rfl).symm,Ro.mono zh SF _ hs⟩
 | wC=>
  simp only[s_] at hk;split at hk
  ·rename_i t e;have hs:tv=.slice none 0 0:=hs;subst hs;exact ⟨[],_,hk,(eo _ _ rfl).symm,none,0,rfl,aL _,λ_=>rfl,λad lH=>by cases lH⟩
  ·cases hk
 | ref r p snap=>
  simp only[s_] at hk;split at hk
  ·rename_i ba;obtain ⟨hr,t',m',H',v',bu,c_,F',h1,h2,h3,h4,h5,h6⟩:=lA h hk;obtain ⟨pl,g1,g2,g3⟩:=hs.2 ba;rw[h3] at g1;injection g1 with g1;subst g1;split at h1
   ·rename_i hH;have hH:=bG.1 hH;subst hH;obtain ⟨e,h1⟩:=cy h1;subst e;exact ⟨v',bu,h1,g2,ao.wI SF _ h4 (λb i hp=>.inr ⟨r,bJ.2 rfl,by grind⟩)⟩
   ·cases h1
  ·cases hk
 | sub r p snap lo hi=>
  simp only[s_] at hk;split at hk
  ·rename_i ba;obtain ⟨hr,t',m',H',v',bu,c_,F',h1,h2,h3,h4,h5,h6⟩:=lA h hk;obtain ⟨pl,e,xa,n,cap,vM,cap',g1,g2,g3,g4,g5,g6,g7,Pk,g8,g9,g10⟩:=hs.2 ba;rw[h3] at g1;injection g1 with g1;subst g1;simp only at g2 g3;subst g2;subst g3;split at h1
   ·rename_i hH;have hH:=bG.1 hH;subst hH;obtain ⟨e',h1⟩:=cy h1;subst e';exact ⟨_,_,h1,by rw[eo _ _ rfl];exact g6,Ro.piece (ao.wI SF _ h4 (λb i hp=>.inr ⟨r,bJ.2 rfl,by grind⟩)) g4 g5 g7 g8 g9⟩
   ·cases h1
  ·cases hk
 | ptr r p snap=>
  simp only[s_] at hk;split at hk
  ·rename_i ba;obtain ⟨hr,t',m',H',v',bu,c_,F',h1,h2,h3,h4,h5,h6⟩:=lA h hk;obtain ⟨pl,b,o,g1,g2,g3,g4⟩:=hs.2 ba;rw[h3] at g1;injection g1 with g1;subst g1;split at h1
   ·rename_i hH;have hH:=bG.1 hH;subst hH;obtain ⟨e',h1⟩:=cy h1;subst e';simp only at g2;subst g2
    refine ⟨v',[tv],h1,(eo _ _ rfl).symm,⟨b,o,none⟩,by rw[g3],rfl,bu,ao.length _ h4,λj u hu=>⟨h6 b o rfl j u hu,?_⟩,
     ao.wI SF _ h4 (λb i hp=>.inr ⟨r,bJ.2 rfl,by grind⟩)⟩
    have hj:j < t'.sz:=ao.length _ h4 ▸ (aR.1 hu).1;unfold place at h3
    cases hR:d8 w (tmp a r) (σ.get r) with
    | none=>grind
    | some R0=>
     rw[hR] at h3;obtain ⟨m0,v0,F1,q1,q2,q3,_⟩:=wO (h.iW r hr) hR
     exact Sv SF p R0.t q1 (λb i hp=>.inr ⟨r,bJ.2 rfl,by grind⟩) (λb' o' e' j hj=>.inr ⟨r,bJ.2 rfl,by
      grind [ep]⟩) h3 b o rfl j hj
   ·cases h1
  ·cases hk
 | _=>simp[s_] at hk
theorem Eg (h:Rel P C A X σ a w F) {s:Slot} {t:Ty} {K:t.den->Option R} (hk:s_ σ s t K=some x):∀ r ∈ m9 s,r < σ.n:=by
 intro r hr;cases s <;> simp only[m9,bJ,List.not_mem_nil] at hr
 all_goals
  subst hr;simp only[s_] at hk;split at hk
  ·exact (lA h hk).1
  ·cases hk
theorem Pm (h:Rel P C A X σ a w F) {s:Slot} {tv:Value} {G:FP} (hs:c8 P A σ a w tv s G) {t:Ty} {K:t.den->Option R} (hk:s_ σ s t K=some x) :
  ∃ (v:t.den) (cs:List Value),K v=some x/\tv=dq t cs/\Ro P w (AO A σ F) t v cs:=by
 obtain ⟨v,cs,h1,h2,h3⟩:=JS h hs hk;refine ⟨v,cs,h1,h2,Ro.mono (λ_ _ _ _ h=>h) (λb i ha=>?_) t h3⟩
 rcases ha with ha | ⟨r,hr,hp⟩
 ·exact .inl ha
 ·have:=dv F (Eg h hk r hr) b i;exact .inr (by omega)
end
end OT
set_option linter.unusedVariables false
set_option linter.unusedSimpArgs false
namespace OT
open Go
section
variable {P:Program} {C:Ctx} {A:Cells} {X:FP} {σ:St} {a:Act} {w:World} {F:Nat->FP} {R:Type} {x:R}
theorem HG {l:List (Nat×Nat×Bool)} {r:Nat} (h:Cw l r=false) (k:Nat):(r,k,false) ∉ l:=by
 induction l with
 | nil=>grind
 | cons y l ih=>
  obtain ⟨k',n,b⟩:=y;simp_all [Cw]
theorem rH (a:Act) (i:Nat):a.put (some i) (tmp a i)=a:=by
 have:a.tmps.setIfInBounds i (tmp a i)=a.tmps:=by
  apply Array.ext
  all_goals simp_all [gY,tmp]
 simp[Act.put,this]
theorem um (h:Rel P C A X σ a w F) {s:Slot} {tv:Value} {G:FP} (hs:c8 P A σ a w tv s G) {mv:Bool} {t:Ty} {K:Md->t.den->St->Option R} (hk:mV σ s mv t K=some x) :
  ∃ (A':Cells) (σ':St) (F':Nat->FP) (m:Md) (v:t.den) (cs:List Value) (Fv:FP),K m v σ'=some x/\(∀ b i,A b i->A' b i)/\Rel P C A' (λb i=>X b i+Fv b i) σ' a w F'/\σ'.n=σ.n/\qS σ σ' /\
   tv=dq t cs/\ao P w A' t m [] v cs Fv:=by
 have hz:Rel P C A (λb i=>X b i+0) σ a w F:=h
 cases s with
 | val t' v=>
  simp only[mV] at hk;obtain ⟨e,hk⟩:=cy hk;subst e;obtain ⟨cs,h1,h2⟩:=hs;exact ⟨A,σ,F,_,v,cs,λ_ _=>0,hk,λ_ _ h=>h,hz,rfl,qS.refl σ,h1,Ro.rep _ _ (it _) h2⟩
 | cp t' v=>
  simp only[mV] at hk;obtain ⟨e,hk⟩:=cy hk;subst e;exact ⟨A,σ,F,_,v,[tv],λ_ _=>0,hk,λ_ _ h=>h,hz,rfl,qS.refl σ,(eo _ _ rfl).symm,Ro.rep _ _ (it _) hs⟩
 | wC=>
  simp only[mV] at hk;split at hk
  ·rename_i t e;have hs:tv=.slice none 0 0:=hs;subst hs;refine ⟨A,σ,F,_,_,[.slice none 0 0],λ_ _=>0,hk,λ_ _ h=>h,hz,rfl,qS.refl σ,(eo _ _ rfl).symm,?_⟩
   grind [ao,hole,uK,Md.own]
  ·cases hk
 | ref r p snap=>
  simp only[mV] at hk;split at hk
  ·rename_i ba;obtain ⟨hr,t',m',H',v',bu,c_,F',h1,h2,h3,h4,h5,h6⟩:=lA h hk;obtain ⟨pl,g1,g2,g3⟩:=hs.2 ba;rw[h3] at g1;injection g1 with g1;subst g1;split at h1
   ·rename_i hH;have hH:=bG.1 hH;subst hH;obtain ⟨e,h1⟩:=cy h1;subst e;split at h1
    ·rename_i hm;subst hm;exact ⟨A,σ,F,_,v',bu,λ_ _=>0,h1,λ_ _ h=>h,hz,rfl,qS.refl σ,g2,Ro.rep _ _ (it _) (ao.ro _ (it _) h4)⟩
    ·split at h1
     ·obtain ⟨A',σ',F2,cs,ad,Fv,k1,k2,k3,k4,kr,k5,k6⟩:=I_ h h1 ⟨h2⟩;rw[h3] at k5;injection k5 with k5;simp only[Pl.mk.injEq,dQ] at k5;obtain ⟨rfl,rfl⟩:=k5;exact ⟨A',σ',F2,_,v',bu,Fv,k1,k2,k3,k4,kr,g2,ao.mono k2 (λ_ _ _ _ h=>h) (λ_ _ h=>h) _ k6 (λ_ _=>aL _) (λ_ _ _ _ h=>h)⟩
     ·obtain ⟨A',σ',F2,t2,m2,v2,cs,ad,k1,k2,k3,k4,kr,k5,k6,k7⟩:=yz h h1;obtain ⟨e1,e2,e3,e4⟩:=At.inj ⟨h2⟩ k5;subst e1;have e4:=gK e4;subst e4;rw[h3] at k6;injection k6 with k6;simp only[Pl.mk.injEq,dQ] at k6;obtain ⟨rfl,rfl⟩:=k6;exact ⟨A',σ',F2,_,v',bu,λ_ _=>0,k1,k2,k3,k4,kr,g2,Ro.rep _ _ (it _) k7⟩
   ·cases h1
  ·cases hk
 | sub r p snap lo hi=>
  simp only[mV] at hk;split at hk
  ·rename_i ba;obtain ⟨hr,t',m',H',v',bu,c_,F',h1,h2,h3,h4,h5,h6⟩:=lA h hk;obtain ⟨pl,e,xa,n,cap,vM,cap',g1,g2,g3,g4,g5,g6,g7,Pk,g8,g9,g10⟩:=hs.2 ba;rw[h3] at g1;injection g1 with g1;subst g1;simp only at g2 g3;subst g2;subst g3;split at h1
   ·rename_i hH;have hH:=bG.1 hH;subst hH;obtain ⟨e',h1⟩:=cy h1;subst e';simp only at h1;have Ab:tv=dq (.aa e) [.slice vM (hi - lo) cap']:=by rw[eo _ _ rfl];exact g6
    split at h1
    ·rename_i hm;subst hm;exact ⟨A,σ,F,_,_,_,λ_ _=>0,h1,λ_ _ h=>h,hz,rfl,qS.refl σ,Ab,Ro.rep _ _ (it _) (Ro.piece (ao.ro _ (it _) h4) g4 g5 g7 g8 g9)⟩
    ·split at h1
     ·split at h1
      ·rename_i vN;subst vN;obtain ⟨A',σ',F2,cs,ad,Fv,k1,k2,k3,k4,kr,k5,k6⟩:=I_ h h1 ⟨h2⟩;rw[h3] at k5;injection k5 with k5;simp only[Pl.mk.injEq,dQ] at k5;obtain ⟨rfl,rfl⟩:=k5;have k6:=ao.mono k2 (λ_ _ _ _ h=>h) (λ_ _ h=>h) _ k6 (λ_ _=>aL _) (λ_ _ _ _ h=>h);refine ⟨A',σ',F2,_,_,_,Fv,k1,k2,k3,k4,kr,Ab,?_⟩
       have SE:=Pk rfl;subst SE;simp only[dW] at g7;subst g7;simp only[ao,hole,bV,aJ,aO] at k6 ⊢;split at k6
       ·rename_i jE;rw[aM jE];obtain ⟨a0,abj,q1,q2,q3,q4,q5⟩:=k6;simp only[dH,Value.slice.injEq,eJ] at q1;obtain ⟨rfl,rfl,rfl⟩:=q1;have hlen:List.length ((v'.take hi).drop 0)=hi:=by simp;omega
        refine ⟨vM,cap',by rw[hlen];rfl,by grind,q3,q4,λad lH=>?_⟩
        obtain ⟨r1,r2,r3,Fi,r4,r5⟩:=q5 ad lH;refine ⟨r1,r2,r3,Fi,λb i=>?_,λi y hy=>?_⟩
        ·rw[hlen];have:=r4 b i;have:=Ss (List.length v') Fi 0 hi (by omega) b i
         grind
        simp_all [cJ]
       ·rename_i jE;rw[aP jE];exact ⟨trivial,k6.2.1,Ro.piece (cap':=cap') k6.2.2 g4 g5 rfl g8 g9⟩
      ·cases h1
     ·obtain ⟨A',σ',F2,t2,m2,v2,cs,ad,k1,k2,k3,k4,kr,k5,k6,k7⟩:=yz h h1;obtain ⟨e1,e2,e3,e4⟩:=At.inj ⟨h2⟩ k5;subst e1;have e4:=gK e4;subst e4;rw[h3] at k6;injection k6 with k6;simp only[Pl.mk.injEq,dQ] at k6;obtain ⟨rfl,rfl⟩:=k6;exact ⟨A',σ',F2,_,_,_,λ_ _=>0,k1,k2,k3,k4,kr,Ab,Ro.rep _ _ (it _) (Ro.piece k7 g4 g5 g7 g8 g9)⟩
   ·cases h1
  ·cases hk
 | ptr r p snap=>
  cases p with
  | cons s p=>simp[mV] at hk
  | nil=>
   simp only[mV] at hk;split at hk
   ·rename_i ba;split at hk
    ·rename_i t' m' H' v' hg;split at hk
     ·rename_i hc;simp only[aF,bG,cC] at hc;obtain ⟨rfl,hl⟩:=hc;obtain ⟨e,hk⟩:=cy hk;subst e
      have hr:r < σ.n:=by
       grind [mf]
      obtain ⟨pl,b,o,g1,g2,g3,g4⟩:=hs.2 ba;have lT:=h.iW r hr;rw[hg] at lT;obtain ⟨b0,o0,L,F1,q1,q2,q3,q4,q5,q6⟩:=lT;unfold place at g1;rw[hg,q1] at g1;simp only[d8,aA,bn,aS] at g1;subst g1;simp only[aS,bP] at g2;obtain ⟨rfl,rfl⟩:=g2;obtain ⟨b1,w1,w2⟩:=h.whole r t' m' [] v' hg (HG hl);rw[q1] at w1;simp only[Value.pointer.injEq,aS,Addr.mk.injEq,eJ] at w1;obtain ⟨rfl,rfl⟩:=w1;have Ac:=h.put hr (s:=.dead) (v:=tmp a r) (Fd:=λ_ _=>0) (X':=λb i=>X b i+F r b i) trivial (λb i=>by omega) (λt m H v e=>by cases e);rw[rH] at Ac
      refine ⟨A,_,_,_,v',[tv],F r,hk,λ_ _ h=>h,Ac,rfl,(λw tv i R hR=>⟨R.H,by
       rw[xO] at hR;split at hR
       ·cases hR
       ·exact hR⟩),(eo _ _ rfl).symm,?_⟩
      grind [ao,hole,Md.own,Md.e]
     ·cases hk
    ·cases hk
   ·cases hk
 | _=>simp[mV] at hk
theorem FB {t:Ty} {m:Md} {v:t.den} {cs:List Value} {Fv:FP} (h:ao P w A t m [] v cs Fv) :
  c8 P A σ a w (dq t cs) (laid t m v) Fv/\∀ t' m' H' v',laid t m v=.box t' m' H' v'->∃ b,dq t cs=.pointer (some ⟨b,0,none⟩)/\je w b (t'.sz,false):=by
 unfold laid;split
 ·rename_i hm;subst hm;exact ⟨⟨cs,rfl,ao.ro _ (it _) h⟩,λt' m' H' v' e=>by cases e⟩
 ·split
  ·rename_i e m' v' _;simp only[ao,hole,bV,aJ,aO,Md.own,aI,Md.e] at h;obtain ⟨b,rfl,h2,L,F1,h3,h4,h5,h6⟩:=h;rw[eo _ _ rfl];refine ⟨⟨b,0,L,F1,rfl,h3,h4,λj hj=>by rw[cB];exact h2.frozen hj,h5,h6⟩,λt' m' H' v' e=>?_⟩
   grind
  ·exact ⟨⟨cs,rfl,h⟩,λt' m' H' v' e=>by cases e⟩
theorem Rel.XA (h:Rel P C A X σ a w F) {d:Nat} (hd:σ.n<=d) (s:Slot) (v:Value) {X':FP} (ht:∀ b i,X' b i<=X b i):Rel P C A X' (σ.put d s) (a.put (some d) v) w F:=by
 have nC:=h.size;have ha:a.put (some d) v=a:=by simp[Act.put,Array.setIfInBounds,nC,fZ.2 hd]
 rw[ha]
 have wR:∀ i,(σ.put d s).get i=σ.get i:=λi=>by
  grind [xO]
 have nP:xN σ a w (σ.put d s) a w:=by
  intro r p snap hb;rw[zH,St.ok,zH];by_cases hr:d=r
  ·subst hr;simp only[aI];refine ⟨hb.trans (tu _),λba=>?_⟩
   have h0:=FV (h.l8 d) hb ba;exact ⟨(Fy hb (tu _) ba).1,λhl=>by omega⟩
  ·simp only[aP hr];refine ⟨hb,λba=>⟨ba,λhl pl iU=>⟨pl.H,pl.cs,?_,λ_=>rfl⟩⟩⟩
   simp_all [place]
 refine ⟨h.size,h.defers,λi hi=>?_,?_,λb i=>by have:=h.pk b i;have:=ht b i;show X' b i+bg σ.n F b i<=1;omega,λb i hp=>h.qb b i (by have:=ht b i;have hp:1<=X' b i+bg σ.n F b i:=hp;omega),
  λb i hp=>h.kN b i (hp.imp (λhp=>by have:=ht b i;have hp:1<=X' b i+bg σ.n F b i:=hp;omega) id),λi=>?_,h.ext,λb i hp=>h.own b i (by have:=ht b i;have hp:1<=X' b i+bg σ.n F b i:=hp;omega),h.a0,h.a1,?_,?_,?_,h.wN⟩
 ·rw[wR];exact c8.mW nP (λ_ _ h=>h) (λ_ _ _ _ h=>h) (λ_ _ h=>h) (λ_ _ _=>⟨λ_ h=>h,rfl⟩) (h.iW i hi)
 ·intro d' r p snap hm;exact rG.mW nP (h.gh d' r p snap (LI hm).1)
 ·rw[zH];split
  ·rw[Ec];exact h.l8 d
  ·exact h.l8 i
 ·intro j k hm;exact h.oL j k (zj hm).1
 ·intro r t m H v' hg hl;rw[wR] at hg;refine h.whole r t m H v' hg λk hm=>hl k (HB hm λe=>?_);grind [mf]
 ·intro j k hm R hR;rw[wR] at hR;exact h.nD j k (zj hm).1 R hR
theorem Rel.bz (h:Rel P C A X σ a w F) (d:Option Tmp) {s:Slot} {v:Value} {Fd X':FP} (hs:c8 P A σ a w v s Fd) (ht:∀ b i,X' b i+Fd b i<=X b i)
  (Wn:∀ t m H v',s=.box t m H v'->∃ b,v=.pointer (some ⟨b,0,none⟩)/\je w b (t.sz,false)):∃ F',Rel P C A X' (σ.bz d s) (a.put d v) w F':=by
 cases d with
 | none=>exact ⟨F,h.less λb i=>by grind⟩
 | some d=>
  rcases cK d σ.n with hd | hd
  ·exact ⟨_,h.put hd hs (λb i=>by grind) Wn⟩
  ·exact ⟨_,h.XA hd s v λb i=>by grind⟩
def Eh (P:Program) (C:Ctx) (σ:St) (a:Act) (w:World):Prop:=∃ A F,Rel P C A (λ_ _=>0) σ a w F
end
end OT
set_option linter.unusedVariables false
set_option linter.unusedSimpArgs false
namespace OT
open Go
def zc:Ty->Option (List Value)
 | .int k=>some [.int k 0]
 | .bool=>some [.bool false]
 | .str=>some [.string ⟨#[]⟩]
 | .unit=>some []
 | .pair a b=>match zc a,zc b with
  | some x,some y=>some (x++y)
  | _,_=>none
 | .arr n e=>match zc e with
  | some x=>some (List.replicate n x).flatten
  | none=>none
 | .aa _=>some [.slice none 0 0]
 | _=>none
def YX:Value->Value->Bool
 | .int k n,.int k' n'=>decide (k=k')&&decide (n=n')
 | .bool a,.bool b=>a == b
 | .string s,.string t=>decide (s.data.toList=t.data.toList)
 | .slice none 0 0,.slice none 0 0=>true
 | _,_=>false
def Ja:List Value->List Value->Bool
 | [],[]=>true
 | a::x,b::y=>YX a b&&Ja x y
 | _,_=>false
theorem YY {a b:Value} (h:YX a b=true):a=b:=by
 unfold YX at h;split at h
 ·grind
 ·grind
 ·rename_i s t;simp only[bI] at h;congr 1;cases s;simp_all
 all_goals grind
theorem Pn:∀ {x y:List Value},Ja x y=true->x=y
 | [],[],_=>rfl
 | a::x,b::y,h=>by
  simp only[Ja,aF] at h;rw[YY h.1,Pn h.2]
 | [],_::_,h=>by simp[Ja] at h
 | _::_,[],h=>by simp[Ja] at h
def sj (P:Program) (t:Ty) (i:TypeId):Bool:=
 match P.info? i with
 | some inf=>Nat.beq inf.size t.sz&&Nat.ble inf.bytes 512&&(match inf.zero with
  | some z=>Nat.beq z.cells.size t.sz&&(match zc t with
   | some L=>Ja z.cells.toList L
   | none=>true)
  | none=>false)
 | none=>false
def rU (P:Program):Ty->Sum TypeId (List Field)->Bool
 | .int _,.inl _=>true
 | .bool,.inl _=>true
 | .str,.inl _=>true
 | .unit,.inl i=>!P.stoodInHeld i
 | .unit,.inr _=>true
 | .pair a b,.inl i=>!P.stoodInHeld i&&(match P.underlying i with
  | some (.struct fs)=>(match fs.toList with
   | f::r=>f.name != "_" && rU P a (.inl f.type)&&rU P b (.inr r)
   | []=>false)
  | _=>false)
 | .pair a b,.inr (f::r)=>f.name != "_" && rU P a (.inl f.type)&&rU P b (.inr r)
 | .arr _ e,.inl i=>(match P.underlying i with
  | some (.array _ el)=>rU P e (.inl el)
  | _=>false)
 | _,_=>false
def dep:Ty->Nat
 | .arr _ e=>dep e+1
 | .pair a b=>max (dep a+1) (dep b)
 | _=>1
def YZ (P:Program) (k:Ty) (i:TypeId):Bool:=isAgg k&&k.oh&&k.flat&&rU P k (.inl i)&&Nat.ble (dep k) 9000
def Wu (P:Program) (v:Ty) (i:TypeId):Bool:=match P.info? i with
 | some inf=>(match inf.zero with
  | some (.agg _)=>isAgg v
  | some _=>!isAgg v
  | none=>false)
 | none=>false
def bi (P:Program):Ty->Sum TypeId (List Field×Nat)->Bool
 | .int k,.inl i=>sj P (.int k) i&&(match P.underlying i with | some (.int k')=>decide (k=k') | _=>false)
 | .bool,.inl i=>sj P .bool i&&(match P.underlying i with | some .bool=>true | _=>false)
 | .str,.inl i=>sj P .str i&&(match P.underlying i with | some .string=>true | _=>false)
 | .unit,.inl i=>sj P .unit i&&(match P.underlying i with | some (.struct fs)=>fs.toList.isEmpty | _=>false)
 | .unit,.inr (fs,_)=>fs.isEmpty
 | .pair a b,.inl i=>sj P (.pair a b) i&&(match P.underlying i with
  | some (.struct fs)=>(match fs.toList with
   | f::r=>Nat.beq f.offset 0&&Nat.ble 1 a.sz&&bi P a (.inl f.type)&&bi P b (.inr (r,a.sz))
   | []=>false)
  | _=>false)
 | .pair a b,.inr (f::r,off)=>Nat.beq f.offset off&&Nat.ble 1 a.sz&&bi P a (.inl f.type)&&bi P b (.inr (r,off+a.sz))
 | .arr n e,.inl i=>sj P (.arr n e) i&&e.flat&&(match P.underlying i with | some (.array n' el)=>Nat.beq n n'&&Nat.ble 1 e.sz&&bi P e (.inl el) | _=>false)
 | .aa e,.inl i=>sj P (.aa e) i&&(match P.underlying i with | some (.slice el)=>Nat.ble 1 e.sz&&bi P e (.inl el) | _=>false)
 | .ptr e,.inl i=>sj P (.ptr e) i&&(match P.underlying i with | some (.pointer el)=>bi P e (.inl el) | _=>false)
 | .fn,.inl i=>sj P .fn i&&(match P.underlying i with | some (.func ..)=>true | _=>false)
 | .map k v,.inl i=>sj P (.map k v) i&&(match P.underlying i with | some (.map ki vi)=>bi P k (.inl ki)&&bi P v (.inl vi)&&YZ P k ki&&Wu P v vi | _=>false)
 | _,_=>false
section
variable {P:Program} {w:World} {A:Cells}
theorem FY {t:Ty} {i:TypeId} (h:sj P t i=true):∃ inf z,P.info? i=some inf/\inf.size=t.sz/\inf.bytes<=512/\inf.zero=some z/\z.cells.size=t.sz/\∀ L,zc t=some L->z.cells.toList=L:=by
 grind [sj,Nat.beq_eq,Nat.ble_eq,Pn]
theorem lc {t:Ty} {i:TypeId} (h:sj P t i=true):∃ inf,P.info? i=some inf/\inf.size=t.sz/\inf.bytes<=512/\∀ L,zc t=some L->∃ z,inf.zero=some z/\z.cells.toList=L:=by
 grind [FY]
theorem nf {t:Ty} {i:TypeId} (h:bi P t (.inl i)=true):sj P t i=true:=by
 cases t <;> simp only[bi,aF] at h <;> first | exact h.1 | exact h.1.1 | cases h
theorem zk {t:Ty} {i:TypeId} (h:bi P t (.inl i)=true):∃ d,P.underlying i=some d/\(isAgg t=true->(∃ fs,d=.struct fs)\/∃ n e,d=.array n e)/\(isAgg t=false->(∀ fs,d≠.struct fs)/\∀ n e,d≠.array n e):=by
 cases hd:P.underlying i with
 | none=>cases t <;> simp[bi,hd] at h
 | some d=>
  refine ⟨d,rfl,?_,?_⟩
  ·intro ha;cases t <;> simp only[isAgg] at ha <;> first | cases ha | skip
   all_goals grind [bi]
  ·intro ha;cases t <;> simp only[isAgg] at ha <;> first | cases ha | skip
   all_goals grind [bi]
theorem Ei {t:Ty} {i:TypeId} (h:bi P t (.inl i)=true):(Go.isAgg i).run P w=.ok (isAgg t) w:=by
 obtain ⟨d,h1,h2,h3⟩:=zk h;unfold Go.isAgg;simp only[Sem.run_bind,run_underlying h1,Result.andThen_ok]
 cases ht:isAgg t with
 | true=>
  rcases h2 ht with ⟨fs,rfl⟩ | ⟨n,e,rfl⟩ <;> rfl
 | false=>
  simp_all
theorem run_sizeOf {t:Ty} {i:TypeId} (h:bi P t (.inl i)=true):(Go.sizeOf i).run P w=.ok t.sz w:=by
 obtain ⟨inf,h1,h2,_⟩:=lc (nf h);simp[Go.sizeOf,typeInfo,h1,h2]
theorem LO {t:Ty} (h:isAgg t=false):t.sz=1:=by cases t <;> simp_all [isAgg,Ty.sz]
theorem qF (b o n:Nat):(⟨b,o,none⟩:Addr).add n=⟨b,o+n,none⟩:=by grind [Addr.add]
theorem ye {t:Ty} {i:TypeId} (h:bi P t (.inl i)=true) {b o:Nat} {L:List Value} (hL:Has w b o L) (hl:L.length=t.sz) (qT:∀ u ∈ L,u.oneCell'=true):(loadVar i ⟨b,o,none⟩).run P w=.ok (dq t L) w:=by
 unfold loadVar;simp only[Sem.run_bind,Ei h,Result.andThen_ok]
 cases ht:isAgg t with
 | true=>
  have:=run_loadCells_list (P:=P) w ⟨b,o,none⟩ L (λj v hj=>by rw[qF];exact vm (hL j v hj) (qT v (cD hj)));rw[hl] at this;simp only[aI,Sem.run_bind,run_sizeOf h,Result.andThen_ok,this,Sem.run_pure,dq,ht]
 | false=>
  have hs:=LO ht
  match L,hl with
  | [y],_=>
   have:=vm (hL 0 y rfl) (qT y (by simp));grind [run_load,dq]
  | [],hl=>grind
  | _::_::_,hl=>grind
theorem CL:∀ (t:Ty) {L:List Value} {i:Sum TypeId (List Field×Nat)},zc t=some L->bi P t i=true->ao P w A t (ai t) [] t.zero L (λ_ _=>0)/\Ro P w A t t.zero L/\L.length=t.sz:=by
 intro t
 induction t with
 | int k=>intro L i h _;injection h with h;subst h;cases k <;> exact ⟨rfl,rfl,rfl⟩
 | bool=>intro L i h _;injection h with h;subst h;exact ⟨rfl,rfl,rfl⟩
 | str=>intro L i h _;injection h with h;subst h;exact ⟨rfl,rfl,rfl⟩
 | unit=>intro L i h _;injection h with h;subst h;exact ⟨rfl,rfl,rfl⟩
 | pair a b mX mO=>
  intro L i h hl;simp only[zc] at h;split at h
  ·rename_i x y hx hy;injection h with h;subst h
   have:∃ ia ib,bi P a ia=true/\bi P b ib=true:=by
    cases i with
    | inl i=>
     grind [bi]
    | inr fo=>
     obtain ⟨fs,off⟩:=fo;cases fs <;> grind [bi]
   obtain ⟨ia,ib,h1,h2⟩:=this;obtain ⟨ra,oa,la⟩:=mX hx h1;obtain ⟨rb,ob,lb⟩:=mO hy h2;have e1:(x++y).take a.sz=x:=iK la;have e2:(x++y).drop a.sz=y:=iL la;refine ⟨⟨rfl,λ_ _=>0,λ_ _=>0,λ_ _=>aL _,by rw[e1];exact ra,by rw[e2];exact rb⟩,⟨by rw[e1];exact oa,by rw[e2];exact ob⟩,by grind [Ty.sz]⟩
  ·cases h
 | arr n e ih=>
  intro L i h hl;simp only[zc] at h;split at h
  ·rename_i z hz;injection h with h;subst h
   have:e.flat=true/\∃ ie,bi P e ie=true:=by
    grind [bi]
   obtain ⟨hf,ie,he⟩:=this;obtain ⟨re,oe,le⟩:=ih hz he
   have hlen:∀ n,((List.replicate n z).flatten).length=n*e.sz:=λn=>by
    simp_all
   have wW:Ro P w A (.arr n e) (Ty.arr n e).zero ((List.replicate n z).flatten):=by
    refine ⟨hf,by simp[Ty.zero],hlen n,λi x hx=>?_⟩
    have hi:i < n:=by grind [Ty.zero]
    have hx:x=e.zero:=by
     grind [Ty.zero]
    subst hx
    have:(((List.replicate n z).flatten).drop (i*e.sz)).take e.sz=z:=by
     have e1:n=i+(1+(n - i - 1)):=by omega
     rw[e1,<- gH,<- gH,List.flatten_append,List.flatten_append];grind
    grind
   exact ⟨⟨rfl,wW⟩,wW,hlen n⟩
  ·cases h
 | aa e ih=>
  intro L i h _;injection h with h;subst h;refine ⟨?_,⟨none,0,rfl,aL _,λ_=>rfl,λad lH=>by cases lH⟩,rfl⟩
  simp only[ao,hole,bV,aJ,aO,ai,uK,Md.own,aI];exact ⟨none,0,rfl,aL _,by simp[maxLen],λ_=>rfl,λad lH=>by cases lH⟩
 | ptr e ih=>grind [zc]
 | fn=>grind [zc]
 | map k v=>grind [zc]
theorem yS {t:Ty} {i:TypeId} (h:bi P t (.inl i)=true) {L:List Value} (hz:zc t=some L):∃ z,(zeroValue i).run P w=.ok z w/\z.cells.toList=L:=by
 obtain ⟨inf,h1,h2,_,h3⟩:=lc (nf h);obtain ⟨z,h4,h5⟩:=h3 L hz;simp_all [zeroValue,typeInfo]
end
end OT
