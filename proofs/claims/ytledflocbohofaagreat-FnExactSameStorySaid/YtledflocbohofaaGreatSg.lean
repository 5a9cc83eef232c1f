/- The proof's parts, merged: Transactions  what the program and the reference find at fault  conditions on the lengths alone.. No conditions but those that each states. -/
import Derived.Test.YtledflocbohofaaGreatSf
set_option linter.unusedVariables false
set_option linter.unusedSimpArgs false
namespace OT
open Go
theorem bE {V S O α:Type} {B:(V->Option O)->V->Option O} (xs:List α) (enc:S->Int->V) (f:Nat->S->α->Sum (Option O) S) (fin:S->Option O) (I:Nat->S->Prop) (tD:xs.length<=maxLen)
  (en:∀ (i:Nat) (hi:i < xs.length) (s:S) self,I i s->B self (enc s (i:Int))=match f i s xs[i] with | .inl o=>o | .inr s'=>self (enc s' (ae ((i:Int)+1))))
  (hI:∀ (i:Nat) (hi:i < xs.length) (s s':S),I i s->f i s xs[i]=.inr s'->I (i+1) s')
  (jP:∀ (s:S) self,I xs.length s->B self (enc s (xs.length:Int))=fin s) (s:S) (h0:I 0 s):∀ k,xs.length < k->al B k (enc s 0)=aU f fin 0 xs s:=by
 have main:∀ (m i:Nat) (s:S),xs.length - i=m->i<=xs.length->I i s->∀ k,m < k->al B k (enc s (i:Int))=aU f fin i (xs.drop i) s:=by
  intro m
  induction m with
  | zero=>
   intro i s hm hi hs k hk
   have eZ:i=xs.length:=by omega
   subst eZ
   cases k with
   | zero=>omega
   | succ k=>
    show B (al B k) _=_
    rw[jP s _ hs]
    simp[aU]
  | succ m ih=>
   intro i s hm hi hs k hk
   have aj:i < xs.length:=by omega
   cases k with
   | zero=>omega
   | succ k=>
    show B (al B k) _=_
    rw[en i aj s _ hs,List.drop_eq_getElem_cons aj]
    simp only[aU]
    cases hf:f i s xs[i] with
    | inl o=>rfl
    | inr s'=>
     have hw:ae ((i:Int)+1)=((i+1:Nat):Int):=by rw[aP (by rw[ah] at tD;omega)];omega
     simp only[hw]
     exact ih (i+1) s' (by omega) (by omega) (hI i aj s s' hs hf) k (by omega)
 intro k hk
 simpa using main xs.length 0 s (by omega) (by omega) h0 k hk
theorem ph {O α:Type} (p:α->Bool) (a:O) (fin:Unit->O):∀ (xs:List α) (i:Nat),aU (fun _ _ x=>if p x then .inl a else .inr ()) fin i xs ()=if xs.any p then a else fin ()
 | [],_=>rfl
 | x::xs,i=>by
  simp only[aU,List.any_cons]
  by_cases h:p x=true
  ·simp[h]
  ·simp[h,ph p a fin xs (i+1)]
def sG {α:Type} (p:α->Bool):Nat->List α->Int
 | _,[]=>-1
 | i,x::xs=>if p x then (i:Int) else sG p (i+1) xs
theorem yC {α:Type} (p:α->Bool):∀ (xs:List α) (i:Nat),aU (fun i _ x=>if p x then .inl ((i:Int),()) else .inr ()) (fun _=>((-1:Int),())) i xs ()=(sG p i xs,())
 | [],_=>rfl
 | x::xs,i=>by
  simp only[aU,sG]
  by_cases h:p x=true
  ·simp[h]
  ·simp[h,yC p xs (i+1)]
theorem Ae {α:Type} (p:α->Bool):∀ (xs:List α) (i:Nat),decide (0<=sG p i xs)=xs.any p
 | [],_=>rfl
 | x::xs,i=>by
  simp only[sG,List.any_cons]
  by_cases h:p x=true
  ·simp[h]
  ·simp[h,Ae p xs (i+1)]
theorem tT (a b:Key):Ty.eq aF a b=decide (a=b):=by
 obtain ⟨a1,a2,⟨⟩⟩:=a
 obtain ⟨b1,b2,⟨⟩⟩:=b
 show (decide (a1=b1)&&(decide (a2=b2)&&true))=decide ((a1,a2,())=(b1,b2,()))
 by_cases h1:a1=b1 <;> by_cases Y:a2=b2 <;> simp[h1,Y]
def sH (c:Change):Key:=((ck c).1,(ck c).2,())
def dc (ks:List Key) (k:Key):Bool:=ks.any fun x=>decide (x=k)
theorem kt {ks:List Key} {k:Key}:dc ks k=true↔k ∈ ks:=by simp[dc]
def pw (k:Key):Bool:=cA k.1 0 3&&cA k.2.1 1 99
theorem CM (c:Change):iJ.ab (c,())=some (sH c,()):=by
 refine ag (k:=0) fun k _=>(iJ.aa k _).trans ?_
 show iJ.p _=_
 unfold iJ.p
 simp only[yA,Option.bind_some]
 rfl
theorem Mg (c:Change):gj.ab (c,())=some (sH c,()):=by
 refine ag (k:=0) fun k _=>(gj.aa k _).trans ?_
 show gj.p _=_
 unfold gj.p sH
 simp only[tS,Option.bind_some,<- Ad]
theorem DW (x:Key):ka.ab (x,())=some (pw x,()):=by
 refine ag (k:=0) fun k _=>(ka.aa k _).trans ?_
 show ka.p _=_
 unfold ka.p pw cA
 simp only[iQ,Option.bind_some]
 cases decide ((0:Int)<=x.1) <;> cases decide (x.1<=3) <;> rfl
theorem J4 (x:Key):kS.ab (x.1,x.2.1,())=some (pw x,()):=by
 refine ag (k:=0) fun k _=>(kS.aa k _).trans ?_
 show kS.p _=_
 unfold kS.p pw cA
 simp only[lL,Option.bind_some]
 cases decide ((0:Int)<=x.1) <;> cases decide (x.1<=3) <;> rfl
theorem CN (x:Tx) (k0:Key) (h:List.length x.2.2.2.1<=maxLen):dz.ab (x,k0,())=some (dc x.2.2.2.1 k0,()):=by
 refine ag (k:=List.length x.2.2.2.1+1) fun k hk=>(dz.aa k _).trans ?_
 have:=br (B:=fun self v=>dz.B0 0 self (fun z=>dz.Q0 0 (x,k0,()) z) (x,k0,()) v) x.2.2.2.1 (fun (_:Unit) (i:Int)=>i) (fun _ _ y=>if decide (y=k0) then .inl (true,()) else .inr ()) (fun _=>(false,())) (fun _ _=>True) h
  (fun i hi s self _=>by
   show dz.b0 _ _ _ _=_
   unfold dz.b0
   have aj:(i:Int) < (List.length x.2.2.2.1:Int):=by omega
   simp only[aj,decide_true,cond_true,Int.natCast_nonneg,if_true,Int.toNat_natCast,List.getElem?_eq_getElem hi,Option.bind_some,tT]
   by_cases hh:(x.2.2.2.1)[i]=k0
   ·simp only[hh,decide_true,cond_true,if_true]
   ·simp only[hh,decide_false,cond_false,Bool.false_eq_true,if_false])
  (fun _ _ _ _ _ _=>trivial) (fun s self _=>by
   show dz.b0 _ _ _ _=_
   unfold dz.b0
   simp only[Int.lt_irrefl,decide_false,cond_false]
   rfl) () trivial k (by omega)
 rw[ph] at this
 refine Eq.trans this ?_
 unfold dc
 cases x.2.2.2.1.any (fun y=>decide (y=k0)) <;> rfl
theorem contains_eq (ks:List Key) (k0:Key) (h:ks.length<=maxLen):ed.ab (ks,k0,())=some (dc ks k0,()):=by
 have EK:dE.ab (ks,k0,())=some (sG (fun y=>decide (k0=y)) 0 ks,()):=by
  refine ag (k:=ks.length+1) fun k hk=>(dE.aa k _).trans ?_
  have:=br (B:=fun self v=>dE.B0 0 self (fun z=>dE.Q0 0 (ks,k0,()) z) (ks,k0,()) v) ks (fun (_:Unit) (i:Int)=>i) (fun i _ y=>if decide (k0=y) then .inl ((i:Int),()) else .inr ()) (fun _=>((-1:Int),())) (fun _ _=>True) h
   (fun i hi s self _=>by
    show dE.b0 _ _ _ _=_
    unfold dE.b0
    have aj:(i:Int) < (ks.length:Int):=by omega
    simp only[aj,decide_true,cond_true,Int.natCast_nonneg,if_true,Int.toNat_natCast,List.getElem?_eq_getElem hi,Option.bind_some,tT]
    by_cases hh:k0=ks[i]
    ·simp only[<-hh,decide_true,cond_true,if_true]
    ·simp only[hh,decide_false,cond_false,Bool.false_eq_true,if_false])
   (fun _ _ _ _ _ _=>trivial) (fun s self _=>by
    show dE.b0 _ _ _ _=_
    unfold dE.b0
    simp only[Int.lt_irrefl,decide_false,cond_false]
    rfl) () trivial k (by omega)
  rw[yC] at this
  exact this
 refine ag (k:=0) fun k _=>(ed.aa k _).trans ?_
 show ed.p _=_
 unfold ed.p
 rw[EK]
 simp only[Option.bind_some,Ae]
 congr 2
 unfold dc
 congr 1
 funext y
 by_cases hh:k0=y
 ·simp[hh]
 ·have:¬ y=k0:=fun e=>hh e.symm
  simp[hh,this]
def tl (x:Tx):Prop:=List.length x.2.1<=1048576/\List.length x.2.2.1<=1048576/\List.length x.2.2.2.1<=1048576/\∀ c ∈ x.2.1,cl c
def px (ks:List Key) (c:Change):Int:=if yy c=0 then (if dc ks (sH c) then 0 else 8) else yy c
def yD (n last:Int) (ms:List Int):Bool:=aU (fun _ last m=>if cA m last n then .inr m else .inl false) (fun _=>true) 0 ms last
def jT (ks:List Key) (i:Nat) (k:Key):Int:=if pw k then (if dc (ks.take i) k then 6 else 0) else 3
def oO (ks:List Key):Int:=aU (fun i (_:Unit) k=>if jT ks i k=0 then .inr () else .inl (jT ks i k)) (fun _=>(0:Int)) 0 ks ()
def mh (x:Tx):Int:=if decide (8 < List.length x.2.2.1)||decide (12 < List.length x.2.2.2.1) then 2 else if yD (List.length x.2.1:Int) 0 x.2.2.1 then oO x.2.2.2.1 else 3
def rT (x:Tx):Int:=ig (px x.2.2.2.1) x.2.1
theorem CO (n:Int) (E:Option (Int×Unit)):∀ (ms:List Int) (i:Nat) (last:Int),aU (fun _ last m=>if cA m last n then .inr m else .inl (some ((3:Int),()))) (fun _=>E) i ms last=if aU (fun _ last m=>if cA m last n then .inr m else .inl false) (fun _=>true) i ms last then E else some ((3:Int),())
 | [],_,_=>rfl
 | m::ms,i,last=>by
  simp only[aU]
  by_cases hb:cA m last n=true
  ·simp only[hb,if_true];exact CO n E ms _ _
  ·simp[hb]
theorem DX (x:Tx) (h:tl x):fI.ab (x,())=some (rT x,()):=by
 obtain ⟨h1,Y,h3,h4⟩:=h
 refine ag (k:=List.length x.2.1+1) fun k hk=>(fI.aa k _).trans ?_
 have:=br (B:=fun self v=>fI.B0 0 self (fun z=>fI.Q0 0 (x,()) z) (x,()) v) x.2.1 (fun (_:Unit) (i:Int)=>i) (fun _ _ c=>if px x.2.2.2.1 c=0 then .inr () else .inl (px x.2.2.2.1 c,())) (fun _=>(0,())) (fun _ _=>True) (by rw[ah];omega)
  (fun i hi s self _=>by
   show fI.b0 _ _ _ _=_
   unfold fI.b0
   have aj:(i:Int) < (List.length x.2.1:Int):=by omega
   simp only[aj,decide_true,cond_true,Int.natCast_nonneg,if_true,Int.toNat_natCast,List.getElem?_eq_getElem hi,Option.bind_some,zB _ (h4 _ (List.getElem_mem hi)),CM]
   rw[CN x _ (by rw[ah];omega)]
   unfold px
   by_cases hc:yy (x.2.1)[i]=0
   ·simp only[hc,decide_true,Bool.not_true,cond_false,if_true,Option.bind_some]
    cases dc x.2.2.2.1 (sH (x.2.1)[i]) <;> rfl
   ·simp only[hc,decide_false,Bool.not_false,cond_true,if_false])
  (fun _ _ _ _ _ _=>trivial) (fun s self _=>by
   show fI.b0 _ _ _ _=_
   unfold fI.b0
   simp only[Int.lt_irrefl,decide_false,cond_false]
   rfl) () trivial k (by omega)
 rw[qi (px x.2.2.2.1) (fun c=>(c,())) (fun _=>((0:Int),()))] at this
 refine Eq.trans this ?_
 unfold rT
 split
 ·rename_i h0;rw[h0]
 ·rfl
theorem J5 {m last n:Int} (h:0<=last):(cA m 0 n&&decide (last<=m))=cA m last n:=by
 unfold cA
 by_cases h1:last<=m
 ·have:(0:Int)<=m:=by omega
  simp[h1,this]
 ·simp[h1]
theorem CP (x:Tx) (h:tl x):a_.ab (x,())=some (mh x,()):=by
 obtain ⟨h1,Y,h3,h4⟩:=h
 refine ag (k:=20) fun k hk=>(a_.aa k _).trans ?_
 unfold a_.p mh
 by_cases hm:8 < List.length x.2.2.1
 ·have:(8:Int) < (List.length x.2.2.1:Int):=by omega
  simp only[this,hm,decide_true,cond_true,Bool.true_or,if_true]
  (try rfl)
 have wx:¬ (8:Int) < (List.length x.2.2.1:Int):=by omega
 by_cases gr:12 < List.length x.2.2.2.1
 ·have:(12:Int) < (List.length x.2.2.2.1:Int):=by omega
  simp only[this,hm,wx,gr,decide_true,decide_false,cond_true,cond_false,Bool.false_or,if_true]
  (try rfl)
 have sC:¬ (12:Int) < (List.length x.2.2.2.1:Int):=by omega
 simp only[hm,wx,sC,gr,decide_false,cond_false,Bool.or_self,Bool.false_eq_true,if_false]
 have second:a_.r1 k (x,()) (x,(0:Int))=some (oO x.2.2.2.1,()):=by
  have inner:∀ (self:(Tx×Int)->Option a_.Out) (e2:Unit->Option a_.Out) (i:Nat) (hi:i < List.length x.2.2.2.1),a_.r2 k self e2 (x,()) x (i:Int) (0:Int)=if dc (x.2.2.2.1.take i) (x.2.2.2.1)[i] then some ((6:Int),()) else self (x,ae ((i:Int)+1)):=fun self e2 i hi=>by
   have eo:(x.2.2.2.1.take i).length=i:=by simp;omega
   have:=bE (B:=fun cg v=>a_.B2 k cg (fun z=>a_.Q1 k self e2 (x,()) x (i:Int) z) (x,()) x (i:Int) v) (x.2.2.2.1.take i) (fun (_:Unit) (j:Int)=>j) (fun _ _ y=>if decide (y=(x.2.2.2.1)[i]) then .inl (some ((6:Int),())) else .inr ()) (fun _=>self (x,ae ((i:Int)+1))) (fun _ _=>True) (by rw[ah];omega)
    (fun j hj s cg _=>by
     show a_.b2 _ _ _ _ _ _=_
     unfold a_.b2
     rw[eo] at hj
     have aj:(j:Int) < (i:Int):=by omega
     have EO:j < List.length x.2.2.2.1:=by omega
     simp only[aj,decide_true,cond_true,Int.natCast_nonneg,if_true,Int.toNat_natCast,List.getElem?_eq_getElem EO,List.getElem?_eq_getElem hi,Option.bind_some,tT,List.getElem_take]
     by_cases hh:(x.2.2.2.1)[j]=(x.2.2.2.1)[i]
     ·simp only[hh,decide_true,cond_true,if_true]
     ·simp only[hh,decide_false,cond_false,Bool.false_eq_true,if_false])
    (fun _ _ _ _ _ _=>trivial) (fun s cg _=>by
     show a_.b2 _ _ _ _ _ _=_
     unfold a_.b2
     simp only[eo,Int.lt_irrefl,decide_false,cond_false]
     rfl) () trivial k (by omega)
   rw[ph] at this
   exact this
  have:=br (B:=fun self v=>a_.B1 k self (fun z=>a_.Q2 k (x,()) z) (x,()) v) x.2.2.2.1 (fun (_:Unit) (i:Int)=>(x,i)) (fun i _ y=>if jT x.2.2.2.1 i y=0 then .inr () else .inl (jT x.2.2.2.1 i y,())) (fun _=>(0,())) (fun _ _=>True) (by rw[ah];omega)
   (fun i hi s self _=>by
    show a_.b1 _ _ _ _ _=_
    unfold a_.b1 jT
    have aj:(i:Int) < (List.length x.2.2.2.1:Int):=by omega
    simp only[aj,decide_true,cond_true,Int.natCast_nonneg,if_true,Int.toNat_natCast,List.getElem?_eq_getElem hi,Option.bind_some,DW]
    rw[inner self _ i hi]
    cases pw (x.2.2.2.1)[i] <;> cases dc (x.2.2.2.1.take i) (x.2.2.2.1)[i] <;> rfl)
   (fun _ _ _ _ _ _=>trivial) (fun s self _=>by
    show a_.b1 _ _ _ _ _=_
    unfold a_.b1
    simp only[Int.lt_irrefl,decide_false,cond_false]
    rfl) () trivial k (by omega)
  refine Eq.trans this ?_
  unfold oO
  generalize Lu:x.2.2.2.1=ks
  have gen:∀ (f:Nat->Key->Int) (ys:List Key) (i:Nat),aU (fun i (_:Unit) y=>if f i y=0 then .inr () else .inl (f i y,())) (fun _=>((0:Int),())) i ys ()=(aU (fun i (_:Unit) y=>if f i y=0 then .inr () else .inl (f i y)) (fun _=>(0:Int)) i ys (),()):=by
   intro f ys
   induction ys with
   | nil=>intro i;rfl
   | cons y ys ih=>intro i;simp only[aU];by_cases h0:f i y=0 <;> simp[h0,ih]
  rw[gen (jT ks)]
 have:=bE (B:=fun self v=>a_.B0 k self (fun z=>a_.Q0 k (x,()) z) (x,()) v) x.2.2.1 (fun (_:Int) (i:Int)=>i) (fun i last m=>if cA m last (List.length x.2.1:Int) then .inr m else .inl (some ((3:Int),()))) (fun _=>some (oO x.2.2.2.1,()))
  (fun i last=>0<=last/\(i=0->last=0)/\∀ y,0 < i->x.2.2.1[i - 1]?=some y->last=y) (by rw[ah];omega)
  (fun i hi last self hI=>by
   obtain ⟨i1,i2,i3⟩:=hI
   show a_.b0 _ _ _ _=_
   unfold a_.b0
   have aj:(i:Int) < (List.length x.2.2.1:Int):=by omega
   simp only[aj,decide_true,cond_true,Int.natCast_nonneg,if_true,Int.toNat_natCast,List.getElem?_eq_getElem hi,Option.bind_some,iQ]
   generalize Nv:(x.2.2.1)[i]=m
   rw[<-J5 i1]
   show (bif !cA m 0 (List.length x.2.1:Int) then _ else _)=_
   cases BF:cA m 0 (List.length x.2.1:Int) with
   | false=>rfl
   | true=>
    have yw:0<=m:=by
     simp only[cA,Bool.and_eq_true,decide_eq_true_eq] at BF
     exact BF.1
    simp only[Bool.not_true,cond_false,Bool.true_and]
    by_cases h0:i=0
    ·subst h0
     have:=i2 rfl
     subst this
     have hz:¬ (0:Int) < ((0:Nat):Int):=by omega
     simp only[hz,yw,decide_true,decide_false,cond_false,if_true]
    ·have yE:i - 1 < List.length x.2.2.1:=by omega
     have hl:=i3 (x.2.2.1)[i - 1] (by omega) (List.getElem?_eq_getElem yE)
     have hp:(0:Int) < (i:Int):=by omega
     simp only[hp,decide_true,cond_true,yB (show 0 < i by omega) (by rw[ah];omega),Int.natCast_nonneg,if_true,Int.toNat_natCast,List.getElem?_eq_getElem yE,Option.bind_some]
     rw[<-hl]
     by_cases hc:last<=m
     ·have:¬ m < last:=by omega
      simp only[hc,this,decide_true,decide_false,cond_false,if_true]
     ·have:m < last:=by omega
      simp only[hc,this,decide_true,decide_false,cond_true,Bool.false_eq_true,if_false])
  (fun i hi last Ti hI hs=>by
   split at hs
   ·rename_i hb
    injection hs with hs
    subst hs
    simp only[cA,Bool.and_eq_true,decide_eq_true_eq] at hb
    refine ⟨by omega,fun e=>by omega,fun y _ hy=>?_⟩
    rw[Nat.add_sub_cancel,List.getElem?_eq_getElem hi] at hy
    injection hy
   ·cases hs)
  (fun last self hI=>by
   show a_.b0 _ _ _ _=_
   unfold a_.b0
   simp only[Int.lt_irrefl,decide_false,cond_false]
   exact second) 0 ⟨Int.le_refl _,fun _=>rfl,fun _ h=>by omega⟩ k (by omega)
 refine Eq.trans this ?_
 unfold yD
 rw[CO]
 cases aU (fun _ last m=>if cA m last (List.length x.2.1:Int) then .inr m else .inl false) (fun _=>true) 0 x.2.2.1 0 <;> rfl
end OT
set_option linter.unusedVariables false
set_option linter.unusedSimpArgs false
namespace OT
open Go
def pb (D:List UInt8) (i:Nat):Nat:=(D.getD i 0).toNat
theorem gv (D:List UInt8) (i:Nat):pb D i < 256:=UInt8.toNat_lt _
theorem d8 {D:List UInt8} {i:Nat} (h:i < D.length):D[i]?=some D[i]/\(D[i]).toNat=pb D i:=⟨List.getElem?_eq_getElem h,by simp[pb,h]⟩
theorem IB {A B:List UInt8} (h:A.length=B.length) (Y:∀ j,j < A.length->pb A j=pb B j):A=B:=by
 refine List.ext_getElem h fun i h1 h3=>?_
 have:=Y i h1
 rw[<-(d8 h1).2,<- (d8 h3).2] at this
 exact UInt8.toNat_inj.1 this
theorem J6 (D:List UInt8) (a n j:Nat) (h:j < n):pb ((D.drop a).take n) j=pb D (a+j):=by
 unfold pb
 simp only[List.getD_eq_getElem?_getD,List.getElem?_take,h,if_true,List.getElem?_drop]
def pn (p:List UInt8):Nat:=pb p 0
def gk (p:List UInt8):Nat:=pb p 1
def pat (p:List UInt8) (i:Nat):Nat:=pb p (2+2*i)
def aM (p:List UInt8) (i:Nat):Nat:=pb p (3+2*i)
def nG (p:List UInt8) (i:Nat):Bool:=if pat p i=0\/aM p i=0 then decide (pat p i=aM p i) else decide (gk p<=pat p i)&&decide (pat p i+aM p i<=64)
def ku (p:List UInt8) (i k:Nat):Bool:=(decide (aM p i=0)||decide (aM p k=0))||(decide (pat p i+aM p i<=pat p k)||decide (pat p k+aM p k<=pat p i))
def oP (p:List UInt8):Int:=
 if p.length=64 then
  if pn p<=16/\2+2*pn p<=gk p/\gk p<=64 then
   if (List.range (pn p)).all (nG p) then
    if (List.range (pn p)).all (fun i=>(List.range i).all (ku p i)) then
     if 0 < pn p/\aM p (pn p - 1)=0 then 8 else 0
    else 8
   else 3
  else 3
 else 1
structure kV (p:List UInt8):Prop where
 len:p.length=64
 n:pn p<=16
 lo:2+2*pn p<=gk p
 hi:gk p<=64
 slot:∀ i,i < pn p->aM p i≠0->gk p<=pat p i/\pat p i+aM p i<=64
 zero:∀ i,i < pn p->aM p i=0->pat p i=0
 apart:∀ i k,i < pn p->k < pn p->i≠k->aM p i≠0->aM p k≠0->pat p i+aM p i<=pat p k\/pat p k+aM p k<=pat p i
 last:0 < pn p->aM p (pn p - 1)≠0
theorem vw {p:List UInt8} {i:Nat} (sB:2<=gk p):nG p i=true↔(aM p i≠0->gk p<=pat p i/\pat p i+aM p i<=64)/\(aM p i=0->pat p i=0):=by
 unfold nG
 by_cases h1:aM p i=0
 ·simp[h1]
 ·by_cases Y:pat p i=0
  ·simp[h1,Y]
   omega
  ·simp[h1,Y]
theorem qq {p:List UInt8} {i k:Nat}:ku p i k=true↔(aM p i≠0->aM p k≠0->pat p i+aM p i<=pat p k\/pat p k+aM p k<=pat p i):=by
 unfold ku
 by_cases h1:aM p i=0
 ·simp[h1]
 ·by_cases Y:aM p k=0
  ·simp[Y]
  ·simp[h1,Y]
theorem vx {p:List UInt8}:oP p=0↔kV p:=by
 constructor
 ·intro h
  unfold oP at h
  split at h
  ·rename_i h1
   split at h
   ·rename_i Y
    split at h
    ·rename_i h3
     split at h
     ·rename_i h4
      split at h
      ·cases h
      ·rename_i h5
       have hs:∀ i,i < pn p->(aM p i≠0->gk p<=pat p i/\pat p i+aM p i<=64)/\(aM p i=0->pat p i=0):=fun i hi=>(vw (by omega)).1 (List.all_eq_true.1 h3 i (List.mem_range.2 hi))
       have ha:∀ i k,i < pn p->k < i->aM p i≠0->aM p k≠0->pat p i+aM p i<=pat p k\/pat p k+aM p k<=pat p i:=fun i k hi hk=>qq.1 (List.all_eq_true.1 (List.all_eq_true.1 h4 i (List.mem_range.2 hi)) k (List.mem_range.2 hk))
       refine ⟨h1,Y.1,Y.2.1,Y.2.2,fun i hi=>(hs i hi).1,fun i hi=>(hs i hi).2,fun i k hi hk Lv z1 z2=>?_,fun hn hz=>h5 ⟨hn,hz⟩⟩
       rcases Nat.lt_or_gt_of_ne Lv with h6 | h6
       ·exact (ha k i hk h6 z2 z1).symm
       ·exact ha i k hi h6 z1 z2
     ·cases h
    ·cases h
   ·cases h
  ·cases h
 ·intro h
  unfold oP
  rw[if_pos h.len,if_pos ⟨h.n,h.lo,h.hi⟩,if_pos,if_pos,if_neg]
  ·intro ⟨h1,Y⟩
   exact h.last h1 Y
  ·refine List.all_eq_true.2 fun i hi=>List.all_eq_true.2 fun k hk=>qq.2 ?_
   have:=List.mem_range.1 hi
   have:=List.mem_range.1 hk
   exact h.apart i k (by omega) (by omega) (by omega)
  ·exact List.all_eq_true.2 fun i hi=>(vw (by have:=h.lo;omega)).2 ⟨h.slot i (List.mem_range.1 hi),h.zero i (List.mem_range.1 hi)⟩
def ep (p:List UInt8) (i:Nat):List UInt8:=(p.drop (pat p i)).take (aM p i)
def cellOf (p:List UInt8) (i:Nat):List UInt8:=if i < pn p then ep p i else []
theorem rU {p:List UInt8} (h:kV p) {i:Nat} (hi:i < pn p):(ep p i).length=aM p i:=by
 unfold ep
 by_cases hz:aM p i=0
 ·simp[hz]
 ·have:=h.slot i hi hz
  have:=h.len
  simp only[List.length_take,List.length_drop]
  omega
theorem xf (p:List UInt8) (i j:Nat) (h:j < aM p i):pb (ep p i) j=pb p (pat p i+j):=J6 p _ _ j h
theorem J7 {p q:List UInt8} {i k:Nat} (hp:(ep p i).length=aM p i) (hq:(ep q k).length=aM q k) (hs:aM p i=aM q k) (hb:∀ j,j < aM p i->pb p (pat p i+j)=pb q (pat q k+j)):ep p i=ep q k:=by
 refine IB (by omega) fun j hj=>?_
 rw[xf p i j (by omega),xf q k j (by omega)]
 exact hb j (by omega)
theorem J8 {p c:List UInt8} {i:Nat} (hp:(ep p i).length=aM p i) (hs:aM p i=c.length) (hb:∀ j,j < c.length->pb p (pat p i+j)=pb c j):ep p i=c:=by
 refine IB (by omega) fun j hj=>?_
 rw[xf p i j (by omega)]
 exact hb j (by omega)
def Tj (p:List UInt8) (s a:Nat) (c:List UInt8):List UInt8:=((lc p a c.length c).set (2+2*s) (UInt8.ofNat a)).set (3+2*s) (UInt8.ofNat c.length)
structure pL (p q:List UInt8) (s a m:Nat):Prop where
 len:q.length=64
 n:pn q=pn p\/(pn q=pn p+1/\s=pn p)
 NS:s < pn q
 n16:pn q<=16
 lo:2+2*pn q<=gk q
 SR:gk q<=gk p
 at_:pat q s=a
 sz:aM q s=m
 pos:0 < m
 QT:gk q<=a
 QU:a+m<=64
 CQ:∀ i,i < pn q->i≠s->pat q i=pat p i/\aM q i=aM p i
 free:∀ i,i < pn p->i≠s->aM p i≠0->a+m<=pat p i\/pat p i+aM p i<=a
 same:∀ j,gk p<=j->j < 64->(j < a\/a+m<=j)->pb q j=pb p j
theorem pL.ok {p q:List UInt8} {s a m:Nat} (t:pL p q s a m) (h:kV p):kV q:=by
 have aj:∀ i,i < pn q->i≠s->i < pn p:=fun i hi hs=>by rcases t.n with h1 | ⟨h1,Y⟩ <;> omega
 have ha:=t.at_
 have hm:=t.sz
 have zn:=t.pos
 have sB:=t.QT
 have MS:=t.QU
 have Tp:=t.SR
 have hh:=h.hi
 refine ⟨t.len,t.n16,t.lo,by omega,fun i hi hz=>?_,fun i hi hz=>?_,fun i k hi hk Lv z1 z2=>?_,fun hn=>?_⟩
 ·by_cases hs:i=s
  ·subst hs;omega
  ·obtain ⟨h1,Y⟩:=t.CQ i hi hs
   have:=h.slot i (aj i hi hs) (by omega)
   omega
 ·by_cases hs:i=s
  ·subst hs;omega
  ·obtain ⟨h1,Y⟩:=t.CQ i hi hs
   have:=h.zero i (aj i hi hs) (by omega)
   omega
 ·by_cases hs:i=s
  ·subst hs
   have Lu:k≠i:=fun e=>Lv e.symm
   obtain ⟨h1,Y⟩:=t.CQ k hk Lu
   have:=t.free k (aj k hk Lu) Lu (by omega)
   omega
  ·obtain ⟨h1,Y⟩:=t.CQ i hi hs
   by_cases no:k=s
   ·subst no
    have:=t.free i (aj i hi hs) hs (by omega)
    omega
   ·obtain ⟨h3,h4⟩:=t.CQ k hk no
    have:=h.apart i k (aj i hi hs) (aj k hk no) Lv (by omega) (by omega)
    omega
 ·by_cases hs:pn q - 1=s
  ·rw[hs];omega
  ·obtain ⟨h1,Y⟩:=t.CQ (pn q - 1) (by omega) hs
   have hq:pn q=pn p:=by
    rcases t.n with h3 | ⟨h3,h4⟩
    ·exact h3
    ·omega
   rw[Y,hq]
   exact h.last (by omega)
theorem pL.GB {p q:List UInt8} {s a m:Nat} (t:pL p q s a m) (h:kV p) {i:Nat} (hi:i < pn q) (hs:i≠s):ep q i=ep p i:=by
 have ww:i < pn p:=by rcases t.n with h1 | ⟨h1,Y⟩ <;> omega
 obtain ⟨h1,Y⟩:=t.CQ i hi hs
 refine J7 (rU (t.ok h) hi) (rU h ww) Y fun j hj=>?_
 have hz:aM p i≠0:=by omega
 have h3:=h.slot i ww hz
 have h4:=t.free i ww hs hz
 rw[h1]
 exact t.same _ (by omega) (by omega) (by omega)
theorem pL.IC {p q:List UInt8} {s a:Nat} {c:List UInt8} (t:pL p q s a c.length) (h:kV p) (hc:∀ j,j < c.length->pb q (a+j)=pb c j):ep q s=c:=
 J8 (rU (t.ok h) t.NS) t.sz fun j hj=>by rw[t.at_];exact hc j hj
theorem pL.cells {p q:List UInt8} {s a:Nat} {c:List UInt8} (t:pL p q s a c.length) (h:kV p) (hc:∀ j,j < c.length->pb q (a+j)=pb c j) (i:Nat):cellOf q i=if i=s then c else cellOf p i:=by
 have hs:=t.NS
 unfold cellOf
 by_cases ut:i=s
 ·subst ut
  rw[if_pos hs,if_pos rfl,t.IC h hc]
 ·rw[if_neg ut]
  by_cases hi:i < pn q
  ·have ww:i < pn p:=by rcases t.n with h1 | ⟨h1,Y⟩ <;> omega
   rw[if_pos hi,if_pos ww,t.GB h hi ut]
  ·have ww:¬ i < pn p:=by rcases t.n with h1 | ⟨h1,Y⟩ <;> omega
   rw[if_neg hi,if_neg ww]
end OT
set_option linter.unusedVariables false
set_option linter.unusedSimpArgs false
namespace OT
open Go
def GC (p:List UInt8):Nat->Nat
 | 0=>0
 | m+1=>GC p m+aM p m
def ns (p:List UInt8):Nat->Nat->Bool
 | 0,_=>false
 | k+1,j=>ns p k j||decide (pat p k<=j/\j < pat p k+aM p k)
structure Tl (p:List UInt8) (k:Nat) (o:List UInt8) (a:Nat):Prop where
 len:o.length=64
 n:pb o 0=pn p
 a:a=64 - GC p k
 sz:∀ i,i < pn p->aM o i=aM p i
 TH:∀ i,i < pn p->(k<=i\/aM p i=0)->pat o i=pat p i
 new:∀ i,i < k->aM p i≠0->pat o i=64 - GC p (i+1)/\∀ j,j < aM p i->pb o (64 - GC p (i+1)+j)=pb p (pat p i+j)
end OT
set_option linter.unusedVariables false
set_option linter.unusedSimpArgs false
namespace OT
open Go
theorem NT {i:Nat} (h:i < 1000):ae ((3:Int)+ae ((2:Int)*(i:Int)))=((3+2*i:Nat):Int):=by
 rw[aP (n:=(2:Int)*(i:Int)) (by omega),aP (by omega)];omega
theorem Lw {i:Nat} (h:i < 1000):ae ((2:Int)+ae ((2:Int)*(i:Int)))=((2+2*i:Nat):Int):=by
 rw[aP (n:=(2:Int)*(i:Int)) (by omega),aP (by omega)];omega
theorem ux (p:List UInt8) (i:Nat):ae ((pb p i:Nat):Int)=((pb p i:Nat):Int):=by
 have:=gv p i
 exact aP (by omega)
theorem dK {R:Type} {p:List UInt8} {i:Nat} (h:i < p.length) (K:UInt8->Option R):(p[i]?).bind K=K p[i]:=by rw[(d8 h).1];rfl
section
variable {p:List UInt8} (hp:p.length=64)
include hp
theorem oh:dh.ab (p,())=some ((pn p:Int),()):=by
 refine ag (k:=0) fun k _=>(dh.aa k _).trans ?_
 show dh.p _=_
 unfold dh.p
 simp only[dK (show 0 < p.length by omega),(d8 (show 0 < p.length by omega)).2,ux]
 rfl
theorem rV:eD.ab (p,())=some ((pn p:Int),()):=by
 refine ag (k:=0) fun k _=>(eD.aa k _).trans ?_
 show eD.p _=_
 unfold eD.p
 simp only[dK (show 0 < p.length by omega),(d8 (show 0 < p.length by omega)).2,ux]
 rfl
theorem ET:gO.ab (p,())=some ((gk p:Int),()):=by
 refine ag (k:=0) fun k _=>(gO.aa k _).trans ?_
 show gO.p _=_
 unfold gO.p
 simp only[dK (show 1 < p.length by omega),(d8 (show 1 < p.length by omega)).2,ux]
 rfl
theorem mT {i:Nat} (hi:i < 16):bv.ab (p,(i:Int),())=some ((aM p i:Int),()):=by
 refine ag (k:=0) fun k _=>(bv.aa k _).trans ?_
 show bv.p _=_
 unfold bv.p
 simp only[NT (show i < 1000 by omega),Int.natCast_nonneg,if_true,Int.toNat_natCast,dK (show 3+2*i < p.length by omega),(d8 (show 3+2*i < p.length by omega)).2,ux]
 rfl
theorem rW {i:Nat} (hi:i < 16):di.ab (p,(i:Int),())=some ((pat p i:Int),()):=by
 refine ag (k:=0) fun k _=>(di.aa k _).trans ?_
 show di.p _=_
 unfold di.p
 simp only[Lw (show i < 1000 by omega),Int.natCast_nonneg,if_true,Int.toNat_natCast,dK (show 2+2*i < p.length by omega),(d8 (show 2+2*i < p.length by omega)).2,ux]
 rfl
theorem xg {i:Nat} (hi:i < 16):iM.ab (p,(i:Int),())=some ((pat p i:Int),(aM p i:Int),()):=by
 refine ag (k:=0) fun k _=>(iM.aa k _).trans ?_
 show iM.p _=_
 unfold iM.p
 simp only[Lw (show i < 1000 by omega),NT (show i < 1000 by omega),Int.natCast_nonneg,if_true,Int.toNat_natCast,dK (show 2+2*i < p.length by omega),(d8 (show 2+2*i < p.length by omega)).2,dK (show 3+2*i < p.length by omega),(d8 (show 3+2*i < p.length by omega)).2,ux]
 rfl
theorem J9 {i:Nat} (hi:i < 16):kb.ab (p,(i:Int),())=some (nG p i,()):=by
 refine ag (k:=0) fun k _=>(kb.aa k _).trans ?_
 show kb.p _=_
 unfold kb.p nG
 have h1:=gv p (2+2*i)
 have Y:=gv p (3+2*i)
 have hw:ae ((pat p i:Int)+(aM p i:Int))=((pat p i+aM p i:Nat):Int):=by
  have:pat p i < 256:=h1
  have:aM p i < 256:=Y
  rw[aP (by omega)];omega
 simp only[rW hp hi,mT hp hi,ET hp,Option.bind_some,hw]
 have e1:decide ((pat p i:Int)=0)=decide (pat p i=0):=by rw[decide_eq_decide];omega
 have e2:decide ((aM p i:Int)=0)=decide (aM p i=0):=by rw[decide_eq_decide];omega
 have e3:decide ((pat p i:Int)=(aM p i:Int))=decide (pat p i=aM p i):=by rw[decide_eq_decide];omega
 have e4:decide ((gk p:Int)<=(pat p i:Int))=decide (gk p<=pat p i):=by rw[decide_eq_decide];omega
 have e5:decide (((pat p i+aM p i:Nat):Int)<=64)=decide (pat p i+aM p i<=64):=by rw[decide_eq_decide];omega
 rw[e1,e2,e3,e4,e5]
 by_cases c1:pat p i=0
 ·simp[c1]
 ·by_cases c2:aM p i=0
  ·simp[c1,c2]
  ·simp only[c1,c2,decide_false,cond_false,or_self,if_false]
   cases decide (gk p<=pat p i) <;> rfl
theorem ID {i j:Nat} (hi:i < 16) (hj:j < 16):jr.ab (p,(i:Int),(j:Int),())=some (ku p i j,()):=by
 refine ag (k:=0) fun k _=>(jr.aa k _).trans ?_
 show jr.p _=_
 unfold jr.p ku
 have h1:pat p i < 256:=gv p _
 have Y:aM p i < 256:=gv p _
 have h3:pat p j < 256:=gv p _
 have h4:aM p j < 256:=gv p _
 have hw:ae ((pat p i:Int)+(aM p i:Int))=((pat p i+aM p i:Nat):Int):=by rw[aP (by omega)];omega
 have oF:ae ((pat p j:Int)+(aM p j:Int))=((pat p j+aM p j:Nat):Int):=by rw[aP (by omega)];omega
 simp only[rW hp hi,mT hp hi,rW hp hj,mT hp hj,Option.bind_some,hw,oF]
 have e1:decide ((aM p i:Int)=0)=decide (aM p i=0):=by rw[decide_eq_decide];omega
 have e2:decide ((aM p j:Int)=0)=decide (aM p j=0):=by rw[decide_eq_decide];omega
 have e3:decide (((pat p i+aM p i:Nat):Int)<=(pat p j:Int))=decide (pat p i+aM p i<=pat p j):=by rw[decide_eq_decide];omega
 have e4:decide (((pat p j+aM p j:Nat):Int)<=(pat p i:Int))=decide (pat p j+aM p j<=pat p i):=by rw[decide_eq_decide];omega
 rw[e1,e2,e3,e4]
 cases decide (aM p i=0) <;> cases decide (aM p j=0) <;> cases decide (pat p i+aM p i<=pat p j) <;> rfl
end
theorem mn {O:Type} (q:Nat->Bool) (bad e:O):∀ (xs:List Nat) (i:Nat),aU (fun _ (_:Unit) x=>if q x then .inr () else .inl bad) (fun _=>e) i xs ()=if xs.all q then e else bad:=fun xs i=>kL q bad (fun _=>e) xs i
theorem DY (p:List UInt8) (hl:p.length<=maxLen):aV.ab (p,())=some (oP p,()):=by
 refine ag (k:=100) fun k hk=>(aV.aa k _).trans ?_
 unfold aV.p oP
 have e0:decide ((p.length:Int)=64)=decide (p.length=64):=by rw[decide_eq_decide];omega
 rw[e0]
 by_cases hp:p.length=64
 rotate_left
 ·simp only[hp,decide_false,Bool.not_false,cond_true,if_false]
 have hn:pn p < 256:=gv p 0
 have sB:gk p < 256:=gv p 1
 have hw:ae ((2:Int)+ae ((2:Int)*(pn p:Int)))=((2+2*pn p:Nat):Int):=Lw (by omega)
 simp only[hp,decide_true,Bool.not_true,cond_false,oh hp,ET hp,Option.bind_some,hw,if_true]
 by_cases c1:pn p<=16
 rotate_left
 ·have:((16:Int) < (pn p:Int)):=by omega
  simp only[this,decide_true,cond_true,c1,false_and,if_false]
 have n1:¬ ((16:Int) < (pn p:Int)):=by omega
 simp only[n1,decide_false,cond_false,c1,true_and]
 by_cases c2:2+2*pn p<=gk p
 rotate_left
 ·have:((gk p:Int) < ((2+2*pn p:Nat):Int)):=by omega
  simp only[this,decide_true,cond_true,c2,false_and,if_false]
 have n2:¬ ((gk p:Int) < ((2+2*pn p:Nat):Int)):=by omega
 simp only[n2,decide_false,cond_false,c2,true_and]
 by_cases c3:gk p<=64
 rotate_left
 ·have:((64:Int) < (gk p:Int)):=by omega
  simp only[this,decide_true,cond_true,c3,if_false]
 have n3:¬ ((64:Int) < (gk p:Int)):=by omega
 simp only[n3,decide_false,cond_false,c3,if_true]
 have inner:∀ (self:((List UInt8)×Int×Int)->Option aV.Out) (e2:((List UInt8)×Int)->Option aV.Out) (i:Nat) (hi:i < pn p),aV.r2 k self e2 (p,()) p (pn p:Int) (i:Int) (0:Int)=if (List.range i).all (ku p i) then self (p,(pn p:Int),ae ((i:Int)+1)) else some ((8:Int),()):=fun self e2 i hi=>by
  have:=bE (B:=fun cg v=>aV.B2 k cg (fun z=>aV.Q1 k self e2 (p,()) p (pn p:Int) (i:Int) z) (p,()) p (pn p:Int) (i:Int) v) (List.range i) (fun (_:Unit) (j:Int)=>j) (fun _ _ x=>if ku p i x then .inr () else .inl (some ((8:Int),()))) (fun _=>self (p,(pn p:Int),ae ((i:Int)+1))) (fun _ _=>True) (by rw[ah,List.length_range];omega)
   (fun j hj s cg _=>by
    rw[List.length_range] at hj
    show aV.b2 _ _ _ _ _ _ _=_
    unfold aV.b2
    have aj:(j:Int) < (i:Int):=by omega
    simp only[aj,decide_true,cond_true,ID hp (show i < 16 by omega) (show j < 16 by omega),Option.bind_some,List.getElem_range]
    cases ku p i j <;> rfl)
   (fun _ _ _ _ _ _=>trivial) (fun s cg _=>by
    rw[List.length_range]
    show aV.b2 _ _ _ _ _ _ _=_
    unfold aV.b2
    simp only[Int.lt_irrefl,decide_false,cond_false]
    rfl) () trivial k (by rw[List.length_range];omega)
  rw[mn] at this
  exact this
 have outer:aV.r1 k (p,()) (pn p:Int) (p,(pn p:Int),(0:Int))=if (List.range (pn p)).all (fun i=>(List.range i).all (ku p i)) then aV.Q2 k (p,()) (p,(pn p:Int)) else some ((8:Int),()):=by
  have:=bE (B:=fun self v=>aV.B1 k self (fun z=>aV.Q2 k (p,()) z) (p,()) v) (List.range (pn p)) (fun (_:Unit) (i:Int)=>(p,(pn p:Int),i)) (fun _ _ x=>if (List.range x).all (ku p x) then .inr () else .inl (some ((8:Int),()))) (fun _=>aV.Q2 k (p,()) (p,(pn p:Int))) (fun _ _=>True) (by rw[ah,List.length_range];omega)
   (fun i hi s self _=>by
    rw[List.length_range] at hi
    show aV.b1 _ _ _ _ _=_
    unfold aV.b1
    have aj:(i:Int) < (pn p:Int):=by omega
    simp only[aj,decide_true,cond_true,inner self _ i hi,List.getElem_range]
    cases (List.range i).all (ku p i) <;> rfl)
   (fun _ _ _ _ _ _=>trivial) (fun s self _=>by
    rw[List.length_range]
    show aV.b1 _ _ _ _ _=_
    unfold aV.b1
    simp only[Int.lt_irrefl,decide_false,cond_false]) () trivial k (by rw[List.length_range];omega)
  rw[mn] at this
  exact this
 have first:aV.r0 k (p,()) (pn p:Int) (0:Int)=if (List.range (pn p)).all (nG p) then aV.r1 k (p,()) (pn p:Int) (p,(pn p:Int),(0:Int)) else some ((3:Int),()):=by
  have:=bE (B:=fun self v=>aV.B0 k self (fun z=>aV.Q0 k (p,()) (pn p:Int) z) (p,()) (pn p:Int) v) (List.range (pn p)) (fun (_:Unit) (i:Int)=>i) (fun _ _ x=>if nG p x then .inr () else .inl (some ((3:Int),()))) (fun _=>aV.r1 k (p,()) (pn p:Int) (p,(pn p:Int),(0:Int))) (fun _ _=>True) (by rw[ah,List.length_range];omega)
   (fun i hi s self _=>by
    rw[List.length_range] at hi
    show aV.b0 _ _ _ _ _=_
    unfold aV.b0
    have aj:(i:Int) < (pn p:Int):=by omega
    simp only[aj,decide_true,cond_true,J9 hp (show i < 16 by omega),Option.bind_some,List.getElem_range]
    cases nG p i <;> rfl)
   (fun _ _ _ _ _ _=>trivial) (fun s self _=>by
    rw[List.length_range]
    show aV.b0 _ _ _ _ _=_
    unfold aV.b0
    simp only[Int.lt_irrefl,decide_false,cond_false]
    rfl) () trivial k (by rw[List.length_range];omega)
  rw[mn] at this
  exact this
 rw[first]
 split
 ·rw[outer]
  split
  ·show aV.q2 _ _=_
   unfold aV.q2
   by_cases h0:0 < pn p
   ·have aj:(0:Int) < (pn p:Int):=by omega
    have NU:ae ((pn p:Int) - 1)=((pn p - 1:Nat):Int):=by rw[aP (by omega)];omega
    simp only[aj,decide_true,cond_true,NU,mT hp (show pn p - 1 < 16 by omega),Option.bind_some,h0,true_and]
    by_cases hz:aM p (pn p - 1)=0
    ·simp[hz]
    ·have:¬ ((aM p (pn p - 1):Int)=0):=by omega
     simp only[this,decide_false,cond_false,hz,if_false]
   ·have aj:¬ ((0:Int) < (pn p:Int)):=by omega
    simp only[aj,decide_false,cond_false,h0,false_and,if_false]
  ·rfl
 ·rfl
theorem vy {S O:Type} (q:Nat->Bool) (g:Nat->S) (bad e:O):∀ (xs:List Nat) (i:Nat) (s:S),aU (fun _ s x=>if q x then .inl bad else .inr (g x)) (fun _=>e) i xs s=if xs.any q then bad else e
 | [],_,_=>rfl
 | x::xs,i,s=>by
  simp only[aU,List.any_cons]
  by_cases h:q x=true
  ·simp[h]
  ·simp[h,vy q g bad e xs (i+1)]
def nR (p:List UInt8) (i t:Nat):List Bool:=(List.range 64).map fun j=>ns p i j||decide (pat p i<=j/\j < pat p i+t)
def tU (p:List UInt8) (i:Nat):Bool:=(List.range (aM p i)).any fun t=>ns p i (pat p i+t)
theorem IE (p:List UInt8) (i:Nat):nR p i 0=(List.range 64).map (ns p i):=by
 unfold nR
 refine List.map_congr_left fun j _=>?_
 have:¬ (pat p i<=j/\j < pat p i+0):=by omega
 simp only[this,decide_false,Bool.or_false]
theorem IF (p:List UInt8) (i:Nat):nR p i (aM p i)=(List.range 64).map (ns p (i+1)):=rfl
theorem xh (p:List UInt8) (i t j:Nat) (h:j < 64):(nR p i t)[j]?=some (ns p i j||decide (pat p i<=j/\j < pat p i+t)):=by
 unfold nR
 simp[h]
theorem tV (p:List UInt8) (i t:Nat):(nR p i t).length=64:=by simp[nR]
theorem IG (p:List UInt8) (i t:Nat) (h:pat p i+t < 64):(nR p i t).set (pat p i+t) true=nR p i (t+1):=by
 refine List.ext_getElem? fun j=>?_
 rw[List.getElem?_set,tV]
 by_cases hj:j < 64
 ·rw[xh p i t j hj,xh p i (t+1) j hj]
  by_cases e:pat p i+t=j
  ·subst e
   have:pat p i<=pat p i+t/\pat p i+t < pat p i+(t+1):=by omega
   simp[h,this]
  ·rw[if_neg e]
   have:(pat p i<=j/\j < pat p i+t)↔(pat p i<=j/\j < pat p i+(t+1)):=by omega
   simp only[this]
 ·have h1:(nR p i t)[j]?=none:=List.getElem?_eq_none (by rw[tV];omega)
  have Y:(nR p i (t+1))[j]?=none:=List.getElem?_eq_none (by rw[tV];omega)
  rw[h1,Y,if_neg (by omega)]
theorem CR {p:List UInt8}:∀ {k j:Nat},ns p k j=true↔∃ i,i < k/\pat p i<=j/\j < pat p i+aM p i
 | 0,j=>by simp[ns]
 | k+1,j=>by
  simp only[ns,Bool.or_eq_true,decide_eq_true_eq,CR (k:=k)]
  constructor
  ·rintro (⟨i,h1,Y⟩ | h)
   ·exact ⟨i,by omega,Y⟩
   ·exact ⟨k,by omega,h⟩
  ·rintro ⟨i,h1,Y⟩
   by_cases e:i=k
   ·subst e;exact .inr Y
   ·exact .inl ⟨i,by omega,Y⟩
theorem GD (p:List UInt8) (i:Nat):tU p i=!(List.range i).all (ku p i):=by
 rw[Bool.eq_iff_iff]
 simp only[tU,List.any_eq_true,List.mem_range,CR,Bool.not_eq_true',List.all_eq_false,Bool.not_eq_true]
 constructor
 ·rintro ⟨t,ht,k,hk,h1,Y⟩
  refine ⟨k,hk,?_⟩
  cases h:ku p i k with
  | false=>rfl
  | true=>have:=qq.1 h (by omega) (by omega);omega
 ·rintro ⟨k,hk,h⟩
  have hn:¬ (aM p i≠0->aM p k≠0->pat p i+aM p i<=pat p k\/pat p k+aM p k<=pat p i):=fun Y=>by rw[qq.2 Y] at h;cases h
  by_cases c1:aM p i=0
  ·exact absurd (fun h=>absurd c1 h) hn
  ·by_cases c2:aM p k=0
   ·exact absurd (fun _ h=>absurd c2 h) hn
   ·have c3:¬ (pat p i+aM p i<=pat p k):=fun h3=>hn fun _ _=>.inl h3
    have c4:¬ (pat p k+aM p k<=pat p i):=fun h3=>hn fun _ _=>.inr h3
    exact ⟨max (pat p i) (pat p k) - pat p i,by omega,k,hk,by omega,by omega⟩
theorem J_ (p:List UInt8) (n:Nat):(List.range n).any (tU p)=!(List.range n).all (fun i=>(List.range i).all (ku p i)):=by
 rw[List.not_all_eq_any_not]
 congr 1
 funext i
 exact GD p i
theorem DZ (p:List UInt8) (hl:p.length<=maxLen):aI.ab (p,())=some (oP p,()):=by
 refine ag (k:=300) fun k hk=>(aI.aa k _).trans ?_
 unfold aI.p oP
 have e0:decide ((p.length:Int)=64)=decide (p.length=64):=by rw[decide_eq_decide];omega
 rw[e0]
 by_cases hp:p.length=64
 rotate_left
 ·simp only[hp,decide_false,Bool.not_false,cond_true,if_false]
 have hn:pn p < 256:=gv p 0
 have sB:gk p < 256:=gv p 1
 have hw:ae ((2:Int)+ae ((2:Int)*(pn p:Int)))=((2+2*pn p:Nat):Int):=Lw (by omega)
 have MA:((p[1]'(by omega)).toNat)=gk p:=(d8 (show 1 < p.length by omega)).2
 have SS:ae (gk p:Int)=(gk p:Int):=ux p 1
 simp only[hp,decide_true,Bool.not_true,cond_false,dK (show 1 < p.length by omega),MA,SS,rV hp,Option.bind_some,hw,if_true]
 by_cases c1:pn p<=16
 rotate_left
 ·have:((16:Int) < (pn p:Int)):=by omega
  simp only[this,decide_true,cond_true,c1,false_and,if_false]
 have n1:¬ ((16:Int) < (pn p:Int)):=by omega
 simp only[n1,decide_false,cond_false,c1,true_and]
 by_cases c2:2+2*pn p<=gk p
 rotate_left
 ·have:((gk p:Int) < ((2+2*pn p:Nat):Int)):=by omega
  simp only[this,decide_true,cond_true,c2,false_and,if_false]
 have n2:¬ ((gk p:Int) < ((2+2*pn p:Nat):Int)):=by omega
 simp only[n2,decide_false,cond_false,c2,true_and]
 by_cases c3:gk p<=64
 rotate_left
 ·have:((64:Int) < (gk p:Int)):=by omega
  simp only[this,decide_true,cond_true,c3,if_false]
 have n3:¬ ((64:Int) < (gk p:Int)):=by omega
 simp only[n3,decide_false,cond_false,c3,if_true]
 have first:aI.r0 k (p,()) (pn p:Int) (gk p:Int) (0:Int)=if (List.range (pn p)).all (nG p) then aI.Q0 k (p,()) (pn p:Int) (gk p:Int) () else some ((3:Int),()):=by
  have:=bE (B:=fun self v=>aI.B0 k self (fun z=>aI.Q0 k (p,()) (pn p:Int) (gk p:Int) z) (p,()) (pn p:Int) (gk p:Int) v) (List.range (pn p)) (fun (_:Unit) (i:Int)=>i) (fun _ _ x=>if nG p x then .inr () else .inl (some ((3:Int),()))) (fun _=>aI.Q0 k (p,()) (pn p:Int) (gk p:Int) ()) (fun _ _=>True) (by rw[ah,List.length_range];omega)
   (fun i hi s self _=>by
    rw[List.length_range] at hi
    show aI.b0 _ _ _ _ _ _=_
    unfold aI.b0
    have aj:(i:Int) < (pn p:Int):=by omega
    have h1:pat p i < 256:=gv p _
    have Y:aM p i < 256:=gv p _
    have oF:ae ((pat p i:Int)+(aM p i:Int))=((pat p i+aM p i:Nat):Int):=by rw[aP (by omega)];omega
    simp only[aj,decide_true,cond_true,xg hp (show i < 16 by omega),Option.bind_some,List.getElem_range,oF]
    have e1:decide ((pat p i:Int)=0)=decide (pat p i=0):=by rw[decide_eq_decide];omega
    have e2:decide ((aM p i:Int)=0)=decide (aM p i=0):=by rw[decide_eq_decide];omega
    have e4:decide ((pat p i:Int) < (gk p:Int))=decide (pat p i < gk p):=by rw[decide_eq_decide];omega
    have e5:decide ((64:Int) < ((pat p i+aM p i:Nat):Int))=decide (64 < pat p i+aM p i):=by rw[decide_eq_decide];omega
    rw[e1,e2,e4,e5]
    unfold nG
    by_cases d1:pat p i=0
    ·by_cases d2:aM p i=0
     ·simp[d1,d2]
     ·have:¬ (0=aM p i):=fun e=>d2 e.symm
      simp[d1,d2,this]
    ·by_cases d2:aM p i=0
     ·simp[d1,d2]
     ·by_cases d3:pat p i < gk p
      ·have NV:¬ (gk p<=pat p i):=by omega
       simp[d1,d2,d3,NV]
      ·by_cases d4:64 < pat p i+aM p i
       ·have NW:¬ (pat p i+aM p i<=64):=by omega
        simp[d1,d2,d3,d4,NW]
       ·have NV:gk p<=pat p i:=by omega
        have NW:pat p i+aM p i<=64:=by omega
        simp[d1,d2,d3,d4,NV,NW])
   (fun _ _ _ _ _ _=>trivial) (fun s self _=>by
    rw[List.length_range]
    show aI.b0 _ _ _ _ _ _=_
    unfold aI.b0
    simp only[Int.lt_irrefl,decide_false,cond_false]) () trivial k (by rw[List.length_range];omega)
  rw[mn] at this
  exact this
 rw[first]
 by_cases hK:(List.range (pn p)).all (nG p)=true
 rotate_left
 ·simp only[hK,Bool.false_eq_true,if_false]
 simp only[hK,if_true]
 have hs:∀ i,i < pn p->aM p i≠0->gk p<=pat p i/\pat p i+aM p i<=64:=fun i hi=>((vw (by omega)).1 (List.all_eq_true.1 hK i (List.mem_range.2 hi))).1
 have inner:∀ (self:((List UInt8)×Int×(List Bool)×Int×Int)->Option aI.Out) (e2:((List UInt8)×Int)->Option aI.Out) (i:Nat) (hi:i < pn p),aI.r2 k self e2 (p,()) p (pn p:Int) (pat p i:Int) (aM p i:Int) (pn p:Int) (i:Int) ((List.range 64).map (ns p i),(pat p i:Int))=if tU p i then some ((8:Int),()) else self (p,(pn p:Int),(List.range 64).map (ns p (i+1)),(pn p:Int),ae ((i:Int)+1)):=fun self e2 i hi=>by
  have h1:pat p i < 256:=gv p _
  have Y:aM p i < 256:=gv p _
  have oF:ae ((pat p i:Int)+(aM p i:Int))=((pat p i+aM p i:Nat):Int):=by rw[aP (by omega)];omega
  have:=bE (B:=fun cg v=>aI.B2 k cg (fun z=>aI.Q1 k self e2 (p,()) p (pn p:Int) (pat p i:Int) (aM p i:Int) (pn p:Int) (i:Int) z) (p,()) p (pn p:Int) (pat p i:Int) (aM p i:Int) (pn p:Int) (i:Int) v) (List.range (aM p i)) (fun (s:List Bool) (t:Int)=>(s,(pat p i:Int)+t)) (fun _ s t=>if ns p i (pat p i+t) then .inl (some ((8:Int),())) else .inr (nR p i (t+1))) (fun _=>self (p,(pn p:Int),(List.range 64).map (ns p (i+1)),(pn p:Int),ae ((i:Int)+1))) (fun t s=>s=nR p i t) (by rw[ah,List.length_range];omega)
   (fun t ht s cg hI=>by
    rw[List.length_range] at ht
    subst hI
    obtain ⟨g1,g2⟩:=hs i hi (by omega)
    show aI.b2 _ _ _ _ _ _ _ _ _ _=_
    unfold aI.b2
    have aj:(pat p i:Int)+(t:Int) < ((pat p i+aM p i:Nat):Int):=by omega
    have vz:(0:Int)<=(pat p i:Int)+(t:Int):=by omega
    have hlen:(pat p i:Int)+(t:Int) < ((nR p i t).length:Int):=by rw[tV];omega
    have NX:((pat p i:Int)+(t:Int)).toNat=pat p i+t:=by omega
    have JF:¬ (pat p i<=pat p i+t/\pat p i+t < pat p i+t):=by omega
    have ST:ae ((pat p i:Int)+(t:Int)+1)=(pat p i:Int)+ae ((t:Int)+1):=by rw[aP (by omega),aP (by omega)];omega
    simp only[oF,aj,decide_true,cond_true,vz,hlen,and_self,if_true,NX,xh p i t (pat p i+t) (by omega),JF,decide_false,Bool.or_false,Option.bind_some,List.getElem_range,IG p i t (by omega),ST]
    cases ns p i (pat p i+t) <;> rfl)
   (fun t ht s s' hI hf=>by
    simp only[List.getElem_range] at hf
    split at hf
    ·cases hf
    ·injection hf with hf;exact hf.symm) (fun s cg hI=>by
    rw[List.length_range] at hI ⊢
    show aI.b2 _ _ _ _ _ _ _ _ _ _=_
    unfold aI.b2
    have aj:¬ ((pat p i:Int)+(aM p i:Int) < ((pat p i+aM p i:Nat):Int)):=by omega
    simp only[oF,aj,decide_false,cond_false]
    rw[hI,IF]
    rfl) (nR p i 0) rfl k (by rw[List.length_range];omega)
  rw[vy] at this
  rw[<-IE]
  simp only[Int.add_zero] at this
  exact this
 have outer:aI.r1 k (p,()) (pn p:Int) (gk p:Int) (p,(pn p:Int),List.replicate 64 false,(pn p:Int),(0:Int))=if (List.range (pn p)).any (tU p) then some ((8:Int),()) else aI.Q2 k (p,()) (p,(pn p:Int)):=by
  have:=bE (B:=fun self v=>aI.B1 k self (fun z=>aI.Q2 k (p,()) z) (p,()) v) (List.range (pn p)) (fun (s:List Bool) (i:Int)=>(p,(pn p:Int),s,(pn p:Int),i)) (fun _ s x=>if tU p x then .inl (some ((8:Int),())) else .inr ((List.range 64).map (ns p (x+1)))) (fun _=>aI.Q2 k (p,()) (p,(pn p:Int))) (fun i s=>s=(List.range 64).map (ns p i)) (by rw[ah,List.length_range];omega)
   (fun i hi s self hI=>by
    rw[List.length_range] at hi
    subst hI
    show aI.b1 _ _ _ _ _=_
    unfold aI.b1
    have aj:(i:Int) < (pn p:Int):=by omega
    simp only[aj,decide_true,cond_true,xg hp (show i < 16 by omega),Option.bind_some,inner self _ i hi,List.getElem_range]
    cases tU p i <;> rfl)
   (fun i hi s s' hI hf=>by
    simp only[List.getElem_range] at hf
    split at hf
    ·cases hf
    ·injection hf with hf;exact hf.symm) (fun s self _=>by
    rw[List.length_range]
    show aI.b1 _ _ _ _ _=_
    unfold aI.b1
    simp only[Int.lt_irrefl,decide_false,cond_false]) (List.replicate 64 false) (by show _=(List.range 64).map (fun _=>false);decide) k (by rw[List.length_range];omega)
  rw[vy] at this
  exact this
 show aI.q0 _ _ _ _ _=_
 unfold aI.q0
 rw[outer,J_]
 by_cases HX:(List.range (pn p)).all (fun i=>(List.range i).all (ku p i))=true
 rotate_left
 ·simp only[HX,Bool.not_false,if_true,Bool.false_eq_true,if_false]
 simp only[HX,Bool.not_true,Bool.false_eq_true,if_false,if_true]
 show aI.q2 _ _=_
 unfold aI.q2
 by_cases h0:0 < pn p
 ·have aj:(0:Int) < (pn p:Int):=by omega
  have NU:ae (ae ((2:Int)*(pn p:Int))+1)=((2*pn p+1:Nat):Int):=by rw[aP (n:=(2:Int)*(pn p:Int)) (by omega),aP (by omega)];omega
  have hz:((p[2*pn p+1]'(by omega)).toNat)=aM p (pn p - 1):=by
   rw[(d8 (show 2*pn p+1 < p.length by omega)).2]
   show pb p _=pb p _
   congr 1;omega
  simp only[aj,decide_true,cond_true,NU,Int.natCast_nonneg,if_true,Int.toNat_natCast,dK (show 2*pn p+1 < p.length by omega),hz,h0,true_and]
  by_cases hz:aM p (pn p - 1)=0
  ·simp[hz]
  ·have:¬ ((aM p (pn p - 1):Int)=0):=by omega
   simp only[this,decide_false,cond_false,hz,if_false]
 ·have aj:¬ ((0:Int) < (pn p:Int)):=by omega
  simp only[aj,decide_false,cond_false,h0,false_and,if_false]
end OT
set_option linter.unusedVariables false
set_option linter.unusedSimpArgs false
namespace OT
open Go
theorem qs {V S O:Type} {B:(V->Option O)->V->Option O} (n:Nat) (enc:S->Int->V) (f:Nat->S->Sum (Option O) S) (fin:S->Option O) (I:Nat->S->Prop) (hn:n<=1048576)
  (en:∀ (i:Nat),i < n->∀ (s:S) self,I i s->B self (enc s (i:Int))=match f i s with | .inl o=>o | .inr s'=>self (enc s' (ae ((i:Int)+1))))
  (hI:∀ (i:Nat),i < n->∀ (s s':S),I i s->f i s=.inr s'->I (i+1) s')
  (jP:∀ (s:S) self,I n s->B self (enc s (n:Int))=fin s) (s:S) (h0:I 0 s) (k:Nat) (hk:n < k):al B k (enc s 0)=aU (fun _ s x=>f x s) fin 0 (List.range n) s:=
 bE (List.range n) enc (fun _ s x=>f x s) fin I (by rw[ah,List.length_range];omega)
  (fun i hi s self h=>by rw[List.length_range] at hi;simp only[List.getElem_range];exact en i hi s self h)
  (fun i hi s s' h hf=>by rw[List.length_range] at hi;simp only[List.getElem_range] at hf;exact hI i hi s s' h hf)
  (fun s self h=>by rw[List.length_range] at h ⊢;exact jP s self h) s h0 k (by rw[List.length_range];exact hk)
theorem tW {O α β:Type} (g:α->List β) (fin:List β->O):∀ (xs:List α) (i:Nat) (s:List β),aU (fun _ s x=>.inr (s++g x)) fin i xs s=fin (s++xs.flatMap g)
 | [],_,s=>by simp[aU]
 | x::xs,i,s=>by simp only[aU];rw[tW g fin xs (i+1)];simp[List.append_assoc]
abbrev sn:Row:=((0:Int),(0:Int),(0:Int),([]:List UInt8),())
abbrev wk:kM:=((0:Int),(0:Int),(0:Int),(0:Int),sn,())
abbrev tX:kM:=((5:Int),(0:Int),(0:Int),(0:Int),sn,())
def lW (d:List UInt8):Row:=((pb d 1:Int),(pb d 2:Int),(pb d 3:Int)*256+(pb d 4:Int),d.drop 6,())
def cR (d:List UInt8):kM×Bool:=
 if d.length=3/\pb d 0=1 then (((0:Int),(1:Int),(pb d 1:Int),(pb d 2:Int),sn,()),decide (pb d 1<=11)&&decide (pb d 2<=15))
 else if d.length < 6\/pb d 0=1\/2 < pb d 0\/d.length≠6+pb d 5 then (wk,false)
 else (((0:Int),(pb d 0:Int),(0:Int),(0:Int),lW d,()),decide (hB (lW d)=0))
theorem Ka {a b:Nat} (ha:a < 256) (hb:b < 256):((BitVec.ofInt 64 (ae ((a:Int)*2 ^ 8)) ||| BitVec.ofInt 64 (b:Int)).toNat:Int)=(a:Int)*256+(b:Int):=by
 have e1:ae ((a:Int)*2 ^ 8)=((2 ^ 8*a:Nat):Int):=by rw[aP (by omega)];omega
 rw[e1,BitVec.toNat_or]
 have e2:(BitVec.ofInt 64 ((2 ^ 8*a:Nat):Int)).toNat=2 ^ 8*a:=by
  rw[BitVec.toNat_ofInt];omega
 have e3:(BitVec.ofInt 64 (b:Int)).toNat=b:=by
  rw[BitVec.toNat_ofInt];omega
 rw[e2,e3,<- Nat.two_pow_add_eq_or_of_lt (by omega) a]
 omega
theorem ru (d:List UInt8) (hd:d.length<=100):fk.ab (d,())=some ((cR d).1,(cR d).2,()):=by
 refine ag (k:=0) fun k _=>(fk.aa k _).trans ?_
 show fk.p _=_
 unfold fk.p cR
 have b0:=gv d 0
 have b1:=gv d 1
 have b2:=gv d 2
 have b3:=gv d 3
 have b4:=gv d 4
 have b5:=gv d 5
 by_cases h3:d.length=3
 ·have e3:decide ((d.length:Int)=3)=true:=decide_eq_true (by omega)
  have e6:decide ((d.length:Int) < 6)=true:=decide_eq_true (by omega)
  have NY:d.length < 6:=by omega
  simp only[e3,e6,cond_true,dK (show 0 < d.length by omega),(d8 (show 0 < d.length by omega)).2]
  by_cases h1:pb d 0=1
  ·have e1:decide ((pb d 0:Int)=1)=true:=decide_eq_true (by omega)
   rw[if_pos ⟨h3,h1⟩]
   simp only[e1,cond_true,dK (show 1 < d.length by omega),(d8 (show 1 < d.length by omega)).2,dK (show 2 < d.length by omega),(d8 (show 2 < d.length by omega)).2,ux]
   have dO:jp.ab ((pb d 1:Int),(pb d 2:Int),())=some (decide (pb d 1<=11)&&decide (pb d 2<=15),()):=by
    refine ag (k:=0) fun k _=>(jp.aa k _).trans ?_
    show jp.p _=_
    unfold jp.p
    simp only[iQ,Option.bind_some]
    have g1:decide ((0:Int)<=(pb d 1:Int))=true:=decide_eq_true (by omega)
    have g2:decide ((0:Int)<=(pb d 2:Int))=true:=decide_eq_true (by omega)
    have g3:decide ((pb d 1:Int)<=11)=decide (pb d 1<=11):=by rw[decide_eq_decide];omega
    have g4:decide ((pb d 2:Int)<=15)=decide (pb d 2<=15):=by rw[decide_eq_decide];omega
    rw[g1,g2,g3,g4]
    cases decide (pb d 1<=11) <;> rfl
   simp only[dO,Option.bind_some]
  ·have e1:decide ((pb d 0:Int)=1)=false:=decide_eq_false (by omega)
   rw[if_neg (fun h=>h1 h.2),if_pos (Or.inl NY)]
   simp only[e1,cond_false]
 ·have e3:decide ((d.length:Int)=3)=false:=decide_eq_false (by omega)
  simp only[e3,cond_false,h3,false_and,if_false]
  by_cases h6:d.length < 6
  ·have e6:decide ((d.length:Int) < 6)=true:=decide_eq_true (by omega)
   simp only[e6,cond_true,h6,true_or,if_true]
  ·have e6:decide ((d.length:Int) < 6)=false:=decide_eq_false (by omega)
   simp only[e6,cond_false,dK (show 0 < d.length by omega),(d8 (show 0 < d.length by omega)).2,h6,false_or]
   by_cases h1:pb d 0=1
   ·have e1:decide ((pb d 0:Int)=1)=true:=decide_eq_true (by omega)
    rw[if_pos (Or.inl h1)]
    simp only[e1,cond_true]
   have e1:decide ((pb d 0:Int)=1)=false:=decide_eq_false (by omega)
   simp only[e1,cond_false,h1,false_or]
   by_cases Y:2 < pb d 0
   ·have e2:decide ((2:Int) < (pb d 0:Int))=true:=decide_eq_true (by omega)
    simp only[e2,cond_true,Y,true_or,if_true]
   have e2:decide ((2:Int) < (pb d 0:Int))=false:=decide_eq_false (by omega)
   have w6:ae ((6:Int)+(pb d 5:Int))=((6+pb d 5:Nat):Int):=by rw[aP (by omega)];omega
   simp only[e2,cond_false,Y,false_or,dK (show 5 < d.length by omega),(d8 (show 5 < d.length by omega)).2,ux,w6]
   by_cases h5:d.length=6+pb d 5
   rotate_left
   ·have e5:decide ((d.length:Int)=((6+pb d 5:Nat):Int))=false:=decide_eq_false (by omega)
    simp only[e5,Bool.not_false,cond_true,h5,ne_eq,not_false_eq_true,if_true]
   have e5:decide ((d.length:Int)=((6+pb d 5:Nat):Int))=true:=decide_eq_true (by omega)
   have P4:(0:Int)<=6/\(6:Int)<=(d.length:Int):=by omega
   have w3:ae (ae ((pb d 3:Int)*256)+(pb d 4:Int))=(pb d 3:Int)*256+(pb d 4:Int):=by rw[aP (n:=(pb d 3:Int)*256) (by omega),aP (by omega)]
   have ht:(d.take d.length).drop 6=d.drop 6:=by rw[List.take_length]
   have hr:dg.ab (lW d,())=some (hB (lW d),()):=qo (lW d) (by rw[ah];simp only[lW,List.length_drop];omega)
   unfold lW at hr
   rw[if_neg (fun h=>h h5)]
   simp only[e5,Bool.not_true,cond_false,dK (show 1 < d.length by omega),(d8 (show 1 < d.length by omega)).2,dK (show 2 < d.length by omega),(d8 (show 2 < d.length by omega)).2,
    dK (show 3 < d.length by omega),(d8 (show 3 < d.length by omega)).2,dK (show 4 < d.length by omega),(d8 (show 4 < d.length by omega)).2,ux,w3,ht,hr,Option.bind_some]
   rw[if_pos (by omega)]
   rfl
theorem uy (d:List UInt8) (hd:d.length<=100):dV.ab (d,())=some (if (cR d).2 then (cR d).1 else tX,()):=by
 refine ag (k:=0) fun k _=>(dV.aa k _).trans ?_
 show dV.p _=_
 unfold dV.p
 have b0:=gv d 0
 have b1:=gv d 1
 have b2:=gv d 2
 have b3:=gv d 3
 have b4:=gv d 4
 have b5:=gv d 5
 by_cases h3:d.length=3
 ·have e3:decide ((d.length:Int)=3)=true:=decide_eq_true (by omega)
  have e6:decide ((d.length:Int) < 6)=true:=decide_eq_true (by omega)
  have NY:d.length < 6:=by omega
  simp only[e3,e6,cond_true,dK (show 0 < d.length by omega),(d8 (show 0 < d.length by omega)).2]
  by_cases h1:pb d 0=1
  ·have e1:decide ((pb d 0:Int)=1)=true:=decide_eq_true (by omega)
   have hc:cR d=(((0:Int),(1:Int),(pb d 1:Int),(pb d 2:Int),sn,()),decide (pb d 1<=11)&&decide (pb d 2<=15)):=by unfold cR;rw[if_pos ⟨h3,h1⟩]
   rw[hc]
   simp only[e1,cond_true,dK (show 1 < d.length by omega),(d8 (show 1 < d.length by omega)).2,dK (show 2 < d.length by omega),(d8 (show 2 < d.length by omega)).2,ux]
   by_cases c1:pb d 1<=11
   ·have d1:decide ((pb d 1:Int) < 12)=true:=decide_eq_true (by omega)
    by_cases c2:pb d 2<=15
    ·have d2:decide ((pb d 2:Int) < 16)=true:=decide_eq_true (by omega)
     simp[d1,d2,c1,c2]
    ·have d2:decide ((pb d 2:Int) < 16)=false:=decide_eq_false (by omega)
     simp[d1,d2,c1,c2]
   ·have d1:decide ((pb d 1:Int) < 12)=false:=decide_eq_false (by omega)
    simp[d1,c1]
  ·have e1:decide ((pb d 0:Int)=1)=false:=decide_eq_false (by omega)
   have hc:cR d=(wk,false):=by unfold cR;rw[if_neg (fun h=>h1 h.2),if_pos (Or.inl NY)]
   rw[hc]
   simp only[e1,cond_false,Bool.false_eq_true,if_false]
 ·have e3:decide ((d.length:Int)=3)=false:=decide_eq_false (by omega)
  simp only[e3,cond_false]
  by_cases h6:d.length < 6
  ·have e6:decide ((d.length:Int) < 6)=true:=decide_eq_true (by omega)
   have hc:cR d=(wk,false):=by unfold cR;rw[if_neg (fun h=>h3 h.1),if_pos (Or.inl h6)]
   rw[hc]
   simp only[e6,cond_true,Bool.false_eq_true,if_false]
  ·have e6:decide ((d.length:Int) < 6)=false:=decide_eq_false (by omega)
   have hc:cR d=if pb d 0=1\/2 < pb d 0\/d.length≠6+pb d 5 then (wk,false) else (((0:Int),(pb d 0:Int),(0:Int),(0:Int),lW d,()),decide (hB (lW d)=0)):=by
    unfold cR
    rw[if_neg (fun h=>h3 h.1)]
    simp only[h6,false_or]
   have hlen:∀ i,i < 6->i < d.length:=fun i hi=>by omega
   have w6:ae ((6:Int)+(pb d 5:Int))=((6+pb d 5:Nat):Int):=by rw[aP (by omega)];omega
   have P4:(0:Int)<=6/\(6:Int)<=(d.length:Int):=by omega
   have w3:ae ((BitVec.ofInt 64 (ae ((pb d 3:Int)*2 ^ 8)) ||| BitVec.ofInt 64 (pb d 4:Int)).toNat:Int)=(pb d 3:Int)*256+(pb d 4:Int):=by rw[Ka b3 b4,aP (by omega)]
   have ht:(d.take d.length).drop 6=d.drop 6:=by rw[List.take_length]
   have hr:bp.ab (lW d,())=some (hB (lW d),()):=qp (lW d) (by rw[ah];simp only[lW,List.length_drop];omega)
   unfold lW at hr
   simp only[e6,cond_false,dK (show 0 < d.length by omega),(d8 (show 0 < d.length by omega)).2,dK (show 5 < d.length by omega),(d8 (show 5 < d.length by omega)).2,dK (show 1 < d.length by omega),(d8 (show 1 < d.length by omega)).2,dK (show 2 < d.length by omega),(d8 (show 2 < d.length by omega)).2,
    dK (show 3 < d.length by omega),(d8 (show 3 < d.length by omega)).2,dK (show 4 < d.length by omega),(d8 (show 4 < d.length by omega)).2,ux,w6,P4.2,show (0:Int)<=6 by omega,and_self,if_true,w3,ht,hr,Option.bind_some]
   have e5:decide ((d.length:Int)=((6+pb d 5:Nat):Int))=decide (d.length=6+pb d 5):=by rw[decide_eq_decide];omega
   have e0:decide ((pb d 0:Int)=0)=decide (pb d 0=0):=by rw[decide_eq_decide];omega
   have e2:decide ((pb d 0:Int)=2)=decide (pb d 0=2):=by rw[decide_eq_decide];omega
   rw[e5,e0,e2]
   have fin:∀ (c5:d.length=6+pb d 5) (c0:¬ (pb d 0=1\/2 < pb d 0\/d.length≠6+pb d 5)),(bif !decide (hB ((pb d 1:Int),(pb d 2:Int),(pb d 3:Int)*256+(pb d 4:Int),d.drop 6,())=0) then some (tX,()) else some (((0:Int),(pb d 0:Int),(0:Int),(0:Int),((pb d 1:Int),(pb d 2:Int),(pb d 3:Int)*256+(pb d 4:Int),d.drop 6,()),()),()))=some (if (cR d).2 then (cR d).1 else tX,()):=fun c5 c0=>by
    rw[hc,if_neg c0]
    show (bif !decide (hB (lW d)=0) then some (tX,()) else some (((0:Int),(pb d 0:Int),(0:Int),(0:Int),lW d,()),()))=some (if decide (hB (lW d)=0)=true then ((0:Int),(pb d 0:Int),(0:Int),(0:Int),lW d,()) else tX,())
    cases decide (hB (lW d)=0) <;> rfl
   have bad:(pb d 0=1\/2 < pb d 0\/d.length≠6+pb d 5)->(some (tX,()):Option dV.Out)=some (if (cR d).2 then (cR d).1 else tX,()):=fun h=>by
    rw[hc,if_pos h];rfl
   by_cases c5:d.length=6+pb d 5
   ·rw[decide_eq_true c5]
    by_cases c0:pb d 0=0
    ·rw[decide_eq_true c0]
     exact fin c5 (by omega)
    ·rw[decide_eq_false c0]
     by_cases c2:pb d 0=2
     ·rw[decide_eq_true c2]
      exact fin c5 (by omega)
     ·rw[decide_eq_false c2]
      exact bad (by omega)
   ·rw[decide_eq_false c5]
    have hb:=bad (.inr (.inr c5))
    cases decide (pb d 0=0) <;> cases decide (pb d 0=2) <;> exact hb
section
variable {p:List UInt8} (hp:kV p)
include hp
theorem yF (s:Nat):gg.ab (p,(s:Int),())=some (decide (s < pn p)&&!decide (aM p s=0),()):=by
 refine ag (k:=0) fun k _=>(gg.aa k _).trans ?_
 show gg.p _=_
 unfold gg.p
 have h0:(0:Int)<=(s:Int):=by omega
 have hn:=hp.n
 have hl:=hp.len
 simp only[h0,decide_true,cond_true,rV hl,Option.bind_some]
 by_cases hs:s < pn p
 ·have e1:(s:Int) < (pn p:Int):=by omega
  have e2:decide ((aM p s:Int)=0)=decide (aM p s=0):=by rw[decide_eq_decide];omega
  have e3:(p[3+2*s]'(by omega)).toNat=aM p s:=(d8 (show 3+2*s < p.length by omega)).2
  simp only[e1,hs,decide_true,cond_true,NT (show s < 1000 by omega),Int.natCast_nonneg,if_true,Int.toNat_natCast,dK (show 3+2*s < p.length by omega),e3,e2,Bool.true_and]
 ·have e1:¬ ((s:Int) < (pn p:Int)):=by omega
  simp only[e1,hs,decide_false,cond_false,Bool.false_and]
theorem GE (s:Nat):kP.ab (p,(s:Int),())=some (decide (s < pn p)&&!decide (aM p s=0),()):=by
 refine ag (k:=0) fun k _=>(kP.aa k _).trans ?_
 show kP.p _=_
 unfold kP.p
 have hn:=hp.n
 have hl:=hp.len
 have hw:ae ((pn p:Int) - 1)=(pn p:Int) - 1:=aP (by omega)
 have h0:decide ((0:Int)<=(s:Int))=true:=decide_eq_true (by omega)
 have h1:decide ((s:Int)<=(pn p:Int) - 1)=decide (s < pn p):=by rw[decide_eq_decide];omega
 simp only[oh hl,Option.bind_some,hw,iQ,h0,h1,Bool.true_and]
 by_cases hs:s < pn p
 ·have e2:decide ((0:Int) < (aM p s:Int))=!decide (aM p s=0):=by
   by_cases hz:aM p s=0
   ·simp[hz]
   ·have:(0:Int) < (aM p s:Int):=by omega
    rw[decide_eq_true this,decide_eq_false hz];rfl
  simp only[hs,decide_true,cond_true,mT hl (show s < 16 by omega),Option.bind_some,e2,Bool.true_and]
 ·simp only[hs,decide_false,cond_false,Bool.false_and]
theorem zC {s:Nat} (hs:s < pn p):pat p s+aM p s<=64:=by
 by_cases hz:aM p s=0
 ·have:=hp.zero s hs hz;omega
 ·exact (hp.slot s hs hz).2
theorem uz {s:Nat} (hs:s < pn p):gL.ab (p,(s:Int),())=some (ep p s,()):=by
 refine ag (k:=0) fun k _=>(gL.aa k _).trans ?_
 show gL.p _=_
 unfold gL.p ep
 have hn:=hp.n
 have hl:=hp.len
 have hc:=zC hp hs
 have hw:ae ((pat p s:Int)+(aM p s:Int))=((pat p s+aM p s:Nat):Int):=by rw[aP (by omega)];omega
 have hb:(0:Int)<=(pat p s:Int)/\(pat p s:Int)<=((pat p s+aM p s:Nat):Int)/\((pat p s+aM p s:Nat):Int)<=(p.length:Int):=by omega
 simp only[xg hl (show s < 16 by omega),Option.bind_some,hw]
 rw[if_pos hb]
 simp only[Int.toNat_natCast,List.drop_take]
 rw[show pat p s+aM p s - pat p s=aM p s by omega]
theorem pV {s:Nat} (hs:s < pn p):fl.ab (p,(s:Int),())=some (ep p s,()):=by
 refine ag (k:=0) fun k _=>(fl.aa k _).trans ?_
 show fl.p _=_
 unfold fl.p ep
 have hn:=hp.n
 have hl:=hp.len
 have hc:=zC hp hs
 have hw:ae ((pat p s:Int)+(aM p s:Int))=((pat p s+aM p s:Nat):Int):=by rw[aP (by omega)];omega
 have hb:(0:Int)<=(pat p s:Int)/\(pat p s:Int)<=((pat p s+aM p s:Nat):Int)/\((pat p s+aM p s:Nat):Int)<=(p.length:Int):=by omega
 simp only[rW hl (show s < 16 by omega),mT hl (show s < 16 by omega),Option.bind_some,hw]
 rw[if_pos hb,if_pos (cD (by simp only[List.length_nil,List.length_drop,List.length_take];omega))]
 simp only[Int.toNat_natCast,List.drop_take,List.nil_append]
 rw[show pat p s+aM p s - pat p s=aM p s by omega]
end
theorem nB {p:List UInt8} (hp:kV p) {s:Nat} (hs:s < pn p):(ep p s).length<=64:=by
 have:=rU hp hs
 have:=zC hp hs
 omega
end OT
set_option linter.unusedVariables false
set_option linter.unusedSimpArgs false
namespace OT
open Go
def rk (x:Row):Int×Int:=(x.1,x.2.1)
theorem rx (a b:Int×Int):bP a b=true↔a.1 < b.1\/(a.1=b.1/\a.2 < b.2):=by unfold bP;simp
theorem kW {a b c:Int×Int} (h1:bP a b=true) (Y:bP b c=true):bP a c=true:=by
 rw[rx] at *;omega
theorem mU (a:Int×Int):bP a a=false:=by
 cases h:bP a a with
 | false=>rfl
 | true=>rw[rx] at h;omega
theorem IH {a b:Int×Int} (h:bP a b=true):bP b a=false:=by
 cases Y:bP b a with
 | false=>rfl
 | true=>rw[rx] at h Y;omega
theorem pi {a b:Int×Int} (h1:bP a b=false) (Y:bP b a=false):a=b:=by
 have n1:¬ (a.1 < b.1\/(a.1=b.1/\a.2 < b.2)):=fun h=>by rw[(rx a b).2 h] at h1;cases h1
 have n2:¬ (b.1 < a.1\/(b.1=a.1/\b.2 < a.2)):=fun h=>by rw[(rx b a).2 h] at Y;cases Y
 have e1:a.1=b.1:=by omega
 have e2:a.2=b.2:=by omega
 obtain ⟨a1,a2⟩:=a
 obtain ⟨b1,b2⟩:=b
 simp only at e1 e2
 rw[e1,e2]
def up (xs:List Row):Prop:=xs.Pairwise (fun a b=>bP (rk a) (rk b)=true)
theorem sI {x:Row} {xs:List Row}:up (x::xs)↔(∀ y ∈ xs,bP (rk x) (rk y)=true)/\up xs:=List.pairwise_cons
def pos:List Row->Int×Int->Nat
 | [],_=>0
 | x::xs,k=>if bP (rk x) k then pos xs k+1 else 0
theorem sJ:∀ (xs:List Row) (k:Int×Int),pos xs k<=xs.length
 | [],_=>Nat.le_refl _
 | x::xs,k=>by simp only[pos];split <;> simp[sJ xs k]
theorem CS:∀ (xs:List Row) (k:Int×Int) (i:Nat) (h:i < xs.length),i < pos xs k->bP (rk xs[i]) k=true
 | x::xs,k,i,h,hp=>by
  simp only[pos] at hp
  split at hp
  ·rename_i hx
   cases i with
   | zero=>exact hx
   | succ i=>exact CS xs k i (by simpa using h) (by omega)
  ·omega
theorem sK:∀ (xs:List Row) (k:Int×Int) (i:Nat) (h:i < xs.length),up xs->pos xs k<=i->bP (rk xs[i]) k=false
 | x::xs,k,i,h,hu,hp=>by
  simp only[pos] at hp
  split at hp
  ·cases i with
   | zero=>omega
   | succ i=>exact sK xs k i (by simpa using h) (sI.1 hu).2 (by omega)
  ·rename_i hx
   have hx:bP (rk x) k=false:=by simpa using hx
   cases i with
   | zero=>exact hx
   | succ i=>
    have eZ:i < xs.length:=by simpa using h
    have hm:bP (rk x) (rk xs[i])=true:=(sI.1 hu).1 _ (List.getElem_mem _)
    show bP (rk xs[i]) k=false
    cases hb:bP (rk xs[i]) k with
    | false=>rfl
    | true=>rw[kW hm hb] at hx;cases hx
def jy (xs:List Row) (k:Int×Int):Bool:=match xs[pos xs k]? with
 | some x=>decide (rk x=k)
 | none=>false
theorem sL {xs:List Row} {k:Int×Int} (h:jy xs k=true):∃ hp:pos xs k < xs.length,rk xs[pos xs k]=k:=by
 unfold jy at h
 split at h
 ·rename_i x hx
  obtain ⟨hp,e⟩:=List.getElem?_eq_some_iff.1 hx
  subst e
  exact ⟨hp,by simpa using h⟩
 ·cases h
theorem II (a b:Row):decide ((if bP (a.1,a.2.1) (b.1,b.2.1) then (-1:Int) else if bP (b.1,b.2.1) (a.1,a.2.1) then 1 else 0) < 0)=bP (rk a) (rk b):=by
 unfold rk
 cases bP (a.1,a.2.1) (b.1,b.2.1) <;> cases bP (b.1,b.2.1) (a.1,a.2.1) <;> rfl
theorem tY (a b:Row):sameKey a b=decide (rk a=rk b):=by
 unfold sameKey rk
 by_cases h1:a.1=b.1 <;> by_cases Y:a.2.1=b.2.1 <;> simp[h1,Y]
theorem half (lo hi:Nat) (h:lo+hi<=4611686018427387904):ae ((IntKind.wrap .u64 (ae ((lo:Int)+(hi:Int)))).fdiv (2 ^ 1))=(((lo+hi) / 2:Nat):Int):=by
 have e1:ae ((lo:Int)+(hi:Int))=((lo+hi:Nat):Int):=by rw[aP (by omega)];omega
 rw[e1]
 have e2:IntKind.wrap .u64 ((lo+hi:Nat):Int)=((lo+hi:Nat):Int):=by
  simp only[IntKind.wrap]
  first | rfl | (simp[IntKind.bits,IntKind.signed];omega) | omega
 rw[e2]
 have e3:(((lo+hi:Nat):Int)).fdiv (2 ^ 1)=(((lo+hi) / 2:Nat):Int):=by
  rw[Int.fdiv_eq_ediv_of_nonneg _ (by omega)]
  omega
 rw[e3,aP (by omega)]
theorem Af (xs:List Row) (key:Row) (f:Nat×Int) (hu:up xs) (hl:xs.length<=2000000):aE.ab (xs,key,f,())=some ((pos xs (rk key):Int),jy xs (rk key),()):=by
 have hp:=sJ xs (rk key)
 have hq:aE.Q0 0 (xs,key,f,()) (pos xs (rk key):Int)=some ((pos xs (rk key):Int),jy xs (rk key),()):=by
  show aE.q0 _ _=_
  unfold aE.q0 jy
  by_cases aj:pos xs (rk key) < xs.length
  ·have h1:((pos xs (rk key):Nat):Int) < (xs.length:Int):=by omega
   simp only[h1,decide_true,cond_true,Int.natCast_nonneg,if_true,Int.toNat_natCast,List.getElem?_eq_getElem aj,Option.bind_some,tR,yz,tY]
  ·have h1:¬ ((pos xs (rk key):Nat):Int) < (xs.length:Int):=by omega
   simp only[h1,decide_false,cond_false]
   rw[List.getElem?_eq_none (by omega)]
 refine ag (k:=xs.length+1) fun k hk=>(aE.aa k _).trans ?_
 refine qh (B:=fun self v=>aE.B0 0 self (fun z=>aE.Q0 0 (xs,key,f,()) z) (xs,key,f,()) v) (fun _=>((pos xs (rk key):Int),jy xs (rk key),()))
  (fun v=>∃ lo hi:Nat,v=((lo:Int),(hi:Int))/\lo<=pos xs (rk key)/\pos xs (rk key)<=hi/\hi<=xs.length) (fun v=>(v.2 - v.1).toNat) (fun v hv self=>?_) k (0,(xs.length:Int)) ⟨0,xs.length,rfl,by omega,hp,by omega⟩ (by simp;omega)
 obtain ⟨lo,hi,rfl,h1,Y,h3⟩:=hv
 by_cases aj:lo < hi
 ·right
  have nL:(lo:Int) < (hi:Int):=by omega
  have hm:(lo+hi) / 2 < xs.length:=by omega
  have hb:∀ self,aE.B0 0 self (fun z=>aE.Q0 0 (xs,key,f,()) z) (xs,key,f,()) ((lo:Int),(hi:Int))=if bP (rk xs[(lo+hi) / 2]) (rk key) then self (ae ((((lo+hi) / 2:Nat):Int)+1),(hi:Int)) else self ((lo:Int),(((lo+hi) / 2:Nat):Int)):=fun self=>by
   show aE.b0 _ _ _ _=_
   unfold aE.b0
   simp only[nL,decide_true,cond_true,half lo hi (by omega),Int.natCast_nonneg,if_true,Int.toNat_natCast,List.getElem?_eq_getElem hm,Option.bind_some,tR,II]
   cases bP (rk xs[(lo+hi) / 2]) (rk key) <;> rfl
  cases hc:bP (rk xs[(lo+hi) / 2]) (rk key) with
  | true=>
   refine ⟨((((lo+hi) / 2+1:Nat):Int),(hi:Int)),?_,rfl,⟨_,_,rfl,?_,Y,h3⟩,by simp only;omega⟩
   ·rw[hb,hc,if_pos rfl,aP (by omega)];rfl
   ·rcases Nat.lt_or_ge ((lo+hi) / 2) (pos xs (rk key)) with h | h
    ·omega
    ·rw[sK xs _ _ hm hu h] at hc;cases hc
  | false=>
   refine ⟨((lo:Int),(((lo+hi) / 2:Nat):Int)),?_,rfl,⟨_,_,rfl,h1,?_,by omega⟩,by simp only;omega⟩
   ·rw[hb,hc];rfl
   ·rcases Nat.lt_or_ge ((lo+hi) / 2) (pos xs (rk key)) with h | h
    ·rw[CS xs _ _ hm h] at hc;cases hc
    ·exact h
 ·left
  have e:lo=pos xs (rk key):=by omega
  have nL:¬ (lo:Int) < (hi:Int):=by omega
  show aE.b0 _ _ _ _=_
  unfold aE.b0
  simp only[nL,decide_false,cond_false]
  rw[e]
  exact hq
def nH (xs:List Row) (c:Change):Bool:=(jy xs (ck c) == c.1)&&(!jy xs (ck c)||(match xs[pos xs (ck c)]? with | some x=>Ty.eq aw x c.2.1 | none=>true))
def lX (xs:List Row) (c:Change):List Row:=xs.take (pos xs (ck c))++(if c.2.2.1 then [c.2.2.2.1] else [])++xs.drop (pos xs (ck c)+if jy xs (ck c) then 1 else 0)
theorem IJ (c:Change):rk (sF c)=ck c:=Ad c
theorem IK (c:Change) (xs:List Row) (hu:up xs) (hl:xs.length<=2000000):fx.ab (c,xs,())=some (nH xs c,()):=by
 refine ag (k:=0) fun k _=>(fx.aa k _).trans ?_
 show fx.p _=_
 unfold fx.p nH
 simp only[tS,Af xs _ _ hu hl,IJ,Option.bind_some]
 cases hf:jy xs (ck c) with
 | false=>cases c.1 <;> rfl
 | true=>
  obtain ⟨hp,hk⟩:=sL hf
  simp only[Int.natCast_nonneg,if_true,Int.toNat_natCast,List.getElem?_eq_getElem hp,Option.bind_some]
  cases c.1 <;> rfl
theorem GF (xs:List Row) (c:Change) (hu:up xs) (hl:xs.length<=2000000):ju.ab (xs,c,())=some (lX xs c,()):=by
 refine ag (k:=0) fun k _=>(ju.aa k _).trans ?_
 show ju.p _=_
 unfold ju.p lX
 have hp:=sJ xs (ck c)
 have oI:0<=((pos xs (ck c):Nat):Int)/\((pos xs (ck c):Nat):Int)<=(xs.length:Int):=by omega
 have c1:([]:List Row).length+(List.take (pos xs (ck c)) xs).length<=bm:=cD (by simp;omega)
 simp only[tS,Af xs _ _ hu hl,IJ,Option.bind_some,oI,and_self,if_true,Int.toNat_natCast,c1,List.drop_zero,List.nil_append,List.take_length]
 have c2:(List.take (pos xs (ck c)) xs).length+[c.2.2.2.1].length<=bm:=cD (by simp;omega)
 have hd:∀ (p7:List Row) (n:Nat),p7.length<=2000001->p7.length+(List.drop n xs).length<=bm:=fun p7 n h=>cD (by rw[List.length_drop];omega)
 have hw:ae (((pos xs (ck c):Nat):Int)+1)=((pos xs (ck c)+1:Nat):Int):=by rw[aP (by omega)];rfl
 have c3:=hd (List.take (pos xs (ck c)) xs++[c.2.2.2.1])
 have c4:=hd (List.take (pos xs (ck c)) xs)
 have l3:(List.take (pos xs (ck c)) xs++[c.2.2.2.1]).length<=2000001:=by simp;omega
 have l4:(List.take (pos xs (ck c)) xs).length<=2000001:=by simp;omega
 cases hf:jy xs (ck c) with
 | false=>
  cases c.2.2.1 with
  | false=>simp only[cond_false,oI,and_self,if_true,Int.toNat_natCast,c4 _ l4,Bool.false_eq_true,if_false,List.append_nil,Nat.add_zero]
  | true=>simp only[cond_true,cond_false,c2,oI,and_self,if_true,Int.toNat_natCast,c3 _ l3,Bool.false_eq_true,if_false,Nat.add_zero]
 | true=>
  obtain ⟨dO,_⟩:=sL hf
  have NZ:0<=((pos xs (ck c)+1:Nat):Int)/\((pos xs (ck c)+1:Nat):Int)<=(xs.length:Int):=by omega
  cases c.2.2.1 with
  | false=>simp only[cond_true,cond_false,hw,NZ,and_self,if_true,Int.toNat_natCast,c4 _ l4,Bool.false_eq_true,if_false,List.append_nil]
  | true=>simp only[cond_true,cond_false,c2,hw,NZ,and_self,if_true,Int.toNat_natCast,c3 _ l3]
theorem uA (a b:Row):fH.ab (a,b,())=some (bP (rk a) (rk b),()):=by
 refine ag (k:=0) fun k _=>(fH.aa k _).trans ?_
 show fH.p _=_
 unfold fH.p bP rk
 by_cases h1:a.1 < b.1 <;> by_cases Y:a.1=b.1 <;> simp[h1,Y]
theorem D0 {x:Row} {xs:List Row} {k:Int×Int} (h:bP (rk x) k=true):jy (x::xs) k=jy xs k:=by
 unfold jy
 simp only[pos,h,if_true,List.getElem?_cons_succ]
theorem Mh {xs:List Row} {k:Int×Int} (h:jy xs k=true):∃ y ∈ xs,rk y=k:=by
 obtain ⟨hp,hk⟩:=sL h
 exact ⟨_,List.getElem_mem hp,hk⟩
theorem EU (k:Int×Int):∀ (xs:List Row) (j:Nat),up xs->aU (fun i (_:Unit) x=>if rk x=k then .inl ((i:Int),()) else .inr ()) (fun _=>((-1:Int),())) j xs ()=if jy xs k then (((j+pos xs k:Nat):Int),()) else (-1,())
 | [],j,_=>by simp[aU,jy]
 | x::xs,j,hu=>by
  have hu:=sI.1 hu
  simp only[aU]
  by_cases hx:rk x=k
  ·have hb:bP (rk x) k=false:=by rw[hx];exact mU k
   have hf:jy (x::xs) k=true:=by
    have SV:pos (x::xs) k=0:=by simp only[pos,hb,Bool.false_eq_true,if_false]
    unfold jy
    rw[SV]
    simp[hx]
   simp[hx,hf,pos,mU]
  ·simp only[hx,if_false]
   rw[EU k xs (j+1) hu.2]
   cases hb:bP (rk x) k with
   | true=>
    rw[D0 hb]
    simp only[pos,hb,if_true]
    have:j+1+pos xs k=j+(pos xs k+1):=by omega
    rw[this]
   | false=>
    have h1:jy (x::xs) k=false:=by simp[jy,pos,hb,hx]
    have Y:jy xs k=false:=by
     cases h:jy xs k with
     | false=>rfl
     | true=>
      obtain ⟨y,hy,e⟩:=Mh h
      have:=hu.1 y hy
      rw[e,hb] at this;cases this
    simp[h1,Y]
def ol (xs:List Row) (k:Int×Int):Int:=if jy xs k then (pos xs k:Int) else -1
theorem IL (xs:List Row) (t k:Int) (hu:up xs) (hl:xs.length<=2000000):fQ.ab (xs,t,k,())=some (ol xs (t,k),()):=by
 refine ag (k:=xs.length+1) fun f hf=>(fQ.aa f _).trans ?_
 have:=br (B:=fun self v=>fQ.B0 0 self (fun z=>fQ.Q0 0 (xs,t,k,()) z) (xs,t,k,()) v) xs (fun (_:Unit) (i:Int)=>i) (fun i _ x=>if rk x=(t,k) then .inl ((i:Int),()) else .inr ()) (fun _=>((-1:Int),())) (fun _ _=>True) (by rw[ah];omega)
  (fun i hi _ self _=>by
   show fQ.b0 _ _ _ _=_
   unfold fQ.b0 rk
   have aj:(i:Int) < (xs.length:Int):=by omega
   simp only[aj,decide_true,cond_true,Int.natCast_nonneg,if_true,Int.toNat_natCast,List.getElem?_eq_getElem hi,Option.bind_some]
   by_cases h1:xs[i].1=t <;> by_cases Y:xs[i].2.1=k <;> simp[h1,Y]) (fun _ _ _ _ _ _=>trivial) (fun _ self _=>by
   show fQ.b0 _ _ _ _=_
   unfold fQ.b0
   simp[fQ.Q0,fQ.q0]) () trivial f (by omega)
 rw[EU (t,k) xs 0 hu] at this
 have this:fQ.r0 f (xs,t,k,()) 0=_:=this
 unfold fQ.p
 rw[this]
 unfold ol
 cases jy xs (t,k) <;> simp <;> rfl
theorem CT {O:Type} (k:Int×Int) (g:Nat->O) (n:Nat):∀ (xs:List Row) (j:Nat),j+xs.length=n->aU (fun i (_:Unit) x=>if bP (rk x) k then .inr () else .inl (g i)) (fun _=>g n) j xs ()=g (j+pos xs k)
 | [],j,h=>by simp[aU,pos] at *;rw[h]
 | x::xs,j,h=>by
  simp only[aU,pos]
  cases hb:bP (rk x) k with
  | true=>
   simp only[if_true]
   rw[CT k g n xs (j+1) (by simp at h;omega)]
   congr 1;omega
  | false=>simp
def jJ (xs:List Row) (r:Row):List Row:=xs.take (pos xs (rk r))++[r]++xs.drop (pos xs (rk r))
theorem yG (xs:List Row) (r:Row) (hl:xs.length<=2000000):d_.ab (xs,r,())=some (jJ xs r,()):=by
 refine ag (k:=xs.length+1) fun f hf=>(d_.aa f _).trans ?_
 have hq:∀ i:Nat,i<=xs.length->d_.Q0 0 (xs,r,()) (i:Int)=some (xs.take i++[r]++xs.drop i,()):=fun i hi=>by
  show d_.q0 _ _=_
  unfold d_.q0
  have oI:0<=(i:Int)/\(i:Int)<=(xs.length:Int):=by omega
  have c1:([]:List Row).length+(List.take i xs).length<=bm:=cD (by simp;omega)
  have c2:(List.take i xs).length+[r].length<=bm:=cD (by simp;omega)
  have c3:(List.take i xs++[r]).length+(List.drop i xs).length<=bm:=cD (by simp;omega)
  simp only[oI,and_self,if_true,Int.toNat_natCast,c1,List.drop_zero,List.nil_append,List.take_length,c2,c3]
 have:=br (B:=fun self v=>d_.B0 0 self (fun z=>d_.Q0 0 (xs,r,()) z) (xs,r,()) v) xs (fun (_:Unit) (i:Int)=>i) (fun i _ x=>if bP (rk x) (rk r) then .inr () else .inl (xs.take i++[r]++xs.drop i,())) (fun _=>(xs.take xs.length++[r]++xs.drop xs.length,())) (fun _ _=>True) (by rw[ah];omega)
  (fun i hi _ self _=>by
   show d_.b0 _ _ _ _=_
   unfold d_.b0
   have aj:(i:Int) < (xs.length:Int):=by omega
   simp only[aj,decide_true,cond_true,Int.natCast_nonneg,if_true,Int.toNat_natCast,List.getElem?_eq_getElem hi,Option.bind_some,uA]
   cases bP (rk xs[i]) (rk r) with
   | true=>rfl
   | false=>exact hq i (by omega)) (fun _ _ _ _ _ _=>trivial) (fun _ self _=>by
   show d_.b0 _ _ _ _=_
   unfold d_.b0
   have aj:¬ (xs.length:Int) < (xs.length:Int):=by omega
   simp only[aj,decide_false,cond_false]
   exact hq _ (Nat.le_refl _)) () trivial f (by omega)
 rw[CT (rk r) (fun i=>(xs.take i++[r]++xs.drop i,())) xs.length xs 0 (by omega)] at this
 refine this.trans ?_
 simp[jJ]
theorem xi (t:Int):∀ (xs:List Row) (j:Nat) (s:List Row),aU (O:=List Row×Unit) (fun i s x=>if (i:Int)=t then .inr s else .inr (s++[x])) (fun s=>(s,())) j xs s=(s++(if (j:Int)<=t/\t < j+xs.length then xs.take (t - j).toNat++xs.drop ((t - j).toNat+1) else xs),())
 | [],j,s=>by
  have:¬ ((j:Int)<=t/\t < j+(([]:List Row).length:Int)):=fun h=>by
   have Y:(([]:List Row).length:Int)=0:=rfl
   omega
  simp only[aU,this,if_false,List.append_nil]
 | x::xs,j,s=>by
  simp only[aU]
  by_cases h:(j:Int)=t
  ·have h1:¬ (((j+1:Nat):Int)<=t/\t < ((j+1:Nat):Int)+(xs.length:Int)):=by omega
   have Y:(j:Int)<=t/\t < (j:Int)+((x::xs).length:Int):=by simp;omega
   have h3:(t - j).toNat=0:=by omega
   simp only[h,if_true]
   rw[xi t xs (j+1) s,if_neg h1]
   rw[<-h] at Y ⊢
   have h3:((j:Int) - j).toNat=0:=by omega
   rw[if_pos Y,h3]
   simp
  ·simp only[h,if_false]
   rw[xi t xs (j+1) (s++[x])]
   by_cases hc:(j:Int)<=t/\t < (j:Int)+((x::xs).length:Int)
   ·have vj:((j+1:Nat):Int)<=t/\t < ((j+1:Nat):Int)+(xs.length:Int):=by simp at hc;omega
    have h3:(t - j).toNat=(t - ((j+1:Nat):Int)).toNat+1:=by omega
    rw[if_pos hc,if_pos vj,h3]
    simp
   ·have vj:¬ (((j+1:Nat):Int)<=t/\t < ((j+1:Nat):Int)+(xs.length:Int)):=by simp at hc;omega
    rw[if_neg hc,if_neg vj]
    simp
def xj (xs:List Row) (k:Int×Int):List Row:=if jy xs k then xs.take (pos xs k)++xs.drop (pos xs k+1) else xs
theorem yH (k:Int×Int):∀ (l1 l2:List Row),(∀ x ∈ l1,bP (rk x) k=true)->pos (l1++l2) k=l1.length+pos l2 k
 | [],l2,_=>by simp
 | x::l1,l2,h=>by
  simp only[List.cons_append,pos,h x List.mem_cons_self,if_true,List.length_cons]
  rw[yH k l1 l2 fun y hy=>h y (List.mem_cons_of_mem _ hy)]
  omega
theorem tZ {xs:List Row} {k:Int×Int} {x:Row} (h:x ∈ xs.take (pos xs k)):bP (rk x) k=true:=by
 obtain ⟨i,hi,e⟩:=List.mem_iff_getElem.1 h
 have hp:=sJ xs k
 rw[List.length_take] at hi
 rw[List.getElem_take] at e
 rw[<-e]
 exact CS xs k i (by omega) (by omega)
theorem Kb {xs:List Row} {k:Int×Int} (hu:up xs) {n:Nat} (hn:pos xs k<=n):pos (xs.drop n) k=0:=by
 cases hd:xs.drop n with
 | nil=>rfl
 | cons y ys=>
  have aj:n < xs.length:=by
   rcases Nat.lt_or_ge n xs.length with h | h
   ·exact h
   ·rw[List.drop_eq_nil_of_le h] at hd;cases hd
  rw[List.drop_eq_getElem_cons aj] at hd
  injection hd with h1 Y
  simp only[pos]
  rw[<-h1,sK xs k n aj hu hn]
  rfl
theorem Mi {xs:List Row} {k:Int×Int} {r:Row} (hu:up xs) (hk:rk r=k):jJ (xj xs k) r=xs.take (pos xs k)++[r]++xs.drop (pos xs k+if jy xs k then 1 else 0):=by
 have hp:=sJ xs k
 have key:∀ n,pos xs k<=n->pos (xs.take (pos xs k)++xs.drop n) k=pos xs k:=fun n hn=>by
  rw[yH k _ _ fun x hx=>tZ hx,Kb hu hn,List.length_take]
  omega
 have hl:(xs.take (pos xs k)).length=pos xs k:=by rw[List.length_take];omega
 unfold jJ xj
 rw[hk]
 cases jy xs k with
 | true=>
  simp only[if_true]
  rw[key _ (by omega),List.take_left' hl,List.drop_left' hl]
 | false=>
  simp
theorem IM (xs:List Row) (c:Change) (hu:up xs) (hl:xs.length<=2000000) (hc:c.2.2.1=true->rk c.2.2.2.1=ck c):fR.ab (xs,c,())=some (if nH xs c then (lX xs c,true,()) else ([],false,())):=by
 refine ag (k:=xs.length+1) fun f hf=>(fR.aa f _).trans ?_
 have hp:=sJ xs (ck c)
 have IN:=br (B:=fun self v=>fR.B0 0 self (fun z=>fR.Q0 0 (xs,c,()) (ol xs (ck c)) z) (xs,c,()) (ol xs (ck c)) v) (O:=List Row×Bool×Unit) xs (fun (s:List Row) (i:Int)=>(s,i)) (fun i s x=>if (i:Int)=ol xs (ck c) then .inr s else .inr (s++[x]))
  (fun s=>(if c.2.2.1 then jJ s c.2.2.2.1 else s,true,())) (fun i s=>s.length<=i) (by rw[ah];omega)
  (fun i hi s self hI=>by
   show fR.b0 _ _ _ _ _=_
   unfold fR.b0
   have aj:(i:Int) < (xs.length:Int):=by omega
   simp only[aj,decide_true,cond_true,Int.natCast_nonneg,if_true,Int.toNat_natCast,List.getElem?_eq_getElem hi,Option.bind_some]
   have c2:s.length+[xs[i]].length<=bm:=cD (by simp;omega)
   by_cases h:(i:Int)=ol xs (ck c)
   ·simp[h]
   ·simp only[h,decide_false,Bool.not_false,cond_true,c2,if_true,if_false]) (fun i hi s s' hI hf=>by
   split at hf <;> (injection hf with hf;rw[<-hf];first | omega | (simp;omega))) (fun s self hI=>by
   show fR.b0 _ _ _ _ _=_
   unfold fR.b0
   have aj:¬ (xs.length:Int) < (xs.length:Int):=by omega
   simp only[aj,decide_false,cond_false,fR.Q0,fR.q0,yG s _ (by omega),Option.bind_some]
   cases c.2.2.1 <;> rfl) [] (Nat.le_refl _) f (by omega)
 have Cz:∀ (IP:List Row) (j:Nat) (s:List Row),aU (O:=List Row×Bool×Unit) (fun i s x=>if (i:Int)=ol xs (ck c) then .inr s else .inr (s++[x])) (fun s=>(if c.2.2.1 then jJ s c.2.2.2.1 else s,true,())) j IP s
   = (fun s=>(if c.2.2.1 then jJ s c.2.2.2.1 else s,true,())) (aU (O:=List Row×Unit) (fun i s x=>if (i:Int)=ol xs (ck c) then .inr s else .inr (s++[x])) (fun s=>(s,())) j IP s).1:=by
  intro IP
  induction IP with
  | nil=>intro j s;rfl
  | cons x IP ih=>
   intro j s
   simp only[aU]
   by_cases h:(j:Int)=ol xs (ck c)
   ·simp only[h,if_true];exact ih _ _
   ·simp only[h,if_false];exact ih _ _
 rw[Cz,xi (ol xs (ck c)) xs 0 []] at IN
 have QV:([]++(if ((0:Nat):Int)<=ol xs (ck c)/\ol xs (ck c) < ((0:Nat):Int)+(xs.length:Int) then xs.take (ol xs (ck c) - ((0:Nat):Int)).toNat++xs.drop ((ol xs (ck c) - ((0:Nat):Int)).toNat+1) else xs))=xj xs (ck c):=by
  unfold ol xj
  cases IQ:jy xs (ck c) with
  | true=>
   obtain ⟨dO,_⟩:=sL IQ
   simp only[if_true]
   rw[if_pos (by omega)]
   have:(((pos xs (ck c):Nat):Int) - ((0:Nat):Int)).toNat=pos xs (ck c):=by omega
   rw[this];rfl
  | false=>simp
 simp only[QV] at IN
 have IN:fR.r0 f (xs,c,()) (ol xs (ck c)) (([]:List Row),(0:Int))=_:=IN
 unfold fR.p nH
 simp only[yA,IL xs _ _ hu hl,Option.bind_some,IN]
 have O1:(if c.2.2.1 then jJ (xj xs (ck c)) c.2.2.2.1 else xj xs (ck c))=lX xs c:=by
  unfold lX
  cases hi:c.2.2.1 with
  | true=>simp only[if_true];exact Mi hu (hc hi)
  | false=>
   simp only[Bool.false_eq_true,if_false,List.append_nil]
   unfold xj
   cases jy xs (ck c) with
   | true=>simp
   | false=>simp
 rw[O1]
 cases IQ:jy xs (ck c) with
 | true=>
  obtain ⟨dO,hk⟩:=sL IQ
  have ha:ol xs (ck c)=(pos xs (ck c):Int):=by unfold ol;rw[IQ];rfl
  simp only[ha,Int.natCast_nonneg,decide_true,cond_true,if_true,Int.toNat_natCast,List.getElem?_eq_getElem dO,Option.bind_some]
  cases c.1 with
  | true=>cases Ty.eq aw xs[pos xs (ck c)] c.2.1 <;> rfl
  | false=>rfl
 | false=>
  have ha:ol xs (ck c)=-1:=by unfold ol;rw[IQ];rfl
  simp only[ha]
  cases c.1 <;> rfl
end OT
set_option linter.unusedVariables false
set_option linter.unusedSimpArgs false
namespace OT
open Go
def lh (xs:List Row) (i:Nat) (x:Row):Sum (Int×Unit) Unit:=
 if hB x=0 then (if 0 < i then (match xs[i - 1]? with | some y=>if bP (rk y) (rk x) then .inr () else .inl (1,()) | none=>.inl (1,())) else .inr ()) else .inl (hB x,())
def lY (xs:List Row):Int:=if 60 < xs.length then 2 else (aU (fun i (_:Unit) x=>lh xs i x) (fun _=>((0:Int),())) 0 xs ()).1
theorem D1 (xs:List Row) (hl:xs.length<=maxLen) (h:∀ c ∈ xs,rl c):ej.ab (xs,())=some (lY xs,()):=by
 refine ag (k:=xs.length+1) fun k hk=>(ej.aa k _).trans ?_
 have:=br (B:=fun self v=>ej.B0 0 self (fun z=>ej.Q0 0 (xs,()) z) (xs,()) v) xs (fun (_:Unit) (i:Int)=>i) (fun i _ x=>lh xs i x) (fun _=>(0,())) (fun _ _=>True) hl
  (fun i hi _ self _=>by
   show ej.b0 _ _ _ _=_
   unfold ej.b0 lh
   have aj:(i:Int) < (xs.length:Int):=by omega
   simp only[aj,decide_true,cond_true,Int.natCast_nonneg,if_true,Int.toNat_natCast,List.getElem?_eq_getElem hi,Option.bind_some,qo _ (h _ (List.getElem_mem hi))]
   by_cases h1:hB xs[i]=0
   ·simp only[h1,decide_true,Bool.not_true,cond_false,if_true]
    by_cases h0:0 < i
    ·have o4:(0:Int) < (i:Int):=by omega
     have eZ:i - 1 < xs.length:=by omega
     simp only[h0,o4,decide_true,cond_true,if_true,yB h0 (by omega),Int.natCast_nonneg,Int.toNat_natCast,List.getElem?_eq_getElem eZ,Option.bind_some,uA]
     cases bP (rk xs[i - 1]) (rk xs[i]) <;> rfl
    ·have o4:¬ (0:Int) < (i:Int):=by omega
     simp[h0,o4]
   ·simp[h1]) (fun _ _ _ _ _ _=>trivial) (fun _ self _=>by
   show ej.b0 _ _ _ _=_
   unfold ej.b0
   simp[ej.Q0,ej.q0]) () trivial k (by omega)
 have this:ej.r0 k (xs,()) 0=_:=this
 unfold ej.p lY
 rw[this,show (60:Int)=((60:Nat):Int) from rfl]
 simp only[Gz]
 by_cases h1:60 < xs.length <;> simp[h1] <;> rfl
theorem wy (xs:List Row) (hl:xs.length<=maxLen) (h:∀ c ∈ xs,rl c):bT.ab (xs,())=some (lY xs,()):=by
 refine ag (k:=xs.length+1) fun k hk=>(bT.aa k _).trans ?_
 have:=br (B:=fun self v=>bT.B0 0 self (fun z=>bT.Q0 0 (xs,()) z) (xs,()) v) xs (fun (_:Unit) (i:Int)=>i) (fun i _ x=>lh xs i x) (fun _=>(0,())) (fun _ _=>True) hl
  (fun i hi _ self _=>by
   show bT.b0 _ _ _ _=_
   unfold bT.b0 lh rk
   have aj:(i:Int) < (xs.length:Int):=by omega
   simp only[aj,decide_true,cond_true,Int.natCast_nonneg,if_true,Int.toNat_natCast,List.getElem?_eq_getElem hi,Option.bind_some,qp _ (h _ (List.getElem_mem hi))]
   by_cases h1:hB xs[i]=0
   ·simp only[h1,decide_true,Bool.not_true,cond_false,if_true]
    by_cases h0:0 < i
    ·have o4:(0:Int) < (i:Int):=by omega
     have eZ:i - 1 < xs.length:=by omega
     simp only[h0,o4,decide_true,cond_true,if_true,yB h0 (by omega),Int.natCast_nonneg,Int.toNat_natCast,List.getElem?_eq_getElem eZ,Option.bind_some,sm]
     cases bP (xs[i - 1].1,xs[i - 1].2.1) (xs[i].1,xs[i].2.1) <;> rfl
    ·have o4:¬ (0:Int) < (i:Int):=by omega
     simp[h0,o4]
   ·simp[h1]) (fun _ _ _ _ _ _=>trivial) (fun _ self _=>by
   show bT.b0 _ _ _ _=_
   unfold bT.b0
   simp[bT.Q0,bT.q0]) () trivial k (by omega)
 have this:bT.r0 k (xs,()) 0=_:=this
 unfold bT.p lY
 rw[this,show (60:Int)=((60:Nat):Int) from rfl]
 simp only[Gz]
 by_cases h1:60 < xs.length <;> simp[h1] <;> rfl
theorem Ag {α:Type} {f:Nat->Unit->α->Sum (Int×Unit) Unit} (hf:∀ i s x o,f i s x=.inl o->o.1≠0):∀ (xs:List α) (j:Nat),(aU f (fun _=>((0:Int),())) j xs ()).1=0->∀ i (hi:i < xs.length),f (j+i) () xs[i]=.inr ()
 | x::xs,j,h,i,hi=>by
  simp only[aU] at h
  cases hx:f j () x with
  | inl o=>rw[hx] at h;exact absurd h (hf _ _ _ _ hx)
  | inr u=>
   rw[hx] at h
   cases i with
   | zero=>exact hx
   | succ i=>
    have:=Ag hf xs (j+1) h i (by simpa using hi)
    rw[show j+(i+1)=j+1+i by omega]
    exact this
theorem IR:∀ (xs:List Row),(∀ i (hi:i < xs.length),0 < i->bP (rk (xs[i - 1]'(by omega))) (rk xs[i])=true)->up xs
 | [],_=>List.Pairwise.nil
 | [x],_=>List.pairwise_singleton _ _
 | x::y::xs,h=>by
  have hu:up (y::xs):=IR (y::xs) fun i hi h0=>by
   have:=h (i+1) (by simp at hi ⊢;omega) (by omega)
   simp only[Nat.add_sub_cancel] at this
   have e:(x::y::xs)[i]'(by simp at hi ⊢;omega)=(y::xs)[i - 1]'(by simp at hi ⊢;omega):=by
    cases i with
    | zero=>omega
    | succ i=>rfl
   rw[e] at this
   exact this
  have pY:bP (rk x) (rk y)=true:=h 1 (by simp) (by omega)
  refine sI.2 ⟨fun z hz=>?_,hu⟩
  rcases List.mem_cons.1 hz with rfl | hz
  ·exact pY
  ·exact kW pY ((sI.1 hu).1 z hz)
theorem IS {x:Row} (h:hB x=0):List.length x.2.2.2.1<=8:=by
 unfold hB at h
 split at h
 ·split at h
  ·rename_i ht
   unfold wj at ht
   simp only[Bool.and_eq_true,decide_eq_true_eq] at ht
   exact ht.2
  ·cases h
 ·cases h
structure Good (xs:List Row):Prop where
 up:up xs
 ok:∀ x ∈ xs,hB x=0
theorem t6 {xs:List Row} (h:lY xs=0):Good xs/\xs.length<=60:=by
 unfold lY at h
 split at h
 ·cases h
 ·rename_i hl
  have hn:=Ag (f:=fun i (_:Unit) x=>lh xs i x) (fun i s x o ho=>by
   unfold lh at ho
   split at ho
   ·split at ho
    ·split at ho
     ·split at ho
      ·cases ho
      ·injection ho with ho;rw[<-ho];decide
     ·injection ho with ho;rw[<-ho];decide
    ·cases ho
   ·rename_i hx
    injection ho with ho;rw[<-ho];exact hx) xs 0 h
  have h1:∀ i (hi:i < xs.length),hB xs[i]=0:=fun i hi=>by
   have:=hn i hi
   unfold lh at this
   split at this
   ·assumption
   ·cases this
  refine ⟨⟨IR xs fun i hi h0=>?_,fun x hx=>?_⟩,by omega⟩
  ·have:=hn i hi
   unfold lh at this
   rw[if_pos (h1 i hi),Nat.zero_add,if_pos h0,List.getElem?_eq_getElem (show i - 1 < xs.length by omega)] at this
   simp only at this
   split at this
   ·assumption
   ·cases this
  ·obtain ⟨i,hi,rfl⟩:=List.mem_iff_getElem.1 hx
   exact h1 i hi
theorem EV {c:Change} (h:mw c=0):(c.2.2.1=true->rk c.2.2.2.1=ck c)/\(c.2.2.1=true->hB c.2.2.2.1=0):=by
 refine ⟨fun hi=>by unfold rk ck;rw[hi];rfl,fun hi=>?_⟩
 unfold mw at h
 split at h
 ·cases h
 ·split at h
  ·rename_i Y
   simp only[Bool.and_eq_true,Bool.not_eq_true',decide_eq_false_iff_not] at Y
   exact absurd h Y.2
  ·first | exact h | (rw[if_pos hi] at h;exact h)
theorem rX {xs:List Row} {c:Change} (h:Good xs) (hc:mw c=0):Good (lX xs c):=by
 obtain ⟨hk,hr⟩:=EV hc
 have hb:=h.up
 constructor
 ·unfold lX up
  have h1:(xs.take (pos xs (ck c))).Pairwise (fun a b=>bP (rk a) (rk b)=true):=hb.sublist (List.take_sublist _ _)
  have ul:∀ n,(xs.drop n).Pairwise (fun a b=>bP (rk a) (rk b)=true):=fun n=>hb.sublist (List.drop_sublist _ _)
  have IT:∀ y ∈ xs.drop (pos xs (ck c)+if jy xs (ck c) then 1 else 0),bP (ck c) (rk y)=true:=fun y hy=>by
   obtain ⟨i,e⟩:=List.mem_iff_getElem?.1 hy
   rw[List.getElem?_drop] at e
   obtain ⟨aj,e1⟩:=List.getElem?_eq_some_iff.1 e
   have hn:=sK xs (ck c) _ aj hb (by omega)
   rw[e1] at hn
   clear e1 aj
   cases p6:bP (ck c) (rk y) with
   | true=>rfl
   | false=>
    have he:=pi p6 hn
    exfalso
    cases hf:jy xs (ck c) with
    | true=>
     obtain ⟨hp,zM⟩:=sL hf
     rw[hf] at e
     simp only[if_true] at e
     obtain ⟨aj,e⟩:=List.getElem?_eq_some_iff.1 e
     have:=List.pairwise_iff_getElem.1 hb (pos xs (ck c)) (pos xs (ck c)+1+i) hp aj (by omega)
     rw[e,zM,he] at this
     rw[mU] at this;cases this
    | false=>
     rw[hf] at e
     simp only[Bool.false_eq_true,if_false,Nat.add_zero] at e
     obtain ⟨aj,e⟩:=List.getElem?_eq_some_iff.1 e
     have hp:pos xs (ck c) < xs.length:=by omega
     have xU:=sK xs (ck c) _ hp hb (Nat.le_refl _)
     have ey:rk xs[pos xs (ck c)]≠ck c:=fun e2=>by
      unfold jy at hf
      rw[List.getElem?_eq_getElem hp] at hf
      simp[e2] at hf
     have Kc:bP (ck c) (rk xs[pos xs (ck c)])=true:=by
      cases BF:bP (ck c) (rk xs[pos xs (ck c)]) with
      | true=>rfl
      | false=>exact absurd (pi BF xU).symm ey
     cases i with
     | zero=>
      simp only[Nat.add_zero] at e
      rw[e,<- he,mU] at Kc;cases Kc
     | succ i=>
      have:=List.pairwise_iff_getElem.1 hb (pos xs (ck c)) (pos xs (ck c)+(i+1)) hp aj (by omega)
      rw[e] at this
      have:=kW Kc this
      rw[<-he,mU] at this;cases this
  have IU:∀ a ∈ xs.take (pos xs (ck c)),∀ y ∈ xs.drop (pos xs (ck c)+if jy xs (ck c) then 1 else 0),bP (rk a) (rk y)=true:=fun a ha y hy=>kW (tZ ha) (IT y hy)
  cases hi:c.2.2.1 with
  | true=>
   have P5:=hk hi
   simp only[if_true]
   refine List.pairwise_append.2 ⟨List.pairwise_append.2 ⟨h1,List.pairwise_singleton _ _,fun a ha b hb=>?_⟩,ul _,fun a ha y hy=>?_⟩
   ·rw[List.mem_singleton] at hb;subst hb;rw[P5];exact tZ ha
   ·rcases List.mem_append.1 ha with ha | ha
    ·exact IU a ha y hy
    ·rw[List.mem_singleton] at ha;subst ha;rw[P5];exact IT y hy
  | false=>
   simp only[Bool.false_eq_true,if_false,List.append_nil]
   exact List.pairwise_append.2 ⟨h1,ul _,IU⟩
 ·intro x hx
  unfold lX at hx
  rcases List.mem_append.1 hx with hx | hx
  ·rcases List.mem_append.1 hx with hx | hx
   ·exact h.ok x (List.mem_of_mem_take hx)
   ·split at hx
    ·rename_i hi
     rw[List.mem_singleton] at hx
     rw[hx];exact hr hi
    ·cases hx
  ·exact h.ok x (List.mem_of_mem_drop hx)
theorem t7 (xs:List Row) (c:Change):(lX xs c).length<=xs.length+1:=by
 unfold lX
 rw[List.length_append,List.length_append,List.length_take,List.length_drop]
 have:(if c.2.2.1=true then [c.2.2.2.1] else []).length<=1:=by split <;> simp
 omega
def mV (i:Nat) (s:List Row) (c:Change):Sum (qj×Unit) (List Row):=if mw c=0 then (if nH s c then .inr (lX s c) else .inl ((8,[],()),())) else .inl ((mw c,[],()),())
def ry (s:List Row):qj×Unit:=if 60 < s.length then ((2,[],()),()) else ((0,s,()),())
def yI (xs:List Row) (cs:List Change):qj:=if lY xs=0 then (aU mV ry 0 cs xs).1 else (lY xs,[],())
theorem Kd (n i:Nat) (s s':List Row) (c:Change) (h:Good s/\s.length<=60+i) (hf:mV n s c=.inr s'):Good s'/\s'.length<=60+(i+1):=by
 unfold mV at hf
 split at hf
 ·rename_i hc
  split at hf
  ·injection hf with hf
   subst hf
   exact ⟨rX h.1 hc,by have:=t7 s c;omega⟩
  ·cases hf
 ·cases hf
theorem wz (xs:List Row) (h:xs.length<=1048576):d6.ab (xs,())=some (xs,()):=by
 refine ag (k:=0) fun k _=>(d6.aa k _).trans ?_
 show d6.p _=_
 unfold d6.p
 have c1:([]:List Row).length+xs.length<=bm:=cD (by simp only[List.length_nil];omega)
 exact ER (fun e=>by have e:xs=[]:=e;subst e;rfl) (by rw[if_pos c1];rfl)
theorem CU (xs:List Row) (cs:List Change) (hl:xs.length<=maxLen) (h:∀ x ∈ xs,rl x) (KN:cs.length<=1048576) (hc:∀ c ∈ cs,cl c):bX.ab (xs,cs,())=some (yI xs cs,()):=by
 refine ag (k:=cs.length+1) fun k hk=>(bX.aa k _).trans ?_
 unfold bX.p yI
 simp only[wy xs hl h,Option.bind_some]
 by_cases h0:lY xs=0
 ·obtain ⟨hg,hn⟩:=t6 h0
  simp only[h0,decide_true,Bool.not_true,cond_false,if_true,wz xs (by omega),Option.bind_some]
  exact br (B:=fun self v=>bX.B0 0 self (fun z=>bX.Q0 0 (xs,cs,()) z) (xs,cs,()) v) cs (fun (s:List Row) (i:Int)=>(s,i)) mV ry (fun i s=>Good s/\s.length<=60+i) (by rw[ah];omega)
   (fun i hi s self hI=>by
    show bX.b0 _ _ _ _=_
    unfold bX.b0 mV
    have aj:(i:Int) < (cs.length:Int):=by omega
    simp only[aj,decide_true,cond_true,Int.natCast_nonneg,if_true,Int.toNat_natCast,List.getElem?_eq_getElem hi,Option.bind_some,uw _ (hc _ (List.getElem_mem hi)),IK _ s hI.1.up (by omega),GF s _ hI.1.up (by omega)]
    by_cases h1:mw cs[i]=0
    ·simp only[h1,decide_true,Bool.not_true,cond_false,if_true]
     cases nH s cs[i] <;> rfl
    ·simp[h1]) (fun i hi s s' hI hf=>Kd _ i s s' _ hI hf) (fun s self hI=>by
    show bX.b0 _ _ _ _=_
    unfold bX.b0 ry
    have aj:¬ (cs.length:Int) < (cs.length:Int):=by omega
    simp only[aj,decide_false,cond_false,bX.Q0,bX.q0]
    rw[show (60:Int)=((60:Nat):Int) from rfl,Gz]
    by_cases h1:60 < s.length <;> simp[h1]) xs ⟨hg,by omega⟩ k (by omega)
 ·simp[h0];(try rfl)
end OT
set_option linter.unusedVariables false
set_option linter.unusedSimpArgs false
namespace OT
open Go
theorem CV {α β O:Type} [DecidableEq β] (g:α->Option β) (bad:O) (fin:Unit->O) (p:α->α->Bool) (hp:∀ x y,p x y=true↔∃ b,g x=some b/\g y=some b) (all:List α):∀ (xs pre:List α),all=pre++xs->(pre.filterMap g).Nodup->aU (fun i _ x=>if (all.take i).any (p x) then .inl bad else .inr ()) fin pre.length xs ()=if (all.filterMap g).Nodup then fin () else bad
 | [],pre,h,hn=>by
  rw[List.append_nil] at h
  subst h
  simp only[aU,hn,if_true]
 | x::xs,pre,h,hn=>by
  have ht:all.take pre.length=pre:=by rw[h];exact List.take_left
  simp only[aU,ht]
  have i_:all.filterMap g=pre.filterMap g++([x].filterMap g++xs.filterMap g):=by rw[h,<- List.singleton_append (x:=x),List.filterMap_append,List.filterMap_append]
  cases hc:pre.any (p x) with
  | true=>
   simp only[if_true]
   obtain ⟨y,hy,SW⟩:=List.any_eq_true.1 hc
   obtain ⟨b,h1,Y⟩:=(hp x y).1 SW
   rw[if_neg]
   intro lG
   rw[i_,List.nodup_append] at lG
   exact lG.2.2 b (List.mem_filterMap.2 ⟨y,hy,Y⟩) b (by simp[h1]) rfl
  | false=>
   simp only[Bool.false_eq_true,if_false]
   have:=CV g bad fin p hp all xs (pre++[x]) (by rw[h];simp) (by
    rw[List.filterMap_append,List.nodup_append]
    refine ⟨hn,?_,fun a ha b hb e=>?_⟩
    ·cases hg:g x with
     | none=>simp[hg]
     | some b=>simp[hg]
    ·subst e
     obtain ⟨y,hy,SX⟩:=List.mem_filterMap.1 ha
     obtain ⟨z,hz,SY⟩:=List.mem_filterMap.1 hb
     rw[List.mem_singleton] at hz
     subst hz
     have:pre.any (p z)=true:=List.any_eq_true.2 ⟨y,hy,(hp z y).2 ⟨a,SY,SX⟩⟩
     rw[this] at hc;cases hc)
   rw[List.length_append] at this
   exact this
theorem vA {α β O:Type} [DecidableEq β] (g:α->Option β) (bad:O) (fin:Unit->O) (p:α->α->Bool) (hp:∀ x y,p x y=true↔∃ b,g x=some b/\g y=some b) (xs:List α):aU (fun i _ x=>if (xs.take i).any (p x) then .inl bad else .inr ()) fin 0 xs ()=if (xs.filterMap g).Nodup then fin () else bad:=
 CV g bad fin p hp xs xs [] rfl List.nodup_nil
theorem uB {α:Type} {lt:α->α->Prop} (has:∀ a b,lt a b->¬ lt b a):∀ (xs ys:List α),xs.Perm ys->xs.Pairwise lt->ys.Pairwise lt->xs=ys
 | [],ys,h,_,_=>(List.nil_perm.1 h).symm
 | x::xs,[],h,_,_=>by have:=h.length_eq;cases this
 | x::xs,y::ys,h,h1,Y=>by
  obtain ⟨a1,a2⟩:=List.pairwise_cons.1 h1
  obtain ⟨b1,b2⟩:=List.pairwise_cons.1 Y
  by_cases pY:x=y
  ·subst pY
   rw[uB has xs ys ((List.perm_cons x).1 h) a2 b2]
  ·have hx:x ∈ ys:=by
    have:=h.mem_iff.1 (List.mem_cons_self (a:=x) (l:=xs))
    rcases List.mem_cons.1 this with e | e
    ·exact absurd e pY
    ·exact e
   have hy:y ∈ xs:=by
    have:=h.mem_iff.2 (List.mem_cons_self (a:=y) (l:=ys))
    rcases List.mem_cons.1 this with e | e
    ·exact absurd e.symm pY
    ·exact e
   exact absurd (b1 x hx) (has _ _ (a1 y hy))
theorem Ah (xs:List Row) (r:Row):(jJ xs r).Perm (r::xs):=by
 unfold jJ
 rw[List.append_assoc]
 have:=List.perm_middle (a:=r) (l₁:=xs.take (pos xs (rk r))) (l₂:=xs.drop (pos xs (rk r)))
 rw[List.take_append_drop] at this
 exact this
theorem EW {xs:List Row} {k:Int×Int} {x:Row} (hu:up xs) (h:x ∈ xs.drop (pos xs k)):bP (rk x) k=false:=by
 obtain ⟨i,hi,e⟩:=List.mem_iff_getElem.1 h
 rw[List.length_drop] at hi
 rw[List.getElem_drop] at e
 rw[<-e]
 exact sK xs k _ _ hu (by omega)
theorem Mj {xs:List Row} {r:Row} (hu:up xs) (hn:∀ x ∈ xs,rk x≠rk r):up (jJ xs r):=by
 unfold jJ up
 rw[List.append_assoc,List.pairwise_append]
 have hd:=hu.drop (i:=pos xs (rk r))
 refine ⟨hu.take,?_,fun a ha b hb=>?_⟩
 ·rw[List.singleton_append,List.pairwise_cons]
  refine ⟨fun b hb=>?_,hd⟩
  have h1:=EW hu hb
  have Y:=hn b (List.mem_of_mem_drop hb)
  cases h3:bP (rk r) (rk b) with
  | true=>rfl
  | false=>exact absurd (pi h1 h3) Y
 ·have h1:=tZ ha
  rw[List.singleton_append] at hb
  rcases List.mem_cons.1 hb with e | e
  ·subst e;exact h1
  ·have Y:=EW hu e
   have h3:=hn b (List.mem_of_mem_drop e)
   cases h4:bP (rk a) (rk b) with
   | true=>rfl
   | false=>
    cases h5:bP (rk b) (rk a) with
    | true=>rw[kW h5 h1] at Y;cases Y
    | false=>
     have:=pi h4 h5
     rw[this] at h1
     rw[h1] at Y;cases Y
def yJ (l:List Row):List Row:=l.foldl jJ []
theorem yK:∀ (l acc:List Row),(l.foldl jJ acc).Perm (l++acc)
 | [],acc=>List.Perm.refl _
 | r::l,acc=>by
  have h1:=yK l (jJ acc r)
  have Y:(l++jJ acc r).Perm (l++r::acc):=(List.Perm.refl l).append (Ah acc r)
  exact h1.trans (Y.trans List.perm_middle)
theorem GG (l:List Row):(yJ l).Perm l:=by
 have:=yK l []
 rw[List.append_nil] at this
 exact this
theorem CW:∀ (l acc:List Row),up acc->(l.map rk++acc.map rk).Nodup->up (l.foldl jJ acc)
 | [],acc,h,_=>h
 | r::l,acc,h,hn=>by
  simp only[List.map_cons,List.cons_append,List.nodup_cons,List.mem_append,not_or] at hn
  refine CW l (jJ acc r) (Mj h fun x hx e=>hn.1.2 (List.mem_map.2 ⟨x,hx,e⟩)) ?_
  have:(l.map rk++(jJ acc r).map rk).Perm (rk r::(l.map rk++acc.map rk)):=by
   refine ((List.Perm.refl _).append ((Ah acc r).map rk)).trans ?_
   rw[List.map_cons]
   exact List.perm_middle
  rw[this.nodup_iff,List.nodup_cons,List.mem_append,not_or]
  exact hn
theorem Ke {l:List Row} (h:(l.map rk).Nodup):up (yJ l):=CW l [] List.Pairwise.nil (by simpa using h)
theorem Kg {a b:Int×Int} (h:bP a b=true):¬ bP b a=true:=by rw[IH h];exact fun h=>by cases h
theorem Kh {xs:List Row} (h:up xs):(xs.map rk).Nodup:=by
 unfold List.Nodup
 rw[List.pairwise_map]
 refine h.imp fun h1 e=>?_
 rw[e,mU] at h1
 cases h1
end OT
set_option linter.unusedVariables false
set_option linter.unusedSimpArgs false
namespace OT
open Go
abbrev fS:Type:=List (List UInt8)
def vB {α β:Type} (g:Nat->α->List β):Nat->List α->List β
 | _,[]=>[]
 | i,x::xs=>g i x++vB g (i+1) xs
theorem vC {O α β:Type} (g:Nat->α->List β) (fin:List β->O):∀ (xs:List α) (i:Nat) (s:List β),aU (fun i s x=>.inr (s++g i x)) fin i xs s=fin (s++vB g i xs)
 | [],_,s=>by simp[aU,vB]
 | x::xs,i,s=>by simp only[aU,vB];rw[vC g fin xs (i+1)];simp[List.append_assoc]
theorem EX {α β:Type} {g:Nat->α->List β} {n:Nat}:∀ (xs:List α) (i:Nat),(∀ i x,x ∈ xs->(g i x).length<=n)->(vB g i xs).length<=n*xs.length
 | [],_,_=>by simp[vB]
 | x::xs,i,h=>by
  have h1:=h i x List.mem_cons_self
  have Y:=EX xs (i+1) fun i y hy=>h i y (List.mem_cons_of_mem _ hy)
  simp only[vB,List.length_append,List.length_cons,Nat.mul_add]
  omega
theorem EY {α β:Type} {g:Nat->α->List β} {y:β}:∀ {xs:List α} {i:Nat},y ∈ vB g i xs↔∃ (j:Nat) (x:α),xs[j]?=some x/\y ∈ g (i+j) x
 | [],i=>by simp[vB]
 | x::xs,i=>by
  simp only[vB,List.mem_append,EY (xs:=xs)]
  constructor
  ·rintro (h | ⟨j,z,h1,Y⟩)
   ·exact ⟨0,x,rfl,h⟩
   ·exact ⟨j+1,z,h1,by rw[show i+(j+1)=i+1+j by omega];exact Y⟩
  ·rintro ⟨j,z,h1,Y⟩
   cases j with
   | zero=>injection h1 with h1;subst h1;exact .inl Y
   | succ j=>exact .inr ⟨j,z,h1,by rw[show i+1+j=i+(j+1) by omega];exact Y⟩
def cS (x:ax):Int:=x.2.2.1.2.1
def iZ (x:ax):Int:=x.2.2.1.2.2.1
def i6 (x:ax):Int:=x.2.2.1.2.2.2.1
def fT (x:ax):Row:=x.2.2.1.2.2.2.2.1
def kA (P:Nat) (p:List UInt8) (s:Nat):List ax:=if aM p s=0 then [] else [((P:Int),(s:Int),(cR (ep p s)).1,())]
def mo (P:Nat) (p:List UInt8):List ax:=(List.range (pn p)).flatMap (kA P p)
def aR (ps:fS):List ax:=vB mo 0 ps
def iA (ps:fS) (a b:Int):kM×Bool:=match ps[a.toNat]? with
 | some p=>if b.toNat < pn p/\aM p b.toNat≠0 then cR (ep p b.toNat) else (wk,false)
 | none=>(wk,false)
def nC (p:List UInt8) (s:Nat):Bool:=decide (aM p s=0)||(cR (ep p s)).2
def oQ (p:List UInt8):Int:=if oP p=0 then (if (List.range (pn p)).all (nC p) then 0 else 5) else oP p
def kw (ps:fS) (x:ax):Bool:=!decide (cS x=1)||((iA ps (iZ x) (i6 x)).2&&decide ((iA ps (iZ x) (i6 x)).1.2.1=2))
def oR (x:ax):Option (Int×Int):=if cS x=1 then some (iZ x,i6 x) else none
def EZ (x:ax) (r:Row):ax:=(x.1,x.2.1,(x.2.2.1.1,x.2.2.1.2.1,x.2.2.1.2.2.1,x.2.2.1.2.2.2.1,r,x.2.2.1.2.2.2.2.2),x.2.2.2)
def qt (ps:fS) (x:ax):ax:=if cS x=1 then EZ x (iA ps (iZ x) (i6 x)).1.2.2.2.2.1 else x
def kX (ps:fS) (x:ax):List ax:=if cS x=2 then [] else [qt ps x]
def iU (ps:fS):List ax:=(aR ps).flatMap (kX ps)
def t8 (ps:fS):Int:=
 if (aR ps).all (kw ps) then
  if ((aR ps).filterMap oR).Nodup then (if ((iU ps).map fun x=>rk (fT x)).Nodup then 0 else 8) else 6
 else 4
def jU (ps:fS):Int:=if 12 < ps.length then 2 else if ig oQ ps=0 then t8 ps else ig oQ ps
def mW (ps:fS):Prop:=ps.length<=12/\∀ p ∈ ps,kV p
theorem yL {p:List UInt8} (h:oQ p=0):kV p/\∀ s,s < pn p->aM p s≠0->(cR (ep p s)).2=true:=by
 unfold oQ at h
 split at h
 ·rename_i h1
  split at h
  ·rename_i Y
   refine ⟨vx.1 h1,fun s hs hz=>?_⟩
   have:=List.all_eq_true.1 Y s (List.mem_range.2 hs)
   simpa [nC,hz] using this
  ·cases h
 ·rename_i h1;exact absurd h h1
theorem oS {α:Type} {c:α->Int}:∀ {xs:List α},ig c xs=0->∀ x ∈ xs,c x=0
 | [],_,_,hx=>by cases hx
 | y::xs,h,x,hx=>by
  simp only[ig] at h
  split at h
  ·rename_i hy
   rcases List.mem_cons.1 hx with rfl | hx
   ·exact hy
   ·exact oS h x hx
  ·rename_i hy;exact absurd h hy
theorem qu {ps:fS} (h:jU ps=0):mW ps/\ig oQ ps=0/\t8 ps=0:=by
 unfold jU at h
 split at h
 ·cases h
 ·rename_i h1
  split at h
  ·rename_i Y
   exact ⟨⟨by omega,fun p hp=>(yL (oS Y p hp)).1⟩,Y,h⟩
  ·rename_i Y;exact absurd h Y
theorem so {p:List UInt8} (h:kV p) (P:Nat):(mo P p).length<=16:=by
 have:∀ n,((List.range n).flatMap (kA P p)).length<=n:=by
  intro n
  induction n with
  | zero=>simp
  | succ n ih=>
   rw[List.range_succ,List.flatMap_append,List.length_append]
   have:(([n]:List Nat).flatMap (kA P p)).length<=1:=by
    simp only[List.flatMap_cons,List.flatMap_nil,List.append_nil,kA]
    split <;> simp
   omega
 have h1:=this (pn p)
 have Y:=h.n
 unfold mo;omega
theorem rY {ps:fS} (h:mW ps):(aR ps).length<=192:=by
 have:=EX (g:=mo) (n:=16) ps 0 fun i p hp=>so (h.2 p hp) i
 unfold aR;have:=h.1;omega
theorem t_ {ps:fS} (h:mW ps):(iU ps).length<=192:=by
 have:∀ xs:List ax,(xs.flatMap (kX ps)).length<=xs.length:=by
  intro xs
  induction xs with
  | nil=>simp
  | cons x xs ih=>
   have:(kX ps x).length<=1:=by unfold kX;split <;> simp
   simp only[List.flatMap_cons,List.length_append,List.length_cons];omega
 have h1:=this (aR ps)
 have Y:=rY h
 unfold iU;omega
theorem CX (d:List UInt8):0<=(cR d).1.2.2.1/\0<=(cR d).1.2.2.2.1:=by
 unfold cR
 split
 ·exact ⟨Int.natCast_nonneg _,Int.natCast_nonneg _⟩
 ·split
  ·exact ⟨Int.le_refl _,Int.le_refl _⟩
  ·exact ⟨Int.le_refl _,Int.le_refl _⟩
theorem rz {ps:fS} {x:ax}:x ∈ aR ps↔∃ (P:Nat) (p:List UInt8) (s:Nat),ps[P]?=some p/\s < pn p/\aM p s≠0/\x=((P:Int),(s:Int),(cR (ep p s)).1,()):=by
 unfold aR
 rw[EY]
 constructor
 ·rintro ⟨j,p,h1,Y⟩
  obtain ⟨s,h3,h4⟩:=List.mem_flatMap.1 Y
  unfold kA at h4
  split at h4
  ·cases h4
  ·rename_i hz
   rw[List.mem_singleton] at h4
   rw[Nat.zero_add] at h4
   exact ⟨j,p,s,h1,List.mem_range.1 h3,hz,h4⟩
 ·rintro ⟨P,p,s,h1,Y,h3,rfl⟩
  refine ⟨P,p,h1,List.mem_flatMap.2 ⟨s,List.mem_range.2 Y,?_⟩⟩
  unfold kA
  rw[if_neg h3,Nat.zero_add]
  exact List.mem_singleton.2 rfl
theorem py {ps:fS} {x:ax} (h:x ∈ aR ps):0<=iZ x/\0<=i6 x:=by
 obtain ⟨P,p,s,_,_,_,rfl⟩:=rz.1 h
 exact CX _
theorem vD (ps:fS) (h:mW ps):bJ.ab (ps,())=some (aR ps,()):=by
 obtain ⟨hl,hp⟩:=h
 refine ag (k:=100) fun k hk=>(bJ.aa k _).trans ?_
 have inner:∀ (self:(fS×(List ax)×Int)->Option bJ.Out) (e0:(List ax)->Option bJ.Out) (i:Nat) (hi:i < ps.length) (s:List ax),s.length<=1000->bJ.r1 k self e0 (ps,()) ps (i:Int) (s,(0:Int))=self (ps,s++mo i ps[i],ae ((i:Int)+1)):=fun self e0 i hi s0 PH=>by
  have aA:=hp _ (List.getElem_mem hi)
  have hn:=aA.n
  have hlen:=aA.len
  have:=qs (B:=fun cg v=>bJ.B1 k cg (fun z=>bJ.Q0 k self e0 (ps,()) ps (i:Int) z) (ps,()) ps (i:Int) v) (pn ps[i]) (fun (s:List ax) (j:Int)=>(s,j)) (fun j s=>.inr (s++kA i ps[i] j)) (fun s=>self (ps,s,ae ((i:Int)+1))) (fun j s=>s.length<=1000+j) (by omega)
   (fun j hj s cg hI=>by
    show bJ.b1 _ _ _ _ _ _=_
    unfold bJ.b1 kA
    have aj:(j:Int) < (pn ps[i]:Int):=by omega
    simp only[Int.natCast_nonneg,if_true,Int.toNat_natCast,List.getElem?_eq_getElem hi,Option.bind_some,oh hlen,aj,decide_true,cond_true,mT hlen (show j < 16 by omega)]
    by_cases hz:aM ps[i] j=0
    ·have:¬ ((0:Int) < (aM ps[i] j:Int)):=by omega
     rw[decide_eq_false this]
     simp only[cond_false,hz,if_true,List.append_nil]
    ·have:((0:Int) < (aM ps[i] j:Int)):=by omega
     rw[decide_eq_true this]
     simp only[cond_true,pV aA hj,ru _ (Nat.le_trans (nB aA hj) (by omega)),Option.bind_some,hz,if_false]
     rw[if_pos (cD (by simp only[List.length_cons,List.length_nil];omega))])
   (fun j hj s s' hI hf=>by
    injection hf with hf
    subst hf
    have:(kA i ps[i] j).length<=1:=by unfold kA;split <;> simp
    rw[List.length_append];omega) (fun s cg hI=>by
    show bJ.b1 _ _ _ _ _ _=_
    unfold bJ.b1
    simp only[Int.natCast_nonneg,if_true,Int.toNat_natCast,List.getElem?_eq_getElem hi,Option.bind_some,oh hlen,Int.lt_irrefl,decide_false,cond_false]
    rfl) s0 (by omega) k (by omega)
  rw[tW (kA i ps[i])] at this
  exact this
 have:=bE (B:=fun self v=>bJ.B0 k self (fun z=>bJ.Q1 k (ps,()) z) (ps,()) v) ps (fun (s:List ax) (i:Int)=>(ps,s,i)) (fun i s p=>.inr (s++mo i p)) (fun s=>some (s,())) (fun i s=>s.length<=16*i) (by rw[ah];omega)
  (fun i hi s self hI=>by
   show bJ.b0 _ _ _ _ _=_
   unfold bJ.b0
   have aj:(i:Int) < (ps.length:Int):=by omega
   simp only[aj,decide_true,cond_true,inner self _ i hi s (by omega)])
  (fun i hi s s' hI hf=>by
   injection hf with hf
   subst hf
   have:=so (hp _ (List.getElem_mem hi)) i
   rw[List.length_append];omega) (fun s self _=>by
   show bJ.b0 _ _ _ _ _=_
   unfold bJ.b0
   simp only[Int.lt_irrefl,decide_false,cond_false]
   rfl) [] (by simp) k (by omega)
 rw[vC] at this
 exact this
theorem CY (ps:fS) (hl:ps.length<=12) (hp:∀ p ∈ ps,p.length<=maxLen):ci.ab (ps,())=some (ig oQ ps,()):=by
 refine ag (k:=100) fun k hk=>(ci.aa k _).trans ?_
 have inner:∀ (self:(fS×Int)->Option ci.Out) (e0:Unit->Option ci.Out) (i:Nat) (hi:i < ps.length),kV ps[i]->ci.r1 k self e0 (ps,()) ps (i:Int) (0:Int)=if (List.range (pn ps[i])).all (nC ps[i]) then self (ps,ae ((i:Int)+1)) else some ((5:Int),()):=fun self e0 i hi aA=>by
  have hn:=aA.n
  have hlen:=aA.len
  have:=qs (B:=fun cg v=>ci.B1 k cg (fun z=>ci.Q0 k self e0 (ps,()) ps (i:Int) z) (ps,()) ps (i:Int) v) (pn ps[i]) (fun (_:Unit) (j:Int)=>j) (fun j _=>if nC ps[i] j then .inr () else .inl (some ((5:Int),()))) (fun s=>self (ps,ae ((i:Int)+1))) (fun _ _=>True) (by omega)
   (fun j hj s cg hI=>by
    show ci.b1 _ _ _ _ _ _=_
    unfold ci.b1 nC
    have aj:(j:Int) < (pn ps[i]:Int):=by omega
    simp only[Int.natCast_nonneg,if_true,Int.toNat_natCast,List.getElem?_eq_getElem hi,Option.bind_some,oh hlen,aj,decide_true,cond_true,mT hlen (show j < 16 by omega)]
    by_cases hz:aM ps[i] j=0
    ·have:¬ ((0:Int) < (aM ps[i] j:Int)):=by omega
     rw[decide_eq_false this]
     simp only[cond_false,hz,decide_true,Bool.true_or,if_true]
    ·have:((0:Int) < (aM ps[i] j:Int)):=by omega
     rw[decide_eq_true this]
     simp only[cond_true,pV aA hj,ru _ (Nat.le_trans (nB aA hj) (by omega)),Option.bind_some,hz,decide_false,Bool.false_or]
     cases (cR (ep ps[i] j)).2 <;> rfl)
   (fun _ _ _ _ _ _=>trivial) (fun s cg hI=>by
    show ci.b1 _ _ _ _ _ _=_
    unfold ci.b1
    simp only[Int.natCast_nonneg,if_true,Int.toNat_natCast,List.getElem?_eq_getElem hi,Option.bind_some,oh hlen,Int.lt_irrefl,decide_false,cond_false]
    rfl) () trivial k (by omega)
  rw[mn] at this
  exact this
 have:=bE (B:=fun self v=>ci.B0 k self (fun z=>ci.Q1 k (ps,()) z) (ps,()) v) ps (fun (_:Unit) (i:Int)=>(ps,i)) (fun i _ p=>if oQ p=0 then .inr () else .inl (some (oQ p,()))) (fun _=>some ((0:Int),())) (fun _ _=>True) (by rw[ah];omega)
  (fun i hi s self hI=>by
   show ci.b0 _ _ _ _ _=_
   unfold ci.b0 oQ
   have aj:(i:Int) < (ps.length:Int):=by omega
   simp only[aj,decide_true,cond_true,Int.natCast_nonneg,if_true,Int.toNat_natCast,List.getElem?_eq_getElem hi,Option.bind_some,DY _ (hp _ (List.getElem_mem hi))]
   by_cases h0:oP ps[i]=0
   ·rw[decide_eq_true h0]
    simp only[Bool.not_true,cond_false,inner self _ i hi (vx.1 h0),h0,if_true]
    by_cases hc:(List.range (pn ps[i])).all (nC ps[i])=true
    ·simp only[hc,if_true]
    ·simp only[hc,Bool.false_eq_true,if_false]
     rfl
   ·rw[decide_eq_false h0]
    simp only[Bool.not_false,cond_true,h0,if_false])
  (fun _ _ _ _ _ _=>trivial) (fun s self _=>by
   show ci.b0 _ _ _ _ _=_
   unfold ci.b0
   simp only[Int.lt_irrefl,decide_false,cond_false]
   rfl) () trivial k (by omega)
 rw[qi oQ (fun c=>some (c,())) (fun _=>some ((0:Int),()))] at this
 refine Eq.trans this ?_
 split
 ·rename_i h;rw[h]
 ·rfl
theorem vE (ps:fS) (h:mW ps) (a b:Int) (ha:0<=a) (hb:0<=b):fP.ab (ps,a,b,())=some ((iA ps a b).1,(iA ps a b).2,()):=by
 obtain ⟨hl,hp⟩:=h
 obtain ⟨a,rfl⟩:=Int.eq_ofNat_of_zero_le ha
 obtain ⟨b,rfl⟩:=Int.eq_ofNat_of_zero_le hb
 refine ag (k:=0) fun k hk=>(fP.aa k _).trans ?_
 show fP.p _=_
 unfold fP.p iA
 have hw:ae ((ps.length:Int) - 1)=(ps.length:Int) - 1:=aP (by omega)
 have h0:decide ((0:Int)<=(a:Int))=true:=decide_eq_true (by omega)
 have h1:decide ((a:Int)<=(ps.length:Int) - 1)=decide (a < ps.length):=by rw[decide_eq_decide];omega
 simp only[iQ,hw,h0,h1,Option.bind_some,Bool.true_and,Int.toNat_natCast]
 by_cases Lx:a < ps.length
 rotate_left
 ·rw[decide_eq_false Lx,List.getElem?_eq_none (by omega)]
  rfl
 rw[decide_eq_true Lx]
 have aA:=hp _ (List.getElem_mem Lx)
 simp only[Bool.not_true,cond_false,Int.natCast_nonneg,if_true,List.getElem?_eq_getElem Lx,Option.bind_some,GE aA]
 by_cases hc:b < pn ps[a]/\aM ps[a] b≠0
 ·rw[decide_eq_true hc.1,decide_eq_false hc.2,if_pos hc]
  simp only[Bool.not_false,Bool.and_self,Bool.not_true,cond_false,pV aA hc.1,ru _ (Nat.le_trans (nB aA hc.1) (by omega)),Option.bind_some]
 ·rw[if_neg hc]
  have:(decide (b < pn ps[a])&&!decide (aM ps[a] b=0))=false:=by
   rw[Bool.and_eq_false_iff]
   by_cases Y:b < pn ps[a]
   ·right
    have:aM ps[a] b=0:=by
     by_cases h3:aM ps[a] b=0
     ·exact h3
     ·exact absurd ⟨Y,h3⟩ hc
    rw[decide_eq_true this];rfl
   ·left;exact decide_eq_false Y
  rw[this]
  rfl
theorem CZ (ps:fS) (h:mW ps):bc.ab (aR ps,ps,())=some (if (aR ps).all (kw ps) then (if ((aR ps).filterMap oR).Nodup then 0 else 6) else 4,()):=by
 have hK:=rY h
 have vz:∀ x ∈ aR ps,0<=iZ x/\0<=i6 x:=fun x hx=>py hx
 generalize aR ps=xs at hK vz ⊢
 refine ag (k:=300) fun k hk=>(bc.aa k _).trans ?_
 have inner:∀ (self:(List ax×Int)->Option bc.Out) (e2:Unit->Option bc.Out) (i:Nat) (hi:i < xs.length),bc.r2 k self e2 (xs,ps,()) xs (i:Int) (0:Int)=if (xs.take i).any (fun y=>decide (cS xs[i]=1)&&(decide (cS y=1)&&(decide (iZ xs[i]=iZ y)&&decide (i6 xs[i]=i6 y)))) then some ((6:Int),()) else self (xs,ae ((i:Int)+1)):=fun self e2 i hi=>by
  have eo:(xs.take i).length=i:=by rw[List.length_take];omega
  have:=bE (B:=fun cg v=>bc.B2 k cg (fun z=>bc.Q1 k self e2 (xs,ps,()) xs (i:Int) z) (xs,ps,()) xs (i:Int) v) (xs.take i) (fun (_:Unit) (j:Int)=>j) (fun _ _ y=>if decide (cS xs[i]=1)&&(decide (cS y=1)&&(decide (iZ xs[i]=iZ y)&&decide (i6 xs[i]=i6 y))) then .inl (some ((6:Int),())) else .inr ()) (fun _=>self (xs,ae ((i:Int)+1))) (fun _ _=>True) (by rw[ah];omega)
   (fun j hj s cg _=>by
    have fZ:j < i:=by omega
    have H9:j < xs.length:=by omega
    show bc.b2 _ _ _ _ _ _=_
    unfold bc.b2
    have aj:(j:Int) < (i:Int):=by omega
    have hg:(xs.take i)[j]=xs[j]:=List.getElem_take
    rw[hg]
    simp only[aj,decide_true,cond_true,Int.natCast_nonneg,if_true,Int.toNat_natCast,List.getElem?_eq_getElem hi,List.getElem?_eq_getElem H9,Option.bind_some]
    show (bif decide (cS xs[i]=1) then bif decide (cS xs[j]=1) then bif decide (iZ xs[i]=iZ xs[j]) then bif decide (i6 xs[i]=i6 xs[j]) then _ else _ else _ else _ else _)=_
    cases decide (cS xs[i]=1) <;> cases decide (cS xs[j]=1) <;> cases decide (iZ xs[i]=iZ xs[j]) <;> cases decide (i6 xs[i]=i6 xs[j]) <;> rfl)
   (fun _ _ _ _ _ _=>trivial) (fun s cg _=>by
    rw[eo]
    show bc.b2 _ _ _ _ _ _=_
    unfold bc.b2
    simp only[Int.lt_irrefl,decide_false,cond_false]
    rfl) () trivial k (by omega)
  rw[ph] at this
  exact this
 have second:bc.r1 k (xs,ps,()) (xs,(0:Int))=if (xs.filterMap oR).Nodup then some ((0:Int),()) else some ((6:Int),()):=by
  have:=bE (B:=fun self v=>bc.B1 k self (fun z=>bc.Q2 k (xs,ps,()) z) (xs,ps,()) v) xs (fun (_:Unit) (i:Int)=>(xs,i)) (fun i _ x=>if (xs.take i).any (fun y=>decide (cS x=1)&&(decide (cS y=1)&&(decide (iZ x=iZ y)&&decide (i6 x=i6 y)))) then .inl (some ((6:Int),())) else .inr ()) (fun _=>some ((0:Int),())) (fun _ _=>True) (by rw[ah];omega)
   (fun i hi s self _=>by
    show bc.b1 _ _ _ _ _=_
    unfold bc.b1
    have aj:(i:Int) < (xs.length:Int):=by omega
    simp only[aj,decide_true,cond_true,inner self _ i hi]
    split <;> rfl)
   (fun _ _ _ _ _ _=>trivial) (fun s self _=>by
    show bc.b1 _ _ _ _ _=_
    unfold bc.b1
    simp only[Int.lt_irrefl,decide_false,cond_false]
    rfl) () trivial k (by omega)
  rw[vA oR (some ((6:Int),())) (fun _=>some ((0:Int),())) (fun x y=>decide (cS x=1)&&(decide (cS y=1)&&(decide (iZ x=iZ y)&&decide (i6 x=i6 y)))) (fun x y=>?_) xs] at this
  ·exact this
  ·unfold oR
   simp only[Bool.and_eq_true,decide_eq_true_eq]
   constructor
   ·rintro ⟨h1,Y,h3,h4⟩
    exact ⟨(iZ x,i6 x),by rw[if_pos h1],by rw[if_pos Y,h3,h4]⟩
   ·rintro ⟨b,h1,Y⟩
    by_cases c1:cS x=1
    ·by_cases c2:cS y=1
     ·rw[if_pos c1] at h1
      rw[if_pos c2] at Y
      injection h1 with h1
      injection Y with Y
      rw[<-Y] at h1
      injection h1 with h3 h4
      exact ⟨c1,c2,h3,h4⟩
     ·rw[if_neg c2] at Y;cases Y
    ·rw[if_neg c1] at h1;cases h1
 have:=bE (B:=fun self v=>bc.B0 k self (fun z=>bc.Q0 k (xs,ps,()) z) (xs,ps,()) v) xs (fun (_:Unit) (i:Int)=>i) (fun i _ x=>if kw ps x then .inr () else .inl (some ((4:Int),()))) (fun _=>bc.r1 k (xs,ps,()) (xs,(0:Int))) (fun _ _=>True) (by rw[ah];omega)
  (fun i hi s self _=>by
   show bc.b0 _ _ _ _=_
   unfold bc.b0 kw
   have aj:(i:Int) < (xs.length:Int):=by omega
   obtain ⟨g1,g2⟩:=vz _ (List.getElem_mem hi)
   have yn:fP.ab (ps,(xs[i]).2.2.1.2.2.1,(xs[i]).2.2.1.2.2.2.1,())=some ((iA ps (iZ xs[i]) (i6 xs[i])).1,(iA ps (iZ xs[i]) (i6 xs[i])).2,()):=vE ps h _ _ g1 g2
   simp only[aj,decide_true,cond_true,Int.natCast_nonneg,if_true,Int.toNat_natCast,List.getElem?_eq_getElem hi,Option.bind_some,yn]
   show (bif !decide (cS xs[i]=1) then _ else _)=_
   cases decide (cS xs[i]=1) <;> cases (iA ps (iZ xs[i]) (i6 xs[i])).2 <;> cases decide ((iA ps (iZ xs[i]) (i6 xs[i])).1.2.1=2) <;> rfl)
  (fun _ _ _ _ _ _=>trivial) (fun s self _=>by
   show bc.b0 _ _ _ _=_
   unfold bc.b0
   simp only[Int.lt_irrefl,decide_false,cond_false]
   rfl) () trivial k (by omega)
 rw[kL (kw ps) (some ((4:Int),())) (fun _=>bc.r1 k (xs,ps,()) (xs,(0:Int)))] at this
 refine Eq.trans this ?_
 rw[second]
 split
 ·split <;> rfl
 ·rfl
theorem wA (ps:fS) (h:mW ps):ek.ab (ps,())=some (iU ps,()):=by
 refine ag (k:=300) fun k hk=>(ek.aa k _).trans ?_
 unfold ek.p
 rw[vD ps h]
 simp only[Option.bind_some]
 have hK:=rY h
 have vz:∀ x ∈ aR ps,0<=iZ x/\0<=i6 x:=fun x hx=>py hx
 unfold iU
 generalize aR ps=xs at hK vz ⊢
 have:=bE (B:=fun self v=>ek.B0 k self (fun z=>ek.Q0 k (ps,()) xs z) (ps,()) xs v) xs (fun (s:List ax) (i:Int)=>(s,i)) (fun i s x=>.inr (s++kX ps x)) (fun s=>some (s,())) (fun i s=>s.length<=i) (by rw[ah];omega)
  (fun i hi s self hI=>by
   show ek.b0 _ _ _ _ _=_
   unfold ek.b0 kX
   have aj:(i:Int) < (xs.length:Int):=by omega
   obtain ⟨g1,g2⟩:=vz _ (List.getElem_mem hi)
   have yn:fP.ab (ps,(xs[i]).2.2.1.2.2.1,(xs[i]).2.2.1.2.2.2.1,())=some ((iA ps (iZ xs[i]) (i6 xs[i])).1,(iA ps (iZ xs[i]) (i6 xs[i])).2,()):=vE ps h _ _ g1 g2
   have km:∀ y:ax,s.length+[y].length<=bm:=fun y=>cD (by simp only[List.length_cons,List.length_nil];omega)
   simp only[aj,decide_true,cond_true,Int.natCast_nonneg,and_self,if_true,Int.toNat_natCast,List.getElem?_eq_getElem hi,Option.bind_some,yn,km]
   show (bif decide (cS xs[i]=2) then _ else bif decide (cS xs[i]=1) then _ else _)=_
   unfold qt
   by_cases c2:cS xs[i]=2
   ·simp only[c2,decide_true,cond_true,if_true,List.append_nil]
   ·by_cases c1:cS xs[i]=1
    ·simp only[c1,c2,decide_true,decide_false,cond_true,cond_false,if_true,if_false]
     rfl
    ·simp only[c1,c2,decide_false,cond_false,if_false])
  (fun i hi s s' hI hf=>by
   injection hf with hf
   subst hf
   have:(kX ps xs[i]).length<=1:=by unfold kX;split <;> simp
   rw[List.length_append];omega) (fun s self _=>by
   show ek.b0 _ _ _ _ _=_
   unfold ek.b0
   simp only[Int.lt_irrefl,decide_false,cond_false]
   rfl) [] (by simp) k (by omega)
 rw[tW (kX ps)] at this
 exact this
def GH (x:ax):Option (Int×Int):=some (rk (fT x))
theorem D2 (ps:fS) (hp:∀ p ∈ ps,p.length<=maxLen):bV.ab (ps,())=some (jU ps,()):=by
 refine ag (k:=300) fun k hk=>(bV.aa k _).trans ?_
 unfold bV.p jU
 by_cases hl:12 < ps.length
 ·have:(12:Int) < (ps.length:Int):=by omega
  simp only[this,decide_true,cond_true,hl,if_true]
 have gE:¬ ((12:Int) < (ps.length:Int)):=by omega
 simp only[gE,decide_false,cond_false,hl,if_false,CY ps (by omega) hp,Option.bind_some]
 by_cases hc:ig oQ ps=0
 rotate_left
 ·simp only[hc,decide_false,Bool.not_false,cond_true,if_false]
 have h:mW ps:=⟨by omega,fun p hp=>(yL (oS hc p hp)).1⟩
 simp only[hc,decide_true,Bool.not_true,cond_false,if_true,vD ps h,CZ ps h,wA ps h,Option.bind_some]
 unfold t8
 by_cases h1:(aR ps).all (kw ps)=true
 rotate_left
 ·simp only[h1,Bool.false_eq_true,if_false]
  rfl
 by_cases Y:((aR ps).filterMap oR).Nodup
 rotate_left
 ·simp only[h1,Y,if_true,if_false]
  rfl
 simp only[h1,Y,if_true,decide_true,Bool.not_true,cond_false]
 have hK:=t_ h
 generalize iU ps=xs at hK ⊢
 have inner:∀ (self:(List ax×Int)->Option bV.Out) (e0:Unit->Option bV.Out) (i:Nat) (hi:i < xs.length),bV.r1 k self e0 (ps,()) xs (i:Int) (0:Int)=if (xs.take i).any (fun y=>decide ((fT xs[i]).1=(fT y).1)&&decide ((fT xs[i]).2.1=(fT y).2.1)) then some ((8:Int),()) else self (xs,ae ((i:Int)+1)):=fun self e0 i hi=>by
  have eo:(xs.take i).length=i:=by rw[List.length_take];omega
  have:=bE (B:=fun cg v=>bV.B1 k cg (fun z=>bV.Q0 k self e0 (ps,()) xs (i:Int) z) (ps,()) xs (i:Int) v) (xs.take i) (fun (_:Unit) (j:Int)=>j) (fun _ _ y=>if decide ((fT xs[i]).1=(fT y).1)&&decide ((fT xs[i]).2.1=(fT y).2.1) then .inl (some ((8:Int),())) else .inr ()) (fun _=>self (xs,ae ((i:Int)+1))) (fun _ _=>True) (by rw[ah];omega)
   (fun j hj s cg _=>by
    have fZ:j < i:=by omega
    have H9:j < xs.length:=by omega
    show bV.b1 _ _ _ _ _ _=_
    unfold bV.b1
    have aj:(j:Int) < (i:Int):=by omega
    have QW:(i:Int) < (xs.length:Int):=by omega
    have lV:(j:Int) < (xs.length:Int):=by omega
    have hg:(xs.take i)[j]=xs[j]:=List.getElem_take
    rw[hg]
    simp only[aj,QW,lV,decide_true,cond_true,Int.natCast_nonneg,and_self,if_true,Int.toNat_natCast,List.getElem?_eq_getElem hi,List.getElem?_eq_getElem H9,Option.bind_some]
    show (bif decide ((fT xs[i]).1=(fT xs[j]).1) then bif decide ((fT xs[i]).2.1=(fT xs[j]).2.1) then _ else _ else _)=_
    cases decide ((fT xs[i]).1=(fT xs[j]).1) <;> cases decide ((fT xs[i]).2.1=(fT xs[j]).2.1) <;> rfl)
   (fun _ _ _ _ _ _=>trivial) (fun s cg _=>by
    rw[eo]
    show bV.b1 _ _ _ _ _ _=_
    unfold bV.b1
    simp only[Int.lt_irrefl,decide_false,cond_false]
    rfl) () trivial k (by omega)
  rw[ph] at this
  exact this
 have:=bE (B:=fun self v=>bV.B0 k self (fun z=>bV.Q1 k (ps,()) z) (ps,()) v) xs (fun (_:Unit) (i:Int)=>(xs,i)) (fun i _ x=>if (xs.take i).any (fun y=>decide ((fT x).1=(fT y).1)&&decide ((fT x).2.1=(fT y).2.1)) then .inl (some ((8:Int),())) else .inr ()) (fun _=>some ((0:Int),())) (fun _ _=>True) (by rw[ah];omega)
  (fun i hi s self _=>by
   show bV.b0 _ _ _ _ _=_
   unfold bV.b0
   have aj:(i:Int) < (xs.length:Int):=by omega
   simp only[aj,decide_true,cond_true,inner self _ i hi]
   split <;> rfl)
  (fun _ _ _ _ _ _=>trivial) (fun s self _=>by
   show bV.b0 _ _ _ _ _=_
   unfold bV.b0
   simp only[Int.lt_irrefl,decide_false,cond_false]
   rfl) () trivial k (by omega)
 rw[vA GH (some ((8:Int),())) (fun _=>some ((0:Int),())) (fun x y=>decide ((fT x).1=(fT y).1)&&decide ((fT x).2.1=(fT y).2.1)) (fun x y=>?_) xs] at this
 ·refine Eq.trans this ?_
  have:xs.filterMap GH=xs.map fun x=>rk (fT x):=by
   unfold GH
   rw[<-List.filterMap_eq_map]
   rfl
  rw[this]
  split <;> rfl
 ·unfold GH rk
  simp only[Bool.and_eq_true,decide_eq_true_eq]
  constructor
  ·rintro ⟨h1,Y⟩;exact ⟨_,rfl,by rw[h1,Y]⟩
  ·rintro ⟨b,h1,Y⟩
   injection h1 with h1
   injection Y with Y
   rw[<-Y] at h1
   injection h1 with h3 h4
   exact ⟨h3,h4⟩
end OT
set_option linter.unusedVariables false
set_option linter.unusedSimpArgs false
namespace OT
open Go Go.Sort
abbrev oT:Ty:=.arr 2 i64
theorem sM (a b c d:Int):Ty.eq oT [a,b] [c,d]=(decide (a=c)&&decide (b=d)):=by
 show ([(a,c),(b,d)]:List (Int×Int)).all (fun p=>Ty.eq i64 p.1 p.2)=_
 simp only[List.all_cons,List.all_nil,Bool.and_true]
 rfl
theorem xk (a b:Int):((List.replicate 2 (0:Int)).set 0 a).set 1 b=[a,b]:=rfl
theorem vF {α:Type} (k:Ty) (m:List (k.den×α)) (x:k.den) (y:α) (h:∀ e ∈ m,k.eq x e.1=false):gH k m x y=m++[(x,y)]:=by
 have:m.findIdx? (fun e=>k.eq x e.1)=none:=by
  rw[List.findIdx?_eq_none_iff]
  exact h
 unfold gH
 rw[this]
def cK (x:ax):List Seen:=if cS x=0 then [(fT x,x.1,x.2.1,false,x.1,x.2.1,())] else []
def bL (x:ax):List Seen:=if cS x=1 then [(sn,x.1,x.2.1,true,iZ x,i6 x,())] else []
def eG (x:ax):List (List Int×Row):=if cS x=2 then [([x.1,x.2.1],fT x)] else []
theorem ua (d:List UInt8):(cR d).2=true->(cR d).1.1=0/\((cR d).1.2.1=0\/(cR d).1.2.1=1\/(cR d).1.2.1=2):=by
 unfold cR
 split
 ·intro _;exact ⟨rfl,.inr (.inl rfl)⟩
 ·split
  ·intro h;cases h
  ·rename_i h
   intro _
   refine ⟨rfl,?_⟩
   show ((pb d 0:Int)=0\/(pb d 0:Int)=1\/(pb d 0:Int)=2)
   omega
def qB (ps:fS):Prop:=mW ps/\∀ p ∈ ps,∀ s,s < pn p->aM p s≠0->(cR (ep p s)).2=true
theorem C0 {ps:fS} (hl:ps.length<=12) (h:ig oQ ps=0):qB ps:=
 ⟨⟨hl,fun p hp=>(yL (oS h p hp)).1⟩,fun p hp=>(yL (oS h p hp)).2⟩
theorem IV {ps:fS} (h:qB ps) {x:ax} (hx:x ∈ aR ps):cS x=0\/cS x=1\/cS x=2:=by
 obtain ⟨P,p,s,h1,Y,h3,rfl⟩:=rz.1 hx
 exact (ua _ (h.2 p (List.mem_of_getElem? h1) s Y h3)).2
theorem yM (S:List ax):(S.flatMap cK).length<=S.length/\(S.flatMap bL).length<=S.length:=by
 induction S with
 | nil=>exact ⟨Nat.le_refl _,Nat.le_refl _⟩
 | cons x S ih=>
  have h1:(cK x).length<=1:=by unfold cK;split <;> simp
  have Y:(bL x).length<=1:=by unfold bL;split <;> simp
  simp only[List.flatMap_cons,List.length_append,List.length_cons]
  omega
theorem E0 {ps:fS} (h:qB ps) (a b:Int) (ha:0<=a) (hb:0<=b):dq oT ((aR ps).flatMap eG) [a,b]=if (iA ps a b).2&&decide ((iA ps a b).1.2.1=2) then some (iA ps a b).1.2.2.2.2.1 else none:=by
 obtain ⟨a,rfl⟩:=Int.eq_ofNat_of_zero_le ha
 obtain ⟨b,rfl⟩:=Int.eq_ofNat_of_zero_le hb
 unfold dq
 have at_:∀ x ∈ aR ps,x.1=(a:Int)->x.2.1=(b:Int)->iA ps (a:Int) (b:Int)=(x.2.2.1,true):=fun x hx e1 e2=>by
  obtain ⟨P,p,s,h1,Y,h3,rfl⟩:=rz.1 hx
  have e1:(P:Int)=(a:Int):=e1
  have e2:(s:Int)=(b:Int):=e2
  have e1:P=a:=by omega
  have e2:s=b:=by omega
  subst e1;subst e2
  unfold iA
  simp only[Int.toNat_natCast,h1]
  rw[if_pos ⟨Y,h3⟩]
  have:=h.2 p (List.mem_of_getElem? h1) s Y h3
  rw[<-this]
 cases hf:((aR ps).flatMap eG).find? (fun e=>Ty.eq oT [(a:Int),(b:Int)] e.1) with
 | some e=>
  have hm:=List.mem_of_find?_eq_some hf
  have hp:=List.find?_some hf
  obtain ⟨x,hx,zZ⟩:=List.mem_flatMap.1 hm
  unfold eG at zZ
  split at zZ
  ·rename_i Y
   rw[List.mem_singleton] at zZ
   subst zZ
   rw[sM,Bool.and_eq_true,decide_eq_true_eq,decide_eq_true_eq] at hp
   have hg:=at_ x hx hp.1.symm hp.2.symm
   rw[hg]
   have:(x.2.2.1).2.1=2:=Y
   simp only[this,decide_true,Bool.and_self,if_true,Option.map_some]
   rfl
  ·cases zZ
 | none=>
  rw[if_neg]
  ·rfl
  ·intro hc
   rw[Bool.and_eq_true,decide_eq_true_eq] at hc
   obtain ⟨c1,c2⟩:=hc
   have:∃ x ∈ aR ps,x.1=(a:Int)/\x.2.1=(b:Int)/\cS x=2:=by
    unfold iA at c1 c2
    simp only[Int.toNat_natCast] at c1 c2
    cases N0:ps[a]? with
    | none=>rw[N0] at c1;cases c1
    | some p=>
     rw[N0] at c1 c2
     simp only at c1 c2
     by_cases hc:b < pn p/\aM p b≠0
     ·rw[if_pos hc] at c2
      exact ⟨_,rz.2 ⟨a,p,b,N0,hc.1,hc.2,rfl⟩,rfl,rfl,c2⟩
     ·rw[if_neg hc] at c1;cases c1
   obtain ⟨x,hx,e1,e2,e3⟩:=this
   have hm:([x.1,x.2.1],fT x) ∈ (aR ps).flatMap eG:=List.mem_flatMap.2 ⟨x,hx,by unfold eG;rw[if_pos e3];exact List.mem_singleton.2 rfl⟩
   have:=List.find?_eq_none.1 hf _ hm
   rw[sM,e1,e2] at this
   simp at this
def oU (x:ax):Seen:=(fT x,x.1,x.2.1,decide (cS x=1),(if cS x=1 then iZ x else x.1),(if cS x=1 then i6 x else x.2.1),())
def oV (ps:fS) (y:Seen):Seen:=(qH (dq oT ((aR ps).flatMap eG) [y.2.2.2.2.1,y.2.2.2.2.2.1]) sn,y.2)
def wl (ps:fS):List Seen:=(aR ps).flatMap cK++((aR ps).flatMap bL).map (oV ps)
theorem GI {ps:fS} (h:qB ps) (hs:(aR ps).all (kw ps)=true):(wl ps).Perm ((iU ps).map oU):=by
 unfold wl iU
 have i_:=List.all_eq_true.1 hs
 have Ai:∀ x ∈ aR ps,cS x=0\/cS x=1\/cS x=2:=fun x hx=>IV h hx
 have vz:∀ x ∈ aR ps,0<=iZ x/\0<=i6 x:=fun x hx=>py hx
 have key:∀ S:List ax,(∀ x ∈ S,x ∈ aR ps)->(S.flatMap cK++(S.flatMap bL).map (oV ps)).Perm ((S.flatMap (kX ps)).map oU):=by
  intro S
  induction S with
  | nil=>intro _;exact List.Perm.refl _
  | cons x S ih=>
   intro hS
   have ih:=ih fun y hy=>hS y (List.mem_cons_of_mem _ hy)
   have hx:=hS x List.mem_cons_self
   simp only[List.flatMap_cons,List.map_append]
   rcases Ai x hx with h0 | h1 | Y
   ·have e1:cK x=[oU (qt ps x)]:=by
     unfold cK oU qt
     have n1:¬ cS x=1:=by omega
     rw[if_pos h0,if_neg n1,if_neg n1,if_neg n1,decide_eq_false n1]
    have e2:bL x=[]:=by unfold bL;rw[if_neg (by omega)]
    have e3:kX ps x=[qt ps x]:=by unfold kX;rw[if_neg (by omega)]
    rw[e1,e2,e3]
    simp only[List.map_nil,List.nil_append,List.map_cons,List.cons_append]
    exact List.Perm.cons _ ih
   ·have e1:cK x=[]:=by unfold cK;rw[if_neg (by omega)]
    have e3:kX ps x=[qt ps x]:=by unfold kX;rw[if_neg (by omega)]
    have e2:(bL x).map (oV ps)=[oU (qt ps x)]:=by
     unfold bL
     rw[if_pos h1]
     simp only[List.map_cons,List.map_nil]
     obtain ⟨g1,g2⟩:=vz x hx
     have bb:=i_ x hx
     unfold kw at bb
     rw[decide_eq_true h1] at bb
     simp only[Bool.not_true,Bool.false_or] at bb
     have hg:=E0 h (iZ x) (i6 x) g1 g2
     rw[if_pos bb] at hg
     unfold oV
     simp only[hg,qH]
     unfold qt
     rw[if_pos h1]
     have Ki:cS (EZ x (iA ps (iZ x) (i6 x)).1.2.2.2.2.1)=1:=h1
     unfold oU
     rw[if_pos Ki,if_pos Ki,decide_eq_true Ki]
     rfl
    rw[e1,e2,e3]
    simp only[List.nil_append,List.map_cons,List.map_nil,List.cons_append]
    exact (List.perm_middle).trans (List.Perm.cons _ ih)
   ·have e1:cK x=[]:=by unfold cK;rw[if_neg (by omega)]
    have e2:bL x=[]:=by unfold bL;rw[if_neg (by omega)]
    have e3:kX ps x=[]:=by unfold kX;rw[if_pos Y]
    rw[e1,e2,e3]
    simpa using ih
 exact key (aR ps) fun x hx=>hx
def p_ (x y:Seen):Bool:=bP (rk x.1) (rk y.1)
def E1 (x y:Seen):Int:=if bP (x.1.1,x.1.2.1) (y.1.1,y.1.2.1) then -1 else if bP (y.1.1,y.1.2.1) (x.1.1,x.1.2.1) then 1 else 0
theorem IW:Go.Proofs.ltOf E1=p_:=by
 funext x y
 exact II x.1 y.1
theorem Kj (x y:Seen):ik.ab (x,y,())=some (E1 x y,()):=by
 refine ag (k:=0) fun k hk=>(ik.aa k _).trans ?_
 show ik.p _=_
 unfold ik.p
 rw[tR]
 rfl
theorem QX:SWO p_ where
 irrefl x:=mU _
 trans x y z h1 Y:=kW h1 Y
 ntrans x y z h1 Y:=by
  cases h3:p_ x z with
  | false=>rfl
  | true=>
   unfold p_ at h1 Y h3
   cases h4:bP (rk y.1) (rk x.1) with
   | true=>
    have:=kW h4 h3
    rw[this] at Y;cases Y
   | false=>
    have:=pi h1 h4
    rw[this] at h3
    rw[h3] at Y;cases Y
def vG (xs:List Seen) (x:Seen):List Seen:=xs.take (pos (xs.map (·.1)) (rk x.1))++[x]++xs.drop (pos (xs.map (·.1)) (rk x.1))
def ub (l:List Seen):List Seen:=l.foldl vG []
theorem Kk (xs:List Seen) (x:Seen):(vG xs x).map (·.1)=jJ (xs.map (·.1)) x.1:=by
 unfold vG jJ
 simp only[List.map_append,List.map_take,List.map_drop,List.map_cons,List.map_nil]
theorem IX (xs:List Seen) (x:Seen):(vG xs x).Perm (x::xs):=by
 unfold vG
 rw[List.append_assoc]
 have:=List.perm_middle (a:=x) (l₁:=xs.take (pos (xs.map (·.1)) (rk x.1))) (l₂:=xs.drop (pos (xs.map (·.1)) (rk x.1)))
 rw[List.take_append_drop] at this
 exact this
theorem Aj (l:List Seen):(ub l).map (·.1)=yJ (l.map (·.1)):=by
 have main:∀ (l acc:List Seen),(l.foldl vG acc).map (·.1)=(l.map (·.1)).foldl jJ (acc.map (·.1)):=by
  intro l
  induction l with
  | nil=>intro acc;rfl
  | cons x l ih=>intro acc;simp only[List.foldl_cons,List.map_cons,ih,Kk]
 exact main l []
theorem yN (l:List Seen):(ub l).Perm l:=by
 have main:∀ (l acc:List Seen),(l.foldl vG acc).Perm (l++acc):=by
  intro l
  induction l with
  | nil=>intro acc;exact List.Perm.refl _
  | cons x l ih=>
   intro acc
   exact (ih (vG acc x)).trans (((List.Perm.refl l).append (IX acc x)).trans List.perm_middle)
 have:=main l []
 rw[List.append_nil] at this
 exact this
def Ak (xs:List Seen):Prop:=xs.Pairwise fun x y=>p_ x y=true
theorem E2 {xs:List Seen}:Ak xs↔up (xs.map (·.1)):=by
 unfold Ak up
 rw[List.pairwise_map]
 rfl
theorem C3 {l r:List Seen} (hp:r.Perm l) (hr:Ak r) (hn:(l.map fun x=>rk x.1).Nodup):r=ub l:=by
 refine uB (lt:=fun x y=>p_ x y=true) (fun a b h=>Kg h) r (ub l) (hp.trans (yN l).symm) hr (E2.2 ?_)
 rw[Aj]
 refine Ke ?_
 rw[List.map_map]
 exact hn
theorem IY {r:List Seen} (h:Ak r):(r.map fun x=>rk x.1).Nodup:=by
 have:=Kh (E2.1 h)
 rw[List.map_map] at this
 exact this
def sq:List Seen->Bool
 | x::y::l=>p_ x y&&sq (y::l)
 | _=>true
theorem IZ:∀ (l:List Seen),sq l=true->Ak l
 | [],_=>List.Pairwise.nil
 | [x],_=>List.pairwise_singleton _ _
 | x::y::l,h=>by
  simp only[sq,Bool.and_eq_true] at h
  have ih:=IZ (y::l) h.2
  refine List.pairwise_cons.2 ⟨fun z hz=>?_,ih⟩
  rcases List.mem_cons.1 hz with rfl | hz
  ·exact h.1
  ·exact kW h.1 ((List.pairwise_cons.1 ih).1 z hz)
theorem E3:∀ (l:List Seen),Ak l->sq l=true
 | [],_=>rfl
 | [x],_=>rfl
 | x::y::l,h=>by
  obtain ⟨h1,Y⟩:=List.pairwise_cons.1 h
  simp only[sq,Bool.and_eq_true]
  exact ⟨h1 y List.mem_cons_self,E3 (y::l) Y⟩
theorem I0 {r:List Seen} (h:r.Pairwise fun x y=>p_ y x=false) (hn:(r.map fun x=>rk x.1).Nodup):Ak r:=by
 unfold Ak
 have Y:r.Pairwise fun x y=>rk x.1≠rk y.1:=by
  unfold List.Nodup at hn
  rw[List.pairwise_map] at hn
  exact hn
 refine (h.and Y).imp fun {x y} ⟨g1,g2⟩=>?_
 cases h3:p_ x y with
 | true=>rfl
 | false=>exact absurd (pi h3 g1) g2
end OT
set_option linter.unusedVariables false
set_option linter.unusedSimpArgs false
namespace OT
open Go Go.Sort
theorem Kl (z:List Seen) (hl:z.length<=1000):∃ r:List Seen,(∀ f:Nat×Int,iv.ab (z,f,())=some (r,()))/\r.Perm z/\r.Pairwise fun x y=>p_ y x=false:=by
 have hs:SWO (Go.Proofs.ltOf E1):=by rw[IW];exact QX
 have h1:=Cx (e:=cN) (cs:=ik.ab) (cf:=E1) (fun x y=>Kj x y) hs z (cD (Nat.le_trans hl (by omega)))
 have Y:=Cy (α:=cN.den) (lt:=Go.Proofs.ltOf E1) hs z
 refine ⟨_,fun f=>?_,Y.1,?_⟩
 ·show (pt cN ik.ab z).map (fun r=>(r,()))=_
  rw[h1]
  rfl
 ·exact Y.2.imp fun {x y} (h:Go.Proofs.ltOf (α:=Seen) E1 y x=false)=>by rw[IW] at h;exact h
theorem C4 {O:Type} (r:List Seen) (bad e:O):∀ (l pre:List Seen) (x:Seen),r=pre++x::l->aU (fun i (_:Unit) y=>if (match r[i]? with | some z=>p_ z y | none=>true) then .inr () else .inl bad) (fun _=>e) pre.length l ()=if sq (x::l) then e else bad
 | [],pre,x,_=>by simp[aU,sq]
 | y::l,pre,x,h=>by
  have hx:r[pre.length]?=some x:=by rw[h,List.getElem?_append_right (Nat.le_refl _)];simp
  simp only[aU,hx,sq]
  by_cases hc:p_ x y=true
  rotate_left
  ·have ov:p_ x y=false:=by simpa using hc
   simp only[ov,Bool.false_eq_true,if_false,Bool.false_and]
  ·simp only[hc,if_true,Bool.true_and]
   have:=C4 r bad e l (pre++[x]) y (by rw[h];simp)
   rw[List.length_append] at this
   exact this
theorem Km (ps:fS) (k:Nat) (hk:300<=k) (r:List Seen) (hl:r.length<=192):al (fun self v=>aH.B4 k self (fun z=>aH.Q4 k (ps,()) r z) (ps,()) r v) k 1=if sq r then some (r,(0:Int),()) else some (([]:List Seen),(8:Int),()):=by
 have:=bE (B:=fun self v=>aH.B4 k self (fun z=>aH.Q4 k (ps,()) r z) (ps,()) r v) (r.drop 1) (fun (_:Unit) (i:Int)=>i+1) (fun i _ y=>if (match r[i]? with | some z=>p_ z y | none=>true) then .inr () else .inl (some (([]:List Seen),(8:Int),()))) (fun _=>some (r,(0:Int),())) (fun _ _=>True) (by rw[ah,List.length_drop];omega)
  (fun i hi s self _=>by
   rw[List.length_drop] at hi
   show aH.b4 _ _ _ _ _=_
   unfold aH.b4
   have aj:(i:Int)+1 < (r.length:Int):=by omega
   have lV:(i:Int) < (r.length:Int):=by omega
   have vz:(0:Int)<=(i:Int)+1:=by omega
   have pG:ae ((i:Int)+1 - 1)=(i:Int):=by rw[aP (by omega)];omega
   have oF:ae ((i:Int)+1+1)=ae ((i:Int)+1)+1:=by rw[aP (by omega),aP (by omega)]
   have NX:((i:Int)+1).toNat=i+1:=by omega
   have hg:(r.drop 1)[i]'(by rw[List.length_drop];omega)=r[i+1]'(by omega):=by rw[List.getElem_drop];congr 1;omega
   rw[hg]
   simp only[aj,lV,vz,pG,oF,NX,decide_true,cond_true,Int.natCast_nonneg,and_self,if_true,Int.toNat_natCast,List.getElem?_eq_getElem (show i < r.length by omega),List.getElem?_eq_getElem (show i+1 < r.length by omega),Option.bind_some,sm]
   show (bif !p_ r[i] (r[i+1]'(by omega)) then _ else _)=_
   cases p_ r[i] (r[i+1]'(by omega)) <;> rfl)
  (fun _ _ _ _ _ _=>trivial) (fun s self _=>by
   rw[List.length_drop]
   show aH.b4 _ _ _ _ _=_
   unfold aH.b4
   have aj:¬ (((r.length - 1:Nat):Int)+1 < (r.length:Int)):=by omega
   simp only[aj,decide_false,cond_false]
   rfl) () trivial k (by rw[List.length_drop];omega)
 refine Eq.trans this ?_
 cases r with
 | nil=>rfl
 | cons x l=>
  exact C4 (x::l) _ _ l [] x rfl
def rZ (ps:fS):List Seen:=if jU ps=0 then ub ((iU ps).map oU) else []
def Ly (ps:fS):List Seen:=if t8 ps=0 then ub ((iU ps).map oU) else []
def A9 (y:Seen):Option (Int×Int):=some (y.2.2.2.2.1,y.2.2.2.2.2.1)
def r_ (y:Seen):List Int×Bool:=([y.2.2.2.2.1,y.2.2.2.2.2.1],true)
theorem C5 (T:List Seen) (a b:Int):qH (dq oT (T.map r_) [a,b]) false=T.any fun y=>decide (a=y.2.2.2.2.1)&&decide (b=y.2.2.2.2.2.1):=by
 induction T with
 | nil=>rfl
 | cons y T ih=>
  have hk:Ty.eq oT [a,b] (r_ y).1=(decide (a=y.2.2.2.2.1)&&decide (b=y.2.2.2.2.2.1)):=sM _ _ _ _
  unfold dq at ih ⊢
  rw[List.map_cons,List.find?_cons,List.any_cons,hk]
  cases (decide (a=y.2.2.2.2.1)&&decide (b=y.2.2.2.2.2.1)) with
  | true=>rfl
  | false=>simpa using ih
theorem Kn (S:List ax):(S.flatMap bL).filterMap A9=S.filterMap oR:=by
 induction S with
 | nil=>rfl
 | cons x S ih=>
  rw[List.flatMap_cons,List.filterMap_append,ih]
  unfold bL
  by_cases h:cS x=1
  ·rw[if_pos h]
   have:oR x=some (iZ x,i6 x):=by unfold oR;rw[if_pos h]
   simp[List.filterMap_cons,this,A9]
  ·rw[if_neg h]
   have:oR x=none:=by unfold oR;rw[if_neg h]
   simp[List.filterMap_cons,this]
theorem D3 (ps:fS) (h:qB ps):aH.ab (ps,())=some (Ly ps,t8 ps,()):=by
 obtain ⟨hl,hp⟩:=h.1
 have hK:=rY h.1
 refine ag (k:=300) fun k hk=>(aH.aa k _).trans ?_
 have inner:∀ (self:(List Seen×List Seen×List (List Int×Row)×fS×Int×Int)->Option aH.Out) (e0:(List Seen×List Seen×List (List Int×Row))->Option aH.Out) (i:Nat) (hi:i < ps.length) (S:List ax),S.length<=16*i->(∀ x ∈ S,x.1 < (i:Int)) ->
   aH.r1 k self e0 (ps,()) (i:Int) ps[i] ps (ps.length:Int) (pn ps[i]:Int) (S.flatMap cK,S.flatMap bL,S.flatMap eG,(0:Int))=self ((S++mo i ps[i]).flatMap cK,(S++mo i ps[i]).flatMap bL,(S++mo i ps[i]).flatMap eG,ps,(ps.length:Int),ae ((i:Int)+1)):=fun self e0 i hi S0 TJ gU=>by
  have aA:=hp _ (List.getElem_mem hi)
  have hn:=aA.n
  have hlen:=aA.len
  have lj:=h.2 _ (List.getElem_mem hi)
  have:=qs (B:=fun cg v=>aH.B1 k cg (fun z=>aH.Q0 k self e0 (ps,()) (i:Int) ps[i] ps (ps.length:Int) (pn ps[i]:Int) z) (ps,()) (i:Int) ps[i] ps (ps.length:Int) (pn ps[i]:Int) v) (pn ps[i]) (fun (S:List ax) (j:Int)=>(S.flatMap cK,S.flatMap bL,S.flatMap eG,j)) (fun j S=>.inr (S++kA i ps[i] j)) (fun S=>self (S.flatMap cK,S.flatMap bL,S.flatMap eG,ps,(ps.length:Int),ae ((i:Int)+1))) (fun j S=>S.length<=16*i+j/\∀ x ∈ S,x.1 < (i:Int)\/(x.1=(i:Int)/\x.2.1 < (j:Int))) (by omega)
   (fun j hj S cg ⟨LA,C6⟩=>by
    show aH.b1 _ _ _ _ _ _ _ _ _=_
    unfold aH.b1 kA
    have aj:(j:Int) < (pn ps[i]:Int):=by omega
    simp only[aj,decide_true,cond_true,yF aA,hj,Bool.true_and,Option.bind_some]
    by_cases hz:aM ps[i] j=0
    ·simp only[hz,decide_true,Bool.not_true,Bool.not_false,cond_true,if_true,List.append_nil]
    ·have vj:=lj j hj hz
     obtain ⟨f1,f2⟩:=ua _ vj
     obtain ⟨l1,l2⟩:=yM S
     have km:∀ (T:List Seen) (y:Seen),T.length<=S.length->T.length+[y].length<=bm:=fun T y hT=>cD (by simp only[List.length_cons,List.length_nil];omega)
     simp only[hz,decide_false,Bool.not_false,Bool.not_true,cond_false,uz aA hj,uy _ (Nat.le_trans (nB aA hj) (by omega)),vj,if_true,if_false,Option.bind_some,f1,decide_true,km _ _ l1,km _ _ l2,xk]
     obtain ⟨x,hx⟩:∃ x:ax,x=((i:Int),(j:Int),(cR (ep ps[i] j)).1,()):=⟨_,rfl⟩
     have N1:cS x=(cR (ep ps[i] j)).1.2.1:=by rw[hx];rfl
     rw[<-hx]
     simp only[List.flatMap_append,List.flatMap_cons,List.flatMap_nil,List.append_nil]
     rcases f2 with g | g | g
     ·have e1:cK x=[((cR (ep ps[i] j)).1.2.2.2.2.1,(i:Int),(j:Int),false,(i:Int),(j:Int),())]:=by unfold cK;rw[if_pos (N1.trans g),hx];rfl
      have e2:bL x=[]:=by unfold bL;rw[if_neg (by omega)]
      have e3:eG x=[]:=by unfold eG;rw[if_neg (by omega)]
      rw[e1,e2,e3]
      simp only[g,decide_true,cond_true,List.append_nil,List.length_cons,List.length_nil,Nat.zero_lt_succ,List.length_replicate,List.length_set,if_true]
     ·have e1:cK x=[]:=by unfold cK;rw[if_neg (by omega)]
      have e2:bL x=[(sn,(i:Int),(j:Int),true,(cR (ep ps[i] j)).1.2.2.1,(cR (ep ps[i] j)).1.2.2.2.1,())]:=by unfold bL;rw[if_pos (N1.trans g),hx];rfl
      have e3:eG x=[]:=by unfold eG;rw[if_neg (by omega)]
      rw[e1,e2,e3]
      have n1:¬ ((1:Int)=0):=by decide
      have n2:¬ ((1:Int)=2):=by decide
      simp only[g,n1,n2,decide_false,cond_false,List.append_nil,List.length_cons,List.length_nil,Nat.zero_lt_succ,List.length_replicate,List.length_set,if_true]
     ·have e1:cK x=[]:=by unfold cK;rw[if_neg (by omega)]
      have e2:bL x=[]:=by unfold bL;rw[if_neg (by omega)]
      have e3:eG x=[([(i:Int),(j:Int)],(cR (ep ps[i] j)).1.2.2.2.2.1)]:=by unfold eG;rw[if_pos (N1.trans g),hx];rfl
      rw[e1,e2,e3]
      have n1:¬ ((2:Int)=0):=by decide
      have nM:gH oT (S.flatMap eG) [(i:Int),(j:Int)] (cR (ep ps[i] j)).1.2.2.2.2.1=S.flatMap eG++[([(i:Int),(j:Int)],(cR (ep ps[i] j)).1.2.2.2.2.1)]:=vF oT _ _ _ fun e he=>by
       obtain ⟨y,hy,I1⟩:=List.mem_flatMap.1 he
       unfold eG at I1
       split at I1
       ·rw[List.mem_singleton] at I1
        subst I1
        rw[sM]
        rcases C6 y hy with c | ⟨c,d⟩
        ·rw[decide_eq_false (show ¬ (i:Int)=y.1 by omega)];rfl
        ·rw[decide_eq_false (show ¬ (j:Int)=y.2.1 by omega),Bool.and_false]
       ·cases I1
      simp only[g,n1,decide_false,decide_true,cond_false,cond_true,nM,List.append_nil,List.length_cons,List.length_nil,Nat.zero_lt_succ,List.length_replicate,List.length_set,if_true]
      rfl)
   (fun j hj S S' ⟨LA,C6⟩ hf=>by
    injection hf with hf
    subst hf
    have:(kA i ps[i] j).length<=1:=by unfold kA;split <;> simp
    refine ⟨by rw[List.length_append];omega,fun x hx=>?_⟩
    rcases List.mem_append.1 hx with hx | hx
    ·rcases C6 x hx with c | ⟨c,d⟩
     ·exact .inl c
     ·exact .inr ⟨c,by omega⟩
    ·unfold kA at hx
     split at hx
     ·cases hx
     ·rw[List.mem_singleton] at hx
      subst hx
      exact .inr ⟨rfl,by show (j:Int) < ((j+1:Nat):Int);omega⟩) (fun S cg hI=>by
    show aH.b1 _ _ _ _ _ _ _ _ _=_
    unfold aH.b1
    simp only[Int.lt_irrefl,decide_false,cond_false]
    rfl) S0 ⟨by omega,fun x hx=>.inl (gU x hx)⟩ k (by omega)
  rw[tW (kA i ps[i])] at this
  exact this
 have outer:aH.r0 k (ps,()) (([]:List Seen),([]:List Seen),([]:List (List Int×Row)),ps,(ps.length:Int),(0:Int))=aH.Q1 k (ps,()) ((aR ps).flatMap cK,(aR ps).flatMap bL,(aR ps).flatMap eG):=by
  have:=bE (B:=fun self v=>aH.B0 k self (fun z=>aH.Q1 k (ps,()) z) (ps,()) v) ps (fun (S:List ax) (i:Int)=>(S.flatMap cK,S.flatMap bL,S.flatMap eG,ps,(ps.length:Int),i)) (fun i S p=>.inr (S++mo i p)) (fun S=>aH.Q1 k (ps,()) (S.flatMap cK,S.flatMap bL,S.flatMap eG)) (fun i S=>S.length<=16*i/\∀ x ∈ S,x.1 < (i:Int)) (by rw[ah];omega)
   (fun i hi S self ⟨LA,C6⟩=>by
    show aH.b0 _ _ _ _ _=_
    unfold aH.b0
    have aj:(i:Int) < (ps.length:Int):=by omega
    have hlen:=(hp _ (List.getElem_mem hi)).len
    simp only[aj,decide_true,cond_true,Int.natCast_nonneg,if_true,Int.toNat_natCast,List.getElem?_eq_getElem hi,Option.bind_some,rV hlen,inner self _ i hi S LA C6])
   (fun i hi S S' ⟨LA,C6⟩ hf=>by
    injection hf with hf
    subst hf
    have:=so (hp _ (List.getElem_mem hi)) i
    refine ⟨by rw[List.length_append];omega,fun x hx=>?_⟩
    rcases List.mem_append.1 hx with hx | hx
    ·have:=C6 x hx;omega
    ·obtain ⟨s,_,hs⟩:=List.mem_flatMap.1 hx
     unfold kA at hs
     split at hs
     ·cases hs
     ·rw[List.mem_singleton] at hs
      subst hs
      show (i:Int) < ((i+1:Nat):Int)
      omega) (fun S self hI=>by
    show aH.b0 _ _ _ _ _=_
    unfold aH.b0
    simp only[Int.lt_irrefl,decide_false,cond_false]) [] ⟨by simp,fun x hx=>by cases hx⟩ k (by omega)
  rw[vC] at this
  exact this
 show aH.r0 k (ps,()) (([]:List Seen),([]:List Seen),([]:List (List Int×Row)),ps,(ps.length:Int),(0:Int))=_
 rw[outer]
 show aH.q1 _ _ _=_
 unfold aH.q1
 obtain ⟨TK,TM⟩:=yM (aR ps)
 have hT:∀ y ∈ (aR ps).flatMap bL,∃ x ∈ aR ps,cS x=1/\y=(sn,x.1,x.2.1,true,iZ x,i6 x,()):=fun y hy=>by
  obtain ⟨x,hx,pY⟩:=List.mem_flatMap.1 hy
  unfold bL at pY
  split at pY
  ·rename_i hf
   exact ⟨x,hx,hf,List.mem_singleton.1 pY⟩
  ·cases pY
 have SZ:aH.r2 k (ps,()) ((aR ps).flatMap cK) ((aR ps).flatMap bL) ((aR ps).flatMap eG) (((aR ps).flatMap bL).length:Int) (0:Int)=if (aR ps).all (kw ps) then aH.Q2 k (ps,()) ((aR ps).flatMap cK) ((aR ps).flatMap bL) ((aR ps).flatMap eG) (((aR ps).flatMap bL).length:Int) () else some (([]:List Seen),(4:Int),()):=by
  obtain ⟨T,Al⟩:∃ T,T=(aR ps).flatMap bL:=⟨_,rfl⟩
  obtain ⟨M,hM⟩:∃ M,M=(aR ps).flatMap eG:=⟨_,rfl⟩
  rw[<-Al,<- hM]
  have S4:T.length<=192:=by rw[Al];omega
  have:=bE (B:=fun self v=>aH.B2 k self (fun z=>aH.Q2 k (ps,()) ((aR ps).flatMap cK) T M (T.length:Int) z) (ps,()) ((aR ps).flatMap cK) T M (T.length:Int) v) T (fun (_:Unit) (i:Int)=>i) (fun i _ y=>if (dq oT M [y.2.2.2.2.1,y.2.2.2.2.2.1]).isSome then .inr () else .inl (some (([]:List Seen),(4:Int),()))) (fun _=>aH.Q2 k (ps,()) ((aR ps).flatMap cK) T M (T.length:Int) ()) (fun _ _=>True) (by rw[ah];omega)
   (fun i hi s self _=>by
    show aH.b2 _ _ _ _ _ _ _ _=_
    unfold aH.b2
    have aj:(i:Int) < (T.length:Int):=by omega
    simp only[aj,decide_true,cond_true,Int.natCast_nonneg,and_self,if_true,Int.toNat_natCast,List.getElem?_eq_getElem hi,Option.bind_some,xk,List.length_replicate,List.length_set,show (0:Nat) < 2 by omega,show (1:Nat) < 2 by omega]
    cases (dq oT M [(T[i]).2.2.2.2.1,(T[i]).2.2.2.2.2.1]).isSome <;> rfl)
   (fun _ _ _ _ _ _=>trivial) (fun s self _=>by
    show aH.b2 _ _ _ _ _ _ _ _=_
    unfold aH.b2
    simp only[Int.lt_irrefl,decide_false,cond_false]) () trivial k (by omega)
  rw[kL (fun y:Seen=>(dq oT M [y.2.2.2.2.1,y.2.2.2.2.2.1]).isSome) (some (([]:List Seen),(4:Int),())) (fun _=>aH.Q2 k (ps,()) ((aR ps).flatMap cK) T M (T.length:Int) ())] at this
  refine Eq.trans this ?_
  have hb:T.all (fun y:Seen=>(dq oT M [y.2.2.2.2.1,y.2.2.2.2.2.1]).isSome)=(aR ps).all (kw ps):=by
   have gY:∀ x ∈ aR ps,cS x=1->(dq oT M [iZ x,i6 x]).isSome=kw ps x:=fun x hx hf=>by
    obtain ⟨g1,g2⟩:=py hx
    rw[hM,E0 h _ _ g1 g2]
    unfold kw
    rw[decide_eq_true hf]
    cases ((iA ps (iZ x) (i6 x)).2&&decide ((iA ps (iZ x) (i6 x)).1.2.1=2)) <;> rfl
   rw[Bool.eq_iff_iff,List.all_eq_true,List.all_eq_true]
   constructor
   ·intro i_ x hx
    by_cases hf:cS x=1
    ·rw[<-gY x hx hf]
     have hy:(sn,x.1,x.2.1,true,iZ x,i6 x,()) ∈ T:=by
      rw[Al]
      exact List.mem_flatMap.2 ⟨x,hx,by unfold bL;rw[if_pos hf];exact List.mem_singleton.2 rfl⟩
     exact i_ _ hy
    ·unfold kw;rw[decide_eq_false hf];rfl
   ·intro i_ y hy
    obtain ⟨x,hx,hf,e⟩:=hT y (Al ▸ hy)
    subst e
    exact (gY x hx hf).trans (i_ x hx)
  rw[hb]
 rw[SZ]
 unfold Ly t8
 by_cases bb:(aR ps).all (kw ps)=true
 rotate_left
 ·simp only[bb,Bool.false_eq_true,if_false]
  rfl
 simp only[bb,if_true]
 show aH.q2 _ _ _ _ _ _ _=_
 unfold aH.q2
 have S5:aH.r3 k (ps,()) ((aR ps).flatMap cK) ((aR ps).flatMap bL) ((aR ps).flatMap eG) (((aR ps).flatMap bL).length:Int) ((aR ps).flatMap bL) ((aR ps).flatMap eG) (((aR ps).flatMap bL).length:Int) ((aR ps).flatMap cK,([]:List (List Int×Bool)),(0:Int))=if ((aR ps).filterMap oR).Nodup then aH.Q3 k (ps,()) ((aR ps).flatMap bL) ((aR ps).flatMap eG) (((aR ps).flatMap bL).length:Int) (wl ps) else some (([]:List Seen),(6:Int),()):=by
  have LB:=Kn (aR ps)
  unfold wl
  obtain ⟨T,Al⟩:∃ T,T=(aR ps).flatMap bL:=⟨_,rfl⟩
  obtain ⟨M,hM⟩:∃ M,M=(aR ps).flatMap eG:=⟨_,rfl⟩
  obtain ⟨L,hL⟩:∃ L,L=(aR ps).flatMap cK:=⟨_,rfl⟩
  have O2:∀ y:Seen,oV ps y=(qH (dq oT M [y.2.2.2.2.1,y.2.2.2.2.2.1]) sn,y.2):=fun y=>by unfold oV;rw[hM]
  rw[<-Al,<- hM,<- hL]
  rw[<-Al] at LB
  have S4:T.length<=192:=by rw[Al];omega
  have TN:L.length<=192:=by rw[hL];omega
  have:=bE (B:=fun self v=>aH.B3 k self (fun z=>aH.Q3 k (ps,()) T M (T.length:Int) z) (ps,()) T M (T.length:Int) v) T (fun (_:Unit) (i:Int)=>(L++(T.take i.toNat).map (oV ps),(T.take i.toNat).map r_,i)) (fun i _ y=>if (T.take i).any (fun z=>decide (y.2.2.2.2.1=z.2.2.2.2.1)&&decide (y.2.2.2.2.2.1=z.2.2.2.2.2.1)) then .inl (some (([]:List Seen),(6:Int),())) else .inr ()) (fun _=>aH.Q3 k (ps,()) T M (T.length:Int) (L++T.map (oV ps))) (fun _ _=>True) (by rw[ah];omega)
   (fun i hi s self _=>by
    show aH.b3 _ _ _ _ _ _ _=_
    unfold aH.b3
    have aj:(i:Int) < (T.length:Int):=by omega
    have km:∀ y:Seen,(L++(T.take i).map (oV ps)).length+[y].length<=bm:=fun y=>cD (by simp only[List.length_append,List.length_map,List.length_take,List.length_cons,List.length_nil];omega)
    have hw:(ae ((i:Int)+1)).toNat=i+1:=by rw[aP (by omega)];omega
    have gw:T.take (i+1)=T.take i++[T[i]]:=List.take_succ_eq_append_getElem hi
    simp only[aj,decide_true,cond_true,Int.natCast_nonneg,and_self,if_true,Int.toNat_natCast,List.getElem?_eq_getElem hi,Option.bind_some,xk,List.length_replicate,List.length_set,show (0:Nat) < 2 by omega,show (1:Nat) < 2 by omega,C5,km,hw,gw,List.map_append,List.map_cons,List.map_nil]
    have S6:=C5 (T.take i) (T[i]).2.2.2.2.1 (T[i]).2.2.2.2.2.1
    refine Eq.trans (congrArg (fun b:Bool=>bif b then (some (([]:List Seen),(6:Int),()):Option aH.Out) else self (L++(T.take i).map (oV ps)++[(qH (dq oT M [(T[i]).2.2.2.2.1,(T[i]).2.2.2.2.2.1]) ((0:Int),(0:Int),(0:Int),([]:List UInt8),()),(T[i]).2)],gH oT ((T.take i).map r_) [(T[i]).2.2.2.2.1,(T[i]).2.2.2.2.2.1] true,ae ((i:Int)+1))) S6) ?_
    cases hc:(T.take i).any (fun z=>decide ((T[i]).2.2.2.2.1=z.2.2.2.2.1)&&decide ((T[i]).2.2.2.2.2.1=z.2.2.2.2.2.1)) with
    | true=>rfl
    | false=>
     simp only[cond_false,Bool.false_eq_true,if_false]
     have nM:gH oT ((T.take i).map r_) [(T[i]).2.2.2.2.1,(T[i]).2.2.2.2.2.1] true=(T.take i).map r_++[r_ T[i]]:=vF oT _ _ _ fun e he=>by
      obtain ⟨z,hz,rfl⟩:=List.mem_map.1 he
      have h1:=List.any_eq_false.1 hc z hz
      have:Ty.eq oT [(T[i]).2.2.2.2.1,(T[i]).2.2.2.2.2.1] (r_ z).1=_:=sM _ _ _ _
      rw[this]
      simpa using h1
     rw[nM,O2,List.append_assoc])
   (fun _ _ _ _ _ _=>trivial) (fun s self _=>by
    show aH.b3 _ _ _ _ _ _ _=_
    unfold aH.b3
    simp only[Int.lt_irrefl,decide_false,cond_false,Int.toNat_natCast,List.take_length]) () trivial k (by omega)
  rw[vA A9 (some (([]:List Seen),(6:Int),())) (fun _=>aH.Q3 k (ps,()) T M (T.length:Int) (L++T.map (oV ps))) (fun y z=>decide (y.2.2.2.2.1=z.2.2.2.2.1)&&decide (y.2.2.2.2.2.1=z.2.2.2.2.2.1)) (fun y z=>?_) T,LB] at this
  ·simp only[Int.toNat_zero,List.take_zero,List.map_nil,List.append_nil] at this
   exact this
  ·unfold A9
   simp only[Bool.and_eq_true,decide_eq_true_eq]
   constructor
   ·rintro ⟨h1,Y⟩;exact ⟨_,rfl,by rw[h1,Y]⟩
   ·rintro ⟨b,h1,Y⟩
    injection h1 with h1
    injection Y with Y
    rw[<-Y] at h1
    injection h1 with h3 h4
    exact ⟨h3,h4⟩
 rw[S5]
 by_cases gw:((aR ps).filterMap oR).Nodup
 rotate_left
 ·simp only[gw,if_false]
  rfl
 simp only[gw,if_true]
 show aH.q3 _ _ _ _ _ _=_
 unfold aH.q3
 have LC:=GI h bb
 have uV:(wl ps).length<=192:=by
  have:=LC.length_eq
  rw[List.length_map] at this
  have:=t_ h.1
  omega
 obtain ⟨r,mF,nv,KE⟩:=Kl (wl ps) (by omega)
 rw[mF]
 simp only[Option.bind_some]
 have n8:r.length<=192:=by have:=nv.length_eq;omega
 have Lh:=nv.trans LC
 have P6:(r.map fun x=>rk x.1).Nodup↔((iU ps).map fun x=>rk (fT x)).Nodup:=by
  have h1:(r.map fun x=>rk x.1).Perm (((iU ps).map oU).map fun x=>rk x.1):=Lh.map _
  rw[h1.nodup_iff,List.map_map]
  exact Iff.rfl
 refine (Km ps k hk r n8).trans ?_
 by_cases lG:((iU ps).map fun x=>rk (fT x)).Nodup
 ·have P7:=I0 KE (P6.2 lG)
  have kK:=C3 Lh P7 (by rw[List.map_map];exact lG)
  simp only[lG,if_true,E3 r P7]
  rw[kK]
 ·have:¬ sq r=true:=fun ha=>lG (P6.1 (IY (IZ r ha)))
  simp only[lG,this,if_false]
  rfl
theorem wB (ps:fS) (hp:∀ p ∈ ps,p.length<=maxLen):bO.ab (ps,())=some (rZ ps,jU ps,()):=by
 refine ag (k:=300) fun k hk=>(bO.aa k _).trans ?_
 unfold bO.p rZ jU
 by_cases hl:12 < ps.length
 ·have:(12:Int) < (ps.length:Int):=by omega
  simp only[this,decide_true,cond_true,hl,if_true]
  rfl
 have gE:¬ ((12:Int) < (ps.length:Int)):=by omega
 simp only[gE,decide_false,cond_false,hl,if_false]
 have inner:∀ (self:(fS×fS×Int×Int)->Option bO.Out) (e0:fS->Option bO.Out) (i:Nat) (hi:i < ps.length),kV ps[i]->bO.r1 k self e0 (ps,()) ps ps[i] ps (ps.length:Int) (i:Int) (pn ps[i]:Int) (0:Int)=if (List.range (pn ps[i])).all (nC ps[i]) then self (ps,ps,(ps.length:Int),ae ((i:Int)+1)) else some (([]:List Seen),(5:Int),()):=fun self e0 i hi aA=>by
  have hn:=aA.n
  have hlen:=aA.len
  have:=qs (B:=fun cg v=>bO.B1 k cg (fun z=>bO.Q0 k self e0 (ps,()) ps ps[i] ps (ps.length:Int) (i:Int) (pn ps[i]:Int) z) (ps,()) ps ps[i] ps (ps.length:Int) (i:Int) (pn ps[i]:Int) v) (pn ps[i]) (fun (_:Unit) (j:Int)=>j) (fun j _=>if nC ps[i] j then .inr () else .inl (some (([]:List Seen),(5:Int),()))) (fun _=>self (ps,ps,(ps.length:Int),ae ((i:Int)+1))) (fun _ _=>True) (by omega)
   (fun j hj s cg hI=>by
    show bO.b1 _ _ _ _ _ _ _ _ _ _=_
    unfold bO.b1 nC
    have aj:(j:Int) < (pn ps[i]:Int):=by omega
    simp only[aj,decide_true,cond_true,yF aA,hj,Bool.true_and,Option.bind_some]
    by_cases hz:aM ps[i] j=0
    ·simp only[hz,decide_true,Bool.not_true,cond_false,Bool.true_or,if_true]
    ·simp only[hz,decide_false,Bool.not_false,cond_true,uz aA hj,uy _ (Nat.le_trans (nB aA hj) (by omega)),Option.bind_some,Bool.false_or]
     cases hc:(cR (ep ps[i] j)).2 with
     | true=>
      have:=(ua _ hc).1
      simp only[if_true,this,decide_true,Bool.not_true,cond_false]
     | false=>rfl)
   (fun _ _ _ _ _ _=>trivial) (fun s cg hI=>by
    show bO.b1 _ _ _ _ _ _ _ _ _ _=_
    unfold bO.b1
    simp only[Int.lt_irrefl,decide_false,cond_false]
    rfl) () trivial k (by omega)
  rw[mn] at this
  exact this
 have outer:bO.r0 k (ps,()) (ps,ps,(ps.length:Int),(0:Int))=if ig oQ ps=0 then bO.Q1 k (ps,()) ps else some (([]:List Seen),ig oQ ps,()):=by
  have:=bE (B:=fun self v=>bO.B0 k self (fun z=>bO.Q1 k (ps,()) z) (ps,()) v) ps (fun (_:Unit) (i:Int)=>(ps,ps,(ps.length:Int),i)) (fun i _ p=>if oQ p=0 then .inr () else .inl (some (([]:List Seen),oQ p,()))) (fun _=>bO.Q1 k (ps,()) ps) (fun _ _=>True) (by rw[ah];omega)
   (fun i hi s self hI=>by
    show bO.b0 _ _ _ _ _=_
    unfold bO.b0 oQ
    have aj:(i:Int) < (ps.length:Int):=by omega
    simp only[aj,decide_true,cond_true,Int.natCast_nonneg,if_true,Int.toNat_natCast,List.getElem?_eq_getElem hi,Option.bind_some,DZ _ (hp _ (List.getElem_mem hi))]
    by_cases h0:oP ps[i]=0
    ·have aA:=vx.1 h0
     rw[decide_eq_true h0]
     simp only[Bool.not_true,cond_false,rV aA.len,Option.bind_some,inner self _ i hi aA,h0,if_true]
     by_cases hc:(List.range (pn ps[i])).all (nC ps[i])=true
     ·simp only[hc,if_true]
     ·simp only[hc,Bool.false_eq_true,if_false]
      rfl
    ·rw[decide_eq_false h0]
     simp only[Bool.not_false,cond_true,h0,if_false])
   (fun _ _ _ _ _ _=>trivial) (fun s self _=>by
    show bO.b0 _ _ _ _ _=_
    unfold bO.b0
    simp only[Int.lt_irrefl,decide_false,cond_false]) () trivial k (by omega)
  rw[qi oQ (fun c=>some (([]:List Seen),c,())) (fun _=>bO.Q1 k (ps,()) ps)] at this
  exact this
 rw[outer]
 by_cases hc:ig oQ ps=0
 ·simp only[hc,if_true]
  show bO.q1 _ _=_
  unfold bO.q1
  rw[D3 ps (C0 (by omega) hc)]
  rfl
 ·simp only[hc,if_false]
end OT
set_option linter.unusedVariables false
set_option linter.unusedSimpArgs false
set_option linter.unusedSectionVars false
namespace OT
open Go
structure A_ (ps:fS):Prop where
 right:mW ps
 cells:qB ps
 Tm:(aR ps).all (kw ps)=true
 Tq:((aR ps).filterMap oR).Nodup
 keys:((iU ps).map fun x=>rk (fT x)).Nodup
 list:rZ ps=ub ((iU ps).map oU)
theorem sN {ps:fS} (h:jU ps=0):A_ ps:=by
 obtain ⟨h1,Y,h3⟩:=qu h
 have hc:=C0 h1.1 Y
 unfold t8 at h3
 split at h3
 ·rename_i a1
  split at h3
  ·rename_i a2
   split at h3
   ·rename_i a3
    exact ⟨h1,hc,a1,a2,a3,by unfold rZ;rw[if_pos h]⟩
   ·cases h3
  ·cases h3
 ·cases h3
theorem GJ {ps:fS} (h:A_ ps):(rZ ps).Perm ((iU ps).map oU):=by rw[h.list];exact yN _
theorem vH {ps:fS} (h:A_ ps):(rZ ps).length<=192:=by
 have:=(GJ h).length_eq
 rw[List.length_map] at this
 have:=t_ h.right
 omega
def kB (ps:fS):List Row:=(rZ ps).map (·.1)
theorem C7 {ps:fS} (h:A_ ps):kB ps=yJ ((iU ps).map fT):=by
 unfold kB
 rw[h.list,Aj,List.map_map]
 rfl
theorem wC (l:List Seen) (hl:l.length<=1000):fC.ab (l,())=some (l.map (·.1),()):=by
 refine ag (k:=1100) fun q hq=>(fC.aa q _).trans ?_
 have:=br (B:=fun self v=>fC.B0 q self (fun z=>fC.Q0 q (l,()) z) (l,()) v) l (fun (s:List Row) (i:Int)=>(s,i)) (fun _ s x=>.inr (s++[x.1])) (fun s=>(s,())) (fun i s=>s.length=i) (by rw[ah];omega)
  (fun i hi s self hs=>by
   show fC.b0 _ _ _ _=_
   unfold fC.b0
   have aj:(i:Int) < (l.length:Int):=by omega
   rw[decide_eq_true aj,cond_true,if_pos (Int.natCast_nonneg i)]
   simp only[Int.toNat_natCast,List.getElem?_eq_getElem hi,Option.bind_some]
   rw[if_pos (cD (by simp only[List.length_cons,List.length_nil];omega))])
  (fun i hi s s' hs hf=>by injection hf with hf;subst hf;simp[hs]) (fun s self _=>by
   show fC.b0 _ _ _ _=_
   unfold fC.b0
   rw[decide_eq_false (Int.lt_irrefl _),cond_false]
   rfl) [] rfl q (by omega)
 rw[ei (g:=fun (s:List Row) (x:Seen)=>s++[x.1])] at this
 refine this.trans ?_
 have hm:∀ (xs:List Seen) (s:List Row),xs.foldl (fun s x=>s++[x.1]) s=s++xs.map (·.1):=by
  intro xs
  induction xs with
  | nil=>intro s;simp
  | cons x xs ih=>intro s;rw[List.foldl_cons,ih];simp
 rw[hm,List.nil_append]
theorem uC {ps:fS} (h:jU ps=0):c7.ab (ps,())=some (kB ps,()):=by
 have hr:=qu h
 have hl:=t_ hr.1
 refine ag (k:=300) fun k hk=>(c7.aa k _).trans ?_
 unfold c7.p
 rw[wA ps hr.1]
 simp only[Option.bind_some]
 have:=br (B:=fun self v=>c7.B0 k self (fun z=>c7.Q0 k (ps,()) (iU ps) z) (ps,()) (iU ps) v) (iU ps) (fun (s:List Row) (i:Int)=>(s,i)) (fun _ s x=>.inr (jJ s (fT x))) (fun s=>(s,())) (fun i s=>s.length<=i) (by rw[ah];omega)
  (fun i hi s self hs=>by
   show c7.b0 _ _ _ _ _=_
   unfold c7.b0
   have aj:(i:Int) < ((iU ps).length:Int):=by omega
   rw[decide_eq_true aj,cond_true,if_pos ⟨Int.natCast_nonneg i,aj⟩]
   simp only[Int.toNat_natCast,List.getElem?_eq_getElem hi,Option.bind_some]
   rw[yG _ _ (by omega)]
   rfl)
  (fun i hi s s' hs hf=>by
   injection hf with hf
   subst hf
   unfold jJ
   simp only[List.length_append,List.length_take,List.length_drop,List.length_cons,List.length_nil]
   omega) (fun s self _=>by
   show c7.b0 _ _ _ _ _=_
   unfold c7.b0
   rw[decide_eq_false (Int.lt_irrefl _),cond_false]
   rfl) [] (Nat.le_refl 0) k (by omega)
 rw[ei (g:=fun (s:List Row) (x:ax)=>jJ s (fT x))] at this
 refine this.trans ?_
 rw[C7 (sN h)]
 unfold yJ
 rw[List.foldl_map]
end OT
set_option linter.unusedVariables false
set_option linter.unusedSimpArgs false
namespace OT
open Go
def bl (x:cE):Int:=(List.length x.2.1:Int)
def jF (s:Int) (x:cE):Sum (Int×Unit) Int:=
 if cA x.1 0 63 then (if cA (bl x) 1 64 then (if 64 < x.1+bl x then .inl (3,()) else if x.1 < s then .inl (1,()) else .inr (x.1+bl x+1)) else .inl (3,())) else .inl (3,())
def yO (s:Int) (xs:List cE):Int:=(aU (fun _ s x=>jF s x) (fun _=>((0:Int),())) 0 xs s).1
def lZ (xs:List cE):Int:=if 64 < xs.length then 2 else yO 0 xs
theorem sa {s s':Int} {x:cE} (h:jF s x=.inr s'):0<=x.1/\x.1<=63/\1<=bl x/\bl x<=64/\x.1+bl x<=64/\s<=x.1/\s'=x.1+bl x+1:=by
 unfold jF at h
 split at h
 ·rename_i h1
  split at h
  ·rename_i Y
   split at h
   ·cases h
   ·split at h
    ·cases h
    ·injection h with h
     simp only[cA,Bool.and_eq_true,decide_eq_true_eq] at h1 Y
     omega
  ·cases h
 ·cases h
theorem xl {s:Int} {x:cE} {o:Int×Unit} (h:jF s x=.inl o):o.1≠0:=by
 unfold jF at h
 split at h
 ·split at h
  ·split at h
   ·injection h with h;subst h;decide
   ·split at h
    ·injection h with h;subst h;decide
    ·cases h
  ·injection h with h;subst h;decide
 ·injection h with h;subst h;decide
theorem E4 {S O α:Type} {f:S->α->Sum O S} {fin:S->O}:∀ (xs:List α) (i j:Nat) (s:S),aU (fun _ s x=>f s x) fin i xs s=aU (fun _ s x=>f s x) fin j xs s
 | [],_,_,_=>rfl
 | x::xs,i,j,s=>by
  simp only[aU]
  split
  ·rfl
  ·exact E4 xs _ _ _
theorem ud (s:Int) (x:cE) (xs:List cE):yO s (x::xs)=match jF s x with | .inl o=>o.1 | .inr s'=>yO s' xs:=by
 unfold yO
 simp only[aU]
 cases h:jF s x with
 | inl o=>rfl
 | inr s'=>simp only;rw[E4 xs 1 0]
theorem yP:∀ (xs:List cE) (s:Int),yO s xs=0->∀ x ∈ xs,0<=x.1/\x.1<=63/\1<=bl x/\bl x<=64
 | [],_,_,_,hx=>by cases hx
 | y::ys,s,h,x,hx=>by
  rw[ud] at h
  cases hs:jF s y with
  | inl o=>rw[hs] at h;exact absurd h (xl hs)
  | inr s'=>
   rw[hs] at h
   have:=sa hs
   rcases List.mem_cons.1 hx with e | e
   ·subst e;omega
   ·exact yP ys s' h x e
theorem GK {xs:List cE} (h:lZ xs=0):List.length xs<=64/\∀ x ∈ xs,0<=x.1/\x.1<=63/\1<=bl x/\bl x<=64:=by
 unfold lZ at h
 split at h
 ·cases h
 ·exact ⟨by omega,yP xs 0 h⟩
theorem I2 {y z:cE} {ys:List cE} (h:lZ (y::z::ys)=0):List.length y.2.1≠64:=by
 unfold lZ at h
 split at h
 ·cases h
 ·rw[ud] at h
  cases hs:jF 0 y with
  | inl o=>rw[hs] at h;exact absurd h (xl hs)
  | inr s'=>
   rw[hs] at h
   have h1:=sa hs
   simp only[ud] at h
   cases no:jF s' z with
   | inl o=>rw[no] at h;exact absurd h (xl no)
   | inr s2=>
    have Y:=sa no
    have:bl y=(List.length y.2.1:Int):=rfl
    omega
theorem D4 (xs:List cE):cU.ab (xs,())=some (lZ xs,()):=by
 refine ag (k:=66) fun k hk=>(cU.aa k _).trans ?_
 unfold cU.p lZ
 by_cases hl:64 < xs.length
 ·have:(64:Int) < (xs.length:Int):=by omega
  simp only[hl,this,decide_true,cond_true,if_true]
 have gE:¬ (64:Int) < (xs.length:Int):=by omega
 have:=br (B:=fun self v=>cU.B0 0 self (fun z=>cU.Q0 0 (xs,()) z) (xs,()) v) xs (fun (s:Int) (i:Int)=>(s,i)) (fun _ s x=>jF s x) (fun _=>(0,())) (fun _ _=>True) (by rw[ah];omega)
  (fun i hi s self _=>by
   show cU.b0 _ _ _ _=_
   unfold cU.b0
   have aj:(i:Int) < (xs.length:Int):=by omega
   simp only[aj,decide_true,cond_true,Int.natCast_nonneg,if_true,Int.toNat_natCast,List.getElem?_eq_getElem hi,Option.bind_some,lL]
   generalize xs[i]=x
   unfold jF bl cA
   by_cases a1:(0:Int)<=x.1
   rotate_left
   ·simp[a1]
   by_cases a2:x.1<=63
   rotate_left
   ·simp[a2]
   by_cases a3:(1:Int)<=(List.length x.2.1:Int)
   rotate_left
   ·simp[a1,a2,a3]
   by_cases a4:(List.length x.2.1:Int)<=64
   rotate_left
   ·simp[a1,a2,a4]
   have e1:ae (x.1+(List.length x.2.1:Int))=x.1+(List.length x.2.1:Int):=aP (by omega)
   have e2:ae (x.1+(List.length x.2.1:Int)+1)=x.1+(List.length x.2.1:Int)+1:=aP (by omega)
   simp only[a1,a2,a3,a4,e1,e2,decide_true,Bool.and_self,Bool.not_true,cond_false,if_true]
   by_cases a5:64 < x.1+(List.length x.2.1:Int)
   ·simp[a5]
   by_cases a6:x.1 < s
   ·simp[a5,a6]
   simp[a5,a6]) (fun _ _ _ _ _ _=>trivial) (fun s self _=>by
   show cU.b0 _ _ _ _=_
   unfold cU.b0
   simp[cU.Q0,cU.q0]) 0 trivial k (by omega)
 simp only[hl,if_false,gE,decide_false,cond_false]
 exact this
theorem wD (xs:List cE):dJ.ab (xs,())=some (lZ xs,()):=by
 refine ag (k:=66) fun k hk=>(dJ.aa k _).trans ?_
 unfold dJ.p lZ
 by_cases hl:64 < xs.length
 ·have:(64:Int) < (xs.length:Int):=by omega
  simp only[hl,this,decide_true,cond_true,if_true]
 have gE:¬ (64:Int) < (xs.length:Int):=by omega
 have:=br (B:=fun self v=>dJ.B0 0 self (fun z=>dJ.Q0 0 (xs,()) z) (xs,()) v) xs (fun (s:Int) (i:Int)=>i) (fun _ s x=>jF s x) (fun _=>(0,()))
  (fun i s=>(i=0->s=0)/\∀ y,0 < i->xs[i - 1]?=some y->0<=y.1/\y.1<=63/\bl y<=64/\s=y.1+bl y+1) (by rw[ah];omega)
  (fun i hi s self hI=>by
   show dJ.b0 _ _ _ _=_
   unfold dJ.b0
   have aj:(i:Int) < (xs.length:Int):=by omega
   simp only[aj,decide_true,cond_true,Int.natCast_nonneg,if_true,Int.toNat_natCast,List.getElem?_eq_getElem hi,Option.bind_some,iQ]
   generalize xs[i]=x
   unfold jF bl cA
   by_cases a1:(0:Int)<=x.1
   rotate_left
   ·simp[a1]
   by_cases a2:x.1<=63
   rotate_left
   ·simp[a2]
   by_cases a3:(1:Int)<=(List.length x.2.1:Int)
   rotate_left
   ·simp[a1,a2,a3]
   by_cases a4:(List.length x.2.1:Int)<=64
   rotate_left
   ·simp[a1,a2,a4]
   have e1:ae (x.1+(List.length x.2.1:Int))=x.1+(List.length x.2.1:Int):=aP (by omega)
   simp only[a1,a2,a3,a4,e1,decide_true,Bool.and_self,Bool.not_true,cond_false,if_true]
   by_cases a5:64 < x.1+(List.length x.2.1:Int)
   ·simp[a5]
   by_cases h0:i=0
   ·subst h0
    have:=hI.1 rfl
    subst this
    have a6:¬ x.1 < 0:=by omega
    simp[a5,a6]
   ·have yE:i - 1 < xs.length:=by omega
    obtain ⟨y0,y1,y2,y3⟩:=hI.2 xs[i - 1] (by omega) (List.getElem?_eq_getElem yE)
    have hp:(0:Int) < (i:Int):=by omega
    have ew:ae ((i:Int) - 1)=((i - 1:Nat):Int):=by rw[aP (by omega)];omega
    unfold bl at y2 y3
    have e2:ae ((xs[i - 1]).1+(List.length (xs[i - 1]).2.1:Int))=(xs[i - 1]).1+(List.length (xs[i - 1]).2.1:Int):=aP (by omega)
    simp only[a5,hp,ew,e2,decide_true,decide_false,cond_true,cond_false,Int.natCast_nonneg,if_true,if_false,Int.toNat_natCast,List.getElem?_eq_getElem yE,Option.bind_some]
    by_cases a6:x.1 < s
    ·have:x.1<=(xs[i - 1]).1+(List.length (xs[i - 1]).2.1:Int):=by omega
     simp[a6,this]
    ·have:¬ x.1<=(xs[i - 1]).1+(List.length (xs[i - 1]).2.1:Int):=by omega
     simp[a6,this])
  (fun i hi s s' _ hs=>⟨fun e=>by omega,fun y _ hy=>by
   rw[Nat.add_sub_cancel,List.getElem?_eq_getElem hi] at hy
   injection hy with hy;subst hy
   have:=sa hs
   omega⟩) (fun s self _=>by
   show dJ.b0 _ _ _ _=_
   unfold dJ.b0
   simp[dJ.Q0,dJ.q0]) 0 ⟨fun _=>rfl,fun y h=>by omega⟩ k (by omega)
 simp only[hl,if_false,gE,decide_false,cond_false]
 exact this
def yQ (k:Int) (xs:List cE):Int:=match xs with
 | []=>1
 | y::_=>if decide (k=4)&&!decide (List.length y.2.1=64) then 1 else 0
def l5 (r:aL):Int:=
 if !cA r.1 1 6||(!cA r.1 2 4&&(!decide (r.2.2.1=0)||decide (0 < List.length r.2.2.2.1)))||(decide (r.1=4)&&!decide (r.2.1=0)) then 1
 else if (!decide (r.1=4)&&!cA r.2.1 1 99)||!cA r.2.2.1 0 11 then 3
 else if !cA r.1 2 4 then 0
 else if lZ r.2.2.2.1=0 then yQ r.1 r.2.2.2.1 else lZ r.2.2.2.1
theorem vI (k:Int):gm.ab (k,())=some (cA k 2 4,()):=by
 refine ag (k:=0) fun n _=>(gm.aa n _).trans ?_
 show gm.p _=_
 unfold gm.p
 simp[iQ,cA]
theorem C8 (k:Int):gR.ab (k,())=some (cA k 2 4,()):=by
 refine ag (k:=0) fun n _=>(gR.aa n _).trans ?_
 show gR.p _=_
 unfold gR.p cA
 by_cases h1:k=2
 ·subst h1;rfl
 by_cases Y:k=3
 ·subst Y;rfl
 by_cases h3:k=4
 ·subst h3;rfl
 have:(decide ((2:Int)<=k)&&decide (k<=4))=false:=by
  by_cases h4:(2:Int)<=k
  ·have:¬ k<=4:=by omega
   simp[this]
  ·simp[h4]
 simp[h1,Y,h3,this]
theorem yR (r:aL):gf.ab (r,())=some (l5 r,()):=by
 obtain ⟨k,t,p,xs,⟨⟩⟩:=r
 refine ag (k:=0) fun n _=>(gf.aa n _).trans ?_
 show gf.p _=_
 unfold gf.p l5
 simp only[iQ,vI,wD,Option.bind_some,show ∀ a b c:Int,(decide (b<=a)&&decide (a<=c))=cA a b c from fun _ _ _=>rfl]
 have h0:decide ((0:Int) < (xs.length:Int))=decide (0 < xs.length):=by simp
 have hj:(dJ.ab (xs,()))=some (lZ xs,()):=wD xs
 rw[h0]
 have hh:(bif decide ((List.length xs:Int)=0) then some ((1:Int),()) else bif decide (k=4) then (xs[0]?).bind fun CE=>bif !decide ((List.length CE.2.1:Int)=64) then some ((1:Int),()) else some (0,()) else some (0,()))=some (yQ k xs,()):=by
  cases xs with
  | nil=>rfl
  | cons y ys=>
   have:¬ ((List.length (y::ys):Int)=0):=by simp only[List.length_cons];omega
   simp only[this,decide_false,cond_false,yQ,List.getElem?_cons_zero,Option.bind_some]
   have N2:decide ((List.length y.2.1:Int)=64)=decide (List.length y.2.1=64):=by
    by_cases h:List.length y.2.1=64
    ·simp[h]
    ·have:¬ ((List.length y.2.1:Int)=64):=by omega
     simp[h,this]
   rw[N2]
   cases decide (k=4) <;> cases decide (List.length y.2.1=64) <;> rfl
 rw[hh]
 by_cases hr:lZ xs=0
 ·simp only[hr,decide_true,Bool.not_true,cond_false,if_true]
  cases cA k 1 6 <;> cases cA k 2 4 <;> cases decide (p=0) <;> cases decide (0 < xs.length) <;> cases decide (k=4) <;> cases decide (t=0) <;> cases cA t 1 99 <;> cases cA p 0 11 <;> rfl
 ·simp only[hr,decide_false,Bool.not_false,cond_true,if_false]
  cases cA k 1 6 <;> cases cA k 2 4 <;> cases decide (p=0) <;> cases decide (0 < xs.length) <;> cases decide (k=4) <;> cases decide (t=0) <;> cases cA t 1 99 <;> cases cA p 0 11 <;> rfl
theorem yS (r:aL):d0.ab (r,())=some (l5 r,()):=by
 obtain ⟨k,t,p,xs,⟨⟩⟩:=r
 refine ag (k:=0) fun n _=>(d0.aa n _).trans ?_
 show d0.p _=_
 unfold d0.p l5
 simp only[lL,C8,ES,D4,Option.bind_some,show ∀ a b c:Int,(decide (b<=a)&&decide (a<=c))=cA a b c from fun _ _ _=>rfl]
 have h0:decide ((0:Int) < (xs.length:Int))=decide (0 < xs.length):=by simp
 rw[h0]
 have hk:cA k 2 4=false->decide (k=4)=false:=by
  intro h
  by_cases e:k=4
  ·subst e;cases h
  ·simp[e]
 have N2:∀ y:cE,decide ((List.length y.2.1:Int)=64)=decide (List.length y.2.1=64):=fun y=>by
  by_cases h:List.length y.2.1=64
  ·simp[h]
  ·have:¬ ((List.length y.2.1:Int)=64):=by omega
   simp[h,this]
 have hz:decide (0 < xs.length)=false->xs=[]:=by
  intro h
  cases xs with
  | nil=>rfl
  | cons _ _=>simp at h
 have hh:lZ xs=0->(bif decide ((List.length xs:Int)=0) then some ((1:Int),()) else bif decide (k=4) then bif !decide ((List.length xs:Int)=1) then some ((1:Int),()) else (xs[0]?).bind fun CE=>bif !decide ((List.length CE.2.1:Int)=64) then some ((1:Int),()) else some (0,()) else some (0,()))=some (yQ k xs,()):=by
  intro hr
  cases xs with
  | nil=>rfl
  | cons y ys=>
   have:¬ ((List.length (y::ys):Int)=0):=by simp only[List.length_cons];omega
   simp only[this,decide_false,cond_false,yQ,List.getElem?_cons_zero,Option.bind_some,N2]
   cases ys with
   | nil=>cases decide (k=4) <;> cases decide (List.length y.2.1=64) <;> rfl
   | cons z ys=>
    have h1:=I2 hr
    have Y:¬ ((List.length (y::z::ys):Int)=1):=by simp only[List.length_cons];omega
    simp only[h1,Y,decide_false]
    cases decide (k=4) <;> rfl
 cases gr:cA k 2 4 with
 | false=>
  have S7:=hk gr
  have TO:lZ ([]:List cE)=0:=rfl
  simp only[S7]
  by_cases hx:xs=[]
  ·subst hx
   cases cA k 1 6 <;> cases decide (p=0) <;> cases cA t 1 99 <;> cases cA p 0 11 <;> rfl
  ·have Bs:decide (0 < xs.length)=true:=by
    cases xs with
    | nil=>exact absurd rfl hx
    | cons _ _=>simp
   simp only[Bs]
   cases cA k 1 6 <;> cases decide (p=0) <;> rfl
 | true=>
  by_cases hr:lZ xs=0
  ·have hh:=hh hr
   simp only[hr,decide_true,Bool.not_true,cond_false,cond_true,if_true,hh]
   cases cA k 1 6 <;> cases decide (k=4) <;> cases decide (t=0) <;> cases cA t 1 99 <;> cases cA p 0 11 <;> rfl
  ·simp only[hr,decide_false,Bool.not_false,cond_true,if_false]
   cases cA k 1 6 <;> cases decide (k=4) <;> cases decide (t=0) <;> cases cA t 1 99 <;> cases cA p 0 11 <;> rfl
theorem om {r:aL} (h:l5 r=0):1<=r.1/\r.1<=6/\0<=r.2.1/\r.2.1<=99/\0<=r.2.2.1/\r.2.2.1<=11/\List.length r.2.2.2.1<=64/\∀ x ∈ r.2.2.2.1,0<=x.1/\x.1<=63/\1<=bl x/\bl x<=64:=by
 obtain ⟨k,t,p,xs,⟨⟩⟩:=r
 unfold l5 at h
 split at h
 ·cases h
 rename_i h1
 split at h
 ·cases h
 rename_i Y
 have hx:List.length xs<=64/\∀ x ∈ xs,0<=x.1/\x.1<=63/\1<=bl x/\bl x<=64:=by
  split at h
  ·rename_i h3
   simp only[Bool.or_eq_true,Bool.and_eq_true,not_or,not_and,h3,forall_const] at h1
   cases xs with
   | nil=>exact ⟨by simp,fun x hx=>by cases hx⟩
   | cons y ys=>exact absurd (by simp) h1.1.2.2
  ·split at h
   ·rename_i h4;exact GK h4
   ·rename_i h4;exact absurd h h4
 simp only[Bool.or_eq_true,Bool.and_eq_true,not_or,not_and,cA,Bool.not_eq_true',Bool.and_eq_false_iff,decide_eq_false_iff_not,decide_eq_true_eq] at h1 Y
 refine ⟨?_,?_,?_,?_,?_,?_,hx⟩ <;> by_cases hk:k=4 <;> simp_all <;> omega
end OT
set_option linter.unusedVariables false
set_option linter.unusedSimpArgs false
namespace OT
open Go
def lp (x:cE):List UInt8:=UInt8.ofInt x.1::UInt8.ofInt (List.length x.2.1:Int)::x.2.1
def ef (xs:List cE):List UInt8:=xs.flatMap lp
def l6 (r:aL):List UInt8:=[(0:UInt8),UInt8.ofInt r.1,UInt8.ofInt r.2.1,UInt8.ofInt r.2.2.1,UInt8.ofInt (List.length r.2.2.2.1:Int)]
def nS (s:Int) (l:List UInt8):Int:=l.foldl (fun s c=>(s*31+(c.toNat:Int)) % 65521) s
def C9 (r:aL):List UInt8:=(l6 r++ef r.2.2.2.1).set 0 (UInt8.ofInt (ae (((l6 r++ef r.2.2.2.1).length:Int)+2)))
def qv (r:aL):List UInt8:=C9 r++[UInt8.ofInt ((nS 1 (C9 r)) / 256),UInt8.ofInt (nS 1 (C9 r))]
def yT (r:aL):Prop:=List.length r.2.2.2.1<=64/\∀ x ∈ r.2.2.2.1,List.length x.2.1<=64
theorem C_ {r:aL} (h:l5 r=0):yT r:=by
 have:=om h
 refine ⟨this.2.2.2.2.2.2.1,fun x hx=>?_⟩
 have Y:=this.2.2.2.2.2.2.2 x hx
 unfold bl at Y
 omega
theorem vJ (xs ys:List cE):ef (xs++ys)=ef xs++ef ys:=List.flatMap_append
theorem l7 (x:cE) (xs:List cE):ef (x::xs)=lp x++ef xs:=List.flatMap_cons
theorem vK {xs:List cE} (h:∀ x ∈ xs,List.length x.2.1<=64):(ef xs).length<=66*xs.length:=by
 induction xs with
 | nil=>simp[ef]
 | cons x xs ih=>
  have h1:=ih fun y hy=>h y (by simp[hy])
  have Y:=h x (by simp)
  rw[l7]
  simp only[List.length_append,List.length_cons,lp]
  omega
theorem Mk (r:aL):(C9 r).length=5+(ef r.2.2.2.1).length:=by simp[C9,l6];omega
theorem Am (r:aL):(qv r).length=7+(ef r.2.2.2.1).length:=by
 simp only[qv,List.length_append,Mk,List.length_cons,List.length_nil];omega
theorem D5 {r:aL} (h:yT r):(qv r).length<=5000:=by
 rw[Am]
 have:=vK h.2
 have:=h.1
 omega
theorem E5:∀ (l:List UInt8) (s:Int),0<=s/\s < 65521->0<=nS s l/\nS s l < 65521
 | [],s,h=>h
 | c::l,s,h=>E5 l ((s*31+(c.toNat:Int)) % 65521) ⟨Int.emod_nonneg _ (by omega),Int.emod_lt_of_pos _ (by omega)⟩
theorem I3 {s:Int} (h:0<=s):UInt8.ofInt (s.tmod 256)=UInt8.ofInt s:=by
 rw[Int.tmod_eq_emod_of_nonneg h]
 apply UInt8.toBitVec_inj.1
 apply BitVec.eq_of_toNat_eq
 simp[UInt8.ofInt,BitVec.toNat_ofInt]
theorem vL:∀ (xs:List cE) (s:List UInt8),xs.foldl (fun s x=>s++lp x) s=s++ef xs
 | [],s=>by simp[ef]
 | x::xs,s=>by rw[List.foldl_cons,vL,l7,List.append_assoc]
theorem Da {s:Int} {c:UInt8} (h:0<=s/\s < 65521):((ae ((ae (s*(31:Int)))+(ae (c.toNat:Int)))).tmod (65521:Int))=(s*31+(c.toNat:Int)) % 65521:=by
 have hc:=c.toNat_lt
 have e1:ae (s*31)=s*31:=aP (by omega)
 have e2:ae (c.toNat:Int)=(c.toNat:Int):=aP (by omega)
 have e3:ae (s*31+(c.toNat:Int))=s*31+(c.toNat:Int):=aP (by omega)
 rw[e1,e2,e3,Int.tmod_eq_emod_of_nonneg (by omega)]
theorem GN (l:List UInt8) (h:l.length<=100000):fX.ab (l,())=some (nS 1 l,()):=by
 refine ag (k:=100001) fun k hk=>(fX.aa k _).trans ?_
 have:=br (B:=fun self v=>fX.B0 0 self (fun z=>fX.Q0 0 (l,()) z) (l,()) v) l (fun (s:Int) (i:Int)=>(s,i)) (fun _ s c=>.inr ((s*31+(c.toNat:Int)) % 65521)) (fun s=>(s,())) (fun _ s=>0<=s/\s < 65521) (by rw[ah];omega)
  (fun i hi s self hI=>by
   show fX.b0 _ _ _ _=_
   unfold fX.b0
   have aj:(i:Int) < (l.length:Int):=by omega
   simp only[aj,decide_true,cond_true,Int.natCast_nonneg,if_true,Int.toNat_natCast,List.getElem?_eq_getElem hi,Option.bind_some,Da hI])
  (fun i hi s s' hI hs=>by injection hs with hs;omega) (fun s self _=>by
   show fX.b0 _ _ _ _=_
   unfold fX.b0
   simp[fX.Q0,fX.q0]) 1 (by omega) k (by omega)
 rw[ei] at this
 exact this
theorem D6 (r:aL) (h:yT r):fq.ab (r,())=some (qv r,()):=by
 obtain ⟨K,T,P,xs,⟨⟩⟩:=r
 obtain ⟨h1,Y⟩:=h
 simp only at h1 Y
 refine ag (k:=100) fun k hk=>(fq.aa k _).trans ?_
 have hlen:∀ i,(ef (xs.take i)).length<=66*64:=fun i=>by
  have:=vK (xs:=xs.take i) (fun x hx=>Y x (List.mem_of_mem_take hx))
  have:(xs.take i).length<=xs.length:=by simp;omega
  omega
 have:=br (B:=fun self v=>fq.B0 0 self (fun z=>fq.Q0 0 ((K,T,P,xs,()),()) z) ((K,T,P,xs,()),()) v) xs (fun (s:List UInt8) (i:Int)=>(s,i)) (fun _ s x=>.inr (s++lp x)) (fun s=>(let q:=s.set 0 (UInt8.ofInt (ae ((s.length:Int)+2)));(q++[UInt8.ofInt ((nS 1 q) / 256),UInt8.ofInt (nS 1 q)],())))
  (fun i s=>s=l6 (K,T,P,xs,())++ef (xs.take i)) (by rw[ah];omega)
  (fun i hi s self hI=>by
   show fq.b0 _ _ _ _=_
   unfold fq.b0
   have aj:(i:Int) < (xs.length:Int):=by omega
   have hs:s.length<=5000:=by rw[hI];have:=hlen i;simp only[List.length_append,l6,List.length_cons,List.length_nil];omega
   have hx:=Y xs[i] (List.getElem_mem hi)
   simp only[aj,decide_true,cond_true,Int.natCast_nonneg,if_true,Int.toNat_natCast,List.getElem?_eq_getElem hi,Option.bind_some]
   generalize xs[i]=x at hx
   have c1:s.length+[UInt8.ofInt x.1,UInt8.ofInt (List.length x.2.1:Int)].length<=bm:=cD (by simp only[List.length_cons,List.length_nil];omega)
   have c2:(s++[UInt8.ofInt x.1,UInt8.ofInt (List.length x.2.1:Int)]).length+List.length x.2.1<=bm:=cD (by simp only[List.length_append,List.length_cons,List.length_nil];omega)
   simp only[c1,c2,if_true,lp,List.append_assoc,List.cons_append,List.nil_append])
  (fun i hi s s' hI hs=>by
   injection hs with hs
   rw[<-hs,hI,List.take_succ_eq_append_getElem hi,vJ,List.append_assoc]
   simp[ef]) (fun s self hI=>by
   show fq.b0 _ _ _ _=_
   unfold fq.b0
   have hs:5<=s.length/\s.length<=5000:=by rw[hI];have:=hlen xs.length;simp only[List.length_append,l6,List.length_cons,List.length_nil];omega
   simp only[Int.lt_irrefl,decide_false,cond_false,fq.Q0,fq.q0]
   have c0:(0:Int)<=0/\(0:Int) < (s.length:Int):=⟨by omega,by omega⟩
   rw[if_pos c0,List.getElem?_eq_getElem (by omega:0 < s.length)]
   simp only[Option.bind_some]
   generalize hq:s.set 0 (UInt8.ofInt (ae ((s.length:Int)+2)))=q
   have S8:q.length=s.length:=by rw[<-hq];simp
   rw[GN q (by omega)]
   simp only[Option.bind_some]
   have hb:=E5 q 1 (by omega)
   have c1:q.length+[UInt8.ofInt (ae ((nS 1 q).tdiv 256)),UInt8.ofInt ((nS 1 q).tmod 256)].length<=bm:=cD (by simp only[List.length_cons,List.length_nil];omega)
   rw[if_pos c1,I3 hb.1,Int.tdiv_eq_ediv_of_nonneg hb.1,aP (by omega)]) (l6 (K,T,P,xs,())) (by simp[ef]) k (by omega)
 rw[ei,vL] at this
 exact this
theorem D7 (r:aL) (h:yT r):cj.ab (r,())=some (qv r,()):=by
 obtain ⟨K,T,P,xs,⟨⟩⟩:=r
 obtain ⟨h1,Y⟩:=h
 simp only at h1 Y
 refine ag (k:=6000) fun k hk=>(cj.aa k _).trans ?_
 have hlen:∀ i,(ef (xs.take i)).length<=66*64:=fun i=>by
  have:=vK (xs:=xs.take i) (fun x hx=>Y x (List.mem_of_mem_take hx))
  have:(xs.take i).length<=xs.length:=by simp;omega
  omega
 have QY:∀ q:List UInt8,q.length<=5000->cj.r1 k ((K,T,P,xs,()),()) q (q.length:Int) (1,0)=some (q++[UInt8.ofInt ((nS 1 q) / 256),UInt8.ofInt (nS 1 q)],()):=fun q hq=>by
  have:=br (B:=fun self v=>cj.B1 0 self (fun z=>cj.Q1 0 ((K,T,P,xs,()),()) q (q.length:Int) z) ((K,T,P,xs,()),()) q (q.length:Int) v) q (fun (s:Int) (i:Int)=>(s,i)) (fun _ s c=>.inr ((s*31+(c.toNat:Int)) % 65521)) (fun s=>(q++[UInt8.ofInt (s / 256),UInt8.ofInt s],())) (fun _ s=>0<=s/\s < 65521) (by rw[ah];omega)
   (fun i hi s self hI=>by
    show cj.b1 _ _ _ _ _ _=_
    unfold cj.b1
    have aj:(i:Int) < (q.length:Int):=by omega
    have lV:(0:Int)<=(i:Int)/\(i:Int) < (q.length:Int):=by omega
    simp only[aj,lV,and_self,decide_true,cond_true,Int.natCast_nonneg,if_true,Int.toNat_natCast,List.getElem?_eq_getElem hi,Option.bind_some,Da hI])
   (fun i hi s s' hI hs=>by injection hs with hs;omega) (fun s self hI=>by
    show cj.b1 _ _ _ _ _ _=_
    unfold cj.b1
    simp only[Int.lt_irrefl,decide_false,cond_false,cj.Q1,cj.q1]
    have c1:q.length+[UInt8.ofInt (s.fdiv (2 ^ 8)),UInt8.ofInt s].length<=bm:=cD (by simp only[List.length_cons,List.length_nil];omega)
    rw[if_pos c1,Int.fdiv_eq_ediv_of_nonneg s (by omega:(0:Int)<=2 ^ 8)]
    rfl) 1 (by omega) k (by omega)
  rw[ei] at this
  exact this
 have:=br (B:=fun self v=>cj.B0 k self (fun z=>cj.Q0 k ((K,T,P,xs,()),()) z) ((K,T,P,xs,()),()) v) xs (fun (s:List UInt8) (i:Int)=>(s,i)) (fun _ s x=>.inr (s++lp x)) (fun s=>(let q:=s.set 0 (UInt8.ofInt (ae ((s.length:Int)+2)));(q++[UInt8.ofInt ((nS 1 q) / 256),UInt8.ofInt (nS 1 q)],())))
  (fun i s=>s=l6 (K,T,P,xs,())++ef (xs.take i)) (by rw[ah];omega)
  (fun i hi s self hI=>by
   show cj.b0 _ _ _ _=_
   unfold cj.b0
   have aj:(i:Int) < (xs.length:Int):=by omega
   have hs:s.length<=5000:=by rw[hI];have:=hlen i;simp only[List.length_append,l6,List.length_cons,List.length_nil];omega
   have hx:=Y xs[i] (List.getElem_mem hi)
   simp only[aj,decide_true,cond_true,Int.natCast_nonneg,if_true,Int.toNat_natCast,List.getElem?_eq_getElem hi,Option.bind_some]
   generalize xs[i]=x at hx
   have c1:s.length+[UInt8.ofInt x.1,UInt8.ofInt (List.length x.2.1:Int)].length<=bm:=cD (by simp only[List.length_cons,List.length_nil];omega)
   have c2:(s++[UInt8.ofInt x.1,UInt8.ofInt (List.length x.2.1:Int)]).length+List.length x.2.1<=bm:=cD (by simp only[List.length_append,List.length_cons,List.length_nil];omega)
   simp only[c1,c2,if_true,lp,List.append_assoc,List.cons_append,List.nil_append])
  (fun i hi s s' hI hs=>by
   injection hs with hs
   rw[<-hs,hI,List.take_succ_eq_append_getElem hi,vJ,List.append_assoc]
   simp[ef]) (fun s self hI=>by
   show cj.b0 _ _ _ _=_
   unfold cj.b0
   have hs:5<=s.length/\s.length<=5000:=by rw[hI];have:=hlen xs.length;simp only[List.length_append,l6,List.length_cons,List.length_nil];omega
   simp only[Int.lt_irrefl,decide_false,cond_false,cj.Q0,cj.q0]
   have c0:(0:Int)<=0/\(0:Int) < (s.length:Int):=⟨by omega,by omega⟩
   rw[if_pos c0,List.getElem?_eq_getElem (by omega:0 < s.length)]
   simp only[Option.bind_some]
   generalize hq:s.set 0 (UInt8.ofInt (ae ((s.length:Int)+2)))=q
   have S8:q.length=s.length:=by rw[<-hq];simp
   exact QY q (by omega)) (l6 (K,T,P,xs,())) (by simp[ef]) k (by omega)
 rw[ei,vL] at this
 exact this
end OT
set_option linter.unusedVariables false
set_option linter.unusedSimpArgs false
namespace OT
open Go
def aS (D:List UInt8) (i:Nat):Nat:=(D.getD i 0).toNat
theorem jK (D:List UInt8) (i:Nat):aS D i < 256:=UInt8.toNat_lt _
theorem je {D:List UInt8} {i:Nat} (h:i < D.length):D[i]?=some D[i]/\(D[i]).toNat=aS D i:=⟨List.getElem?_eq_getElem h,by simp[aS,h]⟩
def piece (D:List UInt8) (N3 n:Nat):cE:=((aS D N3:Int),(D.take (N3+2+n)).drop (N3+2),())
def pI (D:List UInt8) (e:Nat):Nat->Nat->List cE->Option (List cE×Nat)
 | 0,a,rs=>some (rs,a)
 | c+1,a,rs=>if e < a+2 then none else if e < a+2+aS D (a+1) then none else pI D e c (a+2+aS D (a+1)) (rs++[piece D a (aS D (a+1))])
def pS (D:List UInt8):Nat->Nat->List cE->List cE
 | 0,_,rs=>rs
 | c+1,a,rs=>if a+2<=D.length then (if D.length < a+2+aS D (a+1) then rs else pS D c (a+2+aS D (a+1)) (rs++[piece D a (aS D (a+1))])) else rs
theorem GO {D:List UInt8} {e:Nat} (he:e<=D.length):∀ (c a:Nat) (rs An:List cE) (a':Nat),pI D e c a rs=some (An,a')->pS D c a rs=An
 | 0,a,rs,An,a',h=>by injection h with h;injection h
 | c+1,a,rs,An,a',h=>by
  simp only[pI] at h
  split at h
  ·cases h
  ·split at h
   ·cases h
   ·simp only[pS]
    rw[if_pos (by omega),if_neg (by omega)]
    exact GO he c _ _ _ _ h
theorem E6 {e:Nat}:∀ (ys:List cE) (pre qa:List UInt8) (rs:List cE),(∀ y ∈ ys,0<=y.1/\y.1<=63/\1<=bl y/\bl y<=64)->pre.length+(ef ys).length<=e ->
  pI (pre++ef ys++qa) e ys.length pre.length rs=some (rs++ys,pre.length+(ef ys).length)
 | [],pre,qa,rs,_,_=>by simp[pI,ef]
 | y::ys,pre,qa,rs,h,he=>by
  obtain ⟨b1,b2,b3,b4⟩:=h y (by simp)
  unfold bl at b3 b4
  have hD:pre++ef (y::ys)++qa=(pre++lp y)++ef ys++qa:=by rw[l7];simp only[List.append_assoc]
  have P8:(lp y).length=2+List.length y.2.1:=by simp only[lp,List.length_cons];omega
  have Ai:(ef (y::ys)).length=2+List.length y.2.1+(ef ys).length:=by rw[l7,List.length_append,P8]
  have h8:∀ n:Int,0<=n->n<=64->((UInt8.ofInt n).toNat:Int)=n:=fun n h1 Y=>by
   simp[UInt8.ofInt,BitVec.toNat_ofInt];omega
  have g0:(aS (pre++ef (y::ys)++qa) pre.length:Int)=y.1:=by
   unfold aS
   rw[l7]
   simp only[lp,List.append_assoc,List.getD_eq_getElem?_getD]
   rw[List.getElem?_append_right (Nat.le_refl _)]
   simpa using h8 y.1 b1 (by omega)
  have g1:aS (pre++ef (y::ys)++qa) (pre.length+1)=List.length y.2.1:=by
   unfold aS
   rw[l7]
   simp only[lp,List.append_assoc,List.getD_eq_getElem?_getD]
   rw[List.getElem?_append_right (by omega)]
   have:=h8 (List.length y.2.1:Int) (by omega) b4
   simp only[Nat.add_sub_cancel_left,List.cons_append,List.getElem?_cons_succ,List.getElem?_cons_zero,Option.getD_some]
   omega
  have g2:piece (pre++ef (y::ys)++qa) pre.length (List.length y.2.1)=y:=by
   obtain ⟨yi,yb,⟨⟩⟩:=y
   unfold piece
   have g0:(aS (pre++ef ((yi,yb,())::ys)++qa) pre.length:Int)=yi:=g0
   rw[g0]
   have:((pre++ef ((yi,yb,())::ys)++qa).take (pre.length+2+yb.length)).drop (pre.length+2)=yb:=by
    rw[l7]
    simp only[lp,List.append_assoc,List.cons_append]
    rw[List.take_append,List.drop_append]
    have e1:List.take (pre.length+2+yb.length) pre=pre:=List.take_of_length_le (by omega)
    have e2:pre.length+2+yb.length - pre.length=yb.length+1+1:=by omega
    rw[e1,e2]
    have e3:List.drop (pre.length+2) pre=[]:=List.drop_of_length_le (by omega)
    have e4:pre.length+2 - pre.length=1+1:=by omega
    rw[e3,e4]
    simp
   show (yi,((pre++ef ((yi,yb,())::ys)++qa).take (pre.length+2+yb.length)).drop (pre.length+2),())=(yi,yb,())
   rw[this]
  simp only[List.length_cons,pI]
  rw[if_neg (by omega),g1,if_neg (by omega),g2,hD]
  have hl:(pre++lp y).length=pre.length+2+List.length y.2.1:=by rw[List.length_append,P8];omega
  have:=E6 (e:=e) ys (pre++lp y) qa (rs++[y]) (fun z hz=>h z (by simp[hz])) (by rw[hl];omega)
  rw[hl] at this
  rw[this,Ai]
  simp only[List.append_assoc,List.cons_append,List.nil_append]
  congr 2
  omega
def kY (d:List UInt8):Option (aL×Nat):=
 if d.length < 7\/aS d 0 < 7\/d.length < aS d 0 then none else
 match pI (d.take (aS d 0)) (aS d 0 - 2) (aS d 4) 5 [] with
 | none=>none
 | some (rs,a)=>if a=aS d 0 - 2/\l5 ((aS d 1:Int),(aS d 2:Int),(aS d 3:Int),rs,())=0/\qv ((aS d 1:Int),(aS d 2:Int),(aS d 3:Int),rs,())=d.take (aS d 0) then
   some (((aS d 1:Int),(aS d 2:Int),(aS d 3:Int),rs,()),aS d 0) else none
theorem Db {d:List UInt8} {n i:Nat} (h:i < n) (hn:n<=d.length):aS (d.take n) i=aS d i:=by
 unfold aS
 simp only[List.getD_eq_getElem?_getD]
 rw[List.getElem?_take,if_pos h]
theorem O3 {D:List UInt8} (hl:7<=D.length) {rs:List cE} (Ao:pS D (aS D 4) 5 []=rs) {k t p:Int} (hr:l5 (k,t,p,rs,())=0) (hp:qv (k,t,p,rs,())=D):pI D (D.length - 2) (aS D 4) 5 []=some (rs,D.length - 2):=by
 have hg:=om hr
 have h1:=hg.2.2.2.2.2.2.1
 have Y:=hg.2.2.2.2.2.2.2
 simp only at h1 Y
 have hlen:=Am (k,t,p,rs,())
 rw[hp] at hlen
 simp only at hlen
 have N4:∃ (pre qa:List UInt8),pre.length=5/\D=pre++ef rs++qa/\pre[4]?=some (UInt8.ofInt (List.length rs:Int)):=by
  refine ⟨(l6 (k,t,p,rs,())).set 0 (UInt8.ofInt (ae (((l6 (k,t,p,rs,())++ef rs).length:Int)+2))),[UInt8.ofInt ((nS 1 (C9 (k,t,p,rs,()))) / 256),UInt8.ofInt (nS 1 (C9 (k,t,p,rs,())))],by simp[l6],?_,by simp[l6]⟩
  rw[<-hp]
  rfl
 obtain ⟨pre,qa,s1,s2,s3⟩:=N4
 have h4:aS D 4=List.length rs:=by
  unfold aS
  rw[s2]
  simp only[List.getD_eq_getElem?_getD,List.append_assoc]
  rw[List.getElem?_append_left (by omega),s3]
  simp[UInt8.ofInt,BitVec.toNat_ofInt]
  omega
 rw[h4]
 have:=E6 (e:=D.length - 2) rs pre qa [] Y (by omega)
 rw[<-s2,s1] at this
 rw[this]
 simp only[List.nil_append]
 congr 2
 omega
theorem jf {n:Nat} (h:n<=4000000000):ae (n:Int)=(n:Int):=aP (by omega)
theorem Dc (a b:List UInt8) (h:a.length<=100000):bB.ab (a,b,())=some (decide (a=b),()):=by
 refine ag (k:=100001) fun k hk=>(bB.aa k _).trans ?_
 unfold bB.p
 by_cases hl:a.length=b.length
 rotate_left
 ·have h1:¬ ((a.length:Int)=(b.length:Int)):=by omega
  have Y:¬ a=b:=fun e=>hl (by rw[e])
  simp only[h1,Y,decide_false,Bool.not_false,cond_true]
 have gE:(a.length:Int)=(b.length:Int):=by omega
 simp only[gE,decide_true,Bool.not_true,cond_false]
 have key:∀ (m i:Nat),a.length - i=m->i<=a.length->∀ j,m < j->al (fun self v=>bB.B0 k self (fun z=>bB.Q0 k (a,b,()) z) (a,b,()) v) j (i:Int)=some (decide (a.drop i=b.drop i),()):=by
  intro m
  induction m with
  | zero=>
   intro i hm hi j hj
   have:i=a.length:=by omega
   subst this
   cases j with
   | zero=>omega
   | succ j=>
    show bB.b0 _ _ _ _=_
    unfold bB.b0
    simp only[Int.lt_irrefl,decide_false,cond_false,bB.Q0,bB.q0]
    rw[List.drop_length,hl,List.drop_length]
    simp
  | succ m ih=>
   intro i hm hi j hj
   have aj:i < a.length:=by omega
   cases j with
   | zero=>omega
   | succ j=>
    show bB.b0 _ _ _ _=_
    unfold bB.b0
    have QZ:(i:Int) < (a.length:Int):=by omega
    have P9:i < b.length:=by omega
    have hw:ae ((i:Int)+1)=((i+1:Nat):Int):=by rw[aP (by omega)];omega
    simp only[QZ,decide_true,cond_true,Int.natCast_nonneg,if_true,Int.toNat_natCast,List.getElem?_eq_getElem aj,List.getElem?_eq_getElem P9,Option.bind_some,hw]
    rw[List.drop_eq_getElem_cons aj,List.drop_eq_getElem_cons P9]
    by_cases he:a[i]=b[i]
    ·simp only[he,decide_true,Bool.not_true,cond_false,List.cons.injEq,true_and]
     exact ih (i+1) (by omega) (by omega) j (by omega)
    ·have:¬ (((a[i]).toNat:Int)=((b[i]).toNat:Int)):=fun e=>he (UInt8.toNat_inj.1 (by omega))
     have Y:¬ (a[i]::a.drop (i+1)=b[i]::b.drop (i+1)):=fun e=>he (by injection e)
     simp only[this,Y,decide_false,Bool.not_false,cond_true]
 have:=key a.length 0 (by omega) (by omega) k (by omega)
 simp only[List.drop_zero] at this
 exact this
def GP:aL:=((0:Int),(0:Int),(0:Int),([]:List cE),())
theorem I4 {D:List UInt8} (hD:7<=D.length) (S9:D.length<=255) {a1:fw.Arg} {e0:(aL×Int)->Option fw.Out} {K T P N:Int} (hN:0<=N/\N<=255) {k:Nat} :
  ∀ (c a i:Nat) (rs:List cE),(i:Int)+c=N->a<=D.length - 2->rs.length<=i->∀ j,c < j ->
   al (fun self v=>fw.B0 k self e0 a1 D ((D.length - 2:Nat):Int) N v) j ((K,T,P,rs,()),(a:Int),(i:Int))=match pI D (D.length - 2) c a rs with
    | none=>some (GP,(0:Int),())
    | some (An,a')=>e0 ((K,T,P,An,()),(a':Int)):=by
 intro c
 induction c with
 | zero=>
  intro a i rs hi ha Ao j hj
  cases j with
  | zero=>omega
  | succ j=>
   show fw.b0 _ _ a1 _ _ _ _=_
   unfold fw.b0
   have:¬ (i:Int) < N:=by omega
   simp only[this,decide_false,cond_false,pI]
 | succ c ih=>
  intro a i rs hi ha Ao j hj
  cases j with
  | zero=>omega
  | succ j=>
   show fw.b0 _ _ a1 _ _ _ _=_
   unfold fw.b0
   have h1:(i:Int) < N:=by omega
   have e1:ae ((a:Int)+2)=((a+2:Nat):Int):=by rw[aP (by omega)];omega
   have e2:ae ((a:Int)+1)=((a+1:Nat):Int):=by rw[aP (by omega)];omega
   have e3:ae ((i:Int)+1)=((i+1:Nat):Int):=by rw[aP (by omega)];omega
   simp only[h1,decide_true,cond_true,e1,e2,e3,pI]
   by_cases Y:D.length - 2 < a+2
   ·have:((D.length - 2:Nat):Int) < ((a+2:Nat):Int):=by omega
    simp only[this,decide_true,cond_true,if_pos Y]
    rfl
   have HY:¬ ((D.length - 2:Nat):Int) < ((a+2:Nat):Int):=by omega
   obtain ⟨g1,g2⟩:=je (show a+1 < D.length by omega)
   obtain ⟨g3,g4⟩:=je (show a < D.length by omega)
   have hb:=jK D (a+1)
   have MB:=jK D a
   simp only[HY,decide_false,cond_false,if_neg Y,Int.natCast_nonneg,if_true,Int.toNat_natCast,g1,g3,Option.bind_some,g2,g4,jf (show aS D (a+1)<=4000000000 by omega),jf (show aS D a<=4000000000 by omega)]
   have e4:ae (((a+2:Nat):Int)+(aS D (a+1):Int))=((a+2+aS D (a+1):Nat):Int):=by rw[aP (by omega)];omega
   have e5:ae ((2:Int)+(aS D (a+1):Int))=((2+aS D (a+1):Nat):Int):=by rw[aP (by omega)];omega
   have e6:ae ((a:Int)+((2+aS D (a+1):Nat):Int))=((a+2+aS D (a+1):Nat):Int):=by rw[aP (by omega)];omega
   simp only[e4,e5,e6]
   by_cases h3:D.length - 2 < a+2+aS D (a+1)
   ·have:((D.length - 2:Nat):Int) < ((a+2+aS D (a+1):Nat):Int):=by omega
    simp only[this,decide_true,cond_true,if_pos h3]
    rfl
   have BY:¬ ((D.length - 2:Nat):Int) < ((a+2+aS D (a+1):Nat):Int):=by omega
   have h4:((a+2:Nat):Int)<=((a+2+aS D (a+1):Nat):Int)/\((a+2+aS D (a+1):Nat):Int)<=(D.length:Int):=by omega
   simp only[BY,decide_false,cond_false,if_neg h3,h4,and_self,if_true,Int.toNat_natCast]
   rw[uu _ (by simp only[List.length_drop,List.length_take];omega)]
   have hc:rs.length+[(((aS D a:Nat):Int),((D.take (a+2+aS D (a+1))).drop (a+2)),())].length<=bm:=cD (by simp only[List.length_cons,List.length_nil];omega)
   simp only[Option.bind_some,hc,if_true]
   exact ih (a+2+aS D (a+1)) (i+1) _ (by omega) (by omega) (by simp;omega) j (by omega)
theorem I5 {D:List UInt8} (hD:7<=D.length) (S9:D.length<=255) {e0:aL->Option fm.Out} {K T P:Int} {k:Nat} :
  ∀ (c a i:Nat) (rs:List cE),i+c=aS D 4->a<=600->rs.length<=i->∀ j,c < j ->
   al (fun self v=>fm.B0 k self e0 (D,()) v) j ((K,T,P,rs,()),(a:Int),(i:Int))=e0 (K,T,P,pS D c a rs,()):=by
 intro c
 induction c with
 | zero=>
  intro a i rs hi ha Ao j hj
  cases j with
  | zero=>omega
  | succ j=>
   show fm.b0 _ _ (D,()) _=_
   unfold fm.b0
   obtain ⟨g1,g2⟩:=je (show 4 < D.length by omega)
   have hb:=jK D 4
   simp only[g1,Option.bind_some,g2,jf (show aS D 4<=4000000000 by omega)]
   have:¬ (i:Int) < (aS D 4:Int):=by omega
   simp only[this,decide_false,cond_false,pS]
 | succ c ih=>
  intro a i rs hi ha Ao j hj
  cases j with
  | zero=>omega
  | succ j=>
   show fm.b0 _ _ (D,()) _=_
   unfold fm.b0
   obtain ⟨g1,g2⟩:=je (show 4 < D.length by omega)
   have TP:=jK D 4
   have h1:(i:Int) < (aS D 4:Int):=by omega
   have e1:ae ((a:Int)+2)=((a+2:Nat):Int):=by rw[aP (by omega)];omega
   have e2:ae ((a:Int)+1)=((a+1:Nat):Int):=by rw[aP (by omega)];omega
   have e3:ae ((i:Int)+1)=((i+1:Nat):Int):=by rw[aP (by omega)];omega
   simp only[g1,Option.bind_some,g2,jf (show aS D 4<=4000000000 by omega),h1,decide_true,cond_true,e1,e2,e3,pS]
   by_cases Y:a+2<=D.length
   rotate_left
   ·have:¬ ((a+2:Nat):Int)<=(D.length:Int):=by omega
    simp only[this,decide_false,cond_false,if_neg Y]
   have HY:((a+2:Nat):Int)<=(D.length:Int):=by omega
   obtain ⟨g5,g6⟩:=je (show a+1 < D.length by omega)
   obtain ⟨g3,g4⟩:=je (show a < D.length by omega)
   have hb:=jK D (a+1)
   have MB:=jK D a
   simp only[HY,decide_true,cond_true,if_pos Y,Int.natCast_nonneg,if_true,Int.toNat_natCast,g5,g3,Option.bind_some,g6,g4,jf (show aS D (a+1)<=4000000000 by omega),jf (show aS D a<=4000000000 by omega)]
   have e4:ae (((a+2:Nat):Int)+(aS D (a+1):Int))=((a+2+aS D (a+1):Nat):Int):=by rw[aP (by omega)];omega
   simp only[e4]
   by_cases h3:D.length < a+2+aS D (a+1)
   ·have:(D.length:Int) < ((a+2+aS D (a+1):Nat):Int):=by omega
    simp only[this,decide_true,cond_true,if_pos h3]
   have BY:¬ (D.length:Int) < ((a+2+aS D (a+1):Nat):Int):=by omega
   have h4:((a+2:Nat):Int)<=((a+2+aS D (a+1):Nat):Int)/\((a+2+aS D (a+1):Nat):Int)<=(D.length:Int):=by omega
   simp only[BY,decide_false,cond_false,if_neg h3,h4,and_self,if_true,Int.toNat_natCast]
   rw[pv _ (by simp only[List.length_drop,List.length_take];omega)]
   have hc:rs.length+[(((aS D a:Nat):Int),((D.take (a+2+aS D (a+1))).drop (a+2)),())].length<=bm:=cD (by simp only[List.length_cons,List.length_nil];omega)
   simp only[Option.bind_some,hc,if_true]
   exact ih (a+2+aS D (a+1)) (i+1) _ (by omega) (by omega) (by simp;omega) j (by omega)
theorem D8 (d:List UInt8) (hd:d.length<=2000000000):fw.ab (d,())=some (match kY d with | none=>(GP,(0:Int),()) | some (r,n)=>(r,(n:Int),())):=by
 refine ag (k:=300) fun k hk=>(fw.aa k _).trans ?_
 unfold fw.p kY
 by_cases h7:d.length < 7
 ·have:(d.length:Int) < 7:=by omega
  simp only[this,decide_true,cond_true,h7,true_or,if_true]
  rfl
 have N5:¬ (d.length:Int) < 7:=by omega
 obtain ⟨g1,g2⟩:=je (show 0 < d.length by omega)
 have hb:=jK d 0
 simp only[N5,decide_false,cond_false,h7,false_or,g1,Option.bind_some,g2,jf (show aS d 0<=4000000000 by omega)]
 by_cases hl:d.length < aS d 0
 ·have:(d.length:Int) < (aS d 0:Int):=by omega
  simp only[this,decide_true,cond_true,hl,or_true,if_true]
  rfl
 have gE:¬ (d.length:Int) < (aS d 0:Int):=by omega
 by_cases hm:aS d 0 < 7
 ·have:(aS d 0:Int) < 7:=by omega
  simp only[gE,decide_false,cond_false,this,decide_true,cond_true,hm,true_or,if_true]
  rfl
 have wx:¬ (aS d 0:Int) < 7:=by omega
 have en:0<=(aS d 0:Int)/\(aS d 0:Int)<=(d.length:Int):=by omega
 simp only[gE,wx,decide_false,cond_false,hl,hm,or_self,if_false,en,and_self,if_true,Int.toNat_natCast,List.drop_zero]
 generalize I6:d.take (aS d 0)=D
 have N6:D.length=aS d 0:=by rw[<-I6];simp;omega
 have ga:∀ i,i < aS d 0->aS D i=aS d i:=fun i hi=>by rw[<-I6];exact Db hi (by omega)
 obtain ⟨q1,q2⟩:=je (show 1 < D.length by omega)
 obtain ⟨q3,q4⟩:=je (show 2 < D.length by omega)
 obtain ⟨q5,q6⟩:=je (show 3 < D.length by omega)
 obtain ⟨q7,q8⟩:=je (show 4 < D.length by omega)
 have b1:=jK d 1
 have b2:=jK d 2
 have b3:=jK d 3
 have b4:=jK d 4
 have ew:ae ((D.length:Int) - 2)=((D.length - 2:Nat):Int):=by rw[aP (by omega)];omega
 simp only[q1,q3,q5,q7,Option.bind_some,q2,q4,q6,q8,ga 1 (by omega),ga 2 (by omega),ga 3 (by omega),ga 4 (by omega),ew,jf (show aS d 1<=4000000000 by omega),jf (show aS d 2<=4000000000 by omega),jf (show aS d 3<=4000000000 by omega),jf (show aS d 4<=4000000000 by omega)]
 have hp:=I4 (D:=D) (by omega) (by omega) (a1:=(d,())) (e0:=fun z=>fw.Q0 k (d,()) D ((D.length - 2:Nat):Int) (aS d 4:Int) z) (K:=(aS d 1:Int)) (T:=(aS d 2:Int)) (P:=(aS d 3:Int)) (N:=(aS d 4:Int)) (by omega) (k:=k) (aS d 4) 5 0 [] (by omega) (by omega) (Nat.le_refl _) k (by omega)
 refine Eq.trans hp ?_
 rw[<-N6]
 cases oI:pI D (D.length - 2) (aS d 4) 5 [] with
 | none=>rfl
 | some q=>
  obtain ⟨rs,a⟩:=q
  simp only[fw.Q0,fw.q0]
  by_cases ha:a=D.length - 2
  rotate_left
  ·have:¬ ((a:Int)=((D.length - 2:Nat):Int)):=by omega
   simp only[this,decide_false,Bool.not_false,cond_true,ha,false_and,if_false]
   rfl
  subst ha
  simp only[decide_true,Bool.not_true,cond_false,yS,Option.bind_some,true_and]
  by_cases hr:l5 ((aS d 1:Int),(aS d 2:Int),(aS d 3:Int),rs,())=0
  rotate_left
  ·simp only[hr,decide_false,Bool.not_false,cond_true,false_and,if_false]
   rfl
  have hs:=C_ hr
  have dO:=D5 hs
  simp only[hr,decide_true,Bool.not_true,cond_false,D7 _ hs,Option.bind_some,true_and]
  rw[Dc _ _ (by omega)]
  by_cases he:qv ((aS d 1:Int),(aS d 2:Int),(aS d 3:Int),rs,())=D
  ·simp only[he,decide_true,Option.bind_some,Bool.not_true,cond_false,if_true]
  ·simp only[he,decide_false,Option.bind_some,Bool.not_false,cond_true,if_false]
   rfl
theorem D9 (d:List UInt8) (hd:d.length<=2000000000):gF.ab (d,())=some (match kY d with | none=>(((5:Int),(0:Int),GP,()),()) | some (r,n)=>(((0:Int),(n:Int),r,()),())):=by
 refine ag (k:=300) fun k hk=>(gF.aa k _).trans ?_
 show gF.p _=_
 unfold gF.p kY
 by_cases h7:d.length < 7
 ·have:(d.length:Int) < 7:=by omega
  simp only[this,decide_true,cond_true,h7,true_or,if_true]
  rfl
 have N5:¬ (d.length:Int) < 7:=by omega
 obtain ⟨g1,g2⟩:=je (show 0 < d.length by omega)
 have hb:=jK d 0
 simp only[N5,decide_false,cond_false,h7,false_or,g1,Option.bind_some,g2,jf (show aS d 0<=4000000000 by omega)]
 by_cases hm:aS d 0 < 7
 ·have:(aS d 0:Int) < 7:=by omega
  simp only[this,decide_true,cond_true,hm,true_or,if_true]
  rfl
 have wx:¬ (aS d 0:Int) < 7:=by omega
 by_cases hl:d.length < aS d 0
 ·have:(d.length:Int) < (aS d 0:Int):=by omega
  simp only[wx,decide_false,cond_false,this,decide_true,cond_true,hl,or_true,if_true]
  rfl
 have gE:¬ (d.length:Int) < (aS d 0:Int):=by omega
 have en:0<=(aS d 0:Int)/\(aS d 0:Int)<=(d.length:Int):=by omega
 simp only[gE,wx,decide_false,cond_false,hl,hm,or_self,if_false,en,and_self,if_true,Int.toNat_natCast,List.drop_zero]
 generalize I6:d.take (aS d 0)=D
 have N6:D.length=aS d 0:=by rw[<-I6];simp;omega
 have ga:∀ i,i < aS d 0->aS D i=aS d i:=fun i hi=>by rw[<-I6];exact Db hi (by omega)
 have O4:fm.ab (D,())=some (((aS d 1:Int),(aS d 2:Int),(aS d 3:Int),pS D (aS d 4) 5 [],()),()):=by
  refine ag (k:=300) fun k hk=>(fm.aa k _).trans ?_
  unfold fm.p
  obtain ⟨q1,q2⟩:=je (show 1 < D.length by omega)
  obtain ⟨q3,q4⟩:=je (show 2 < D.length by omega)
  obtain ⟨q5,q6⟩:=je (show 3 < D.length by omega)
  have b1:=jK d 1
  have b2:=jK d 2
  have b3:=jK d 3
  have b4:=jK d 4
  simp only[q1,q3,q5,Option.bind_some,q2,q4,q6,ga 1 (by omega),ga 2 (by omega),ga 3 (by omega),jf (show aS d 1<=4000000000 by omega),jf (show aS d 2<=4000000000 by omega),jf (show aS d 3<=4000000000 by omega)]
  have hp:=I5 (D:=D) (by omega) (by omega) (e0:=fun z=>fm.Q0 k (D,()) z) (K:=(aS d 1:Int)) (T:=(aS d 2:Int)) (P:=(aS d 3:Int)) (k:=k) (aS D 4) 5 0 [] (by omega) (by omega) (Nat.le_refl _) k (by rw[ga 4 (by omega)];omega)
  refine Eq.trans hp ?_
  rw[ga 4 (by omega)]
  rfl
 rw[O4]
 simp only[Option.bind_some,yR]
 rw[<-N6]
 generalize Ao:pS D (aS d 4) 5 []=rs
 by_cases hr:l5 ((aS d 1:Int),(aS d 2:Int),(aS d 3:Int),rs,())=0
 ·have hs:=C_ hr
  simp only[hr,decide_true,Bool.not_true,cond_false,D6 _ hs,Option.bind_some]
  by_cases he:qv ((aS d 1:Int),(aS d 2:Int),(aS d 3:Int),rs,())=D
  ·have h4:aS D 4=aS d 4:=ga 4 (by omega)
   have oI:=O3 (D:=D) (by omega) (by rw[h4];exact Ao) hr he
   rw[h4] at oI
   rw[oI]
   simp[he,hr]
  ·simp only[he,decide_false,Bool.not_false,cond_true]
   cases oI:pI D (D.length - 2) (aS d 4) 5 [] with
   | none=>rfl
   | some q=>
    obtain ⟨An,a'⟩:=q
    have:=GO (by omega) _ _ _ _ _ oI
    rw[Ao] at this
    subst this
    simp only[he,and_false,if_false]
    rfl
 ·simp only[hr,decide_false,Bool.not_false,cond_true]
  cases oI:pI D (D.length - 2) (aS d 4) 5 [] with
  | none=>rfl
  | some q=>
   obtain ⟨An,a'⟩:=q
   have:=GO (by omega) _ _ _ _ _ oI
   rw[Ao] at this
   subst this
   simp only[hr,false_and,and_false,if_false]
   rfl
end OT
set_option linter.unusedVariables false
set_option linter.unusedSimpArgs false
namespace OT
open Go
theorem sO {d:List UInt8} {r:aL} {n:Nat} (h:kY d=some (r,n)):7<=n/\n<=d.length/\l5 r=0:=by
 unfold kY at h
 split at h
 ·cases h
 ·rename_i hc
  split at h
  ·cases h
  ·split at h
   ·rename_i hh
    injection h with h
    injection h with h1 Y
    subst h1
    omega
   ·cases h
theorem I7:kY []=none:=rfl
def eu:Nat->List UInt8->List aL×Nat
 | 0,_=>([],0)
 | k+1,d=>match kY d with
  | none=>([],0)
  | some (r,n)=>(r::(eu k (d.drop n)).1,n+(eu k (d.drop n)).2)
theorem mi:∀ (k k':Nat) (d:List UInt8),d.length < k->d.length < k'->eu k d=eu k' d
 | 0,_,_,h,_=>by omega
 | _+1,0,_,_,h=>by omega
 | k+1,k'+1,d,h,h'=>by
  simp only[eu]
  cases hr:kY d with
  | none=>rfl
  | some q=>
   obtain ⟨r,n⟩:=q
   have hn:=sO hr
   have:(d.drop n).length=d.length - n:=List.length_drop
   simp only
   rw[mi k k' (d.drop n) (by omega) (by omega)]
def l8 (d:List UInt8):List aL×Nat:=eu (d.length+1) d
theorem ue (d:List UInt8) (hd:d.length<=1048576):fe.ab (d,())=some ((l8 d).1,((l8 d).2:Int),()):=by
 refine ag (k:=1048578) fun k hk=>(fe.aa k _).trans ?_
 have key:∀ (m a:Nat) (acc:List aL),d.length - a=m->a<=d.length->acc.length<=a->∀ j,m < j ->
   al (fun self v=>fe.B0 k self (d,()) v) j (acc,(a:Int))=some (acc++(eu (m+1) (d.drop a)).1,((a+(eu (m+1) (d.drop a)).2:Nat):Int),()):=by
  intro m
  induction m using Nat.strongRecOn with
  | ind m ih=>
  intro a acc hm ha Q5 j hj
  cases j with
  | zero=>omega
  | succ j=>
   show fe.b0 _ _ _=_
   unfold fe.b0
   have en:(0:Int)<=(a:Int)/\(a:Int)<=(d.length:Int):=by omega
   simp only[en,and_self,if_true,Int.toNat_natCast,List.take_length]
   rw[D8 _ (by simp;omega)]
   simp only[Option.bind_some,eu]
   cases hr:kY (d.drop a) with
   | none=>simp only[decide_true,cond_true,List.append_nil,Nat.add_zero];try rfl
   | some q=>
    obtain ⟨r,n⟩:=q
    have hn:=sO hr
    have hl:(d.drop a).length=d.length - a:=List.length_drop
    have h0:¬ ((n:Int)=0):=by omega
    have hc:acc.length+[r].length<=bm:=cD (by simp only[List.length_cons,List.length_nil];omega)
    have ew:ae ((a:Int)+(n:Int))=((a+n:Nat):Int):=by rw[aP (by omega)];omega
    simp only[h0,decide_false,cond_false,hc,if_true,ew]
    have:=ih (d.length - (a+n)) (by omega) (a+n) (acc++[r]) rfl (by omega) (by simp;omega) j (by omega)
    refine Eq.trans this ?_
    have rL:(d.drop a).drop n=d.drop (a+n):=by rw[List.drop_drop]
    have n7:(d.drop (a+n)).length=d.length - (a+n):=List.length_drop
    rw[rL,mi m (d.length - (a+n)+1) (d.drop (a+n)) (by omega) (by omega)]
    simp only[List.append_assoc,List.cons_append,List.nil_append,Nat.add_assoc]
 have:=key d.length 0 [] rfl (by omega) (Nat.le_refl _) k (by omega)
 simp only[List.drop_zero,List.nil_append,Nat.zero_add] at this
 exact this
theorem uf (d:List UInt8) (hd:d.length<=1048576):dx.ab (d,())=some ((l8 d).1,((l8 d).2:Int),()):=by
 refine ag (k:=1048578) fun k hk=>(dx.aa k _).trans ?_
 have key:∀ (m a:Nat) (acc:List aL),d.length - a=m->a<=d.length->acc.length<=a->∀ j,m < j ->
   al (fun self v=>dx.B0 k self (fun z=>dx.Q0 k (d,()) z) (d,()) v) j (acc,(a:Int))=some (acc++(eu (m+1) (d.drop a)).1,((a+(eu (m+1) (d.drop a)).2:Nat):Int),()):=by
  intro m
  induction m using Nat.strongRecOn with
  | ind m ih=>
  intro a acc hm ha Q5 j hj
  cases j with
  | zero=>omega
  | succ j=>
   show dx.b0 _ _ (d,()) _=_
   unfold dx.b0
   by_cases aj:a < d.length
   rotate_left
   ·have h1:¬ (a:Int) < (d.length:Int):=by omega
    have Y:d.drop a=[]:=List.drop_of_length_le (by omega)
    simp only[h1,decide_false,cond_false,dx.Q0,dx.q0,Y,eu,I7,List.append_nil,Nat.add_zero]
    try rfl
   have nL:(a:Int) < (d.length:Int):=by omega
   have en:(0:Int)<=(a:Int)/\(a:Int)<=(d.length:Int):=by omega
   simp only[nL,decide_true,cond_true,en,and_self,if_true,Int.toNat_natCast,List.take_length]
   rw[D9 _ (by simp;omega)]
   simp only[Option.bind_some,eu]
   cases hr:kY (d.drop a) with
   | none=>
    have h5:¬ ((5:Int)=0):=by omega
    simp only[h5,decide_false,Bool.not_false,cond_true,List.append_nil,Nat.add_zero,dx.Q0,dx.q0];try rfl
   | some q=>
    obtain ⟨r,n⟩:=q
    have hn:=sO hr
    have hl:(d.drop a).length=d.length - a:=List.length_drop
    have hc:acc.length+[r].length<=bm:=cD (by simp only[List.length_cons,List.length_nil];omega)
    have ew:ae ((a:Int)+(n:Int))=((a+n:Nat):Int):=by rw[aP (by omega)];omega
    simp only[decide_true,Bool.not_true,cond_false,hc,if_true,ew]
    have:=ih (d.length - (a+n)) (by omega) (a+n) (acc++[r]) rfl (by omega) (by simp;omega) j (by omega)
    refine Eq.trans this ?_
    have rL:(d.drop a).drop n=d.drop (a+n):=by rw[List.drop_drop]
    have n7:(d.drop (a+n)).length=d.length - (a+n):=List.length_drop
    rw[rL,mi m (d.length - (a+n)+1) (d.drop (a+n)) (by omega) (by omega)]
    simp only[List.append_assoc,List.cons_append,List.nil_append,Nat.add_assoc]
 have:=key d.length 0 [] rfl (by omega) (Nat.le_refl _) k (by omega)
 simp only[List.drop_zero,List.nil_append,Nat.zero_add] at this
 exact this
def LD (l:Log):Prop:=List.length l.1<=1048576/\List.length l.2.1<=1048576
def kZ (d:List UInt8):Bool:=decide ((l8 d).2=d.length)
def oW (l:Log):Int:=if 16000 < List.length l.1+List.length l.2.1 then 2 else if kZ l.1&&kZ l.2.1 then 0 else 5
theorem Ap (d:List UInt8):decide (((l8 d).2:Int)=(d.length:Int))=kZ d:=by
 unfold kZ
 by_cases h:(l8 d).2=d.length
 ·simp[h]
 ·have:¬ ((l8 d).2:Int)=(d.length:Int):=by omega
  simp[h,this]
theorem GQ (l:Log) (h:LD l):jq.ab (l,())=some (oW l,()):=by
 refine ag (k:=0) fun k _=>(jq.aa k _).trans ?_
 show jq.p _=_
 unfold jq.p oW
 obtain ⟨h1,Y⟩:=h
 have ew:ae ((List.length l.1:Int)+(List.length l.2.1:Int))=((List.length l.1+List.length l.2.1:Nat):Int):=by rw[aP (by omega)];omega
 simp only[ew,uf _ h1,uf _ Y,Option.bind_some,Ap]
 by_cases hc:16000 < List.length l.1+List.length l.2.1
 ·have:(16000:Int) < ((List.length l.1+List.length l.2.1:Nat):Int):=by omega
  simp only[this,hc,decide_true,cond_true,if_true]
  try rfl
 ·have:¬ (16000:Int) < ((List.length l.1+List.length l.2.1:Nat):Int):=by omega
  simp only[this,hc,decide_false,cond_false,if_false]
  cases kZ l.1 <;> cases kZ l.2.1 <;> rfl
theorem size_eq (l:Log) (h:LD l):iL.ab (l,())=some (((List.length l.1+List.length l.2.1:Nat):Int),()):=by
 refine ag (k:=0) fun k _=>(iL.aa k _).trans ?_
 show iL.p _=_
 unfold iL.p
 obtain ⟨h1,Y⟩:=h
 have ew:ae ((List.length l.1:Int)+(List.length l.2.1:Int))=((List.length l.1+List.length l.2.1:Nat):Int):=by rw[aP (by omega)];omega
 rw[ew]
 try rfl
theorem GS (l:Log) (h:LD l):c8.ab (l,())=some (oW l,()):=by
 refine ag (k:=5) fun k hk=>(c8.aa k _).trans ?_
 unfold c8.p oW
 rw[size_eq l h]
 have hl:∀ x ∈ [l.1,l.2.1],List.length x<=1048576:=by
  intro x hx
  simp only[List.mem_cons,List.not_mem_nil,or_false] at hx
  rcases hx with e | e <;> subst e
  ·exact h.1
  ·exact h.2
 have:=br (B:=fun self v=>c8.B0 0 self (fun z=>c8.Q0 0 (l,()) z) (l,()) v) [l.1,l.2.1] (fun (_:Unit) (i:Int)=>i) (fun _ _ x=>if kZ x then .inr () else .inl (5,())) (fun _=>(0,())) (fun _ _=>True) (by rw[ah];simp)
  (fun i hi s self hI=>by
   show c8.b0 _ _ _ _=_
   unfold c8.b0
   have aj:(i:Int) < ([l.1,l.2.1].length:Int):=by omega
   have en:(0:Int)<=(i:Int)/\(i:Int) < ([l.1,l.2.1].length:Int):=by omega
   simp only[aj,en,and_self,decide_true,cond_true,if_true,Int.toNat_natCast,List.getElem?_eq_getElem hi,Option.bind_some]
   have hx:=hl [l.1,l.2.1][i] (List.getElem_mem hi)
   generalize [l.1,l.2.1][i]=x at hx
   rw[ue x hx]
   simp only[Option.bind_some,Ap]
   cases kZ x <;> rfl)
  (fun _ _ _ _ _ _=>trivial) (fun s self _=>by
   show c8.b0 _ _ _ _=_
   unfold c8.b0
   simp[c8.Q0,c8.q0]) () trivial k (by simp only[List.length_cons,List.length_nil];omega)
 rw[kL kZ (5,()) (fun _=>(0,()))] at this
 have this:c8.r0 k (l,()) 0=_:=this
 simp only[Option.bind_some,this]
 by_cases hc:16000 < List.length l.1+List.length l.2.1
 ·have:(16000:Int) < ((List.length l.1+List.length l.2.1:Nat):Int):=by omega
  simp only[this,hc,decide_true,cond_true,if_true]
 ·have:¬ (16000:Int) < ((List.length l.1+List.length l.2.1:Nat):Int):=by omega
  simp only[this,hc,decide_false,cond_false,if_false,List.all_cons,List.all_nil,Bool.and_true]
  cases kZ l.1 <;> cases kZ l.2.1 <;> rfl
end OT
set_option linter.unusedVariables false
set_option linter.unusedSimpArgs false
namespace OT
open Go
theorem GT:ff.ab ((0:UInt8),())=some (tQ,()):=by
 refine ag (k:=66) fun k hk=>(ff.aa k _).trans ?_
 unfold ff.p
 have:=br (B:=fun self v=>ff.B0 0 self (fun z=>ff.Q0 0 ((0:UInt8),()) z) ((0:UInt8),()) v) (List.replicate 64 (0:UInt8)) (fun (s:List UInt8) (i:Int)=>(s,i)) (fun _ s _=>.inr s) (fun s=>(tQ,())) (fun _ s=>s=List.replicate 64 (0:UInt8)) (by rw[ah];simp)
  (fun i hi s self hI=>by
   show ff.b0 _ _ _ _=_
   unfold ff.b0
   subst hI
   simp only[List.length_replicate] at hi ⊢
   have aj:(i:Int) < ((64:Nat):Int):=by omega
   have en:(0:Int)<=(i:Int)/\(i:Int) < ((64:Nat):Int):=by omega
   have hg:(List.replicate 64 (0:UInt8))[i]?=some 0:=(List.getElem?_replicate (n:=64) (i:=i) (a:=(0:UInt8))).trans (if_pos hi)
   have hs:(List.replicate 64 (0:UInt8)).set i 0=List.replicate 64 (0:UInt8):=List.set_replicate_self
   simp only[aj,en,and_self,decide_true,cond_true,if_true,Int.toNat_natCast,hg,Option.bind_some,hs])
  (fun i hi s s' hI hs=>by injection hs with hs;rw[<-hs,hI]) (fun s self hI=>by
   show ff.b0 _ _ _ _=_
   unfold ff.b0
   subst hI
   simp only[List.length_replicate,Int.lt_irrefl,decide_false,cond_false]
   rfl) (List.replicate 64 (0:UInt8)) rfl k (by simp;omega)
 rw[ei (g:=fun s _=>s)] at this
 have hc:(0:Int)<=64/\(64:Int)<=64/\(64:Int)<=(bm:Int):=⟨by omega,by omega,by simp only[bm];omega⟩
 rw[if_pos hc]
 exact this
theorem GU:gu.ab ((0:UInt8),())=some (tQ,()):=by
 refine ag (k:=66) fun k hk=>(gu.aa k _).trans ?_
 unfold gu.p
 have:=br (B:=fun self v=>gu.B0 0 self (fun z=>gu.Q0 0 ((0:UInt8),()) z) ((0:UInt8),()) v) (List.replicate 64 (0:UInt8)) (fun (s:List UInt8) (i:Int)=>(s,i)) (fun _ s _=>.inr s) (fun s=>(tQ,())) (fun _ s=>s=List.replicate 64 (0:UInt8)) (by rw[ah];simp)
  (fun i hi s self hI=>by
   show gu.b0 _ _ _ _=_
   unfold gu.b0
   subst hI
   simp only[List.length_replicate] at hi ⊢
   have aj:(i:Int) < (64:Int):=by omega
   have en:(0:Int)<=(i:Int)/\(i:Int) < ((64:Nat):Int):=by omega
   have hg:(List.replicate 64 (0:UInt8))[i]?=some 0:=(List.getElem?_replicate (n:=64) (i:=i) (a:=(0:UInt8))).trans (if_pos hi)
   have hs:(List.replicate 64 (0:UInt8)).set i 0=List.replicate 64 (0:UInt8):=List.set_replicate_self
   simp only[aj,en,and_self,decide_true,cond_true,if_true,Int.toNat_natCast,hg,Option.bind_some,hs])
  (fun i hi s s' hI hs=>by injection hs with hs;rw[<-hs,hI]) (fun s self hI=>by
   show gu.b0 _ _ _ _=_
   unfold gu.b0
   subst hI
   have:¬ (((64:Nat):Int) < 64):=by omega
   simp only[List.length_replicate,this,decide_false,cond_false]
   rfl) (List.replicate 64 (0:UInt8)) rfl k (by simp;omega)
 rw[ei (g:=fun s _=>s)] at this
 have hc:(0:Int)<=64/\(64:Int)<=64/\(64:Int)<=(bm:Int):=⟨by omega,by omega,by simp only[bm];omega⟩
 rw[if_pos hc]
 exact this
end OT
