/- The proof's parts, merged: What the program and the reference find at fault with rows and changes  no conditions but the lengths.. No conditions but those that each states. -/
import Derived.Test.YtledflocbohofaaGreatSf
set_option linter.unusedVariables false
set_option linter.unusedSimpArgs false
namespace OT
open Go
def oV (c:UInt8):Bool:=!decide ((c.toNat:Int) < 97)&&!decide ((122:Int) < (c.toNat:Int))
def wl (s:List UInt8):Bool:=s.all oV&&decide (s.length<=8)
def gW (x:Row):Int:=if cz x.1 0 3&&(cz x.2.1 1 99&&cz x.2.2.1 0 999) then (if wl x.2.2.2.1 then 0 else 5) else 3
theorem len8 (s:List UInt8):decide ((s.length:Int)<=8)=decide (s.length<=8):=by
 by_cases h:s.length<=8
 ·have:(s.length:Int)<=8:=by omega
  simp[h,this]
 ·have:¬ (s.length:Int)<=8:=by omega
  simp[h,this]
theorem D6 (s:List UInt8) (h:s.length<=maxLen):fl.ab (s,())=some (wl s,()):=by
 refine ag (k:=s.length+1) fun k hk=>(fl.aa k _).trans ?_
 have:=bC (B:=fun self v=>fl.B0 0 self (fun z=>fl.Q0 0 (s,()) z) (s,()) v) s (fun (_:Unit) (i:Int)=>i) (fun _ _ x=>if oV x then .inr () else .inl (false,())) (fun _=>(decide (s.length<=8),())) (fun _ _=>True) h
  (fun i hi _ self _=>by
   show fl.b0 _ _ _ _=_
   unfold fl.b0
   have aj:(i:Int) < (s.length:Int):=by omega
   simp only[aj,decide_true,cond_true,Int.natCast_nonneg,if_true,Int.toNat_natCast,List.getElem?_eq_getElem hi,Option.bind_some]
   unfold oV
   by_cases h1:((s[i].toNat:Int) < 97) <;> by_cases Y:((122:Int) < (s[i].toNat:Int)) <;> simp[h1,Y]) (fun _ _ _ _ _ _=>trivial) (fun _ self _=>by
   show fl.b0 _ _ _ _=_
   unfold fl.b0
   simp[fl.Q0,fl.q0,len8]) () trivial k (by omega)
 refine this.trans ?_
 rw[kO oV (false,()) (fun _=>(decide (s.length<=8),()))]
 unfold wl
 cases s.all oV <;> rfl
theorem qy (x:Row) (h:List.length x.2.2.2.1<=maxLen):dg.ab (x,())=some (gW x,()):=by
 refine ag (k:=0) fun k _=>(dg.aa k _).trans ?_
 show dg.p _=_
 unfold dg.p gW cz
 simp only[iR,D6 _ h,Option.bind_some]
 cases decide ((0:Int)<=x.1) <;> cases decide (x.1<=3) <;> cases decide ((1:Int)<=x.2.1) <;> cases decide (x.2.1<=99) <;> cases decide ((0:Int)<=x.2.2.1) <;> cases decide (x.2.2.1<=999) <;> cases wl x.2.2.2.1 <;> rfl
theorem qz (x:Row) (h:List.length x.2.2.2.1<=maxLen):bq.ab (x,())=some (gW x,()):=by
 refine ag (k:=List.length x.2.2.2.1+1) fun k hk=>(bq.aa k _).trans ?_
 have:=bC (B:=fun self v=>bq.B0 0 self (fun z=>bq.Q0 0 (x,()) z) (x,()) v) x.2.2.2.1 (fun (_:Unit) (i:Int)=>i) (fun _ _ c=>if oV c then .inr () else .inl (5,())) (fun _=>(0,())) (fun _ _=>True) h
  (fun i hi _ self _=>by
   show bq.b0 _ _ _ _=_
   unfold bq.b0
   have aj:(i:Int) < (List.length x.2.2.2.1:Int):=by omega
   simp only[aj,decide_true,cond_true,Int.natCast_nonneg,if_true,Int.toNat_natCast,List.getElem?_eq_getElem hi,Option.bind_some]
   unfold oV
   by_cases h1:(((x.2.2.2.1)[i].toNat:Int) < 97) <;> by_cases Y:((122:Int) < ((x.2.2.2.1)[i].toNat:Int)) <;> simp[h1,Y]) (fun _ _ _ _ _ _=>trivial) (fun _ self _=>by
   show bq.b0 _ _ _ _=_
   unfold bq.b0
   simp[bq.Q0,bq.q0]) () trivial k (by omega)
 rw[kO oV (5,()) (fun _=>(0,()))] at this
 have this:bq.r0 k (x,()) 0=_:=this
 unfold bq.p gW cz wl
 simp only[lQ,this,Option.bind_some]
 have h8:decide ((8:Int) < (List.length x.2.2.2.1:Int))=!decide (List.length x.2.2.2.1<=8):=by
  by_cases hc:List.length x.2.2.2.1<=8
  ·have:¬ (8:Int) < (List.length x.2.2.2.1:Int):=by omega
   simp[hc,this]
  ·have:(8:Int) < (List.length x.2.2.2.1:Int):=by omega
   simp[hc,this]
 rw[h8]
 cases decide ((0:Int)<=x.1) <;> cases decide (x.1<=3) <;> cases decide ((1:Int)<=x.2.1) <;> cases decide (x.2.1<=99) <;> cases decide ((0:Int)<=x.2.2.1) <;> cases decide (x.2.2.1<=999) <;> cases decide (List.length x.2.2.2.1<=8) <;> cases (x.2.2.2.1).all oV <;> rfl
def rl (x:Row):Prop:=List.length x.2.2.2.1<=maxLen
def cl (c:Change):Prop:=rl c.2.1/\rl c.2.2.2.1
def sameKey (a b:Row):Bool:=decide (a.1=b.1)&&decide (a.2.1=b.2.1)
def bN (a b:Int×Int):Bool:=decide (a.1 < b.1)||(decide (a.1=b.1)&&decide (a.2 < b.2))
def mE (c:Change):Int:=if (!c.1&&!c.2.2.1)||(c.1&&c.2.2.1&&!sameKey c.2.1 c.2.2.2.1) then 1 else if c.1&&!decide (gW c.2.1=0) then gW c.2.1 else if c.2.2.1 then gW c.2.2.2.1 else 0
def yC (c:Change):Int:=if mE c=0 then (if c.1&&c.2.2.1&&Ty.eq aA c.2.1 c.2.2.2.1 then 1 else 0) else mE c
def ck (c:Change):Int×Int:=if c.2.2.1 then (c.2.2.2.1.1,c.2.2.2.1.2.1) else (c.2.1.1,c.2.1.2.1)
theorem AT (c:Change) (h:cl c):iH.ab (c,())=some (mE c,()):=by
 refine ag (k:=0) fun k _=>(iH.aa k _).trans ?_
 show iH.p _=_
 unfold iH.p mE sameKey
 simp only[qy _ h.1,qy _ h.2,Option.bind_some]
 cases c.1 <;> cases c.2.2.1 <;> by_cases h1:c.2.1.1=c.2.2.2.1.1 <;> by_cases Y:c.2.1.2.1=c.2.2.2.1.2.1 <;> by_cases h3:gW c.2.1=0 <;> simp[h1,Y,h3]
theorem sv (a b:Row):dB.ab (a,b,())=some (bN (a.1,a.2.1) (b.1,b.2.1),()):=by
 refine ag (k:=0) fun k _=>(dB.aa k _).trans ?_
 show dB.p _=_
 unfold dB.p bN
 by_cases h1:a.1 < b.1 <;> by_cases Y:a.1=b.1 <;> simp[h1,Y]
theorem tX (a b:Row):eZ.ab (a,b,())=some (if bN (a.1,a.2.1) (b.1,b.2.1) then -1 else if bN (b.1,b.2.1) (a.1,a.2.1) then 1 else 0,()):=by
 refine ag (k:=0) fun k _=>(eZ.aa k _).trans ?_
 show eZ.p _=_
 unfold eZ.p
 simp only[sv,Option.bind_some]
 cases bN (a.1,a.2.1) (b.1,b.2.1) <;> cases bN (b.1,b.2.1) (a.1,a.2.1) <;> rfl
theorem yD (a b:Row):decide ((if bN (a.1,a.2.1) (b.1,b.2.1) then (-1:Int) else if bN (b.1,b.2.1) (a.1,a.2.1) then 1 else 0)=0)=sameKey a b:=by
 unfold bN sameKey
 by_cases h1:a.1 < b.1
 ·have:¬ a.1=b.1:=by omega
  simp[h1,this]
 ·by_cases Y:a.1=b.1
  ·by_cases h3:a.2.1 < b.2.1
   ·have:¬ a.2.1=b.2.1:=by omega
    simp[Y,h3,this]
   ·by_cases h4:b.2.1 < a.2.1
    ·have:¬ a.2.1=b.2.1:=by omega
     simp[Y,h3,h4,this]
    ·have:a.2.1=b.2.1:=by omega
     simp[Y,this]
  ·have:b.1 < a.1:=by omega
   simp[h1,Y,this]
theorem uD (c:Change) (h:cl c):d8.ab (c,())=some (mE c,()):=by
 refine ag (k:=0) fun k _=>(d8.aa k _).trans ?_
 show d8.p _=_
 unfold d8.p mE
 simp only[qz _ h.1,qz _ h.2,tX,Option.bind_some,yD]
 cases c.1 <;> cases c.2.2.1 <;> cases sameKey c.2.1 c.2.2.2.1 <;> by_cases h3:gW c.2.1=0 <;> simp[h3]
theorem zJ (c:Change) (h:cl c):iI.ab (c,())=some (yC c,()):=by
 refine ag (k:=0) fun k _=>(iI.aa k _).trans ?_
 show iI.p _=_
 unfold iI.p yC
 simp only[AT c h,Option.bind_some]
 by_cases h1:mE c=0
 ·simp only[h1,decide_true,Bool.not_true,cond_false,if_true]
  cases c.1 <;> cases c.2.2.1 <;> cases Ty.eq aA c.2.1 c.2.2.2.1 <;> rfl
 ·simp[h1]
theorem IJ (c:Change) (h:cl c):gm.ab (c,())=some (yC c,()):=by
 refine ag (k:=0) fun k _=>(gm.aa k _).trans ?_
 show gm.p _=_
 unfold gm.p yC
 simp only[uD c h,Option.bind_some]
 by_cases h1:mE c=0
 ·simp only[h1,decide_true,Bool.not_true,cond_false,if_true]
  cases c.1 <;> cases c.2.2.1 <;> cases Ty.eq aA c.2.1 c.2.2.2.1 <;> rfl
 ·simp[h1]
theorem yE (c:Change):ik.ab (c,())=some ((ck c).1,(ck c).2,()):=by
 refine ag (k:=0) fun k _=>(ik.aa k _).trans ?_
 show ik.p _=_
 unfold ik.p ck
 cases c.2.2.1 <;> rfl
def sN (c:Change):Row:=if c.2.2.1 then c.2.2.2.1 else c.2.1
theorem Al (c:Change):((sN c).1,(sN c).2.1)=ck c:=by unfold sN ck;cases c.2.2.1 <;> rfl
theorem tY (c:Change):cI.ab (c,())=some (sN c,()):=by
 refine ag (k:=0) fun k _=>(cI.aa k _).trans ?_
 show cI.p _=_
 unfold cI.p sN
 cases c.2.2.1 <;> rfl
theorem GN (n:Nat) (m:Nat):decide ((m:Int) < (n:Int))=decide (m < n):=by
 by_cases h:m < n
 ·have:(m:Int) < (n:Int):=by omega
  simp[h,this]
 ·have:¬ (m:Int) < (n:Int):=by omega
  simp[h,this]
theorem yF {i:Nat} (hi:0 < i) (h:i<=maxLen):ae ((i:Int) - 1)=((i - 1:Nat):Int):=by
 rw[ah] at h
 rw[aJ (by omega)];omega
theorem GO {x:Row} (h:mB aA x):rl x:=h.2.2.2.1
theorem Pu {c:Change} (h:mB ap c):cl c:=⟨GO h.2.1,GO h.2.2.2.1⟩
end OT
set_option linter.unusedVariables false
set_option linter.unusedSimpArgs false
namespace OT
open Go
theorem bF {V S O α:Type} {B:(V->Option O)->V->Option O} (xs:List α) (enc:S->Int->V) (f:Nat->S->α->Sum (Option O) S) (fin:S->Option O) (I:Nat->S->Prop) (qa:xs.length<=maxLen)
  (dM:∀ (i:Nat) (hi:i < xs.length) (s:S) self,I i s->B self (enc s (i:Int))=match f i s xs[i] with | .inl o=>o | .inr s'=>self (enc s' (ae ((i:Int)+1))))
  (hI:∀ (i:Nat) (hi:i < xs.length) (s s':S),I i s->f i s xs[i]=.inr s'->I (i+1) s')
  (iT:∀ (s:S) self,I xs.length s->B self (enc s (xs.length:Int))=fin s) (s:S) (h0:I 0 s):∀ k,xs.length < k->ak B k (enc s 0)=aV f fin 0 xs s:=by
 have main:∀ (m i:Nat) (s:S),xs.length - i=m->i<=xs.length->I i s->∀ k,m < k->ak B k (enc s (i:Int))=aV f fin i (xs.drop i) s:=by
  intro m
  induction m with
  | zero=>
   intro i s hm hi hs k hk
   have fa:i=xs.length:=by omega
   subst fa
   cases k with
   | zero=>omega
   | succ k=>
    show B (ak B k) _=_
    rw[iT s _ hs]
    simp[aV]
  | succ m ih=>
   intro i s hm hi hs k hk
   have aj:i < xs.length:=by omega
   cases k with
   | zero=>omega
   | succ k=>
    show B (ak B k) _=_
    rw[dM i aj s _ hs,List.drop_eq_getElem_cons aj]
    simp only[aV]
    cases hf:f i s xs[i] with
    | inl o=>rfl
    | inr s'=>
     have hw:ae ((i:Int)+1)=((i+1:Nat):Int):=by rw[aJ (by rw[ah] at qa;omega)];omega
     simp only[hw]
     exact ih (i+1) s' (by omega) (by omega) (hI i aj s s' hs hf) k (by omega)
 intro k hk
 simpa using main xs.length 0 s (by omega) (by omega) h0 k hk
theorem pt {O α:Type} (p:α->Bool) (a:O) (fin:Unit->O):∀ (xs:List α) (i:Nat),aV (fun _ _ x=>if p x then .inl a else .inr ()) fin i xs ()=if xs.any p then a else fin ()
 | [],_=>rfl
 | x::xs,i=>by
  simp only[aV,List.any_cons]
  by_cases h:p x=true
  ·simp[h]
  ·simp[h,pt p a fin xs (i+1)]
def sO {α:Type} (p:α->Bool):Nat->List α->Int
 | _,[]=>-1
 | i,x::xs=>if p x then (i:Int) else sO p (i+1) xs
theorem yG {α:Type} (p:α->Bool):∀ (xs:List α) (i:Nat),aV (fun i _ x=>if p x then .inl ((i:Int),()) else .inr ()) (fun _=>((-1:Int),())) i xs ()=(sO p i xs,())
 | [],_=>rfl
 | x::xs,i=>by
  simp only[aV,sO]
  by_cases h:p x=true
  ·simp[h]
  ·simp[h,yG p xs (i+1)]
theorem Am {α:Type} (p:α->Bool):∀ (xs:List α) (i:Nat),decide (0<=sO p i xs)=xs.any p
 | [],_=>rfl
 | x::xs,i=>by
  simp only[sO,List.any_cons]
  by_cases h:p x=true
  ·simp[h]
  ·simp[h,Am p xs (i+1)]
theorem tZ (a b:Key):Ty.eq aE a b=decide (a=b):=by
 obtain ⟨a1,a2,⟨⟩⟩:=a
 obtain ⟨b1,b2,⟨⟩⟩:=b
 show (decide (a1=b1)&&(decide (a2=b2)&&true))=decide ((a1,a2,())=(b1,b2,()))
 by_cases h1:a1=b1 <;> by_cases Y:a2=b2 <;> simp[h1,Y]
def sP (c:Change):Key:=((ck c).1,(ck c).2,())
def dc (ks:List Key) (k:Key):Bool:=ks.any fun x=>decide (x=k)
theorem ky {ks:List Key} {k:Key}:dc ks k=true↔k ∈ ks:=by simp[dc]
def pE (k:Key):Bool:=cz k.1 0 3&&cz k.2.1 1 99
theorem CW (c:Change):iJ.ab (c,())=some (sP c,()):=by
 refine ag (k:=0) fun k _=>(iJ.aa k _).trans ?_
 show iJ.p _=_
 unfold iJ.p
 simp only[yE,Option.bind_some]
 rfl
theorem MC (c:Change):gn.ab (c,())=some (sP c,()):=by
 refine ag (k:=0) fun k _=>(gn.aa k _).trans ?_
 show gn.p _=_
 unfold gn.p sP
 simp only[tY,Option.bind_some,<- Al]
theorem D7 (x:Key):j_.ab (x,())=some (pE x,()):=by
 refine ag (k:=0) fun k _=>(j_.aa k _).trans ?_
 show j_.p _=_
 unfold j_.p pE cz
 simp only[iR,Option.bind_some]
 cases decide ((0:Int)<=x.1) <;> cases decide (x.1<=3) <;> rfl
theorem Kl (x:Key):kW.ab (x.1,x.2.1,())=some (pE x,()):=by
 refine ag (k:=0) fun k _=>(kW.aa k _).trans ?_
 show kW.p _=_
 unfold kW.p pE cz
 simp only[lQ,Option.bind_some]
 cases decide ((0:Int)<=x.1) <;> cases decide (x.1<=3) <;> rfl
theorem CX (x:Tx) (k0:Key) (h:List.length x.2.2.2.1<=maxLen):dx.ab (x,k0,())=some (dc x.2.2.2.1 k0,()):=by
 refine ag (k:=List.length x.2.2.2.1+1) fun k hk=>(dx.aa k _).trans ?_
 have:=bC (B:=fun self v=>dx.B0 0 self (fun z=>dx.Q0 0 (x,k0,()) z) (x,k0,()) v) x.2.2.2.1 (fun (_:Unit) (i:Int)=>i) (fun _ _ y=>if decide (y=k0) then .inl (true,()) else .inr ()) (fun _=>(false,())) (fun _ _=>True) h
  (fun i hi s self _=>by
   show dx.b0 _ _ _ _=_
   unfold dx.b0
   have aj:(i:Int) < (List.length x.2.2.2.1:Int):=by omega
   simp only[aj,decide_true,cond_true,Int.natCast_nonneg,if_true,Int.toNat_natCast,List.getElem?_eq_getElem hi,Option.bind_some,tZ]
   by_cases hh:(x.2.2.2.1)[i]=k0
   ·simp only[hh,decide_true,cond_true,if_true]
   ·simp only[hh,decide_false,cond_false,Bool.false_eq_true,if_false])
  (fun _ _ _ _ _ _=>trivial) (fun s self _=>by
   show dx.b0 _ _ _ _=_
   unfold dx.b0
   simp only[Int.lt_irrefl,decide_false,cond_false]
   rfl) () trivial k (by omega)
 rw[pt] at this
 refine Eq.trans this ?_
 unfold dc
 cases x.2.2.2.1.any (fun y=>decide (y=k0)) <;> rfl
theorem contains_eq (ks:List Key) (k0:Key) (h:ks.length<=maxLen):ed.ab (ks,k0,())=some (dc ks k0,()):=by
 have EV:dC.ab (ks,k0,())=some (sO (fun y=>decide (k0=y)) 0 ks,()):=by
  refine ag (k:=ks.length+1) fun k hk=>(dC.aa k _).trans ?_
  have:=bC (B:=fun self v=>dC.B0 0 self (fun z=>dC.Q0 0 (ks,k0,()) z) (ks,k0,()) v) ks (fun (_:Unit) (i:Int)=>i) (fun i _ y=>if decide (k0=y) then .inl ((i:Int),()) else .inr ()) (fun _=>((-1:Int),())) (fun _ _=>True) h
   (fun i hi s self _=>by
    show dC.b0 _ _ _ _=_
    unfold dC.b0
    have aj:(i:Int) < (ks.length:Int):=by omega
    simp only[aj,decide_true,cond_true,Int.natCast_nonneg,if_true,Int.toNat_natCast,List.getElem?_eq_getElem hi,Option.bind_some,tZ]
    by_cases hh:k0=ks[i]
    ·simp only[<-hh,decide_true,cond_true,if_true]
    ·simp only[hh,decide_false,cond_false,Bool.false_eq_true,if_false])
   (fun _ _ _ _ _ _=>trivial) (fun s self _=>by
    show dC.b0 _ _ _ _=_
    unfold dC.b0
    simp only[Int.lt_irrefl,decide_false,cond_false]
    rfl) () trivial k (by omega)
  rw[yG] at this
  exact this
 refine ag (k:=0) fun k _=>(ed.aa k _).trans ?_
 show ed.p _=_
 unfold ed.p
 rw[EV]
 simp only[Option.bind_some,Am]
 congr 2
 unfold dc
 congr 1
 funext y
 by_cases hh:k0=y
 ·simp[hh]
 ·have:¬ y=k0:=fun e=>hh e.symm
  simp[hh,this]
def tl (x:Tx):Prop:=List.length x.2.1<=1048576/\List.length x.2.2.1<=1048576/\List.length x.2.2.2.1<=1048576/\∀ c ∈ x.2.1,cl c
def pF (ks:List Key) (c:Change):Int:=if yC c=0 then (if dc ks (sP c) then 0 else 8) else yC c
def yH (n last:Int) (ms:List Int):Bool:=aV (fun _ last m=>if cz m last n then .inr m else .inl false) (fun _=>true) 0 ms last
def jT (ks:List Key) (i:Nat) (k:Key):Int:=if pE k then (if dc (ks.take i) k then 6 else 0) else 3
def oW (ks:List Key):Int:=aV (fun i (_:Unit) k=>if jT ks i k=0 then .inr () else .inl (jT ks i k)) (fun _=>(0:Int)) 0 ks ()
def mn (x:Tx):Int:=if decide (8 < List.length x.2.2.1)||decide (12 < List.length x.2.2.2.1) then 2 else if yH (List.length x.2.1:Int) 0 x.2.2.1 then oW x.2.2.2.1 else 3
def rZ (x:Tx):Int:=hU (pF x.2.2.2.1) x.2.1
theorem CY (n:Int) (E:Option (Int×Unit)):∀ (ms:List Int) (i:Nat) (last:Int),aV (fun _ last m=>if cz m last n then .inr m else .inl (some ((3:Int),()))) (fun _=>E) i ms last=if aV (fun _ last m=>if cz m last n then .inr m else .inl false) (fun _=>true) i ms last then E else some ((3:Int),())
 | [],_,_=>rfl
 | m::ms,i,last=>by
  simp only[aV]
  by_cases hb:cz m last n=true
  ·simp only[hb,if_true];exact CY n E ms _ _
  ·simp[hb]
theorem D8 (x:Tx) (h:tl x):fL.ab (x,())=some (rZ x,()):=by
 obtain ⟨h1,Y,h3,h4⟩:=h
 refine ag (k:=List.length x.2.1+1) fun k hk=>(fL.aa k _).trans ?_
 have:=bC (B:=fun self v=>fL.B0 0 self (fun z=>fL.Q0 0 (x,()) z) (x,()) v) x.2.1 (fun (_:Unit) (i:Int)=>i) (fun _ _ c=>if pF x.2.2.2.1 c=0 then .inr () else .inl (pF x.2.2.2.1 c,())) (fun _=>(0,())) (fun _ _=>True) (by rw[ah];omega)
  (fun i hi s self _=>by
   show fL.b0 _ _ _ _=_
   unfold fL.b0
   have aj:(i:Int) < (List.length x.2.1:Int):=by omega
   simp only[aj,decide_true,cond_true,Int.natCast_nonneg,if_true,Int.toNat_natCast,List.getElem?_eq_getElem hi,Option.bind_some,zJ _ (h4 _ (List.getElem_mem hi)),CW]
   rw[CX x _ (by rw[ah];omega)]
   unfold pF
   by_cases hc:yC (x.2.1)[i]=0
   ·simp only[hc,decide_true,Bool.not_true,cond_false,if_true,Option.bind_some]
    cases dc x.2.2.2.1 (sP (x.2.1)[i]) <;> rfl
   ·simp only[hc,decide_false,Bool.not_false,cond_true,if_false])
  (fun _ _ _ _ _ _=>trivial) (fun s self _=>by
   show fL.b0 _ _ _ _=_
   unfold fL.b0
   simp only[Int.lt_irrefl,decide_false,cond_false]
   rfl) () trivial k (by omega)
 rw[qt (pF x.2.2.2.1) (fun c=>(c,())) (fun _=>((0:Int),()))] at this
 refine Eq.trans this ?_
 unfold rZ
 split
 ·rename_i h0;rw[h0]
 ·rfl
theorem Km {m last n:Int} (h:0<=last):(cz m 0 n&&decide (last<=m))=cz m last n:=by
 unfold cz
 by_cases h1:last<=m
 ·have:(0:Int)<=m:=by omega
  simp[h1,this]
 ·simp[h1]
theorem CZ (x:Tx) (h:tl x):ba.ab (x,())=some (mn x,()):=by
 obtain ⟨h1,Y,h3,h4⟩:=h
 refine ag (k:=20) fun k hk=>(ba.aa k _).trans ?_
 unfold ba.p mn
 by_cases hm:8 < List.length x.2.2.1
 ·have:(8:Int) < (List.length x.2.2.1:Int):=by omega
  simp only[this,hm,decide_true,cond_true,Bool.true_or,if_true]
  (try rfl)
 have wA:¬ (8:Int) < (List.length x.2.2.1:Int):=by omega
 by_cases gv:12 < List.length x.2.2.2.1
 ·have:(12:Int) < (List.length x.2.2.2.1:Int):=by omega
  simp only[this,hm,wA,gv,decide_true,decide_false,cond_true,cond_false,Bool.false_or,if_true]
  (try rfl)
 have sJ:¬ (12:Int) < (List.length x.2.2.2.1:Int):=by omega
 simp only[hm,wA,sJ,gv,decide_false,cond_false,Bool.or_self,Bool.false_eq_true,if_false]
 have second:ba.r1 k (x,()) (x,(0:Int))=some (oW x.2.2.2.1,()):=by
  have inner:∀ (self:(Tx×Int)->Option ba.Out) (e2:Unit->Option ba.Out) (i:Nat) (hi:i < List.length x.2.2.2.1),ba.r2 k self e2 (x,()) x (i:Int) (0:Int)=if dc (x.2.2.2.1.take i) (x.2.2.2.1)[i] then some ((6:Int),()) else self (x,ae ((i:Int)+1)):=fun self e2 i hi=>by
   have eo:(x.2.2.2.1.take i).length=i:=by simp;omega
   have:=bF (B:=fun ca v=>ba.B2 k ca (fun z=>ba.Q1 k self e2 (x,()) x (i:Int) z) (x,()) x (i:Int) v) (x.2.2.2.1.take i) (fun (_:Unit) (j:Int)=>j) (fun _ _ y=>if decide (y=(x.2.2.2.1)[i]) then .inl (some ((6:Int),())) else .inr ()) (fun _=>self (x,ae ((i:Int)+1))) (fun _ _=>True) (by rw[ah];omega)
    (fun j hj s ca _=>by
     show ba.b2 _ _ _ _ _ _=_
     unfold ba.b2
     rw[eo] at hj
     have aj:(j:Int) < (i:Int):=by omega
     have EZ:j < List.length x.2.2.2.1:=by omega
     simp only[aj,decide_true,cond_true,Int.natCast_nonneg,if_true,Int.toNat_natCast,List.getElem?_eq_getElem EZ,List.getElem?_eq_getElem hi,Option.bind_some,tZ,List.getElem_take]
     by_cases hh:(x.2.2.2.1)[j]=(x.2.2.2.1)[i]
     ·simp only[hh,decide_true,cond_true,if_true]
     ·simp only[hh,decide_false,cond_false,Bool.false_eq_true,if_false])
    (fun _ _ _ _ _ _=>trivial) (fun s ca _=>by
     show ba.b2 _ _ _ _ _ _=_
     unfold ba.b2
     simp only[eo,Int.lt_irrefl,decide_false,cond_false]
     rfl) () trivial k (by omega)
   rw[pt] at this
   exact this
  have:=bC (B:=fun self v=>ba.B1 k self (fun z=>ba.Q2 k (x,()) z) (x,()) v) x.2.2.2.1 (fun (_:Unit) (i:Int)=>(x,i)) (fun i _ y=>if jT x.2.2.2.1 i y=0 then .inr () else .inl (jT x.2.2.2.1 i y,())) (fun _=>(0,())) (fun _ _=>True) (by rw[ah];omega)
   (fun i hi s self _=>by
    show ba.b1 _ _ _ _ _=_
    unfold ba.b1 jT
    have aj:(i:Int) < (List.length x.2.2.2.1:Int):=by omega
    simp only[aj,decide_true,cond_true,Int.natCast_nonneg,if_true,Int.toNat_natCast,List.getElem?_eq_getElem hi,Option.bind_some,D7]
    rw[inner self _ i hi]
    cases pE (x.2.2.2.1)[i] <;> cases dc (x.2.2.2.1.take i) (x.2.2.2.1)[i] <;> rfl)
   (fun _ _ _ _ _ _=>trivial) (fun s self _=>by
    show ba.b1 _ _ _ _ _=_
    unfold ba.b1
    simp only[Int.lt_irrefl,decide_false,cond_false]
    rfl) () trivial k (by omega)
  refine Eq.trans this ?_
  unfold oW
  generalize LO:x.2.2.2.1=ks
  have gen:∀ (f:Nat->Key->Int) (ys:List Key) (i:Nat),aV (fun i (_:Unit) y=>if f i y=0 then .inr () else .inl (f i y,())) (fun _=>((0:Int),())) i ys ()=(aV (fun i (_:Unit) y=>if f i y=0 then .inr () else .inl (f i y)) (fun _=>(0:Int)) i ys (),()):=by
   intro f ys
   induction ys with
   | nil=>intro i;rfl
   | cons y ys ih=>intro i;simp only[aV];by_cases h0:f i y=0 <;> simp[h0,ih]
  rw[gen (jT ks)]
 have:=bF (B:=fun self v=>ba.B0 k self (fun z=>ba.Q0 k (x,()) z) (x,()) v) x.2.2.1 (fun (_:Int) (i:Int)=>i) (fun i last m=>if cz m last (List.length x.2.1:Int) then .inr m else .inl (some ((3:Int),()))) (fun _=>some (oW x.2.2.2.1,()))
  (fun i last=>0<=last/\(i=0->last=0)/\∀ y,0 < i->x.2.2.1[i - 1]?=some y->last=y) (by rw[ah];omega)
  (fun i hi last self hI=>by
   obtain ⟨i1,i2,i3⟩:=hI
   show ba.b0 _ _ _ _=_
   unfold ba.b0
   have aj:(i:Int) < (List.length x.2.2.1:Int):=by omega
   simp only[aj,decide_true,cond_true,Int.natCast_nonneg,if_true,Int.toNat_natCast,List.getElem?_eq_getElem hi,Option.bind_some,iR]
   generalize NQ:(x.2.2.1)[i]=m
   rw[<-Km i1]
   show (bif !cz m 0 (List.length x.2.1:Int) then _ else _)=_
   cases BM:cz m 0 (List.length x.2.1:Int) with
   | false=>rfl
   | true=>
    have CP:0<=m:=by
     simp only[cz,Bool.and_eq_true,decide_eq_true_eq] at BM
     exact BM.1
    simp only[Bool.not_true,cond_false,Bool.true_and]
    by_cases h0:i=0
    ·subst h0
     have:=i2 rfl
     subst this
     have hz:¬ (0:Int) < ((0:Nat):Int):=by omega
     simp only[hz,CP,decide_true,decide_false,cond_false,if_true]
    ·have yI:i - 1 < List.length x.2.2.1:=by omega
     have hl:=i3 (x.2.2.1)[i - 1] (by omega) (List.getElem?_eq_getElem yI)
     have hp:(0:Int) < (i:Int):=by omega
     simp only[hp,decide_true,cond_true,yF (show 0 < i by omega) (by rw[ah];omega),Int.natCast_nonneg,if_true,Int.toNat_natCast,List.getElem?_eq_getElem yI,Option.bind_some]
     rw[<-hl]
     by_cases hc:last<=m
     ·have:¬ m < last:=by omega
      simp only[hc,this,decide_true,decide_false,cond_false,if_true]
     ·have:m < last:=by omega
      simp only[hc,this,decide_true,decide_false,cond_true,Bool.false_eq_true,if_false])
  (fun i hi last TN hI hs=>by
   split at hs
   ·rename_i hb
    injection hs with hs
    subst hs
    simp only[cz,Bool.and_eq_true,decide_eq_true_eq] at hb
    refine ⟨by omega,fun e=>by omega,fun y _ hy=>?_⟩
    rw[Nat.add_sub_cancel,List.getElem?_eq_getElem hi] at hy
    injection hy
   ·cases hs)
  (fun last self hI=>by
   show ba.b0 _ _ _ _=_
   unfold ba.b0
   simp only[Int.lt_irrefl,decide_false,cond_false]
   exact second) 0 ⟨Int.le_refl _,fun _=>rfl,fun _ h=>by omega⟩ k (by omega)
 refine Eq.trans this ?_
 unfold yH
 rw[CY]
 cases aV (fun _ last m=>if cz m last (List.length x.2.1:Int) then .inr m else .inl false) (fun _=>true) 0 x.2.2.1 0 <;> rfl
end OT
set_option linter.unusedVariables false
set_option linter.unusedSimpArgs false
namespace OT
open Go
def pb (D:List UInt8) (i:Nat):Nat:=(D.getD i 0).toNat
theorem gy (D:List UInt8) (i:Nat):pb D i < 256:=UInt8.toNat_lt _
theorem d9 {D:List UInt8} {i:Nat} (h:i < D.length):D[i]?=some D[i]/\(D[i]).toNat=pb D i:=⟨List.getElem?_eq_getElem h,by simp[pb,h]⟩
theorem IK {A B:List UInt8} (h:A.length=B.length) (Y:∀ j,j < A.length->pb A j=pb B j):A=B:=by
 refine List.ext_getElem h fun i h1 h3=>?_
 have:=Y i h1
 rw[<-(d9 h1).2,<- (d9 h3).2] at this
 exact UInt8.toNat_inj.1 this
theorem Kn (D:List UInt8) (a n j:Nat) (h:j < n):pb ((D.drop a).take n) j=pb D (a+j):=by
 unfold pb
 simp only[List.getD_eq_getElem?_getD,List.getElem?_take,h,if_true,List.getElem?_drop]
def pn (p:List UInt8):Nat:=pb p 0
def gq (p:List UInt8):Nat:=pb p 1
def pat (p:List UInt8) (i:Nat):Nat:=pb p (2+2*i)
def aN (p:List UInt8) (i:Nat):Nat:=pb p (3+2*i)
def nN (p:List UInt8) (i:Nat):Bool:=if pat p i=0\/aN p i=0 then decide (pat p i=aN p i) else decide (gq p<=pat p i)&&decide (pat p i+aN p i<=64)
def kA (p:List UInt8) (i k:Nat):Bool:=(decide (aN p i=0)||decide (aN p k=0))||(decide (pat p i+aN p i<=pat p k)||decide (pat p k+aN p k<=pat p i))
def oX (p:List UInt8):Int:=
 if p.length=64 then
  if pn p<=16/\2+2*pn p<=gq p/\gq p<=64 then
   if (List.range (pn p)).all (nN p) then
    if (List.range (pn p)).all (fun i=>(List.range i).all (kA p i)) then
     if 0 < pn p/\aN p (pn p - 1)=0 then 8 else 0
    else 8
   else 3
  else 3
 else 1
structure kZ (p:List UInt8):Prop where
 len:p.length=64
 n:pn p<=16
 lo:2+2*pn p<=gq p
 hi:gq p<=64
 slot:∀ i,i < pn p->aN p i≠0->gq p<=pat p i/\pat p i+aN p i<=64
 zero:∀ i,i < pn p->aN p i=0->pat p i=0
 apart:∀ i k,i < pn p->k < pn p->i≠k->aN p i≠0->aN p k≠0->pat p i+aN p i<=pat p k\/pat p k+aN p k<=pat p i
 last:0 < pn p->aN p (pn p - 1)≠0
theorem vC {p:List UInt8} {i:Nat} (sI:2<=gq p):nN p i=true↔(aN p i≠0->gq p<=pat p i/\pat p i+aN p i<=64)/\(aN p i=0->pat p i=0):=by
 unfold nN
 by_cases h1:aN p i=0
 ·simp[h1]
 ·by_cases Y:pat p i=0
  ·simp[h1,Y]
   omega
  ·simp[h1,Y]
theorem qA {p:List UInt8} {i k:Nat}:kA p i k=true↔(aN p i≠0->aN p k≠0->pat p i+aN p i<=pat p k\/pat p k+aN p k<=pat p i):=by
 unfold kA
 by_cases h1:aN p i=0
 ·simp[h1]
 ·by_cases Y:aN p k=0
  ·simp[Y]
  ·simp[h1,Y]
theorem vD {p:List UInt8}:oX p=0↔kZ p:=by
 constructor
 ·intro h
  unfold oX at h
  split at h
  ·rename_i h1
   split at h
   ·rename_i Y
    split at h
    ·rename_i h3
     split at h
     ·rename_i h4
      split at h
      ·cases h
      ·rename_i h5
       have hs:∀ i,i < pn p->(aN p i≠0->gq p<=pat p i/\pat p i+aN p i<=64)/\(aN p i=0->pat p i=0):=fun i hi=>(vC (by omega)).1 (List.all_eq_true.1 h3 i (List.mem_range.2 hi))
       have ha:∀ i k,i < pn p->k < i->aN p i≠0->aN p k≠0->pat p i+aN p i<=pat p k\/pat p k+aN p k<=pat p i:=fun i k hi hk=>qA.1 (List.all_eq_true.1 (List.all_eq_true.1 h4 i (List.mem_range.2 hi)) k (List.mem_range.2 hk))
       refine ⟨h1,Y.1,Y.2.1,Y.2.2,fun i hi=>(hs i hi).1,fun i hi=>(hs i hi).2,fun i k hi hk LP z1 z2=>?_,fun hn hz=>h5 ⟨hn,hz⟩⟩
       rcases Nat.lt_or_gt_of_ne LP with h6 | h6
       ·exact (ha k i hk h6 z2 z1).symm
       ·exact ha i k hi h6 z1 z2
     ·cases h
    ·cases h
   ·cases h
  ·cases h
 ·intro h
  unfold oX
  rw[if_pos h.len,if_pos ⟨h.n,h.lo,h.hi⟩,if_pos,if_pos,if_neg]
  ·intro ⟨h1,Y⟩
   exact h.last h1 Y
  ·refine List.all_eq_true.2 fun i hi=>List.all_eq_true.2 fun k hk=>qA.2 ?_
   have:=List.mem_range.1 hi
   have:=List.mem_range.1 hk
   exact h.apart i k (by omega) (by omega) (by omega)
  ·exact List.all_eq_true.2 fun i hi=>(vC (by have:=h.lo;omega)).2 ⟨h.slot i (List.mem_range.1 hi),h.zero i (List.mem_range.1 hi)⟩
def ep (p:List UInt8) (i:Nat):List UInt8:=(p.drop (pat p i)).take (aN p i)
def cellOf (p:List UInt8) (i:Nat):List UInt8:=if i < pn p then ep p i else []
theorem r_ {p:List UInt8} (h:kZ p) {i:Nat} (hi:i < pn p):(ep p i).length=aN p i:=by
 unfold ep
 by_cases hz:aN p i=0
 ·simp[hz]
 ·have:=h.slot i hi hz
  have:=h.len
  simp only[List.length_take,List.length_drop]
  omega
theorem xk (p:List UInt8) (i j:Nat) (h:j < aN p i):pb (ep p i) j=pb p (pat p i+j):=Kn p _ _ j h
theorem Ko {p q:List UInt8} {i k:Nat} (hp:(ep p i).length=aN p i) (hq:(ep q k).length=aN q k) (hs:aN p i=aN q k) (hb:∀ j,j < aN p i->pb p (pat p i+j)=pb q (pat q k+j)):ep p i=ep q k:=by
 refine IK (by omega) fun j hj=>?_
 rw[xk p i j (by omega),xk q k j (by omega)]
 exact hb j (by omega)
theorem Kp {p c:List UInt8} {i:Nat} (hp:(ep p i).length=aN p i) (hs:aN p i=c.length) (hb:∀ j,j < c.length->pb p (pat p i+j)=pb c j):ep p i=c:=by
 refine IK (by omega) fun j hj=>?_
 rw[xk p i j (by omega)]
 exact hb j (by omega)
def TO (p:List UInt8) (s a:Nat) (c:List UInt8):List UInt8:=((lh p a c.length c).set (2+2*s) (UInt8.ofNat a)).set (3+2*s) (UInt8.ofNat c.length)
structure pU (p q:List UInt8) (s a m:Nat):Prop where
 len:q.length=64
 n:pn q=pn p\/(pn q=pn p+1/\s=pn p)
 Oi:s < pn q
 n16:pn q<=16
 lo:2+2*pn q<=gq q
 Tn:gq q<=gq p
 at_:pat q s=a
 sz:aN q s=m
 pos:0 < m
 Rr:gq q<=a
 Rs:a+m<=64
 C0:∀ i,i < pn q->i≠s->pat q i=pat p i/\aN q i=aN p i
 free:∀ i,i < pn p->i≠s->aN p i≠0->a+m<=pat p i\/pat p i+aN p i<=a
 same:∀ j,gq p<=j->j < 64->(j < a\/a+m<=j)->pb q j=pb p j
theorem pU.ok {p q:List UInt8} {s a m:Nat} (t:pU p q s a m) (h:kZ p):kZ q:=by
 have aj:∀ i,i < pn q->i≠s->i < pn p:=fun i hi hs=>by rcases t.n with h1 | ⟨h1,Y⟩ <;> omega
 have ha:=t.at_
 have hm:=t.sz
 have zp:=t.pos
 have sI:=t.Rr
 have Nc:=t.Rs
 have TV:=t.Tn
 have hh:=h.hi
 refine ⟨t.len,t.n16,t.lo,by omega,fun i hi hz=>?_,fun i hi hz=>?_,fun i k hi hk LP z1 z2=>?_,fun hn=>?_⟩
 ·by_cases hs:i=s
  ·subst hs;omega
  ·obtain ⟨h1,Y⟩:=t.C0 i hi hs
   have:=h.slot i (aj i hi hs) (by omega)
   omega
 ·by_cases hs:i=s
  ·subst hs;omega
  ·obtain ⟨h1,Y⟩:=t.C0 i hi hs
   have:=h.zero i (aj i hi hs) (by omega)
   omega
 ·by_cases hs:i=s
  ·subst hs
   have LO:k≠i:=fun e=>LP e.symm
   obtain ⟨h1,Y⟩:=t.C0 k hk LO
   have:=t.free k (aj k hk LO) LO (by omega)
   omega
  ·obtain ⟨h1,Y⟩:=t.C0 i hi hs
   by_cases nv:k=s
   ·subst nv
    have:=t.free i (aj i hi hs) hs (by omega)
    omega
   ·obtain ⟨h3,h4⟩:=t.C0 k hk nv
    have:=h.apart i k (aj i hi hs) (aj k hk nv) LP (by omega) (by omega)
    omega
 ·by_cases hs:pn q - 1=s
  ·rw[hs];omega
  ·obtain ⟨h1,Y⟩:=t.C0 (pn q - 1) (by omega) hs
   have hq:pn q=pn p:=by
    rcases t.n with h3 | ⟨h3,h4⟩
    ·exact h3
    ·omega
   rw[Y,hq]
   exact h.last (by omega)
theorem pU.GP {p q:List UInt8} {s a m:Nat} (t:pU p q s a m) (h:kZ p) {i:Nat} (hi:i < pn q) (hs:i≠s):ep q i=ep p i:=by
 have wz:i < pn p:=by rcases t.n with h1 | ⟨h1,Y⟩ <;> omega
 obtain ⟨h1,Y⟩:=t.C0 i hi hs
 refine Ko (r_ (t.ok h) hi) (r_ h wz) Y fun j hj=>?_
 have hz:aN p i≠0:=by omega
 have h3:=h.slot i wz hz
 have h4:=t.free i wz hs hz
 rw[h1]
 exact t.same _ (by omega) (by omega) (by omega)
theorem pU.IL {p q:List UInt8} {s a:Nat} {c:List UInt8} (t:pU p q s a c.length) (h:kZ p) (hc:∀ j,j < c.length->pb q (a+j)=pb c j):ep q s=c:=
 Kp (r_ (t.ok h) t.Oi) t.sz fun j hj=>by rw[t.at_];exact hc j hj
theorem pU.cells {p q:List UInt8} {s a:Nat} {c:List UInt8} (t:pU p q s a c.length) (h:kZ p) (hc:∀ j,j < c.length->pb q (a+j)=pb c j) (i:Nat):cellOf q i=if i=s then c else cellOf p i:=by
 have hs:=t.Oi
 unfold cellOf
 by_cases uB:i=s
 ·subst uB
  rw[if_pos hs,if_pos rfl,t.IL h hc]
 ·rw[if_neg uB]
  by_cases hi:i < pn q
  ·have wz:i < pn p:=by rcases t.n with h1 | ⟨h1,Y⟩ <;> omega
   rw[if_pos hi,if_pos wz,t.GP h hi uB]
  ·have wz:¬ i < pn p:=by rcases t.n with h1 | ⟨h1,Y⟩ <;> omega
   rw[if_neg hi,if_neg wz]
end OT
set_option linter.unusedVariables false
set_option linter.unusedSimpArgs false
namespace OT
open Go
def GQ (p:List UInt8):Nat->Nat
 | 0=>0
 | m+1=>GQ p m+aN p m
def nz (p:List UInt8):Nat->Nat->Bool
 | 0,_=>false
 | k+1,j=>nz p k j||decide (pat p k<=j/\j < pat p k+aN p k)
structure TP (p:List UInt8) (k:Nat) (o:List UInt8) (a:Nat):Prop where
 len:o.length=64
 n:pb o 0=pn p
 a:a=64 - GQ p k
 sz:∀ i,i < pn p->aN o i=aN p i
 Ug:∀ i,i < pn p->(k<=i\/aN p i=0)->pat o i=pat p i
 new:∀ i,i < k->aN p i≠0->pat o i=64 - GQ p (i+1)/\∀ j,j < aN p i->pb o (64 - GQ p (i+1)+j)=pb p (pat p i+j)
end OT
set_option linter.unusedVariables false
set_option linter.unusedSimpArgs false
namespace OT
open Go
theorem Oj {i:Nat} (h:i < 1000):ae ((3:Int)+ae ((2:Int)*(i:Int)))=((3+2*i:Nat):Int):=by
 rw[aJ (n:=(2:Int)*(i:Int)) (by omega),aJ (by omega)];omega
theorem LQ {i:Nat} (h:i < 1000):ae ((2:Int)+ae ((2:Int)*(i:Int)))=((2+2*i:Nat):Int):=by
 rw[aJ (n:=(2:Int)*(i:Int)) (by omega),aJ (by omega)];omega
theorem uE (p:List UInt8) (i:Nat):ae ((pb p i:Nat):Int)=((pb p i:Nat):Int):=by
 have:=gy p i
 exact aJ (by omega)
theorem dI {R:Type} {p:List UInt8} {i:Nat} (h:i < p.length) (K:UInt8->Option R):(p[i]?).bind K=K p[i]:=by rw[(d9 h).1];rfl
section
variable {p:List UInt8} (hp:p.length=64)
include hp
theorem oy:dh.ab (p,())=some ((pn p:Int),()):=by
 refine ag (k:=0) fun k _=>(dh.aa k _).trans ?_
 show dh.p _=_
 unfold dh.p
 simp only[dI (show 0 < p.length by omega),(d9 (show 0 < p.length by omega)).2,uE]
 rfl
theorem sa:eE.ab (p,())=some ((pn p:Int),()):=by
 refine ag (k:=0) fun k _=>(eE.aa k _).trans ?_
 show eE.p _=_
 unfold eE.p
 simp only[dI (show 0 < p.length by omega),(d9 (show 0 < p.length by omega)).2,uE]
 rfl
theorem E4:gJ.ab (p,())=some ((gq p:Int),()):=by
 refine ag (k:=0) fun k _=>(gJ.aa k _).trans ?_
 show gJ.p _=_
 unfold gJ.p
 simp only[dI (show 1 < p.length by omega),(d9 (show 1 < p.length by omega)).2,uE]
 rfl
theorem m8 {i:Nat} (hi:i < 16):bv.ab (p,(i:Int),())=some ((aN p i:Int),()):=by
 refine ag (k:=0) fun k _=>(bv.aa k _).trans ?_
 show bv.p _=_
 unfold bv.p
 simp only[Oj (show i < 1000 by omega),Int.natCast_nonneg,if_true,Int.toNat_natCast,dI (show 3+2*i < p.length by omega),(d9 (show 3+2*i < p.length by omega)).2,uE]
 rfl
theorem sb {i:Nat} (hi:i < 16):di.ab (p,(i:Int),())=some ((pat p i:Int),()):=by
 refine ag (k:=0) fun k _=>(di.aa k _).trans ?_
 show di.p _=_
 unfold di.p
 simp only[LQ (show i < 1000 by omega),Int.natCast_nonneg,if_true,Int.toNat_natCast,dI (show 2+2*i < p.length by omega),(d9 (show 2+2*i < p.length by omega)).2,uE]
 rfl
theorem xl {i:Nat} (hi:i < 16):iN.ab (p,(i:Int),())=some ((pat p i:Int),(aN p i:Int),()):=by
 refine ag (k:=0) fun k _=>(iN.aa k _).trans ?_
 show iN.p _=_
 unfold iN.p
 simp only[LQ (show i < 1000 by omega),Oj (show i < 1000 by omega),Int.natCast_nonneg,if_true,Int.toNat_natCast,dI (show 2+2*i < p.length by omega),(d9 (show 2+2*i < p.length by omega)).2,dI (show 3+2*i < p.length by omega),(d9 (show 3+2*i < p.length by omega)).2,uE]
 rfl
theorem Kq {i:Nat} (hi:i < 16):ka.ab (p,(i:Int),())=some (nN p i,()):=by
 refine ag (k:=0) fun k _=>(ka.aa k _).trans ?_
 show ka.p _=_
 unfold ka.p nN
 have h1:=gy p (2+2*i)
 have Y:=gy p (3+2*i)
 have hw:ae ((pat p i:Int)+(aN p i:Int))=((pat p i+aN p i:Nat):Int):=by
  have:pat p i < 256:=h1
  have:aN p i < 256:=Y
  rw[aJ (by omega)];omega
 simp only[sb hp hi,m8 hp hi,E4 hp,Option.bind_some,hw]
 have e1:decide ((pat p i:Int)=0)=decide (pat p i=0):=by rw[decide_eq_decide];omega
 have e2:decide ((aN p i:Int)=0)=decide (aN p i=0):=by rw[decide_eq_decide];omega
 have e3:decide ((pat p i:Int)=(aN p i:Int))=decide (pat p i=aN p i):=by rw[decide_eq_decide];omega
 have e4:decide ((gq p:Int)<=(pat p i:Int))=decide (gq p<=pat p i):=by rw[decide_eq_decide];omega
 have e5:decide (((pat p i+aN p i:Nat):Int)<=64)=decide (pat p i+aN p i<=64):=by rw[decide_eq_decide];omega
 rw[e1,e2,e3,e4,e5]
 by_cases c1:pat p i=0
 ·simp[c1]
 ·by_cases c2:aN p i=0
  ·simp[c1,c2]
  ·simp only[c1,c2,decide_false,cond_false,or_self,if_false]
   cases decide (gq p<=pat p i) <;> rfl
theorem IM {i j:Nat} (hi:i < 16) (hj:j < 16):jt.ab (p,(i:Int),(j:Int),())=some (kA p i j,()):=by
 refine ag (k:=0) fun k _=>(jt.aa k _).trans ?_
 show jt.p _=_
 unfold jt.p kA
 have h1:pat p i < 256:=gy p _
 have Y:aN p i < 256:=gy p _
 have h3:pat p j < 256:=gy p _
 have h4:aN p j < 256:=gy p _
 have hw:ae ((pat p i:Int)+(aN p i:Int))=((pat p i+aN p i:Nat):Int):=by rw[aJ (by omega)];omega
 have oO:ae ((pat p j:Int)+(aN p j:Int))=((pat p j+aN p j:Nat):Int):=by rw[aJ (by omega)];omega
 simp only[sb hp hi,m8 hp hi,sb hp hj,m8 hp hj,Option.bind_some,hw,oO]
 have e1:decide ((aN p i:Int)=0)=decide (aN p i=0):=by rw[decide_eq_decide];omega
 have e2:decide ((aN p j:Int)=0)=decide (aN p j=0):=by rw[decide_eq_decide];omega
 have e3:decide (((pat p i+aN p i:Nat):Int)<=(pat p j:Int))=decide (pat p i+aN p i<=pat p j):=by rw[decide_eq_decide];omega
 have e4:decide (((pat p j+aN p j:Nat):Int)<=(pat p i:Int))=decide (pat p j+aN p j<=pat p i):=by rw[decide_eq_decide];omega
 rw[e1,e2,e3,e4]
 cases decide (aN p i=0) <;> cases decide (aN p j=0) <;> cases decide (pat p i+aN p i<=pat p j) <;> rfl
end
theorem mt {O:Type} (q:Nat->Bool) (bad e:O):∀ (xs:List Nat) (i:Nat),aV (fun _ (_:Unit) x=>if q x then .inr () else .inl bad) (fun _=>e) i xs ()=if xs.all q then e else bad:=fun xs i=>kO q bad (fun _=>e) xs i
theorem D9 (p:List UInt8) (hl:p.length<=maxLen):aT.ab (p,())=some (oX p,()):=by
 refine ag (k:=100) fun k hk=>(aT.aa k _).trans ?_
 unfold aT.p oX
 have e0:decide ((p.length:Int)=64)=decide (p.length=64):=by rw[decide_eq_decide];omega
 rw[e0]
 by_cases hp:p.length=64
 rotate_left
 ·simp only[hp,decide_false,Bool.not_false,cond_true,if_false]
 have hn:pn p < 256:=gy p 0
 have sI:gq p < 256:=gy p 1
 have hw:ae ((2:Int)+ae ((2:Int)*(pn p:Int)))=((2+2*pn p:Nat):Int):=LQ (by omega)
 simp only[hp,decide_true,Bool.not_true,cond_false,oy hp,E4 hp,Option.bind_some,hw,if_true]
 by_cases c1:pn p<=16
 rotate_left
 ·have:((16:Int) < (pn p:Int)):=by omega
  simp only[this,decide_true,cond_true,c1,false_and,if_false]
 have n1:¬ ((16:Int) < (pn p:Int)):=by omega
 simp only[n1,decide_false,cond_false,c1,true_and]
 by_cases c2:2+2*pn p<=gq p
 rotate_left
 ·have:((gq p:Int) < ((2+2*pn p:Nat):Int)):=by omega
  simp only[this,decide_true,cond_true,c2,false_and,if_false]
 have n2:¬ ((gq p:Int) < ((2+2*pn p:Nat):Int)):=by omega
 simp only[n2,decide_false,cond_false,c2,true_and]
 by_cases c3:gq p<=64
 rotate_left
 ·have:((64:Int) < (gq p:Int)):=by omega
  simp only[this,decide_true,cond_true,c3,if_false]
 have n3:¬ ((64:Int) < (gq p:Int)):=by omega
 simp only[n3,decide_false,cond_false,c3,if_true]
 have inner:∀ (self:((List UInt8)×Int×Int)->Option aT.Out) (e2:((List UInt8)×Int)->Option aT.Out) (i:Nat) (hi:i < pn p),aT.r2 k self e2 (p,()) p (pn p:Int) (i:Int) (0:Int)=if (List.range i).all (kA p i) then self (p,(pn p:Int),ae ((i:Int)+1)) else some ((8:Int),()):=fun self e2 i hi=>by
  have:=bF (B:=fun ca v=>aT.B2 k ca (fun z=>aT.Q1 k self e2 (p,()) p (pn p:Int) (i:Int) z) (p,()) p (pn p:Int) (i:Int) v) (List.range i) (fun (_:Unit) (j:Int)=>j) (fun _ _ x=>if kA p i x then .inr () else .inl (some ((8:Int),()))) (fun _=>self (p,(pn p:Int),ae ((i:Int)+1))) (fun _ _=>True) (by rw[ah,List.length_range];omega)
   (fun j hj s ca _=>by
    rw[List.length_range] at hj
    show aT.b2 _ _ _ _ _ _ _=_
    unfold aT.b2
    have aj:(j:Int) < (i:Int):=by omega
    simp only[aj,decide_true,cond_true,IM hp (show i < 16 by omega) (show j < 16 by omega),Option.bind_some,List.getElem_range]
    cases kA p i j <;> rfl)
   (fun _ _ _ _ _ _=>trivial) (fun s ca _=>by
    rw[List.length_range]
    show aT.b2 _ _ _ _ _ _ _=_
    unfold aT.b2
    simp only[Int.lt_irrefl,decide_false,cond_false]
    rfl) () trivial k (by rw[List.length_range];omega)
  rw[mt] at this
  exact this
 have outer:aT.r1 k (p,()) (pn p:Int) (p,(pn p:Int),(0:Int))=if (List.range (pn p)).all (fun i=>(List.range i).all (kA p i)) then aT.Q2 k (p,()) (p,(pn p:Int)) else some ((8:Int),()):=by
  have:=bF (B:=fun self v=>aT.B1 k self (fun z=>aT.Q2 k (p,()) z) (p,()) v) (List.range (pn p)) (fun (_:Unit) (i:Int)=>(p,(pn p:Int),i)) (fun _ _ x=>if (List.range x).all (kA p x) then .inr () else .inl (some ((8:Int),()))) (fun _=>aT.Q2 k (p,()) (p,(pn p:Int))) (fun _ _=>True) (by rw[ah,List.length_range];omega)
   (fun i hi s self _=>by
    rw[List.length_range] at hi
    show aT.b1 _ _ _ _ _=_
    unfold aT.b1
    have aj:(i:Int) < (pn p:Int):=by omega
    simp only[aj,decide_true,cond_true,inner self _ i hi,List.getElem_range]
    cases (List.range i).all (kA p i) <;> rfl)
   (fun _ _ _ _ _ _=>trivial) (fun s self _=>by
    rw[List.length_range]
    show aT.b1 _ _ _ _ _=_
    unfold aT.b1
    simp only[Int.lt_irrefl,decide_false,cond_false]) () trivial k (by rw[List.length_range];omega)
  rw[mt] at this
  exact this
 have first:aT.r0 k (p,()) (pn p:Int) (0:Int)=if (List.range (pn p)).all (nN p) then aT.r1 k (p,()) (pn p:Int) (p,(pn p:Int),(0:Int)) else some ((3:Int),()):=by
  have:=bF (B:=fun self v=>aT.B0 k self (fun z=>aT.Q0 k (p,()) (pn p:Int) z) (p,()) (pn p:Int) v) (List.range (pn p)) (fun (_:Unit) (i:Int)=>i) (fun _ _ x=>if nN p x then .inr () else .inl (some ((3:Int),()))) (fun _=>aT.r1 k (p,()) (pn p:Int) (p,(pn p:Int),(0:Int))) (fun _ _=>True) (by rw[ah,List.length_range];omega)
   (fun i hi s self _=>by
    rw[List.length_range] at hi
    show aT.b0 _ _ _ _ _=_
    unfold aT.b0
    have aj:(i:Int) < (pn p:Int):=by omega
    simp only[aj,decide_true,cond_true,Kq hp (show i < 16 by omega),Option.bind_some,List.getElem_range]
    cases nN p i <;> rfl)
   (fun _ _ _ _ _ _=>trivial) (fun s self _=>by
    rw[List.length_range]
    show aT.b0 _ _ _ _ _=_
    unfold aT.b0
    simp only[Int.lt_irrefl,decide_false,cond_false]
    rfl) () trivial k (by rw[List.length_range];omega)
  rw[mt] at this
  exact this
 rw[first]
 split
 ·rw[outer]
  split
  ·show aT.q2 _ _=_
   unfold aT.q2
   by_cases h0:0 < pn p
   ·have aj:(0:Int) < (pn p:Int):=by omega
    have Ol:ae ((pn p:Int) - 1)=((pn p - 1:Nat):Int):=by rw[aJ (by omega)];omega
    simp only[aj,decide_true,cond_true,Ol,m8 hp (show pn p - 1 < 16 by omega),Option.bind_some,h0,true_and]
    by_cases hz:aN p (pn p - 1)=0
    ·simp[hz]
    ·have:¬ ((aN p (pn p - 1):Int)=0):=by omega
     simp only[this,decide_false,cond_false,hz,if_false]
   ·have aj:¬ ((0:Int) < (pn p:Int)):=by omega
    simp only[aj,decide_false,cond_false,h0,false_and,if_false]
  ·rfl
 ·rfl
theorem vE {S O:Type} (q:Nat->Bool) (g:Nat->S) (bad e:O):∀ (xs:List Nat) (i:Nat) (s:S),aV (fun _ s x=>if q x then .inl bad else .inr (g x)) (fun _=>e) i xs s=if xs.any q then bad else e
 | [],_,_=>rfl
 | x::xs,i,s=>by
  simp only[aV,List.any_cons]
  by_cases h:q x=true
  ·simp[h]
  ·simp[h,vE q g bad e xs (i+1)]
def nZ (p:List UInt8) (i t:Nat):List Bool:=(List.range 64).map fun j=>nz p i j||decide (pat p i<=j/\j < pat p i+t)
def t6 (p:List UInt8) (i:Nat):Bool:=(List.range (aN p i)).any fun t=>nz p i (pat p i+t)
theorem IN (p:List UInt8) (i:Nat):nZ p i 0=(List.range 64).map (nz p i):=by
 unfold nZ
 refine List.map_congr_left fun j _=>?_
 have:¬ (pat p i<=j/\j < pat p i+0):=by omega
 simp only[this,decide_false,Bool.or_false]
theorem IP (p:List UInt8) (i:Nat):nZ p i (aN p i)=(List.range 64).map (nz p (i+1)):=rfl
theorem xm (p:List UInt8) (i t j:Nat) (h:j < 64):(nZ p i t)[j]?=some (nz p i j||decide (pat p i<=j/\j < pat p i+t)):=by
 unfold nZ
 simp[h]
theorem t7 (p:List UInt8) (i t:Nat):(nZ p i t).length=64:=by simp[nZ]
theorem IQ (p:List UInt8) (i t:Nat) (h:pat p i+t < 64):(nZ p i t).set (pat p i+t) true=nZ p i (t+1):=by
 refine List.ext_getElem? fun j=>?_
 rw[List.getElem?_set,t7]
 by_cases hj:j < 64
 ·rw[xm p i t j hj,xm p i (t+1) j hj]
  by_cases e:pat p i+t=j
  ·subst e
   have:pat p i<=pat p i+t/\pat p i+t < pat p i+(t+1):=by omega
   simp[h,this]
  ·rw[if_neg e]
   have:(pat p i<=j/\j < pat p i+t)↔(pat p i<=j/\j < pat p i+(t+1)):=by omega
   simp only[this]
 ·have h1:(nZ p i t)[j]?=none:=List.getElem?_eq_none (by rw[t7];omega)
  have Y:(nZ p i (t+1))[j]?=none:=List.getElem?_eq_none (by rw[t7];omega)
  rw[h1,Y,if_neg (by omega)]
theorem C3 {p:List UInt8}:∀ {k j:Nat},nz p k j=true↔∃ i,i < k/\pat p i<=j/\j < pat p i+aN p i
 | 0,j=>by simp[nz]
 | k+1,j=>by
  simp only[nz,Bool.or_eq_true,decide_eq_true_eq,C3 (k:=k)]
  constructor
  ·rintro (⟨i,h1,Y⟩ | h)
   ·exact ⟨i,by omega,Y⟩
   ·exact ⟨k,by omega,h⟩
  ·rintro ⟨i,h1,Y⟩
   by_cases e:i=k
   ·subst e;exact .inr Y
   ·exact .inl ⟨i,by omega,Y⟩
theorem GS (p:List UInt8) (i:Nat):t6 p i=!(List.range i).all (kA p i):=by
 rw[Bool.eq_iff_iff]
 simp only[t6,List.any_eq_true,List.mem_range,C3,Bool.not_eq_true',List.all_eq_false,Bool.not_eq_true]
 constructor
 ·rintro ⟨t,ht,k,hk,h1,Y⟩
  refine ⟨k,hk,?_⟩
  cases h:kA p i k with
  | false=>rfl
  | true=>have:=qA.1 h (by omega) (by omega);omega
 ·rintro ⟨k,hk,h⟩
  have hn:¬ (aN p i≠0->aN p k≠0->pat p i+aN p i<=pat p k\/pat p k+aN p k<=pat p i):=fun Y=>by rw[qA.2 Y] at h;cases h
  by_cases c1:aN p i=0
  ·exact absurd (fun h=>absurd c1 h) hn
  ·by_cases c2:aN p k=0
   ·exact absurd (fun _ h=>absurd c2 h) hn
   ·have c3:¬ (pat p i+aN p i<=pat p k):=fun h3=>hn fun _ _=>.inl h3
    have c4:¬ (pat p k+aN p k<=pat p i):=fun h3=>hn fun _ _=>.inr h3
    exact ⟨max (pat p i) (pat p k) - pat p i,by omega,k,hk,by omega,by omega⟩
theorem Kr (p:List UInt8) (n:Nat):(List.range n).any (t6 p)=!(List.range n).all (fun i=>(List.range i).all (kA p i)):=by
 rw[List.not_all_eq_any_not]
 congr 1
 funext i
 exact GS p i
theorem D_ (p:List UInt8) (hl:p.length<=maxLen):aI.ab (p,())=some (oX p,()):=by
 refine ag (k:=300) fun k hk=>(aI.aa k _).trans ?_
 unfold aI.p oX
 have e0:decide ((p.length:Int)=64)=decide (p.length=64):=by rw[decide_eq_decide];omega
 rw[e0]
 by_cases hp:p.length=64
 rotate_left
 ·simp only[hp,decide_false,Bool.not_false,cond_true,if_false]
 have hn:pn p < 256:=gy p 0
 have sI:gq p < 256:=gy p 1
 have hw:ae ((2:Int)+ae ((2:Int)*(pn p:Int)))=((2+2*pn p:Nat):Int):=LQ (by omega)
 have MV:((p[1]'(by omega)).toNat)=gq p:=(d9 (show 1 < p.length by omega)).2
 have To:ae (gq p:Int)=(gq p:Int):=uE p 1
 simp only[hp,decide_true,Bool.not_true,cond_false,dI (show 1 < p.length by omega),MV,To,sa hp,Option.bind_some,hw,if_true]
 by_cases c1:pn p<=16
 rotate_left
 ·have:((16:Int) < (pn p:Int)):=by omega
  simp only[this,decide_true,cond_true,c1,false_and,if_false]
 have n1:¬ ((16:Int) < (pn p:Int)):=by omega
 simp only[n1,decide_false,cond_false,c1,true_and]
 by_cases c2:2+2*pn p<=gq p
 rotate_left
 ·have:((gq p:Int) < ((2+2*pn p:Nat):Int)):=by omega
  simp only[this,decide_true,cond_true,c2,false_and,if_false]
 have n2:¬ ((gq p:Int) < ((2+2*pn p:Nat):Int)):=by omega
 simp only[n2,decide_false,cond_false,c2,true_and]
 by_cases c3:gq p<=64
 rotate_left
 ·have:((64:Int) < (gq p:Int)):=by omega
  simp only[this,decide_true,cond_true,c3,if_false]
 have n3:¬ ((64:Int) < (gq p:Int)):=by omega
 simp only[n3,decide_false,cond_false,c3,if_true]
 have first:aI.r0 k (p,()) (pn p:Int) (gq p:Int) (0:Int)=if (List.range (pn p)).all (nN p) then aI.Q0 k (p,()) (pn p:Int) (gq p:Int) () else some ((3:Int),()):=by
  have:=bF (B:=fun self v=>aI.B0 k self (fun z=>aI.Q0 k (p,()) (pn p:Int) (gq p:Int) z) (p,()) (pn p:Int) (gq p:Int) v) (List.range (pn p)) (fun (_:Unit) (i:Int)=>i) (fun _ _ x=>if nN p x then .inr () else .inl (some ((3:Int),()))) (fun _=>aI.Q0 k (p,()) (pn p:Int) (gq p:Int) ()) (fun _ _=>True) (by rw[ah,List.length_range];omega)
   (fun i hi s self _=>by
    rw[List.length_range] at hi
    show aI.b0 _ _ _ _ _ _=_
    unfold aI.b0
    have aj:(i:Int) < (pn p:Int):=by omega
    have h1:pat p i < 256:=gy p _
    have Y:aN p i < 256:=gy p _
    have oO:ae ((pat p i:Int)+(aN p i:Int))=((pat p i+aN p i:Nat):Int):=by rw[aJ (by omega)];omega
    simp only[aj,decide_true,cond_true,xl hp (show i < 16 by omega),Option.bind_some,List.getElem_range,oO]
    have e1:decide ((pat p i:Int)=0)=decide (pat p i=0):=by rw[decide_eq_decide];omega
    have e2:decide ((aN p i:Int)=0)=decide (aN p i=0):=by rw[decide_eq_decide];omega
    have e4:decide ((pat p i:Int) < (gq p:Int))=decide (pat p i < gq p):=by rw[decide_eq_decide];omega
    have e5:decide ((64:Int) < ((pat p i+aN p i:Nat):Int))=decide (64 < pat p i+aN p i):=by rw[decide_eq_decide];omega
    rw[e1,e2,e4,e5]
    unfold nN
    by_cases d1:pat p i=0
    ·by_cases d2:aN p i=0
     ·simp[d1,d2]
     ·have:¬ (0=aN p i):=fun e=>d2 e.symm
      simp[d1,d2,this]
    ·by_cases d2:aN p i=0
     ·simp[d1,d2]
     ·by_cases d3:pat p i < gq p
      ·have Om:¬ (gq p<=pat p i):=by omega
       simp[d1,d2,d3,Om]
      ·by_cases d4:64 < pat p i+aN p i
       ·have On:¬ (pat p i+aN p i<=64):=by omega
        simp[d1,d2,d3,d4,On]
       ·have Om:gq p<=pat p i:=by omega
        have On:pat p i+aN p i<=64:=by omega
        simp[d1,d2,d3,d4,Om,On])
   (fun _ _ _ _ _ _=>trivial) (fun s self _=>by
    rw[List.length_range]
    show aI.b0 _ _ _ _ _ _=_
    unfold aI.b0
    simp only[Int.lt_irrefl,decide_false,cond_false]) () trivial k (by rw[List.length_range];omega)
  rw[mt] at this
  exact this
 rw[first]
 by_cases gY:(List.range (pn p)).all (nN p)=true
 rotate_left
 ·simp only[gY,Bool.false_eq_true,if_false]
 simp only[gY,if_true]
 have hs:∀ i,i < pn p->aN p i≠0->gq p<=pat p i/\pat p i+aN p i<=64:=fun i hi=>((vC (by omega)).1 (List.all_eq_true.1 gY i (List.mem_range.2 hi))).1
 have inner:∀ (self:((List UInt8)×Int×(List Bool)×Int×Int)->Option aI.Out) (e2:((List UInt8)×Int)->Option aI.Out) (i:Nat) (hi:i < pn p),aI.r2 k self e2 (p,()) p (pn p:Int) (pat p i:Int) (aN p i:Int) (pn p:Int) (i:Int) ((List.range 64).map (nz p i),(pat p i:Int))=if t6 p i then some ((8:Int),()) else self (p,(pn p:Int),(List.range 64).map (nz p (i+1)),(pn p:Int),ae ((i:Int)+1)):=fun self e2 i hi=>by
  have h1:pat p i < 256:=gy p _
  have Y:aN p i < 256:=gy p _
  have oO:ae ((pat p i:Int)+(aN p i:Int))=((pat p i+aN p i:Nat):Int):=by rw[aJ (by omega)];omega
  have:=bF (B:=fun ca v=>aI.B2 k ca (fun z=>aI.Q1 k self e2 (p,()) p (pn p:Int) (pat p i:Int) (aN p i:Int) (pn p:Int) (i:Int) z) (p,()) p (pn p:Int) (pat p i:Int) (aN p i:Int) (pn p:Int) (i:Int) v) (List.range (aN p i)) (fun (s:List Bool) (t:Int)=>(s,(pat p i:Int)+t)) (fun _ s t=>if nz p i (pat p i+t) then .inl (some ((8:Int),())) else .inr (nZ p i (t+1))) (fun _=>self (p,(pn p:Int),(List.range 64).map (nz p (i+1)),(pn p:Int),ae ((i:Int)+1))) (fun t s=>s=nZ p i t) (by rw[ah,List.length_range];omega)
   (fun t ht s ca hI=>by
    rw[List.length_range] at ht
    subst hI
    obtain ⟨g1,g2⟩:=hs i hi (by omega)
    show aI.b2 _ _ _ _ _ _ _ _ _ _=_
    unfold aI.b2
    have aj:(pat p i:Int)+(t:Int) < ((pat p i+aN p i:Nat):Int):=by omega
    have vF:(0:Int)<=(pat p i:Int)+(t:Int):=by omega
    have hlen:(pat p i:Int)+(t:Int) < ((nZ p i t).length:Int):=by rw[t7];omega
    have Oo:((pat p i:Int)+(t:Int)).toNat=pat p i+t:=by omega
    have JK:¬ (pat p i<=pat p i+t/\pat p i+t < pat p i+t):=by omega
    have Tp:ae ((pat p i:Int)+(t:Int)+1)=(pat p i:Int)+ae ((t:Int)+1):=by rw[aJ (by omega),aJ (by omega)];omega
    simp only[oO,aj,decide_true,cond_true,vF,hlen,and_self,if_true,Oo,xm p i t (pat p i+t) (by omega),JK,decide_false,Bool.or_false,Option.bind_some,List.getElem_range,IQ p i t (by omega),Tp]
    cases nz p i (pat p i+t) <;> rfl)
   (fun t ht s s' hI hf=>by
    simp only[List.getElem_range] at hf
    split at hf
    ·cases hf
    ·injection hf with hf;exact hf.symm) (fun s ca hI=>by
    rw[List.length_range] at hI ⊢
    show aI.b2 _ _ _ _ _ _ _ _ _ _=_
    unfold aI.b2
    have aj:¬ ((pat p i:Int)+(aN p i:Int) < ((pat p i+aN p i:Nat):Int)):=by omega
    simp only[oO,aj,decide_false,cond_false]
    rw[hI,IP]
    rfl) (nZ p i 0) rfl k (by rw[List.length_range];omega)
  rw[vE] at this
  rw[<-IN]
  simp only[Int.add_zero] at this
  exact this
 have outer:aI.r1 k (p,()) (pn p:Int) (gq p:Int) (p,(pn p:Int),List.replicate 64 false,(pn p:Int),(0:Int))=if (List.range (pn p)).any (t6 p) then some ((8:Int),()) else aI.Q2 k (p,()) (p,(pn p:Int)):=by
  have:=bF (B:=fun self v=>aI.B1 k self (fun z=>aI.Q2 k (p,()) z) (p,()) v) (List.range (pn p)) (fun (s:List Bool) (i:Int)=>(p,(pn p:Int),s,(pn p:Int),i)) (fun _ s x=>if t6 p x then .inl (some ((8:Int),())) else .inr ((List.range 64).map (nz p (x+1)))) (fun _=>aI.Q2 k (p,()) (p,(pn p:Int))) (fun i s=>s=(List.range 64).map (nz p i)) (by rw[ah,List.length_range];omega)
   (fun i hi s self hI=>by
    rw[List.length_range] at hi
    subst hI
    show aI.b1 _ _ _ _ _=_
    unfold aI.b1
    have aj:(i:Int) < (pn p:Int):=by omega
    simp only[aj,decide_true,cond_true,xl hp (show i < 16 by omega),Option.bind_some,inner self _ i hi,List.getElem_range]
    cases t6 p i <;> rfl)
   (fun i hi s s' hI hf=>by
    simp only[List.getElem_range] at hf
    split at hf
    ·cases hf
    ·injection hf with hf;exact hf.symm) (fun s self _=>by
    rw[List.length_range]
    show aI.b1 _ _ _ _ _=_
    unfold aI.b1
    simp only[Int.lt_irrefl,decide_false,cond_false]) (List.replicate 64 false) (by show _=(List.range 64).map (fun _=>false);decide) k (by rw[List.length_range];omega)
  rw[vE] at this
  exact this
 show aI.q0 _ _ _ _ _=_
 unfold aI.q0
 rw[outer,Kr]
 by_cases Ib:(List.range (pn p)).all (fun i=>(List.range i).all (kA p i))=true
 rotate_left
 ·simp only[Ib,Bool.not_false,if_true,Bool.false_eq_true,if_false]
 simp only[Ib,Bool.not_true,Bool.false_eq_true,if_false,if_true]
 show aI.q2 _ _=_
 unfold aI.q2
 by_cases h0:0 < pn p
 ·have aj:(0:Int) < (pn p:Int):=by omega
  have Ol:ae (ae ((2:Int)*(pn p:Int))+1)=((2*pn p+1:Nat):Int):=by rw[aJ (n:=(2:Int)*(pn p:Int)) (by omega),aJ (by omega)];omega
  have hz:((p[2*pn p+1]'(by omega)).toNat)=aN p (pn p - 1):=by
   rw[(d9 (show 2*pn p+1 < p.length by omega)).2]
   show pb p _=pb p _
   congr 1;omega
  simp only[aj,decide_true,cond_true,Ol,Int.natCast_nonneg,if_true,Int.toNat_natCast,dI (show 2*pn p+1 < p.length by omega),hz,h0,true_and]
  by_cases hz:aN p (pn p - 1)=0
  ·simp[hz]
  ·have:¬ ((aN p (pn p - 1):Int)=0):=by omega
   simp only[this,decide_false,cond_false,hz,if_false]
 ·have aj:¬ ((0:Int) < (pn p:Int)):=by omega
  simp only[aj,decide_false,cond_false,h0,false_and,if_false]
end OT
set_option linter.unusedVariables false
set_option linter.unusedSimpArgs false
namespace OT
open Go
theorem qB {V S O:Type} {B:(V->Option O)->V->Option O} (n:Nat) (enc:S->Int->V) (f:Nat->S->Sum (Option O) S) (fin:S->Option O) (I:Nat->S->Prop) (hn:n<=1048576)
  (dM:∀ (i:Nat),i < n->∀ (s:S) self,I i s->B self (enc s (i:Int))=match f i s with | .inl o=>o | .inr s'=>self (enc s' (ae ((i:Int)+1))))
  (hI:∀ (i:Nat),i < n->∀ (s s':S),I i s->f i s=.inr s'->I (i+1) s')
  (iT:∀ (s:S) self,I n s->B self (enc s (n:Int))=fin s) (s:S) (h0:I 0 s) (k:Nat) (hk:n < k):ak B k (enc s 0)=aV (fun _ s x=>f x s) fin 0 (List.range n) s:=
 bF (List.range n) enc (fun _ s x=>f x s) fin I (by rw[ah,List.length_range];omega)
  (fun i hi s self h=>by rw[List.length_range] at hi;simp only[List.getElem_range];exact dM i hi s self h)
  (fun i hi s s' h hf=>by rw[List.length_range] at hi;simp only[List.getElem_range] at hf;exact hI i hi s s' h hf)
  (fun s self h=>by rw[List.length_range] at h ⊢;exact iT s self h) s h0 k (by rw[List.length_range];exact hk)
theorem t8 {O α β:Type} (g:α->List β) (fin:List β->O):∀ (xs:List α) (i:Nat) (s:List β),aV (fun _ s x=>.inr (s++g x)) fin i xs s=fin (s++xs.flatMap g)
 | [],_,s=>by simp[aV]
 | x::xs,i,s=>by simp only[aV];rw[t8 g fin xs (i+1)];simp[List.append_assoc]
abbrev sw:Row:=((0:Int),(0:Int),(0:Int),([]:List UInt8),())
abbrev wm:kP:=((0:Int),(0:Int),(0:Int),(0:Int),sw,())
abbrev t_:kP:=((5:Int),(0:Int),(0:Int),(0:Int),sw,())
def l7 (d:List UInt8):Row:=((pb d 1:Int),(pb d 2:Int),(pb d 3:Int)*256+(pb d 4:Int),d.drop 6,())
def cU (d:List UInt8):kP×Bool:=
 if d.length=3/\pb d 0=1 then (((0:Int),(1:Int),(pb d 1:Int),(pb d 2:Int),sw,()),decide (pb d 1<=11)&&decide (pb d 2<=15))
 else if d.length < 6\/pb d 0=1\/2 < pb d 0\/d.length≠6+pb d 5 then (wm,false)
 else (((0:Int),(pb d 0:Int),(0:Int),(0:Int),l7 d,()),decide (gW (l7 d)=0))
theorem Ks {a b:Nat} (ha:a < 256) (hb:b < 256):((BitVec.ofInt 64 (ae ((a:Int)*2 ^ 8)) ||| BitVec.ofInt 64 (b:Int)).toNat:Int)=(a:Int)*256+(b:Int):=by
 have e1:ae ((a:Int)*2 ^ 8)=((2 ^ 8*a:Nat):Int):=by rw[aJ (by omega)];omega
 rw[e1,BitVec.toNat_or]
 have e2:(BitVec.ofInt 64 ((2 ^ 8*a:Nat):Int)).toNat=2 ^ 8*a:=by
  rw[BitVec.toNat_ofInt];omega
 have e3:(BitVec.ofInt 64 (b:Int)).toNat=b:=by
  rw[BitVec.toNat_ofInt];omega
 rw[e2,e3,<- Nat.two_pow_add_eq_or_of_lt (by omega) a]
 omega
theorem rF (d:List UInt8) (hd:d.length<=100):fm.ab (d,())=some ((cU d).1,(cU d).2,()):=by
 refine ag (k:=0) fun k _=>(fm.aa k _).trans ?_
 show fm.p _=_
 unfold fm.p cU
 have b0:=gy d 0
 have b1:=gy d 1
 have b2:=gy d 2
 have b3:=gy d 3
 have b4:=gy d 4
 have b5:=gy d 5
 by_cases h3:d.length=3
 ·have e3:decide ((d.length:Int)=3)=true:=decide_eq_true (by omega)
  have e6:decide ((d.length:Int) < 6)=true:=decide_eq_true (by omega)
  have Oq:d.length < 6:=by omega
  simp only[e3,e6,cond_true,dI (show 0 < d.length by omega),(d9 (show 0 < d.length by omega)).2]
  by_cases h1:pb d 0=1
  ·have e1:decide ((pb d 0:Int)=1)=true:=decide_eq_true (by omega)
   rw[if_pos ⟨h3,h1⟩]
   simp only[e1,cond_true,dI (show 1 < d.length by omega),(d9 (show 1 < d.length by omega)).2,dI (show 2 < d.length by omega),(d9 (show 2 < d.length by omega)).2,uE]
   have dN:jq.ab ((pb d 1:Int),(pb d 2:Int),())=some (decide (pb d 1<=11)&&decide (pb d 2<=15),()):=by
    refine ag (k:=0) fun k _=>(jq.aa k _).trans ?_
    show jq.p _=_
    unfold jq.p
    simp only[iR,Option.bind_some]
    have g1:decide ((0:Int)<=(pb d 1:Int))=true:=decide_eq_true (by omega)
    have g2:decide ((0:Int)<=(pb d 2:Int))=true:=decide_eq_true (by omega)
    have g3:decide ((pb d 1:Int)<=11)=decide (pb d 1<=11):=by rw[decide_eq_decide];omega
    have g4:decide ((pb d 2:Int)<=15)=decide (pb d 2<=15):=by rw[decide_eq_decide];omega
    rw[g1,g2,g3,g4]
    cases decide (pb d 1<=11) <;> rfl
   simp only[dN,Option.bind_some]
  ·have e1:decide ((pb d 0:Int)=1)=false:=decide_eq_false (by omega)
   rw[if_neg (fun h=>h1 h.2),if_pos (Or.inl Oq)]
   simp only[e1,cond_false]
 ·have e3:decide ((d.length:Int)=3)=false:=decide_eq_false (by omega)
  simp only[e3,cond_false,h3,false_and,if_false]
  by_cases h6:d.length < 6
  ·have e6:decide ((d.length:Int) < 6)=true:=decide_eq_true (by omega)
   simp only[e6,cond_true,h6,true_or,if_true]
  ·have e6:decide ((d.length:Int) < 6)=false:=decide_eq_false (by omega)
   simp only[e6,cond_false,dI (show 0 < d.length by omega),(d9 (show 0 < d.length by omega)).2,h6,false_or]
   by_cases h1:pb d 0=1
   ·have e1:decide ((pb d 0:Int)=1)=true:=decide_eq_true (by omega)
    rw[if_pos (Or.inl h1)]
    simp only[e1,cond_true]
   have e1:decide ((pb d 0:Int)=1)=false:=decide_eq_false (by omega)
   simp only[e1,cond_false,h1,false_or]
   by_cases Y:2 < pb d 0
   ·have e2:decide ((2:Int) < (pb d 0:Int))=true:=decide_eq_true (by omega)
    simp only[e2,cond_true,Y,true_or,if_true]
   have e2:decide ((2:Int) < (pb d 0:Int))=false:=decide_eq_false (by omega)
   have w6:ae ((6:Int)+(pb d 5:Int))=((6+pb d 5:Nat):Int):=by rw[aJ (by omega)];omega
   simp only[e2,cond_false,Y,false_or,dI (show 5 < d.length by omega),(d9 (show 5 < d.length by omega)).2,uE,w6]
   by_cases h5:d.length=6+pb d 5
   rotate_left
   ·have e5:decide ((d.length:Int)=((6+pb d 5:Nat):Int))=false:=decide_eq_false (by omega)
    simp only[e5,Bool.not_false,cond_true,h5,ne_eq,not_false_eq_true,if_true]
   have e5:decide ((d.length:Int)=((6+pb d 5:Nat):Int))=true:=decide_eq_true (by omega)
   have QA:(0:Int)<=6/\(6:Int)<=(d.length:Int):=by omega
   have w3:ae (ae ((pb d 3:Int)*256)+(pb d 4:Int))=(pb d 3:Int)*256+(pb d 4:Int):=by rw[aJ (n:=(pb d 3:Int)*256) (by omega),aJ (by omega)]
   have ht:(d.take d.length).drop 6=d.drop 6:=by rw[List.take_length]
   have hr:dg.ab (l7 d,())=some (gW (l7 d),()):=qy (l7 d) (by rw[ah];simp only[l7,List.length_drop];omega)
   unfold l7 at hr
   rw[if_neg (fun h=>h h5)]
   simp only[e5,Bool.not_true,cond_false,dI (show 1 < d.length by omega),(d9 (show 1 < d.length by omega)).2,dI (show 2 < d.length by omega),(d9 (show 2 < d.length by omega)).2,
    dI (show 3 < d.length by omega),(d9 (show 3 < d.length by omega)).2,dI (show 4 < d.length by omega),(d9 (show 4 < d.length by omega)).2,uE,w3,ht,hr,Option.bind_some]
   rw[if_pos (by omega)]
   rfl
theorem uF (d:List UInt8) (hd:d.length<=100):dU.ab (d,())=some (if (cU d).2 then (cU d).1 else t_,()):=by
 refine ag (k:=0) fun k _=>(dU.aa k _).trans ?_
 show dU.p _=_
 unfold dU.p
 have b0:=gy d 0
 have b1:=gy d 1
 have b2:=gy d 2
 have b3:=gy d 3
 have b4:=gy d 4
 have b5:=gy d 5
 by_cases h3:d.length=3
 ·have e3:decide ((d.length:Int)=3)=true:=decide_eq_true (by omega)
  have e6:decide ((d.length:Int) < 6)=true:=decide_eq_true (by omega)
  have Oq:d.length < 6:=by omega
  simp only[e3,e6,cond_true,dI (show 0 < d.length by omega),(d9 (show 0 < d.length by omega)).2]
  by_cases h1:pb d 0=1
  ·have e1:decide ((pb d 0:Int)=1)=true:=decide_eq_true (by omega)
   have hc:cU d=(((0:Int),(1:Int),(pb d 1:Int),(pb d 2:Int),sw,()),decide (pb d 1<=11)&&decide (pb d 2<=15)):=by unfold cU;rw[if_pos ⟨h3,h1⟩]
   rw[hc]
   simp only[e1,cond_true,dI (show 1 < d.length by omega),(d9 (show 1 < d.length by omega)).2,dI (show 2 < d.length by omega),(d9 (show 2 < d.length by omega)).2,uE]
   by_cases c1:pb d 1<=11
   ·have d1:decide ((pb d 1:Int) < 12)=true:=decide_eq_true (by omega)
    by_cases c2:pb d 2<=15
    ·have d2:decide ((pb d 2:Int) < 16)=true:=decide_eq_true (by omega)
     simp[d1,d2,c1,c2]
    ·have d2:decide ((pb d 2:Int) < 16)=false:=decide_eq_false (by omega)
     simp[d1,d2,c1,c2]
   ·have d1:decide ((pb d 1:Int) < 12)=false:=decide_eq_false (by omega)
    simp[d1,c1]
  ·have e1:decide ((pb d 0:Int)=1)=false:=decide_eq_false (by omega)
   have hc:cU d=(wm,false):=by unfold cU;rw[if_neg (fun h=>h1 h.2),if_pos (Or.inl Oq)]
   rw[hc]
   simp only[e1,cond_false,Bool.false_eq_true,if_false]
 ·have e3:decide ((d.length:Int)=3)=false:=decide_eq_false (by omega)
  simp only[e3,cond_false]
  by_cases h6:d.length < 6
  ·have e6:decide ((d.length:Int) < 6)=true:=decide_eq_true (by omega)
   have hc:cU d=(wm,false):=by unfold cU;rw[if_neg (fun h=>h3 h.1),if_pos (Or.inl h6)]
   rw[hc]
   simp only[e6,cond_true,Bool.false_eq_true,if_false]
  ·have e6:decide ((d.length:Int) < 6)=false:=decide_eq_false (by omega)
   have hc:cU d=if pb d 0=1\/2 < pb d 0\/d.length≠6+pb d 5 then (wm,false) else (((0:Int),(pb d 0:Int),(0:Int),(0:Int),l7 d,()),decide (gW (l7 d)=0)):=by
    unfold cU
    rw[if_neg (fun h=>h3 h.1)]
    simp only[h6,false_or]
   have hlen:∀ i,i < 6->i < d.length:=fun i hi=>by omega
   have w6:ae ((6:Int)+(pb d 5:Int))=((6+pb d 5:Nat):Int):=by rw[aJ (by omega)];omega
   have QA:(0:Int)<=6/\(6:Int)<=(d.length:Int):=by omega
   have w3:ae ((BitVec.ofInt 64 (ae ((pb d 3:Int)*2 ^ 8)) ||| BitVec.ofInt 64 (pb d 4:Int)).toNat:Int)=(pb d 3:Int)*256+(pb d 4:Int):=by rw[Ks b3 b4,aJ (by omega)]
   have ht:(d.take d.length).drop 6=d.drop 6:=by rw[List.take_length]
   have hr:bq.ab (l7 d,())=some (gW (l7 d),()):=qz (l7 d) (by rw[ah];simp only[l7,List.length_drop];omega)
   unfold l7 at hr
   simp only[e6,cond_false,dI (show 0 < d.length by omega),(d9 (show 0 < d.length by omega)).2,dI (show 5 < d.length by omega),(d9 (show 5 < d.length by omega)).2,dI (show 1 < d.length by omega),(d9 (show 1 < d.length by omega)).2,dI (show 2 < d.length by omega),(d9 (show 2 < d.length by omega)).2,
    dI (show 3 < d.length by omega),(d9 (show 3 < d.length by omega)).2,dI (show 4 < d.length by omega),(d9 (show 4 < d.length by omega)).2,uE,w6,QA.2,show (0:Int)<=6 by omega,and_self,if_true,w3,ht,hr,Option.bind_some]
   have e5:decide ((d.length:Int)=((6+pb d 5:Nat):Int))=decide (d.length=6+pb d 5):=by rw[decide_eq_decide];omega
   have e0:decide ((pb d 0:Int)=0)=decide (pb d 0=0):=by rw[decide_eq_decide];omega
   have e2:decide ((pb d 0:Int)=2)=decide (pb d 0=2):=by rw[decide_eq_decide];omega
   rw[e5,e0,e2]
   have fin:∀ (c5:d.length=6+pb d 5) (c0:¬ (pb d 0=1\/2 < pb d 0\/d.length≠6+pb d 5)),(bif !decide (gW ((pb d 1:Int),(pb d 2:Int),(pb d 3:Int)*256+(pb d 4:Int),d.drop 6,())=0) then some (t_,()) else some (((0:Int),(pb d 0:Int),(0:Int),(0:Int),((pb d 1:Int),(pb d 2:Int),(pb d 3:Int)*256+(pb d 4:Int),d.drop 6,()),()),()))=some (if (cU d).2 then (cU d).1 else t_,()):=fun c5 c0=>by
    rw[hc,if_neg c0]
    show (bif !decide (gW (l7 d)=0) then some (t_,()) else some (((0:Int),(pb d 0:Int),(0:Int),(0:Int),l7 d,()),()))=some (if decide (gW (l7 d)=0)=true then ((0:Int),(pb d 0:Int),(0:Int),(0:Int),l7 d,()) else t_,())
    cases decide (gW (l7 d)=0) <;> rfl
   have bad:(pb d 0=1\/2 < pb d 0\/d.length≠6+pb d 5)->(some (t_,()):Option dU.Out)=some (if (cU d).2 then (cU d).1 else t_,()):=fun h=>by
    rw[hc,if_pos h];rfl
   by_cases c5:d.length=6+pb d 5
   ·rw[decide_eq_true c5]
    by_cases c0:pb d 0=0
    ·rw[decide_eq_true c0]
     exact fin c5 (by omega)
    ·rw[decide_eq_false c0]
     by_cases c2:pb d 0=2
     ·rw[decide_eq_true c2]
      exact fin c5 (by omega)
     ·rw[decide_eq_false c2]
      exact bad (by omega)
   ·rw[decide_eq_false c5]
    have hb:=bad (.inr (.inr c5))
    cases decide (pb d 0=0) <;> cases decide (pb d 0=2) <;> exact hb
section
variable {p:List UInt8} (hp:kZ p)
include hp
theorem yJ (s:Nat):gk.ab (p,(s:Int),())=some (decide (s < pn p)&&!decide (aN p s=0),()):=by
 refine ag (k:=0) fun k _=>(gk.aa k _).trans ?_
 show gk.p _=_
 unfold gk.p
 have h0:(0:Int)<=(s:Int):=by omega
 have hn:=hp.n
 have hl:=hp.len
 simp only[h0,decide_true,cond_true,sa hl,Option.bind_some]
 by_cases hs:s < pn p
 ·have e1:(s:Int) < (pn p:Int):=by omega
  have e2:decide ((aN p s:Int)=0)=decide (aN p s=0):=by rw[decide_eq_decide];omega
  have e3:(p[3+2*s]'(by omega)).toNat=aN p s:=(d9 (show 3+2*s < p.length by omega)).2
  simp only[e1,hs,decide_true,cond_true,Oj (show s < 1000 by omega),Int.natCast_nonneg,if_true,Int.toNat_natCast,dI (show 3+2*s < p.length by omega),e3,e2,Bool.true_and]
 ·have e1:¬ ((s:Int) < (pn p:Int)):=by omega
  simp only[e1,hs,decide_false,cond_false,Bool.false_and]
theorem GT (s:Nat):kT.ab (p,(s:Int),())=some (decide (s < pn p)&&!decide (aN p s=0),()):=by
 refine ag (k:=0) fun k _=>(kT.aa k _).trans ?_
 show kT.p _=_
 unfold kT.p
 have hn:=hp.n
 have hl:=hp.len
 have hw:ae ((pn p:Int) - 1)=(pn p:Int) - 1:=aJ (by omega)
 have h0:decide ((0:Int)<=(s:Int))=true:=decide_eq_true (by omega)
 have h1:decide ((s:Int)<=(pn p:Int) - 1)=decide (s < pn p):=by rw[decide_eq_decide];omega
 simp only[oy hl,Option.bind_some,hw,iR,h0,h1,Bool.true_and]
 by_cases hs:s < pn p
 ·have e2:decide ((0:Int) < (aN p s:Int))=!decide (aN p s=0):=by
   by_cases hz:aN p s=0
   ·simp[hz]
   ·have:(0:Int) < (aN p s:Int):=by omega
    rw[decide_eq_true this,decide_eq_false hz];rfl
  simp only[hs,decide_true,cond_true,m8 hl (show s < 16 by omega),Option.bind_some,e2,Bool.true_and]
 ·simp only[hs,decide_false,cond_false,Bool.false_and]
theorem zK {s:Nat} (hs:s < pn p):pat p s+aN p s<=64:=by
 by_cases hz:aN p s=0
 ·have:=hp.zero s hs hz;omega
 ·exact (hp.slot s hs hz).2
theorem uG {s:Nat} (hs:s < pn p):gI.ab (p,(s:Int),())=some (ep p s,()):=by
 refine ag (k:=0) fun k _=>(gI.aa k _).trans ?_
 show gI.p _=_
 unfold gI.p ep
 have hn:=hp.n
 have hl:=hp.len
 have hc:=zK hp hs
 have hw:ae ((pat p s:Int)+(aN p s:Int))=((pat p s+aN p s:Nat):Int):=by rw[aJ (by omega)];omega
 have hb:(0:Int)<=(pat p s:Int)/\(pat p s:Int)<=((pat p s+aN p s:Nat):Int)/\((pat p s+aN p s:Nat):Int)<=(p.length:Int):=by omega
 simp only[xl hl (show s < 16 by omega),Option.bind_some,hw]
 rw[if_pos hb]
 simp only[Int.toNat_natCast,List.drop_take]
 rw[show pat p s+aN p s - pat p s=aN p s by omega]
theorem qe {s:Nat} (hs:s < pn p):fq.ab (p,(s:Int),())=some (ep p s,()):=by
 refine ag (k:=0) fun k _=>(fq.aa k _).trans ?_
 show fq.p _=_
 unfold fq.p ep
 have hn:=hp.n
 have hl:=hp.len
 have hc:=zK hp hs
 have hw:ae ((pat p s:Int)+(aN p s:Int))=((pat p s+aN p s:Nat):Int):=by rw[aJ (by omega)];omega
 have hb:(0:Int)<=(pat p s:Int)/\(pat p s:Int)<=((pat p s+aN p s:Nat):Int)/\((pat p s+aN p s:Nat):Int)<=(p.length:Int):=by omega
 simp only[sb hl (show s < 16 by omega),m8 hl (show s < 16 by omega),Option.bind_some,hw]
 rw[if_pos hb,if_pos (cD (by simp only[List.length_nil,List.length_drop,List.length_take];omega))]
 simp only[Int.toNat_natCast,List.drop_take,List.nil_append]
 rw[show pat p s+aN p s - pat p s=aN p s by omega]
end
theorem nH {p:List UInt8} (hp:kZ p) {s:Nat} (hs:s < pn p):(ep p s).length<=64:=by
 have:=r_ hp hs
 have:=zK hp hs
 omega
end OT
set_option linter.unusedVariables false
set_option linter.unusedSimpArgs false
namespace OT
open Go
def rk (x:Row):Int×Int:=(x.1,x.2.1)
theorem rG (a b:Int×Int):bN a b=true↔a.1 < b.1\/(a.1=b.1/\a.2 < b.2):=by unfold bN;simp
theorem k8 {a b c:Int×Int} (h1:bN a b=true) (Y:bN b c=true):bN a c=true:=by
 rw[rG] at *;omega
theorem m9 (a:Int×Int):bN a a=false:=by
 cases h:bN a a with
 | false=>rfl
 | true=>rw[rG] at h;omega
theorem IR {a b:Int×Int} (h:bN a b=true):bN b a=false:=by
 cases Y:bN b a with
 | false=>rfl
 | true=>rw[rG] at h Y;omega
theorem pu {a b:Int×Int} (h1:bN a b=false) (Y:bN b a=false):a=b:=by
 have n1:¬ (a.1 < b.1\/(a.1=b.1/\a.2 < b.2)):=fun h=>by rw[(rG a b).2 h] at h1;cases h1
 have n2:¬ (b.1 < a.1\/(b.1=a.1/\b.2 < a.2)):=fun h=>by rw[(rG b a).2 h] at Y;cases Y
 have e1:a.1=b.1:=by omega
 have e2:a.2=b.2:=by omega
 obtain ⟨a1,a2⟩:=a
 obtain ⟨b1,b2⟩:=b
 simp only at e1 e2
 rw[e1,e2]
def up (xs:List Row):Prop:=xs.Pairwise (fun a b=>bN (rk a) (rk b)=true)
theorem sQ {x:Row} {xs:List Row}:up (x::xs)↔(∀ y ∈ xs,bN (rk x) (rk y)=true)/\up xs:=List.pairwise_cons
def pos:List Row->Int×Int->Nat
 | [],_=>0
 | x::xs,k=>if bN (rk x) k then pos xs k+1 else 0
theorem sR:∀ (xs:List Row) (k:Int×Int),pos xs k<=xs.length
 | [],_=>Nat.le_refl _
 | x::xs,k=>by simp only[pos];split <;> simp[sR xs k]
theorem C4:∀ (xs:List Row) (k:Int×Int) (i:Nat) (h:i < xs.length),i < pos xs k->bN (rk xs[i]) k=true
 | x::xs,k,i,h,hp=>by
  simp only[pos] at hp
  split at hp
  ·rename_i hx
   cases i with
   | zero=>exact hx
   | succ i=>exact C4 xs k i (by simpa using h) (by omega)
  ·omega
theorem sS:∀ (xs:List Row) (k:Int×Int) (i:Nat) (h:i < xs.length),up xs->pos xs k<=i->bN (rk xs[i]) k=false
 | x::xs,k,i,h,hu,hp=>by
  simp only[pos] at hp
  split at hp
  ·cases i with
   | zero=>omega
   | succ i=>exact sS xs k i (by simpa using h) (sQ.1 hu).2 (by omega)
  ·rename_i hx
   have hx:bN (rk x) k=false:=by simpa using hx
   cases i with
   | zero=>exact hx
   | succ i=>
    have fa:i < xs.length:=by simpa using h
    have hm:bN (rk x) (rk xs[i])=true:=(sQ.1 hu).1 _ (List.getElem_mem _)
    show bN (rk xs[i]) k=false
    cases hb:bN (rk xs[i]) k with
    | false=>rfl
    | true=>rw[k8 hm hb] at hx;cases hx
def jy (xs:List Row) (k:Int×Int):Bool:=match xs[pos xs k]? with
 | some x=>decide (rk x=k)
 | none=>false
theorem sT {xs:List Row} {k:Int×Int} (h:jy xs k=true):∃ hp:pos xs k < xs.length,rk xs[pos xs k]=k:=by
 unfold jy at h
 split at h
 ·rename_i x hx
  obtain ⟨hp,e⟩:=List.getElem?_eq_some_iff.1 hx
  subst e
  exact ⟨hp,by simpa using h⟩
 ·cases h
theorem IS (a b:Row):decide ((if bN (a.1,a.2.1) (b.1,b.2.1) then (-1:Int) else if bN (b.1,b.2.1) (a.1,a.2.1) then 1 else 0) < 0)=bN (rk a) (rk b):=by
 unfold rk
 cases bN (a.1,a.2.1) (b.1,b.2.1) <;> cases bN (b.1,b.2.1) (a.1,a.2.1) <;> rfl
theorem ua (a b:Row):sameKey a b=decide (rk a=rk b):=by
 unfold sameKey rk
 by_cases h1:a.1=b.1 <;> by_cases Y:a.2.1=b.2.1 <;> simp[h1,Y]
theorem half (lo hi:Nat) (h:lo+hi<=4611686018427387904):ae ((IntKind.wrap .u64 (ae ((lo:Int)+(hi:Int)))).fdiv (2 ^ 1))=(((lo+hi) / 2:Nat):Int):=by
 have e1:ae ((lo:Int)+(hi:Int))=((lo+hi:Nat):Int):=by rw[aJ (by omega)];omega
 rw[e1]
 have e2:IntKind.wrap .u64 ((lo+hi:Nat):Int)=((lo+hi:Nat):Int):=by
  simp only[IntKind.wrap]
  first | rfl | (simp[IntKind.bits,IntKind.signed];omega) | omega
 rw[e2]
 have e3:(((lo+hi:Nat):Int)).fdiv (2 ^ 1)=(((lo+hi) / 2:Nat):Int):=by
  rw[Int.fdiv_eq_ediv_of_nonneg _ (by omega)]
  omega
 rw[e3,aJ (by omega)]
theorem An (xs:List Row) (key:Row) (f:Nat×Int) (hu:up xs) (hl:xs.length<=2000000):aF.ab (xs,key,f,())=some ((pos xs (rk key):Int),jy xs (rk key),()):=by
 have hp:=sR xs (rk key)
 have hq:aF.Q0 0 (xs,key,f,()) (pos xs (rk key):Int)=some ((pos xs (rk key):Int),jy xs (rk key),()):=by
  show aF.q0 _ _=_
  unfold aF.q0 jy
  by_cases aj:pos xs (rk key) < xs.length
  ·have h1:((pos xs (rk key):Nat):Int) < (xs.length:Int):=by omega
   simp only[h1,decide_true,cond_true,Int.natCast_nonneg,if_true,Int.toNat_natCast,List.getElem?_eq_getElem aj,Option.bind_some,tX,yD,ua]
  ·have h1:¬ ((pos xs (rk key):Nat):Int) < (xs.length:Int):=by omega
   simp only[h1,decide_false,cond_false]
   rw[List.getElem?_eq_none (by omega)]
 refine ag (k:=xs.length+1) fun k hk=>(aF.aa k _).trans ?_
 refine qs (B:=fun self v=>aF.B0 0 self (fun z=>aF.Q0 0 (xs,key,f,()) z) (xs,key,f,()) v) (fun _=>((pos xs (rk key):Int),jy xs (rk key),()))
  (fun v=>∃ lo hi:Nat,v=((lo:Int),(hi:Int))/\lo<=pos xs (rk key)/\pos xs (rk key)<=hi/\hi<=xs.length) (fun v=>(v.2 - v.1).toNat) (fun v hv self=>?_) k (0,(xs.length:Int)) ⟨0,xs.length,rfl,by omega,hp,by omega⟩ (by simp;omega)
 obtain ⟨lo,hi,rfl,h1,Y,h3⟩:=hv
 by_cases aj:lo < hi
 ·right
  have nS:(lo:Int) < (hi:Int):=by omega
  have hm:(lo+hi) / 2 < xs.length:=by omega
  have hb:∀ self,aF.B0 0 self (fun z=>aF.Q0 0 (xs,key,f,()) z) (xs,key,f,()) ((lo:Int),(hi:Int))=if bN (rk xs[(lo+hi) / 2]) (rk key) then self (ae ((((lo+hi) / 2:Nat):Int)+1),(hi:Int)) else self ((lo:Int),(((lo+hi) / 2:Nat):Int)):=fun self=>by
   show aF.b0 _ _ _ _=_
   unfold aF.b0
   simp only[nS,decide_true,cond_true,half lo hi (by omega),Int.natCast_nonneg,if_true,Int.toNat_natCast,List.getElem?_eq_getElem hm,Option.bind_some,tX,IS]
   cases bN (rk xs[(lo+hi) / 2]) (rk key) <;> rfl
  cases hc:bN (rk xs[(lo+hi) / 2]) (rk key) with
  | true=>
   refine ⟨((((lo+hi) / 2+1:Nat):Int),(hi:Int)),?_,rfl,⟨_,_,rfl,?_,Y,h3⟩,by simp only;omega⟩
   ·rw[hb,hc,if_pos rfl,aJ (by omega)];rfl
   ·rcases Nat.lt_or_ge ((lo+hi) / 2) (pos xs (rk key)) with h | h
    ·omega
    ·rw[sS xs _ _ hm hu h] at hc;cases hc
  | false=>
   refine ⟨((lo:Int),(((lo+hi) / 2:Nat):Int)),?_,rfl,⟨_,_,rfl,h1,?_,by omega⟩,by simp only;omega⟩
   ·rw[hb,hc];rfl
   ·rcases Nat.lt_or_ge ((lo+hi) / 2) (pos xs (rk key)) with h | h
    ·rw[C4 xs _ _ hm h] at hc;cases hc
    ·exact h
 ·left
  have e:lo=pos xs (rk key):=by omega
  have nS:¬ (lo:Int) < (hi:Int):=by omega
  show aF.b0 _ _ _ _=_
  unfold aF.b0
  simp only[nS,decide_false,cond_false]
  rw[e]
  exact hq
def nO (xs:List Row) (c:Change):Bool:=(jy xs (ck c) == c.1)&&(!jy xs (ck c)||(match xs[pos xs (ck c)]? with | some x=>Ty.eq aA x c.2.1 | none=>true))
def l8 (xs:List Row) (c:Change):List Row:=xs.take (pos xs (ck c))++(if c.2.2.1 then [c.2.2.2.1] else [])++xs.drop (pos xs (ck c)+if jy xs (ck c) then 1 else 0)
theorem IT (c:Change):rk (sN c)=ck c:=Al c
theorem IU (c:Change) (xs:List Row) (hu:up xs) (hl:xs.length<=2000000):fA.ab (c,xs,())=some (nO xs c,()):=by
 refine ag (k:=0) fun k _=>(fA.aa k _).trans ?_
 show fA.p _=_
 unfold fA.p nO
 simp only[tY,An xs _ _ hu hl,IT,Option.bind_some]
 cases hf:jy xs (ck c) with
 | false=>cases c.1 <;> rfl
 | true=>
  obtain ⟨hp,hk⟩:=sT hf
  simp only[Int.natCast_nonneg,if_true,Int.toNat_natCast,List.getElem?_eq_getElem hp,Option.bind_some]
  cases c.1 <;> rfl
theorem GU (xs:List Row) (c:Change) (hu:up xs) (hl:xs.length<=2000000):jv.ab (xs,c,())=some (l8 xs c,()):=by
 refine ag (k:=0) fun k _=>(jv.aa k _).trans ?_
 show jv.p _=_
 unfold jv.p l8
 have hp:=sR xs (ck c)
 have oR:0<=((pos xs (ck c):Nat):Int)/\((pos xs (ck c):Nat):Int)<=(xs.length:Int):=by omega
 have c1:([]:List Row).length+(List.take (pos xs (ck c)) xs).length<=bg:=cD (by simp;omega)
 simp only[tY,An xs _ _ hu hl,IT,Option.bind_some,oR,and_self,if_true,Int.toNat_natCast,c1,List.drop_zero,List.nil_append,List.take_length]
 have c2:(List.take (pos xs (ck c)) xs).length+[c.2.2.2.1].length<=bg:=cD (by simp;omega)
 have hd:∀ (p7:List Row) (n:Nat),p7.length<=2000001->p7.length+(List.drop n xs).length<=bg:=fun p7 n h=>cD (by rw[List.length_drop];omega)
 have hw:ae (((pos xs (ck c):Nat):Int)+1)=((pos xs (ck c)+1:Nat):Int):=by rw[aJ (by omega)];rfl
 have c3:=hd (List.take (pos xs (ck c)) xs++[c.2.2.2.1])
 have c4:=hd (List.take (pos xs (ck c)) xs)
 have l3:(List.take (pos xs (ck c)) xs++[c.2.2.2.1]).length<=2000001:=by simp;omega
 have l4:(List.take (pos xs (ck c)) xs).length<=2000001:=by simp;omega
 cases hf:jy xs (ck c) with
 | false=>
  cases c.2.2.1 with
  | false=>simp only[cond_false,oR,and_self,if_true,Int.toNat_natCast,c4 _ l4,Bool.false_eq_true,if_false,List.append_nil,Nat.add_zero]
  | true=>simp only[cond_true,cond_false,c2,oR,and_self,if_true,Int.toNat_natCast,c3 _ l3,Bool.false_eq_true,if_false,Nat.add_zero]
 | true=>
  obtain ⟨dN,_⟩:=sT hf
  have Ot:0<=((pos xs (ck c)+1:Nat):Int)/\((pos xs (ck c)+1:Nat):Int)<=(xs.length:Int):=by omega
  cases c.2.2.1 with
  | false=>simp only[cond_true,cond_false,hw,Ot,and_self,if_true,Int.toNat_natCast,c4 _ l4,Bool.false_eq_true,if_false,List.append_nil]
  | true=>simp only[cond_true,cond_false,c2,hw,Ot,and_self,if_true,Int.toNat_natCast,c3 _ l3]
theorem uH (a b:Row):fK.ab (a,b,())=some (bN (rk a) (rk b),()):=by
 refine ag (k:=0) fun k _=>(fK.aa k _).trans ?_
 show fK.p _=_
 unfold fK.p bN rk
 by_cases h1:a.1 < b.1 <;> by_cases Y:a.1=b.1 <;> simp[h1,Y]
theorem Ea {x:Row} {xs:List Row} {k:Int×Int} (h:bN (rk x) k=true):jy (x::xs) k=jy xs k:=by
 unfold jy
 simp only[pos,h,if_true,List.getElem?_cons_succ]
theorem MD {xs:List Row} {k:Int×Int} (h:jy xs k=true):∃ y ∈ xs,rk y=k:=by
 obtain ⟨hp,hk⟩:=sT h
 exact ⟨_,List.getElem_mem hp,hk⟩
theorem E5 (k:Int×Int):∀ (xs:List Row) (j:Nat),up xs->aV (fun i (_:Unit) x=>if rk x=k then .inl ((i:Int),()) else .inr ()) (fun _=>((-1:Int),())) j xs ()=if jy xs k then (((j+pos xs k:Nat):Int),()) else (-1,())
 | [],j,_=>by simp[aV,jy]
 | x::xs,j,hu=>by
  have hu:=sQ.1 hu
  simp only[aV]
  by_cases hx:rk x=k
  ·have hb:bN (rk x) k=false:=by rw[hx];exact m9 k
   have hf:jy (x::xs) k=true:=by
    have Tq:pos (x::xs) k=0:=by simp only[pos,hb,Bool.false_eq_true,if_false]
    unfold jy
    rw[Tq]
    simp[hx]
   simp[hx,hf,pos,m9]
  ·simp only[hx,if_false]
   rw[E5 k xs (j+1) hu.2]
   cases hb:bN (rk x) k with
   | true=>
    rw[Ea hb]
    simp only[pos,hb,if_true]
    have:j+1+pos xs k=j+(pos xs k+1):=by omega
    rw[this]
   | false=>
    have h1:jy (x::xs) k=false:=by simp[jy,pos,hb,hx]
    have Y:jy xs k=false:=by
     cases h:jy xs k with
     | false=>rfl
     | true=>
      obtain ⟨y,hy,e⟩:=MD h
      have:=hu.1 y hy
      rw[e,hb] at this;cases this
    simp[h1,Y]
def oz (xs:List Row) (k:Int×Int):Int:=if jy xs k then (pos xs k:Int) else -1
theorem IV (xs:List Row) (t k:Int) (hu:up xs) (hl:xs.length<=2000000):fS.ab (xs,t,k,())=some (oz xs (t,k),()):=by
 refine ag (k:=xs.length+1) fun f hf=>(fS.aa f _).trans ?_
 have:=bC (B:=fun self v=>fS.B0 0 self (fun z=>fS.Q0 0 (xs,t,k,()) z) (xs,t,k,()) v) xs (fun (_:Unit) (i:Int)=>i) (fun i _ x=>if rk x=(t,k) then .inl ((i:Int),()) else .inr ()) (fun _=>((-1:Int),())) (fun _ _=>True) (by rw[ah];omega)
  (fun i hi _ self _=>by
   show fS.b0 _ _ _ _=_
   unfold fS.b0 rk
   have aj:(i:Int) < (xs.length:Int):=by omega
   simp only[aj,decide_true,cond_true,Int.natCast_nonneg,if_true,Int.toNat_natCast,List.getElem?_eq_getElem hi,Option.bind_some]
   by_cases h1:xs[i].1=t <;> by_cases Y:xs[i].2.1=k <;> simp[h1,Y]) (fun _ _ _ _ _ _=>trivial) (fun _ self _=>by
   show fS.b0 _ _ _ _=_
   unfold fS.b0
   simp[fS.Q0,fS.q0]) () trivial f (by omega)
 rw[E5 (t,k) xs 0 hu] at this
 have this:fS.r0 f (xs,t,k,()) 0=_:=this
 unfold fS.p
 rw[this]
 unfold oz
 cases jy xs (t,k) <;> simp <;> rfl
theorem C5 {O:Type} (k:Int×Int) (g:Nat->O) (n:Nat):∀ (xs:List Row) (j:Nat),j+xs.length=n->aV (fun i (_:Unit) x=>if bN (rk x) k then .inr () else .inl (g i)) (fun _=>g n) j xs ()=g (j+pos xs k)
 | [],j,h=>by simp[aV,pos] at *;rw[h]
 | x::xs,j,h=>by
  simp only[aV,pos]
  cases hb:bN (rk x) k with
  | true=>
   simp only[if_true]
   rw[C5 k g n xs (j+1) (by simp at h;omega)]
   congr 1;omega
  | false=>simp
def jL (xs:List Row) (r:Row):List Row:=xs.take (pos xs (rk r))++[r]++xs.drop (pos xs (rk r))
theorem yK (xs:List Row) (r:Row) (hl:xs.length<=2000000):eb.ab (xs,r,())=some (jL xs r,()):=by
 refine ag (k:=xs.length+1) fun f hf=>(eb.aa f _).trans ?_
 have hq:∀ i:Nat,i<=xs.length->eb.Q0 0 (xs,r,()) (i:Int)=some (xs.take i++[r]++xs.drop i,()):=fun i hi=>by
  show eb.q0 _ _=_
  unfold eb.q0
  have oR:0<=(i:Int)/\(i:Int)<=(xs.length:Int):=by omega
  have c1:([]:List Row).length+(List.take i xs).length<=bg:=cD (by simp;omega)
  have c2:(List.take i xs).length+[r].length<=bg:=cD (by simp;omega)
  have c3:(List.take i xs++[r]).length+(List.drop i xs).length<=bg:=cD (by simp;omega)
  simp only[oR,and_self,if_true,Int.toNat_natCast,c1,List.drop_zero,List.nil_append,List.take_length,c2,c3]
 have:=bC (B:=fun self v=>eb.B0 0 self (fun z=>eb.Q0 0 (xs,r,()) z) (xs,r,()) v) xs (fun (_:Unit) (i:Int)=>i) (fun i _ x=>if bN (rk x) (rk r) then .inr () else .inl (xs.take i++[r]++xs.drop i,())) (fun _=>(xs.take xs.length++[r]++xs.drop xs.length,())) (fun _ _=>True) (by rw[ah];omega)
  (fun i hi _ self _=>by
   show eb.b0 _ _ _ _=_
   unfold eb.b0
   have aj:(i:Int) < (xs.length:Int):=by omega
   simp only[aj,decide_true,cond_true,Int.natCast_nonneg,if_true,Int.toNat_natCast,List.getElem?_eq_getElem hi,Option.bind_some,uH]
   cases bN (rk xs[i]) (rk r) with
   | true=>rfl
   | false=>exact hq i (by omega)) (fun _ _ _ _ _ _=>trivial) (fun _ self _=>by
   show eb.b0 _ _ _ _=_
   unfold eb.b0
   have aj:¬ (xs.length:Int) < (xs.length:Int):=by omega
   simp only[aj,decide_false,cond_false]
   exact hq _ (Nat.le_refl _)) () trivial f (by omega)
 rw[C5 (rk r) (fun i=>(xs.take i++[r]++xs.drop i,())) xs.length xs 0 (by omega)] at this
 refine this.trans ?_
 simp[jL]
theorem xn (t:Int):∀ (xs:List Row) (j:Nat) (s:List Row),aV (O:=List Row×Unit) (fun i s x=>if (i:Int)=t then .inr s else .inr (s++[x])) (fun s=>(s,())) j xs s=(s++(if (j:Int)<=t/\t < j+xs.length then xs.take (t - j).toNat++xs.drop ((t - j).toNat+1) else xs),())
 | [],j,s=>by
  have:¬ ((j:Int)<=t/\t < j+(([]:List Row).length:Int)):=fun h=>by
   have Y:(([]:List Row).length:Int)=0:=rfl
   omega
  simp only[aV,this,if_false,List.append_nil]
 | x::xs,j,s=>by
  simp only[aV]
  by_cases h:(j:Int)=t
  ·have h1:¬ (((j+1:Nat):Int)<=t/\t < ((j+1:Nat):Int)+(xs.length:Int)):=by omega
   have Y:(j:Int)<=t/\t < (j:Int)+((x::xs).length:Int):=by simp;omega
   have h3:(t - j).toNat=0:=by omega
   simp only[h,if_true]
   rw[xn t xs (j+1) s,if_neg h1]
   rw[<-h] at Y ⊢
   have h3:((j:Int) - j).toNat=0:=by omega
   rw[if_pos Y,h3]
   simp
  ·simp only[h,if_false]
   rw[xn t xs (j+1) (s++[x])]
   by_cases hc:(j:Int)<=t/\t < (j:Int)+((x::xs).length:Int)
   ·have vp:((j+1:Nat):Int)<=t/\t < ((j+1:Nat):Int)+(xs.length:Int):=by simp at hc;omega
    have h3:(t - j).toNat=(t - ((j+1:Nat):Int)).toNat+1:=by omega
    rw[if_pos hc,if_pos vp,h3]
    simp
   ·have vp:¬ (((j+1:Nat):Int)<=t/\t < ((j+1:Nat):Int)+(xs.length:Int)):=by simp at hc;omega
    rw[if_neg hc,if_neg vp]
    simp
def xo (xs:List Row) (k:Int×Int):List Row:=if jy xs k then xs.take (pos xs k)++xs.drop (pos xs k+1) else xs
theorem yL (k:Int×Int):∀ (l1 l2:List Row),(∀ x ∈ l1,bN (rk x) k=true)->pos (l1++l2) k=l1.length+pos l2 k
 | [],l2,_=>by simp
 | x::l1,l2,h=>by
  simp only[List.cons_append,pos,h x List.mem_cons_self,if_true,List.length_cons]
  rw[yL k l1 l2 fun y hy=>h y (List.mem_cons_of_mem _ hy)]
  omega
theorem ub {xs:List Row} {k:Int×Int} {x:Row} (h:x ∈ xs.take (pos xs k)):bN (rk x) k=true:=by
 obtain ⟨i,hi,e⟩:=List.mem_iff_getElem.1 h
 have hp:=sR xs k
 rw[List.length_take] at hi
 rw[List.getElem_take] at e
 rw[<-e]
 exact C4 xs k i (by omega) (by omega)
theorem Kt {xs:List Row} {k:Int×Int} (hu:up xs) {n:Nat} (hn:pos xs k<=n):pos (xs.drop n) k=0:=by
 cases hd:xs.drop n with
 | nil=>rfl
 | cons y ys=>
  have aj:n < xs.length:=by
   rcases Nat.lt_or_ge n xs.length with h | h
   ·exact h
   ·rw[List.drop_eq_nil_of_le h] at hd;cases hd
  rw[List.drop_eq_getElem_cons aj] at hd
  injection hd with h1 Y
  simp only[pos]
  rw[<-h1,sS xs k n aj hu hn]
  rfl
theorem ME {xs:List Row} {k:Int×Int} {r:Row} (hu:up xs) (hk:rk r=k):jL (xo xs k) r=xs.take (pos xs k)++[r]++xs.drop (pos xs k+if jy xs k then 1 else 0):=by
 have hp:=sR xs k
 have key:∀ n,pos xs k<=n->pos (xs.take (pos xs k)++xs.drop n) k=pos xs k:=fun n hn=>by
  rw[yL k _ _ fun x hx=>ub hx,Kt hu hn,List.length_take]
  omega
 have hl:(xs.take (pos xs k)).length=pos xs k:=by rw[List.length_take];omega
 unfold jL xo
 rw[hk]
 cases jy xs k with
 | true=>
  simp only[if_true]
  rw[key _ (by omega),List.take_left' hl,List.drop_left' hl]
 | false=>
  simp
theorem IW (xs:List Row) (c:Change) (hu:up xs) (hl:xs.length<=2000000) (hc:c.2.2.1=true->rk c.2.2.2.1=ck c):fT.ab (xs,c,())=some (if nO xs c then (l8 xs c,true,()) else ([],false,())):=by
 refine ag (k:=xs.length+1) fun f hf=>(fT.aa f _).trans ?_
 have hp:=sR xs (ck c)
 have IX:=bC (B:=fun self v=>fT.B0 0 self (fun z=>fT.Q0 0 (xs,c,()) (oz xs (ck c)) z) (xs,c,()) (oz xs (ck c)) v) (O:=List Row×Bool×Unit) xs (fun (s:List Row) (i:Int)=>(s,i)) (fun i s x=>if (i:Int)=oz xs (ck c) then .inr s else .inr (s++[x]))
  (fun s=>(if c.2.2.1 then jL s c.2.2.2.1 else s,true,())) (fun i s=>s.length<=i) (by rw[ah];omega)
  (fun i hi s self hI=>by
   show fT.b0 _ _ _ _ _=_
   unfold fT.b0
   have aj:(i:Int) < (xs.length:Int):=by omega
   simp only[aj,decide_true,cond_true,Int.natCast_nonneg,if_true,Int.toNat_natCast,List.getElem?_eq_getElem hi,Option.bind_some]
   have c2:s.length+[xs[i]].length<=bg:=cD (by simp;omega)
   by_cases h:(i:Int)=oz xs (ck c)
   ·simp[h]
   ·simp only[h,decide_false,Bool.not_false,cond_true,c2,if_true,if_false]) (fun i hi s s' hI hf=>by
   split at hf <;> (injection hf with hf;rw[<-hf];first | omega | (simp;omega))) (fun s self hI=>by
   show fT.b0 _ _ _ _ _=_
   unfold fT.b0
   have aj:¬ (xs.length:Int) < (xs.length:Int):=by omega
   simp only[aj,decide_false,cond_false,fT.Q0,fT.q0,yK s _ (by omega),Option.bind_some]
   cases c.2.2.1 <;> rfl) [] (Nat.le_refl _) f (by omega)
 have CG:∀ (IY:List Row) (j:Nat) (s:List Row),aV (O:=List Row×Bool×Unit) (fun i s x=>if (i:Int)=oz xs (ck c) then .inr s else .inr (s++[x])) (fun s=>(if c.2.2.1 then jL s c.2.2.2.1 else s,true,())) j IY s
   = (fun s=>(if c.2.2.1 then jL s c.2.2.2.1 else s,true,())) (aV (O:=List Row×Unit) (fun i s x=>if (i:Int)=oz xs (ck c) then .inr s else .inr (s++[x])) (fun s=>(s,())) j IY s).1:=by
  intro IY
  induction IY with
  | nil=>intro j s;rfl
  | cons x IY ih=>
   intro j s
   simp only[aV]
   by_cases h:(j:Int)=oz xs (ck c)
   ·simp only[h,if_true];exact ih _ _
   ·simp only[h,if_false];exact ih _ _
 rw[CG,xn (oz xs (ck c)) xs 0 []] at IX
 have Rt:([]++(if ((0:Nat):Int)<=oz xs (ck c)/\oz xs (ck c) < ((0:Nat):Int)+(xs.length:Int) then xs.take (oz xs (ck c) - ((0:Nat):Int)).toNat++xs.drop ((oz xs (ck c) - ((0:Nat):Int)).toNat+1) else xs))=xo xs (ck c):=by
  unfold oz xo
  cases IZ:jy xs (ck c) with
  | true=>
   obtain ⟨dN,_⟩:=sT IZ
   simp only[if_true]
   rw[if_pos (by omega)]
   have:(((pos xs (ck c):Nat):Int) - ((0:Nat):Int)).toNat=pos xs (ck c):=by omega
   rw[this];rfl
  | false=>simp
 simp only[Rt] at IX
 have IX:fT.r0 f (xs,c,()) (oz xs (ck c)) (([]:List Row),(0:Int))=_:=IX
 unfold fT.p nO
 simp only[yE,IV xs _ _ hu hl,Option.bind_some,IX]
 have Pv:(if c.2.2.1 then jL (xo xs (ck c)) c.2.2.2.1 else xo xs (ck c))=l8 xs c:=by
  unfold l8
  cases hi:c.2.2.1 with
  | true=>simp only[if_true];exact ME hu (hc hi)
  | false=>
   simp only[Bool.false_eq_true,if_false,List.append_nil]
   unfold xo
   cases jy xs (ck c) with
   | true=>simp
   | false=>simp
 rw[Pv]
 cases IZ:jy xs (ck c) with
 | true=>
  obtain ⟨dN,hk⟩:=sT IZ
  have ha:oz xs (ck c)=(pos xs (ck c):Int):=by unfold oz;rw[IZ];rfl
  simp only[ha,Int.natCast_nonneg,decide_true,cond_true,if_true,Int.toNat_natCast,List.getElem?_eq_getElem dN,Option.bind_some]
  cases c.1 with
  | true=>cases Ty.eq aA xs[pos xs (ck c)] c.2.1 <;> rfl
  | false=>rfl
 | false=>
  have ha:oz xs (ck c)=-1:=by unfold oz;rw[IZ];rfl
  simp only[ha]
  cases c.1 <;> rfl
end OT
set_option linter.unusedVariables false
set_option linter.unusedSimpArgs false
namespace OT
open Go
def ln (xs:List Row) (i:Nat) (x:Row):Sum (Int×Unit) Unit:=
 if gW x=0 then (if 0 < i then (match xs[i - 1]? with | some y=>if bN (rk y) (rk x) then .inr () else .inl (1,()) | none=>.inl (1,())) else .inr ()) else .inl (gW x,())
def l9 (xs:List Row):Int:=if 60 < xs.length then 2 else (aV (fun i (_:Unit) x=>ln xs i x) (fun _=>((0:Int),())) 0 xs ()).1
theorem Eb (xs:List Row) (hl:xs.length<=maxLen) (h:∀ c ∈ xs,rl c):ej.ab (xs,())=some (l9 xs,()):=by
 refine ag (k:=xs.length+1) fun k hk=>(ej.aa k _).trans ?_
 have:=bC (B:=fun self v=>ej.B0 0 self (fun z=>ej.Q0 0 (xs,()) z) (xs,()) v) xs (fun (_:Unit) (i:Int)=>i) (fun i _ x=>ln xs i x) (fun _=>(0,())) (fun _ _=>True) hl
  (fun i hi _ self _=>by
   show ej.b0 _ _ _ _=_
   unfold ej.b0 ln
   have aj:(i:Int) < (xs.length:Int):=by omega
   simp only[aj,decide_true,cond_true,Int.natCast_nonneg,if_true,Int.toNat_natCast,List.getElem?_eq_getElem hi,Option.bind_some,qy _ (h _ (List.getElem_mem hi))]
   by_cases h1:gW xs[i]=0
   ·simp only[h1,decide_true,Bool.not_true,cond_false,if_true]
    by_cases h0:0 < i
    ·have pc:(0:Int) < (i:Int):=by omega
     have fa:i - 1 < xs.length:=by omega
     simp only[h0,pc,decide_true,cond_true,if_true,yF h0 (by omega),Int.natCast_nonneg,Int.toNat_natCast,List.getElem?_eq_getElem fa,Option.bind_some,uH]
     cases bN (rk xs[i - 1]) (rk xs[i]) <;> rfl
    ·have pc:¬ (0:Int) < (i:Int):=by omega
     simp[h0,pc]
   ·simp[h1]) (fun _ _ _ _ _ _=>trivial) (fun _ self _=>by
   show ej.b0 _ _ _ _=_
   unfold ej.b0
   simp[ej.Q0,ej.q0]) () trivial k (by omega)
 have this:ej.r0 k (xs,()) 0=_:=this
 unfold ej.p l9
 rw[this,show (60:Int)=((60:Nat):Int) from rfl]
 simp only[GN]
 by_cases h1:60 < xs.length <;> simp[h1] <;> rfl
theorem wB (xs:List Row) (hl:xs.length<=maxLen) (h:∀ c ∈ xs,rl c):bR.ab (xs,())=some (l9 xs,()):=by
 refine ag (k:=xs.length+1) fun k hk=>(bR.aa k _).trans ?_
 have:=bC (B:=fun self v=>bR.B0 0 self (fun z=>bR.Q0 0 (xs,()) z) (xs,()) v) xs (fun (_:Unit) (i:Int)=>i) (fun i _ x=>ln xs i x) (fun _=>(0,())) (fun _ _=>True) hl
  (fun i hi _ self _=>by
   show bR.b0 _ _ _ _=_
   unfold bR.b0 ln rk
   have aj:(i:Int) < (xs.length:Int):=by omega
   simp only[aj,decide_true,cond_true,Int.natCast_nonneg,if_true,Int.toNat_natCast,List.getElem?_eq_getElem hi,Option.bind_some,qz _ (h _ (List.getElem_mem hi))]
   by_cases h1:gW xs[i]=0
   ·simp only[h1,decide_true,Bool.not_true,cond_false,if_true]
    by_cases h0:0 < i
    ·have pc:(0:Int) < (i:Int):=by omega
     have fa:i - 1 < xs.length:=by omega
     simp only[h0,pc,decide_true,cond_true,if_true,yF h0 (by omega),Int.natCast_nonneg,Int.toNat_natCast,List.getElem?_eq_getElem fa,Option.bind_some,sv]
     cases bN (xs[i - 1].1,xs[i - 1].2.1) (xs[i].1,xs[i].2.1) <;> rfl
    ·have pc:¬ (0:Int) < (i:Int):=by omega
     simp[h0,pc]
   ·simp[h1]) (fun _ _ _ _ _ _=>trivial) (fun _ self _=>by
   show bR.b0 _ _ _ _=_
   unfold bR.b0
   simp[bR.Q0,bR.q0]) () trivial k (by omega)
 have this:bR.r0 k (xs,()) 0=_:=this
 unfold bR.p l9
 rw[this,show (60:Int)=((60:Nat):Int) from rfl]
 simp only[GN]
 by_cases h1:60 < xs.length <;> simp[h1] <;> rfl
theorem Ao {α:Type} {f:Nat->Unit->α->Sum (Int×Unit) Unit} (hf:∀ i s x o,f i s x=.inl o->o.1≠0):∀ (xs:List α) (j:Nat),(aV f (fun _=>((0:Int),())) j xs ()).1=0->∀ i (hi:i < xs.length),f (j+i) () xs[i]=.inr ()
 | x::xs,j,h,i,hi=>by
  simp only[aV] at h
  cases hx:f j () x with
  | inl o=>rw[hx] at h;exact absurd h (hf _ _ _ _ hx)
  | inr u=>
   rw[hx] at h
   cases i with
   | zero=>exact hx
   | succ i=>
    have:=Ao hf xs (j+1) h i (by simpa using hi)
    rw[show j+(i+1)=j+1+i by omega]
    exact this
theorem I0:∀ (xs:List Row),(∀ i (hi:i < xs.length),0 < i->bN (rk (xs[i - 1]'(by omega))) (rk xs[i])=true)->up xs
 | [],_=>List.Pairwise.nil
 | [x],_=>List.pairwise_singleton _ _
 | x::y::xs,h=>by
  have hu:up (y::xs):=I0 (y::xs) fun i hi h0=>by
   have:=h (i+1) (by simp at hi ⊢;omega) (by omega)
   simp only[Nat.add_sub_cancel] at this
   have e:(x::y::xs)[i]'(by simp at hi ⊢;omega)=(y::xs)[i - 1]'(by simp at hi ⊢;omega):=by
    cases i with
    | zero=>omega
    | succ i=>rfl
   rw[e] at this
   exact this
  have qg:bN (rk x) (rk y)=true:=h 1 (by simp) (by omega)
  refine sQ.2 ⟨fun z hz=>?_,hu⟩
  rcases List.mem_cons.1 hz with rfl | hz
  ·exact qg
  ·exact k8 qg ((sQ.1 hu).1 z hz)
theorem I1 {x:Row} (h:gW x=0):List.length x.2.2.2.1<=8:=by
 unfold gW at h
 split at h
 ·split at h
  ·rename_i ht
   unfold wl at ht
   simp only[Bool.and_eq_true,decide_eq_true_eq] at ht
   exact ht.2
  ·cases h
 ·cases h
structure Good (xs:List Row):Prop where
 up:up xs
 ok:∀ x ∈ xs,gW x=0
theorem ud {xs:List Row} (h:l9 xs=0):Good xs/\xs.length<=60:=by
 unfold l9 at h
 split at h
 ·cases h
 ·rename_i hl
  have hn:=Ao (f:=fun i (_:Unit) x=>ln xs i x) (fun i s x o ho=>by
   unfold ln at ho
   split at ho
   ·split at ho
    ·split at ho
     ·split at ho
      ·cases ho
      ·injection ho with ho;rw[<-ho];decide
     ·injection ho with ho;rw[<-ho];decide
    ·cases ho
   ·rename_i hx
    injection ho with ho;rw[<-ho];exact hx) xs 0 h
  have h1:∀ i (hi:i < xs.length),gW xs[i]=0:=fun i hi=>by
   have:=hn i hi
   unfold ln at this
   split at this
   ·assumption
   ·cases this
  refine ⟨⟨I0 xs fun i hi h0=>?_,fun x hx=>?_⟩,by omega⟩
  ·have:=hn i hi
   unfold ln at this
   rw[if_pos (h1 i hi),Nat.zero_add,if_pos h0,List.getElem?_eq_getElem (show i - 1 < xs.length by omega)] at this
   simp only at this
   split at this
   ·assumption
   ·cases this
  ·obtain ⟨i,hi,rfl⟩:=List.mem_iff_getElem.1 hx
   exact h1 i hi
theorem E6 {c:Change} (h:mE c=0):(c.2.2.1=true->rk c.2.2.2.1=ck c)/\(c.2.2.1=true->gW c.2.2.2.1=0):=by
 refine ⟨fun hi=>by unfold rk ck;rw[hi];rfl,fun hi=>?_⟩
 unfold mE at h
 split at h
 ·cases h
 ·split at h
  ·rename_i Y
   simp only[Bool.and_eq_true,Bool.not_eq_true',decide_eq_false_iff_not] at Y
   exact absurd h Y.2
  ·first | exact h | (rw[if_pos hi] at h;exact h)
theorem sc {xs:List Row} {c:Change} (h:Good xs) (hc:mE c=0):Good (l8 xs c):=by
 obtain ⟨hk,hr⟩:=E6 hc
 have hb:=h.up
 constructor
 ·unfold l8 up
  have h1:(xs.take (pos xs (ck c))).Pairwise (fun a b=>bN (rk a) (rk b)=true):=hb.sublist (List.take_sublist _ _)
  have uu:∀ n,(xs.drop n).Pairwise (fun a b=>bN (rk a) (rk b)=true):=fun n=>hb.sublist (List.drop_sublist _ _)
  have I2:∀ y ∈ xs.drop (pos xs (ck c)+if jy xs (ck c) then 1 else 0),bN (ck c) (rk y)=true:=fun y hy=>by
   obtain ⟨i,e⟩:=List.mem_iff_getElem?.1 hy
   rw[List.getElem?_drop] at e
   obtain ⟨aj,e1⟩:=List.getElem?_eq_some_iff.1 e
   have hn:=sS xs (ck c) _ aj hb (by omega)
   rw[e1] at hn
   clear e1 aj
   cases qi:bN (ck c) (rk y) with
   | true=>rfl
   | false=>
    have he:=pu qi hn
    exfalso
    cases hf:jy xs (ck c) with
    | true=>
     obtain ⟨hp,zS⟩:=sT hf
     rw[hf] at e
     simp only[if_true] at e
     obtain ⟨aj,e⟩:=List.getElem?_eq_some_iff.1 e
     have:=List.pairwise_iff_getElem.1 hb (pos xs (ck c)) (pos xs (ck c)+1+i) hp aj (by omega)
     rw[e,zS,he] at this
     rw[m9] at this;cases this
    | false=>
     rw[hf] at e
     simp only[Bool.false_eq_true,if_false,Nat.add_zero] at e
     obtain ⟨aj,e⟩:=List.getElem?_eq_some_iff.1 e
     have hp:pos xs (ck c) < xs.length:=by omega
     have xY:=sS xs (ck c) _ hp hb (Nat.le_refl _)
     have ey:rk xs[pos xs (ck c)]≠ck c:=fun e2=>by
      unfold jy at hf
      rw[List.getElem?_eq_getElem hp] at hf
      simp[e2] at hf
     have Ku:bN (ck c) (rk xs[pos xs (ck c)])=true:=by
      cases BM:bN (ck c) (rk xs[pos xs (ck c)]) with
      | true=>rfl
      | false=>exact absurd (pu BM xY).symm ey
     cases i with
     | zero=>
      simp only[Nat.add_zero] at e
      rw[e,<- he,m9] at Ku;cases Ku
     | succ i=>
      have:=List.pairwise_iff_getElem.1 hb (pos xs (ck c)) (pos xs (ck c)+(i+1)) hp aj (by omega)
      rw[e] at this
      have:=k8 Ku this
      rw[<-he,m9] at this;cases this
  have I3:∀ a ∈ xs.take (pos xs (ck c)),∀ y ∈ xs.drop (pos xs (ck c)+if jy xs (ck c) then 1 else 0),bN (rk a) (rk y)=true:=fun a ha y hy=>k8 (ub ha) (I2 y hy)
  cases hi:c.2.2.1 with
  | true=>
   have QB:=hk hi
   simp only[if_true]
   refine List.pairwise_append.2 ⟨List.pairwise_append.2 ⟨h1,List.pairwise_singleton _ _,fun a ha b hb=>?_⟩,uu _,fun a ha y hy=>?_⟩
   ·rw[List.mem_singleton] at hb;subst hb;rw[QB];exact ub ha
   ·rcases List.mem_append.1 ha with ha | ha
    ·exact I3 a ha y hy
    ·rw[List.mem_singleton] at ha;subst ha;rw[QB];exact I2 y hy
  | false=>
   simp only[Bool.false_eq_true,if_false,List.append_nil]
   exact List.pairwise_append.2 ⟨h1,uu _,I3⟩
 ·intro x hx
  unfold l8 at hx
  rcases List.mem_append.1 hx with hx | hx
  ·rcases List.mem_append.1 hx with hx | hx
   ·exact h.ok x (List.mem_of_mem_take hx)
   ·split at hx
    ·rename_i hi
     rw[List.mem_singleton] at hx
     rw[hx];exact hr hi
    ·cases hx
  ·exact h.ok x (List.mem_of_mem_drop hx)
theorem ue (xs:List Row) (c:Change):(l8 xs c).length<=xs.length+1:=by
 unfold l8
 rw[List.length_append,List.length_append,List.length_take,List.length_drop]
 have:(if c.2.2.1=true then [c.2.2.2.1] else []).length<=1:=by split <;> simp
 omega
def m_ (i:Nat) (s:List Row) (c:Change):Sum (fC×Unit) (List Row):=if mE c=0 then (if nO s c then .inr (l8 s c) else .inl ((8,[],()),())) else .inl ((mE c,[],()),())
def rH (s:List Row):fC×Unit:=if 60 < s.length then ((2,[],()),()) else ((0,s,()),())
def yM (xs:List Row) (cs:List Change):fC:=if l9 xs=0 then (aV m_ rH 0 cs xs).1 else (l9 xs,[],())
theorem Kv (n i:Nat) (s s':List Row) (c:Change) (h:Good s/\s.length<=60+i) (hf:m_ n s c=.inr s'):Good s'/\s'.length<=60+(i+1):=by
 unfold m_ at hf
 split at hf
 ·rename_i hc
  split at hf
  ·injection hf with hf
   subst hf
   exact ⟨sc h.1 hc,by have:=ue s c;omega⟩
  ·cases hf
 ·cases hf
theorem wC (xs:List Row) (h:xs.length<=1048576):d7.ab (xs,())=some (xs,()):=by
 refine ag (k:=0) fun k _=>(d7.aa k _).trans ?_
 show d7.p _=_
 unfold d7.p
 have c1:([]:List Row).length+xs.length<=bg:=cD (by simp only[List.length_nil];omega)
 exact E2 (fun e=>by have e:xs=[]:=e;subst e;rfl) (by rw[if_pos c1];rfl)
theorem C6 (xs:List Row) (cs:List Change) (hl:xs.length<=maxLen) (h:∀ x ∈ xs,rl x) (K8:cs.length<=1048576) (hc:∀ c ∈ cs,cl c):bV.ab (xs,cs,())=some (yM xs cs,()):=by
 refine ag (k:=cs.length+1) fun k hk=>(bV.aa k _).trans ?_
 unfold bV.p yM
 simp only[wB xs hl h,Option.bind_some]
 by_cases h0:l9 xs=0
 ·obtain ⟨hg,hn⟩:=ud h0
  simp only[h0,decide_true,Bool.not_true,cond_false,if_true,wC xs (by omega),Option.bind_some]
  exact bC (B:=fun self v=>bV.B0 0 self (fun z=>bV.Q0 0 (xs,cs,()) z) (xs,cs,()) v) cs (fun (s:List Row) (i:Int)=>(s,i)) m_ rH (fun i s=>Good s/\s.length<=60+i) (by rw[ah];omega)
   (fun i hi s self hI=>by
    show bV.b0 _ _ _ _=_
    unfold bV.b0 m_
    have aj:(i:Int) < (cs.length:Int):=by omega
    simp only[aj,decide_true,cond_true,Int.natCast_nonneg,if_true,Int.toNat_natCast,List.getElem?_eq_getElem hi,Option.bind_some,uD _ (hc _ (List.getElem_mem hi)),IU _ s hI.1.up (by omega),GU s _ hI.1.up (by omega)]
    by_cases h1:mE cs[i]=0
    ·simp only[h1,decide_true,Bool.not_true,cond_false,if_true]
     cases nO s cs[i] <;> rfl
    ·simp[h1]) (fun i hi s s' hI hf=>Kv _ i s s' _ hI hf) (fun s self hI=>by
    show bV.b0 _ _ _ _=_
    unfold bV.b0 rH
    have aj:¬ (cs.length:Int) < (cs.length:Int):=by omega
    simp only[aj,decide_false,cond_false,bV.Q0,bV.q0]
    rw[show (60:Int)=((60:Nat):Int) from rfl,GN]
    by_cases h1:60 < s.length <;> simp[h1]) xs ⟨hg,by omega⟩ k (by omega)
 ·simp[h0];(try rfl)
end OT
set_option linter.unusedVariables false
set_option linter.unusedSimpArgs false
namespace OT
open Go
theorem C7 {α β O:Type} [DecidableEq β] (g:α->Option β) (bad:O) (fin:Unit->O) (p:α->α->Bool) (hp:∀ x y,p x y=true↔∃ b,g x=some b/\g y=some b) (all:List α):∀ (xs pre:List α),all=pre++xs->(pre.filterMap g).Nodup->aV (fun i _ x=>if (all.take i).any (p x) then .inl bad else .inr ()) fin pre.length xs ()=if (all.filterMap g).Nodup then fin () else bad
 | [],pre,h,hn=>by
  rw[List.append_nil] at h
  subst h
  simp only[aV,hn,if_true]
 | x::xs,pre,h,hn=>by
  have ht:all.take pre.length=pre:=by rw[h];exact List.take_left
  simp only[aV,ht]
  have ja:all.filterMap g=pre.filterMap g++([x].filterMap g++xs.filterMap g):=by rw[h,<- List.singleton_append (x:=x),List.filterMap_append,List.filterMap_append]
  cases hc:pre.any (p x) with
  | true=>
   simp only[if_true]
   obtain ⟨y,hy,Tr⟩:=List.any_eq_true.1 hc
   obtain ⟨b,h1,Y⟩:=(hp x y).1 Tr
   rw[if_neg]
   intro lM
   rw[ja,List.nodup_append] at lM
   exact lM.2.2 b (List.mem_filterMap.2 ⟨y,hy,Y⟩) b (by simp[h1]) rfl
  | false=>
   simp only[Bool.false_eq_true,if_false]
   have:=C7 g bad fin p hp all xs (pre++[x]) (by rw[h];simp) (by
    rw[List.filterMap_append,List.nodup_append]
    refine ⟨hn,?_,fun a ha b hb e=>?_⟩
    ·cases hg:g x with
     | none=>simp[hg]
     | some b=>simp[hg]
    ·subst e
     obtain ⟨y,hy,Ts⟩:=List.mem_filterMap.1 ha
     obtain ⟨z,hz,Tt⟩:=List.mem_filterMap.1 hb
     rw[List.mem_singleton] at hz
     subst hz
     have:pre.any (p z)=true:=List.any_eq_true.2 ⟨y,hy,(hp z y).2 ⟨a,Tt,Ts⟩⟩
     rw[this] at hc;cases hc)
   rw[List.length_append] at this
   exact this
theorem vG {α β O:Type} [DecidableEq β] (g:α->Option β) (bad:O) (fin:Unit->O) (p:α->α->Bool) (hp:∀ x y,p x y=true↔∃ b,g x=some b/\g y=some b) (xs:List α):aV (fun i _ x=>if (xs.take i).any (p x) then .inl bad else .inr ()) fin 0 xs ()=if (xs.filterMap g).Nodup then fin () else bad:=
 C7 g bad fin p hp xs xs [] rfl List.nodup_nil
theorem uI {α:Type} {lt:α->α->Prop} (has:∀ a b,lt a b->¬ lt b a):∀ (xs ys:List α),xs.Perm ys->xs.Pairwise lt->ys.Pairwise lt->xs=ys
 | [],ys,h,_,_=>(List.nil_perm.1 h).symm
 | x::xs,[],h,_,_=>by have:=h.length_eq;cases this
 | x::xs,y::ys,h,h1,Y=>by
  obtain ⟨a1,a2⟩:=List.pairwise_cons.1 h1
  obtain ⟨b1,b2⟩:=List.pairwise_cons.1 Y
  by_cases qg:x=y
  ·subst qg
   rw[uI has xs ys ((List.perm_cons x).1 h) a2 b2]
  ·have hx:x ∈ ys:=by
    have:=h.mem_iff.1 (List.mem_cons_self (a:=x) (l:=xs))
    rcases List.mem_cons.1 this with e | e
    ·exact absurd e qg
    ·exact e
   have hy:y ∈ xs:=by
    have:=h.mem_iff.2 (List.mem_cons_self (a:=y) (l:=ys))
    rcases List.mem_cons.1 this with e | e
    ·exact absurd e.symm qg
    ·exact e
   exact absurd (b1 x hx) (has _ _ (a1 y hy))
theorem Ap (xs:List Row) (r:Row):(jL xs r).Perm (r::xs):=by
 unfold jL
 rw[List.append_assoc]
 have:=List.perm_middle (a:=r) (l₁:=xs.take (pos xs (rk r))) (l₂:=xs.drop (pos xs (rk r)))
 rw[List.take_append_drop] at this
 exact this
theorem E7 {xs:List Row} {k:Int×Int} {x:Row} (hu:up xs) (h:x ∈ xs.drop (pos xs k)):bN (rk x) k=false:=by
 obtain ⟨i,hi,e⟩:=List.mem_iff_getElem.1 h
 rw[List.length_drop] at hi
 rw[List.getElem_drop] at e
 rw[<-e]
 exact sS xs k _ _ hu (by omega)
theorem MF {xs:List Row} {r:Row} (hu:up xs) (hn:∀ x ∈ xs,rk x≠rk r):up (jL xs r):=by
 unfold jL up
 rw[List.append_assoc,List.pairwise_append]
 have hd:=hu.drop (i:=pos xs (rk r))
 refine ⟨hu.take,?_,fun a ha b hb=>?_⟩
 ·rw[List.singleton_append,List.pairwise_cons]
  refine ⟨fun b hb=>?_,hd⟩
  have h1:=E7 hu hb
  have Y:=hn b (List.mem_of_mem_drop hb)
  cases h3:bN (rk r) (rk b) with
  | true=>rfl
  | false=>exact absurd (pu h1 h3) Y
 ·have h1:=ub ha
  rw[List.singleton_append] at hb
  rcases List.mem_cons.1 hb with e | e
  ·subst e;exact h1
  ·have Y:=E7 hu e
   have h3:=hn b (List.mem_of_mem_drop e)
   cases h4:bN (rk a) (rk b) with
   | true=>rfl
   | false=>
    cases h5:bN (rk b) (rk a) with
    | true=>rw[k8 h5 h1] at Y;cases Y
    | false=>
     have:=pu h4 h5
     rw[this] at h1
     rw[h1] at Y;cases Y
def yN (l:List Row):List Row:=l.foldl jL []
theorem yO:∀ (l acc:List Row),(l.foldl jL acc).Perm (l++acc)
 | [],acc=>List.Perm.refl _
 | r::l,acc=>by
  have h1:=yO l (jL acc r)
  have Y:(l++jL acc r).Perm (l++r::acc):=(List.Perm.refl l).append (Ap acc r)
  exact h1.trans (Y.trans List.perm_middle)
theorem GV (l:List Row):(yN l).Perm l:=by
 have:=yO l []
 rw[List.append_nil] at this
 exact this
theorem C8:∀ (l acc:List Row),up acc->(l.map rk++acc.map rk).Nodup->up (l.foldl jL acc)
 | [],acc,h,_=>h
 | r::l,acc,h,hn=>by
  simp only[List.map_cons,List.cons_append,List.nodup_cons,List.mem_append,not_or] at hn
  refine C8 l (jL acc r) (MF h fun x hx e=>hn.1.2 (List.mem_map.2 ⟨x,hx,e⟩)) ?_
  have:(l.map rk++(jL acc r).map rk).Perm (rk r::(l.map rk++acc.map rk)):=by
   refine ((List.Perm.refl _).append ((Ap acc r).map rk)).trans ?_
   rw[List.map_cons]
   exact List.perm_middle
  rw[this.nodup_iff,List.nodup_cons,List.mem_append,not_or]
  exact hn
theorem Kw {l:List Row} (h:(l.map rk).Nodup):up (yN l):=C8 l [] List.Pairwise.nil (by simpa using h)
theorem Kx {a b:Int×Int} (h:bN a b=true):¬ bN b a=true:=by rw[IR h];exact fun h=>by cases h
theorem Ky {xs:List Row} (h:up xs):(xs.map rk).Nodup:=by
 unfold List.Nodup
 rw[List.pairwise_map]
 refine h.imp fun h1 e=>?_
 rw[e,m9] at h1
 cases h1
end OT
set_option linter.unusedVariables false
set_option linter.unusedSimpArgs false
namespace OT
open Go
abbrev fP:Type:=List (List UInt8)
def vH {α β:Type} (g:Nat->α->List β):Nat->List α->List β
 | _,[]=>[]
 | i,x::xs=>g i x++vH g (i+1) xs
theorem vI {O α β:Type} (g:Nat->α->List β) (fin:List β->O):∀ (xs:List α) (i:Nat) (s:List β),aV (fun i s x=>.inr (s++g i x)) fin i xs s=fin (s++vH g i xs)
 | [],_,s=>by simp[aV,vH]
 | x::xs,i,s=>by simp only[aV,vH];rw[vI g fin xs (i+1)];simp[List.append_assoc]
theorem E8 {α β:Type} {g:Nat->α->List β} {n:Nat}:∀ (xs:List α) (i:Nat),(∀ i x,x ∈ xs->(g i x).length<=n)->(vH g i xs).length<=n*xs.length
 | [],_,_=>by simp[vH]
 | x::xs,i,h=>by
  have h1:=h i x List.mem_cons_self
  have Y:=E8 xs (i+1) fun i y hy=>h i y (List.mem_cons_of_mem _ hy)
  simp only[vH,List.length_append,List.length_cons,Nat.mul_add]
  omega
theorem E9 {α β:Type} {g:Nat->α->List β} {y:β}:∀ {xs:List α} {i:Nat},y ∈ vH g i xs↔∃ (j:Nat) (x:α),xs[j]?=some x/\y ∈ g (i+j) x
 | [],i=>by simp[vH]
 | x::xs,i=>by
  simp only[vH,List.mem_append,E9 (xs:=xs)]
  constructor
  ·rintro (h | ⟨j,z,h1,Y⟩)
   ·exact ⟨0,x,rfl,h⟩
   ·exact ⟨j+1,z,h1,by rw[show i+(j+1)=i+1+j by omega];exact Y⟩
  ·rintro ⟨j,z,h1,Y⟩
   cases j with
   | zero=>injection h1 with h1;subst h1;exact .inl Y
   | succ j=>exact .inr ⟨j,z,h1,by rw[show i+1+j=i+(j+1) by omega];exact Y⟩
def cV (x:aw):Int:=x.2.2.1.2.1
def i6 (x:aw):Int:=x.2.2.1.2.2.1
def i7 (x:aw):Int:=x.2.2.1.2.2.2.1
def fU (x:aw):Row:=x.2.2.1.2.2.2.2.1
def kE (P:Nat) (p:List UInt8) (s:Nat):List aw:=if aN p s=0 then [] else [((P:Int),(s:Int),(cU (ep p s)).1,())]
def mu (P:Nat) (p:List UInt8):List aw:=(List.range (pn p)).flatMap (kE P p)
def aQ (ps:fP):List aw:=vH mu 0 ps
def iA (ps:fP) (a b:Int):kP×Bool:=match ps[a.toNat]? with
 | some p=>if b.toNat < pn p/\aN p b.toNat≠0 then cU (ep p b.toNat) else (wm,false)
 | none=>(wm,false)
def nI (p:List UInt8) (s:Nat):Bool:=decide (aN p s=0)||(cU (ep p s)).2
def oY (p:List UInt8):Int:=if oX p=0 then (if (List.range (pn p)).all (nI p) then 0 else 5) else oX p
def kB (ps:fP) (x:aw):Bool:=!decide (cV x=1)||((iA ps (i6 x) (i7 x)).2&&decide ((iA ps (i6 x) (i7 x)).1.2.1=2))
def oZ (x:aw):Option (Int×Int):=if cV x=1 then some (i6 x,i7 x) else none
def E_ (x:aw) (r:Row):aw:=(x.1,x.2.1,(x.2.2.1.1,x.2.2.1.2.1,x.2.2.1.2.2.1,x.2.2.1.2.2.2.1,r,x.2.2.1.2.2.2.2.2),x.2.2.2)
def qC (ps:fP) (x:aw):aw:=if cV x=1 then E_ x (iA ps (i6 x) (i7 x)).1.2.2.2.2.1 else x
def k9 (ps:fP) (x:aw):List aw:=if cV x=2 then [] else [qC ps x]
def iW (ps:fP):List aw:=(aQ ps).flatMap (k9 ps)
def uf (ps:fP):Int:=
 if (aQ ps).all (kB ps) then
  if ((aQ ps).filterMap oZ).Nodup then (if ((iW ps).map fun x=>rk (fU x)).Nodup then 0 else 8) else 6
 else 4
def jF (ps:fP):Int:=if 12 < ps.length then 2 else if hU oY ps=0 then uf ps else hU oY ps
def nc (ps:fP):Prop:=ps.length<=12/\∀ p ∈ ps,kZ p
theorem yP {p:List UInt8} (h:oY p=0):kZ p/\∀ s,s < pn p->aN p s≠0->(cU (ep p s)).2=true:=by
 unfold oY at h
 split at h
 ·rename_i h1
  split at h
  ·rename_i Y
   refine ⟨vD.1 h1,fun s hs hz=>?_⟩
   have:=List.all_eq_true.1 Y s (List.mem_range.2 hs)
   simpa [nI,hz] using this
  ·cases h
 ·rename_i h1;exact absurd h h1
theorem o3 {α:Type} {c:α->Int}:∀ {xs:List α},hU c xs=0->∀ x ∈ xs,c x=0
 | [],_,_,hx=>by cases hx
 | y::xs,h,x,hx=>by
  simp only[hU] at h
  split at h
  ·rename_i hy
   rcases List.mem_cons.1 hx with rfl | hx
   ·exact hy
   ·exact o3 h x hx
  ·rename_i hy;exact absurd h hy
theorem qD {ps:fP} (h:jF ps=0):nc ps/\hU oY ps=0/\uf ps=0:=by
 unfold jF at h
 split at h
 ·cases h
 ·rename_i h1
  split at h
  ·rename_i Y
   exact ⟨⟨by omega,fun p hp=>(yP (o3 Y p hp)).1⟩,Y,h⟩
  ·rename_i Y;exact absurd h Y
theorem sx {p:List UInt8} (h:kZ p) (P:Nat):(mu P p).length<=16:=by
 have:∀ n,((List.range n).flatMap (kE P p)).length<=n:=by
  intro n
  induction n with
  | zero=>simp
  | succ n ih=>
   rw[List.range_succ,List.flatMap_append,List.length_append]
   have:(([n]:List Nat).flatMap (kE P p)).length<=1:=by
    simp only[List.flatMap_cons,List.flatMap_nil,List.append_nil,kE]
    split <;> simp
   omega
 have h1:=this (pn p)
 have Y:=h.n
 unfold mu;omega
theorem sd {ps:fP} (h:nc ps):(aQ ps).length<=192:=by
 have:=E8 (g:=mu) (n:=16) ps 0 fun i p hp=>sx (h.2 p hp) i
 unfold aQ;have:=h.1;omega
theorem ug {ps:fP} (h:nc ps):(iW ps).length<=192:=by
 have:∀ xs:List aw,(xs.flatMap (k9 ps)).length<=xs.length:=by
  intro xs
  induction xs with
  | nil=>simp
  | cons x xs ih=>
   have:(k9 ps x).length<=1:=by unfold k9;split <;> simp
   simp only[List.flatMap_cons,List.length_append,List.length_cons];omega
 have h1:=this (aQ ps)
 have Y:=sd h
 unfold iW;omega
theorem C9 (d:List UInt8):0<=(cU d).1.2.2.1/\0<=(cU d).1.2.2.2.1:=by
 unfold cU
 split
 ·exact ⟨Int.natCast_nonneg _,Int.natCast_nonneg _⟩
 ·split
  ·exact ⟨Int.le_refl _,Int.le_refl _⟩
  ·exact ⟨Int.le_refl _,Int.le_refl _⟩
theorem rI {ps:fP} {x:aw}:x ∈ aQ ps↔∃ (P:Nat) (p:List UInt8) (s:Nat),ps[P]?=some p/\s < pn p/\aN p s≠0/\x=((P:Int),(s:Int),(cU (ep p s)).1,()):=by
 unfold aQ
 rw[E9]
 constructor
 ·rintro ⟨j,p,h1,Y⟩
  obtain ⟨s,h3,h4⟩:=List.mem_flatMap.1 Y
  unfold kE at h4
  split at h4
  ·cases h4
  ·rename_i hz
   rw[List.mem_singleton] at h4
   rw[Nat.zero_add] at h4
   exact ⟨j,p,s,h1,List.mem_range.1 h3,hz,h4⟩
 ·rintro ⟨P,p,s,h1,Y,h3,rfl⟩
  refine ⟨P,p,h1,List.mem_flatMap.2 ⟨s,List.mem_range.2 Y,?_⟩⟩
  unfold kE
  rw[if_neg h3,Nat.zero_add]
  exact List.mem_singleton.2 rfl
theorem pG {ps:fP} {x:aw} (h:x ∈ aQ ps):0<=i6 x/\0<=i7 x:=by
 obtain ⟨P,p,s,_,_,_,rfl⟩:=rI.1 h
 exact C9 _
theorem vJ (ps:fP) (h:nc ps):bI.ab (ps,())=some (aQ ps,()):=by
 obtain ⟨hl,hp⟩:=h
 refine ag (k:=100) fun k hk=>(bI.aa k _).trans ?_
 have inner:∀ (self:(fP×(List aw)×Int)->Option bI.Out) (e0:(List aw)->Option bI.Out) (i:Nat) (hi:i < ps.length) (s:List aw),s.length<=1000->bI.r1 k self e0 (ps,()) ps (i:Int) (s,(0:Int))=self (ps,s++mu i ps[i],ae ((i:Int)+1)):=fun self e0 i hi s0 Qe=>by
  have az:=hp _ (List.getElem_mem hi)
  have hn:=az.n
  have hlen:=az.len
  have:=qB (B:=fun ca v=>bI.B1 k ca (fun z=>bI.Q0 k self e0 (ps,()) ps (i:Int) z) (ps,()) ps (i:Int) v) (pn ps[i]) (fun (s:List aw) (j:Int)=>(s,j)) (fun j s=>.inr (s++kE i ps[i] j)) (fun s=>self (ps,s,ae ((i:Int)+1))) (fun j s=>s.length<=1000+j) (by omega)
   (fun j hj s ca hI=>by
    show bI.b1 _ _ _ _ _ _=_
    unfold bI.b1 kE
    have aj:(j:Int) < (pn ps[i]:Int):=by omega
    simp only[Int.natCast_nonneg,if_true,Int.toNat_natCast,List.getElem?_eq_getElem hi,Option.bind_some,oy hlen,aj,decide_true,cond_true,m8 hlen (show j < 16 by omega)]
    by_cases hz:aN ps[i] j=0
    ·have:¬ ((0:Int) < (aN ps[i] j:Int)):=by omega
     rw[decide_eq_false this]
     simp only[cond_false,hz,if_true,List.append_nil]
    ·have:((0:Int) < (aN ps[i] j:Int)):=by omega
     rw[decide_eq_true this]
     simp only[cond_true,qe az hj,rF _ (Nat.le_trans (nH az hj) (by omega)),Option.bind_some,hz,if_false]
     rw[if_pos (cD (by simp only[List.length_cons,List.length_nil];omega))])
   (fun j hj s s' hI hf=>by
    injection hf with hf
    subst hf
    have:(kE i ps[i] j).length<=1:=by unfold kE;split <;> simp
    rw[List.length_append];omega) (fun s ca hI=>by
    show bI.b1 _ _ _ _ _ _=_
    unfold bI.b1
    simp only[Int.natCast_nonneg,if_true,Int.toNat_natCast,List.getElem?_eq_getElem hi,Option.bind_some,oy hlen,Int.lt_irrefl,decide_false,cond_false]
    rfl) s0 (by omega) k (by omega)
  rw[t8 (kE i ps[i])] at this
  exact this
 have:=bF (B:=fun self v=>bI.B0 k self (fun z=>bI.Q1 k (ps,()) z) (ps,()) v) ps (fun (s:List aw) (i:Int)=>(ps,s,i)) (fun i s p=>.inr (s++mu i p)) (fun s=>some (s,())) (fun i s=>s.length<=16*i) (by rw[ah];omega)
  (fun i hi s self hI=>by
   show bI.b0 _ _ _ _ _=_
   unfold bI.b0
   have aj:(i:Int) < (ps.length:Int):=by omega
   simp only[aj,decide_true,cond_true,inner self _ i hi s (by omega)])
  (fun i hi s s' hI hf=>by
   injection hf with hf
   subst hf
   have:=sx (hp _ (List.getElem_mem hi)) i
   rw[List.length_append];omega) (fun s self _=>by
   show bI.b0 _ _ _ _ _=_
   unfold bI.b0
   simp only[Int.lt_irrefl,decide_false,cond_false]
   rfl) [] (by simp) k (by omega)
 rw[vI] at this
 exact this
theorem C_ (ps:fP) (hl:ps.length<=12) (hp:∀ p ∈ ps,p.length<=maxLen):cc.ab (ps,())=some (hU oY ps,()):=by
 refine ag (k:=100) fun k hk=>(cc.aa k _).trans ?_
 have inner:∀ (self:(fP×Int)->Option cc.Out) (e0:Unit->Option cc.Out) (i:Nat) (hi:i < ps.length),kZ ps[i]->cc.r1 k self e0 (ps,()) ps (i:Int) (0:Int)=if (List.range (pn ps[i])).all (nI ps[i]) then self (ps,ae ((i:Int)+1)) else some ((5:Int),()):=fun self e0 i hi az=>by
  have hn:=az.n
  have hlen:=az.len
  have:=qB (B:=fun ca v=>cc.B1 k ca (fun z=>cc.Q0 k self e0 (ps,()) ps (i:Int) z) (ps,()) ps (i:Int) v) (pn ps[i]) (fun (_:Unit) (j:Int)=>j) (fun j _=>if nI ps[i] j then .inr () else .inl (some ((5:Int),()))) (fun s=>self (ps,ae ((i:Int)+1))) (fun _ _=>True) (by omega)
   (fun j hj s ca hI=>by
    show cc.b1 _ _ _ _ _ _=_
    unfold cc.b1 nI
    have aj:(j:Int) < (pn ps[i]:Int):=by omega
    simp only[Int.natCast_nonneg,if_true,Int.toNat_natCast,List.getElem?_eq_getElem hi,Option.bind_some,oy hlen,aj,decide_true,cond_true,m8 hlen (show j < 16 by omega)]
    by_cases hz:aN ps[i] j=0
    ·have:¬ ((0:Int) < (aN ps[i] j:Int)):=by omega
     rw[decide_eq_false this]
     simp only[cond_false,hz,decide_true,Bool.true_or,if_true]
    ·have:((0:Int) < (aN ps[i] j:Int)):=by omega
     rw[decide_eq_true this]
     simp only[cond_true,qe az hj,rF _ (Nat.le_trans (nH az hj) (by omega)),Option.bind_some,hz,decide_false,Bool.false_or]
     cases (cU (ep ps[i] j)).2 <;> rfl)
   (fun _ _ _ _ _ _=>trivial) (fun s ca hI=>by
    show cc.b1 _ _ _ _ _ _=_
    unfold cc.b1
    simp only[Int.natCast_nonneg,if_true,Int.toNat_natCast,List.getElem?_eq_getElem hi,Option.bind_some,oy hlen,Int.lt_irrefl,decide_false,cond_false]
    rfl) () trivial k (by omega)
  rw[mt] at this
  exact this
 have:=bF (B:=fun self v=>cc.B0 k self (fun z=>cc.Q1 k (ps,()) z) (ps,()) v) ps (fun (_:Unit) (i:Int)=>(ps,i)) (fun i _ p=>if oY p=0 then .inr () else .inl (some (oY p,()))) (fun _=>some ((0:Int),())) (fun _ _=>True) (by rw[ah];omega)
  (fun i hi s self hI=>by
   show cc.b0 _ _ _ _ _=_
   unfold cc.b0 oY
   have aj:(i:Int) < (ps.length:Int):=by omega
   simp only[aj,decide_true,cond_true,Int.natCast_nonneg,if_true,Int.toNat_natCast,List.getElem?_eq_getElem hi,Option.bind_some,D9 _ (hp _ (List.getElem_mem hi))]
   by_cases h0:oX ps[i]=0
   ·rw[decide_eq_true h0]
    simp only[Bool.not_true,cond_false,inner self _ i hi (vD.1 h0),h0,if_true]
    by_cases hc:(List.range (pn ps[i])).all (nI ps[i])=true
    ·simp only[hc,if_true]
    ·simp only[hc,Bool.false_eq_true,if_false]
     rfl
   ·rw[decide_eq_false h0]
    simp only[Bool.not_false,cond_true,h0,if_false])
  (fun _ _ _ _ _ _=>trivial) (fun s self _=>by
   show cc.b0 _ _ _ _ _=_
   unfold cc.b0
   simp only[Int.lt_irrefl,decide_false,cond_false]
   rfl) () trivial k (by omega)
 rw[qt oY (fun c=>some (c,())) (fun _=>some ((0:Int),()))] at this
 refine Eq.trans this ?_
 split
 ·rename_i h;rw[h]
 ·rfl
theorem vK (ps:fP) (h:nc ps) (a b:Int) (ha:0<=a) (hb:0<=b):fR.ab (ps,a,b,())=some ((iA ps a b).1,(iA ps a b).2,()):=by
 obtain ⟨hl,hp⟩:=h
 obtain ⟨a,rfl⟩:=Int.eq_ofNat_of_zero_le ha
 obtain ⟨b,rfl⟩:=Int.eq_ofNat_of_zero_le hb
 refine ag (k:=0) fun k hk=>(fR.aa k _).trans ?_
 show fR.p _=_
 unfold fR.p iA
 have hw:ae ((ps.length:Int) - 1)=(ps.length:Int) - 1:=aJ (by omega)
 have h0:decide ((0:Int)<=(a:Int))=true:=decide_eq_true (by omega)
 have h1:decide ((a:Int)<=(ps.length:Int) - 1)=decide (a < ps.length):=by rw[decide_eq_decide];omega
 simp only[iR,hw,h0,h1,Option.bind_some,Bool.true_and,Int.toNat_natCast]
 by_cases LR:a < ps.length
 rotate_left
 ·rw[decide_eq_false LR,List.getElem?_eq_none (by omega)]
  rfl
 rw[decide_eq_true LR]
 have az:=hp _ (List.getElem_mem LR)
 simp only[Bool.not_true,cond_false,Int.natCast_nonneg,if_true,List.getElem?_eq_getElem LR,Option.bind_some,GT az]
 by_cases hc:b < pn ps[a]/\aN ps[a] b≠0
 ·rw[decide_eq_true hc.1,decide_eq_false hc.2,if_pos hc]
  simp only[Bool.not_false,Bool.and_self,Bool.not_true,cond_false,qe az hc.1,rF _ (Nat.le_trans (nH az hc.1) (by omega)),Option.bind_some]
 ·rw[if_neg hc]
  have:(decide (b < pn ps[a])&&!decide (aN ps[a] b=0))=false:=by
   rw[Bool.and_eq_false_iff]
   by_cases Y:b < pn ps[a]
   ·right
    have:aN ps[a] b=0:=by
     by_cases h3:aN ps[a] b=0
     ·exact h3
     ·exact absurd ⟨Y,h3⟩ hc
    rw[decide_eq_true this];rfl
   ·left;exact decide_eq_false Y
  rw[this]
  rfl
theorem Da (ps:fP) (h:nc ps):bd.ab (aQ ps,ps,())=some (if (aQ ps).all (kB ps) then (if ((aQ ps).filterMap oZ).Nodup then 0 else 6) else 4,()):=by
 have gY:=sd h
 have vF:∀ x ∈ aQ ps,0<=i6 x/\0<=i7 x:=fun x hx=>pG hx
 generalize aQ ps=xs at gY vF ⊢
 refine ag (k:=300) fun k hk=>(bd.aa k _).trans ?_
 have inner:∀ (self:(List aw×Int)->Option bd.Out) (e2:Unit->Option bd.Out) (i:Nat) (hi:i < xs.length),bd.r2 k self e2 (xs,ps,()) xs (i:Int) (0:Int)=if (xs.take i).any (fun y=>decide (cV xs[i]=1)&&(decide (cV y=1)&&(decide (i6 xs[i]=i6 y)&&decide (i7 xs[i]=i7 y)))) then some ((6:Int),()) else self (xs,ae ((i:Int)+1)):=fun self e2 i hi=>by
  have eo:(xs.take i).length=i:=by rw[List.length_take];omega
  have:=bF (B:=fun ca v=>bd.B2 k ca (fun z=>bd.Q1 k self e2 (xs,ps,()) xs (i:Int) z) (xs,ps,()) xs (i:Int) v) (xs.take i) (fun (_:Unit) (j:Int)=>j) (fun _ _ y=>if decide (cV xs[i]=1)&&(decide (cV y=1)&&(decide (i6 xs[i]=i6 y)&&decide (i7 xs[i]=i7 y))) then .inl (some ((6:Int),())) else .inr ()) (fun _=>self (xs,ae ((i:Int)+1))) (fun _ _=>True) (by rw[ah];omega)
   (fun j hj s ca _=>by
    have f8:j < i:=by omega
    have Ih:j < xs.length:=by omega
    show bd.b2 _ _ _ _ _ _=_
    unfold bd.b2
    have aj:(j:Int) < (i:Int):=by omega
    have hg:(xs.take i)[j]=xs[j]:=List.getElem_take
    rw[hg]
    simp only[aj,decide_true,cond_true,Int.natCast_nonneg,if_true,Int.toNat_natCast,List.getElem?_eq_getElem hi,List.getElem?_eq_getElem Ih,Option.bind_some]
    show (bif decide (cV xs[i]=1) then bif decide (cV xs[j]=1) then bif decide (i6 xs[i]=i6 xs[j]) then bif decide (i7 xs[i]=i7 xs[j]) then _ else _ else _ else _ else _)=_
    cases decide (cV xs[i]=1) <;> cases decide (cV xs[j]=1) <;> cases decide (i6 xs[i]=i6 xs[j]) <;> cases decide (i7 xs[i]=i7 xs[j]) <;> rfl)
   (fun _ _ _ _ _ _=>trivial) (fun s ca _=>by
    rw[eo]
    show bd.b2 _ _ _ _ _ _=_
    unfold bd.b2
    simp only[Int.lt_irrefl,decide_false,cond_false]
    rfl) () trivial k (by omega)
  rw[pt] at this
  exact this
 have second:bd.r1 k (xs,ps,()) (xs,(0:Int))=if (xs.filterMap oZ).Nodup then some ((0:Int),()) else some ((6:Int),()):=by
  have:=bF (B:=fun self v=>bd.B1 k self (fun z=>bd.Q2 k (xs,ps,()) z) (xs,ps,()) v) xs (fun (_:Unit) (i:Int)=>(xs,i)) (fun i _ x=>if (xs.take i).any (fun y=>decide (cV x=1)&&(decide (cV y=1)&&(decide (i6 x=i6 y)&&decide (i7 x=i7 y)))) then .inl (some ((6:Int),())) else .inr ()) (fun _=>some ((0:Int),())) (fun _ _=>True) (by rw[ah];omega)
   (fun i hi s self _=>by
    show bd.b1 _ _ _ _ _=_
    unfold bd.b1
    have aj:(i:Int) < (xs.length:Int):=by omega
    simp only[aj,decide_true,cond_true,inner self _ i hi]
    split <;> rfl)
   (fun _ _ _ _ _ _=>trivial) (fun s self _=>by
    show bd.b1 _ _ _ _ _=_
    unfold bd.b1
    simp only[Int.lt_irrefl,decide_false,cond_false]
    rfl) () trivial k (by omega)
  rw[vG oZ (some ((6:Int),())) (fun _=>some ((0:Int),())) (fun x y=>decide (cV x=1)&&(decide (cV y=1)&&(decide (i6 x=i6 y)&&decide (i7 x=i7 y)))) (fun x y=>?_) xs] at this
  ·exact this
  ·unfold oZ
   simp only[Bool.and_eq_true,decide_eq_true_eq]
   constructor
   ·rintro ⟨h1,Y,h3,h4⟩
    exact ⟨(i6 x,i7 x),by rw[if_pos h1],by rw[if_pos Y,h3,h4]⟩
   ·rintro ⟨b,h1,Y⟩
    by_cases c1:cV x=1
    ·by_cases c2:cV y=1
     ·rw[if_pos c1] at h1
      rw[if_pos c2] at Y
      injection h1 with h1
      injection Y with Y
      rw[<-Y] at h1
      injection h1 with h3 h4
      exact ⟨c1,c2,h3,h4⟩
     ·rw[if_neg c2] at Y;cases Y
    ·rw[if_neg c1] at h1;cases h1
 have:=bF (B:=fun self v=>bd.B0 k self (fun z=>bd.Q0 k (xs,ps,()) z) (xs,ps,()) v) xs (fun (_:Unit) (i:Int)=>i) (fun i _ x=>if kB ps x then .inr () else .inl (some ((4:Int),()))) (fun _=>bd.r1 k (xs,ps,()) (xs,(0:Int))) (fun _ _=>True) (by rw[ah];omega)
  (fun i hi s self _=>by
   show bd.b0 _ _ _ _=_
   unfold bd.b0 kB
   have aj:(i:Int) < (xs.length:Int):=by omega
   obtain ⟨g1,g2⟩:=vF _ (List.getElem_mem hi)
   have yr:fR.ab (ps,(xs[i]).2.2.1.2.2.1,(xs[i]).2.2.1.2.2.2.1,())=some ((iA ps (i6 xs[i]) (i7 xs[i])).1,(iA ps (i6 xs[i]) (i7 xs[i])).2,()):=vK ps h _ _ g1 g2
   simp only[aj,decide_true,cond_true,Int.natCast_nonneg,if_true,Int.toNat_natCast,List.getElem?_eq_getElem hi,Option.bind_some,yr]
   show (bif !decide (cV xs[i]=1) then _ else _)=_
   cases decide (cV xs[i]=1) <;> cases (iA ps (i6 xs[i]) (i7 xs[i])).2 <;> cases decide ((iA ps (i6 xs[i]) (i7 xs[i])).1.2.1=2) <;> rfl)
  (fun _ _ _ _ _ _=>trivial) (fun s self _=>by
   show bd.b0 _ _ _ _=_
   unfold bd.b0
   simp only[Int.lt_irrefl,decide_false,cond_false]
   rfl) () trivial k (by omega)
 rw[kO (kB ps) (some ((4:Int),())) (fun _=>bd.r1 k (xs,ps,()) (xs,(0:Int)))] at this
 refine Eq.trans this ?_
 rw[second]
 split
 ·split <;> rfl
 ·rfl
theorem wD (ps:fP) (h:nc ps):ek.ab (ps,())=some (iW ps,()):=by
 refine ag (k:=300) fun k hk=>(ek.aa k _).trans ?_
 unfold ek.p
 rw[vJ ps h]
 simp only[Option.bind_some]
 have gY:=sd h
 have vF:∀ x ∈ aQ ps,0<=i6 x/\0<=i7 x:=fun x hx=>pG hx
 unfold iW
 generalize aQ ps=xs at gY vF ⊢
 have:=bF (B:=fun self v=>ek.B0 k self (fun z=>ek.Q0 k (ps,()) xs z) (ps,()) xs v) xs (fun (s:List aw) (i:Int)=>(s,i)) (fun i s x=>.inr (s++k9 ps x)) (fun s=>some (s,())) (fun i s=>s.length<=i) (by rw[ah];omega)
  (fun i hi s self hI=>by
   show ek.b0 _ _ _ _ _=_
   unfold ek.b0 k9
   have aj:(i:Int) < (xs.length:Int):=by omega
   obtain ⟨g1,g2⟩:=vF _ (List.getElem_mem hi)
   have yr:fR.ab (ps,(xs[i]).2.2.1.2.2.1,(xs[i]).2.2.1.2.2.2.1,())=some ((iA ps (i6 xs[i]) (i7 xs[i])).1,(iA ps (i6 xs[i]) (i7 xs[i])).2,()):=vK ps h _ _ g1 g2
   have ko:∀ y:aw,s.length+[y].length<=bg:=fun y=>cD (by simp only[List.length_cons,List.length_nil];omega)
   simp only[aj,decide_true,cond_true,Int.natCast_nonneg,and_self,if_true,Int.toNat_natCast,List.getElem?_eq_getElem hi,Option.bind_some,yr,ko]
   show (bif decide (cV xs[i]=2) then _ else bif decide (cV xs[i]=1) then _ else _)=_
   unfold qC
   by_cases c2:cV xs[i]=2
   ·simp only[c2,decide_true,cond_true,if_true,List.append_nil]
   ·by_cases c1:cV xs[i]=1
    ·simp only[c1,c2,decide_true,decide_false,cond_true,cond_false,if_true,if_false]
     rfl
    ·simp only[c1,c2,decide_false,cond_false,if_false])
  (fun i hi s s' hI hf=>by
   injection hf with hf
   subst hf
   have:(k9 ps xs[i]).length<=1:=by unfold k9;split <;> simp
   rw[List.length_append];omega) (fun s self _=>by
   show ek.b0 _ _ _ _ _=_
   unfold ek.b0
   simp only[Int.lt_irrefl,decide_false,cond_false]
   rfl) [] (by simp) k (by omega)
 rw[t8 (k9 ps)] at this
 exact this
def GW (x:aw):Option (Int×Int):=some (rk (fU x))
theorem Ec (ps:fP) (hp:∀ p ∈ ps,p.length<=maxLen):bT.ab (ps,())=some (jF ps,()):=by
 refine ag (k:=300) fun k hk=>(bT.aa k _).trans ?_
 unfold bT.p jF
 by_cases hl:12 < ps.length
 ·have:(12:Int) < (ps.length:Int):=by omega
  simp only[this,decide_true,cond_true,hl,if_true]
 have ii:¬ ((12:Int) < (ps.length:Int)):=by omega
 simp only[ii,decide_false,cond_false,hl,if_false,C_ ps (by omega) hp,Option.bind_some]
 by_cases hc:hU oY ps=0
 rotate_left
 ·simp only[hc,decide_false,Bool.not_false,cond_true,if_false]
 have h:nc ps:=⟨by omega,fun p hp=>(yP (o3 hc p hp)).1⟩
 simp only[hc,decide_true,Bool.not_true,cond_false,if_true,vJ ps h,Da ps h,wD ps h,Option.bind_some]
 unfold uf
 by_cases h1:(aQ ps).all (kB ps)=true
 rotate_left
 ·simp only[h1,Bool.false_eq_true,if_false]
  rfl
 by_cases Y:((aQ ps).filterMap oZ).Nodup
 rotate_left
 ·simp only[h1,Y,if_true,if_false]
  rfl
 simp only[h1,Y,if_true,decide_true,Bool.not_true,cond_false]
 have gY:=ug h
 generalize iW ps=xs at gY ⊢
 have inner:∀ (self:(List aw×Int)->Option bT.Out) (e0:Unit->Option bT.Out) (i:Nat) (hi:i < xs.length),bT.r1 k self e0 (ps,()) xs (i:Int) (0:Int)=if (xs.take i).any (fun y=>decide ((fU xs[i]).1=(fU y).1)&&decide ((fU xs[i]).2.1=(fU y).2.1)) then some ((8:Int),()) else self (xs,ae ((i:Int)+1)):=fun self e0 i hi=>by
  have eo:(xs.take i).length=i:=by rw[List.length_take];omega
  have:=bF (B:=fun ca v=>bT.B1 k ca (fun z=>bT.Q0 k self e0 (ps,()) xs (i:Int) z) (ps,()) xs (i:Int) v) (xs.take i) (fun (_:Unit) (j:Int)=>j) (fun _ _ y=>if decide ((fU xs[i]).1=(fU y).1)&&decide ((fU xs[i]).2.1=(fU y).2.1) then .inl (some ((8:Int),())) else .inr ()) (fun _=>self (xs,ae ((i:Int)+1))) (fun _ _=>True) (by rw[ah];omega)
   (fun j hj s ca _=>by
    have f8:j < i:=by omega
    have Ih:j < xs.length:=by omega
    show bT.b1 _ _ _ _ _ _=_
    unfold bT.b1
    have aj:(j:Int) < (i:Int):=by omega
    have Ru:(i:Int) < (xs.length:Int):=by omega
    have m7:(j:Int) < (xs.length:Int):=by omega
    have hg:(xs.take i)[j]=xs[j]:=List.getElem_take
    rw[hg]
    simp only[aj,Ru,m7,decide_true,cond_true,Int.natCast_nonneg,and_self,if_true,Int.toNat_natCast,List.getElem?_eq_getElem hi,List.getElem?_eq_getElem Ih,Option.bind_some]
    show (bif decide ((fU xs[i]).1=(fU xs[j]).1) then bif decide ((fU xs[i]).2.1=(fU xs[j]).2.1) then _ else _ else _)=_
    cases decide ((fU xs[i]).1=(fU xs[j]).1) <;> cases decide ((fU xs[i]).2.1=(fU xs[j]).2.1) <;> rfl)
   (fun _ _ _ _ _ _=>trivial) (fun s ca _=>by
    rw[eo]
    show bT.b1 _ _ _ _ _ _=_
    unfold bT.b1
    simp only[Int.lt_irrefl,decide_false,cond_false]
    rfl) () trivial k (by omega)
  rw[pt] at this
  exact this
 have:=bF (B:=fun self v=>bT.B0 k self (fun z=>bT.Q1 k (ps,()) z) (ps,()) v) xs (fun (_:Unit) (i:Int)=>(xs,i)) (fun i _ x=>if (xs.take i).any (fun y=>decide ((fU x).1=(fU y).1)&&decide ((fU x).2.1=(fU y).2.1)) then .inl (some ((8:Int),())) else .inr ()) (fun _=>some ((0:Int),())) (fun _ _=>True) (by rw[ah];omega)
  (fun i hi s self _=>by
   show bT.b0 _ _ _ _ _=_
   unfold bT.b0
   have aj:(i:Int) < (xs.length:Int):=by omega
   simp only[aj,decide_true,cond_true,inner self _ i hi]
   split <;> rfl)
  (fun _ _ _ _ _ _=>trivial) (fun s self _=>by
   show bT.b0 _ _ _ _ _=_
   unfold bT.b0
   simp only[Int.lt_irrefl,decide_false,cond_false]
   rfl) () trivial k (by omega)
 rw[vG GW (some ((8:Int),())) (fun _=>some ((0:Int),())) (fun x y=>decide ((fU x).1=(fU y).1)&&decide ((fU x).2.1=(fU y).2.1)) (fun x y=>?_) xs] at this
 ·refine Eq.trans this ?_
  have:xs.filterMap GW=xs.map fun x=>rk (fU x):=by
   unfold GW
   rw[<-List.filterMap_eq_map]
   rfl
  rw[this]
  split <;> rfl
 ·unfold GW rk
  simp only[Bool.and_eq_true,decide_eq_true_eq]
  constructor
  ·rintro ⟨h1,Y⟩;exact ⟨_,rfl,by rw[h1,Y]⟩
  ·rintro ⟨b,h1,Y⟩
   injection h1 with h1
   injection Y with Y
   rw[<-Y] at h1
   injection h1 with h3 h4
   exact ⟨h3,h4⟩
end OT
set_option linter.unusedVariables false
set_option linter.unusedSimpArgs false
namespace OT
open Go Go.Sort
abbrev o4:Ty:=.arr 2 i64
theorem sU (a b c d:Int):Ty.eq o4 [a,b] [c,d]=(decide (a=c)&&decide (b=d)):=by
 show ([(a,c),(b,d)]:List (Int×Int)).all (fun p=>Ty.eq i64 p.1 p.2)=_
 simp only[List.all_cons,List.all_nil,Bool.and_true]
 rfl
theorem xp (a b:Int):((List.replicate 2 (0:Int)).set 0 a).set 1 b=[a,b]:=rfl
theorem vL {α:Type} (k:Ty) (m:List (k.den×α)) (x:k.den) (y:α) (h:∀ e ∈ m,k.eq x e.1=false):gG k m x y=m++[(x,y)]:=by
 have:m.findIdx? (fun e=>k.eq x e.1)=none:=by
  rw[List.findIdx?_eq_none_iff]
  exact h
 unfold gG
 rw[this]
def cL (x:aw):List Seen:=if cV x=0 then [(fU x,x.1,x.2.1,false,x.1,x.2.1,())] else []
def bJ (x:aw):List Seen:=if cV x=1 then [(sw,x.1,x.2.1,true,i6 x,i7 x,())] else []
def eH (x:aw):List (List Int×Row):=if cV x=2 then [([x.1,x.2.1],fU x)] else []
theorem uh (d:List UInt8):(cU d).2=true->(cU d).1.1=0/\((cU d).1.2.1=0\/(cU d).1.2.1=1\/(cU d).1.2.1=2):=by
 unfold cU
 split
 ·intro _;exact ⟨rfl,.inr (.inl rfl)⟩
 ·split
  ·intro h;cases h
  ·rename_i h
   intro _
   refine ⟨rfl,?_⟩
   show ((pb d 0:Int)=0\/(pb d 0:Int)=1\/(pb d 0:Int)=2)
   omega
def qK (ps:fP):Prop:=nc ps/\∀ p ∈ ps,∀ s,s < pn p->aN p s≠0->(cU (ep p s)).2=true
theorem Db {ps:fP} (hl:ps.length<=12) (h:hU oY ps=0):qK ps:=
 ⟨⟨hl,fun p hp=>(yP (o3 h p hp)).1⟩,fun p hp=>(yP (o3 h p hp)).2⟩
theorem I4 {ps:fP} (h:qK ps) {x:aw} (hx:x ∈ aQ ps):cV x=0\/cV x=1\/cV x=2:=by
 obtain ⟨P,p,s,h1,Y,h3,rfl⟩:=rI.1 hx
 exact (uh _ (h.2 p (List.mem_of_getElem? h1) s Y h3)).2
theorem yQ (S:List aw):(S.flatMap cL).length<=S.length/\(S.flatMap bJ).length<=S.length:=by
 induction S with
 | nil=>exact ⟨Nat.le_refl _,Nat.le_refl _⟩
 | cons x S ih=>
  have h1:(cL x).length<=1:=by unfold cL;split <;> simp
  have Y:(bJ x).length<=1:=by unfold bJ;split <;> simp
  simp only[List.flatMap_cons,List.length_append,List.length_cons]
  omega
theorem Fc {ps:fP} (h:qK ps) (a b:Int) (ha:0<=a) (hb:0<=b):dr o4 ((aQ ps).flatMap eH) [a,b]=if (iA ps a b).2&&decide ((iA ps a b).1.2.1=2) then some (iA ps a b).1.2.2.2.2.1 else none:=by
 obtain ⟨a,rfl⟩:=Int.eq_ofNat_of_zero_le ha
 obtain ⟨b,rfl⟩:=Int.eq_ofNat_of_zero_le hb
 unfold dr
 have at_:∀ x ∈ aQ ps,x.1=(a:Int)->x.2.1=(b:Int)->iA ps (a:Int) (b:Int)=(x.2.2.1,true):=fun x hx e1 e2=>by
  obtain ⟨P,p,s,h1,Y,h3,rfl⟩:=rI.1 hx
  have e1:(P:Int)=(a:Int):=e1
  have e2:(s:Int)=(b:Int):=e2
  have e1:P=a:=by omega
  have e2:s=b:=by omega
  subst e1;subst e2
  unfold iA
  simp only[Int.toNat_natCast,h1]
  rw[if_pos ⟨Y,h3⟩]
  have:=h.2 p (List.mem_of_getElem? h1) s Y h3
  rw[<-this]
 cases hf:((aQ ps).flatMap eH).find? (fun e=>Ty.eq o4 [(a:Int),(b:Int)] e.1) with
 | some e=>
  have hm:=List.mem_of_find?_eq_some hf
  have hp:=List.find?_some hf
  obtain ⟨x,hx,Ab⟩:=List.mem_flatMap.1 hm
  unfold eH at Ab
  split at Ab
  ·rename_i Y
   rw[List.mem_singleton] at Ab
   subst Ab
   rw[sU,Bool.and_eq_true,decide_eq_true_eq,decide_eq_true_eq] at hp
   have hg:=at_ x hx hp.1.symm hp.2.symm
   rw[hg]
   have:(x.2.2.1).2.1=2:=Y
   simp only[this,decide_true,Bool.and_self,if_true,Option.map_some]
   rfl
  ·cases Ab
 | none=>
  rw[if_neg]
  ·rfl
  ·intro hc
   rw[Bool.and_eq_true,decide_eq_true_eq] at hc
   obtain ⟨c1,c2⟩:=hc
   have:∃ x ∈ aQ ps,x.1=(a:Int)/\x.2.1=(b:Int)/\cV x=2:=by
    unfold iA at c1 c2
    simp only[Int.toNat_natCast] at c1 c2
    cases Ou:ps[a]? with
    | none=>rw[Ou] at c1;cases c1
    | some p=>
     rw[Ou] at c1 c2
     simp only at c1 c2
     by_cases hc:b < pn p/\aN p b≠0
     ·rw[if_pos hc] at c2
      exact ⟨_,rI.2 ⟨a,p,b,Ou,hc.1,hc.2,rfl⟩,rfl,rfl,c2⟩
     ·rw[if_neg hc] at c1;cases c1
   obtain ⟨x,hx,e1,e2,e3⟩:=this
   have hm:([x.1,x.2.1],fU x) ∈ (aQ ps).flatMap eH:=List.mem_flatMap.2 ⟨x,hx,by unfold eH;rw[if_pos e3];exact List.mem_singleton.2 rfl⟩
   have:=List.find?_eq_none.1 hf _ hm
   rw[sU,e1,e2] at this
   simp at this
def o5 (x:aw):Seen:=(fU x,x.1,x.2.1,decide (cV x=1),(if cV x=1 then i6 x else x.1),(if cV x=1 then i7 x else x.2.1),())
def o6 (ps:fP) (y:Seen):Seen:=(qQ (dr o4 ((aQ ps).flatMap eH) [y.2.2.2.2.1,y.2.2.2.2.2.1]) sw,y.2)
def wo (ps:fP):List Seen:=(aQ ps).flatMap cL++((aQ ps).flatMap bJ).map (o6 ps)
theorem GX {ps:fP} (h:qK ps) (hs:(aQ ps).all (kB ps)=true):(wo ps).Perm ((iW ps).map o5):=by
 unfold wo iW
 have ja:=List.all_eq_true.1 hs
 have Aq:∀ x ∈ aQ ps,cV x=0\/cV x=1\/cV x=2:=fun x hx=>I4 h hx
 have vF:∀ x ∈ aQ ps,0<=i6 x/\0<=i7 x:=fun x hx=>pG hx
 have key:∀ S:List aw,(∀ x ∈ S,x ∈ aQ ps)->(S.flatMap cL++(S.flatMap bJ).map (o6 ps)).Perm ((S.flatMap (k9 ps)).map o5):=by
  intro S
  induction S with
  | nil=>intro _;exact List.Perm.refl _
  | cons x S ih=>
   intro hS
   have ih:=ih fun y hy=>hS y (List.mem_cons_of_mem _ hy)
   have hx:=hS x List.mem_cons_self
   simp only[List.flatMap_cons,List.map_append]
   rcases Aq x hx with h0 | h1 | Y
   ·have e1:cL x=[o5 (qC ps x)]:=by
     unfold cL o5 qC
     have n1:¬ cV x=1:=by omega
     rw[if_pos h0,if_neg n1,if_neg n1,if_neg n1,decide_eq_false n1]
    have e2:bJ x=[]:=by unfold bJ;rw[if_neg (by omega)]
    have e3:k9 ps x=[qC ps x]:=by unfold k9;rw[if_neg (by omega)]
    rw[e1,e2,e3]
    simp only[List.map_nil,List.nil_append,List.map_cons,List.cons_append]
    exact List.Perm.cons _ ih
   ·have e1:cL x=[]:=by unfold cL;rw[if_neg (by omega)]
    have e3:k9 ps x=[qC ps x]:=by unfold k9;rw[if_neg (by omega)]
    have e2:(bJ x).map (o6 ps)=[o5 (qC ps x)]:=by
     unfold bJ
     rw[if_pos h1]
     simp only[List.map_cons,List.map_nil]
     obtain ⟨g1,g2⟩:=vF x hx
     have bc:=ja x hx
     unfold kB at bc
     rw[decide_eq_true h1] at bc
     simp only[Bool.not_true,Bool.false_or] at bc
     have hg:=Fc h (i6 x) (i7 x) g1 g2
     rw[if_pos bc] at hg
     unfold o6
     simp only[hg,qQ]
     unfold qC
     rw[if_pos h1]
     have Kz:cV (E_ x (iA ps (i6 x) (i7 x)).1.2.2.2.2.1)=1:=h1
     unfold o5
     rw[if_pos Kz,if_pos Kz,decide_eq_true Kz]
     rfl
    rw[e1,e2,e3]
    simp only[List.nil_append,List.map_cons,List.map_nil,List.cons_append]
    exact (List.perm_middle).trans (List.Perm.cons _ ih)
   ·have e1:cL x=[]:=by unfold cL;rw[if_neg (by omega)]
    have e2:bJ x=[]:=by unfold bJ;rw[if_neg (by omega)]
    have e3:k9 ps x=[]:=by unfold k9;rw[if_pos Y]
    rw[e1,e2,e3]
    simpa using ih
 exact key (aQ ps) fun x hx=>hx
def qk (x y:Seen):Bool:=bN (rk x.1) (rk y.1)
def Fe (x y:Seen):Int:=if bN (x.1.1,x.1.2.1) (y.1.1,y.1.2.1) then -1 else if bN (y.1.1,y.1.2.1) (x.1.1,x.1.2.1) then 1 else 0
theorem I5:Go.Proofs.ltOf Fe=qk:=by
 funext x y
 exact IS x.1 y.1
theorem KA (x y:Seen):ij.ab (x,y,())=some (Fe x y,()):=by
 refine ag (k:=0) fun k hk=>(ij.aa k _).trans ?_
 show ij.p _=_
 unfold ij.p
 rw[tX]
 rfl
theorem Rv:SWO qk where
 irrefl x:=m9 _
 trans x y z h1 Y:=k8 h1 Y
 ntrans x y z h1 Y:=by
  cases h3:qk x z with
  | false=>rfl
  | true=>
   unfold qk at h1 Y h3
   cases h4:bN (rk y.1) (rk x.1) with
   | true=>
    have:=k8 h4 h3
    rw[this] at Y;cases Y
   | false=>
    have:=pu h1 h4
    rw[this] at h3
    rw[h3] at Y;cases Y
def vM (xs:List Seen) (x:Seen):List Seen:=xs.take (pos (xs.map (·.1)) (rk x.1))++[x]++xs.drop (pos (xs.map (·.1)) (rk x.1))
def ui (l:List Seen):List Seen:=l.foldl vM []
theorem KB (xs:List Seen) (x:Seen):(vM xs x).map (·.1)=jL (xs.map (·.1)) x.1:=by
 unfold vM jL
 simp only[List.map_append,List.map_take,List.map_drop,List.map_cons,List.map_nil]
theorem I6 (xs:List Seen) (x:Seen):(vM xs x).Perm (x::xs):=by
 unfold vM
 rw[List.append_assoc]
 have:=List.perm_middle (a:=x) (l₁:=xs.take (pos (xs.map (·.1)) (rk x.1))) (l₂:=xs.drop (pos (xs.map (·.1)) (rk x.1)))
 rw[List.take_append_drop] at this
 exact this
theorem Ar (l:List Seen):(ui l).map (·.1)=yN (l.map (·.1)):=by
 have main:∀ (l acc:List Seen),(l.foldl vM acc).map (·.1)=(l.map (·.1)).foldl jL (acc.map (·.1)):=by
  intro l
  induction l with
  | nil=>intro acc;rfl
  | cons x l ih=>intro acc;simp only[List.foldl_cons,List.map_cons,ih,KB]
 exact main l []
theorem yR (l:List Seen):(ui l).Perm l:=by
 have main:∀ (l acc:List Seen),(l.foldl vM acc).Perm (l++acc):=by
  intro l
  induction l with
  | nil=>intro acc;exact List.Perm.refl _
  | cons x l ih=>
   intro acc
   exact (ih (vM acc x)).trans (((List.Perm.refl l).append (I6 acc x)).trans List.perm_middle)
 have:=main l []
 rw[List.append_nil] at this
 exact this
def As (xs:List Seen):Prop:=xs.Pairwise fun x y=>qk x y=true
theorem Ff {xs:List Seen}:As xs↔up (xs.map (·.1)):=by
 unfold As up
 rw[List.pairwise_map]
 rfl
theorem Dc {l r:List Seen} (hp:r.Perm l) (hr:As r) (hn:(l.map fun x=>rk x.1).Nodup):r=ui l:=by
 refine uI (lt:=fun x y=>qk x y=true) (fun a b h=>Kx h) r (ui l) (hp.trans (yR l).symm) hr (Ff.2 ?_)
 rw[Ar]
 refine Kw ?_
 rw[List.map_map]
 exact hn
theorem I7 {r:List Seen} (h:As r):(r.map fun x=>rk x.1).Nodup:=by
 have:=Ky (Ff.1 h)
 rw[List.map_map] at this
 exact this
def sy:List Seen->Bool
 | x::y::l=>qk x y&&sy (y::l)
 | _=>true
theorem I8:∀ (l:List Seen),sy l=true->As l
 | [],_=>List.Pairwise.nil
 | [x],_=>List.pairwise_singleton _ _
 | x::y::l,h=>by
  simp only[sy,Bool.and_eq_true] at h
  have ih:=I8 (y::l) h.2
  refine List.pairwise_cons.2 ⟨fun z hz=>?_,ih⟩
  rcases List.mem_cons.1 hz with rfl | hz
  ·exact h.1
  ·exact k8 h.1 ((List.pairwise_cons.1 ih).1 z hz)
theorem Fg:∀ (l:List Seen),As l->sy l=true
 | [],_=>rfl
 | [x],_=>rfl
 | x::y::l,h=>by
  obtain ⟨h1,Y⟩:=List.pairwise_cons.1 h
  simp only[sy,Bool.and_eq_true]
  exact ⟨h1 y List.mem_cons_self,Fg (y::l) Y⟩
theorem I9 {r:List Seen} (h:r.Pairwise fun x y=>qk y x=false) (hn:(r.map fun x=>rk x.1).Nodup):As r:=by
 unfold As
 have Y:r.Pairwise fun x y=>rk x.1≠rk y.1:=by
  unfold List.Nodup at hn
  rw[List.pairwise_map] at hn
  exact hn
 refine (h.and Y).imp fun {x y} ⟨g1,g2⟩=>?_
 cases h3:qk x y with
 | true=>rfl
 | false=>exact absurd (pu h3 g1) g2
end OT
set_option linter.unusedVariables false
set_option linter.unusedSimpArgs false
namespace OT
open Go Go.Sort
theorem KC (z:List Seen) (hl:z.length<=1000):∃ r:List Seen,(∀ f:Nat×Int,iv.ab (z,f,())=some (r,()))/\r.Perm z/\r.Pairwise fun x y=>qk y x=false:=by
 have hs:SWO (Go.Proofs.ltOf Fe):=by rw[I5];exact Rv
 have h1:=CE (e:=cP) (cs:=ij.ab) (cf:=Fe) (fun x y=>KA x y) hs z (cD (Nat.le_trans hl (by omega)))
 have Y:=CF (α:=cP.den) (lt:=Go.Proofs.ltOf Fe) hs z
 refine ⟨_,fun f=>?_,Y.1,?_⟩
 ·show (pB cP ij.ab z).map (fun r=>(r,()))=_
  rw[h1]
  rfl
 ·exact Y.2.imp fun {x y} (h:Go.Proofs.ltOf (α:=Seen) Fe y x=false)=>by rw[I5] at h;exact h
theorem Dd {O:Type} (r:List Seen) (bad e:O):∀ (l pre:List Seen) (x:Seen),r=pre++x::l->aV (fun i (_:Unit) y=>if (match r[i]? with | some z=>qk z y | none=>true) then .inr () else .inl bad) (fun _=>e) pre.length l ()=if sy (x::l) then e else bad
 | [],pre,x,_=>by simp[aV,sy]
 | y::l,pre,x,h=>by
  have hx:r[pre.length]?=some x:=by rw[h,List.getElem?_append_right (Nat.le_refl _)];simp
  simp only[aV,hx,sy]
  by_cases hc:qk x y=true
  rotate_left
  ·have oF:qk x y=false:=by simpa using hc
   simp only[oF,Bool.false_eq_true,if_false,Bool.false_and]
  ·simp only[hc,if_true,Bool.true_and]
   have:=Dd r bad e l (pre++[x]) y (by rw[h];simp)
   rw[List.length_append] at this
   exact this
theorem KD (ps:fP) (k:Nat) (hk:300<=k) (r:List Seen) (hl:r.length<=192):ak (fun self v=>aH.B4 k self (fun z=>aH.Q4 k (ps,()) r z) (ps,()) r v) k 1=if sy r then some (r,(0:Int),()) else some (([]:List Seen),(8:Int),()):=by
 have:=bF (B:=fun self v=>aH.B4 k self (fun z=>aH.Q4 k (ps,()) r z) (ps,()) r v) (r.drop 1) (fun (_:Unit) (i:Int)=>i+1) (fun i _ y=>if (match r[i]? with | some z=>qk z y | none=>true) then .inr () else .inl (some (([]:List Seen),(8:Int),()))) (fun _=>some (r,(0:Int),())) (fun _ _=>True) (by rw[ah,List.length_drop];omega)
  (fun i hi s self _=>by
   rw[List.length_drop] at hi
   show aH.b4 _ _ _ _ _=_
   unfold aH.b4
   have aj:(i:Int)+1 < (r.length:Int):=by omega
   have m7:(i:Int) < (r.length:Int):=by omega
   have vF:(0:Int)<=(i:Int)+1:=by omega
   have pP:ae ((i:Int)+1 - 1)=(i:Int):=by rw[aJ (by omega)];omega
   have oO:ae ((i:Int)+1+1)=ae ((i:Int)+1)+1:=by rw[aJ (by omega),aJ (by omega)]
   have Oo:((i:Int)+1).toNat=i+1:=by omega
   have hg:(r.drop 1)[i]'(by rw[List.length_drop];omega)=r[i+1]'(by omega):=by rw[List.getElem_drop];congr 1;omega
   rw[hg]
   simp only[aj,m7,vF,pP,oO,Oo,decide_true,cond_true,Int.natCast_nonneg,and_self,if_true,Int.toNat_natCast,List.getElem?_eq_getElem (show i < r.length by omega),List.getElem?_eq_getElem (show i+1 < r.length by omega),Option.bind_some,sv]
   show (bif !qk r[i] (r[i+1]'(by omega)) then _ else _)=_
   cases qk r[i] (r[i+1]'(by omega)) <;> rfl)
  (fun _ _ _ _ _ _=>trivial) (fun s self _=>by
   rw[List.length_drop]
   show aH.b4 _ _ _ _ _=_
   unfold aH.b4
   have aj:¬ (((r.length - 1:Nat):Int)+1 < (r.length:Int)):=by omega
   simp only[aj,decide_false,cond_false]
   rfl) () trivial k (by rw[List.length_drop];omega)
 refine Eq.trans this ?_
 cases r with
 | nil=>rfl
 | cons x l=>
  exact Dd (x::l) _ _ l [] x rfl
def se (ps:fP):List Seen:=if jF ps=0 then ui ((iW ps).map o5) else []
def LS (ps:fP):List Seen:=if uf ps=0 then ui ((iW ps).map o5) else []
def Bf (y:Seen):Option (Int×Int):=some (y.2.2.2.2.1,y.2.2.2.2.2.1)
def sf (y:Seen):List Int×Bool:=([y.2.2.2.2.1,y.2.2.2.2.2.1],true)
theorem De (T:List Seen) (a b:Int):qQ (dr o4 (T.map sf) [a,b]) false=T.any fun y=>decide (a=y.2.2.2.2.1)&&decide (b=y.2.2.2.2.2.1):=by
 induction T with
 | nil=>rfl
 | cons y T ih=>
  have hk:Ty.eq o4 [a,b] (sf y).1=(decide (a=y.2.2.2.2.1)&&decide (b=y.2.2.2.2.2.1)):=sU _ _ _ _
  unfold dr at ih ⊢
  rw[List.map_cons,List.find?_cons,List.any_cons,hk]
  cases (decide (a=y.2.2.2.2.1)&&decide (b=y.2.2.2.2.2.1)) with
  | true=>rfl
  | false=>simpa using ih
theorem KE (S:List aw):(S.flatMap bJ).filterMap Bf=S.filterMap oZ:=by
 induction S with
 | nil=>rfl
 | cons x S ih=>
  rw[List.flatMap_cons,List.filterMap_append,ih]
  unfold bJ
  by_cases h:cV x=1
  ·rw[if_pos h]
   have:oZ x=some (i6 x,i7 x):=by unfold oZ;rw[if_pos h]
   simp[List.filterMap_cons,this,Bf]
  ·rw[if_neg h]
   have:oZ x=none:=by unfold oZ;rw[if_neg h]
   simp[List.filterMap_cons,this]
theorem Ed (ps:fP) (h:qK ps):aH.ab (ps,())=some (LS ps,uf ps,()):=by
 obtain ⟨hl,hp⟩:=h.1
 have gY:=sd h.1
 refine ag (k:=300) fun k hk=>(aH.aa k _).trans ?_
 have inner:∀ (self:(List Seen×List Seen×List (List Int×Row)×fP×Int×Int)->Option aH.Out) (e0:(List Seen×List Seen×List (List Int×Row))->Option aH.Out) (i:Nat) (hi:i < ps.length) (S:List aw),S.length<=16*i->(∀ x ∈ S,x.1 < (i:Int)) ->
   aH.r1 k self e0 (ps,()) (i:Int) ps[i] ps (ps.length:Int) (pn ps[i]:Int) (S.flatMap cL,S.flatMap bJ,S.flatMap eH,(0:Int))=self ((S++mu i ps[i]).flatMap cL,(S++mu i ps[i]).flatMap bJ,(S++mu i ps[i]).flatMap eH,ps,(ps.length:Int),ae ((i:Int)+1)):=fun self e0 i hi S0 Uh gO=>by
  have az:=hp _ (List.getElem_mem hi)
  have hn:=az.n
  have hlen:=az.len
  have lq:=h.2 _ (List.getElem_mem hi)
  have:=qB (B:=fun ca v=>aH.B1 k ca (fun z=>aH.Q0 k self e0 (ps,()) (i:Int) ps[i] ps (ps.length:Int) (pn ps[i]:Int) z) (ps,()) (i:Int) ps[i] ps (ps.length:Int) (pn ps[i]:Int) v) (pn ps[i]) (fun (S:List aw) (j:Int)=>(S.flatMap cL,S.flatMap bJ,S.flatMap eH,j)) (fun j S=>.inr (S++kE i ps[i] j)) (fun S=>self (S.flatMap cL,S.flatMap bJ,S.flatMap eH,ps,(ps.length:Int),ae ((i:Int)+1))) (fun j S=>S.length<=16*i+j/\∀ x ∈ S,x.1 < (i:Int)\/(x.1=(i:Int)/\x.2.1 < (j:Int))) (by omega)
   (fun j hj S ca ⟨LT,Df⟩=>by
    show aH.b1 _ _ _ _ _ _ _ _ _=_
    unfold aH.b1 kE
    have aj:(j:Int) < (pn ps[i]:Int):=by omega
    simp only[aj,decide_true,cond_true,yJ az,hj,Bool.true_and,Option.bind_some]
    by_cases hz:aN ps[i] j=0
    ·simp only[hz,decide_true,Bool.not_true,Bool.not_false,cond_true,if_true,List.append_nil]
    ·have vp:=lq j hj hz
     obtain ⟨f1,f2⟩:=uh _ vp
     obtain ⟨l1,l2⟩:=yQ S
     have ko:∀ (T:List Seen) (y:Seen),T.length<=S.length->T.length+[y].length<=bg:=fun T y hT=>cD (by simp only[List.length_cons,List.length_nil];omega)
     simp only[hz,decide_false,Bool.not_false,Bool.not_true,cond_false,uG az hj,uF _ (Nat.le_trans (nH az hj) (by omega)),vp,if_true,if_false,Option.bind_some,f1,decide_true,ko _ _ l1,ko _ _ l2,xp]
     obtain ⟨x,hx⟩:∃ x:aw,x=((i:Int),(j:Int),(cU (ep ps[i] j)).1,()):=⟨_,rfl⟩
     have Ov:cV x=(cU (ep ps[i] j)).1.2.1:=by rw[hx];rfl
     rw[<-hx]
     simp only[List.flatMap_append,List.flatMap_cons,List.flatMap_nil,List.append_nil]
     rcases f2 with g | g | g
     ·have e1:cL x=[((cU (ep ps[i] j)).1.2.2.2.2.1,(i:Int),(j:Int),false,(i:Int),(j:Int),())]:=by unfold cL;rw[if_pos (Ov.trans g),hx];rfl
      have e2:bJ x=[]:=by unfold bJ;rw[if_neg (by omega)]
      have e3:eH x=[]:=by unfold eH;rw[if_neg (by omega)]
      rw[e1,e2,e3]
      simp only[g,decide_true,cond_true,List.append_nil,List.length_cons,List.length_nil,Nat.zero_lt_succ,List.length_replicate,List.length_set,if_true]
     ·have e1:cL x=[]:=by unfold cL;rw[if_neg (by omega)]
      have e2:bJ x=[(sw,(i:Int),(j:Int),true,(cU (ep ps[i] j)).1.2.2.1,(cU (ep ps[i] j)).1.2.2.2.1,())]:=by unfold bJ;rw[if_pos (Ov.trans g),hx];rfl
      have e3:eH x=[]:=by unfold eH;rw[if_neg (by omega)]
      rw[e1,e2,e3]
      have n1:¬ ((1:Int)=0):=by decide
      have n2:¬ ((1:Int)=2):=by decide
      simp only[g,n1,n2,decide_false,cond_false,List.append_nil,List.length_cons,List.length_nil,Nat.zero_lt_succ,List.length_replicate,List.length_set,if_true]
     ·have e1:cL x=[]:=by unfold cL;rw[if_neg (by omega)]
      have e2:bJ x=[]:=by unfold bJ;rw[if_neg (by omega)]
      have e3:eH x=[([(i:Int),(j:Int)],(cU (ep ps[i] j)).1.2.2.2.2.1)]:=by unfold eH;rw[if_pos (Ov.trans g),hx];rfl
      rw[e1,e2,e3]
      have n1:¬ ((2:Int)=0):=by decide
      have nT:gG o4 (S.flatMap eH) [(i:Int),(j:Int)] (cU (ep ps[i] j)).1.2.2.2.2.1=S.flatMap eH++[([(i:Int),(j:Int)],(cU (ep ps[i] j)).1.2.2.2.2.1)]:=vL o4 _ _ _ fun e he=>by
       obtain ⟨y,hy,I_⟩:=List.mem_flatMap.1 he
       unfold eH at I_
       split at I_
       ·rw[List.mem_singleton] at I_
        subst I_
        rw[sU]
        rcases Df y hy with c | ⟨c,d⟩
        ·rw[decide_eq_false (show ¬ (i:Int)=y.1 by omega)];rfl
        ·rw[decide_eq_false (show ¬ (j:Int)=y.2.1 by omega),Bool.and_false]
       ·cases I_
      simp only[g,n1,decide_false,decide_true,cond_false,cond_true,nT,List.append_nil,List.length_cons,List.length_nil,Nat.zero_lt_succ,List.length_replicate,List.length_set,if_true]
      rfl)
   (fun j hj S S' ⟨LT,Df⟩ hf=>by
    injection hf with hf
    subst hf
    have:(kE i ps[i] j).length<=1:=by unfold kE;split <;> simp
    refine ⟨by rw[List.length_append];omega,fun x hx=>?_⟩
    rcases List.mem_append.1 hx with hx | hx
    ·rcases Df x hx with c | ⟨c,d⟩
     ·exact .inl c
     ·exact .inr ⟨c,by omega⟩
    ·unfold kE at hx
     split at hx
     ·cases hx
     ·rw[List.mem_singleton] at hx
      subst hx
      exact .inr ⟨rfl,by show (j:Int) < ((j+1:Nat):Int);omega⟩) (fun S ca hI=>by
    show aH.b1 _ _ _ _ _ _ _ _ _=_
    unfold aH.b1
    simp only[Int.lt_irrefl,decide_false,cond_false]
    rfl) S0 ⟨by omega,fun x hx=>.inl (gO x hx)⟩ k (by omega)
  rw[t8 (kE i ps[i])] at this
  exact this
 have outer:aH.r0 k (ps,()) (([]:List Seen),([]:List Seen),([]:List (List Int×Row)),ps,(ps.length:Int),(0:Int))=aH.Q1 k (ps,()) ((aQ ps).flatMap cL,(aQ ps).flatMap bJ,(aQ ps).flatMap eH):=by
  have:=bF (B:=fun self v=>aH.B0 k self (fun z=>aH.Q1 k (ps,()) z) (ps,()) v) ps (fun (S:List aw) (i:Int)=>(S.flatMap cL,S.flatMap bJ,S.flatMap eH,ps,(ps.length:Int),i)) (fun i S p=>.inr (S++mu i p)) (fun S=>aH.Q1 k (ps,()) (S.flatMap cL,S.flatMap bJ,S.flatMap eH)) (fun i S=>S.length<=16*i/\∀ x ∈ S,x.1 < (i:Int)) (by rw[ah];omega)
   (fun i hi S self ⟨LT,Df⟩=>by
    show aH.b0 _ _ _ _ _=_
    unfold aH.b0
    have aj:(i:Int) < (ps.length:Int):=by omega
    have hlen:=(hp _ (List.getElem_mem hi)).len
    simp only[aj,decide_true,cond_true,Int.natCast_nonneg,if_true,Int.toNat_natCast,List.getElem?_eq_getElem hi,Option.bind_some,sa hlen,inner self _ i hi S LT Df])
   (fun i hi S S' ⟨LT,Df⟩ hf=>by
    injection hf with hf
    subst hf
    have:=sx (hp _ (List.getElem_mem hi)) i
    refine ⟨by rw[List.length_append];omega,fun x hx=>?_⟩
    rcases List.mem_append.1 hx with hx | hx
    ·have:=Df x hx;omega
    ·obtain ⟨s,_,hs⟩:=List.mem_flatMap.1 hx
     unfold kE at hs
     split at hs
     ·cases hs
     ·rw[List.mem_singleton] at hs
      subst hs
      show (i:Int) < ((i+1:Nat):Int)
      omega) (fun S self hI=>by
    show aH.b0 _ _ _ _ _=_
    unfold aH.b0
    simp only[Int.lt_irrefl,decide_false,cond_false]) [] ⟨by simp,fun x hx=>by cases hx⟩ k (by omega)
  rw[vI] at this
  exact this
 show aH.r0 k (ps,()) (([]:List Seen),([]:List Seen),([]:List (List Int×Row)),ps,(ps.length:Int),(0:Int))=_
 rw[outer]
 show aH.q1 _ _ _=_
 unfold aH.q1
 obtain ⟨Ui,Uj⟩:=yQ (aQ ps)
 have hT:∀ y ∈ (aQ ps).flatMap bJ,∃ x ∈ aQ ps,cV x=1/\y=(sw,x.1,x.2.1,true,i6 x,i7 x,()):=fun y hy=>by
  obtain ⟨x,hx,qg⟩:=List.mem_flatMap.1 hy
  unfold bJ at qg
  split at qg
  ·rename_i hf
   exact ⟨x,hx,hf,List.mem_singleton.1 qg⟩
  ·cases qg
 have Tu:aH.r2 k (ps,()) ((aQ ps).flatMap cL) ((aQ ps).flatMap bJ) ((aQ ps).flatMap eH) (((aQ ps).flatMap bJ).length:Int) (0:Int)=if (aQ ps).all (kB ps) then aH.Q2 k (ps,()) ((aQ ps).flatMap cL) ((aQ ps).flatMap bJ) ((aQ ps).flatMap eH) (((aQ ps).flatMap bJ).length:Int) () else some (([]:List Seen),(4:Int),()):=by
  obtain ⟨T,Au⟩:∃ T,T=(aQ ps).flatMap bJ:=⟨_,rfl⟩
  obtain ⟨M,hM⟩:∃ M,M=(aQ ps).flatMap eH:=⟨_,rfl⟩
  rw[<-Au,<- hM]
  have Tv:T.length<=192:=by rw[Au];omega
  have:=bF (B:=fun self v=>aH.B2 k self (fun z=>aH.Q2 k (ps,()) ((aQ ps).flatMap cL) T M (T.length:Int) z) (ps,()) ((aQ ps).flatMap cL) T M (T.length:Int) v) T (fun (_:Unit) (i:Int)=>i) (fun i _ y=>if (dr o4 M [y.2.2.2.2.1,y.2.2.2.2.2.1]).isSome then .inr () else .inl (some (([]:List Seen),(4:Int),()))) (fun _=>aH.Q2 k (ps,()) ((aQ ps).flatMap cL) T M (T.length:Int) ()) (fun _ _=>True) (by rw[ah];omega)
   (fun i hi s self _=>by
    show aH.b2 _ _ _ _ _ _ _ _=_
    unfold aH.b2
    have aj:(i:Int) < (T.length:Int):=by omega
    simp only[aj,decide_true,cond_true,Int.natCast_nonneg,and_self,if_true,Int.toNat_natCast,List.getElem?_eq_getElem hi,Option.bind_some,xp,List.length_replicate,List.length_set,show (0:Nat) < 2 by omega,show (1:Nat) < 2 by omega]
    cases (dr o4 M [(T[i]).2.2.2.2.1,(T[i]).2.2.2.2.2.1]).isSome <;> rfl)
   (fun _ _ _ _ _ _=>trivial) (fun s self _=>by
    show aH.b2 _ _ _ _ _ _ _ _=_
    unfold aH.b2
    simp only[Int.lt_irrefl,decide_false,cond_false]) () trivial k (by omega)
  rw[kO (fun y:Seen=>(dr o4 M [y.2.2.2.2.1,y.2.2.2.2.2.1]).isSome) (some (([]:List Seen),(4:Int),())) (fun _=>aH.Q2 k (ps,()) ((aQ ps).flatMap cL) T M (T.length:Int) ())] at this
  refine Eq.trans this ?_
  have hb:T.all (fun y:Seen=>(dr o4 M [y.2.2.2.2.1,y.2.2.2.2.2.1]).isSome)=(aQ ps).all (kB ps):=by
   have gS:∀ x ∈ aQ ps,cV x=1->(dr o4 M [i6 x,i7 x]).isSome=kB ps x:=fun x hx hf=>by
    obtain ⟨g1,g2⟩:=pG hx
    rw[hM,Fc h _ _ g1 g2]
    unfold kB
    rw[decide_eq_true hf]
    cases ((iA ps (i6 x) (i7 x)).2&&decide ((iA ps (i6 x) (i7 x)).1.2.1=2)) <;> rfl
   rw[Bool.eq_iff_iff,List.all_eq_true,List.all_eq_true]
   constructor
   ·intro ja x hx
    by_cases hf:cV x=1
    ·rw[<-gS x hx hf]
     have hy:(sw,x.1,x.2.1,true,i6 x,i7 x,()) ∈ T:=by
      rw[Au]
      exact List.mem_flatMap.2 ⟨x,hx,by unfold bJ;rw[if_pos hf];exact List.mem_singleton.2 rfl⟩
     exact ja _ hy
    ·unfold kB;rw[decide_eq_false hf];rfl
   ·intro ja y hy
    obtain ⟨x,hx,hf,e⟩:=hT y (Au ▸ hy)
    subst e
    exact (gS x hx hf).trans (ja x hx)
  rw[hb]
 rw[Tu]
 unfold LS uf
 by_cases bc:(aQ ps).all (kB ps)=true
 rotate_left
 ·simp only[bc,Bool.false_eq_true,if_false]
  rfl
 simp only[bc,if_true]
 show aH.q2 _ _ _ _ _ _ _=_
 unfold aH.q2
 have Tw:aH.r3 k (ps,()) ((aQ ps).flatMap cL) ((aQ ps).flatMap bJ) ((aQ ps).flatMap eH) (((aQ ps).flatMap bJ).length:Int) ((aQ ps).flatMap bJ) ((aQ ps).flatMap eH) (((aQ ps).flatMap bJ).length:Int) ((aQ ps).flatMap cL,([]:List (List Int×Bool)),(0:Int))=if ((aQ ps).filterMap oZ).Nodup then aH.Q3 k (ps,()) ((aQ ps).flatMap bJ) ((aQ ps).flatMap eH) (((aQ ps).flatMap bJ).length:Int) (wo ps) else some (([]:List Seen),(6:Int),()):=by
  have LU:=KE (aQ ps)
  unfold wo
  obtain ⟨T,Au⟩:∃ T,T=(aQ ps).flatMap bJ:=⟨_,rfl⟩
  obtain ⟨M,hM⟩:∃ M,M=(aQ ps).flatMap eH:=⟨_,rfl⟩
  obtain ⟨L,hL⟩:∃ L,L=(aQ ps).flatMap cL:=⟨_,rfl⟩
  have Pw:∀ y:Seen,o6 ps y=(qQ (dr o4 M [y.2.2.2.2.1,y.2.2.2.2.2.1]) sw,y.2):=fun y=>by unfold o6;rw[hM]
  rw[<-Au,<- hM,<- hL]
  rw[<-Au] at LU
  have Tv:T.length<=192:=by rw[Au];omega
  have Uk:L.length<=192:=by rw[hL];omega
  have:=bF (B:=fun self v=>aH.B3 k self (fun z=>aH.Q3 k (ps,()) T M (T.length:Int) z) (ps,()) T M (T.length:Int) v) T (fun (_:Unit) (i:Int)=>(L++(T.take i.toNat).map (o6 ps),(T.take i.toNat).map sf,i)) (fun i _ y=>if (T.take i).any (fun z=>decide (y.2.2.2.2.1=z.2.2.2.2.1)&&decide (y.2.2.2.2.2.1=z.2.2.2.2.2.1)) then .inl (some (([]:List Seen),(6:Int),())) else .inr ()) (fun _=>aH.Q3 k (ps,()) T M (T.length:Int) (L++T.map (o6 ps))) (fun _ _=>True) (by rw[ah];omega)
   (fun i hi s self _=>by
    show aH.b3 _ _ _ _ _ _ _=_
    unfold aH.b3
    have aj:(i:Int) < (T.length:Int):=by omega
    have ko:∀ y:Seen,(L++(T.take i).map (o6 ps)).length+[y].length<=bg:=fun y=>cD (by simp only[List.length_append,List.length_map,List.length_take,List.length_cons,List.length_nil];omega)
    have hw:(ae ((i:Int)+1)).toNat=i+1:=by rw[aJ (by omega)];omega
    have gz:T.take (i+1)=T.take i++[T[i]]:=List.take_succ_eq_append_getElem hi
    simp only[aj,decide_true,cond_true,Int.natCast_nonneg,and_self,if_true,Int.toNat_natCast,List.getElem?_eq_getElem hi,Option.bind_some,xp,List.length_replicate,List.length_set,show (0:Nat) < 2 by omega,show (1:Nat) < 2 by omega,De,ko,hw,gz,List.map_append,List.map_cons,List.map_nil]
    have Tz:=De (T.take i) (T[i]).2.2.2.2.1 (T[i]).2.2.2.2.2.1
    refine Eq.trans (congrArg (fun b:Bool=>bif b then (some (([]:List Seen),(6:Int),()):Option aH.Out) else self (L++(T.take i).map (o6 ps)++[(qQ (dr o4 M [(T[i]).2.2.2.2.1,(T[i]).2.2.2.2.2.1]) ((0:Int),(0:Int),(0:Int),([]:List UInt8),()),(T[i]).2)],gG o4 ((T.take i).map sf) [(T[i]).2.2.2.2.1,(T[i]).2.2.2.2.2.1] true,ae ((i:Int)+1))) Tz) ?_
    cases hc:(T.take i).any (fun z=>decide ((T[i]).2.2.2.2.1=z.2.2.2.2.1)&&decide ((T[i]).2.2.2.2.2.1=z.2.2.2.2.2.1)) with
    | true=>rfl
    | false=>
     simp only[cond_false,Bool.false_eq_true,if_false]
     have nT:gG o4 ((T.take i).map sf) [(T[i]).2.2.2.2.1,(T[i]).2.2.2.2.2.1] true=(T.take i).map sf++[sf T[i]]:=vL o4 _ _ _ fun e he=>by
      obtain ⟨z,hz,rfl⟩:=List.mem_map.1 he
      have h1:=List.any_eq_false.1 hc z hz
      have:Ty.eq o4 [(T[i]).2.2.2.2.1,(T[i]).2.2.2.2.2.1] (sf z).1=_:=sU _ _ _ _
      rw[this]
      simpa using h1
     rw[nT,Pw,List.append_assoc])
   (fun _ _ _ _ _ _=>trivial) (fun s self _=>by
    show aH.b3 _ _ _ _ _ _ _=_
    unfold aH.b3
    simp only[Int.lt_irrefl,decide_false,cond_false,Int.toNat_natCast,List.take_length]) () trivial k (by omega)
  rw[vG Bf (some (([]:List Seen),(6:Int),())) (fun _=>aH.Q3 k (ps,()) T M (T.length:Int) (L++T.map (o6 ps))) (fun y z=>decide (y.2.2.2.2.1=z.2.2.2.2.1)&&decide (y.2.2.2.2.2.1=z.2.2.2.2.2.1)) (fun y z=>?_) T,LU] at this
  ·simp only[Int.toNat_zero,List.take_zero,List.map_nil,List.append_nil] at this
   exact this
  ·unfold Bf
   simp only[Bool.and_eq_true,decide_eq_true_eq]
   constructor
   ·rintro ⟨h1,Y⟩;exact ⟨_,rfl,by rw[h1,Y]⟩
   ·rintro ⟨b,h1,Y⟩
    injection h1 with h1
    injection Y with Y
    rw[<-Y] at h1
    injection h1 with h3 h4
    exact ⟨h3,h4⟩
 rw[Tw]
 by_cases gz:((aQ ps).filterMap oZ).Nodup
 rotate_left
 ·simp only[gz,if_false]
  rfl
 simp only[gz,if_true]
 show aH.q3 _ _ _ _ _ _=_
 unfold aH.q3
 have LV:=GX h bc
 have u9:(wo ps).length<=192:=by
  have:=LV.length_eq
  rw[List.length_map] at this
  have:=ug h.1
  omega
 obtain ⟨r,mM,nC,KX⟩:=KC (wo ps) (by omega)
 rw[mM]
 simp only[Option.bind_some]
 have ol:r.length<=192:=by have:=nC.length_eq;omega
 have LB:=nC.trans LV
 have QC:(r.map fun x=>rk x.1).Nodup↔((iW ps).map fun x=>rk (fU x)).Nodup:=by
  have h1:(r.map fun x=>rk x.1).Perm (((iW ps).map o5).map fun x=>rk x.1):=LB.map _
  rw[h1.nodup_iff,List.map_map]
  exact Iff.rfl
 refine (KD ps k hk r ol).trans ?_
 by_cases lM:((iW ps).map fun x=>rk (fU x)).Nodup
 ·have QD:=I9 KX (QC.2 lM)
  have kN:=Dc LB QD (by rw[List.map_map];exact lM)
  simp only[lM,if_true,Fg r QD]
  rw[kN]
 ·have:¬ sy r=true:=fun ha=>lM (QC.1 (I7 (I8 r ha)))
  simp only[lM,this,if_false]
  rfl
theorem wE (ps:fP) (hp:∀ p ∈ ps,p.length<=maxLen):bM.ab (ps,())=some (se ps,jF ps,()):=by
 refine ag (k:=300) fun k hk=>(bM.aa k _).trans ?_
 unfold bM.p se jF
 by_cases hl:12 < ps.length
 ·have:(12:Int) < (ps.length:Int):=by omega
  simp only[this,decide_true,cond_true,hl,if_true]
  rfl
 have ii:¬ ((12:Int) < (ps.length:Int)):=by omega
 simp only[ii,decide_false,cond_false,hl,if_false]
 have inner:∀ (self:(fP×fP×Int×Int)->Option bM.Out) (e0:fP->Option bM.Out) (i:Nat) (hi:i < ps.length),kZ ps[i]->bM.r1 k self e0 (ps,()) ps ps[i] ps (ps.length:Int) (i:Int) (pn ps[i]:Int) (0:Int)=if (List.range (pn ps[i])).all (nI ps[i]) then self (ps,ps,(ps.length:Int),ae ((i:Int)+1)) else some (([]:List Seen),(5:Int),()):=fun self e0 i hi az=>by
  have hn:=az.n
  have hlen:=az.len
  have:=qB (B:=fun ca v=>bM.B1 k ca (fun z=>bM.Q0 k self e0 (ps,()) ps ps[i] ps (ps.length:Int) (i:Int) (pn ps[i]:Int) z) (ps,()) ps ps[i] ps (ps.length:Int) (i:Int) (pn ps[i]:Int) v) (pn ps[i]) (fun (_:Unit) (j:Int)=>j) (fun j _=>if nI ps[i] j then .inr () else .inl (some (([]:List Seen),(5:Int),()))) (fun _=>self (ps,ps,(ps.length:Int),ae ((i:Int)+1))) (fun _ _=>True) (by omega)
   (fun j hj s ca hI=>by
    show bM.b1 _ _ _ _ _ _ _ _ _ _=_
    unfold bM.b1 nI
    have aj:(j:Int) < (pn ps[i]:Int):=by omega
    simp only[aj,decide_true,cond_true,yJ az,hj,Bool.true_and,Option.bind_some]
    by_cases hz:aN ps[i] j=0
    ·simp only[hz,decide_true,Bool.not_true,cond_false,Bool.true_or,if_true]
    ·simp only[hz,decide_false,Bool.not_false,cond_true,uG az hj,uF _ (Nat.le_trans (nH az hj) (by omega)),Option.bind_some,Bool.false_or]
     cases hc:(cU (ep ps[i] j)).2 with
     | true=>
      have:=(uh _ hc).1
      simp only[if_true,this,decide_true,Bool.not_true,cond_false]
     | false=>rfl)
   (fun _ _ _ _ _ _=>trivial) (fun s ca hI=>by
    show bM.b1 _ _ _ _ _ _ _ _ _ _=_
    unfold bM.b1
    simp only[Int.lt_irrefl,decide_false,cond_false]
    rfl) () trivial k (by omega)
  rw[mt] at this
  exact this
 have outer:bM.r0 k (ps,()) (ps,ps,(ps.length:Int),(0:Int))=if hU oY ps=0 then bM.Q1 k (ps,()) ps else some (([]:List Seen),hU oY ps,()):=by
  have:=bF (B:=fun self v=>bM.B0 k self (fun z=>bM.Q1 k (ps,()) z) (ps,()) v) ps (fun (_:Unit) (i:Int)=>(ps,ps,(ps.length:Int),i)) (fun i _ p=>if oY p=0 then .inr () else .inl (some (([]:List Seen),oY p,()))) (fun _=>bM.Q1 k (ps,()) ps) (fun _ _=>True) (by rw[ah];omega)
   (fun i hi s self hI=>by
    show bM.b0 _ _ _ _ _=_
    unfold bM.b0 oY
    have aj:(i:Int) < (ps.length:Int):=by omega
    simp only[aj,decide_true,cond_true,Int.natCast_nonneg,if_true,Int.toNat_natCast,List.getElem?_eq_getElem hi,Option.bind_some,D_ _ (hp _ (List.getElem_mem hi))]
    by_cases h0:oX ps[i]=0
    ·have az:=vD.1 h0
     rw[decide_eq_true h0]
     simp only[Bool.not_true,cond_false,sa az.len,Option.bind_some,inner self _ i hi az,h0,if_true]
     by_cases hc:(List.range (pn ps[i])).all (nI ps[i])=true
     ·simp only[hc,if_true]
     ·simp only[hc,Bool.false_eq_true,if_false]
      rfl
    ·rw[decide_eq_false h0]
     simp only[Bool.not_false,cond_true,h0,if_false])
   (fun _ _ _ _ _ _=>trivial) (fun s self _=>by
    show bM.b0 _ _ _ _ _=_
    unfold bM.b0
    simp only[Int.lt_irrefl,decide_false,cond_false]) () trivial k (by omega)
  rw[qt oY (fun c=>some (([]:List Seen),c,())) (fun _=>bM.Q1 k (ps,()) ps)] at this
  exact this
 rw[outer]
 by_cases hc:hU oY ps=0
 ·simp only[hc,if_true]
  show bM.q1 _ _=_
  unfold bM.q1
  rw[Ed ps (Db (by omega) hc)]
  rfl
 ·simp only[hc,if_false]
end OT
set_option linter.unusedVariables false
set_option linter.unusedSimpArgs false
set_option linter.unusedSectionVars false
namespace OT
open Go
structure Bg (ps:fP):Prop where
 right:nc ps
 cells:qK ps
 TQ:(aQ ps).all (kB ps)=true
 TW:((aQ ps).filterMap oZ).Nodup
 keys:((iW ps).map fun x=>rk (fU x)).Nodup
 list:se ps=ui ((iW ps).map o5)
theorem sV {ps:fP} (h:jF ps=0):Bg ps:=by
 obtain ⟨h1,Y,h3⟩:=qD h
 have hc:=Db h1.1 Y
 unfold uf at h3
 split at h3
 ·rename_i a1
  split at h3
  ·rename_i a2
   split at h3
   ·rename_i a3
    exact ⟨h1,hc,a1,a2,a3,by unfold se;rw[if_pos h]⟩
   ·cases h3
  ·cases h3
 ·cases h3
theorem GY {ps:fP} (h:Bg ps):(se ps).Perm ((iW ps).map o5):=by rw[h.list];exact yR _
theorem vN {ps:fP} (h:Bg ps):(se ps).length<=192:=by
 have:=(GY h).length_eq
 rw[List.length_map] at this
 have:=ug h.right
 omega
def jG (ps:fP):List Row:=(se ps).map (·.1)
theorem Dg {ps:fP} (h:Bg ps):jG ps=yN ((iW ps).map fU):=by
 unfold jG
 rw[h.list,Ar,List.map_map]
 rfl
theorem wF (l:List Seen) (hl:l.length<=1000):fE.ab (l,())=some (l.map (·.1),()):=by
 refine ag (k:=1100) fun q hq=>(fE.aa q _).trans ?_
 have:=bC (B:=fun self v=>fE.B0 q self (fun z=>fE.Q0 q (l,()) z) (l,()) v) l (fun (s:List Row) (i:Int)=>(s,i)) (fun _ s x=>.inr (s++[x.1])) (fun s=>(s,())) (fun i s=>s.length=i) (by rw[ah];omega)
  (fun i hi s self hs=>by
   show fE.b0 _ _ _ _=_
   unfold fE.b0
   have aj:(i:Int) < (l.length:Int):=by omega
   rw[decide_eq_true aj,cond_true,if_pos (Int.natCast_nonneg i)]
   simp only[Int.toNat_natCast,List.getElem?_eq_getElem hi,Option.bind_some]
   rw[if_pos (cD (by simp only[List.length_cons,List.length_nil];omega))])
  (fun i hi s s' hs hf=>by injection hf with hf;subst hf;simp[hs]) (fun s self _=>by
   show fE.b0 _ _ _ _=_
   unfold fE.b0
   rw[decide_eq_false (Int.lt_irrefl _),cond_false]
   rfl) [] rfl q (by omega)
 rw[ei (g:=fun (s:List Row) (x:Seen)=>s++[x.1])] at this
 refine this.trans ?_
 have hm:∀ (xs:List Seen) (s:List Row),xs.foldl (fun s x=>s++[x.1]) s=s++xs.map (·.1):=by
  intro xs
  induction xs with
  | nil=>intro s;simp
  | cons x xs ih=>intro s;rw[List.foldl_cons,ih];simp
 rw[hm,List.nil_append]
theorem uJ {ps:fP} (h:jF ps=0):c9.ab (ps,())=some (jG ps,()):=by
 have hr:=qD h
 have hl:=ug hr.1
 refine ag (k:=300) fun k hk=>(c9.aa k _).trans ?_
 unfold c9.p
 rw[wD ps hr.1]
 simp only[Option.bind_some]
 have:=bC (B:=fun self v=>c9.B0 k self (fun z=>c9.Q0 k (ps,()) (iW ps) z) (ps,()) (iW ps) v) (iW ps) (fun (s:List Row) (i:Int)=>(s,i)) (fun _ s x=>.inr (jL s (fU x))) (fun s=>(s,())) (fun i s=>s.length<=i) (by rw[ah];omega)
  (fun i hi s self hs=>by
   show c9.b0 _ _ _ _ _=_
   unfold c9.b0
   have aj:(i:Int) < ((iW ps).length:Int):=by omega
   rw[decide_eq_true aj,cond_true,if_pos ⟨Int.natCast_nonneg i,aj⟩]
   simp only[Int.toNat_natCast,List.getElem?_eq_getElem hi,Option.bind_some]
   rw[yK _ _ (by omega)]
   rfl)
  (fun i hi s s' hs hf=>by
   injection hf with hf
   subst hf
   unfold jL
   simp only[List.length_append,List.length_take,List.length_drop,List.length_cons,List.length_nil]
   omega) (fun s self _=>by
   show c9.b0 _ _ _ _ _=_
   unfold c9.b0
   rw[decide_eq_false (Int.lt_irrefl _),cond_false]
   rfl) [] (Nat.le_refl 0) k (by omega)
 rw[ei (g:=fun (s:List Row) (x:aw)=>jL s (fU x))] at this
 refine this.trans ?_
 rw[Dg (sV h)]
 unfold yN
 rw[List.foldl_map]
end OT
set_option linter.unusedVariables false
set_option linter.unusedSimpArgs false
namespace OT
open Go
def bl (x:cE):Int:=(List.length x.2.1:Int)
def jH (s:Int) (x:cE):Sum (Int×Unit) Int:=
 if cz x.1 0 63 then (if cz (bl x) 1 64 then (if 64 < x.1+bl x then .inl (3,()) else if x.1 < s then .inl (1,()) else .inr (x.1+bl x+1)) else .inl (3,())) else .inl (3,())
def yS (s:Int) (xs:List cE):Int:=(aV (fun _ s x=>jH s x) (fun _=>((0:Int),())) 0 xs s).1
def l_ (xs:List cE):Int:=if 64 < xs.length then 2 else yS 0 xs
theorem sg {s s':Int} {x:cE} (h:jH s x=.inr s'):0<=x.1/\x.1<=63/\1<=bl x/\bl x<=64/\x.1+bl x<=64/\s<=x.1/\s'=x.1+bl x+1:=by
 unfold jH at h
 split at h
 ·rename_i h1
  split at h
  ·rename_i Y
   split at h
   ·cases h
   ·split at h
    ·cases h
    ·injection h with h
     simp only[cz,Bool.and_eq_true,decide_eq_true_eq] at h1 Y
     omega
  ·cases h
 ·cases h
theorem xq {s:Int} {x:cE} {o:Int×Unit} (h:jH s x=.inl o):o.1≠0:=by
 unfold jH at h
 split at h
 ·split at h
  ·split at h
   ·injection h with h;subst h;decide
   ·split at h
    ·injection h with h;subst h;decide
    ·cases h
  ·injection h with h;subst h;decide
 ·injection h with h;subst h;decide
theorem Fh {S O α:Type} {f:S->α->Sum O S} {fin:S->O}:∀ (xs:List α) (i j:Nat) (s:S),aV (fun _ s x=>f s x) fin i xs s=aV (fun _ s x=>f s x) fin j xs s
 | [],_,_,_=>rfl
 | x::xs,i,j,s=>by
  simp only[aV]
  split
  ·rfl
  ·exact Fh xs _ _ _
theorem uj (s:Int) (x:cE) (xs:List cE):yS s (x::xs)=match jH s x with | .inl o=>o.1 | .inr s'=>yS s' xs:=by
 unfold yS
 simp only[aV]
 cases h:jH s x with
 | inl o=>rfl
 | inr s'=>simp only;rw[Fh xs 1 0]
theorem yT:∀ (xs:List cE) (s:Int),yS s xs=0->∀ x ∈ xs,0<=x.1/\x.1<=63/\1<=bl x/\bl x<=64
 | [],_,_,_,hx=>by cases hx
 | y::ys,s,h,x,hx=>by
  rw[uj] at h
  cases hs:jH s y with
  | inl o=>rw[hs] at h;exact absurd h (xq hs)
  | inr s'=>
   rw[hs] at h
   have:=sg hs
   rcases List.mem_cons.1 hx with e | e
   ·subst e;omega
   ·exact yT ys s' h x e
theorem GZ {xs:List cE} (h:l_ xs=0):List.length xs<=64/\∀ x ∈ xs,0<=x.1/\x.1<=63/\1<=bl x/\bl x<=64:=by
 unfold l_ at h
 split at h
 ·cases h
 ·exact ⟨by omega,yT xs 0 h⟩
theorem Ja {y z:cE} {ys:List cE} (h:l_ (y::z::ys)=0):List.length y.2.1≠64:=by
 unfold l_ at h
 split at h
 ·cases h
 ·rw[uj] at h
  cases hs:jH 0 y with
  | inl o=>rw[hs] at h;exact absurd h (xq hs)
  | inr s'=>
   rw[hs] at h
   have h1:=sg hs
   simp only[uj] at h
   cases nv:jH s' z with
   | inl o=>rw[nv] at h;exact absurd h (xq nv)
   | inr s2=>
    have Y:=sg nv
    have:bl y=(List.length y.2.1:Int):=rfl
    omega
theorem Ee (xs:List cE):cY.ab (xs,())=some (l_ xs,()):=by
 refine ag (k:=66) fun k hk=>(cY.aa k _).trans ?_
 unfold cY.p l_
 by_cases hl:64 < xs.length
 ·have:(64:Int) < (xs.length:Int):=by omega
  simp only[hl,this,decide_true,cond_true,if_true]
 have ii:¬ (64:Int) < (xs.length:Int):=by omega
 have:=bC (B:=fun self v=>cY.B0 0 self (fun z=>cY.Q0 0 (xs,()) z) (xs,()) v) xs (fun (s:Int) (i:Int)=>(s,i)) (fun _ s x=>jH s x) (fun _=>(0,())) (fun _ _=>True) (by rw[ah];omega)
  (fun i hi s self _=>by
   show cY.b0 _ _ _ _=_
   unfold cY.b0
   have aj:(i:Int) < (xs.length:Int):=by omega
   simp only[aj,decide_true,cond_true,Int.natCast_nonneg,if_true,Int.toNat_natCast,List.getElem?_eq_getElem hi,Option.bind_some,lQ]
   generalize xs[i]=x
   unfold jH bl cz
   by_cases a1:(0:Int)<=x.1
   rotate_left
   ·simp[a1]
   by_cases a2:x.1<=63
   rotate_left
   ·simp[a2]
   by_cases a3:(1:Int)<=(List.length x.2.1:Int)
   rotate_left
   ·simp[a1,a2,a3]
   by_cases a4:(List.length x.2.1:Int)<=64
   rotate_left
   ·simp[a1,a2,a4]
   have e1:ae (x.1+(List.length x.2.1:Int))=x.1+(List.length x.2.1:Int):=aJ (by omega)
   have e2:ae (x.1+(List.length x.2.1:Int)+1)=x.1+(List.length x.2.1:Int)+1:=aJ (by omega)
   simp only[a1,a2,a3,a4,e1,e2,decide_true,Bool.and_self,Bool.not_true,cond_false,if_true]
   by_cases a5:64 < x.1+(List.length x.2.1:Int)
   ·simp[a5]
   by_cases a6:x.1 < s
   ·simp[a5,a6]
   simp[a5,a6]) (fun _ _ _ _ _ _=>trivial) (fun s self _=>by
   show cY.b0 _ _ _ _=_
   unfold cY.b0
   simp[cY.Q0,cY.q0]) 0 trivial k (by omega)
 simp only[hl,if_false,ii,decide_false,cond_false]
 exact this
theorem wG (xs:List cE):dH.ab (xs,())=some (l_ xs,()):=by
 refine ag (k:=66) fun k hk=>(dH.aa k _).trans ?_
 unfold dH.p l_
 by_cases hl:64 < xs.length
 ·have:(64:Int) < (xs.length:Int):=by omega
  simp only[hl,this,decide_true,cond_true,if_true]
 have ii:¬ (64:Int) < (xs.length:Int):=by omega
 have:=bC (B:=fun self v=>dH.B0 0 self (fun z=>dH.Q0 0 (xs,()) z) (xs,()) v) xs (fun (s:Int) (i:Int)=>i) (fun _ s x=>jH s x) (fun _=>(0,()))
  (fun i s=>(i=0->s=0)/\∀ y,0 < i->xs[i - 1]?=some y->0<=y.1/\y.1<=63/\bl y<=64/\s=y.1+bl y+1) (by rw[ah];omega)
  (fun i hi s self hI=>by
   show dH.b0 _ _ _ _=_
   unfold dH.b0
   have aj:(i:Int) < (xs.length:Int):=by omega
   simp only[aj,decide_true,cond_true,Int.natCast_nonneg,if_true,Int.toNat_natCast,List.getElem?_eq_getElem hi,Option.bind_some,iR]
   generalize xs[i]=x
   unfold jH bl cz
   by_cases a1:(0:Int)<=x.1
   rotate_left
   ·simp[a1]
   by_cases a2:x.1<=63
   rotate_left
   ·simp[a2]
   by_cases a3:(1:Int)<=(List.length x.2.1:Int)
   rotate_left
   ·simp[a1,a2,a3]
   by_cases a4:(List.length x.2.1:Int)<=64
   rotate_left
   ·simp[a1,a2,a4]
   have e1:ae (x.1+(List.length x.2.1:Int))=x.1+(List.length x.2.1:Int):=aJ (by omega)
   simp only[a1,a2,a3,a4,e1,decide_true,Bool.and_self,Bool.not_true,cond_false,if_true]
   by_cases a5:64 < x.1+(List.length x.2.1:Int)
   ·simp[a5]
   by_cases h0:i=0
   ·subst h0
    have:=hI.1 rfl
    subst this
    have a6:¬ x.1 < 0:=by omega
    simp[a5,a6]
   ·have yI:i - 1 < xs.length:=by omega
    obtain ⟨y0,y1,y2,y3⟩:=hI.2 xs[i - 1] (by omega) (List.getElem?_eq_getElem yI)
    have hp:(0:Int) < (i:Int):=by omega
    have ew:ae ((i:Int) - 1)=((i - 1:Nat):Int):=by rw[aJ (by omega)];omega
    unfold bl at y2 y3
    have e2:ae ((xs[i - 1]).1+(List.length (xs[i - 1]).2.1:Int))=(xs[i - 1]).1+(List.length (xs[i - 1]).2.1:Int):=aJ (by omega)
    simp only[a5,hp,ew,e2,decide_true,decide_false,cond_true,cond_false,Int.natCast_nonneg,if_true,if_false,Int.toNat_natCast,List.getElem?_eq_getElem yI,Option.bind_some]
    by_cases a6:x.1 < s
    ·have:x.1<=(xs[i - 1]).1+(List.length (xs[i - 1]).2.1:Int):=by omega
     simp[a6,this]
    ·have:¬ x.1<=(xs[i - 1]).1+(List.length (xs[i - 1]).2.1:Int):=by omega
     simp[a6,this])
  (fun i hi s s' _ hs=>⟨fun e=>by omega,fun y _ hy=>by
   rw[Nat.add_sub_cancel,List.getElem?_eq_getElem hi] at hy
   injection hy with hy;subst hy
   have:=sg hs
   omega⟩) (fun s self _=>by
   show dH.b0 _ _ _ _=_
   unfold dH.b0
   simp[dH.Q0,dH.q0]) 0 ⟨fun _=>rfl,fun y h=>by omega⟩ k (by omega)
 simp only[hl,if_false,ii,decide_false,cond_false]
 exact this
def yU (k:Int) (xs:List cE):Int:=match xs with
 | []=>1
 | y::_=>if decide (k=4)&&!decide (List.length y.2.1=64) then 1 else 0
def ma (r:aM):Int:=
 if !cz r.1 1 6||(!cz r.1 2 4&&(!decide (r.2.2.1=0)||decide (0 < List.length r.2.2.2.1)))||(decide (r.1=4)&&!decide (r.2.1=0)) then 1
 else if (!decide (r.1=4)&&!cz r.2.1 1 99)||!cz r.2.2.1 0 11 then 3
 else if !cz r.1 2 4 then 0
 else if l_ r.2.2.2.1=0 then yU r.1 r.2.2.2.1 else l_ r.2.2.2.1
theorem vO (k:Int):gr.ab (k,())=some (cz k 2 4,()):=by
 refine ag (k:=0) fun n _=>(gr.aa n _).trans ?_
 show gr.p _=_
 unfold gr.p
 simp[iR,cz]
theorem Dh (k:Int):gL.ab (k,())=some (cz k 2 4,()):=by
 refine ag (k:=0) fun n _=>(gL.aa n _).trans ?_
 show gL.p _=_
 unfold gL.p cz
 by_cases h1:k=2
 ·subst h1;rfl
 by_cases Y:k=3
 ·subst Y;rfl
 by_cases h3:k=4
 ·subst h3;rfl
 have:(decide ((2:Int)<=k)&&decide (k<=4))=false:=by
  by_cases h4:(2:Int)<=k
  ·have:¬ k<=4:=by omega
   simp[this]
  ·simp[h4]
 simp[h1,Y,h3,this]
theorem yV (r:aM):gi.ab (r,())=some (ma r,()):=by
 obtain ⟨k,t,p,xs,⟨⟩⟩:=r
 refine ag (k:=0) fun n _=>(gi.aa n _).trans ?_
 show gi.p _=_
 unfold gi.p ma
 simp only[iR,vO,wG,Option.bind_some,show ∀ a b c:Int,(decide (b<=a)&&decide (a<=c))=cz a b c from fun _ _ _=>rfl]
 have h0:decide ((0:Int) < (xs.length:Int))=decide (0 < xs.length):=by simp
 have hj:(dH.ab (xs,()))=some (l_ xs,()):=wG xs
 rw[h0]
 have hh:(bif decide ((List.length xs:Int)=0) then some ((1:Int),()) else bif decide (k=4) then (xs[0]?).bind fun CL=>bif !decide ((List.length CL.2.1:Int)=64) then some ((1:Int),()) else some (0,()) else some (0,()))=some (yU k xs,()):=by
  cases xs with
  | nil=>rfl
  | cons y ys=>
   have:¬ ((List.length (y::ys):Int)=0):=by simp only[List.length_cons];omega
   simp only[this,decide_false,cond_false,yU,List.getElem?_cons_zero,Option.bind_some]
   have Ow:decide ((List.length y.2.1:Int)=64)=decide (List.length y.2.1=64):=by
    by_cases h:List.length y.2.1=64
    ·simp[h]
    ·have:¬ ((List.length y.2.1:Int)=64):=by omega
     simp[h,this]
   rw[Ow]
   cases decide (k=4) <;> cases decide (List.length y.2.1=64) <;> rfl
 rw[hh]
 by_cases hr:l_ xs=0
 ·simp only[hr,decide_true,Bool.not_true,cond_false,if_true]
  cases cz k 1 6 <;> cases cz k 2 4 <;> cases decide (p=0) <;> cases decide (0 < xs.length) <;> cases decide (k=4) <;> cases decide (t=0) <;> cases cz t 1 99 <;> cases cz p 0 11 <;> rfl
 ·simp only[hr,decide_false,Bool.not_false,cond_true,if_false]
  cases cz k 1 6 <;> cases cz k 2 4 <;> cases decide (p=0) <;> cases decide (0 < xs.length) <;> cases decide (k=4) <;> cases decide (t=0) <;> cases cz t 1 99 <;> cases cz p 0 11 <;> rfl
theorem yW (r:aM):d6.ab (r,())=some (ma r,()):=by
 obtain ⟨k,t,p,xs,⟨⟩⟩:=r
 refine ag (k:=0) fun n _=>(d6.aa n _).trans ?_
 show d6.p _=_
 unfold d6.p ma
 simp only[lQ,Dh,E3,Ee,Option.bind_some,show ∀ a b c:Int,(decide (b<=a)&&decide (a<=c))=cz a b c from fun _ _ _=>rfl]
 have h0:decide ((0:Int) < (xs.length:Int))=decide (0 < xs.length):=by simp
 rw[h0]
 have hk:cz k 2 4=false->decide (k=4)=false:=by
  intro h
  by_cases e:k=4
  ·subst e;cases h
  ·simp[e]
 have Ow:∀ y:cE,decide ((List.length y.2.1:Int)=64)=decide (List.length y.2.1=64):=fun y=>by
  by_cases h:List.length y.2.1=64
  ·simp[h]
  ·have:¬ ((List.length y.2.1:Int)=64):=by omega
   simp[h,this]
 have hz:decide (0 < xs.length)=false->xs=[]:=by
  intro h
  cases xs with
  | nil=>rfl
  | cons _ _=>simp at h
 have hh:l_ xs=0->(bif decide ((List.length xs:Int)=0) then some ((1:Int),()) else bif decide (k=4) then bif !decide ((List.length xs:Int)=1) then some ((1:Int),()) else (xs[0]?).bind fun CL=>bif !decide ((List.length CL.2.1:Int)=64) then some ((1:Int),()) else some (0,()) else some (0,()))=some (yU k xs,()):=by
  intro hr
  cases xs with
  | nil=>rfl
  | cons y ys=>
   have:¬ ((List.length (y::ys):Int)=0):=by simp only[List.length_cons];omega
   simp only[this,decide_false,cond_false,yU,List.getElem?_cons_zero,Option.bind_some,Ow]
   cases ys with
   | nil=>cases decide (k=4) <;> cases decide (List.length y.2.1=64) <;> rfl
   | cons z ys=>
    have h1:=Ja hr
    have Y:¬ ((List.length (y::z::ys):Int)=1):=by simp only[List.length_cons];omega
    simp only[h1,Y,decide_false]
    cases decide (k=4) <;> rfl
 cases gv:cz k 2 4 with
 | false=>
  have TA:=hk gv
  have Ul:l_ ([]:List cE)=0:=rfl
  simp only[TA]
  by_cases hx:xs=[]
  ·subst hx
   cases cz k 1 6 <;> cases decide (p=0) <;> cases cz t 1 99 <;> cases cz p 0 11 <;> rfl
  ·have Bz:decide (0 < xs.length)=true:=by
    cases xs with
    | nil=>exact absurd rfl hx
    | cons _ _=>simp
   simp only[Bz]
   cases cz k 1 6 <;> cases decide (p=0) <;> rfl
 | true=>
  by_cases hr:l_ xs=0
  ·have hh:=hh hr
   simp only[hr,decide_true,Bool.not_true,cond_false,cond_true,if_true,hh]
   cases cz k 1 6 <;> cases decide (k=4) <;> cases decide (t=0) <;> cases cz t 1 99 <;> cases cz p 0 11 <;> rfl
  ·simp only[hr,decide_false,Bool.not_false,cond_true,if_false]
   cases cz k 1 6 <;> cases decide (k=4) <;> cases decide (t=0) <;> cases cz t 1 99 <;> cases cz p 0 11 <;> rfl
theorem oA {r:aM} (h:ma r=0):1<=r.1/\r.1<=6/\0<=r.2.1/\r.2.1<=99/\0<=r.2.2.1/\r.2.2.1<=11/\List.length r.2.2.2.1<=64/\∀ x ∈ r.2.2.2.1,0<=x.1/\x.1<=63/\1<=bl x/\bl x<=64:=by
 obtain ⟨k,t,p,xs,⟨⟩⟩:=r
 unfold ma at h
 split at h
 ·cases h
 rename_i h1
 split at h
 ·cases h
 rename_i Y
 have hx:List.length xs<=64/\∀ x ∈ xs,0<=x.1/\x.1<=63/\1<=bl x/\bl x<=64:=by
  split at h
  ·rename_i h3
   simp only[Bool.or_eq_true,Bool.and_eq_true,not_or,not_and,h3,forall_const] at h1
   cases xs with
   | nil=>exact ⟨by simp,fun x hx=>by cases hx⟩
   | cons y ys=>exact absurd (by simp) h1.1.2.2
  ·split at h
   ·rename_i h4;exact GZ h4
   ·rename_i h4;exact absurd h h4
 simp only[Bool.or_eq_true,Bool.and_eq_true,not_or,not_and,cz,Bool.not_eq_true',Bool.and_eq_false_iff,decide_eq_false_iff_not,decide_eq_true_eq] at h1 Y
 refine ⟨?_,?_,?_,?_,?_,?_,hx⟩ <;> by_cases hk:k=4 <;> simp_all <;> omega
end OT
set_option linter.unusedVariables false
set_option linter.unusedSimpArgs false
namespace OT
open Go
def ly (x:cE):List UInt8:=UInt8.ofInt x.1::UInt8.ofInt (List.length x.2.1:Int)::x.2.1
def ef (xs:List cE):List UInt8:=xs.flatMap ly
def mb (r:aM):List UInt8:=[(0:UInt8),UInt8.ofInt r.1,UInt8.ofInt r.2.1,UInt8.ofInt r.2.2.1,UInt8.ofInt (List.length r.2.2.2.1:Int)]
def n7 (s:Int) (l:List UInt8):Int:=l.foldl (fun s c=>(s*31+(c.toNat:Int)) % 65521) s
def Di (r:aM):List UInt8:=(mb r++ef r.2.2.2.1).set 0 (UInt8.ofInt (ae (((mb r++ef r.2.2.2.1).length:Int)+2)))
def qE (r:aM):List UInt8:=Di r++[UInt8.ofInt ((n7 1 (Di r)) / 256),UInt8.ofInt (n7 1 (Di r))]
def yX (r:aM):Prop:=List.length r.2.2.2.1<=64/\∀ x ∈ r.2.2.2.1,List.length x.2.1<=64
theorem Dj {r:aM} (h:ma r=0):yX r:=by
 have:=oA h
 refine ⟨this.2.2.2.2.2.2.1,fun x hx=>?_⟩
 have Y:=this.2.2.2.2.2.2.2 x hx
 unfold bl at Y
 omega
theorem vP (xs ys:List cE):ef (xs++ys)=ef xs++ef ys:=List.flatMap_append
theorem mc (x:cE) (xs:List cE):ef (x::xs)=ly x++ef xs:=List.flatMap_cons
theorem vQ {xs:List cE} (h:∀ x ∈ xs,List.length x.2.1<=64):(ef xs).length<=66*xs.length:=by
 induction xs with
 | nil=>simp[ef]
 | cons x xs ih=>
  have h1:=ih fun y hy=>h y (by simp[hy])
  have Y:=h x (by simp)
  rw[mc]
  simp only[List.length_append,List.length_cons,ly]
  omega
theorem MG (r:aM):(Di r).length=5+(ef r.2.2.2.1).length:=by simp[Di,mb];omega
theorem Av (r:aM):(qE r).length=7+(ef r.2.2.2.1).length:=by
 simp only[qE,List.length_append,MG,List.length_cons,List.length_nil];omega
theorem Ef {r:aM} (h:yX r):(qE r).length<=5000:=by
 rw[Av]
 have:=vQ h.2
 have:=h.1
 omega
theorem Fl:∀ (l:List UInt8) (s:Int),0<=s/\s < 65521->0<=n7 s l/\n7 s l < 65521
 | [],s,h=>h
 | c::l,s,h=>Fl l ((s*31+(c.toNat:Int)) % 65521) ⟨Int.emod_nonneg _ (by omega),Int.emod_lt_of_pos _ (by omega)⟩
theorem Jb {s:Int} (h:0<=s):UInt8.ofInt (s.tmod 256)=UInt8.ofInt s:=by
 rw[Int.tmod_eq_emod_of_nonneg h]
 apply UInt8.toBitVec_inj.1
 apply BitVec.eq_of_toNat_eq
 simp[UInt8.ofInt,BitVec.toNat_ofInt]
theorem vR:∀ (xs:List cE) (s:List UInt8),xs.foldl (fun s x=>s++ly x) s=s++ef xs
 | [],s=>by simp[ef]
 | x::xs,s=>by rw[List.foldl_cons,vR,mc,List.append_assoc]
theorem Dk {s:Int} {c:UInt8} (h:0<=s/\s < 65521):((ae ((ae (s*(31:Int)))+(ae (c.toNat:Int)))).tmod (65521:Int))=(s*31+(c.toNat:Int)) % 65521:=by
 have hc:=c.toNat_lt
 have e1:ae (s*31)=s*31:=aJ (by omega)
 have e2:ae (c.toNat:Int)=(c.toNat:Int):=aJ (by omega)
 have e3:ae (s*31+(c.toNat:Int))=s*31+(c.toNat:Int):=aJ (by omega)
 rw[e1,e2,e3,Int.tmod_eq_emod_of_nonneg (by omega)]
theorem G0 (l:List UInt8) (h:l.length<=100000):f0.ab (l,())=some (n7 1 l,()):=by
 refine ag (k:=100001) fun k hk=>(f0.aa k _).trans ?_
 have:=bC (B:=fun self v=>f0.B0 0 self (fun z=>f0.Q0 0 (l,()) z) (l,()) v) l (fun (s:Int) (i:Int)=>(s,i)) (fun _ s c=>.inr ((s*31+(c.toNat:Int)) % 65521)) (fun s=>(s,())) (fun _ s=>0<=s/\s < 65521) (by rw[ah];omega)
  (fun i hi s self hI=>by
   show f0.b0 _ _ _ _=_
   unfold f0.b0
   have aj:(i:Int) < (l.length:Int):=by omega
   simp only[aj,decide_true,cond_true,Int.natCast_nonneg,if_true,Int.toNat_natCast,List.getElem?_eq_getElem hi,Option.bind_some,Dk hI])
  (fun i hi s s' hI hs=>by injection hs with hs;omega) (fun s self _=>by
   show f0.b0 _ _ _ _=_
   unfold f0.b0
   simp[f0.Q0,f0.q0]) 1 (by omega) k (by omega)
 rw[ei] at this
 exact this
theorem Eg (r:aM) (h:yX r):fu.ab (r,())=some (qE r,()):=by
 obtain ⟨K,T,P,xs,⟨⟩⟩:=r
 obtain ⟨h1,Y⟩:=h
 simp only at h1 Y
 refine ag (k:=100) fun k hk=>(fu.aa k _).trans ?_
 have hlen:∀ i,(ef (xs.take i)).length<=66*64:=fun i=>by
  have:=vQ (xs:=xs.take i) (fun x hx=>Y x (List.mem_of_mem_take hx))
  have:(xs.take i).length<=xs.length:=by simp;omega
  omega
 have:=bC (B:=fun self v=>fu.B0 0 self (fun z=>fu.Q0 0 ((K,T,P,xs,()),()) z) ((K,T,P,xs,()),()) v) xs (fun (s:List UInt8) (i:Int)=>(s,i)) (fun _ s x=>.inr (s++ly x)) (fun s=>(let q:=s.set 0 (UInt8.ofInt (ae ((s.length:Int)+2)));(q++[UInt8.ofInt ((n7 1 q) / 256),UInt8.ofInt (n7 1 q)],())))
  (fun i s=>s=mb (K,T,P,xs,())++ef (xs.take i)) (by rw[ah];omega)
  (fun i hi s self hI=>by
   show fu.b0 _ _ _ _=_
   unfold fu.b0
   have aj:(i:Int) < (xs.length:Int):=by omega
   have hs:s.length<=5000:=by rw[hI];have:=hlen i;simp only[List.length_append,mb,List.length_cons,List.length_nil];omega
   have hx:=Y xs[i] (List.getElem_mem hi)
   simp only[aj,decide_true,cond_true,Int.natCast_nonneg,if_true,Int.toNat_natCast,List.getElem?_eq_getElem hi,Option.bind_some]
   generalize xs[i]=x at hx
   have c1:s.length+[UInt8.ofInt x.1,UInt8.ofInt (List.length x.2.1:Int)].length<=bg:=cD (by simp only[List.length_cons,List.length_nil];omega)
   have c2:(s++[UInt8.ofInt x.1,UInt8.ofInt (List.length x.2.1:Int)]).length+List.length x.2.1<=bg:=cD (by simp only[List.length_append,List.length_cons,List.length_nil];omega)
   simp only[c1,c2,if_true,ly,List.append_assoc,List.cons_append,List.nil_append])
  (fun i hi s s' hI hs=>by
   injection hs with hs
   rw[<-hs,hI,List.take_succ_eq_append_getElem hi,vP,List.append_assoc]
   simp[ef]) (fun s self hI=>by
   show fu.b0 _ _ _ _=_
   unfold fu.b0
   have hs:5<=s.length/\s.length<=5000:=by rw[hI];have:=hlen xs.length;simp only[List.length_append,mb,List.length_cons,List.length_nil];omega
   simp only[Int.lt_irrefl,decide_false,cond_false,fu.Q0,fu.q0]
   have c0:(0:Int)<=0/\(0:Int) < (s.length:Int):=⟨by omega,by omega⟩
   rw[if_pos c0,List.getElem?_eq_getElem (by omega:0 < s.length)]
   simp only[Option.bind_some]
   generalize hq:s.set 0 (UInt8.ofInt (ae ((s.length:Int)+2)))=q
   have TB:q.length=s.length:=by rw[<-hq];simp
   rw[G0 q (by omega)]
   simp only[Option.bind_some]
   have hb:=Fl q 1 (by omega)
   have c1:q.length+[UInt8.ofInt (ae ((n7 1 q).tdiv 256)),UInt8.ofInt ((n7 1 q).tmod 256)].length<=bg:=cD (by simp only[List.length_cons,List.length_nil];omega)
   rw[if_pos c1,Jb hb.1,Int.tdiv_eq_ediv_of_nonneg hb.1,aJ (by omega)]) (mb (K,T,P,xs,())) (by simp[ef]) k (by omega)
 rw[ei,vR] at this
 exact this
theorem Eh (r:aM) (h:yX r):cd.ab (r,())=some (qE r,()):=by
 obtain ⟨K,T,P,xs,⟨⟩⟩:=r
 obtain ⟨h1,Y⟩:=h
 simp only at h1 Y
 refine ag (k:=6000) fun k hk=>(cd.aa k _).trans ?_
 have hlen:∀ i,(ef (xs.take i)).length<=66*64:=fun i=>by
  have:=vQ (xs:=xs.take i) (fun x hx=>Y x (List.mem_of_mem_take hx))
  have:(xs.take i).length<=xs.length:=by simp;omega
  omega
 have Rw:∀ q:List UInt8,q.length<=5000->cd.r1 k ((K,T,P,xs,()),()) q (q.length:Int) (1,0)=some (q++[UInt8.ofInt ((n7 1 q) / 256),UInt8.ofInt (n7 1 q)],()):=fun q hq=>by
  have:=bC (B:=fun self v=>cd.B1 0 self (fun z=>cd.Q1 0 ((K,T,P,xs,()),()) q (q.length:Int) z) ((K,T,P,xs,()),()) q (q.length:Int) v) q (fun (s:Int) (i:Int)=>(s,i)) (fun _ s c=>.inr ((s*31+(c.toNat:Int)) % 65521)) (fun s=>(q++[UInt8.ofInt (s / 256),UInt8.ofInt s],())) (fun _ s=>0<=s/\s < 65521) (by rw[ah];omega)
   (fun i hi s self hI=>by
    show cd.b1 _ _ _ _ _ _=_
    unfold cd.b1
    have aj:(i:Int) < (q.length:Int):=by omega
    have m7:(0:Int)<=(i:Int)/\(i:Int) < (q.length:Int):=by omega
    simp only[aj,m7,and_self,decide_true,cond_true,Int.natCast_nonneg,if_true,Int.toNat_natCast,List.getElem?_eq_getElem hi,Option.bind_some,Dk hI])
   (fun i hi s s' hI hs=>by injection hs with hs;omega) (fun s self hI=>by
    show cd.b1 _ _ _ _ _ _=_
    unfold cd.b1
    simp only[Int.lt_irrefl,decide_false,cond_false,cd.Q1,cd.q1]
    have c1:q.length+[UInt8.ofInt (s.fdiv (2 ^ 8)),UInt8.ofInt s].length<=bg:=cD (by simp only[List.length_cons,List.length_nil];omega)
    rw[if_pos c1,Int.fdiv_eq_ediv_of_nonneg s (by omega:(0:Int)<=2 ^ 8)]
    rfl) 1 (by omega) k (by omega)
  rw[ei] at this
  exact this
 have:=bC (B:=fun self v=>cd.B0 k self (fun z=>cd.Q0 k ((K,T,P,xs,()),()) z) ((K,T,P,xs,()),()) v) xs (fun (s:List UInt8) (i:Int)=>(s,i)) (fun _ s x=>.inr (s++ly x)) (fun s=>(let q:=s.set 0 (UInt8.ofInt (ae ((s.length:Int)+2)));(q++[UInt8.ofInt ((n7 1 q) / 256),UInt8.ofInt (n7 1 q)],())))
  (fun i s=>s=mb (K,T,P,xs,())++ef (xs.take i)) (by rw[ah];omega)
  (fun i hi s self hI=>by
   show cd.b0 _ _ _ _=_
   unfold cd.b0
   have aj:(i:Int) < (xs.length:Int):=by omega
   have hs:s.length<=5000:=by rw[hI];have:=hlen i;simp only[List.length_append,mb,List.length_cons,List.length_nil];omega
   have hx:=Y xs[i] (List.getElem_mem hi)
   simp only[aj,decide_true,cond_true,Int.natCast_nonneg,if_true,Int.toNat_natCast,List.getElem?_eq_getElem hi,Option.bind_some]
   generalize xs[i]=x at hx
   have c1:s.length+[UInt8.ofInt x.1,UInt8.ofInt (List.length x.2.1:Int)].length<=bg:=cD (by simp only[List.length_cons,List.length_nil];omega)
   have c2:(s++[UInt8.ofInt x.1,UInt8.ofInt (List.length x.2.1:Int)]).length+List.length x.2.1<=bg:=cD (by simp only[List.length_append,List.length_cons,List.length_nil];omega)
   simp only[c1,c2,if_true,ly,List.append_assoc,List.cons_append,List.nil_append])
  (fun i hi s s' hI hs=>by
   injection hs with hs
   rw[<-hs,hI,List.take_succ_eq_append_getElem hi,vP,List.append_assoc]
   simp[ef]) (fun s self hI=>by
   show cd.b0 _ _ _ _=_
   unfold cd.b0
   have hs:5<=s.length/\s.length<=5000:=by rw[hI];have:=hlen xs.length;simp only[List.length_append,mb,List.length_cons,List.length_nil];omega
   simp only[Int.lt_irrefl,decide_false,cond_false,cd.Q0,cd.q0]
   have c0:(0:Int)<=0/\(0:Int) < (s.length:Int):=⟨by omega,by omega⟩
   rw[if_pos c0,List.getElem?_eq_getElem (by omega:0 < s.length)]
   simp only[Option.bind_some]
   generalize hq:s.set 0 (UInt8.ofInt (ae ((s.length:Int)+2)))=q
   have TB:q.length=s.length:=by rw[<-hq];simp
   exact Rw q (by omega)) (mb (K,T,P,xs,())) (by simp[ef]) k (by omega)
 rw[ei,vR] at this
 exact this
end OT
set_option linter.unusedVariables false
set_option linter.unusedSimpArgs false
namespace OT
open Go
def aR (D:List UInt8) (i:Nat):Nat:=(D.getD i 0).toNat
theorem jM (D:List UInt8) (i:Nat):aR D i < 256:=UInt8.toNat_lt _
theorem je {D:List UInt8} {i:Nat} (h:i < D.length):D[i]?=some D[i]/\(D[i]).toNat=aR D i:=⟨List.getElem?_eq_getElem h,by simp[aR,h]⟩
def piece (D:List UInt8) (Ox n:Nat):cE:=((aR D Ox:Int),(D.take (Ox+2+n)).drop (Ox+2),())
def pI (D:List UInt8) (e:Nat):Nat->Nat->List cE->Option (List cE×Nat)
 | 0,a,rs=>some (rs,a)
 | c+1,a,rs=>if e < a+2 then none else if e < a+2+aR D (a+1) then none else pI D e c (a+2+aR D (a+1)) (rs++[piece D a (aR D (a+1))])
def pS (D:List UInt8):Nat->Nat->List cE->List cE
 | 0,_,rs=>rs
 | c+1,a,rs=>if a+2<=D.length then (if D.length < a+2+aR D (a+1) then rs else pS D c (a+2+aR D (a+1)) (rs++[piece D a (aR D (a+1))])) else rs
theorem G3 {D:List UInt8} {e:Nat} (he:e<=D.length):∀ (c a:Nat) (rs Aw:List cE) (a':Nat),pI D e c a rs=some (Aw,a')->pS D c a rs=Aw
 | 0,a,rs,Aw,a',h=>by injection h with h;injection h
 | c+1,a,rs,Aw,a',h=>by
  simp only[pI] at h
  split at h
  ·cases h
  ·split at h
   ·cases h
   ·simp only[pS]
    rw[if_pos (by omega),if_neg (by omega)]
    exact G3 he c _ _ _ _ h
theorem Fm {e:Nat}:∀ (ys:List cE) (pre ql:List UInt8) (rs:List cE),(∀ y ∈ ys,0<=y.1/\y.1<=63/\1<=bl y/\bl y<=64)->pre.length+(ef ys).length<=e ->
  pI (pre++ef ys++ql) e ys.length pre.length rs=some (rs++ys,pre.length+(ef ys).length)
 | [],pre,ql,rs,_,_=>by simp[pI,ef]
 | y::ys,pre,ql,rs,h,he=>by
  obtain ⟨b1,b2,b3,b4⟩:=h y (by simp)
  unfold bl at b3 b4
  have hD:pre++ef (y::ys)++ql=(pre++ly y)++ef ys++ql:=by rw[mc];simp only[List.append_assoc]
  have QE:(ly y).length=2+List.length y.2.1:=by simp only[ly,List.length_cons];omega
  have Aq:(ef (y::ys)).length=2+List.length y.2.1+(ef ys).length:=by rw[mc,List.length_append,QE]
  have h8:∀ n:Int,0<=n->n<=64->((UInt8.ofInt n).toNat:Int)=n:=fun n h1 Y=>by
   simp[UInt8.ofInt,BitVec.toNat_ofInt];omega
  have g0:(aR (pre++ef (y::ys)++ql) pre.length:Int)=y.1:=by
   unfold aR
   rw[mc]
   simp only[ly,List.append_assoc,List.getD_eq_getElem?_getD]
   rw[List.getElem?_append_right (Nat.le_refl _)]
   simpa using h8 y.1 b1 (by omega)
  have g1:aR (pre++ef (y::ys)++ql) (pre.length+1)=List.length y.2.1:=by
   unfold aR
   rw[mc]
   simp only[ly,List.append_assoc,List.getD_eq_getElem?_getD]
   rw[List.getElem?_append_right (by omega)]
   have:=h8 (List.length y.2.1:Int) (by omega) b4
   simp only[Nat.add_sub_cancel_left,List.cons_append,List.getElem?_cons_succ,List.getElem?_cons_zero,Option.getD_some]
   omega
  have g2:piece (pre++ef (y::ys)++ql) pre.length (List.length y.2.1)=y:=by
   obtain ⟨yi,yb,⟨⟩⟩:=y
   unfold piece
   have g0:(aR (pre++ef ((yi,yb,())::ys)++ql) pre.length:Int)=yi:=g0
   rw[g0]
   have:((pre++ef ((yi,yb,())::ys)++ql).take (pre.length+2+yb.length)).drop (pre.length+2)=yb:=by
    rw[mc]
    simp only[ly,List.append_assoc,List.cons_append]
    rw[List.take_append,List.drop_append]
    have e1:List.take (pre.length+2+yb.length) pre=pre:=List.take_of_length_le (by omega)
    have e2:pre.length+2+yb.length - pre.length=yb.length+1+1:=by omega
    rw[e1,e2]
    have e3:List.drop (pre.length+2) pre=[]:=List.drop_of_length_le (by omega)
    have e4:pre.length+2 - pre.length=1+1:=by omega
    rw[e3,e4]
    simp
   show (yi,((pre++ef ((yi,yb,())::ys)++ql).take (pre.length+2+yb.length)).drop (pre.length+2),())=(yi,yb,())
   rw[this]
  simp only[List.length_cons,pI]
  rw[if_neg (by omega),g1,if_neg (by omega),g2,hD]
  have hl:(pre++ly y).length=pre.length+2+List.length y.2.1:=by rw[List.length_append,QE];omega
  have:=Fm (e:=e) ys (pre++ly y) ql (rs++[y]) (fun z hz=>h z (by simp[hz])) (by rw[hl];omega)
  rw[hl] at this
  rw[this,Aq]
  simp only[List.append_assoc,List.cons_append,List.nil_append]
  congr 2
  omega
def k_ (d:List UInt8):Option (aM×Nat):=
 if d.length < 7\/aR d 0 < 7\/d.length < aR d 0 then none else
 match pI (d.take (aR d 0)) (aR d 0 - 2) (aR d 4) 5 [] with
 | none=>none
 | some (rs,a)=>if a=aR d 0 - 2/\ma ((aR d 1:Int),(aR d 2:Int),(aR d 3:Int),rs,())=0/\qE ((aR d 1:Int),(aR d 2:Int),(aR d 3:Int),rs,())=d.take (aR d 0) then
   some (((aR d 1:Int),(aR d 2:Int),(aR d 3:Int),rs,()),aR d 0) else none
theorem Dl {d:List UInt8} {n i:Nat} (h:i < n) (hn:n<=d.length):aR (d.take n) i=aR d i:=by
 unfold aR
 simp only[List.getD_eq_getElem?_getD]
 rw[List.getElem?_take,if_pos h]
theorem Px {D:List UInt8} (hl:7<=D.length) {rs:List cE} (Ax:pS D (aR D 4) 5 []=rs) {k t p:Int} (hr:ma (k,t,p,rs,())=0) (hp:qE (k,t,p,rs,())=D):pI D (D.length - 2) (aR D 4) 5 []=some (rs,D.length - 2):=by
 have hg:=oA hr
 have h1:=hg.2.2.2.2.2.2.1
 have Y:=hg.2.2.2.2.2.2.2
 simp only at h1 Y
 have hlen:=Av (k,t,p,rs,())
 rw[hp] at hlen
 simp only at hlen
 have Oy:∃ (pre ql:List UInt8),pre.length=5/\D=pre++ef rs++ql/\pre[4]?=some (UInt8.ofInt (List.length rs:Int)):=by
  refine ⟨(mb (k,t,p,rs,())).set 0 (UInt8.ofInt (ae (((mb (k,t,p,rs,())++ef rs).length:Int)+2))),[UInt8.ofInt ((n7 1 (Di (k,t,p,rs,()))) / 256),UInt8.ofInt (n7 1 (Di (k,t,p,rs,())))],by simp[mb],?_,by simp[mb]⟩
  rw[<-hp]
  rfl
 obtain ⟨pre,ql,s1,s2,s3⟩:=Oy
 have h4:aR D 4=List.length rs:=by
  unfold aR
  rw[s2]
  simp only[List.getD_eq_getElem?_getD,List.append_assoc]
  rw[List.getElem?_append_left (by omega),s3]
  simp[UInt8.ofInt,BitVec.toNat_ofInt]
  omega
 rw[h4]
 have:=Fm (e:=D.length - 2) rs pre ql [] Y (by omega)
 rw[<-s2,s1] at this
 rw[this]
 simp only[List.nil_append]
 congr 2
 omega
theorem jf {n:Nat} (h:n<=4000000000):ae (n:Int)=(n:Int):=aJ (by omega)
theorem Dm (a b:List UInt8) (h:a.length<=100000):bB.ab (a,b,())=some (decide (a=b),()):=by
 refine ag (k:=100001) fun k hk=>(bB.aa k _).trans ?_
 unfold bB.p
 by_cases hl:a.length=b.length
 rotate_left
 ·have h1:¬ ((a.length:Int)=(b.length:Int)):=by omega
  have Y:¬ a=b:=fun e=>hl (by rw[e])
  simp only[h1,Y,decide_false,Bool.not_false,cond_true]
 have ii:(a.length:Int)=(b.length:Int):=by omega
 simp only[ii,decide_true,Bool.not_true,cond_false]
 have key:∀ (m i:Nat),a.length - i=m->i<=a.length->∀ j,m < j->ak (fun self v=>bB.B0 k self (fun z=>bB.Q0 k (a,b,()) z) (a,b,()) v) j (i:Int)=some (decide (a.drop i=b.drop i),()):=by
  intro m
  induction m with
  | zero=>
   intro i hm hi j hj
   have:i=a.length:=by omega
   subst this
   cases j with
   | zero=>omega
   | succ j=>
    show bB.b0 _ _ _ _=_
    unfold bB.b0
    simp only[Int.lt_irrefl,decide_false,cond_false,bB.Q0,bB.q0]
    rw[List.drop_length,hl,List.drop_length]
    simp
  | succ m ih=>
   intro i hm hi j hj
   have aj:i < a.length:=by omega
   cases j with
   | zero=>omega
   | succ j=>
    show bB.b0 _ _ _ _=_
    unfold bB.b0
    have Rx:(i:Int) < (a.length:Int):=by omega
    have QF:i < b.length:=by omega
    have hw:ae ((i:Int)+1)=((i+1:Nat):Int):=by rw[aJ (by omega)];omega
    simp only[Rx,decide_true,cond_true,Int.natCast_nonneg,if_true,Int.toNat_natCast,List.getElem?_eq_getElem aj,List.getElem?_eq_getElem QF,Option.bind_some,hw]
    rw[List.drop_eq_getElem_cons aj,List.drop_eq_getElem_cons QF]
    by_cases he:a[i]=b[i]
    ·simp only[he,decide_true,Bool.not_true,cond_false,List.cons.injEq,true_and]
     exact ih (i+1) (by omega) (by omega) j (by omega)
    ·have:¬ (((a[i]).toNat:Int)=((b[i]).toNat:Int)):=fun e=>he (UInt8.toNat_inj.1 (by omega))
     have Y:¬ (a[i]::a.drop (i+1)=b[i]::b.drop (i+1)):=fun e=>he (by injection e)
     simp only[this,Y,decide_false,Bool.not_false,cond_true]
 have:=key a.length 0 (by omega) (by omega) k (by omega)
 simp only[List.drop_zero] at this
 exact this
def G4:aM:=((0:Int),(0:Int),(0:Int),([]:List cE),())
theorem Jc {D:List UInt8} (hD:7<=D.length) (TC:D.length<=255) {a1:fy.Arg} {e0:(aM×Int)->Option fy.Out} {K T P N:Int} (hN:0<=N/\N<=255) {k:Nat} :
  ∀ (c a i:Nat) (rs:List cE),(i:Int)+c=N->a<=D.length - 2->rs.length<=i->∀ j,c < j ->
   ak (fun self v=>fy.B0 k self e0 a1 D ((D.length - 2:Nat):Int) N v) j ((K,T,P,rs,()),(a:Int),(i:Int))=match pI D (D.length - 2) c a rs with
    | none=>some (G4,(0:Int),())
    | some (Aw,a')=>e0 ((K,T,P,Aw,()),(a':Int)):=by
 intro c
 induction c with
 | zero=>
  intro a i rs hi ha Ax j hj
  cases j with
  | zero=>omega
  | succ j=>
   show fy.b0 _ _ a1 _ _ _ _=_
   unfold fy.b0
   have:¬ (i:Int) < N:=by omega
   simp only[this,decide_false,cond_false,pI]
 | succ c ih=>
  intro a i rs hi ha Ax j hj
  cases j with
  | zero=>omega
  | succ j=>
   show fy.b0 _ _ a1 _ _ _ _=_
   unfold fy.b0
   have h1:(i:Int) < N:=by omega
   have e1:ae ((a:Int)+2)=((a+2:Nat):Int):=by rw[aJ (by omega)];omega
   have e2:ae ((a:Int)+1)=((a+1:Nat):Int):=by rw[aJ (by omega)];omega
   have e3:ae ((i:Int)+1)=((i+1:Nat):Int):=by rw[aJ (by omega)];omega
   simp only[h1,decide_true,cond_true,e1,e2,e3,pI]
   by_cases Y:D.length - 2 < a+2
   ·have:((D.length - 2:Nat):Int) < ((a+2:Nat):Int):=by omega
    simp only[this,decide_true,cond_true,if_pos Y]
    rfl
   have Ic:¬ ((D.length - 2:Nat):Int) < ((a+2:Nat):Int):=by omega
   obtain ⟨g1,g2⟩:=je (show a+1 < D.length by omega)
   obtain ⟨g3,g4⟩:=je (show a < D.length by omega)
   have hb:=jM D (a+1)
   have MW:=jM D a
   simp only[Ic,decide_false,cond_false,if_neg Y,Int.natCast_nonneg,if_true,Int.toNat_natCast,g1,g3,Option.bind_some,g2,g4,jf (show aR D (a+1)<=4000000000 by omega),jf (show aR D a<=4000000000 by omega)]
   have e4:ae (((a+2:Nat):Int)+(aR D (a+1):Int))=((a+2+aR D (a+1):Nat):Int):=by rw[aJ (by omega)];omega
   have e5:ae ((2:Int)+(aR D (a+1):Int))=((2+aR D (a+1):Nat):Int):=by rw[aJ (by omega)];omega
   have e6:ae ((a:Int)+((2+aR D (a+1):Nat):Int))=((a+2+aR D (a+1):Nat):Int):=by rw[aJ (by omega)];omega
   simp only[e4,e5,e6]
   by_cases h3:D.length - 2 < a+2+aR D (a+1)
   ·have:((D.length - 2:Nat):Int) < ((a+2+aR D (a+1):Nat):Int):=by omega
    simp only[this,decide_true,cond_true,if_pos h3]
    rfl
   have B_:¬ ((D.length - 2:Nat):Int) < ((a+2+aR D (a+1):Nat):Int):=by omega
   have h4:((a+2:Nat):Int)<=((a+2+aR D (a+1):Nat):Int)/\((a+2+aR D (a+1):Nat):Int)<=(D.length:Int):=by omega
   simp only[B_,decide_false,cond_false,if_neg h3,h4,and_self,if_true,Int.toNat_natCast]
   rw[uC _ (by simp only[List.length_drop,List.length_take];omega)]
   have hc:rs.length+[(((aR D a:Nat):Int),((D.take (a+2+aR D (a+1))).drop (a+2)),())].length<=bg:=cD (by simp only[List.length_cons,List.length_nil];omega)
   simp only[Option.bind_some,hc,if_true]
   exact ih (a+2+aR D (a+1)) (i+1) _ (by omega) (by omega) (by simp;omega) j (by omega)
theorem Jd {D:List UInt8} (hD:7<=D.length) (TC:D.length<=255) {e0:aM->Option ft.Out} {K T P:Int} {k:Nat} :
  ∀ (c a i:Nat) (rs:List cE),i+c=aR D 4->a<=600->rs.length<=i->∀ j,c < j ->
   ak (fun self v=>ft.B0 k self e0 (D,()) v) j ((K,T,P,rs,()),(a:Int),(i:Int))=e0 (K,T,P,pS D c a rs,()):=by
 intro c
 induction c with
 | zero=>
  intro a i rs hi ha Ax j hj
  cases j with
  | zero=>omega
  | succ j=>
   show ft.b0 _ _ (D,()) _=_
   unfold ft.b0
   obtain ⟨g1,g2⟩:=je (show 4 < D.length by omega)
   have hb:=jM D 4
   simp only[g1,Option.bind_some,g2,jf (show aR D 4<=4000000000 by omega)]
   have:¬ (i:Int) < (aR D 4:Int):=by omega
   simp only[this,decide_false,cond_false,pS]
 | succ c ih=>
  intro a i rs hi ha Ax j hj
  cases j with
  | zero=>omega
  | succ j=>
   show ft.b0 _ _ (D,()) _=_
   unfold ft.b0
   obtain ⟨g1,g2⟩:=je (show 4 < D.length by omega)
   have Um:=jM D 4
   have h1:(i:Int) < (aR D 4:Int):=by omega
   have e1:ae ((a:Int)+2)=((a+2:Nat):Int):=by rw[aJ (by omega)];omega
   have e2:ae ((a:Int)+1)=((a+1:Nat):Int):=by rw[aJ (by omega)];omega
   have e3:ae ((i:Int)+1)=((i+1:Nat):Int):=by rw[aJ (by omega)];omega
   simp only[g1,Option.bind_some,g2,jf (show aR D 4<=4000000000 by omega),h1,decide_true,cond_true,e1,e2,e3,pS]
   by_cases Y:a+2<=D.length
   rotate_left
   ·have:¬ ((a+2:Nat):Int)<=(D.length:Int):=by omega
    simp only[this,decide_false,cond_false,if_neg Y]
   have Ic:((a+2:Nat):Int)<=(D.length:Int):=by omega
   obtain ⟨g5,g6⟩:=je (show a+1 < D.length by omega)
   obtain ⟨g3,g4⟩:=je (show a < D.length by omega)
   have hb:=jM D (a+1)
   have MW:=jM D a
   simp only[Ic,decide_true,cond_true,if_pos Y,Int.natCast_nonneg,if_true,Int.toNat_natCast,g5,g3,Option.bind_some,g6,g4,jf (show aR D (a+1)<=4000000000 by omega),jf (show aR D a<=4000000000 by omega)]
   have e4:ae (((a+2:Nat):Int)+(aR D (a+1):Int))=((a+2+aR D (a+1):Nat):Int):=by rw[aJ (by omega)];omega
   simp only[e4]
   by_cases h3:D.length < a+2+aR D (a+1)
   ·have:(D.length:Int) < ((a+2+aR D (a+1):Nat):Int):=by omega
    simp only[this,decide_true,cond_true,if_pos h3]
   have B_:¬ (D.length:Int) < ((a+2+aR D (a+1):Nat):Int):=by omega
   have h4:((a+2:Nat):Int)<=((a+2+aR D (a+1):Nat):Int)/\((a+2+aR D (a+1):Nat):Int)<=(D.length:Int):=by omega
   simp only[B_,decide_false,cond_false,if_neg h3,h4,and_self,if_true,Int.toNat_natCast]
   rw[pD _ (by simp only[List.length_drop,List.length_take];omega)]
   have hc:rs.length+[(((aR D a:Nat):Int),((D.take (a+2+aR D (a+1))).drop (a+2)),())].length<=bg:=cD (by simp only[List.length_cons,List.length_nil];omega)
   simp only[Option.bind_some,hc,if_true]
   exact ih (a+2+aR D (a+1)) (i+1) _ (by omega) (by omega) (by simp;omega) j (by omega)
theorem Ei (d:List UInt8) (hd:d.length<=2000000000):fy.ab (d,())=some (match k_ d with | none=>(G4,(0:Int),()) | some (r,n)=>(r,(n:Int),())):=by
 refine ag (k:=300) fun k hk=>(fy.aa k _).trans ?_
 unfold fy.p k_
 by_cases h7:d.length < 7
 ·have:(d.length:Int) < 7:=by omega
  simp only[this,decide_true,cond_true,h7,true_or,if_true]
  rfl
 have Oz:¬ (d.length:Int) < 7:=by omega
 obtain ⟨g1,g2⟩:=je (show 0 < d.length by omega)
 have hb:=jM d 0
 simp only[Oz,decide_false,cond_false,h7,false_or,g1,Option.bind_some,g2,jf (show aR d 0<=4000000000 by omega)]
 by_cases hl:d.length < aR d 0
 ·have:(d.length:Int) < (aR d 0:Int):=by omega
  simp only[this,decide_true,cond_true,hl,or_true,if_true]
  rfl
 have ii:¬ (d.length:Int) < (aR d 0:Int):=by omega
 by_cases hm:aR d 0 < 7
 ·have:(aR d 0:Int) < 7:=by omega
  simp only[ii,decide_false,cond_false,this,decide_true,cond_true,hm,true_or,if_true]
  rfl
 have wA:¬ (aR d 0:Int) < 7:=by omega
 have dM:0<=(aR d 0:Int)/\(aR d 0:Int)<=(d.length:Int):=by omega
 simp only[ii,wA,decide_false,cond_false,hl,hm,or_self,if_false,dM,and_self,if_true,Int.toNat_natCast,List.drop_zero]
 generalize Je:d.take (aR d 0)=D
 have OA:D.length=aR d 0:=by rw[<-Je];simp;omega
 have ga:∀ i,i < aR d 0->aR D i=aR d i:=fun i hi=>by rw[<-Je];exact Dl hi (by omega)
 obtain ⟨q1,q2⟩:=je (show 1 < D.length by omega)
 obtain ⟨q3,q4⟩:=je (show 2 < D.length by omega)
 obtain ⟨q5,q6⟩:=je (show 3 < D.length by omega)
 obtain ⟨q7,q8⟩:=je (show 4 < D.length by omega)
 have b1:=jM d 1
 have b2:=jM d 2
 have b3:=jM d 3
 have b4:=jM d 4
 have ew:ae ((D.length:Int) - 2)=((D.length - 2:Nat):Int):=by rw[aJ (by omega)];omega
 simp only[q1,q3,q5,q7,Option.bind_some,q2,q4,q6,q8,ga 1 (by omega),ga 2 (by omega),ga 3 (by omega),ga 4 (by omega),ew,jf (show aR d 1<=4000000000 by omega),jf (show aR d 2<=4000000000 by omega),jf (show aR d 3<=4000000000 by omega),jf (show aR d 4<=4000000000 by omega)]
 have hp:=Jc (D:=D) (by omega) (by omega) (a1:=(d,())) (e0:=fun z=>fy.Q0 k (d,()) D ((D.length - 2:Nat):Int) (aR d 4:Int) z) (K:=(aR d 1:Int)) (T:=(aR d 2:Int)) (P:=(aR d 3:Int)) (N:=(aR d 4:Int)) (by omega) (k:=k) (aR d 4) 5 0 [] (by omega) (by omega) (Nat.le_refl _) k (by omega)
 refine Eq.trans hp ?_
 rw[<-OA]
 cases oR:pI D (D.length - 2) (aR d 4) 5 [] with
 | none=>rfl
 | some q=>
  obtain ⟨rs,a⟩:=q
  simp only[fy.Q0,fy.q0]
  by_cases ha:a=D.length - 2
  rotate_left
  ·have:¬ ((a:Int)=((D.length - 2:Nat):Int)):=by omega
   simp only[this,decide_false,Bool.not_false,cond_true,ha,false_and,if_false]
   rfl
  subst ha
  simp only[decide_true,Bool.not_true,cond_false,yW,Option.bind_some,true_and]
  by_cases hr:ma ((aR d 1:Int),(aR d 2:Int),(aR d 3:Int),rs,())=0
  rotate_left
  ·simp only[hr,decide_false,Bool.not_false,cond_true,false_and,if_false]
   rfl
  have hs:=Dj hr
  have dN:=Ef hs
  simp only[hr,decide_true,Bool.not_true,cond_false,Eh _ hs,Option.bind_some,true_and]
  rw[Dm _ _ (by omega)]
  by_cases he:qE ((aR d 1:Int),(aR d 2:Int),(aR d 3:Int),rs,())=D
  ·simp only[he,decide_true,Option.bind_some,Bool.not_true,cond_false,if_true]
  ·simp only[he,decide_false,Option.bind_some,Bool.not_false,cond_true,if_false]
   rfl
theorem Ej (d:List UInt8) (hd:d.length<=2000000000):gE.ab (d,())=some (match k_ d with | none=>(((5:Int),(0:Int),G4,()),()) | some (r,n)=>(((0:Int),(n:Int),r,()),())):=by
 refine ag (k:=300) fun k hk=>(gE.aa k _).trans ?_
 show gE.p _=_
 unfold gE.p k_
 by_cases h7:d.length < 7
 ·have:(d.length:Int) < 7:=by omega
  simp only[this,decide_true,cond_true,h7,true_or,if_true]
  rfl
 have Oz:¬ (d.length:Int) < 7:=by omega
 obtain ⟨g1,g2⟩:=je (show 0 < d.length by omega)
 have hb:=jM d 0
 simp only[Oz,decide_false,cond_false,h7,false_or,g1,Option.bind_some,g2,jf (show aR d 0<=4000000000 by omega)]
 by_cases hm:aR d 0 < 7
 ·have:(aR d 0:Int) < 7:=by omega
  simp only[this,decide_true,cond_true,hm,true_or,if_true]
  rfl
 have wA:¬ (aR d 0:Int) < 7:=by omega
 by_cases hl:d.length < aR d 0
 ·have:(d.length:Int) < (aR d 0:Int):=by omega
  simp only[wA,decide_false,cond_false,this,decide_true,cond_true,hl,or_true,if_true]
  rfl
 have ii:¬ (d.length:Int) < (aR d 0:Int):=by omega
 have dM:0<=(aR d 0:Int)/\(aR d 0:Int)<=(d.length:Int):=by omega
 simp only[ii,wA,decide_false,cond_false,hl,hm,or_self,if_false,dM,and_self,if_true,Int.toNat_natCast,List.drop_zero]
 generalize Je:d.take (aR d 0)=D
 have OA:D.length=aR d 0:=by rw[<-Je];simp;omega
 have ga:∀ i,i < aR d 0->aR D i=aR d i:=fun i hi=>by rw[<-Je];exact Dl hi (by omega)
 have Py:ft.ab (D,())=some (((aR d 1:Int),(aR d 2:Int),(aR d 3:Int),pS D (aR d 4) 5 [],()),()):=by
  refine ag (k:=300) fun k hk=>(ft.aa k _).trans ?_
  unfold ft.p
  obtain ⟨q1,q2⟩:=je (show 1 < D.length by omega)
  obtain ⟨q3,q4⟩:=je (show 2 < D.length by omega)
  obtain ⟨q5,q6⟩:=je (show 3 < D.length by omega)
  have b1:=jM d 1
  have b2:=jM d 2
  have b3:=jM d 3
  have b4:=jM d 4
  simp only[q1,q3,q5,Option.bind_some,q2,q4,q6,ga 1 (by omega),ga 2 (by omega),ga 3 (by omega),jf (show aR d 1<=4000000000 by omega),jf (show aR d 2<=4000000000 by omega),jf (show aR d 3<=4000000000 by omega)]
  have hp:=Jd (D:=D) (by omega) (by omega) (e0:=fun z=>ft.Q0 k (D,()) z) (K:=(aR d 1:Int)) (T:=(aR d 2:Int)) (P:=(aR d 3:Int)) (k:=k) (aR D 4) 5 0 [] (by omega) (by omega) (Nat.le_refl _) k (by rw[ga 4 (by omega)];omega)
  refine Eq.trans hp ?_
  rw[ga 4 (by omega)]
  rfl
 rw[Py]
 simp only[Option.bind_some,yV]
 rw[<-OA]
 generalize Ax:pS D (aR d 4) 5 []=rs
 by_cases hr:ma ((aR d 1:Int),(aR d 2:Int),(aR d 3:Int),rs,())=0
 ·have hs:=Dj hr
  simp only[hr,decide_true,Bool.not_true,cond_false,Eg _ hs,Option.bind_some]
  by_cases he:qE ((aR d 1:Int),(aR d 2:Int),(aR d 3:Int),rs,())=D
  ·have h4:aR D 4=aR d 4:=ga 4 (by omega)
   have oR:=Px (D:=D) (by omega) (by rw[h4];exact Ax) hr he
   rw[h4] at oR
   rw[oR]
   simp[he,hr]
  ·simp only[he,decide_false,Bool.not_false,cond_true]
   cases oR:pI D (D.length - 2) (aR d 4) 5 [] with
   | none=>rfl
   | some q=>
    obtain ⟨Aw,a'⟩:=q
    have:=G3 (by omega) _ _ _ _ _ oR
    rw[Ax] at this
    subst this
    simp only[he,and_false,if_false]
    rfl
 ·simp only[hr,decide_false,Bool.not_false,cond_true]
  cases oR:pI D (D.length - 2) (aR d 4) 5 [] with
  | none=>rfl
  | some q=>
   obtain ⟨Aw,a'⟩:=q
   have:=G3 (by omega) _ _ _ _ _ oR
   rw[Ax] at this
   subst this
   simp only[hr,false_and,and_false,if_false]
   rfl
end OT
