/- The proof's parts, merged: Transactions  what the program and the reference find at fault  conditions on the lengths alone.. No conditions but those that each states. -/
import Derived.Test.YtledflocbohofaaGreatSf
set_option linter.unusedVariables false
set_option linter.unusedSimpArgs false
namespace OT
open Go
theorem for_loopE {V S O α:Type} {B:(V->Option O)->V->Option O} (xs:List α) (enc:S->Int->V) (f:Nat->S->α->Sum (Option O) S) (fin:S->Option O) (I:Nat->S->Prop) (hmax:xs.length<=maxLen)
  (hin:∀ (i:Nat) (hi:i < xs.length) (s:S) self,I i s->B self (enc s (i:Int))=match f i s xs[i] with | .inl o=>o | .inr s'=>self (enc s' (w64 ((i:Int)+1))))
  (hI:∀ (i:Nat) (hi:i < xs.length) (s s':S),I i s->f i s xs[i]=.inr s'->I (i+1) s')
  (hout:∀ (s:S) self,I xs.length s->B self (enc s (xs.length:Int))=fin s) (s:S) (h0:I 0 s):∀ k,xs.length < k->rawIter B k (enc s 0)=forI f fin 0 xs s:=by
 have main:∀ (m i:Nat) (s:S),xs.length - i=m->i<=xs.length->I i s->∀ k,m < k->rawIter B k (enc s (i:Int))=forI f fin i (xs.drop i) s:=by
  intro m
  induction m with
  | zero=>
   intro i s hm hi hs k hk
   have hi':i=xs.length:=by omega
   subst hi'
   cases k with
   | zero=>omega
   | succ k=>
    show B (rawIter B k) _=_
    rw[hout s _ hs]
    simp[forI]
  | succ m ih=>
   intro i s hm hi hs k hk
   have hlt:i < xs.length:=by omega
   cases k with
   | zero=>omega
   | succ k=>
    show B (rawIter B k) _=_
    rw[hin i hlt s _ hs,List.drop_eq_getElem_cons hlt]
    simp only[forI]
    cases hf:f i s xs[i] with
    | inl o=>rfl
    | inr s'=>
     have hw:w64 ((i:Int)+1)=((i+1:Nat):Int):=by rw[w64_in (by rw[maxLen_val] at hmax;omega)];omega
     simp only[hw]
     exact ih (i+1) s' (by omega) (by omega) (hI i hlt s s' hs hf) k (by omega)
 intro k hk
 simpa using main xs.length 0 s (by omega) (by omega) h0 k hk
theorem forI_any {O α:Type} (p:α->Bool) (a:O) (fin:Unit->O):∀ (xs:List α) (i:Nat),forI (fun _ _ x=>if p x then .inl a else .inr ()) fin i xs ()=if xs.any p then a else fin ()
 | [],_=>rfl
 | x::xs,i=>by
  simp only[forI,List.any_cons]
  by_cases h:p x=true
  ·simp[h]
  ·simp[h,forI_any p a fin xs (i+1)]
def whereF {α:Type} (p:α->Bool):Nat->List α->Int
 | _,[]=>-1
 | i,x::xs=>if p x then (i:Int) else whereF p (i+1) xs
theorem forI_where {α:Type} (p:α->Bool):∀ (xs:List α) (i:Nat),forI (fun i _ x=>if p x then .inl ((i:Int),()) else .inr ()) (fun _=>((-1:Int),())) i xs ()=(whereF p i xs,())
 | [],_=>rfl
 | x::xs,i=>by
  simp only[forI,whereF]
  by_cases h:p x=true
  ·simp[h]
  ·simp[h,forI_where p xs (i+1)]
theorem where_any {α:Type} (p:α->Bool):∀ (xs:List α) (i:Nat),decide (0<=whereF p i xs)=xs.any p
 | [],_=>rfl
 | x::xs,i=>by
  simp only[whereF,List.any_cons]
  by_cases h:p x=true
  ·simp[h]
  ·simp[h,where_any p xs (i+1)]
theorem kq_eq (a b:Key):Ty.eq tKey a b=decide (a=b):=by
 obtain ⟨a1,a2,⟨⟩⟩:=a
 obtain ⟨b1,b2,⟨⟩⟩:=b
 show (decide (a1=b1)&&(decide (a2=b2)&&true))=decide ((a1,a2,())=(b1,b2,()))
 by_cases h1:a1=b1 <;> by_cases h2:a2=b2 <;> simp[h1,h2]
def keyOfC (c:Change):Key:=((ck c).1,(ck c).2,())
def hasK (ks:List Key) (k:Key):Bool:=ks.any fun x=>decide (x=k)
theorem hasK_iff {ks:List Key} {k:Key}:hasK ks k=true↔k ∈ ks:=by simp[hasK]
def keyB2 (k:Key):Bool:=inB k.1 0 3&&inB k.2.1 1 99
theorem specKeyOf_eq (c:Change):spec_l10KeyOf.sem (c,())=some (keyOfC c,()):=by
 refine lift_eq (k:=0) fun k _=>(spec_l10KeyOf.raw_eq k _).trans ?_
 show spec_l10KeyOf.p _=_
 unfold spec_l10KeyOf.p
 simp only[specKey_eq,Option.bind_some]
 rfl
theorem lock_eq (c:Change):impl_Change_lock.sem (c,())=some (keyOfC c,()):=by
 refine lift_eq (k:=0) fun k _=>(impl_Change_lock.raw_eq k _).trans ?_
 show impl_Change_lock.p _=_
 unfold impl_Change_lock.p keyOfC
 simp only[implKey_eq,Option.bind_some,<- keyRow_ck]
theorem specKeyB_eq (x:Key):spec_l10Key.sem (x,())=some (keyB2 x,()):=by
 refine lift_eq (k:=0) fun k _=>(spec_l10Key.raw_eq k _).trans ?_
 show spec_l10Key.p _=_
 unfold spec_l10Key.p keyB2 inB
 simp only[specIn_eq,Option.bind_some]
 cases decide ((0:Int)<=x.1) <;> cases decide (x.1<=3) <;> rfl
theorem isKey_eq (x:Key):impl_isKey.sem (x.1,x.2.1,())=some (keyB2 x,()):=by
 refine lift_eq (k:=0) fun k _=>(impl_isKey.raw_eq k _).trans ?_
 show impl_isKey.p _=_
 unfold impl_isKey.p keyB2 inB
 simp only[implIn_eq,Option.bind_some]
 cases decide ((0:Int)<=x.1) <;> cases decide (x.1<=3) <;> rfl
theorem locks_eq (x:Tx) (k0:Key) (h:List.length x.2.2.2.1<=maxLen):spec_l10Locks.sem (x,k0,())=some (hasK x.2.2.2.1 k0,()):=by
 refine lift_eq (k:=List.length x.2.2.2.1+1) fun k hk=>(spec_l10Locks.raw_eq k _).trans ?_
 have:=for_loop (B:=fun self v=>spec_l10Locks.B0 0 self (fun z=>spec_l10Locks.Q0 0 (x,k0,()) z) (x,k0,()) v) x.2.2.2.1 (fun (_:Unit) (i:Int)=>i) (fun _ _ y=>if decide (y=k0) then .inl (true,()) else .inr ()) (fun _=>(false,())) (fun _ _=>True) h
  (fun i hi s self _=>by
   show spec_l10Locks.b0 _ _ _ _=_
   unfold spec_l10Locks.b0
   have hlt:(i:Int) < (List.length x.2.2.2.1:Int):=by omega
   simp only[hlt,decide_true,cond_true,Int.natCast_nonneg,if_true,Int.toNat_natCast,List.getElem?_eq_getElem hi,Option.bind_some,kq_eq]
   by_cases hh:(x.2.2.2.1)[i]=k0
   ·simp only[hh,decide_true,cond_true,if_true]
   ·simp only[hh,decide_false,cond_false,Bool.false_eq_true,if_false])
  (fun _ _ _ _ _ _=>trivial) (fun s self _=>by
   show spec_l10Locks.b0 _ _ _ _=_
   unfold spec_l10Locks.b0
   simp only[Int.lt_irrefl,decide_false,cond_false]
   rfl) () trivial k (by omega)
 rw[forI_any] at this
 refine Eq.trans this ?_
 unfold hasK
 cases x.2.2.2.1.any (fun y=>decide (y=k0)) <;> rfl
theorem contains_eq (ks:List Key) (k0:Key) (h:ks.length<=maxLen):slices_Contains_Key.sem (ks,k0,())=some (hasK ks k0,()):=by
 have hix:slices_Index_Key.sem (ks,k0,())=some (whereF (fun y=>decide (k0=y)) 0 ks,()):=by
  refine lift_eq (k:=ks.length+1) fun k hk=>(slices_Index_Key.raw_eq k _).trans ?_
  have:=for_loop (B:=fun self v=>slices_Index_Key.B0 0 self (fun z=>slices_Index_Key.Q0 0 (ks,k0,()) z) (ks,k0,()) v) ks (fun (_:Unit) (i:Int)=>i) (fun i _ y=>if decide (k0=y) then .inl ((i:Int),()) else .inr ()) (fun _=>((-1:Int),())) (fun _ _=>True) h
   (fun i hi s self _=>by
    show slices_Index_Key.b0 _ _ _ _=_
    unfold slices_Index_Key.b0
    have hlt:(i:Int) < (ks.length:Int):=by omega
    simp only[hlt,decide_true,cond_true,Int.natCast_nonneg,if_true,Int.toNat_natCast,List.getElem?_eq_getElem hi,Option.bind_some,kq_eq]
    by_cases hh:k0=ks[i]
    ·simp only[<-hh,decide_true,cond_true,if_true]
    ·simp only[hh,decide_false,cond_false,Bool.false_eq_true,if_false])
   (fun _ _ _ _ _ _=>trivial) (fun s self _=>by
    show slices_Index_Key.b0 _ _ _ _=_
    unfold slices_Index_Key.b0
    simp only[Int.lt_irrefl,decide_false,cond_false]
    rfl) () trivial k (by omega)
  rw[forI_where] at this
  exact this
 refine lift_eq (k:=0) fun k _=>(slices_Contains_Key.raw_eq k _).trans ?_
 show slices_Contains_Key.p _=_
 unfold slices_Contains_Key.p
 rw[hix]
 simp only[Option.bind_some,where_any]
 congr 2
 unfold hasK
 congr 1
 funext y
 by_cases hh:k0=y
 ·simp[hh]
 ·have:¬ y=k0:=fun e=>hh e.symm
  simp[hh,this]
def tl (x:Tx):Prop:=List.length x.2.1<=1048576/\List.length x.2.2.1<=1048576/\List.length x.2.2.2.1<=1048576/\∀ c ∈ x.2.1,cl c
def undoC (ks:List Key) (c:Change):Int:=if chS c=0 then (if hasK ks (keyOfC c) then 0 else 8) else chS c
def marksL (n last:Int) (ms:List Int):Bool:=forI (fun _ last m=>if inB m last n then .inr m else .inl false) (fun _=>true) 0 ms last
def lockC (ks:List Key) (i:Nat) (k:Key):Int:=if keyB2 k then (if hasK (ks.take i) k then 6 else 0) else 3
def locksL (ks:List Key):Int:=forI (fun i (_:Unit) k=>if lockC ks i k=0 then .inr () else .inl (lockC ks i k)) (fun _=>(0:Int)) 0 ks ()
def marksF (x:Tx):Int:=if decide (8 < List.length x.2.2.1)||decide (12 < List.length x.2.2.2.1) then 2 else if marksL (List.length x.2.1:Int) 0 x.2.2.1 then locksL x.2.2.2.1 else 3
def undoF (x:Tx):Int:=firstF (undoC x.2.2.2.1) x.2.1
theorem marksE (n:Int) (E:Option (Int×Unit)):∀ (ms:List Int) (i:Nat) (last:Int),forI (fun _ last m=>if inB m last n then .inr m else .inl (some ((3:Int),()))) (fun _=>E) i ms last=if forI (fun _ last m=>if inB m last n then .inr m else .inl false) (fun _=>true) i ms last then E else some ((3:Int),())
 | [],_,_=>rfl
 | m::ms,i,last=>by
  simp only[forI]
  by_cases hb:inB m last n=true
  ·simp only[hb,if_true];exact marksE n E ms _ _
  ·simp[hb]
theorem specUndo_eq (x:Tx) (h:tl x):spec_l10Undo.sem (x,())=some (undoF x,()):=by
 obtain ⟨h1,h2,h3,h4⟩:=h
 refine lift_eq (k:=List.length x.2.1+1) fun k hk=>(spec_l10Undo.raw_eq k _).trans ?_
 have:=for_loop (B:=fun self v=>spec_l10Undo.B0 0 self (fun z=>spec_l10Undo.Q0 0 (x,()) z) (x,()) v) x.2.1 (fun (_:Unit) (i:Int)=>i) (fun _ _ c=>if undoC x.2.2.2.1 c=0 then .inr () else .inl (undoC x.2.2.2.1 c,())) (fun _=>(0,())) (fun _ _=>True) (by rw[maxLen_val];omega)
  (fun i hi s self _=>by
   show spec_l10Undo.b0 _ _ _ _=_
   unfold spec_l10Undo.b0
   have hlt:(i:Int) < (List.length x.2.1:Int):=by omega
   simp only[hlt,decide_true,cond_true,Int.natCast_nonneg,if_true,Int.toNat_natCast,List.getElem?_eq_getElem hi,Option.bind_some,specChangeS_eq _ (h4 _ (List.getElem_mem hi)),specKeyOf_eq]
   rw[locks_eq x _ (by rw[maxLen_val];omega)]
   unfold undoC
   by_cases hc:chS (x.2.1)[i]=0
   ·simp only[hc,decide_true,Bool.not_true,cond_false,if_true,Option.bind_some]
    cases hasK x.2.2.2.1 (keyOfC (x.2.1)[i]) <;> rfl
   ·simp only[hc,decide_false,Bool.not_false,cond_true,if_false])
  (fun _ _ _ _ _ _=>trivial) (fun s self _=>by
   show spec_l10Undo.b0 _ _ _ _=_
   unfold spec_l10Undo.b0
   simp only[Int.lt_irrefl,decide_false,cond_false]
   rfl) () trivial k (by omega)
 rw[forI_first (undoC x.2.2.2.1) (fun c=>(c,())) (fun _=>((0:Int),()))] at this
 refine Eq.trans this ?_
 unfold undoF
 split
 ·rename_i h0;rw[h0]
 ·rfl
theorem inB_last {m last n:Int} (h:0<=last):(inB m 0 n&&decide (last<=m))=inB m last n:=by
 unfold inB
 by_cases h1:last<=m
 ·have:(0:Int)<=m:=by omega
  simp[h1,this]
 ·simp[h1]
theorem specMarks_eq (x:Tx) (h:tl x):spec_l10Marks.sem (x,())=some (marksF x,()):=by
 obtain ⟨h1,h2,h3,h4⟩:=h
 refine lift_eq (k:=20) fun k hk=>(spec_l10Marks.raw_eq k _).trans ?_
 unfold spec_l10Marks.p marksF
 by_cases hm:8 < List.length x.2.2.1
 ·have:(8:Int) < (List.length x.2.2.1:Int):=by omega
  simp only[this,hm,decide_true,cond_true,Bool.true_or,if_true]
  (try rfl)
 have hm':¬ (8:Int) < (List.length x.2.2.1:Int):=by omega
 by_cases hk2:12 < List.length x.2.2.2.1
 ·have:(12:Int) < (List.length x.2.2.2.1:Int):=by omega
  simp only[this,hm,hm',hk2,decide_true,decide_false,cond_true,cond_false,Bool.false_or,if_true]
  (try rfl)
 have hk':¬ (12:Int) < (List.length x.2.2.2.1:Int):=by omega
 simp only[hm,hm',hk',hk2,decide_false,cond_false,Bool.or_self,Bool.false_eq_true,if_false]
 have second:spec_l10Marks.r1 k (x,()) (x,(0:Int))=some (locksL x.2.2.2.1,()):=by
  have inner:∀ (self:(Tx×Int)->Option spec_l10Marks.Out) (e2:Unit->Option spec_l10Marks.Out) (i:Nat) (hi:i < List.length x.2.2.2.1),spec_l10Marks.r2 k self e2 (x,()) x (i:Int) (0:Int)=if hasK (x.2.2.2.1.take i) (x.2.2.2.1)[i] then some ((6:Int),()) else self (x,w64 ((i:Int)+1)):=fun self e2 i hi=>by
   have hti:(x.2.2.2.1.take i).length=i:=by simp;omega
   have:=for_loopE (B:=fun self' v=>spec_l10Marks.B2 k self' (fun z=>spec_l10Marks.Q1 k self e2 (x,()) x (i:Int) z) (x,()) x (i:Int) v) (x.2.2.2.1.take i) (fun (_:Unit) (j:Int)=>j) (fun _ _ y=>if decide (y=(x.2.2.2.1)[i]) then .inl (some ((6:Int),())) else .inr ()) (fun _=>self (x,w64 ((i:Int)+1))) (fun _ _=>True) (by rw[maxLen_val];omega)
    (fun j hj s self' _=>by
     show spec_l10Marks.b2 _ _ _ _ _ _=_
     unfold spec_l10Marks.b2
     rw[hti] at hj
     have hlt:(j:Int) < (i:Int):=by omega
     have hjl:j < List.length x.2.2.2.1:=by omega
     simp only[hlt,decide_true,cond_true,Int.natCast_nonneg,if_true,Int.toNat_natCast,List.getElem?_eq_getElem hjl,List.getElem?_eq_getElem hi,Option.bind_some,kq_eq,List.getElem_take]
     by_cases hh:(x.2.2.2.1)[j]=(x.2.2.2.1)[i]
     ·simp only[hh,decide_true,cond_true,if_true]
     ·simp only[hh,decide_false,cond_false,Bool.false_eq_true,if_false])
    (fun _ _ _ _ _ _=>trivial) (fun s self' _=>by
     show spec_l10Marks.b2 _ _ _ _ _ _=_
     unfold spec_l10Marks.b2
     simp only[hti,Int.lt_irrefl,decide_false,cond_false]
     rfl) () trivial k (by omega)
   rw[forI_any] at this
   exact this
  have:=for_loop (B:=fun self v=>spec_l10Marks.B1 k self (fun z=>spec_l10Marks.Q2 k (x,()) z) (x,()) v) x.2.2.2.1 (fun (_:Unit) (i:Int)=>(x,i)) (fun i _ y=>if lockC x.2.2.2.1 i y=0 then .inr () else .inl (lockC x.2.2.2.1 i y,())) (fun _=>(0,())) (fun _ _=>True) (by rw[maxLen_val];omega)
   (fun i hi s self _=>by
    show spec_l10Marks.b1 _ _ _ _ _=_
    unfold spec_l10Marks.b1 lockC
    have hlt:(i:Int) < (List.length x.2.2.2.1:Int):=by omega
    simp only[hlt,decide_true,cond_true,Int.natCast_nonneg,if_true,Int.toNat_natCast,List.getElem?_eq_getElem hi,Option.bind_some,specKeyB_eq]
    rw[inner self _ i hi]
    cases keyB2 (x.2.2.2.1)[i] <;> cases hasK (x.2.2.2.1.take i) (x.2.2.2.1)[i] <;> rfl)
   (fun _ _ _ _ _ _=>trivial) (fun s self _=>by
    show spec_l10Marks.b1 _ _ _ _ _=_
    unfold spec_l10Marks.b1
    simp only[Int.lt_irrefl,decide_false,cond_false]
    rfl) () trivial k (by omega)
  refine Eq.trans this ?_
  unfold locksL
  generalize hks:x.2.2.2.1=ks
  have gen:∀ (f:Nat->Key->Int) (ys:List Key) (i:Nat),forI (fun i (_:Unit) y=>if f i y=0 then .inr () else .inl (f i y,())) (fun _=>((0:Int),())) i ys ()=(forI (fun i (_:Unit) y=>if f i y=0 then .inr () else .inl (f i y)) (fun _=>(0:Int)) i ys (),()):=by
   intro f ys
   induction ys with
   | nil=>intro i;rfl
   | cons y ys ih=>intro i;simp only[forI];by_cases h0:f i y=0 <;> simp[h0,ih]
  rw[gen (lockC ks)]
 have:=for_loopE (B:=fun self v=>spec_l10Marks.B0 k self (fun z=>spec_l10Marks.Q0 k (x,()) z) (x,()) v) x.2.2.1 (fun (_:Int) (i:Int)=>i) (fun i last m=>if inB m last (List.length x.2.1:Int) then .inr m else .inl (some ((3:Int),()))) (fun _=>some (locksL x.2.2.2.1,()))
  (fun i last=>0<=last/\(i=0->last=0)/\∀ y,0 < i->x.2.2.1[i - 1]?=some y->last=y) (by rw[maxLen_val];omega)
  (fun i hi last self hI=>by
   obtain ⟨i1,i2,i3⟩:=hI
   show spec_l10Marks.b0 _ _ _ _=_
   unfold spec_l10Marks.b0
   have hlt:(i:Int) < (List.length x.2.2.1:Int):=by omega
   simp only[hlt,decide_true,cond_true,Int.natCast_nonneg,if_true,Int.toNat_natCast,List.getElem?_eq_getElem hi,Option.bind_some,specIn_eq]
   generalize hmm:(x.2.2.1)[i]=m
   rw[<-inB_last i1]
   show (bif !inB m 0 (List.length x.2.1:Int) then _ else _)=_
   cases hb0:inB m 0 (List.length x.2.1:Int) with
   | false=>rfl
   | true=>
    have hm0:0<=m:=by
     simp only[inB,Bool.and_eq_true,decide_eq_true_eq] at hb0
     exact hb0.1
    simp only[Bool.not_true,cond_false,Bool.true_and]
    by_cases h0:i=0
    ·subst h0
     have:=i2 rfl
     subst this
     have hz:¬ (0:Int) < ((0:Nat):Int):=by omega
     simp only[hz,hm0,decide_true,decide_false,cond_false,if_true]
    ·have hi1:i - 1 < List.length x.2.2.1:=by omega
     have hl:=i3 (x.2.2.1)[i - 1] (by omega) (List.getElem?_eq_getElem hi1)
     have hp:(0:Int) < (i:Int):=by omega
     simp only[hp,decide_true,cond_true,wprev (show 0 < i by omega) (by rw[maxLen_val];omega),Int.natCast_nonneg,if_true,Int.toNat_natCast,List.getElem?_eq_getElem hi1,Option.bind_some]
     rw[<-hl]
     by_cases hc:last<=m
     ·have:¬ m < last:=by omega
      simp only[hc,this,decide_true,decide_false,cond_false,if_true]
     ·have:m < last:=by omega
      simp only[hc,this,decide_true,decide_false,cond_true,Bool.false_eq_true,if_false])
  (fun i hi last last' hI hs=>by
   split at hs
   ·rename_i hb
    injection hs with hs
    subst hs
    simp only[inB,Bool.and_eq_true,decide_eq_true_eq] at hb
    refine ⟨by omega,fun e=>by omega,fun y _ hy=>?_⟩
    rw[Nat.add_sub_cancel,List.getElem?_eq_getElem hi] at hy
    injection hy
   ·cases hs)
  (fun last self hI=>by
   show spec_l10Marks.b0 _ _ _ _=_
   unfold spec_l10Marks.b0
   simp only[Int.lt_irrefl,decide_false,cond_false]
   exact second) 0 ⟨Int.le_refl _,fun _=>rfl,fun _ h=>by omega⟩ k (by omega)
 refine Eq.trans this ?_
 unfold marksL
 rw[marksE]
 cases forI (fun _ last m=>if inB m last (List.length x.2.1:Int) then .inr m else .inl false) (fun _=>true) 0 x.2.2.1 0 <;> rfl
end OT
set_option linter.unusedVariables false
set_option linter.unusedSimpArgs false
namespace OT
open Go
def pb (D:List UInt8) (i:Nat):Nat:=(D.getD i 0).toNat
theorem pb_lt (D:List UInt8) (i:Nat):pb D i < 256:=UInt8.toNat_lt _
theorem pb_get {D:List UInt8} {i:Nat} (h:i < D.length):D[i]?=some D[i]/\(D[i]).toNat=pb D i:=⟨List.getElem?_eq_getElem h,by simp[pb,h]⟩
theorem pb_ext {A B:List UInt8} (h:A.length=B.length) (h2:∀ j,j < A.length->pb A j=pb B j):A=B:=by
 refine List.ext_getElem h fun i h1 h3=>?_
 have:=h2 i h1
 rw[<-(pb_get h1).2,<- (pb_get h3).2] at this
 exact UInt8.toNat_inj.1 this
theorem pb_piece (D:List UInt8) (a n j:Nat) (h:j < n):pb ((D.drop a).take n) j=pb D (a+j):=by
 unfold pb
 simp only[List.getD_eq_getElem?_getD,List.getElem?_take,h,if_true,List.getElem?_drop]
def pn (p:List UInt8):Nat:=pb p 0
def plo (p:List UInt8):Nat:=pb p 1
def pat (p:List UInt8) (i:Nat):Nat:=pb p (2+2*i)
def psz (p:List UInt8) (i:Nat):Nat:=pb p (3+2*i)
def slotB (p:List UInt8) (i:Nat):Bool:=if pat p i=0\/psz p i=0 then decide (pat p i=psz p i) else decide (plo p<=pat p i)&&decide (pat p i+psz p i<=64)
def apartP (p:List UInt8) (i k:Nat):Bool:=(decide (psz p i=0)||decide (psz p k=0))||(decide (pat p i+psz p i<=pat p k)||decide (pat p k+psz p k<=pat p i))
def pageF (p:List UInt8):Int:=
 if p.length=64 then
  if pn p<=16/\2+2*pn p<=plo p/\plo p<=64 then
   if (List.range (pn p)).all (slotB p) then
    if (List.range (pn p)).all (fun i=>(List.range i).all (apartP p i)) then
     if 0 < pn p/\psz p (pn p - 1)=0 then 8 else 0
    else 8
   else 3
  else 3
 else 1
structure PageOk (p:List UInt8):Prop where
 len:p.length=64
 n:pn p<=16
 lo:2+2*pn p<=plo p
 hi:plo p<=64
 slot:∀ i,i < pn p->psz p i≠0->plo p<=pat p i/\pat p i+psz p i<=64
 zero:∀ i,i < pn p->psz p i=0->pat p i=0
 apart:∀ i k,i < pn p->k < pn p->i≠k->psz p i≠0->psz p k≠0->pat p i+psz p i<=pat p k\/pat p k+psz p k<=pat p i
 last:0 < pn p->psz p (pn p - 1)≠0
theorem slotB_iff {p:List UInt8} {i:Nat} (hlo:2<=plo p):slotB p i=true↔(psz p i≠0->plo p<=pat p i/\pat p i+psz p i<=64)/\(psz p i=0->pat p i=0):=by
 unfold slotB
 by_cases h1:psz p i=0
 ·simp[h1]
 ·by_cases h2:pat p i=0
  ·simp[h1,h2]
   omega
  ·simp[h1,h2]
theorem apartP_iff {p:List UInt8} {i k:Nat}:apartP p i k=true↔(psz p i≠0->psz p k≠0->pat p i+psz p i<=pat p k\/pat p k+psz p k<=pat p i):=by
 unfold apartP
 by_cases h1:psz p i=0
 ·simp[h1]
 ·by_cases h2:psz p k=0
  ·simp[h2]
  ·simp[h1,h2]
theorem pageF_iff {p:List UInt8}:pageF p=0↔PageOk p:=by
 constructor
 ·intro h
  unfold pageF at h
  split at h
  ·rename_i h1
   split at h
   ·rename_i h2
    split at h
    ·rename_i h3
     split at h
     ·rename_i h4
      split at h
      ·cases h
      ·rename_i h5
       have hs:∀ i,i < pn p->(psz p i≠0->plo p<=pat p i/\pat p i+psz p i<=64)/\(psz p i=0->pat p i=0):=fun i hi=>(slotB_iff (by omega)).1 (List.all_eq_true.1 h3 i (List.mem_range.2 hi))
       have ha:∀ i k,i < pn p->k < i->psz p i≠0->psz p k≠0->pat p i+psz p i<=pat p k\/pat p k+psz p k<=pat p i:=fun i k hi hk=>apartP_iff.1 (List.all_eq_true.1 (List.all_eq_true.1 h4 i (List.mem_range.2 hi)) k (List.mem_range.2 hk))
       refine ⟨h1,h2.1,h2.2.1,h2.2.2,fun i hi=>(hs i hi).1,fun i hi=>(hs i hi).2,fun i k hi hk hik z1 z2=>?_,fun hn hz=>h5 ⟨hn,hz⟩⟩
       rcases Nat.lt_or_gt_of_ne hik with h6 | h6
       ·exact (ha k i hk h6 z2 z1).symm
       ·exact ha i k hi h6 z1 z2
     ·cases h
    ·cases h
   ·cases h
  ·cases h
 ·intro h
  unfold pageF
  rw[if_pos h.len,if_pos ⟨h.n,h.lo,h.hi⟩,if_pos,if_pos,if_neg]
  ·intro ⟨h1,h2⟩
   exact h.last h1 h2
  ·refine List.all_eq_true.2 fun i hi=>List.all_eq_true.2 fun k hk=>apartP_iff.2 ?_
   have:=List.mem_range.1 hi
   have:=List.mem_range.1 hk
   exact h.apart i k (by omega) (by omega) (by omega)
  ·exact List.all_eq_true.2 fun i hi=>(slotB_iff (by have:=h.lo;omega)).2 ⟨h.slot i (List.mem_range.1 hi),h.zero i (List.mem_range.1 hi)⟩
def cellP (p:List UInt8) (i:Nat):List UInt8:=(p.drop (pat p i)).take (psz p i)
def cellOf (p:List UInt8) (i:Nat):List UInt8:=if i < pn p then cellP p i else []
theorem cellP_len {p:List UInt8} (h:PageOk p) {i:Nat} (hi:i < pn p):(cellP p i).length=psz p i:=by
 unfold cellP
 by_cases hz:psz p i=0
 ·simp[hz]
 ·have:=h.slot i hi hz
  have:=h.len
  simp only[List.length_take,List.length_drop]
  omega
theorem cellP_pb (p:List UInt8) (i j:Nat) (h:j < psz p i):pb (cellP p i) j=pb p (pat p i+j):=pb_piece p _ _ j h
theorem cellP_eq {p q:List UInt8} {i k:Nat} (hp:(cellP p i).length=psz p i) (hq:(cellP q k).length=psz q k) (hs:psz p i=psz q k) (hb:∀ j,j < psz p i->pb p (pat p i+j)=pb q (pat q k+j)):cellP p i=cellP q k:=by
 refine pb_ext (by omega) fun j hj=>?_
 rw[cellP_pb p i j (by omega),cellP_pb q k j (by omega)]
 exact hb j (by omega)
theorem cellP_is {p c:List UInt8} {i:Nat} (hp:(cellP p i).length=psz p i) (hs:psz p i=c.length) (hb:∀ j,j < c.length->pb p (pat p i+j)=pb c j):cellP p i=c:=by
 refine pb_ext (by omega) fun j hj=>?_
 rw[cellP_pb p i j (by omega)]
 exact hb j (by omega)
def stand (p:List UInt8) (s a:Nat) (c:List UInt8):List UInt8:=((over p a c.length c).set (2+2*s) (UInt8.ofNat a)).set (3+2*s) (UInt8.ofNat c.length)
structure Turned (p q:List UInt8) (s a m:Nat):Prop where
 len:q.length=64
 n:pn q=pn p\/(pn q=pn p+1/\s=pn p)
 s_lt:s < pn q
 n16:pn q<=16
 lo:2+2*pn q<=plo q
 lo2:plo q<=plo p
 at_:pat q s=a
 sz:psz q s=m
 pos:0 < m
 a_lo:plo q<=a
 a_hi:a+m<=64
 oth:∀ i,i < pn q->i≠s->pat q i=pat p i/\psz q i=psz p i
 free:∀ i,i < pn p->i≠s->psz p i≠0->a+m<=pat p i\/pat p i+psz p i<=a
 same:∀ j,plo p<=j->j < 64->(j < a\/a+m<=j)->pb q j=pb p j
theorem Turned.ok {p q:List UInt8} {s a m:Nat} (t:Turned p q s a m) (h:PageOk p):PageOk q:=by
 have hlt:∀ i,i < pn q->i≠s->i < pn p:=fun i hi hs=>by rcases t.n with h1 | ⟨h1,h2⟩ <;> omega
 have ha:=t.at_
 have hm:=t.sz
 have hpos:=t.pos
 have hlo:=t.a_lo
 have hhi:=t.a_hi
 have hlo2:=t.lo2
 have hh:=h.hi
 refine ⟨t.len,t.n16,t.lo,by omega,fun i hi hz=>?_,fun i hi hz=>?_,fun i k hi hk hik z1 z2=>?_,fun hn=>?_⟩
 ·by_cases hs:i=s
  ·subst hs;omega
  ·obtain ⟨h1,h2⟩:=t.oth i hi hs
   have:=h.slot i (hlt i hi hs) (by omega)
   omega
 ·by_cases hs:i=s
  ·subst hs;omega
  ·obtain ⟨h1,h2⟩:=t.oth i hi hs
   have:=h.zero i (hlt i hi hs) (by omega)
   omega
 ·by_cases hs:i=s
  ·subst hs
   have hks:k≠i:=fun e=>hik e.symm
   obtain ⟨h1,h2⟩:=t.oth k hk hks
   have:=t.free k (hlt k hk hks) hks (by omega)
   omega
  ·obtain ⟨h1,h2⟩:=t.oth i hi hs
   by_cases hs2:k=s
   ·subst hs2
    have:=t.free i (hlt i hi hs) hs (by omega)
    omega
   ·obtain ⟨h3,h4⟩:=t.oth k hk hs2
    have:=h.apart i k (hlt i hi hs) (hlt k hk hs2) hik (by omega) (by omega)
    omega
 ·by_cases hs:pn q - 1=s
  ·rw[hs];omega
  ·obtain ⟨h1,h2⟩:=t.oth (pn q - 1) (by omega) hs
   have hq:pn q=pn p:=by
    rcases t.n with h3 | ⟨h3,h4⟩
    ·exact h3
    ·omega
   rw[h2,hq]
   exact h.last (by omega)
theorem Turned.cell_other {p q:List UInt8} {s a m:Nat} (t:Turned p q s a m) (h:PageOk p) {i:Nat} (hi:i < pn q) (hs:i≠s):cellP q i=cellP p i:=by
 have hip:i < pn p:=by rcases t.n with h1 | ⟨h1,h2⟩ <;> omega
 obtain ⟨h1,h2⟩:=t.oth i hi hs
 refine cellP_eq (cellP_len (t.ok h) hi) (cellP_len h hip) h2 fun j hj=>?_
 have hz:psz p i≠0:=by omega
 have h3:=h.slot i hip hz
 have h4:=t.free i hip hs hz
 rw[h1]
 exact t.same _ (by omega) (by omega) (by omega)
theorem Turned.cell_this {p q:List UInt8} {s a:Nat} {c:List UInt8} (t:Turned p q s a c.length) (h:PageOk p) (hc:∀ j,j < c.length->pb q (a+j)=pb c j):cellP q s=c:=
 cellP_is (cellP_len (t.ok h) t.s_lt) t.sz fun j hj=>by rw[t.at_];exact hc j hj
theorem Turned.cells {p q:List UInt8} {s a:Nat} {c:List UInt8} (t:Turned p q s a c.length) (h:PageOk p) (hc:∀ j,j < c.length->pb q (a+j)=pb c j) (i:Nat):cellOf q i=if i=s then c else cellOf p i:=by
 have hs:=t.s_lt
 unfold cellOf
 by_cases his:i=s
 ·subst his
  rw[if_pos hs,if_pos rfl,t.cell_this h hc]
 ·rw[if_neg his]
  by_cases hi:i < pn q
  ·have hip:i < pn p:=by rcases t.n with h1 | ⟨h1,h2⟩ <;> omega
   rw[if_pos hi,if_pos hip,t.cell_other h hi his]
  ·have hip:¬ i < pn p:=by rcases t.n with h1 | ⟨h1,h2⟩ <;> omega
   rw[if_neg hi,if_neg hip]
end OT
set_option linter.unusedVariables false
set_option linter.unusedSimpArgs false
namespace OT
open Go
def sumZ (p:List UInt8):Nat->Nat
 | 0=>0
 | m+1=>sumZ p m+psz p m
def covP (p:List UInt8):Nat->Nat->Bool
 | 0,_=>false
 | k+1,j=>covP p k j||decide (pat p k<=j/\j < pat p k+psz p k)
structure CompI (p:List UInt8) (k:Nat) (o:List UInt8) (a:Nat):Prop where
 len:o.length=64
 n:pb o 0=pn p
 a:a=64 - sumZ p k
 sz:∀ i,i < pn p->psz o i=psz p i
 old:∀ i,i < pn p->(k<=i\/psz p i=0)->pat o i=pat p i
 new:∀ i,i < k->psz p i≠0->pat o i=64 - sumZ p (i+1)/\∀ j,j < psz p i->pb o (64 - sumZ p (i+1)+j)=pb p (pat p i+j)
end OT
set_option linter.unusedVariables false
set_option linter.unusedSimpArgs false
namespace OT
open Go
theorem ix3 {i:Nat} (h:i < 1000):w64 ((3:Int)+w64 ((2:Int)*(i:Int)))=((3+2*i:Nat):Int):=by
 rw[w64_in (n:=(2:Int)*(i:Int)) (by omega),w64_in (by omega)];omega
theorem ix2 {i:Nat} (h:i < 1000):w64 ((2:Int)+w64 ((2:Int)*(i:Int)))=((2+2*i:Nat):Int):=by
 rw[w64_in (n:=(2:Int)*(i:Int)) (by omega),w64_in (by omega)];omega
theorem wpb (p:List UInt8) (i:Nat):w64 ((pb p i:Nat):Int)=((pb p i:Nat):Int):=by
 have:=pb_lt p i
 exact w64_in (by omega)
theorem read_pb {R:Type} {p:List UInt8} {i:Nat} (h:i < p.length) (K:UInt8->Option R):(p[i]?).bind K=K p[i]:=by rw[(pb_get h).1];rfl
section
variable {p:List UInt8} (hp:p.length=64)
include hp
theorem pCount_eq:spec_l2Count.sem (p,())=some ((pn p:Int),()):=by
 refine lift_eq (k:=0) fun k _=>(spec_l2Count.raw_eq k _).trans ?_
 show spec_l2Count.p _=_
 unfold spec_l2Count.p
 simp only[read_pb (show 0 < p.length by omega),(pb_get (show 0 < p.length by omega)).2,wpb]
 rfl
theorem pSlots_eq:impl_slots.sem (p,())=some ((pn p:Int),()):=by
 refine lift_eq (k:=0) fun k _=>(impl_slots.raw_eq k _).trans ?_
 show impl_slots.p _=_
 unfold impl_slots.p
 simp only[read_pb (show 0 < p.length by omega),(pb_get (show 0 < p.length by omega)).2,wpb]
 rfl
theorem pLow_eq:spec_l2Low.sem (p,())=some ((plo p:Int),()):=by
 refine lift_eq (k:=0) fun k _=>(spec_l2Low.raw_eq k _).trans ?_
 show spec_l2Low.p _=_
 unfold spec_l2Low.p
 simp only[read_pb (show 1 < p.length by omega),(pb_get (show 1 < p.length by omega)).2,wpb]
 rfl
theorem pSize_eq {i:Nat} (hi:i < 16):spec_l2Size.sem (p,(i:Int),())=some ((psz p i:Int),()):=by
 refine lift_eq (k:=0) fun k _=>(spec_l2Size.raw_eq k _).trans ?_
 show spec_l2Size.p _=_
 unfold spec_l2Size.p
 simp only[ix3 (show i < 1000 by omega),Int.natCast_nonneg,if_true,Int.toNat_natCast,read_pb (show 3+2*i < p.length by omega),(pb_get (show 3+2*i < p.length by omega)).2,wpb]
 rfl
theorem pPlace_eq {i:Nat} (hi:i < 16):spec_l2Place.sem (p,(i:Int),())=some ((pat p i:Int),()):=by
 refine lift_eq (k:=0) fun k _=>(spec_l2Place.raw_eq k _).trans ?_
 show spec_l2Place.p _=_
 unfold spec_l2Place.p
 simp only[ix2 (show i < 1000 by omega),Int.natCast_nonneg,if_true,Int.toNat_natCast,read_pb (show 2+2*i < p.length by omega),(pb_get (show 2+2*i < p.length by omega)).2,wpb]
 rfl
theorem pSpot_eq {i:Nat} (hi:i < 16):impl_spot.sem (p,(i:Int),())=some ((pat p i:Int),(psz p i:Int),()):=by
 refine lift_eq (k:=0) fun k _=>(impl_spot.raw_eq k _).trans ?_
 show impl_spot.p _=_
 unfold impl_spot.p
 simp only[ix2 (show i < 1000 by omega),ix3 (show i < 1000 by omega),Int.natCast_nonneg,if_true,Int.toNat_natCast,read_pb (show 2+2*i < p.length by omega),(pb_get (show 2+2*i < p.length by omega)).2,read_pb (show 3+2*i < p.length by omega),(pb_get (show 3+2*i < p.length by omega)).2,wpb]
 rfl
theorem pSlot_eq {i:Nat} (hi:i < 16):spec_l2Slot.sem (p,(i:Int),())=some (slotB p i,()):=by
 refine lift_eq (k:=0) fun k _=>(spec_l2Slot.raw_eq k _).trans ?_
 show spec_l2Slot.p _=_
 unfold spec_l2Slot.p slotB
 have h1:=pb_lt p (2+2*i)
 have h2:=pb_lt p (3+2*i)
 have hw:w64 ((pat p i:Int)+(psz p i:Int))=((pat p i+psz p i:Nat):Int):=by
  have:pat p i < 256:=h1
  have:psz p i < 256:=h2
  rw[w64_in (by omega)];omega
 simp only[pPlace_eq hp hi,pSize_eq hp hi,pLow_eq hp,Option.bind_some,hw]
 have e1:decide ((pat p i:Int)=0)=decide (pat p i=0):=by rw[decide_eq_decide];omega
 have e2:decide ((psz p i:Int)=0)=decide (psz p i=0):=by rw[decide_eq_decide];omega
 have e3:decide ((pat p i:Int)=(psz p i:Int))=decide (pat p i=psz p i):=by rw[decide_eq_decide];omega
 have e4:decide ((plo p:Int)<=(pat p i:Int))=decide (plo p<=pat p i):=by rw[decide_eq_decide];omega
 have e5:decide (((pat p i+psz p i:Nat):Int)<=64)=decide (pat p i+psz p i<=64):=by rw[decide_eq_decide];omega
 rw[e1,e2,e3,e4,e5]
 by_cases c1:pat p i=0
 ·simp[c1]
 ·by_cases c2:psz p i=0
  ·simp[c1,c2]
  ·simp only[c1,c2,decide_false,cond_false,or_self,if_false]
   cases decide (plo p<=pat p i) <;> rfl
theorem pApart_eq {i j:Nat} (hi:i < 16) (hj:j < 16):spec_l2Apart.sem (p,(i:Int),(j:Int),())=some (apartP p i j,()):=by
 refine lift_eq (k:=0) fun k _=>(spec_l2Apart.raw_eq k _).trans ?_
 show spec_l2Apart.p _=_
 unfold spec_l2Apart.p apartP
 have h1:pat p i < 256:=pb_lt p _
 have h2:psz p i < 256:=pb_lt p _
 have h3:pat p j < 256:=pb_lt p _
 have h4:psz p j < 256:=pb_lt p _
 have hw:w64 ((pat p i:Int)+(psz p i:Int))=((pat p i+psz p i:Nat):Int):=by rw[w64_in (by omega)];omega
 have hw2:w64 ((pat p j:Int)+(psz p j:Int))=((pat p j+psz p j:Nat):Int):=by rw[w64_in (by omega)];omega
 simp only[pPlace_eq hp hi,pSize_eq hp hi,pPlace_eq hp hj,pSize_eq hp hj,Option.bind_some,hw,hw2]
 have e1:decide ((psz p i:Int)=0)=decide (psz p i=0):=by rw[decide_eq_decide];omega
 have e2:decide ((psz p j:Int)=0)=decide (psz p j=0):=by rw[decide_eq_decide];omega
 have e3:decide (((pat p i+psz p i:Nat):Int)<=(pat p j:Int))=decide (pat p i+psz p i<=pat p j):=by rw[decide_eq_decide];omega
 have e4:decide (((pat p j+psz p j:Nat):Int)<=(pat p i:Int))=decide (pat p j+psz p j<=pat p i):=by rw[decide_eq_decide];omega
 rw[e1,e2,e3,e4]
 cases decide (psz p i=0) <;> cases decide (psz p j=0) <;> cases decide (pat p i+psz p i<=pat p j) <;> rfl
end
theorem forI_checkN {O:Type} (q:Nat->Bool) (bad e:O):∀ (xs:List Nat) (i:Nat),forI (fun _ (_:Unit) x=>if q x then .inr () else .inl bad) (fun _=>e) i xs ()=if xs.all q then e else bad:=fun xs i=>forI_check q bad (fun _=>e) xs i
theorem specPage_eq (p:List UInt8) (hl:p.length<=maxLen):spec_l2Fault.sem (p,())=some (pageF p,()):=by
 refine lift_eq (k:=100) fun k hk=>(spec_l2Fault.raw_eq k _).trans ?_
 unfold spec_l2Fault.p pageF
 have e0:decide ((p.length:Int)=64)=decide (p.length=64):=by rw[decide_eq_decide];omega
 rw[e0]
 by_cases hp:p.length=64
 rotate_left
 ·simp only[hp,decide_false,Bool.not_false,cond_true,if_false]
 have hn:pn p < 256:=pb_lt p 0
 have hlo:plo p < 256:=pb_lt p 1
 have hw:w64 ((2:Int)+w64 ((2:Int)*(pn p:Int)))=((2+2*pn p:Nat):Int):=ix2 (by omega)
 simp only[hp,decide_true,Bool.not_true,cond_false,pCount_eq hp,pLow_eq hp,Option.bind_some,hw,if_true]
 by_cases c1:pn p<=16
 rotate_left
 ·have:((16:Int) < (pn p:Int)):=by omega
  simp only[this,decide_true,cond_true,c1,false_and,if_false]
 have n1:¬ ((16:Int) < (pn p:Int)):=by omega
 simp only[n1,decide_false,cond_false,c1,true_and]
 by_cases c2:2+2*pn p<=plo p
 rotate_left
 ·have:((plo p:Int) < ((2+2*pn p:Nat):Int)):=by omega
  simp only[this,decide_true,cond_true,c2,false_and,if_false]
 have n2:¬ ((plo p:Int) < ((2+2*pn p:Nat):Int)):=by omega
 simp only[n2,decide_false,cond_false,c2,true_and]
 by_cases c3:plo p<=64
 rotate_left
 ·have:((64:Int) < (plo p:Int)):=by omega
  simp only[this,decide_true,cond_true,c3,if_false]
 have n3:¬ ((64:Int) < (plo p:Int)):=by omega
 simp only[n3,decide_false,cond_false,c3,if_true]
 have inner:∀ (self:((List UInt8)×Int×Int)->Option spec_l2Fault.Out) (e2:((List UInt8)×Int)->Option spec_l2Fault.Out) (i:Nat) (hi:i < pn p),spec_l2Fault.r2 k self e2 (p,()) p (pn p:Int) (i:Int) (0:Int)=if (List.range i).all (apartP p i) then self (p,(pn p:Int),w64 ((i:Int)+1)) else some ((8:Int),()):=fun self e2 i hi=>by
  have:=for_loopE (B:=fun self' v=>spec_l2Fault.B2 k self' (fun z=>spec_l2Fault.Q1 k self e2 (p,()) p (pn p:Int) (i:Int) z) (p,()) p (pn p:Int) (i:Int) v) (List.range i) (fun (_:Unit) (j:Int)=>j) (fun _ _ x=>if apartP p i x then .inr () else .inl (some ((8:Int),()))) (fun _=>self (p,(pn p:Int),w64 ((i:Int)+1))) (fun _ _=>True) (by rw[maxLen_val,List.length_range];omega)
   (fun j hj s self' _=>by
    rw[List.length_range] at hj
    show spec_l2Fault.b2 _ _ _ _ _ _ _=_
    unfold spec_l2Fault.b2
    have hlt:(j:Int) < (i:Int):=by omega
    simp only[hlt,decide_true,cond_true,pApart_eq hp (show i < 16 by omega) (show j < 16 by omega),Option.bind_some,List.getElem_range]
    cases apartP p i j <;> rfl)
   (fun _ _ _ _ _ _=>trivial) (fun s self' _=>by
    rw[List.length_range]
    show spec_l2Fault.b2 _ _ _ _ _ _ _=_
    unfold spec_l2Fault.b2
    simp only[Int.lt_irrefl,decide_false,cond_false]
    rfl) () trivial k (by rw[List.length_range];omega)
  rw[forI_checkN] at this
  exact this
 have outer:spec_l2Fault.r1 k (p,()) (pn p:Int) (p,(pn p:Int),(0:Int))=if (List.range (pn p)).all (fun i=>(List.range i).all (apartP p i)) then spec_l2Fault.Q2 k (p,()) (p,(pn p:Int)) else some ((8:Int),()):=by
  have:=for_loopE (B:=fun self v=>spec_l2Fault.B1 k self (fun z=>spec_l2Fault.Q2 k (p,()) z) (p,()) v) (List.range (pn p)) (fun (_:Unit) (i:Int)=>(p,(pn p:Int),i)) (fun _ _ x=>if (List.range x).all (apartP p x) then .inr () else .inl (some ((8:Int),()))) (fun _=>spec_l2Fault.Q2 k (p,()) (p,(pn p:Int))) (fun _ _=>True) (by rw[maxLen_val,List.length_range];omega)
   (fun i hi s self _=>by
    rw[List.length_range] at hi
    show spec_l2Fault.b1 _ _ _ _ _=_
    unfold spec_l2Fault.b1
    have hlt:(i:Int) < (pn p:Int):=by omega
    simp only[hlt,decide_true,cond_true,inner self _ i hi,List.getElem_range]
    cases (List.range i).all (apartP p i) <;> rfl)
   (fun _ _ _ _ _ _=>trivial) (fun s self _=>by
    rw[List.length_range]
    show spec_l2Fault.b1 _ _ _ _ _=_
    unfold spec_l2Fault.b1
    simp only[Int.lt_irrefl,decide_false,cond_false]) () trivial k (by rw[List.length_range];omega)
  rw[forI_checkN] at this
  exact this
 have first:spec_l2Fault.r0 k (p,()) (pn p:Int) (0:Int)=if (List.range (pn p)).all (slotB p) then spec_l2Fault.r1 k (p,()) (pn p:Int) (p,(pn p:Int),(0:Int)) else some ((3:Int),()):=by
  have:=for_loopE (B:=fun self v=>spec_l2Fault.B0 k self (fun z=>spec_l2Fault.Q0 k (p,()) (pn p:Int) z) (p,()) (pn p:Int) v) (List.range (pn p)) (fun (_:Unit) (i:Int)=>i) (fun _ _ x=>if slotB p x then .inr () else .inl (some ((3:Int),()))) (fun _=>spec_l2Fault.r1 k (p,()) (pn p:Int) (p,(pn p:Int),(0:Int))) (fun _ _=>True) (by rw[maxLen_val,List.length_range];omega)
   (fun i hi s self _=>by
    rw[List.length_range] at hi
    show spec_l2Fault.b0 _ _ _ _ _=_
    unfold spec_l2Fault.b0
    have hlt:(i:Int) < (pn p:Int):=by omega
    simp only[hlt,decide_true,cond_true,pSlot_eq hp (show i < 16 by omega),Option.bind_some,List.getElem_range]
    cases slotB p i <;> rfl)
   (fun _ _ _ _ _ _=>trivial) (fun s self _=>by
    rw[List.length_range]
    show spec_l2Fault.b0 _ _ _ _ _=_
    unfold spec_l2Fault.b0
    simp only[Int.lt_irrefl,decide_false,cond_false]
    rfl) () trivial k (by rw[List.length_range];omega)
  rw[forI_checkN] at this
  exact this
 rw[first]
 split
 ·rw[outer]
  split
  ·show spec_l2Fault.q2 _ _=_
   unfold spec_l2Fault.q2
   by_cases h0:0 < pn p
   ·have hlt:(0:Int) < (pn p:Int):=by omega
    have hwm:w64 ((pn p:Int) - 1)=((pn p - 1:Nat):Int):=by rw[w64_in (by omega)];omega
    simp only[hlt,decide_true,cond_true,hwm,pSize_eq hp (show pn p - 1 < 16 by omega),Option.bind_some,h0,true_and]
    by_cases hz:psz p (pn p - 1)=0
    ·simp[hz]
    ·have:¬ ((psz p (pn p - 1):Int)=0):=by omega
     simp only[this,decide_false,cond_false,hz,if_false]
   ·have hlt:¬ ((0:Int) < (pn p:Int)):=by omega
    simp only[hlt,decide_false,cond_false,h0,false_and,if_false]
  ·rfl
 ·rfl
theorem forI_anyS {S O:Type} (q:Nat->Bool) (g:Nat->S) (bad e:O):∀ (xs:List Nat) (i:Nat) (s:S),forI (fun _ s x=>if q x then .inl bad else .inr (g x)) (fun _=>e) i xs s=if xs.any q then bad else e
 | [],_,_=>rfl
 | x::xs,i,s=>by
  simp only[forI,List.any_cons]
  by_cases h:q x=true
  ·simp[h]
  ·simp[h,forI_anyS q g bad e xs (i+1)]
def covS (p:List UInt8) (i t:Nat):List Bool:=(List.range 64).map fun j=>covP p i j||decide (pat p i<=j/\j < pat p i+t)
def overB (p:List UInt8) (i:Nat):Bool:=(List.range (psz p i)).any fun t=>covP p i (pat p i+t)
theorem covS_zero (p:List UInt8) (i:Nat):covS p i 0=(List.range 64).map (covP p i):=by
 unfold covS
 refine List.map_congr_left fun j _=>?_
 have:¬ (pat p i<=j/\j < pat p i+0):=by omega
 simp only[this,decide_false,Bool.or_false]
theorem covS_full (p:List UInt8) (i:Nat):covS p i (psz p i)=(List.range 64).map (covP p (i+1)):=rfl
theorem covS_get (p:List UInt8) (i t j:Nat) (h:j < 64):(covS p i t)[j]?=some (covP p i j||decide (pat p i<=j/\j < pat p i+t)):=by
 unfold covS
 simp[h]
theorem covS_len (p:List UInt8) (i t:Nat):(covS p i t).length=64:=by simp[covS]
theorem covS_succ (p:List UInt8) (i t:Nat) (h:pat p i+t < 64):(covS p i t).set (pat p i+t) true=covS p i (t+1):=by
 refine List.ext_getElem? fun j=>?_
 rw[List.getElem?_set,covS_len]
 by_cases hj:j < 64
 ·rw[covS_get p i t j hj,covS_get p i (t+1) j hj]
  by_cases e:pat p i+t=j
  ·subst e
   have:pat p i<=pat p i+t/\pat p i+t < pat p i+(t+1):=by omega
   simp[h,this]
  ·rw[if_neg e]
   have:(pat p i<=j/\j < pat p i+t)↔(pat p i<=j/\j < pat p i+(t+1)):=by omega
   simp only[this]
 ·have h1:(covS p i t)[j]?=none:=List.getElem?_eq_none (by rw[covS_len];omega)
  have h2:(covS p i (t+1))[j]?=none:=List.getElem?_eq_none (by rw[covS_len];omega)
  rw[h1,h2,if_neg (by omega)]
theorem covP_iff {p:List UInt8}:∀ {k j:Nat},covP p k j=true↔∃ i,i < k/\pat p i<=j/\j < pat p i+psz p i
 | 0,j=>by simp[covP]
 | k+1,j=>by
  simp only[covP,Bool.or_eq_true,decide_eq_true_eq,covP_iff (k:=k)]
  constructor
  ·rintro (⟨i,h1,h2⟩ | h)
   ·exact ⟨i,by omega,h2⟩
   ·exact ⟨k,by omega,h⟩
  ·rintro ⟨i,h1,h2⟩
   by_cases e:i=k
   ·subst e;exact .inr h2
   ·exact .inl ⟨i,by omega,h2⟩
theorem over_apart (p:List UInt8) (i:Nat):overB p i=!(List.range i).all (apartP p i):=by
 rw[Bool.eq_iff_iff]
 simp only[overB,List.any_eq_true,List.mem_range,covP_iff,Bool.not_eq_true',List.all_eq_false,Bool.not_eq_true]
 constructor
 ·rintro ⟨t,ht,k,hk,h1,h2⟩
  refine ⟨k,hk,?_⟩
  cases h:apartP p i k with
  | false=>rfl
  | true=>have:=apartP_iff.1 h (by omega) (by omega);omega
 ·rintro ⟨k,hk,h⟩
  have hn:¬ (psz p i≠0->psz p k≠0->pat p i+psz p i<=pat p k\/pat p k+psz p k<=pat p i):=fun h2=>by rw[apartP_iff.2 h2] at h;cases h
  by_cases c1:psz p i=0
  ·exact absurd (fun h=>absurd c1 h) hn
  ·by_cases c2:psz p k=0
   ·exact absurd (fun _ h=>absurd c2 h) hn
   ·have c3:¬ (pat p i+psz p i<=pat p k):=fun h3=>hn fun _ _=>.inl h3
    have c4:¬ (pat p k+psz p k<=pat p i):=fun h3=>hn fun _ _=>.inr h3
    exact ⟨max (pat p i) (pat p k) - pat p i,by omega,k,hk,by omega,by omega⟩
theorem any_over (p:List UInt8) (n:Nat):(List.range n).any (overB p)=!(List.range n).all (fun i=>(List.range i).all (apartP p i)):=by
 rw[List.not_all_eq_any_not]
 congr 1
 funext i
 exact over_apart p i
theorem implPage_eq (p:List UInt8) (hl:p.length<=maxLen):impl_PageFault.sem (p,())=some (pageF p,()):=by
 refine lift_eq (k:=300) fun k hk=>(impl_PageFault.raw_eq k _).trans ?_
 unfold impl_PageFault.p pageF
 have e0:decide ((p.length:Int)=64)=decide (p.length=64):=by rw[decide_eq_decide];omega
 rw[e0]
 by_cases hp:p.length=64
 rotate_left
 ·simp only[hp,decide_false,Bool.not_false,cond_true,if_false]
 have hn:pn p < 256:=pb_lt p 0
 have hlo:plo p < 256:=pb_lt p 1
 have hw:w64 ((2:Int)+w64 ((2:Int)*(pn p:Int)))=((2+2*pn p:Nat):Int):=ix2 (by omega)
 have hb1:((p[1]'(by omega)).toNat)=plo p:=(pb_get (show 1 < p.length by omega)).2
 have hwl:w64 (plo p:Int)=(plo p:Int):=wpb p 1
 simp only[hp,decide_true,Bool.not_true,cond_false,read_pb (show 1 < p.length by omega),hb1,hwl,pSlots_eq hp,Option.bind_some,hw,if_true]
 by_cases c1:pn p<=16
 rotate_left
 ·have:((16:Int) < (pn p:Int)):=by omega
  simp only[this,decide_true,cond_true,c1,false_and,if_false]
 have n1:¬ ((16:Int) < (pn p:Int)):=by omega
 simp only[n1,decide_false,cond_false,c1,true_and]
 by_cases c2:2+2*pn p<=plo p
 rotate_left
 ·have:((plo p:Int) < ((2+2*pn p:Nat):Int)):=by omega
  simp only[this,decide_true,cond_true,c2,false_and,if_false]
 have n2:¬ ((plo p:Int) < ((2+2*pn p:Nat):Int)):=by omega
 simp only[n2,decide_false,cond_false,c2,true_and]
 by_cases c3:plo p<=64
 rotate_left
 ·have:((64:Int) < (plo p:Int)):=by omega
  simp only[this,decide_true,cond_true,c3,if_false]
 have n3:¬ ((64:Int) < (plo p:Int)):=by omega
 simp only[n3,decide_false,cond_false,c3,if_true]
 have first:impl_PageFault.r0 k (p,()) (pn p:Int) (plo p:Int) (0:Int)=if (List.range (pn p)).all (slotB p) then impl_PageFault.Q0 k (p,()) (pn p:Int) (plo p:Int) () else some ((3:Int),()):=by
  have:=for_loopE (B:=fun self v=>impl_PageFault.B0 k self (fun z=>impl_PageFault.Q0 k (p,()) (pn p:Int) (plo p:Int) z) (p,()) (pn p:Int) (plo p:Int) v) (List.range (pn p)) (fun (_:Unit) (i:Int)=>i) (fun _ _ x=>if slotB p x then .inr () else .inl (some ((3:Int),()))) (fun _=>impl_PageFault.Q0 k (p,()) (pn p:Int) (plo p:Int) ()) (fun _ _=>True) (by rw[maxLen_val,List.length_range];omega)
   (fun i hi s self _=>by
    rw[List.length_range] at hi
    show impl_PageFault.b0 _ _ _ _ _ _=_
    unfold impl_PageFault.b0
    have hlt:(i:Int) < (pn p:Int):=by omega
    have h1:pat p i < 256:=pb_lt p _
    have h2:psz p i < 256:=pb_lt p _
    have hw2:w64 ((pat p i:Int)+(psz p i:Int))=((pat p i+psz p i:Nat):Int):=by rw[w64_in (by omega)];omega
    simp only[hlt,decide_true,cond_true,pSpot_eq hp (show i < 16 by omega),Option.bind_some,List.getElem_range,hw2]
    have e1:decide ((pat p i:Int)=0)=decide (pat p i=0):=by rw[decide_eq_decide];omega
    have e2:decide ((psz p i:Int)=0)=decide (psz p i=0):=by rw[decide_eq_decide];omega
    have e4:decide ((pat p i:Int) < (plo p:Int))=decide (pat p i < plo p):=by rw[decide_eq_decide];omega
    have e5:decide ((64:Int) < ((pat p i+psz p i:Nat):Int))=decide (64 < pat p i+psz p i):=by rw[decide_eq_decide];omega
    rw[e1,e2,e4,e5]
    unfold slotB
    by_cases d1:pat p i=0
    ·by_cases d2:psz p i=0
     ·simp[d1,d2]
     ·have:¬ (0=psz p i):=fun e=>d2 e.symm
      simp[d1,d2,this]
    ·by_cases d2:psz p i=0
     ·simp[d1,d2]
     ·by_cases d3:pat p i < plo p
      ·have d3':¬ (plo p<=pat p i):=by omega
       simp[d1,d2,d3,d3']
      ·by_cases d4:64 < pat p i+psz p i
       ·have d4':¬ (pat p i+psz p i<=64):=by omega
        simp[d1,d2,d3,d4,d4']
       ·have d3':plo p<=pat p i:=by omega
        have d4':pat p i+psz p i<=64:=by omega
        simp[d1,d2,d3,d4,d3',d4'])
   (fun _ _ _ _ _ _=>trivial) (fun s self _=>by
    rw[List.length_range]
    show impl_PageFault.b0 _ _ _ _ _ _=_
    unfold impl_PageFault.b0
    simp only[Int.lt_irrefl,decide_false,cond_false]) () trivial k (by rw[List.length_range];omega)
  rw[forI_checkN] at this
  exact this
 rw[first]
 by_cases hsl:(List.range (pn p)).all (slotB p)=true
 rotate_left
 ·simp only[hsl,Bool.false_eq_true,if_false]
 simp only[hsl,if_true]
 have hs:∀ i,i < pn p->psz p i≠0->plo p<=pat p i/\pat p i+psz p i<=64:=fun i hi=>((slotB_iff (by omega)).1 (List.all_eq_true.1 hsl i (List.mem_range.2 hi))).1
 have inner:∀ (self:((List UInt8)×Int×(List Bool)×Int×Int)->Option impl_PageFault.Out) (e2:((List UInt8)×Int)->Option impl_PageFault.Out) (i:Nat) (hi:i < pn p),impl_PageFault.r2 k self e2 (p,()) p (pn p:Int) (pat p i:Int) (psz p i:Int) (pn p:Int) (i:Int) ((List.range 64).map (covP p i),(pat p i:Int))=if overB p i then some ((8:Int),()) else self (p,(pn p:Int),(List.range 64).map (covP p (i+1)),(pn p:Int),w64 ((i:Int)+1)):=fun self e2 i hi=>by
  have h1:pat p i < 256:=pb_lt p _
  have h2:psz p i < 256:=pb_lt p _
  have hw2:w64 ((pat p i:Int)+(psz p i:Int))=((pat p i+psz p i:Nat):Int):=by rw[w64_in (by omega)];omega
  have:=for_loopE (B:=fun self' v=>impl_PageFault.B2 k self' (fun z=>impl_PageFault.Q1 k self e2 (p,()) p (pn p:Int) (pat p i:Int) (psz p i:Int) (pn p:Int) (i:Int) z) (p,()) p (pn p:Int) (pat p i:Int) (psz p i:Int) (pn p:Int) (i:Int) v) (List.range (psz p i)) (fun (s:List Bool) (t:Int)=>(s,(pat p i:Int)+t)) (fun _ s t=>if covP p i (pat p i+t) then .inl (some ((8:Int),())) else .inr (covS p i (t+1))) (fun _=>self (p,(pn p:Int),(List.range 64).map (covP p (i+1)),(pn p:Int),w64 ((i:Int)+1))) (fun t s=>s=covS p i t) (by rw[maxLen_val,List.length_range];omega)
   (fun t ht s self' hI=>by
    rw[List.length_range] at ht
    subst hI
    obtain ⟨g1,g2⟩:=hs i hi (by omega)
    show impl_PageFault.b2 _ _ _ _ _ _ _ _ _ _=_
    unfold impl_PageFault.b2
    have hlt:(pat p i:Int)+(t:Int) < ((pat p i+psz p i:Nat):Int):=by omega
    have hnn:(0:Int)<=(pat p i:Int)+(t:Int):=by omega
    have hlen:(pat p i:Int)+(t:Int) < ((covS p i t).length:Int):=by rw[covS_len];omega
    have htn:((pat p i:Int)+(t:Int)).toNat=pat p i+t:=by omega
    have hnot:¬ (pat p i<=pat p i+t/\pat p i+t < pat p i+t):=by omega
    have hwt:w64 ((pat p i:Int)+(t:Int)+1)=(pat p i:Int)+w64 ((t:Int)+1):=by rw[w64_in (by omega),w64_in (by omega)];omega
    simp only[hw2,hlt,decide_true,cond_true,hnn,hlen,and_self,if_true,htn,covS_get p i t (pat p i+t) (by omega),hnot,decide_false,Bool.or_false,Option.bind_some,List.getElem_range,covS_succ p i t (by omega),hwt]
    cases covP p i (pat p i+t) <;> rfl)
   (fun t ht s s' hI hf=>by
    simp only[List.getElem_range] at hf
    split at hf
    ·cases hf
    ·injection hf with hf;exact hf.symm) (fun s self' hI=>by
    rw[List.length_range] at hI ⊢
    show impl_PageFault.b2 _ _ _ _ _ _ _ _ _ _=_
    unfold impl_PageFault.b2
    have hlt:¬ ((pat p i:Int)+(psz p i:Int) < ((pat p i+psz p i:Nat):Int)):=by omega
    simp only[hw2,hlt,decide_false,cond_false]
    rw[hI,covS_full]
    rfl) (covS p i 0) rfl k (by rw[List.length_range];omega)
  rw[forI_anyS] at this
  rw[<-covS_zero]
  simp only[Int.add_zero] at this
  exact this
 have outer:impl_PageFault.r1 k (p,()) (pn p:Int) (plo p:Int) (p,(pn p:Int),List.replicate 64 false,(pn p:Int),(0:Int))=if (List.range (pn p)).any (overB p) then some ((8:Int),()) else impl_PageFault.Q2 k (p,()) (p,(pn p:Int)):=by
  have:=for_loopE (B:=fun self v=>impl_PageFault.B1 k self (fun z=>impl_PageFault.Q2 k (p,()) z) (p,()) v) (List.range (pn p)) (fun (s:List Bool) (i:Int)=>(p,(pn p:Int),s,(pn p:Int),i)) (fun _ s x=>if overB p x then .inl (some ((8:Int),())) else .inr ((List.range 64).map (covP p (x+1)))) (fun _=>impl_PageFault.Q2 k (p,()) (p,(pn p:Int))) (fun i s=>s=(List.range 64).map (covP p i)) (by rw[maxLen_val,List.length_range];omega)
   (fun i hi s self hI=>by
    rw[List.length_range] at hi
    subst hI
    show impl_PageFault.b1 _ _ _ _ _=_
    unfold impl_PageFault.b1
    have hlt:(i:Int) < (pn p:Int):=by omega
    simp only[hlt,decide_true,cond_true,pSpot_eq hp (show i < 16 by omega),Option.bind_some,inner self _ i hi,List.getElem_range]
    cases overB p i <;> rfl)
   (fun i hi s s' hI hf=>by
    simp only[List.getElem_range] at hf
    split at hf
    ·cases hf
    ·injection hf with hf;exact hf.symm) (fun s self _=>by
    rw[List.length_range]
    show impl_PageFault.b1 _ _ _ _ _=_
    unfold impl_PageFault.b1
    simp only[Int.lt_irrefl,decide_false,cond_false]) (List.replicate 64 false) (by show _=(List.range 64).map (fun _=>false);decide) k (by rw[List.length_range];omega)
  rw[forI_anyS] at this
  exact this
 show impl_PageFault.q0 _ _ _ _ _=_
 unfold impl_PageFault.q0
 rw[outer,any_over]
 by_cases hap:(List.range (pn p)).all (fun i=>(List.range i).all (apartP p i))=true
 rotate_left
 ·simp only[hap,Bool.not_false,if_true,Bool.false_eq_true,if_false]
 simp only[hap,Bool.not_true,Bool.false_eq_true,if_false,if_true]
 show impl_PageFault.q2 _ _=_
 unfold impl_PageFault.q2
 by_cases h0:0 < pn p
 ·have hlt:(0:Int) < (pn p:Int):=by omega
  have hwm:w64 (w64 ((2:Int)*(pn p:Int))+1)=((2*pn p+1:Nat):Int):=by rw[w64_in (n:=(2:Int)*(pn p:Int)) (by omega),w64_in (by omega)];omega
  have hz:((p[2*pn p+1]'(by omega)).toNat)=psz p (pn p - 1):=by
   rw[(pb_get (show 2*pn p+1 < p.length by omega)).2]
   show pb p _=pb p _
   congr 1;omega
  simp only[hlt,decide_true,cond_true,hwm,Int.natCast_nonneg,if_true,Int.toNat_natCast,read_pb (show 2*pn p+1 < p.length by omega),hz,h0,true_and]
  by_cases hz:psz p (pn p - 1)=0
  ·simp[hz]
  ·have:¬ ((psz p (pn p - 1):Int)=0):=by omega
   simp only[this,decide_false,cond_false,hz,if_false]
 ·have hlt:¬ ((0:Int) < (pn p:Int)):=by omega
  simp only[hlt,decide_false,cond_false,h0,false_and,if_false]
end OT
set_option linter.unusedVariables false
set_option linter.unusedSimpArgs false
namespace OT
open Go
theorem range_loop {V S O:Type} {B:(V->Option O)->V->Option O} (n:Nat) (enc:S->Int->V) (f:Nat->S->Sum (Option O) S) (fin:S->Option O) (I:Nat->S->Prop) (hn:n<=1048576)
  (hin:∀ (i:Nat),i < n->∀ (s:S) self,I i s->B self (enc s (i:Int))=match f i s with | .inl o=>o | .inr s'=>self (enc s' (w64 ((i:Int)+1))))
  (hI:∀ (i:Nat),i < n->∀ (s s':S),I i s->f i s=.inr s'->I (i+1) s')
  (hout:∀ (s:S) self,I n s->B self (enc s (n:Int))=fin s) (s:S) (h0:I 0 s) (k:Nat) (hk:n < k):rawIter B k (enc s 0)=forI (fun _ s x=>f x s) fin 0 (List.range n) s:=
 for_loopE (List.range n) enc (fun _ s x=>f x s) fin I (by rw[maxLen_val,List.length_range];omega)
  (fun i hi s self h=>by rw[List.length_range] at hi;simp only[List.getElem_range];exact hin i hi s self h)
  (fun i hi s s' h hf=>by rw[List.length_range] at hi;simp only[List.getElem_range] at hf;exact hI i hi s s' h hf)
  (fun s self h=>by rw[List.length_range] at h ⊢;exact hout s self h) s h0 k (by rw[List.length_range];exact hk)
theorem forI_app {O α β:Type} (g:α->List β) (fin:List β->O):∀ (xs:List α) (i:Nat) (s:List β),forI (fun _ s x=>.inr (s++g x)) fin i xs s=fin (s++xs.flatMap g)
 | [],_,s=>by simp[forI]
 | x::xs,i,s=>by simp only[forI];rw[forI_app g fin xs (i+1)];simp[List.append_assoc]
abbrev row0:Row:=((0:Int),(0:Int),(0:Int),([]:List UInt8),())
abbrev cell0:CellResult:=((0:Int),(0:Int),(0:Int),(0:Int),row0,())
abbrev cell5:CellResult:=((5:Int),(0:Int),(0:Int),(0:Int),row0,())
def rowB (d:List UInt8):Row:=((pb d 1:Int),(pb d 2:Int),(pb d 3:Int)*256+(pb d 4:Int),d.drop 6,())
def cellF (d:List UInt8):CellResult×Bool:=
 if d.length=3/\pb d 0=1 then (((0:Int),(1:Int),(pb d 1:Int),(pb d 2:Int),row0,()),decide (pb d 1<=11)&&decide (pb d 2<=15))
 else if d.length < 6\/pb d 0=1\/2 < pb d 0\/d.length≠6+pb d 5 then (cell0,false)
 else (((0:Int),(pb d 0:Int),(0:Int),(0:Int),rowB d,()),decide (rowF (rowB d)=0))
theorem or_bytes {a b:Nat} (ha:a < 256) (hb:b < 256):((BitVec.ofInt 64 (w64 ((a:Int)*2 ^ 8)) ||| BitVec.ofInt 64 (b:Int)).toNat:Int)=(a:Int)*256+(b:Int):=by
 have e1:w64 ((a:Int)*2 ^ 8)=((2 ^ 8*a:Nat):Int):=by rw[w64_in (by omega)];omega
 rw[e1,BitVec.toNat_or]
 have e2:(BitVec.ofInt 64 ((2 ^ 8*a:Nat):Int)).toNat=2 ^ 8*a:=by
  rw[BitVec.toNat_ofInt];omega
 have e3:(BitVec.ofInt 64 (b:Int)).toNat=b:=by
  rw[BitVec.toNat_ofInt];omega
 rw[e2,e3,<- Nat.two_pow_add_eq_or_of_lt (by omega) a]
 omega
theorem specRead1_eq (d:List UInt8) (hd:d.length<=100):spec_l1Read.sem (d,())=some ((cellF d).1,(cellF d).2,()):=by
 refine lift_eq (k:=0) fun k _=>(spec_l1Read.raw_eq k _).trans ?_
 show spec_l1Read.p _=_
 unfold spec_l1Read.p cellF
 have b0:=pb_lt d 0
 have b1:=pb_lt d 1
 have b2:=pb_lt d 2
 have b3:=pb_lt d 3
 have b4:=pb_lt d 4
 have b5:=pb_lt d 5
 by_cases h3:d.length=3
 ·have e3:decide ((d.length:Int)=3)=true:=decide_eq_true (by omega)
  have e6:decide ((d.length:Int) < 6)=true:=decide_eq_true (by omega)
  have hl6:d.length < 6:=by omega
  simp only[e3,e6,cond_true,read_pb (show 0 < d.length by omega),(pb_get (show 0 < d.length by omega)).2]
  by_cases h1:pb d 0=1
  ·have e1:decide ((pb d 0:Int)=1)=true:=decide_eq_true (by omega)
   rw[if_pos ⟨h3,h1⟩]
   simp only[e1,cond_true,read_pb (show 1 < d.length by omega),(pb_get (show 1 < d.length by omega)).2,read_pb (show 2 < d.length by omega),(pb_get (show 2 < d.length by omega)).2,wpb]
   have hpl:spec_l1Place.sem ((pb d 1:Int),(pb d 2:Int),())=some (decide (pb d 1<=11)&&decide (pb d 2<=15),()):=by
    refine lift_eq (k:=0) fun k _=>(spec_l1Place.raw_eq k _).trans ?_
    show spec_l1Place.p _=_
    unfold spec_l1Place.p
    simp only[specIn_eq,Option.bind_some]
    have g1:decide ((0:Int)<=(pb d 1:Int))=true:=decide_eq_true (by omega)
    have g2:decide ((0:Int)<=(pb d 2:Int))=true:=decide_eq_true (by omega)
    have g3:decide ((pb d 1:Int)<=11)=decide (pb d 1<=11):=by rw[decide_eq_decide];omega
    have g4:decide ((pb d 2:Int)<=15)=decide (pb d 2<=15):=by rw[decide_eq_decide];omega
    rw[g1,g2,g3,g4]
    cases decide (pb d 1<=11) <;> rfl
   simp only[hpl,Option.bind_some]
  ·have e1:decide ((pb d 0:Int)=1)=false:=decide_eq_false (by omega)
   rw[if_neg (fun h=>h1 h.2),if_pos (Or.inl hl6)]
   simp only[e1,cond_false]
 ·have e3:decide ((d.length:Int)=3)=false:=decide_eq_false (by omega)
  simp only[e3,cond_false,h3,false_and,if_false]
  by_cases h6:d.length < 6
  ·have e6:decide ((d.length:Int) < 6)=true:=decide_eq_true (by omega)
   simp only[e6,cond_true,h6,true_or,if_true]
  ·have e6:decide ((d.length:Int) < 6)=false:=decide_eq_false (by omega)
   simp only[e6,cond_false,read_pb (show 0 < d.length by omega),(pb_get (show 0 < d.length by omega)).2,h6,false_or]
   by_cases h1:pb d 0=1
   ·have e1:decide ((pb d 0:Int)=1)=true:=decide_eq_true (by omega)
    rw[if_pos (Or.inl h1)]
    simp only[e1,cond_true]
   have e1:decide ((pb d 0:Int)=1)=false:=decide_eq_false (by omega)
   simp only[e1,cond_false,h1,false_or]
   by_cases h2:2 < pb d 0
   ·have e2:decide ((2:Int) < (pb d 0:Int))=true:=decide_eq_true (by omega)
    simp only[e2,cond_true,h2,true_or,if_true]
   have e2:decide ((2:Int) < (pb d 0:Int))=false:=decide_eq_false (by omega)
   have w6:w64 ((6:Int)+(pb d 5:Int))=((6+pb d 5:Nat):Int):=by rw[w64_in (by omega)];omega
   simp only[e2,cond_false,h2,false_or,read_pb (show 5 < d.length by omega),(pb_get (show 5 < d.length by omega)).2,wpb,w6]
   by_cases h5:d.length=6+pb d 5
   rotate_left
   ·have e5:decide ((d.length:Int)=((6+pb d 5:Nat):Int))=false:=decide_eq_false (by omega)
    simp only[e5,Bool.not_false,cond_true,h5,ne_eq,not_false_eq_true,if_true]
   have e5:decide ((d.length:Int)=((6+pb d 5:Nat):Int))=true:=decide_eq_true (by omega)
   have h6':(0:Int)<=6/\(6:Int)<=(d.length:Int):=by omega
   have w3:w64 (w64 ((pb d 3:Int)*256)+(pb d 4:Int))=(pb d 3:Int)*256+(pb d 4:Int):=by rw[w64_in (n:=(pb d 3:Int)*256) (by omega),w64_in (by omega)]
   have ht:(d.take d.length).drop 6=d.drop 6:=by rw[List.take_length]
   have hr:spec_l1Fault.sem (rowB d,())=some (rowF (rowB d),()):=specRow_eq (rowB d) (by rw[maxLen_val];simp only[rowB,List.length_drop];omega)
   unfold rowB at hr
   rw[if_neg (fun h=>h h5)]
   simp only[e5,Bool.not_true,cond_false,read_pb (show 1 < d.length by omega),(pb_get (show 1 < d.length by omega)).2,read_pb (show 2 < d.length by omega),(pb_get (show 2 < d.length by omega)).2,
    read_pb (show 3 < d.length by omega),(pb_get (show 3 < d.length by omega)).2,read_pb (show 4 < d.length by omega),(pb_get (show 4 < d.length by omega)).2,wpb,w3,ht,hr,Option.bind_some]
   rw[if_pos (by omega)]
   rfl
theorem implUnpack_eq (d:List UInt8) (hd:d.length<=100):impl_UnpackCell.sem (d,())=some (if (cellF d).2 then (cellF d).1 else cell5,()):=by
 refine lift_eq (k:=0) fun k _=>(impl_UnpackCell.raw_eq k _).trans ?_
 show impl_UnpackCell.p _=_
 unfold impl_UnpackCell.p
 have b0:=pb_lt d 0
 have b1:=pb_lt d 1
 have b2:=pb_lt d 2
 have b3:=pb_lt d 3
 have b4:=pb_lt d 4
 have b5:=pb_lt d 5
 by_cases h3:d.length=3
 ·have e3:decide ((d.length:Int)=3)=true:=decide_eq_true (by omega)
  have e6:decide ((d.length:Int) < 6)=true:=decide_eq_true (by omega)
  have hl6:d.length < 6:=by omega
  simp only[e3,e6,cond_true,read_pb (show 0 < d.length by omega),(pb_get (show 0 < d.length by omega)).2]
  by_cases h1:pb d 0=1
  ·have e1:decide ((pb d 0:Int)=1)=true:=decide_eq_true (by omega)
   have hc:cellF d=(((0:Int),(1:Int),(pb d 1:Int),(pb d 2:Int),row0,()),decide (pb d 1<=11)&&decide (pb d 2<=15)):=by unfold cellF;rw[if_pos ⟨h3,h1⟩]
   rw[hc]
   simp only[e1,cond_true,read_pb (show 1 < d.length by omega),(pb_get (show 1 < d.length by omega)).2,read_pb (show 2 < d.length by omega),(pb_get (show 2 < d.length by omega)).2,wpb]
   by_cases c1:pb d 1<=11
   ·have d1:decide ((pb d 1:Int) < 12)=true:=decide_eq_true (by omega)
    by_cases c2:pb d 2<=15
    ·have d2:decide ((pb d 2:Int) < 16)=true:=decide_eq_true (by omega)
     simp[d1,d2,c1,c2]
    ·have d2:decide ((pb d 2:Int) < 16)=false:=decide_eq_false (by omega)
     simp[d1,d2,c1,c2]
   ·have d1:decide ((pb d 1:Int) < 12)=false:=decide_eq_false (by omega)
    simp[d1,c1]
  ·have e1:decide ((pb d 0:Int)=1)=false:=decide_eq_false (by omega)
   have hc:cellF d=(cell0,false):=by unfold cellF;rw[if_neg (fun h=>h1 h.2),if_pos (Or.inl hl6)]
   rw[hc]
   simp only[e1,cond_false,Bool.false_eq_true,if_false]
 ·have e3:decide ((d.length:Int)=3)=false:=decide_eq_false (by omega)
  simp only[e3,cond_false]
  by_cases h6:d.length < 6
  ·have e6:decide ((d.length:Int) < 6)=true:=decide_eq_true (by omega)
   have hc:cellF d=(cell0,false):=by unfold cellF;rw[if_neg (fun h=>h3 h.1),if_pos (Or.inl h6)]
   rw[hc]
   simp only[e6,cond_true,Bool.false_eq_true,if_false]
  ·have e6:decide ((d.length:Int) < 6)=false:=decide_eq_false (by omega)
   have hc:cellF d=if pb d 0=1\/2 < pb d 0\/d.length≠6+pb d 5 then (cell0,false) else (((0:Int),(pb d 0:Int),(0:Int),(0:Int),rowB d,()),decide (rowF (rowB d)=0)):=by
    unfold cellF
    rw[if_neg (fun h=>h3 h.1)]
    simp only[h6,false_or]
   have hlen:∀ i,i < 6->i < d.length:=fun i hi=>by omega
   have w6:w64 ((6:Int)+(pb d 5:Int))=((6+pb d 5:Nat):Int):=by rw[w64_in (by omega)];omega
   have h6':(0:Int)<=6/\(6:Int)<=(d.length:Int):=by omega
   have w3:w64 ((BitVec.ofInt 64 (w64 ((pb d 3:Int)*2 ^ 8)) ||| BitVec.ofInt 64 (pb d 4:Int)).toNat:Int)=(pb d 3:Int)*256+(pb d 4:Int):=by rw[or_bytes b3 b4,w64_in (by omega)]
   have ht:(d.take d.length).drop 6=d.drop 6:=by rw[List.take_length]
   have hr:impl_RowFault.sem (rowB d,())=some (rowF (rowB d),()):=implRow_eq (rowB d) (by rw[maxLen_val];simp only[rowB,List.length_drop];omega)
   unfold rowB at hr
   simp only[e6,cond_false,read_pb (show 0 < d.length by omega),(pb_get (show 0 < d.length by omega)).2,read_pb (show 5 < d.length by omega),(pb_get (show 5 < d.length by omega)).2,read_pb (show 1 < d.length by omega),(pb_get (show 1 < d.length by omega)).2,read_pb (show 2 < d.length by omega),(pb_get (show 2 < d.length by omega)).2,
    read_pb (show 3 < d.length by omega),(pb_get (show 3 < d.length by omega)).2,read_pb (show 4 < d.length by omega),(pb_get (show 4 < d.length by omega)).2,wpb,w6,h6'.2,show (0:Int)<=6 by omega,and_self,if_true,w3,ht,hr,Option.bind_some]
   have e5:decide ((d.length:Int)=((6+pb d 5:Nat):Int))=decide (d.length=6+pb d 5):=by rw[decide_eq_decide];omega
   have e0:decide ((pb d 0:Int)=0)=decide (pb d 0=0):=by rw[decide_eq_decide];omega
   have e2:decide ((pb d 0:Int)=2)=decide (pb d 0=2):=by rw[decide_eq_decide];omega
   rw[e5,e0,e2]
   have fin:∀ (c5:d.length=6+pb d 5) (c0:¬ (pb d 0=1\/2 < pb d 0\/d.length≠6+pb d 5)),(bif !decide (rowF ((pb d 1:Int),(pb d 2:Int),(pb d 3:Int)*256+(pb d 4:Int),d.drop 6,())=0) then some (cell5,()) else some (((0:Int),(pb d 0:Int),(0:Int),(0:Int),((pb d 1:Int),(pb d 2:Int),(pb d 3:Int)*256+(pb d 4:Int),d.drop 6,()),()),()))=some (if (cellF d).2 then (cellF d).1 else cell5,()):=fun c5 c0=>by
    rw[hc,if_neg c0]
    show (bif !decide (rowF (rowB d)=0) then some (cell5,()) else some (((0:Int),(pb d 0:Int),(0:Int),(0:Int),rowB d,()),()))=some (if decide (rowF (rowB d)=0)=true then ((0:Int),(pb d 0:Int),(0:Int),(0:Int),rowB d,()) else cell5,())
    cases decide (rowF (rowB d)=0) <;> rfl
   have bad:(pb d 0=1\/2 < pb d 0\/d.length≠6+pb d 5)->(some (cell5,()):Option impl_UnpackCell.Out)=some (if (cellF d).2 then (cellF d).1 else cell5,()):=fun h=>by
    rw[hc,if_pos h];rfl
   by_cases c5:d.length=6+pb d 5
   ·rw[decide_eq_true c5]
    by_cases c0:pb d 0=0
    ·rw[decide_eq_true c0]
     exact fin c5 (by omega)
    ·rw[decide_eq_false c0]
     by_cases c2:pb d 0=2
     ·rw[decide_eq_true c2]
      exact fin c5 (by omega)
     ·rw[decide_eq_false c2]
      exact bad (by omega)
   ·rw[decide_eq_false c5]
    have hb:=bad (.inr (.inr c5))
    cases decide (pb d 0=0) <;> cases decide (pb d 0=2) <;> exact hb
section
variable {p:List UInt8} (hp:PageOk p)
include hp
theorem implHas_eq (s:Nat):impl_hasSlot.sem (p,(s:Int),())=some (decide (s < pn p)&&!decide (psz p s=0),()):=by
 refine lift_eq (k:=0) fun k _=>(impl_hasSlot.raw_eq k _).trans ?_
 show impl_hasSlot.p _=_
 unfold impl_hasSlot.p
 have h0:(0:Int)<=(s:Int):=by omega
 have hn:=hp.n
 have hl:=hp.len
 simp only[h0,decide_true,cond_true,pSlots_eq hl,Option.bind_some]
 by_cases hs:s < pn p
 ·have e1:(s:Int) < (pn p:Int):=by omega
  have e2:decide ((psz p s:Int)=0)=decide (psz p s=0):=by rw[decide_eq_decide];omega
  have e3:(p[3+2*s]'(by omega)).toNat=psz p s:=(pb_get (show 3+2*s < p.length by omega)).2
  simp only[e1,hs,decide_true,cond_true,ix3 (show s < 1000 by omega),Int.natCast_nonneg,if_true,Int.toNat_natCast,read_pb (show 3+2*s < p.length by omega),e3,e2,Bool.true_and]
 ·have e1:¬ ((s:Int) < (pn p:Int)):=by omega
  simp only[e1,hs,decide_false,cond_false,Bool.false_and]
theorem specHas_eq (s:Nat):spec_l2Has.sem (p,(s:Int),())=some (decide (s < pn p)&&!decide (psz p s=0),()):=by
 refine lift_eq (k:=0) fun k _=>(spec_l2Has.raw_eq k _).trans ?_
 show spec_l2Has.p _=_
 unfold spec_l2Has.p
 have hn:=hp.n
 have hl:=hp.len
 have hw:w64 ((pn p:Int) - 1)=(pn p:Int) - 1:=w64_in (by omega)
 have h0:decide ((0:Int)<=(s:Int))=true:=decide_eq_true (by omega)
 have h1:decide ((s:Int)<=(pn p:Int) - 1)=decide (s < pn p):=by rw[decide_eq_decide];omega
 simp only[pCount_eq hl,Option.bind_some,hw,specIn_eq,h0,h1,Bool.true_and]
 by_cases hs:s < pn p
 ·have e2:decide ((0:Int) < (psz p s:Int))=!decide (psz p s=0):=by
   by_cases hz:psz p s=0
   ·simp[hz]
   ·have:(0:Int) < (psz p s:Int):=by omega
    rw[decide_eq_true this,decide_eq_false hz];rfl
  simp only[hs,decide_true,cond_true,pSize_eq hl (show s < 16 by omega),Option.bind_some,e2,Bool.true_and]
 ·simp only[hs,decide_false,cond_false,Bool.false_and]
theorem cell_in {s:Nat} (hs:s < pn p):pat p s+psz p s<=64:=by
 by_cases hz:psz p s=0
 ·have:=hp.zero s hs hz;omega
 ·exact (hp.slot s hs hz).2
theorem implCellAt_eq {s:Nat} (hs:s < pn p):impl_cellAt.sem (p,(s:Int),())=some (cellP p s,()):=by
 refine lift_eq (k:=0) fun k _=>(impl_cellAt.raw_eq k _).trans ?_
 show impl_cellAt.p _=_
 unfold impl_cellAt.p cellP
 have hn:=hp.n
 have hl:=hp.len
 have hc:=cell_in hp hs
 have hw:w64 ((pat p s:Int)+(psz p s:Int))=((pat p s+psz p s:Nat):Int):=by rw[w64_in (by omega)];omega
 have hb:(0:Int)<=(pat p s:Int)/\(pat p s:Int)<=((pat p s+psz p s:Nat):Int)/\((pat p s+psz p s:Nat):Int)<=(p.length:Int):=by omega
 simp only[pSpot_eq hl (show s < 16 by omega),Option.bind_some,hw]
 rw[if_pos hb]
 simp only[Int.toNat_natCast,List.drop_take]
 rw[show pat p s+psz p s - pat p s=psz p s by omega]
theorem specCellAt_eq {s:Nat} (hs:s < pn p):spec_l2Cell.sem (p,(s:Int),())=some (cellP p s,()):=by
 refine lift_eq (k:=0) fun k _=>(spec_l2Cell.raw_eq k _).trans ?_
 show spec_l2Cell.p _=_
 unfold spec_l2Cell.p cellP
 have hn:=hp.n
 have hl:=hp.len
 have hc:=cell_in hp hs
 have hw:w64 ((pat p s:Int)+(psz p s:Int))=((pat p s+psz p s:Nat):Int):=by rw[w64_in (by omega)];omega
 have hb:(0:Int)<=(pat p s:Int)/\(pat p s:Int)<=((pat p s+psz p s:Nat):Int)/\((pat p s+psz p s:Nat):Int)<=(p.length:Int):=by omega
 simp only[pPlace_eq hl (show s < 16 by omega),pSize_eq hl (show s < 16 by omega),Option.bind_some,hw]
 rw[if_pos hb,if_pos (cap_ok (by simp only[List.length_nil,List.length_drop,List.length_take];omega))]
 simp only[Int.toNat_natCast,List.drop_take,List.nil_append]
 rw[show pat p s+psz p s - pat p s=psz p s by omega]
end
theorem cellP_small {p:List UInt8} (hp:PageOk p) {s:Nat} (hs:s < pn p):(cellP p s).length<=64:=by
 have:=cellP_len hp hs
 have:=cell_in hp hs
 omega
end OT
set_option linter.unusedVariables false
set_option linter.unusedSimpArgs false
namespace OT
open Go
def rk (x:Row):Int×Int:=(x.1,x.2.1)
theorem befB_iff (a b:Int×Int):befB a b=true↔a.1 < b.1\/(a.1=b.1/\a.2 < b.2):=by unfold befB;simp
theorem befB_trans {a b c:Int×Int} (h1:befB a b=true) (h2:befB b c=true):befB a c=true:=by
 rw[befB_iff] at *;omega
theorem befB_irr (a:Int×Int):befB a a=false:=by
 cases h:befB a a with
 | false=>rfl
 | true=>rw[befB_iff] at h;omega
theorem befB_asym {a b:Int×Int} (h:befB a b=true):befB b a=false:=by
 cases h2:befB b a with
 | false=>rfl
 | true=>rw[befB_iff] at h h2;omega
theorem befB_tri {a b:Int×Int} (h1:befB a b=false) (h2:befB b a=false):a=b:=by
 have n1:¬ (a.1 < b.1\/(a.1=b.1/\a.2 < b.2)):=fun h=>by rw[(befB_iff a b).2 h] at h1;cases h1
 have n2:¬ (b.1 < a.1\/(b.1=a.1/\b.2 < a.2)):=fun h=>by rw[(befB_iff b a).2 h] at h2;cases h2
 have e1:a.1=b.1:=by omega
 have e2:a.2=b.2:=by omega
 obtain ⟨a1,a2⟩:=a
 obtain ⟨b1,b2⟩:=b
 simp only at e1 e2
 rw[e1,e2]
def up (xs:List Row):Prop:=xs.Pairwise (fun a b=>befB (rk a) (rk b)=true)
theorem up_cons {x:Row} {xs:List Row}:up (x::xs)↔(∀ y ∈ xs,befB (rk x) (rk y)=true)/\up xs:=List.pairwise_cons
def pos:List Row->Int×Int->Nat
 | [],_=>0
 | x::xs,k=>if befB (rk x) k then pos xs k+1 else 0
theorem pos_le:∀ (xs:List Row) (k:Int×Int),pos xs k<=xs.length
 | [],_=>Nat.le_refl _
 | x::xs,k=>by simp only[pos];split <;> simp[pos_le xs k]
theorem pos_lt:∀ (xs:List Row) (k:Int×Int) (i:Nat) (h:i < xs.length),i < pos xs k->befB (rk xs[i]) k=true
 | x::xs,k,i,h,hp=>by
  simp only[pos] at hp
  split at hp
  ·rename_i hx
   cases i with
   | zero=>exact hx
   | succ i=>exact pos_lt xs k i (by simpa using h) (by omega)
  ·omega
theorem up_not:∀ (xs:List Row) (k:Int×Int) (i:Nat) (h:i < xs.length),up xs->pos xs k<=i->befB (rk xs[i]) k=false
 | x::xs,k,i,h,hu,hp=>by
  simp only[pos] at hp
  split at hp
  ·cases i with
   | zero=>omega
   | succ i=>exact up_not xs k i (by simpa using h) (up_cons.1 hu).2 (by omega)
  ·rename_i hx
   have hx:befB (rk x) k=false:=by simpa using hx
   cases i with
   | zero=>exact hx
   | succ i=>
    have hi':i < xs.length:=by simpa using h
    have hm:befB (rk x) (rk xs[i])=true:=(up_cons.1 hu).1 _ (List.getElem_mem _)
    show befB (rk xs[i]) k=false
    cases hb:befB (rk xs[i]) k with
    | false=>rfl
    | true=>rw[befB_trans hm hb] at hx;cases hx
def fnd (xs:List Row) (k:Int×Int):Bool:=match xs[pos xs k]? with
 | some x=>decide (rk x=k)
 | none=>false
theorem fnd_lt {xs:List Row} {k:Int×Int} (h:fnd xs k=true):∃ hp:pos xs k < xs.length,rk xs[pos xs k]=k:=by
 unfold fnd at h
 split at h
 ·rename_i x hx
  obtain ⟨hp,e⟩:=List.getElem?_eq_some_iff.1 hx
  subst e
  exact ⟨hp,by simpa using h⟩
 ·cases h
theorem ord_lt (a b:Row):decide ((if befB (a.1,a.2.1) (b.1,b.2.1) then (-1:Int) else if befB (b.1,b.2.1) (a.1,a.2.1) then 1 else 0) < 0)=befB (rk a) (rk b):=by
 unfold rk
 cases befB (a.1,a.2.1) (b.1,b.2.1) <;> cases befB (b.1,b.2.1) (a.1,a.2.1) <;> rfl
theorem sameKey_rk (a b:Row):sameKey a b=decide (rk a=rk b):=by
 unfold sameKey rk
 by_cases h1:a.1=b.1 <;> by_cases h2:a.2.1=b.2.1 <;> simp[h1,h2]
theorem half (lo hi:Nat) (h:lo+hi<=4611686018427387904):w64 ((IntKind.wrap .u64 (w64 ((lo:Int)+(hi:Int)))).fdiv (2 ^ 1))=(((lo+hi) / 2:Nat):Int):=by
 have e1:w64 ((lo:Int)+(hi:Int))=((lo+hi:Nat):Int):=by rw[w64_in (by omega)];omega
 rw[e1]
 have e2:IntKind.wrap .u64 ((lo+hi:Nat):Int)=((lo+hi:Nat):Int):=by
  simp only[IntKind.wrap]
  first | rfl | (simp[IntKind.bits,IntKind.signed];omega) | omega
 rw[e2]
 have e3:(((lo+hi:Nat):Int)).fdiv (2 ^ 1)=(((lo+hi) / 2:Nat):Int):=by
  rw[Int.fdiv_eq_ediv_of_nonneg _ (by omega)]
  omega
 rw[e3,w64_in (by omega)]
theorem search_eq (xs:List Row) (key:Row) (f:Nat×Int) (hu:up xs) (hl:xs.length<=2000000):slices_BinarySearchFunc_Row.sem (xs,key,f,())=some ((pos xs (rk key):Int),fnd xs (rk key),()):=by
 have hp:=pos_le xs (rk key)
 have hq:slices_BinarySearchFunc_Row.Q0 0 (xs,key,f,()) (pos xs (rk key):Int)=some ((pos xs (rk key):Int),fnd xs (rk key),()):=by
  show slices_BinarySearchFunc_Row.q0 _ _=_
  unfold slices_BinarySearchFunc_Row.q0 fnd
  by_cases hlt:pos xs (rk key) < xs.length
  ·have h1:((pos xs (rk key):Nat):Int) < (xs.length:Int):=by omega
   simp only[h1,decide_true,cond_true,Int.natCast_nonneg,if_true,Int.toNat_natCast,List.getElem?_eq_getElem hlt,Option.bind_some,order_eq,order_zero,sameKey_rk]
  ·have h1:¬ ((pos xs (rk key):Nat):Int) < (xs.length:Int):=by omega
   simp only[h1,decide_false,cond_false]
   rw[List.getElem?_eq_none (by omega)]
 refine lift_eq (k:=xs.length+1) fun k hk=>(slices_BinarySearchFunc_Row.raw_eq k _).trans ?_
 refine rawIter_eq (B:=fun self v=>slices_BinarySearchFunc_Row.B0 0 self (fun z=>slices_BinarySearchFunc_Row.Q0 0 (xs,key,f,()) z) (xs,key,f,()) v) (fun _=>((pos xs (rk key):Int),fnd xs (rk key),()))
  (fun v=>∃ lo hi:Nat,v=((lo:Int),(hi:Int))/\lo<=pos xs (rk key)/\pos xs (rk key)<=hi/\hi<=xs.length) (fun v=>(v.2 - v.1).toNat) (fun v hv self=>?_) k (0,(xs.length:Int)) ⟨0,xs.length,rfl,by omega,hp,by omega⟩ (by simp;omega)
 obtain ⟨lo,hi,rfl,h1,h2,h3⟩:=hv
 by_cases hlt:lo < hi
 ·right
  have hlt':(lo:Int) < (hi:Int):=by omega
  have hm:(lo+hi) / 2 < xs.length:=by omega
  have hb:∀ self,slices_BinarySearchFunc_Row.B0 0 self (fun z=>slices_BinarySearchFunc_Row.Q0 0 (xs,key,f,()) z) (xs,key,f,()) ((lo:Int),(hi:Int))=if befB (rk xs[(lo+hi) / 2]) (rk key) then self (w64 ((((lo+hi) / 2:Nat):Int)+1),(hi:Int)) else self ((lo:Int),(((lo+hi) / 2:Nat):Int)):=fun self=>by
   show slices_BinarySearchFunc_Row.b0 _ _ _ _=_
   unfold slices_BinarySearchFunc_Row.b0
   simp only[hlt',decide_true,cond_true,half lo hi (by omega),Int.natCast_nonneg,if_true,Int.toNat_natCast,List.getElem?_eq_getElem hm,Option.bind_some,order_eq,ord_lt]
   cases befB (rk xs[(lo+hi) / 2]) (rk key) <;> rfl
  cases hc:befB (rk xs[(lo+hi) / 2]) (rk key) with
  | true=>
   refine ⟨((((lo+hi) / 2+1:Nat):Int),(hi:Int)),?_,rfl,⟨_,_,rfl,?_,h2,h3⟩,by simp only;omega⟩
   ·rw[hb,hc,if_pos rfl,w64_in (by omega)];rfl
   ·rcases Nat.lt_or_ge ((lo+hi) / 2) (pos xs (rk key)) with h | h
    ·omega
    ·rw[up_not xs _ _ hm hu h] at hc;cases hc
  | false=>
   refine ⟨((lo:Int),(((lo+hi) / 2:Nat):Int)),?_,rfl,⟨_,_,rfl,h1,?_,by omega⟩,by simp only;omega⟩
   ·rw[hb,hc];rfl
   ·rcases Nat.lt_or_ge ((lo+hi) / 2) (pos xs (rk key)) with h | h
    ·rw[pos_lt xs _ _ hm h] at hc;cases hc
    ·exact h
 ·left
  have e:lo=pos xs (rk key):=by omega
  have hlt':¬ (lo:Int) < (hi:Int):=by omega
  show slices_BinarySearchFunc_Row.b0 _ _ _ _=_
  unfold slices_BinarySearchFunc_Row.b0
  simp only[hlt',decide_false,cond_false]
  rw[e]
  exact hq
def fits1 (xs:List Row) (c:Change):Bool:=(fnd xs (ck c) == c.1)&&(!fnd xs (ck c)||(match xs[pos xs (ck c)]? with | some x=>Ty.eq tRow x c.2.1 | none=>true))
def done1 (xs:List Row) (c:Change):List Row:=xs.take (pos xs (ck c))++(if c.2.2.1 then [c.2.2.2.1] else [])++xs.drop (pos xs (ck c)+if fnd xs (ck c) then 1 else 0)
theorem rk_key (c:Change):rk (keyRow c)=ck c:=keyRow_ck c
theorem fitsTo_eq (c:Change) (xs:List Row) (hu:up xs) (hl:xs.length<=2000000):impl_Change_fitsTo.sem (c,xs,())=some (fits1 xs c,()):=by
 refine lift_eq (k:=0) fun k _=>(impl_Change_fitsTo.raw_eq k _).trans ?_
 show impl_Change_fitsTo.p _=_
 unfold impl_Change_fitsTo.p fits1
 simp only[implKey_eq,search_eq xs _ _ hu hl,rk_key,Option.bind_some]
 cases hf:fnd xs (ck c) with
 | false=>cases c.1 <;> rfl
 | true=>
  obtain ⟨hp,hk⟩:=fnd_lt hf
  simp only[Int.natCast_nonneg,if_true,Int.toNat_natCast,List.getElem?_eq_getElem hp,Option.bind_some]
  cases c.1 <;> rfl
theorem changed_eq (xs:List Row) (c:Change) (hu:up xs) (hl:xs.length<=2000000):impl_changed.sem (xs,c,())=some (done1 xs c,()):=by
 refine lift_eq (k:=0) fun k _=>(impl_changed.raw_eq k _).trans ?_
 show impl_changed.p _=_
 unfold impl_changed.p done1
 have hp:=pos_le xs (ck c)
 have hpi:0<=((pos xs (ck c):Nat):Int)/\((pos xs (ck c):Nat):Int)<=(xs.length:Int):=by omega
 have c1:([]:List Row).length+(List.take (pos xs (ck c)) xs).length<=CAP:=cap_ok (by simp;omega)
 simp only[implKey_eq,search_eq xs _ _ hu hl,rk_key,Option.bind_some,hpi,and_self,if_true,Int.toNat_natCast,c1,List.drop_zero,List.nil_append,List.take_length]
 have c2:(List.take (pos xs (ck c)) xs).length+[c.2.2.2.1].length<=CAP:=cap_ok (by simp;omega)
 have hd:∀ (p7:List Row) (n:Nat),p7.length<=2000001->p7.length+(List.drop n xs).length<=CAP:=fun p7 n h=>cap_ok (by rw[List.length_drop];omega)
 have hw:w64 (((pos xs (ck c):Nat):Int)+1)=((pos xs (ck c)+1:Nat):Int):=by rw[w64_in (by omega)];rfl
 have c3:=hd (List.take (pos xs (ck c)) xs++[c.2.2.2.1])
 have c4:=hd (List.take (pos xs (ck c)) xs)
 have l3:(List.take (pos xs (ck c)) xs++[c.2.2.2.1]).length<=2000001:=by simp;omega
 have l4:(List.take (pos xs (ck c)) xs).length<=2000001:=by simp;omega
 cases hf:fnd xs (ck c) with
 | false=>
  cases c.2.2.1 with
  | false=>simp only[cond_false,hpi,and_self,if_true,Int.toNat_natCast,c4 _ l4,Bool.false_eq_true,if_false,List.append_nil,Nat.add_zero]
  | true=>simp only[cond_true,cond_false,c2,hpi,and_self,if_true,Int.toNat_natCast,c3 _ l3,Bool.false_eq_true,if_false,Nat.add_zero]
 | true=>
  obtain ⟨hpl,_⟩:=fnd_lt hf
  have hpi2:0<=((pos xs (ck c)+1:Nat):Int)/\((pos xs (ck c)+1:Nat):Int)<=(xs.length:Int):=by omega
  cases c.2.2.1 with
  | false=>simp only[cond_true,cond_false,hw,hpi2,and_self,if_true,Int.toNat_natCast,c4 _ l4,Bool.false_eq_true,if_false,List.append_nil]
  | true=>simp only[cond_true,cond_false,c2,hw,hpi2,and_self,if_true,Int.toNat_natCast,c3 _ l3]
theorem specBefore_eq (a b:Row):spec_l1Before.sem (a,b,())=some (befB (rk a) (rk b),()):=by
 refine lift_eq (k:=0) fun k _=>(spec_l1Before.raw_eq k _).trans ?_
 show spec_l1Before.p _=_
 unfold spec_l1Before.p befB rk
 by_cases h1:a.1 < b.1 <;> by_cases h2:a.1=b.1 <;> simp[h1,h2]
theorem fnd_cons_lt {x:Row} {xs:List Row} {k:Int×Int} (h:befB (rk x) k=true):fnd (x::xs) k=fnd xs k:=by
 unfold fnd
 simp only[pos,h,if_true,List.getElem?_cons_succ]
theorem fnd_mem {xs:List Row} {k:Int×Int} (h:fnd xs k=true):∃ y ∈ xs,rk y=k:=by
 obtain ⟨hp,hk⟩:=fnd_lt h
 exact ⟨_,List.getElem_mem hp,hk⟩
theorem at_forI (k:Int×Int):∀ (xs:List Row) (j:Nat),up xs->forI (fun i (_:Unit) x=>if rk x=k then .inl ((i:Int),()) else .inr ()) (fun _=>((-1:Int),())) j xs ()=if fnd xs k then (((j+pos xs k:Nat):Int),()) else (-1,())
 | [],j,_=>by simp[forI,fnd]
 | x::xs,j,hu=>by
  have hu:=up_cons.1 hu
  simp only[forI]
  by_cases hx:rk x=k
  ·have hb:befB (rk x) k=false:=by rw[hx];exact befB_irr k
   have hf:fnd (x::xs) k=true:=by
    have hp0:pos (x::xs) k=0:=by simp only[pos,hb,Bool.false_eq_true,if_false]
    unfold fnd
    rw[hp0]
    simp[hx]
   simp[hx,hf,pos,befB_irr]
  ·simp only[hx,if_false]
   rw[at_forI k xs (j+1) hu.2]
   cases hb:befB (rk x) k with
   | true=>
    rw[fnd_cons_lt hb]
    simp only[pos,hb,if_true]
    have:j+1+pos xs k=j+(pos xs k+1):=by omega
    rw[this]
   | false=>
    have h1:fnd (x::xs) k=false:=by simp[fnd,pos,hb,hx]
    have h2:fnd xs k=false:=by
     cases h:fnd xs k with
     | false=>rfl
     | true=>
      obtain ⟨y,hy,e⟩:=fnd_mem h
      have:=hu.1 y hy
      rw[e,hb] at this;cases this
    simp[h1,h2]
def atI (xs:List Row) (k:Int×Int):Int:=if fnd xs k then (pos xs k:Int) else -1
theorem specAt_eq (xs:List Row) (t k:Int) (hu:up xs) (hl:xs.length<=2000000):spec_l6At.sem (xs,t,k,())=some (atI xs (t,k),()):=by
 refine lift_eq (k:=xs.length+1) fun f hf=>(spec_l6At.raw_eq f _).trans ?_
 have:=for_loop (B:=fun self v=>spec_l6At.B0 0 self (fun z=>spec_l6At.Q0 0 (xs,t,k,()) z) (xs,t,k,()) v) xs (fun (_:Unit) (i:Int)=>i) (fun i _ x=>if rk x=(t,k) then .inl ((i:Int),()) else .inr ()) (fun _=>((-1:Int),())) (fun _ _=>True) (by rw[maxLen_val];omega)
  (fun i hi _ self _=>by
   show spec_l6At.b0 _ _ _ _=_
   unfold spec_l6At.b0 rk
   have hlt:(i:Int) < (xs.length:Int):=by omega
   simp only[hlt,decide_true,cond_true,Int.natCast_nonneg,if_true,Int.toNat_natCast,List.getElem?_eq_getElem hi,Option.bind_some]
   by_cases h1:xs[i].1=t <;> by_cases h2:xs[i].2.1=k <;> simp[h1,h2]) (fun _ _ _ _ _ _=>trivial) (fun _ self _=>by
   show spec_l6At.b0 _ _ _ _=_
   unfold spec_l6At.b0
   simp[spec_l6At.Q0,spec_l6At.q0]) () trivial f (by omega)
 rw[at_forI (t,k) xs 0 hu] at this
 have this:spec_l6At.r0 f (xs,t,k,()) 0=_:=this
 unfold spec_l6At.p
 rw[this]
 unfold atI
 cases fnd xs (t,k) <;> simp <;> rfl
theorem pos_forI {O:Type} (k:Int×Int) (g:Nat->O) (n:Nat):∀ (xs:List Row) (j:Nat),j+xs.length=n->forI (fun i (_:Unit) x=>if befB (rk x) k then .inr () else .inl (g i)) (fun _=>g n) j xs ()=g (j+pos xs k)
 | [],j,h=>by simp[forI,pos] at *;rw[h]
 | x::xs,j,h=>by
  simp only[forI,pos]
  cases hb:befB (rk x) k with
  | true=>
   simp only[if_true]
   rw[pos_forI k g n xs (j+1) (by simp at h;omega)]
   congr 1;omega
  | false=>simp
def put1 (xs:List Row) (r:Row):List Row:=xs.take (pos xs (rk r))++[r]++xs.drop (pos xs (rk r))
theorem specPut_eq (xs:List Row) (r:Row) (hl:xs.length<=2000000):spec_l6Put.sem (xs,r,())=some (put1 xs r,()):=by
 refine lift_eq (k:=xs.length+1) fun f hf=>(spec_l6Put.raw_eq f _).trans ?_
 have hq:∀ i:Nat,i<=xs.length->spec_l6Put.Q0 0 (xs,r,()) (i:Int)=some (xs.take i++[r]++xs.drop i,()):=fun i hi=>by
  show spec_l6Put.q0 _ _=_
  unfold spec_l6Put.q0
  have hpi:0<=(i:Int)/\(i:Int)<=(xs.length:Int):=by omega
  have c1:([]:List Row).length+(List.take i xs).length<=CAP:=cap_ok (by simp;omega)
  have c2:(List.take i xs).length+[r].length<=CAP:=cap_ok (by simp;omega)
  have c3:(List.take i xs++[r]).length+(List.drop i xs).length<=CAP:=cap_ok (by simp;omega)
  simp only[hpi,and_self,if_true,Int.toNat_natCast,c1,List.drop_zero,List.nil_append,List.take_length,c2,c3]
 have:=for_loop (B:=fun self v=>spec_l6Put.B0 0 self (fun z=>spec_l6Put.Q0 0 (xs,r,()) z) (xs,r,()) v) xs (fun (_:Unit) (i:Int)=>i) (fun i _ x=>if befB (rk x) (rk r) then .inr () else .inl (xs.take i++[r]++xs.drop i,())) (fun _=>(xs.take xs.length++[r]++xs.drop xs.length,())) (fun _ _=>True) (by rw[maxLen_val];omega)
  (fun i hi _ self _=>by
   show spec_l6Put.b0 _ _ _ _=_
   unfold spec_l6Put.b0
   have hlt:(i:Int) < (xs.length:Int):=by omega
   simp only[hlt,decide_true,cond_true,Int.natCast_nonneg,if_true,Int.toNat_natCast,List.getElem?_eq_getElem hi,Option.bind_some,specBefore_eq]
   cases befB (rk xs[i]) (rk r) with
   | true=>rfl
   | false=>exact hq i (by omega)) (fun _ _ _ _ _ _=>trivial) (fun _ self _=>by
   show spec_l6Put.b0 _ _ _ _=_
   unfold spec_l6Put.b0
   have hlt:¬ (xs.length:Int) < (xs.length:Int):=by omega
   simp only[hlt,decide_false,cond_false]
   exact hq _ (Nat.le_refl _)) () trivial f (by omega)
 rw[pos_forI (rk r) (fun i=>(xs.take i++[r]++xs.drop i,())) xs.length xs 0 (by omega)] at this
 refine this.trans ?_
 simp[put1]
theorem rem_forI (t:Int):∀ (xs:List Row) (j:Nat) (s:List Row),forI (O:=List Row×Unit) (fun i s x=>if (i:Int)=t then .inr s else .inr (s++[x])) (fun s=>(s,())) j xs s=(s++(if (j:Int)<=t/\t < j+xs.length then xs.take (t - j).toNat++xs.drop ((t - j).toNat+1) else xs),())
 | [],j,s=>by
  have:¬ ((j:Int)<=t/\t < j+(([]:List Row).length:Int)):=fun h=>by
   have h2:(([]:List Row).length:Int)=0:=rfl
   omega
  simp only[forI,this,if_false,List.append_nil]
 | x::xs,j,s=>by
  simp only[forI]
  by_cases h:(j:Int)=t
  ·have h1:¬ (((j+1:Nat):Int)<=t/\t < ((j+1:Nat):Int)+(xs.length:Int)):=by omega
   have h2:(j:Int)<=t/\t < (j:Int)+((x::xs).length:Int):=by simp;omega
   have h3:(t - j).toNat=0:=by omega
   simp only[h,if_true]
   rw[rem_forI t xs (j+1) s,if_neg h1]
   rw[<-h] at h2 ⊢
   have h3:((j:Int) - j).toNat=0:=by omega
   rw[if_pos h2,h3]
   simp
  ·simp only[h,if_false]
   rw[rem_forI t xs (j+1) (s++[x])]
   by_cases hc:(j:Int)<=t/\t < (j:Int)+((x::xs).length:Int)
   ·have hc2:((j+1:Nat):Int)<=t/\t < ((j+1:Nat):Int)+(xs.length:Int):=by simp at hc;omega
    have h3:(t - j).toNat=(t - ((j+1:Nat):Int)).toNat+1:=by omega
    rw[if_pos hc,if_pos hc2,h3]
    simp
   ·have hc2:¬ (((j+1:Nat):Int)<=t/\t < ((j+1:Nat):Int)+(xs.length:Int)):=by simp at hc;omega
    rw[if_neg hc,if_neg hc2]
    simp
def rem1 (xs:List Row) (k:Int×Int):List Row:=if fnd xs k then xs.take (pos xs k)++xs.drop (pos xs k+1) else xs
theorem pos_append (k:Int×Int):∀ (l1 l2:List Row),(∀ x ∈ l1,befB (rk x) k=true)->pos (l1++l2) k=l1.length+pos l2 k
 | [],l2,_=>by simp
 | x::l1,l2,h=>by
  simp only[List.cons_append,pos,h x List.mem_cons_self,if_true,List.length_cons]
  rw[pos_append k l1 l2 fun y hy=>h y (List.mem_cons_of_mem _ hy)]
  omega
theorem take_bef {xs:List Row} {k:Int×Int} {x:Row} (h:x ∈ xs.take (pos xs k)):befB (rk x) k=true:=by
 obtain ⟨i,hi,e⟩:=List.mem_iff_getElem.1 h
 have hp:=pos_le xs k
 rw[List.length_take] at hi
 rw[List.getElem_take] at e
 rw[<-e]
 exact pos_lt xs k i (by omega) (by omega)
theorem pos_drop {xs:List Row} {k:Int×Int} (hu:up xs) {n:Nat} (hn:pos xs k<=n):pos (xs.drop n) k=0:=by
 cases hd:xs.drop n with
 | nil=>rfl
 | cons y ys=>
  have hlt:n < xs.length:=by
   rcases Nat.lt_or_ge n xs.length with h | h
   ·exact h
   ·rw[List.drop_eq_nil_of_le h] at hd;cases hd
  rw[List.drop_eq_getElem_cons hlt] at hd
  injection hd with h1 h2
  simp only[pos]
  rw[<-h1,up_not xs k n hlt hu hn]
  rfl
theorem put_rem {xs:List Row} {k:Int×Int} {r:Row} (hu:up xs) (hk:rk r=k):put1 (rem1 xs k) r=xs.take (pos xs k)++[r]++xs.drop (pos xs k+if fnd xs k then 1 else 0):=by
 have hp:=pos_le xs k
 have key:∀ n,pos xs k<=n->pos (xs.take (pos xs k)++xs.drop n) k=pos xs k:=fun n hn=>by
  rw[pos_append k _ _ fun x hx=>take_bef hx,pos_drop hu hn,List.length_take]
  omega
 have hl:(xs.take (pos xs k)).length=pos xs k:=by rw[List.length_take];omega
 unfold put1 rem1
 rw[hk]
 cases fnd xs k with
 | true=>
  simp only[if_true]
  rw[key _ (by omega),List.take_left' hl,List.drop_left' hl]
 | false=>
  simp
theorem specDo_eq (xs:List Row) (c:Change) (hu:up xs) (hl:xs.length<=2000000) (hc:c.2.2.1=true->rk c.2.2.2.1=ck c):spec_l6Do.sem (xs,c,())=some (if fits1 xs c then (done1 xs c,true,()) else ([],false,())):=by
 refine lift_eq (k:=xs.length+1) fun f hf=>(spec_l6Do.raw_eq f _).trans ?_
 have hp:=pos_le xs (ck c)
 have hlp:=for_loop (B:=fun self v=>spec_l6Do.B0 0 self (fun z=>spec_l6Do.Q0 0 (xs,c,()) (atI xs (ck c)) z) (xs,c,()) (atI xs (ck c)) v) (O:=List Row×Bool×Unit) xs (fun (s:List Row) (i:Int)=>(s,i)) (fun i s x=>if (i:Int)=atI xs (ck c) then .inr s else .inr (s++[x]))
  (fun s=>(if c.2.2.1 then put1 s c.2.2.2.1 else s,true,())) (fun i s=>s.length<=i) (by rw[maxLen_val];omega)
  (fun i hi s self hI=>by
   show spec_l6Do.b0 _ _ _ _ _=_
   unfold spec_l6Do.b0
   have hlt:(i:Int) < (xs.length:Int):=by omega
   simp only[hlt,decide_true,cond_true,Int.natCast_nonneg,if_true,Int.toNat_natCast,List.getElem?_eq_getElem hi,Option.bind_some]
   have c2:s.length+[xs[i]].length<=CAP:=cap_ok (by simp;omega)
   by_cases h:(i:Int)=atI xs (ck c)
   ·simp[h]
   ·simp only[h,decide_false,Bool.not_false,cond_true,c2,if_true,if_false]) (fun i hi s s' hI hf=>by
   split at hf <;> (injection hf with hf;rw[<-hf];first | omega | (simp;omega))) (fun s self hI=>by
   show spec_l6Do.b0 _ _ _ _ _=_
   unfold spec_l6Do.b0
   have hlt:¬ (xs.length:Int) < (xs.length:Int):=by omega
   simp only[hlt,decide_false,cond_false,spec_l6Do.Q0,spec_l6Do.q0,specPut_eq s _ (by omega),Option.bind_some]
   cases c.2.2.1 <;> rfl) [] (Nat.le_refl _) f (by omega)
 have hfin:∀ (xs0:List Row) (j:Nat) (s:List Row),forI (O:=List Row×Bool×Unit) (fun i s x=>if (i:Int)=atI xs (ck c) then .inr s else .inr (s++[x])) (fun s=>(if c.2.2.1 then put1 s c.2.2.2.1 else s,true,())) j xs0 s
   = (fun s=>(if c.2.2.1 then put1 s c.2.2.2.1 else s,true,())) (forI (O:=List Row×Unit) (fun i s x=>if (i:Int)=atI xs (ck c) then .inr s else .inr (s++[x])) (fun s=>(s,())) j xs0 s).1:=by
  intro xs0
  induction xs0 with
  | nil=>intro j s;rfl
  | cons x xs0 ih=>
   intro j s
   simp only[forI]
   by_cases h:(j:Int)=atI xs (ck c)
   ·simp only[h,if_true];exact ih _ _
   ·simp only[h,if_false];exact ih _ _
 rw[hfin,rem_forI (atI xs (ck c)) xs 0 []] at hlp
 have hrem:([]++(if ((0:Nat):Int)<=atI xs (ck c)/\atI xs (ck c) < ((0:Nat):Int)+(xs.length:Int) then xs.take (atI xs (ck c) - ((0:Nat):Int)).toNat++xs.drop ((atI xs (ck c) - ((0:Nat):Int)).toNat+1) else xs))=rem1 xs (ck c):=by
  unfold atI rem1
  cases hfd:fnd xs (ck c) with
  | true=>
   obtain ⟨hpl,_⟩:=fnd_lt hfd
   simp only[if_true]
   rw[if_pos (by omega)]
   have:(((pos xs (ck c):Nat):Int) - ((0:Nat):Int)).toNat=pos xs (ck c):=by omega
   rw[this];rfl
  | false=>simp
 simp only[hrem] at hlp
 have hlp:spec_l6Do.r0 f (xs,c,()) (atI xs (ck c)) (([]:List Row),(0:Int))=_:=hlp
 unfold spec_l6Do.p fits1
 simp only[specKey_eq,specAt_eq xs _ _ hu hl,Option.bind_some,hlp]
 have hdone:(if c.2.2.1 then put1 (rem1 xs (ck c)) c.2.2.2.1 else rem1 xs (ck c))=done1 xs c:=by
  unfold done1
  cases hi:c.2.2.1 with
  | true=>simp only[if_true];exact put_rem hu (hc hi)
  | false=>
   simp only[Bool.false_eq_true,if_false,List.append_nil]
   unfold rem1
   cases fnd xs (ck c) with
   | true=>simp
   | false=>simp
 rw[hdone]
 cases hfd:fnd xs (ck c) with
 | true=>
  obtain ⟨hpl,hk⟩:=fnd_lt hfd
  have ha:atI xs (ck c)=(pos xs (ck c):Int):=by unfold atI;rw[hfd];rfl
  simp only[ha,Int.natCast_nonneg,decide_true,cond_true,if_true,Int.toNat_natCast,List.getElem?_eq_getElem hpl,Option.bind_some]
  cases c.1 with
  | true=>cases Ty.eq tRow xs[pos xs (ck c)] c.2.1 <;> rfl
  | false=>rfl
 | false=>
  have ha:atI xs (ck c)=-1:=by unfold atI;rw[hfd];rfl
  simp only[ha]
  cases c.1 <;> rfl
end OT
set_option linter.unusedVariables false
set_option linter.unusedSimpArgs false
namespace OT
open Go
def rowsStep (xs:List Row) (i:Nat) (x:Row):Sum (Int×Unit) Unit:=
 if rowF x=0 then (if 0 < i then (match xs[i - 1]? with | some y=>if befB (rk y) (rk x) then .inr () else .inl (1,()) | none=>.inl (1,())) else .inr ()) else .inl (rowF x,())
def rowsF (xs:List Row):Int:=if 60 < xs.length then 2 else (forI (fun i (_:Unit) x=>rowsStep xs i x) (fun _=>((0:Int),())) 0 xs ()).1
theorem specRows_eq (xs:List Row) (hl:xs.length<=maxLen) (h:∀ c ∈ xs,rl c):spec_l6Rows.sem (xs,())=some (rowsF xs,()):=by
 refine lift_eq (k:=xs.length+1) fun k hk=>(spec_l6Rows.raw_eq k _).trans ?_
 have:=for_loop (B:=fun self v=>spec_l6Rows.B0 0 self (fun z=>spec_l6Rows.Q0 0 (xs,()) z) (xs,()) v) xs (fun (_:Unit) (i:Int)=>i) (fun i _ x=>rowsStep xs i x) (fun _=>(0,())) (fun _ _=>True) hl
  (fun i hi _ self _=>by
   show spec_l6Rows.b0 _ _ _ _=_
   unfold spec_l6Rows.b0 rowsStep
   have hlt:(i:Int) < (xs.length:Int):=by omega
   simp only[hlt,decide_true,cond_true,Int.natCast_nonneg,if_true,Int.toNat_natCast,List.getElem?_eq_getElem hi,Option.bind_some,specRow_eq _ (h _ (List.getElem_mem hi))]
   by_cases h1:rowF xs[i]=0
   ·simp only[h1,decide_true,Bool.not_true,cond_false,if_true]
    by_cases h0:0 < i
    ·have h0':(0:Int) < (i:Int):=by omega
     have hi':i - 1 < xs.length:=by omega
     simp only[h0,h0',decide_true,cond_true,if_true,wprev h0 (by omega),Int.natCast_nonneg,Int.toNat_natCast,List.getElem?_eq_getElem hi',Option.bind_some,specBefore_eq]
     cases befB (rk xs[i - 1]) (rk xs[i]) <;> rfl
    ·have h0':¬ (0:Int) < (i:Int):=by omega
     simp[h0,h0']
   ·simp[h1]) (fun _ _ _ _ _ _=>trivial) (fun _ self _=>by
   show spec_l6Rows.b0 _ _ _ _=_
   unfold spec_l6Rows.b0
   simp[spec_l6Rows.Q0,spec_l6Rows.q0]) () trivial k (by omega)
 have this:spec_l6Rows.r0 k (xs,()) 0=_:=this
 unfold spec_l6Rows.p rowsF
 rw[this,show (60:Int)=((60:Nat):Int) from rfl]
 simp only[len60]
 by_cases h1:60 < xs.length <;> simp[h1] <;> rfl
theorem implRows_eq (xs:List Row) (hl:xs.length<=maxLen) (h:∀ c ∈ xs,rl c):impl_RowsFault.sem (xs,())=some (rowsF xs,()):=by
 refine lift_eq (k:=xs.length+1) fun k hk=>(impl_RowsFault.raw_eq k _).trans ?_
 have:=for_loop (B:=fun self v=>impl_RowsFault.B0 0 self (fun z=>impl_RowsFault.Q0 0 (xs,()) z) (xs,()) v) xs (fun (_:Unit) (i:Int)=>i) (fun i _ x=>rowsStep xs i x) (fun _=>(0,())) (fun _ _=>True) hl
  (fun i hi _ self _=>by
   show impl_RowsFault.b0 _ _ _ _=_
   unfold impl_RowsFault.b0 rowsStep rk
   have hlt:(i:Int) < (xs.length:Int):=by omega
   simp only[hlt,decide_true,cond_true,Int.natCast_nonneg,if_true,Int.toNat_natCast,List.getElem?_eq_getElem hi,Option.bind_some,implRow_eq _ (h _ (List.getElem_mem hi))]
   by_cases h1:rowF xs[i]=0
   ·simp only[h1,decide_true,Bool.not_true,cond_false,if_true]
    by_cases h0:0 < i
    ·have h0':(0:Int) < (i:Int):=by omega
     have hi':i - 1 < xs.length:=by omega
     simp only[h0,h0',decide_true,cond_true,if_true,wprev h0 (by omega),Int.natCast_nonneg,Int.toNat_natCast,List.getElem?_eq_getElem hi',Option.bind_some,isBefore_eq]
     cases befB (xs[i - 1].1,xs[i - 1].2.1) (xs[i].1,xs[i].2.1) <;> rfl
    ·have h0':¬ (0:Int) < (i:Int):=by omega
     simp[h0,h0']
   ·simp[h1]) (fun _ _ _ _ _ _=>trivial) (fun _ self _=>by
   show impl_RowsFault.b0 _ _ _ _=_
   unfold impl_RowsFault.b0
   simp[impl_RowsFault.Q0,impl_RowsFault.q0]) () trivial k (by omega)
 have this:impl_RowsFault.r0 k (xs,()) 0=_:=this
 unfold impl_RowsFault.p rowsF
 rw[this,show (60:Int)=((60:Nat):Int) from rfl]
 simp only[len60]
 by_cases h1:60 < xs.length <;> simp[h1] <;> rfl
theorem forI_none {α:Type} {f:Nat->Unit->α->Sum (Int×Unit) Unit} (hf:∀ i s x o,f i s x=.inl o->o.1≠0):∀ (xs:List α) (j:Nat),(forI f (fun _=>((0:Int),())) j xs ()).1=0->∀ i (hi:i < xs.length),f (j+i) () xs[i]=.inr ()
 | x::xs,j,h,i,hi=>by
  simp only[forI] at h
  cases hx:f j () x with
  | inl o=>rw[hx] at h;exact absurd h (hf _ _ _ _ hx)
  | inr u=>
   rw[hx] at h
   cases i with
   | zero=>exact hx
   | succ i=>
    have:=forI_none hf xs (j+1) h i (by simpa using hi)
    rw[show j+(i+1)=j+1+i by omega]
    exact this
theorem up_adj:∀ (xs:List Row),(∀ i (hi:i < xs.length),0 < i->befB (rk (xs[i - 1]'(by omega))) (rk xs[i])=true)->up xs
 | [],_=>List.Pairwise.nil
 | [x],_=>List.pairwise_singleton _ _
 | x::y::xs,h=>by
  have hu:up (y::xs):=up_adj (y::xs) fun i hi h0=>by
   have:=h (i+1) (by simp at hi ⊢;omega) (by omega)
   simp only[Nat.add_sub_cancel] at this
   have e:(x::y::xs)[i]'(by simp at hi ⊢;omega)=(y::xs)[i - 1]'(by simp at hi ⊢;omega):=by
    cases i with
    | zero=>omega
    | succ i=>rfl
   rw[e] at this
   exact this
  have hxy:befB (rk x) (rk y)=true:=h 1 (by simp) (by omega)
  refine up_cons.2 ⟨fun z hz=>?_,hu⟩
  rcases List.mem_cons.1 hz with rfl | hz
  ·exact hxy
  ·exact befB_trans hxy ((up_cons.1 hu).1 z hz)
theorem rowF_text {x:Row} (h:rowF x=0):List.length x.2.2.2.1<=8:=by
 unfold rowF at h
 split at h
 ·split at h
  ·rename_i ht
   unfold textB at ht
   simp only[Bool.and_eq_true,decide_eq_true_eq] at ht
   exact ht.2
  ·cases h
 ·cases h
structure Good (xs:List Row):Prop where
 up:up xs
 ok:∀ x ∈ xs,rowF x=0
theorem rowsF_good {xs:List Row} (h:rowsF xs=0):Good xs/\xs.length<=60:=by
 unfold rowsF at h
 split at h
 ·cases h
 ·rename_i hl
  have hn:=forI_none (f:=fun i (_:Unit) x=>rowsStep xs i x) (fun i s x o ho=>by
   unfold rowsStep at ho
   split at ho
   ·split at ho
    ·split at ho
     ·split at ho
      ·cases ho
      ·injection ho with ho;rw[<-ho];decide
     ·injection ho with ho;rw[<-ho];decide
    ·cases ho
   ·rename_i hx
    injection ho with ho;rw[<-ho];exact hx) xs 0 h
  have h1:∀ i (hi:i < xs.length),rowF xs[i]=0:=fun i hi=>by
   have:=hn i hi
   unfold rowsStep at this
   split at this
   ·assumption
   ·cases this
  refine ⟨⟨up_adj xs fun i hi h0=>?_,fun x hx=>?_⟩,by omega⟩
  ·have:=hn i hi
   unfold rowsStep at this
   rw[if_pos (h1 i hi),Nat.zero_add,if_pos h0,List.getElem?_eq_getElem (show i - 1 < xs.length by omega)] at this
   simp only at this
   split at this
   ·assumption
   ·cases this
  ·obtain ⟨i,hi,rfl⟩:=List.mem_iff_getElem.1 hx
   exact h1 i hi
theorem chF_key {c:Change} (h:chF c=0):(c.2.2.1=true->rk c.2.2.2.1=ck c)/\(c.2.2.1=true->rowF c.2.2.2.1=0):=by
 refine ⟨fun hi=>by unfold rk ck;rw[hi];rfl,fun hi=>?_⟩
 unfold chF at h
 split at h
 ·cases h
 ·split at h
  ·rename_i h2
   simp only[Bool.and_eq_true,Bool.not_eq_true',decide_eq_false_iff_not] at h2
   exact absurd h h2.2
  ·first | exact h | (rw[if_pos hi] at h;exact h)
theorem good_done {xs:List Row} {c:Change} (h:Good xs) (hc:chF c=0):Good (done1 xs c):=by
 obtain ⟨hk,hr⟩:=chF_key hc
 have hb:=h.up
 constructor
 ·unfold done1 up
  have h1:(xs.take (pos xs (ck c))).Pairwise (fun a b=>befB (rk a) (rk b)=true):=hb.sublist (List.take_sublist _ _)
  have hdr:∀ n,(xs.drop n).Pairwise (fun a b=>befB (rk a) (rk b)=true):=fun n=>hb.sublist (List.drop_sublist _ _)
  have hafter:∀ y ∈ xs.drop (pos xs (ck c)+if fnd xs (ck c) then 1 else 0),befB (ck c) (rk y)=true:=fun y hy=>by
   obtain ⟨i,e⟩:=List.mem_iff_getElem?.1 hy
   rw[List.getElem?_drop] at e
   obtain ⟨hlt,e1⟩:=List.getElem?_eq_some_iff.1 e
   have hn:=up_not xs (ck c) _ hlt hb (by omega)
   rw[e1] at hn
   clear e1 hlt
   cases hbb:befB (ck c) (rk y) with
   | true=>rfl
   | false=>
    have he:=befB_tri hbb hn
    exfalso
    cases hf:fnd xs (ck c) with
    | true=>
     obtain ⟨hp,hkk⟩:=fnd_lt hf
     rw[hf] at e
     simp only[if_true] at e
     obtain ⟨hlt,e⟩:=List.getElem?_eq_some_iff.1 e
     have:=List.pairwise_iff_getElem.1 hb (pos xs (ck c)) (pos xs (ck c)+1+i) hp hlt (by omega)
     rw[e,hkk,he] at this
     rw[befB_irr] at this;cases this
    | false=>
     rw[hf] at e
     simp only[Bool.false_eq_true,if_false,Nat.add_zero] at e
     obtain ⟨hlt,e⟩:=List.getElem?_eq_some_iff.1 e
     have hp:pos xs (ck c) < xs.length:=by omega
     have hn0:=up_not xs (ck c) _ hp hb (Nat.le_refl _)
     have hne:rk xs[pos xs (ck c)]≠ck c:=fun e2=>by
      unfold fnd at hf
      rw[List.getElem?_eq_getElem hp] at hf
      simp[e2] at hf
     have hlt0:befB (ck c) (rk xs[pos xs (ck c)])=true:=by
      cases hb0:befB (ck c) (rk xs[pos xs (ck c)]) with
      | true=>rfl
      | false=>exact absurd (befB_tri hb0 hn0).symm hne
     cases i with
     | zero=>
      simp only[Nat.add_zero] at e
      rw[e,<- he,befB_irr] at hlt0;cases hlt0
     | succ i=>
      have:=List.pairwise_iff_getElem.1 hb (pos xs (ck c)) (pos xs (ck c)+(i+1)) hp hlt (by omega)
      rw[e] at this
      have:=befB_trans hlt0 this
      rw[<-he,befB_irr] at this;cases this
  have hcross:∀ a ∈ xs.take (pos xs (ck c)),∀ y ∈ xs.drop (pos xs (ck c)+if fnd xs (ck c) then 1 else 0),befB (rk a) (rk y)=true:=fun a ha y hy=>befB_trans (take_bef ha) (hafter y hy)
  cases hi:c.2.2.1 with
  | true=>
   have hkc:=hk hi
   simp only[if_true]
   refine List.pairwise_append.2 ⟨List.pairwise_append.2 ⟨h1,List.pairwise_singleton _ _,fun a ha b hb=>?_⟩,hdr _,fun a ha y hy=>?_⟩
   ·rw[List.mem_singleton] at hb;subst hb;rw[hkc];exact take_bef ha
   ·rcases List.mem_append.1 ha with ha | ha
    ·exact hcross a ha y hy
    ·rw[List.mem_singleton] at ha;subst ha;rw[hkc];exact hafter y hy
  | false=>
   simp only[Bool.false_eq_true,if_false,List.append_nil]
   exact List.pairwise_append.2 ⟨h1,hdr _,hcross⟩
 ·intro x hx
  unfold done1 at hx
  rcases List.mem_append.1 hx with hx | hx
  ·rcases List.mem_append.1 hx with hx | hx
   ·exact h.ok x (List.mem_of_mem_take hx)
   ·split at hx
    ·rename_i hi
     rw[List.mem_singleton] at hx
     rw[hx];exact hr hi
    ·cases hx
  ·exact h.ok x (List.mem_of_mem_drop hx)
theorem done_len (xs:List Row) (c:Change):(done1 xs c).length<=xs.length+1:=by
 unfold done1
 rw[List.length_append,List.length_append,List.length_take,List.length_drop]
 have:(if c.2.2.1=true then [c.2.2.2.1] else []).length<=1:=by split <;> simp
 omega
def applyStep (i:Nat) (s:List Row) (c:Change):Sum (RowsResult×Unit) (List Row):=if chF c=0 then (if fits1 s c then .inr (done1 s c) else .inl ((8,[],()),())) else .inl ((chF c,[],()),())
def applyFin (s:List Row):RowsResult×Unit:=if 60 < s.length then ((2,[],()),()) else ((0,s,()),())
def applyF (xs:List Row) (cs:List Change):RowsResult:=if rowsF xs=0 then (forI applyStep applyFin 0 cs xs).1 else (rowsF xs,[],())
theorem applyInv (n i:Nat) (s s':List Row) (c:Change) (h:Good s/\s.length<=60+i) (hf:applyStep n s c=.inr s'):Good s'/\s'.length<=60+(i+1):=by
 unfold applyStep at hf
 split at hf
 ·rename_i hc
  split at hf
  ·injection hf with hf
   subst hf
   exact ⟨good_done h.1 hc,by have:=done_len s c;omega⟩
  ·cases hf
 ·cases hf
theorem cloneRow_eq (xs:List Row) (h:xs.length<=1048576):slices_Clone_Row.sem (xs,())=some (xs,()):=by
 refine lift_eq (k:=0) fun k _=>(slices_Clone_Row.raw_eq k _).trans ?_
 show slices_Clone_Row.p _=_
 unfold slices_Clone_Row.p
 have c1:([]:List Row).length+xs.length<=CAP:=cap_ok (by simp only[List.length_nil];omega)
 exact nilB_eq (fun e=>by have e:xs=[]:=e;subst e;rfl) (by rw[if_pos c1];rfl)
theorem implApply_eq (xs:List Row) (cs:List Change) (hl:xs.length<=maxLen) (h:∀ x ∈ xs,rl x) (hcl:cs.length<=1048576) (hc:∀ c ∈ cs,cl c):impl_ApplyChanges.sem (xs,cs,())=some (applyF xs cs,()):=by
 refine lift_eq (k:=cs.length+1) fun k hk=>(impl_ApplyChanges.raw_eq k _).trans ?_
 unfold impl_ApplyChanges.p applyF
 simp only[implRows_eq xs hl h,Option.bind_some]
 by_cases h0:rowsF xs=0
 ·obtain ⟨hg,hn⟩:=rowsF_good h0
  simp only[h0,decide_true,Bool.not_true,cond_false,if_true,cloneRow_eq xs (by omega),Option.bind_some]
  exact for_loop (B:=fun self v=>impl_ApplyChanges.B0 0 self (fun z=>impl_ApplyChanges.Q0 0 (xs,cs,()) z) (xs,cs,()) v) cs (fun (s:List Row) (i:Int)=>(s,i)) applyStep applyFin (fun i s=>Good s/\s.length<=60+i) (by rw[maxLen_val];omega)
   (fun i hi s self hI=>by
    show impl_ApplyChanges.b0 _ _ _ _=_
    unfold impl_ApplyChanges.b0 applyStep
    have hlt:(i:Int) < (cs.length:Int):=by omega
    simp only[hlt,decide_true,cond_true,Int.natCast_nonneg,if_true,Int.toNat_natCast,List.getElem?_eq_getElem hi,Option.bind_some,implChange_eq _ (hc _ (List.getElem_mem hi)),fitsTo_eq _ s hI.1.up (by omega),changed_eq s _ hI.1.up (by omega)]
    by_cases h1:chF cs[i]=0
    ·simp only[h1,decide_true,Bool.not_true,cond_false,if_true]
     cases fits1 s cs[i] <;> rfl
    ·simp[h1]) (fun i hi s s' hI hf=>applyInv _ i s s' _ hI hf) (fun s self hI=>by
    show impl_ApplyChanges.b0 _ _ _ _=_
    unfold impl_ApplyChanges.b0 applyFin
    have hlt:¬ (cs.length:Int) < (cs.length:Int):=by omega
    simp only[hlt,decide_false,cond_false,impl_ApplyChanges.Q0,impl_ApplyChanges.q0]
    rw[show (60:Int)=((60:Nat):Int) from rfl,len60]
    by_cases h1:60 < s.length <;> simp[h1]) xs ⟨hg,by omega⟩ k (by omega)
 ·simp[h0];(try rfl)
end OT
set_option linter.unusedVariables false
set_option linter.unusedSimpArgs false
namespace OT
open Go
theorem forI_dup {α β O:Type} [DecidableEq β] (g:α->Option β) (bad:O) (fin:Unit->O) (p:α->α->Bool) (hp:∀ x y,p x y=true↔∃ b,g x=some b/\g y=some b) (all:List α):∀ (xs pre:List α),all=pre++xs->(pre.filterMap g).Nodup->forI (fun i _ x=>if (all.take i).any (p x) then .inl bad else .inr ()) fin pre.length xs ()=if (all.filterMap g).Nodup then fin () else bad
 | [],pre,h,hn=>by
  rw[List.append_nil] at h
  subst h
  simp only[forI,hn,if_true]
 | x::xs,pre,h,hn=>by
  have ht:all.take pre.length=pre:=by rw[h];exact List.take_left
  simp only[forI,ht]
  have hall:all.filterMap g=pre.filterMap g++([x].filterMap g++xs.filterMap g):=by rw[h,<- List.singleton_append (x:=x),List.filterMap_append,List.filterMap_append]
  cases hc:pre.any (p x) with
  | true=>
   simp only[if_true]
   obtain ⟨y,hy,hpy⟩:=List.any_eq_true.1 hc
   obtain ⟨b,h1,h2⟩:=(hp x y).1 hpy
   rw[if_neg]
   intro hnd
   rw[hall,List.nodup_append] at hnd
   exact hnd.2.2 b (List.mem_filterMap.2 ⟨y,hy,h2⟩) b (by simp[h1]) rfl
  | false=>
   simp only[Bool.false_eq_true,if_false]
   have:=forI_dup g bad fin p hp all xs (pre++[x]) (by rw[h];simp) (by
    rw[List.filterMap_append,List.nodup_append]
    refine ⟨hn,?_,fun a ha b hb e=>?_⟩
    ·cases hg:g x with
     | none=>simp[hg]
     | some b=>simp[hg]
    ·subst e
     obtain ⟨y,hy,hgy⟩:=List.mem_filterMap.1 ha
     obtain ⟨z,hz,hgz⟩:=List.mem_filterMap.1 hb
     rw[List.mem_singleton] at hz
     subst hz
     have:pre.any (p z)=true:=List.any_eq_true.2 ⟨y,hy,(hp z y).2 ⟨a,hgz,hgy⟩⟩
     rw[this] at hc;cases hc)
   rw[List.length_append] at this
   exact this
theorem forI_dup0 {α β O:Type} [DecidableEq β] (g:α->Option β) (bad:O) (fin:Unit->O) (p:α->α->Bool) (hp:∀ x y,p x y=true↔∃ b,g x=some b/\g y=some b) (xs:List α):forI (fun i _ x=>if (xs.take i).any (p x) then .inl bad else .inr ()) fin 0 xs ()=if (xs.filterMap g).Nodup then fin () else bad:=
 forI_dup g bad fin p hp xs xs [] rfl List.nodup_nil
theorem sorted_unique {α:Type} {lt:α->α->Prop} (has:∀ a b,lt a b->¬ lt b a):∀ (xs ys:List α),xs.Perm ys->xs.Pairwise lt->ys.Pairwise lt->xs=ys
 | [],ys,h,_,_=>(List.nil_perm.1 h).symm
 | x::xs,[],h,_,_=>by have:=h.length_eq;cases this
 | x::xs,y::ys,h,h1,h2=>by
  obtain ⟨a1,a2⟩:=List.pairwise_cons.1 h1
  obtain ⟨b1,b2⟩:=List.pairwise_cons.1 h2
  by_cases hxy:x=y
  ·subst hxy
   rw[sorted_unique has xs ys ((List.perm_cons x).1 h) a2 b2]
  ·have hx:x ∈ ys:=by
    have:=h.mem_iff.1 (List.mem_cons_self (a:=x) (l:=xs))
    rcases List.mem_cons.1 this with e | e
    ·exact absurd e hxy
    ·exact e
   have hy:y ∈ xs:=by
    have:=h.mem_iff.2 (List.mem_cons_self (a:=y) (l:=ys))
    rcases List.mem_cons.1 this with e | e
    ·exact absurd e.symm hxy
    ·exact e
   exact absurd (b1 x hx) (has _ _ (a1 y hy))
theorem put1_perm (xs:List Row) (r:Row):(put1 xs r).Perm (r::xs):=by
 unfold put1
 rw[List.append_assoc]
 have:=List.perm_middle (a:=r) (l₁:=xs.take (pos xs (rk r))) (l₂:=xs.drop (pos xs (rk r)))
 rw[List.take_append_drop] at this
 exact this
theorem pos_bef {xs:List Row} {k:Int×Int} {x:Row} (hu:up xs) (h:x ∈ xs.drop (pos xs k)):befB (rk x) k=false:=by
 obtain ⟨i,hi,e⟩:=List.mem_iff_getElem.1 h
 rw[List.length_drop] at hi
 rw[List.getElem_drop] at e
 rw[<-e]
 exact up_not xs k _ _ hu (by omega)
theorem up_put1 {xs:List Row} {r:Row} (hu:up xs) (hn:∀ x ∈ xs,rk x≠rk r):up (put1 xs r):=by
 unfold put1 up
 rw[List.append_assoc,List.pairwise_append]
 have hd:=hu.drop (i:=pos xs (rk r))
 refine ⟨hu.take,?_,fun a ha b hb=>?_⟩
 ·rw[List.singleton_append,List.pairwise_cons]
  refine ⟨fun b hb=>?_,hd⟩
  have h1:=pos_bef hu hb
  have h2:=hn b (List.mem_of_mem_drop hb)
  cases h3:befB (rk r) (rk b) with
  | true=>rfl
  | false=>exact absurd (befB_tri h1 h3) h2
 ·have h1:=take_bef ha
  rw[List.singleton_append] at hb
  rcases List.mem_cons.1 hb with e | e
  ·subst e;exact h1
  ·have h2:=pos_bef hu e
   have h3:=hn b (List.mem_of_mem_drop e)
   cases h4:befB (rk a) (rk b) with
   | true=>rfl
   | false=>
    cases h5:befB (rk b) (rk a) with
    | true=>rw[befB_trans h5 h1] at h2;cases h2
    | false=>
     have:=befB_tri h4 h5
     rw[this] at h1
     rw[h1] at h2;cases h2
def sortR (l:List Row):List Row:=l.foldl put1 []
theorem foldl_put1:∀ (l acc:List Row),(l.foldl put1 acc).Perm (l++acc)
 | [],acc=>List.Perm.refl _
 | r::l,acc=>by
  have h1:=foldl_put1 l (put1 acc r)
  have h2:(l++put1 acc r).Perm (l++r::acc):=(List.Perm.refl l).append (put1_perm acc r)
  exact h1.trans (h2.trans List.perm_middle)
theorem sortR_perm (l:List Row):(sortR l).Perm l:=by
 have:=foldl_put1 l []
 rw[List.append_nil] at this
 exact this
theorem foldl_up:∀ (l acc:List Row),up acc->(l.map rk++acc.map rk).Nodup->up (l.foldl put1 acc)
 | [],acc,h,_=>h
 | r::l,acc,h,hn=>by
  simp only[List.map_cons,List.cons_append,List.nodup_cons,List.mem_append,not_or] at hn
  refine foldl_up l (put1 acc r) (up_put1 h fun x hx e=>hn.1.2 (List.mem_map.2 ⟨x,hx,e⟩)) ?_
  have:(l.map rk++(put1 acc r).map rk).Perm (rk r::(l.map rk++acc.map rk)):=by
   refine ((List.Perm.refl _).append ((put1_perm acc r).map rk)).trans ?_
   rw[List.map_cons]
   exact List.perm_middle
  rw[this.nodup_iff,List.nodup_cons,List.mem_append,not_or]
  exact hn
theorem sortR_up {l:List Row} (h:(l.map rk).Nodup):up (sortR l):=foldl_up l [] List.Pairwise.nil (by simpa using h)
theorem befB_not {a b:Int×Int} (h:befB a b=true):¬ befB b a=true:=by rw[befB_asym h];exact fun h=>by cases h
theorem up_nodup {xs:List Row} (h:up xs):(xs.map rk).Nodup:=by
 unfold List.Nodup
 rw[List.pairwise_map]
 refine h.imp fun h1 e=>?_
 rw[e,befB_irr] at h1
 cases h1
end OT
set_option linter.unusedVariables false
set_option linter.unusedSimpArgs false
namespace OT
open Go
abbrev Pgs:Type:=List (List UInt8)
def goI {α β:Type} (g:Nat->α->List β):Nat->List α->List β
 | _,[]=>[]
 | i,x::xs=>g i x++goI g (i+1) xs
theorem forI_appI {O α β:Type} (g:Nat->α->List β) (fin:List β->O):∀ (xs:List α) (i:Nat) (s:List β),forI (fun i s x=>.inr (s++g i x)) fin i xs s=fin (s++goI g i xs)
 | [],_,s=>by simp[forI,goI]
 | x::xs,i,s=>by simp only[forI,goI];rw[forI_appI g fin xs (i+1)];simp[List.append_assoc]
theorem goI_len {α β:Type} {g:Nat->α->List β} {n:Nat}:∀ (xs:List α) (i:Nat),(∀ i x,x ∈ xs->(g i x).length<=n)->(goI g i xs).length<=n*xs.length
 | [],_,_=>by simp[goI]
 | x::xs,i,h=>by
  have h1:=h i x List.mem_cons_self
  have h2:=goI_len xs (i+1) fun i y hy=>h i y (List.mem_cons_of_mem _ hy)
  simp only[goI,List.length_append,List.length_cons,Nat.mul_add]
  omega
theorem goI_mem {α β:Type} {g:Nat->α->List β} {y:β}:∀ {xs:List α} {i:Nat},y ∈ goI g i xs↔∃ (j:Nat) (x:α),xs[j]?=some x/\y ∈ g (i+j) x
 | [],i=>by simp[goI]
 | x::xs,i=>by
  simp only[goI,List.mem_append,goI_mem (xs:=xs)]
  constructor
  ·rintro (h | ⟨j,z,h1,h2⟩)
   ·exact ⟨0,x,rfl,h⟩
   ·exact ⟨j+1,z,h1,by rw[show i+(j+1)=i+1+j by omega];exact h2⟩
  ·rintro ⟨j,z,h1,h2⟩
   cases j with
   | zero=>injection h1 with h1;subst h1;exact .inl h2
   | succ j=>exact .inr ⟨j,z,h1,by rw[show i+1+j=i+(j+1) by omega];exact h2⟩
def sFlag (x:L6Spot):Int:=x.2.2.1.2.1
def sTp (x:L6Spot):Int:=x.2.2.1.2.2.1
def sTs (x:L6Spot):Int:=x.2.2.1.2.2.2.1
def sRow (x:L6Spot):Row:=x.2.2.1.2.2.2.2.1
def spot1 (P:Nat) (p:List UInt8) (s:Nat):List L6Spot:=if psz p s=0 then [] else [((P:Int),(s:Int),(cellF (cellP p s)).1,())]
def spotsPg (P:Nat) (p:List UInt8):List L6Spot:=(List.range (pn p)).flatMap (spot1 P p)
def spotsF (ps:Pgs):List L6Spot:=goI spotsPg 0 ps
def cellG (ps:Pgs) (a b:Int):CellResult×Bool:=match ps[a.toNat]? with
 | some p=>if b.toNat < pn p/\psz p b.toNat≠0 then cellF (cellP p b.toNat) else (cell0,false)
 | none=>(cell0,false)
def okCell (p:List UInt8) (s:Nat):Bool:=decide (psz p s=0)||(cellF (cellP p s)).2
def pgC (p:List UInt8):Int:=if pageF p=0 then (if (List.range (pn p)).all (okCell p) then 0 else 5) else pageF p
def stubOk (ps:Pgs) (x:L6Spot):Bool:=!decide (sFlag x=1)||((cellG ps (sTp x) (sTs x)).2&&decide ((cellG ps (sTp x) (sTs x)).1.2.1=2))
def sTgt (x:L6Spot):Option (Int×Int):=if sFlag x=1 then some (sTp x,sTs x) else none
def withRow (x:L6Spot) (r:Row):L6Spot:=(x.1,x.2.1,(x.2.2.1.1,x.2.2.1.2.1,x.2.2.1.2.2.1,x.2.2.1.2.2.2.1,r,x.2.2.1.2.2.2.2.2),x.2.2.2)
def seen1 (ps:Pgs) (x:L6Spot):L6Spot:=if sFlag x=1 then withRow x (cellG ps (sTp x) (sTs x)).1.2.2.2.2.1 else x
def seenX (ps:Pgs) (x:L6Spot):List L6Spot:=if sFlag x=2 then [] else [seen1 ps x]
def seenF (ps:Pgs):List L6Spot:=(spotsF ps).flatMap (seenX ps)
def lookC (ps:Pgs):Int:=
 if (spotsF ps).all (stubOk ps) then
  if ((spotsF ps).filterMap sTgt).Nodup then (if ((seenF ps).map fun x=>rk (sRow x)).Nodup then 0 else 8) else 6
 else 4
def viewC (ps:Pgs):Int:=if 12 < ps.length then 2 else if firstF pgC ps=0 then lookC ps else firstF pgC ps
def rightP (ps:Pgs):Prop:=ps.length<=12/\∀ p ∈ ps,PageOk p
theorem pgC_ok {p:List UInt8} (h:pgC p=0):PageOk p/\∀ s,s < pn p->psz p s≠0->(cellF (cellP p s)).2=true:=by
 unfold pgC at h
 split at h
 ·rename_i h1
  split at h
  ·rename_i h2
   refine ⟨pageF_iff.1 h1,fun s hs hz=>?_⟩
   have:=List.all_eq_true.1 h2 s (List.mem_range.2 hs)
   simpa [okCell,hz] using this
  ·cases h
 ·rename_i h1;exact absurd h h1
theorem firstF_all {α:Type} {c:α->Int}:∀ {xs:List α},firstF c xs=0->∀ x ∈ xs,c x=0
 | [],_,_,hx=>by cases hx
 | y::xs,h,x,hx=>by
  simp only[firstF] at h
  split at h
  ·rename_i hy
   rcases List.mem_cons.1 hx with rfl | hx
   ·exact hy
   ·exact firstF_all h x hx
  ·rename_i hy;exact absurd h hy
theorem view_right {ps:Pgs} (h:viewC ps=0):rightP ps/\firstF pgC ps=0/\lookC ps=0:=by
 unfold viewC at h
 split at h
 ·cases h
 ·rename_i h1
  split at h
  ·rename_i h2
   exact ⟨⟨by omega,fun p hp=>(pgC_ok (firstF_all h2 p hp)).1⟩,h2,h⟩
  ·rename_i h2;exact absurd h h2
theorem spotsPg_len {p:List UInt8} (h:PageOk p) (P:Nat):(spotsPg P p).length<=16:=by
 have:∀ n,((List.range n).flatMap (spot1 P p)).length<=n:=by
  intro n
  induction n with
  | zero=>simp
  | succ n ih=>
   rw[List.range_succ,List.flatMap_append,List.length_append]
   have:(([n]:List Nat).flatMap (spot1 P p)).length<=1:=by
    simp only[List.flatMap_cons,List.flatMap_nil,List.append_nil,spot1]
    split <;> simp
   omega
 have h1:=this (pn p)
 have h2:=h.n
 unfold spotsPg;omega
theorem spots_len {ps:Pgs} (h:rightP ps):(spotsF ps).length<=192:=by
 have:=goI_len (g:=spotsPg) (n:=16) ps 0 fun i p hp=>spotsPg_len (h.2 p hp) i
 unfold spotsF;have:=h.1;omega
theorem seen_len {ps:Pgs} (h:rightP ps):(seenF ps).length<=192:=by
 have:∀ xs:List L6Spot,(xs.flatMap (seenX ps)).length<=xs.length:=by
  intro xs
  induction xs with
  | nil=>simp
  | cons x xs ih=>
   have:(seenX ps x).length<=1:=by unfold seenX;split <;> simp
   simp only[List.flatMap_cons,List.length_append,List.length_cons];omega
 have h1:=this (spotsF ps)
 have h2:=spots_len h
 unfold seenF;omega
theorem cellF_nonneg (d:List UInt8):0<=(cellF d).1.2.2.1/\0<=(cellF d).1.2.2.2.1:=by
 unfold cellF
 split
 ·exact ⟨Int.natCast_nonneg _,Int.natCast_nonneg _⟩
 ·split
  ·exact ⟨Int.le_refl _,Int.le_refl _⟩
  ·exact ⟨Int.le_refl _,Int.le_refl _⟩
theorem spot_mem {ps:Pgs} {x:L6Spot}:x ∈ spotsF ps↔∃ (P:Nat) (p:List UInt8) (s:Nat),ps[P]?=some p/\s < pn p/\psz p s≠0/\x=((P:Int),(s:Int),(cellF (cellP p s)).1,()):=by
 unfold spotsF
 rw[goI_mem]
 constructor
 ·rintro ⟨j,p,h1,h2⟩
  obtain ⟨s,h3,h4⟩:=List.mem_flatMap.1 h2
  unfold spot1 at h4
  split at h4
  ·cases h4
  ·rename_i hz
   rw[List.mem_singleton] at h4
   rw[Nat.zero_add] at h4
   exact ⟨j,p,s,h1,List.mem_range.1 h3,hz,h4⟩
 ·rintro ⟨P,p,s,h1,h2,h3,rfl⟩
  refine ⟨P,p,h1,List.mem_flatMap.2 ⟨s,List.mem_range.2 h2,?_⟩⟩
  unfold spot1
  rw[if_neg h3,Nat.zero_add]
  exact List.mem_singleton.2 rfl
theorem spot_nonneg {ps:Pgs} {x:L6Spot} (h:x ∈ spotsF ps):0<=sTp x/\0<=sTs x:=by
 obtain ⟨P,p,s,_,_,_,rfl⟩:=spot_mem.1 h
 exact cellF_nonneg _
theorem specSpots_eq (ps:Pgs) (h:rightP ps):spec_l6Spots.sem (ps,())=some (spotsF ps,()):=by
 obtain ⟨hl,hp⟩:=h
 refine lift_eq (k:=100) fun k hk=>(spec_l6Spots.raw_eq k _).trans ?_
 have inner:∀ (self:(Pgs×(List L6Spot)×Int)->Option spec_l6Spots.Out) (e0:(List L6Spot)->Option spec_l6Spots.Out) (i:Nat) (hi:i < ps.length) (s:List L6Spot),s.length<=1000->spec_l6Spots.r1 k self e0 (ps,()) ps (i:Int) (s,(0:Int))=self (ps,s++spotsPg i ps[i],w64 ((i:Int)+1)):=fun self e0 i hi s0 hs0=>by
  have hok:=hp _ (List.getElem_mem hi)
  have hn:=hok.n
  have hlen:=hok.len
  have:=range_loop (B:=fun self' v=>spec_l6Spots.B1 k self' (fun z=>spec_l6Spots.Q0 k self e0 (ps,()) ps (i:Int) z) (ps,()) ps (i:Int) v) (pn ps[i]) (fun (s:List L6Spot) (j:Int)=>(s,j)) (fun j s=>.inr (s++spot1 i ps[i] j)) (fun s=>self (ps,s,w64 ((i:Int)+1))) (fun j s=>s.length<=1000+j) (by omega)
   (fun j hj s self' hI=>by
    show spec_l6Spots.b1 _ _ _ _ _ _=_
    unfold spec_l6Spots.b1 spot1
    have hlt:(j:Int) < (pn ps[i]:Int):=by omega
    simp only[Int.natCast_nonneg,if_true,Int.toNat_natCast,List.getElem?_eq_getElem hi,Option.bind_some,pCount_eq hlen,hlt,decide_true,cond_true,pSize_eq hlen (show j < 16 by omega)]
    by_cases hz:psz ps[i] j=0
    ·have:¬ ((0:Int) < (psz ps[i] j:Int)):=by omega
     rw[decide_eq_false this]
     simp only[cond_false,hz,if_true,List.append_nil]
    ·have:((0:Int) < (psz ps[i] j:Int)):=by omega
     rw[decide_eq_true this]
     simp only[cond_true,specCellAt_eq hok hj,specRead1_eq _ (Nat.le_trans (cellP_small hok hj) (by omega)),Option.bind_some,hz,if_false]
     rw[if_pos (cap_ok (by simp only[List.length_cons,List.length_nil];omega))])
   (fun j hj s s' hI hf=>by
    injection hf with hf
    subst hf
    have:(spot1 i ps[i] j).length<=1:=by unfold spot1;split <;> simp
    rw[List.length_append];omega) (fun s self' hI=>by
    show spec_l6Spots.b1 _ _ _ _ _ _=_
    unfold spec_l6Spots.b1
    simp only[Int.natCast_nonneg,if_true,Int.toNat_natCast,List.getElem?_eq_getElem hi,Option.bind_some,pCount_eq hlen,Int.lt_irrefl,decide_false,cond_false]
    rfl) s0 (by omega) k (by omega)
  rw[forI_app (spot1 i ps[i])] at this
  exact this
 have:=for_loopE (B:=fun self v=>spec_l6Spots.B0 k self (fun z=>spec_l6Spots.Q1 k (ps,()) z) (ps,()) v) ps (fun (s:List L6Spot) (i:Int)=>(ps,s,i)) (fun i s p=>.inr (s++spotsPg i p)) (fun s=>some (s,())) (fun i s=>s.length<=16*i) (by rw[maxLen_val];omega)
  (fun i hi s self hI=>by
   show spec_l6Spots.b0 _ _ _ _ _=_
   unfold spec_l6Spots.b0
   have hlt:(i:Int) < (ps.length:Int):=by omega
   simp only[hlt,decide_true,cond_true,inner self _ i hi s (by omega)])
  (fun i hi s s' hI hf=>by
   injection hf with hf
   subst hf
   have:=spotsPg_len (hp _ (List.getElem_mem hi)) i
   rw[List.length_append];omega) (fun s self _=>by
   show spec_l6Spots.b0 _ _ _ _ _=_
   unfold spec_l6Spots.b0
   simp only[Int.lt_irrefl,decide_false,cond_false]
   rfl) [] (by simp) k (by omega)
 rw[forI_appI] at this
 exact this
theorem specCells_eq (ps:Pgs) (hl:ps.length<=12) (hp:∀ p ∈ ps,p.length<=maxLen):spec_l6Cells.sem (ps,())=some (firstF pgC ps,()):=by
 refine lift_eq (k:=100) fun k hk=>(spec_l6Cells.raw_eq k _).trans ?_
 have inner:∀ (self:(Pgs×Int)->Option spec_l6Cells.Out) (e0:Unit->Option spec_l6Cells.Out) (i:Nat) (hi:i < ps.length),PageOk ps[i]->spec_l6Cells.r1 k self e0 (ps,()) ps (i:Int) (0:Int)=if (List.range (pn ps[i])).all (okCell ps[i]) then self (ps,w64 ((i:Int)+1)) else some ((5:Int),()):=fun self e0 i hi hok=>by
  have hn:=hok.n
  have hlen:=hok.len
  have:=range_loop (B:=fun self' v=>spec_l6Cells.B1 k self' (fun z=>spec_l6Cells.Q0 k self e0 (ps,()) ps (i:Int) z) (ps,()) ps (i:Int) v) (pn ps[i]) (fun (_:Unit) (j:Int)=>j) (fun j _=>if okCell ps[i] j then .inr () else .inl (some ((5:Int),()))) (fun s=>self (ps,w64 ((i:Int)+1))) (fun _ _=>True) (by omega)
   (fun j hj s self' hI=>by
    show spec_l6Cells.b1 _ _ _ _ _ _=_
    unfold spec_l6Cells.b1 okCell
    have hlt:(j:Int) < (pn ps[i]:Int):=by omega
    simp only[Int.natCast_nonneg,if_true,Int.toNat_natCast,List.getElem?_eq_getElem hi,Option.bind_some,pCount_eq hlen,hlt,decide_true,cond_true,pSize_eq hlen (show j < 16 by omega)]
    by_cases hz:psz ps[i] j=0
    ·have:¬ ((0:Int) < (psz ps[i] j:Int)):=by omega
     rw[decide_eq_false this]
     simp only[cond_false,hz,decide_true,Bool.true_or,if_true]
    ·have:((0:Int) < (psz ps[i] j:Int)):=by omega
     rw[decide_eq_true this]
     simp only[cond_true,specCellAt_eq hok hj,specRead1_eq _ (Nat.le_trans (cellP_small hok hj) (by omega)),Option.bind_some,hz,decide_false,Bool.false_or]
     cases (cellF (cellP ps[i] j)).2 <;> rfl)
   (fun _ _ _ _ _ _=>trivial) (fun s self' hI=>by
    show spec_l6Cells.b1 _ _ _ _ _ _=_
    unfold spec_l6Cells.b1
    simp only[Int.natCast_nonneg,if_true,Int.toNat_natCast,List.getElem?_eq_getElem hi,Option.bind_some,pCount_eq hlen,Int.lt_irrefl,decide_false,cond_false]
    rfl) () trivial k (by omega)
  rw[forI_checkN] at this
  exact this
 have:=for_loopE (B:=fun self v=>spec_l6Cells.B0 k self (fun z=>spec_l6Cells.Q1 k (ps,()) z) (ps,()) v) ps (fun (_:Unit) (i:Int)=>(ps,i)) (fun i _ p=>if pgC p=0 then .inr () else .inl (some (pgC p,()))) (fun _=>some ((0:Int),())) (fun _ _=>True) (by rw[maxLen_val];omega)
  (fun i hi s self hI=>by
   show spec_l6Cells.b0 _ _ _ _ _=_
   unfold spec_l6Cells.b0 pgC
   have hlt:(i:Int) < (ps.length:Int):=by omega
   simp only[hlt,decide_true,cond_true,Int.natCast_nonneg,if_true,Int.toNat_natCast,List.getElem?_eq_getElem hi,Option.bind_some,specPage_eq _ (hp _ (List.getElem_mem hi))]
   by_cases h0:pageF ps[i]=0
   ·rw[decide_eq_true h0]
    simp only[Bool.not_true,cond_false,inner self _ i hi (pageF_iff.1 h0),h0,if_true]
    by_cases hc:(List.range (pn ps[i])).all (okCell ps[i])=true
    ·simp only[hc,if_true]
    ·simp only[hc,Bool.false_eq_true,if_false]
     rfl
   ·rw[decide_eq_false h0]
    simp only[Bool.not_false,cond_true,h0,if_false])
  (fun _ _ _ _ _ _=>trivial) (fun s self _=>by
   show spec_l6Cells.b0 _ _ _ _ _=_
   unfold spec_l6Cells.b0
   simp only[Int.lt_irrefl,decide_false,cond_false]
   rfl) () trivial k (by omega)
 rw[forI_first pgC (fun c=>some (c,())) (fun _=>some ((0:Int),()))] at this
 refine Eq.trans this ?_
 split
 ·rename_i h;rw[h]
 ·rfl
theorem specCell6_eq (ps:Pgs) (h:rightP ps) (a b:Int) (ha:0<=a) (hb:0<=b):spec_l6Cell.sem (ps,a,b,())=some ((cellG ps a b).1,(cellG ps a b).2,()):=by
 obtain ⟨hl,hp⟩:=h
 obtain ⟨a,rfl⟩:=Int.eq_ofNat_of_zero_le ha
 obtain ⟨b,rfl⟩:=Int.eq_ofNat_of_zero_le hb
 refine lift_eq (k:=0) fun k hk=>(spec_l6Cell.raw_eq k _).trans ?_
 show spec_l6Cell.p _=_
 unfold spec_l6Cell.p cellG
 have hw:w64 ((ps.length:Int) - 1)=(ps.length:Int) - 1:=w64_in (by omega)
 have h0:decide ((0:Int)<=(a:Int))=true:=decide_eq_true (by omega)
 have h1:decide ((a:Int)<=(ps.length:Int) - 1)=decide (a < ps.length):=by rw[decide_eq_decide];omega
 simp only[specIn_eq,hw,h0,h1,Option.bind_some,Bool.true_and,Int.toNat_natCast]
 by_cases hal:a < ps.length
 rotate_left
 ·rw[decide_eq_false hal,List.getElem?_eq_none (by omega)]
  rfl
 rw[decide_eq_true hal]
 have hok:=hp _ (List.getElem_mem hal)
 simp only[Bool.not_true,cond_false,Int.natCast_nonneg,if_true,List.getElem?_eq_getElem hal,Option.bind_some,specHas_eq hok]
 by_cases hc:b < pn ps[a]/\psz ps[a] b≠0
 ·rw[decide_eq_true hc.1,decide_eq_false hc.2,if_pos hc]
  simp only[Bool.not_false,Bool.and_self,Bool.not_true,cond_false,specCellAt_eq hok hc.1,specRead1_eq _ (Nat.le_trans (cellP_small hok hc.1) (by omega)),Option.bind_some]
 ·rw[if_neg hc]
  have:(decide (b < pn ps[a])&&!decide (psz ps[a] b=0))=false:=by
   rw[Bool.and_eq_false_iff]
   by_cases h2:b < pn ps[a]
   ·right
    have:psz ps[a] b=0:=by
     by_cases h3:psz ps[a] b=0
     ·exact h3
     ·exact absurd ⟨h2,h3⟩ hc
    rw[decide_eq_true this];rfl
   ·left;exact decide_eq_false h2
  rw[this]
  rfl
theorem specStubs_eq (ps:Pgs) (h:rightP ps):spec_l6Stubs.sem (spotsF ps,ps,())=some (if (spotsF ps).all (stubOk ps) then (if ((spotsF ps).filterMap sTgt).Nodup then 0 else 6) else 4,()):=by
 have hsl:=spots_len h
 have hnn:∀ x ∈ spotsF ps,0<=sTp x/\0<=sTs x:=fun x hx=>spot_nonneg hx
 generalize spotsF ps=xs at hsl hnn ⊢
 refine lift_eq (k:=300) fun k hk=>(spec_l6Stubs.raw_eq k _).trans ?_
 have inner:∀ (self:(List L6Spot×Int)->Option spec_l6Stubs.Out) (e2:Unit->Option spec_l6Stubs.Out) (i:Nat) (hi:i < xs.length),spec_l6Stubs.r2 k self e2 (xs,ps,()) xs (i:Int) (0:Int)=if (xs.take i).any (fun y=>decide (sFlag xs[i]=1)&&(decide (sFlag y=1)&&(decide (sTp xs[i]=sTp y)&&decide (sTs xs[i]=sTs y)))) then some ((6:Int),()) else self (xs,w64 ((i:Int)+1)):=fun self e2 i hi=>by
  have hti:(xs.take i).length=i:=by rw[List.length_take];omega
  have:=for_loopE (B:=fun self' v=>spec_l6Stubs.B2 k self' (fun z=>spec_l6Stubs.Q1 k self e2 (xs,ps,()) xs (i:Int) z) (xs,ps,()) xs (i:Int) v) (xs.take i) (fun (_:Unit) (j:Int)=>j) (fun _ _ y=>if decide (sFlag xs[i]=1)&&(decide (sFlag y=1)&&(decide (sTp xs[i]=sTp y)&&decide (sTs xs[i]=sTs y))) then .inl (some ((6:Int),())) else .inr ()) (fun _=>self (xs,w64 ((i:Int)+1))) (fun _ _=>True) (by rw[maxLen_val];omega)
   (fun j hj s self' _=>by
    have hji:j < i:=by omega
    have hj2:j < xs.length:=by omega
    show spec_l6Stubs.b2 _ _ _ _ _ _=_
    unfold spec_l6Stubs.b2
    have hlt:(j:Int) < (i:Int):=by omega
    have hg:(xs.take i)[j]=xs[j]:=List.getElem_take
    rw[hg]
    simp only[hlt,decide_true,cond_true,Int.natCast_nonneg,if_true,Int.toNat_natCast,List.getElem?_eq_getElem hi,List.getElem?_eq_getElem hj2,Option.bind_some]
    show (bif decide (sFlag xs[i]=1) then bif decide (sFlag xs[j]=1) then bif decide (sTp xs[i]=sTp xs[j]) then bif decide (sTs xs[i]=sTs xs[j]) then _ else _ else _ else _ else _)=_
    cases decide (sFlag xs[i]=1) <;> cases decide (sFlag xs[j]=1) <;> cases decide (sTp xs[i]=sTp xs[j]) <;> cases decide (sTs xs[i]=sTs xs[j]) <;> rfl)
   (fun _ _ _ _ _ _=>trivial) (fun s self' _=>by
    rw[hti]
    show spec_l6Stubs.b2 _ _ _ _ _ _=_
    unfold spec_l6Stubs.b2
    simp only[Int.lt_irrefl,decide_false,cond_false]
    rfl) () trivial k (by omega)
  rw[forI_any] at this
  exact this
 have second:spec_l6Stubs.r1 k (xs,ps,()) (xs,(0:Int))=if (xs.filterMap sTgt).Nodup then some ((0:Int),()) else some ((6:Int),()):=by
  have:=for_loopE (B:=fun self v=>spec_l6Stubs.B1 k self (fun z=>spec_l6Stubs.Q2 k (xs,ps,()) z) (xs,ps,()) v) xs (fun (_:Unit) (i:Int)=>(xs,i)) (fun i _ x=>if (xs.take i).any (fun y=>decide (sFlag x=1)&&(decide (sFlag y=1)&&(decide (sTp x=sTp y)&&decide (sTs x=sTs y)))) then .inl (some ((6:Int),())) else .inr ()) (fun _=>some ((0:Int),())) (fun _ _=>True) (by rw[maxLen_val];omega)
   (fun i hi s self _=>by
    show spec_l6Stubs.b1 _ _ _ _ _=_
    unfold spec_l6Stubs.b1
    have hlt:(i:Int) < (xs.length:Int):=by omega
    simp only[hlt,decide_true,cond_true,inner self _ i hi]
    split <;> rfl)
   (fun _ _ _ _ _ _=>trivial) (fun s self _=>by
    show spec_l6Stubs.b1 _ _ _ _ _=_
    unfold spec_l6Stubs.b1
    simp only[Int.lt_irrefl,decide_false,cond_false]
    rfl) () trivial k (by omega)
  rw[forI_dup0 sTgt (some ((6:Int),())) (fun _=>some ((0:Int),())) (fun x y=>decide (sFlag x=1)&&(decide (sFlag y=1)&&(decide (sTp x=sTp y)&&decide (sTs x=sTs y)))) (fun x y=>?_) xs] at this
  ·exact this
  ·unfold sTgt
   simp only[Bool.and_eq_true,decide_eq_true_eq]
   constructor
   ·rintro ⟨h1,h2,h3,h4⟩
    exact ⟨(sTp x,sTs x),by rw[if_pos h1],by rw[if_pos h2,h3,h4]⟩
   ·rintro ⟨b,h1,h2⟩
    by_cases c1:sFlag x=1
    ·by_cases c2:sFlag y=1
     ·rw[if_pos c1] at h1
      rw[if_pos c2] at h2
      injection h1 with h1
      injection h2 with h2
      rw[<-h2] at h1
      injection h1 with h3 h4
      exact ⟨c1,c2,h3,h4⟩
     ·rw[if_neg c2] at h2;cases h2
    ·rw[if_neg c1] at h1;cases h1
 have:=for_loopE (B:=fun self v=>spec_l6Stubs.B0 k self (fun z=>spec_l6Stubs.Q0 k (xs,ps,()) z) (xs,ps,()) v) xs (fun (_:Unit) (i:Int)=>i) (fun i _ x=>if stubOk ps x then .inr () else .inl (some ((4:Int),()))) (fun _=>spec_l6Stubs.r1 k (xs,ps,()) (xs,(0:Int))) (fun _ _=>True) (by rw[maxLen_val];omega)
  (fun i hi s self _=>by
   show spec_l6Stubs.b0 _ _ _ _=_
   unfold spec_l6Stubs.b0 stubOk
   have hlt:(i:Int) < (xs.length:Int):=by omega
   obtain ⟨g1,g2⟩:=hnn _ (List.getElem_mem hi)
   have hcc:spec_l6Cell.sem (ps,(xs[i]).2.2.1.2.2.1,(xs[i]).2.2.1.2.2.2.1,())=some ((cellG ps (sTp xs[i]) (sTs xs[i])).1,(cellG ps (sTp xs[i]) (sTs xs[i])).2,()):=specCell6_eq ps h _ _ g1 g2
   simp only[hlt,decide_true,cond_true,Int.natCast_nonneg,if_true,Int.toNat_natCast,List.getElem?_eq_getElem hi,Option.bind_some,hcc]
   show (bif !decide (sFlag xs[i]=1) then _ else _)=_
   cases decide (sFlag xs[i]=1) <;> cases (cellG ps (sTp xs[i]) (sTs xs[i])).2 <;> cases decide ((cellG ps (sTp xs[i]) (sTs xs[i])).1.2.1=2) <;> rfl)
  (fun _ _ _ _ _ _=>trivial) (fun s self _=>by
   show spec_l6Stubs.b0 _ _ _ _=_
   unfold spec_l6Stubs.b0
   simp only[Int.lt_irrefl,decide_false,cond_false]
   rfl) () trivial k (by omega)
 rw[forI_check (stubOk ps) (some ((4:Int),())) (fun _=>spec_l6Stubs.r1 k (xs,ps,()) (xs,(0:Int)))] at this
 refine Eq.trans this ?_
 rw[second]
 split
 ·split <;> rfl
 ·rfl
theorem specSeen_eq (ps:Pgs) (h:rightP ps):spec_l6Seen.sem (ps,())=some (seenF ps,()):=by
 refine lift_eq (k:=300) fun k hk=>(spec_l6Seen.raw_eq k _).trans ?_
 unfold spec_l6Seen.p
 rw[specSpots_eq ps h]
 simp only[Option.bind_some]
 have hsl:=spots_len h
 have hnn:∀ x ∈ spotsF ps,0<=sTp x/\0<=sTs x:=fun x hx=>spot_nonneg hx
 unfold seenF
 generalize spotsF ps=xs at hsl hnn ⊢
 have:=for_loopE (B:=fun self v=>spec_l6Seen.B0 k self (fun z=>spec_l6Seen.Q0 k (ps,()) xs z) (ps,()) xs v) xs (fun (s:List L6Spot) (i:Int)=>(s,i)) (fun i s x=>.inr (s++seenX ps x)) (fun s=>some (s,())) (fun i s=>s.length<=i) (by rw[maxLen_val];omega)
  (fun i hi s self hI=>by
   show spec_l6Seen.b0 _ _ _ _ _=_
   unfold spec_l6Seen.b0 seenX
   have hlt:(i:Int) < (xs.length:Int):=by omega
   obtain ⟨g1,g2⟩:=hnn _ (List.getElem_mem hi)
   have hcc:spec_l6Cell.sem (ps,(xs[i]).2.2.1.2.2.1,(xs[i]).2.2.1.2.2.2.1,())=some ((cellG ps (sTp xs[i]) (sTs xs[i])).1,(cellG ps (sTp xs[i]) (sTs xs[i])).2,()):=specCell6_eq ps h _ _ g1 g2
   have hcap:∀ y:L6Spot,s.length+[y].length<=CAP:=fun y=>cap_ok (by simp only[List.length_cons,List.length_nil];omega)
   simp only[hlt,decide_true,cond_true,Int.natCast_nonneg,and_self,if_true,Int.toNat_natCast,List.getElem?_eq_getElem hi,Option.bind_some,hcc,hcap]
   show (bif decide (sFlag xs[i]=2) then _ else bif decide (sFlag xs[i]=1) then _ else _)=_
   unfold seen1
   by_cases c2:sFlag xs[i]=2
   ·simp only[c2,decide_true,cond_true,if_true,List.append_nil]
   ·by_cases c1:sFlag xs[i]=1
    ·simp only[c1,c2,decide_true,decide_false,cond_true,cond_false,if_true,if_false]
     rfl
    ·simp only[c1,c2,decide_false,cond_false,if_false])
  (fun i hi s s' hI hf=>by
   injection hf with hf
   subst hf
   have:(seenX ps xs[i]).length<=1:=by unfold seenX;split <;> simp
   rw[List.length_append];omega) (fun s self _=>by
   show spec_l6Seen.b0 _ _ _ _ _=_
   unfold spec_l6Seen.b0
   simp only[Int.lt_irrefl,decide_false,cond_false]
   rfl) [] (by simp) k (by omega)
 rw[forI_app (seenX ps)] at this
 exact this
def sKey (x:L6Spot):Option (Int×Int):=some (rk (sRow x))
theorem specView_eq (ps:Pgs) (hp:∀ p ∈ ps,p.length<=maxLen):spec_l6Fault.sem (ps,())=some (viewC ps,()):=by
 refine lift_eq (k:=300) fun k hk=>(spec_l6Fault.raw_eq k _).trans ?_
 unfold spec_l6Fault.p viewC
 by_cases hl:12 < ps.length
 ·have:(12:Int) < (ps.length:Int):=by omega
  simp only[this,decide_true,cond_true,hl,if_true]
 have hl':¬ ((12:Int) < (ps.length:Int)):=by omega
 simp only[hl',decide_false,cond_false,hl,if_false,specCells_eq ps (by omega) hp,Option.bind_some]
 by_cases hc:firstF pgC ps=0
 rotate_left
 ·simp only[hc,decide_false,Bool.not_false,cond_true,if_false]
 have h:rightP ps:=⟨by omega,fun p hp=>(pgC_ok (firstF_all hc p hp)).1⟩
 simp only[hc,decide_true,Bool.not_true,cond_false,if_true,specSpots_eq ps h,specStubs_eq ps h,specSeen_eq ps h,Option.bind_some]
 unfold lookC
 by_cases h1:(spotsF ps).all (stubOk ps)=true
 rotate_left
 ·simp only[h1,Bool.false_eq_true,if_false]
  rfl
 by_cases h2:((spotsF ps).filterMap sTgt).Nodup
 rotate_left
 ·simp only[h1,h2,if_true,if_false]
  rfl
 simp only[h1,h2,if_true,decide_true,Bool.not_true,cond_false]
 have hsl:=seen_len h
 generalize seenF ps=xs at hsl ⊢
 have inner:∀ (self:(List L6Spot×Int)->Option spec_l6Fault.Out) (e0:Unit->Option spec_l6Fault.Out) (i:Nat) (hi:i < xs.length),spec_l6Fault.r1 k self e0 (ps,()) xs (i:Int) (0:Int)=if (xs.take i).any (fun y=>decide ((sRow xs[i]).1=(sRow y).1)&&decide ((sRow xs[i]).2.1=(sRow y).2.1)) then some ((8:Int),()) else self (xs,w64 ((i:Int)+1)):=fun self e0 i hi=>by
  have hti:(xs.take i).length=i:=by rw[List.length_take];omega
  have:=for_loopE (B:=fun self' v=>spec_l6Fault.B1 k self' (fun z=>spec_l6Fault.Q0 k self e0 (ps,()) xs (i:Int) z) (ps,()) xs (i:Int) v) (xs.take i) (fun (_:Unit) (j:Int)=>j) (fun _ _ y=>if decide ((sRow xs[i]).1=(sRow y).1)&&decide ((sRow xs[i]).2.1=(sRow y).2.1) then .inl (some ((8:Int),())) else .inr ()) (fun _=>self (xs,w64 ((i:Int)+1))) (fun _ _=>True) (by rw[maxLen_val];omega)
   (fun j hj s self' _=>by
    have hji:j < i:=by omega
    have hj2:j < xs.length:=by omega
    show spec_l6Fault.b1 _ _ _ _ _ _=_
    unfold spec_l6Fault.b1
    have hlt:(j:Int) < (i:Int):=by omega
    have hlt1:(i:Int) < (xs.length:Int):=by omega
    have hlt2:(j:Int) < (xs.length:Int):=by omega
    have hg:(xs.take i)[j]=xs[j]:=List.getElem_take
    rw[hg]
    simp only[hlt,hlt1,hlt2,decide_true,cond_true,Int.natCast_nonneg,and_self,if_true,Int.toNat_natCast,List.getElem?_eq_getElem hi,List.getElem?_eq_getElem hj2,Option.bind_some]
    show (bif decide ((sRow xs[i]).1=(sRow xs[j]).1) then bif decide ((sRow xs[i]).2.1=(sRow xs[j]).2.1) then _ else _ else _)=_
    cases decide ((sRow xs[i]).1=(sRow xs[j]).1) <;> cases decide ((sRow xs[i]).2.1=(sRow xs[j]).2.1) <;> rfl)
   (fun _ _ _ _ _ _=>trivial) (fun s self' _=>by
    rw[hti]
    show spec_l6Fault.b1 _ _ _ _ _ _=_
    unfold spec_l6Fault.b1
    simp only[Int.lt_irrefl,decide_false,cond_false]
    rfl) () trivial k (by omega)
  rw[forI_any] at this
  exact this
 have:=for_loopE (B:=fun self v=>spec_l6Fault.B0 k self (fun z=>spec_l6Fault.Q1 k (ps,()) z) (ps,()) v) xs (fun (_:Unit) (i:Int)=>(xs,i)) (fun i _ x=>if (xs.take i).any (fun y=>decide ((sRow x).1=(sRow y).1)&&decide ((sRow x).2.1=(sRow y).2.1)) then .inl (some ((8:Int),())) else .inr ()) (fun _=>some ((0:Int),())) (fun _ _=>True) (by rw[maxLen_val];omega)
  (fun i hi s self _=>by
   show spec_l6Fault.b0 _ _ _ _ _=_
   unfold spec_l6Fault.b0
   have hlt:(i:Int) < (xs.length:Int):=by omega
   simp only[hlt,decide_true,cond_true,inner self _ i hi]
   split <;> rfl)
  (fun _ _ _ _ _ _=>trivial) (fun s self _=>by
   show spec_l6Fault.b0 _ _ _ _ _=_
   unfold spec_l6Fault.b0
   simp only[Int.lt_irrefl,decide_false,cond_false]
   rfl) () trivial k (by omega)
 rw[forI_dup0 sKey (some ((8:Int),())) (fun _=>some ((0:Int),())) (fun x y=>decide ((sRow x).1=(sRow y).1)&&decide ((sRow x).2.1=(sRow y).2.1)) (fun x y=>?_) xs] at this
 ·refine Eq.trans this ?_
  have:xs.filterMap sKey=xs.map fun x=>rk (sRow x):=by
   unfold sKey
   rw[<-List.filterMap_eq_map]
   rfl
  rw[this]
  split <;> rfl
 ·unfold sKey rk
  simp only[Bool.and_eq_true,decide_eq_true_eq]
  constructor
  ·rintro ⟨h1,h2⟩;exact ⟨_,rfl,by rw[h1,h2]⟩
  ·rintro ⟨b,h1,h2⟩
   injection h1 with h1
   injection h2 with h2
   rw[<-h2] at h1
   injection h1 with h3 h4
   exact ⟨h3,h4⟩
end OT
set_option linter.unusedVariables false
set_option linter.unusedSimpArgs false
namespace OT
open Go Go.Sort
abbrev tK2:Ty:=.arr 2 i64
theorem key2_eq (a b c d:Int):Ty.eq tK2 [a,b] [c,d]=(decide (a=c)&&decide (b=d)):=by
 show ([(a,c),(b,d)]:List (Int×Int)).all (fun p=>Ty.eq i64 p.1 p.2)=_
 simp only[List.all_cons,List.all_nil,Bool.and_true]
 rfl
theorem key2_lay (a b:Int):((List.replicate 2 (0:Int)).set 0 a).set 1 b=[a,b]:=rfl
theorem mapPut_fresh {α:Type} (k:Ty) (m:List (k.den×α)) (x:k.den) (y:α) (h:∀ e ∈ m,k.eq x e.1=false):mapPut k m x y=m++[(x,y)]:=by
 have:m.findIdx? (fun e=>k.eq x e.1)=none:=by
  rw[List.findIdx?_eq_none_iff]
  exact h
 unfold mapPut
 rw[this]
def rowsOf1 (x:L6Spot):List Seen:=if sFlag x=0 then [(sRow x,x.1,x.2.1,false,x.1,x.2.1,())] else []
def stubOf1 (x:L6Spot):List Seen:=if sFlag x=1 then [(row0,x.1,x.2.1,true,sTp x,sTs x,())] else []
def movOf1 (x:L6Spot):List (List Int×Row):=if sFlag x=2 then [([x.1,x.2.1],sRow x)] else []
theorem cellF_flag (d:List UInt8):(cellF d).2=true->(cellF d).1.1=0/\((cellF d).1.2.1=0\/(cellF d).1.2.1=1\/(cellF d).1.2.1=2):=by
 unfold cellF
 split
 ·intro _;exact ⟨rfl,.inr (.inl rfl)⟩
 ·split
  ·intro h;cases h
  ·rename_i h
   intro _
   refine ⟨rfl,?_⟩
   show ((pb d 0:Int)=0\/(pb d 0:Int)=1\/(pb d 0:Int)=2)
   omega
def cellsOk (ps:Pgs):Prop:=rightP ps/\∀ p ∈ ps,∀ s,s < pn p->psz p s≠0->(cellF (cellP p s)).2=true
theorem cells_of {ps:Pgs} (hl:ps.length<=12) (h:firstF pgC ps=0):cellsOk ps:=
 ⟨⟨hl,fun p hp=>(pgC_ok (firstF_all h p hp)).1⟩,fun p hp=>(pgC_ok (firstF_all h p hp)).2⟩
theorem spot_flag {ps:Pgs} (h:cellsOk ps) {x:L6Spot} (hx:x ∈ spotsF ps):sFlag x=0\/sFlag x=1\/sFlag x=2:=by
 obtain ⟨P,p,s,h1,h2,h3,rfl⟩:=spot_mem.1 hx
 exact (cellF_flag _ (h.2 p (List.mem_of_getElem? h1) s h2 h3)).2
theorem gather_len (S:List L6Spot):(S.flatMap rowsOf1).length<=S.length/\(S.flatMap stubOf1).length<=S.length:=by
 induction S with
 | nil=>exact ⟨Nat.le_refl _,Nat.le_refl _⟩
 | cons x S ih=>
  have h1:(rowsOf1 x).length<=1:=by unfold rowsOf1;split <;> simp
  have h2:(stubOf1 x).length<=1:=by unfold stubOf1;split <;> simp
  simp only[List.flatMap_cons,List.length_append,List.length_cons]
  omega
theorem mov_get {ps:Pgs} (h:cellsOk ps) (a b:Int) (ha:0<=a) (hb:0<=b):mapGet tK2 ((spotsF ps).flatMap movOf1) [a,b]=if (cellG ps a b).2&&decide ((cellG ps a b).1.2.1=2) then some (cellG ps a b).1.2.2.2.2.1 else none:=by
 obtain ⟨a,rfl⟩:=Int.eq_ofNat_of_zero_le ha
 obtain ⟨b,rfl⟩:=Int.eq_ofNat_of_zero_le hb
 unfold mapGet
 have at_:∀ x ∈ spotsF ps,x.1=(a:Int)->x.2.1=(b:Int)->cellG ps (a:Int) (b:Int)=(x.2.2.1,true):=fun x hx e1 e2=>by
  obtain ⟨P,p,s,h1,h2,h3,rfl⟩:=spot_mem.1 hx
  have e1:(P:Int)=(a:Int):=e1
  have e2:(s:Int)=(b:Int):=e2
  have e1:P=a:=by omega
  have e2:s=b:=by omega
  subst e1;subst e2
  unfold cellG
  simp only[Int.toNat_natCast,h1]
  rw[if_pos ⟨h2,h3⟩]
  have:=h.2 p (List.mem_of_getElem? h1) s h2 h3
  rw[<-this]
 cases hf:((spotsF ps).flatMap movOf1).find? (fun e=>Ty.eq tK2 [(a:Int),(b:Int)] e.1) with
 | some e=>
  have hm:=List.mem_of_find?_eq_some hf
  have hp:=List.find?_some hf
  obtain ⟨x,hx,hxe⟩:=List.mem_flatMap.1 hm
  unfold movOf1 at hxe
  split at hxe
  ·rename_i h2
   rw[List.mem_singleton] at hxe
   subst hxe
   rw[key2_eq,Bool.and_eq_true,decide_eq_true_eq,decide_eq_true_eq] at hp
   have hg:=at_ x hx hp.1.symm hp.2.symm
   rw[hg]
   have:(x.2.2.1).2.1=2:=h2
   simp only[this,decide_true,Bool.and_self,if_true,Option.map_some]
   rfl
  ·cases hxe
 | none=>
  rw[if_neg]
  ·rfl
  ·intro hc
   rw[Bool.and_eq_true,decide_eq_true_eq] at hc
   obtain ⟨c1,c2⟩:=hc
   have:∃ x ∈ spotsF ps,x.1=(a:Int)/\x.2.1=(b:Int)/\sFlag x=2:=by
    unfold cellG at c1 c2
    simp only[Int.toNat_natCast] at c1 c2
    cases hpa:ps[a]? with
    | none=>rw[hpa] at c1;cases c1
    | some p=>
     rw[hpa] at c1 c2
     simp only at c1 c2
     by_cases hc:b < pn p/\psz p b≠0
     ·rw[if_pos hc] at c2
      exact ⟨_,spot_mem.2 ⟨a,p,b,hpa,hc.1,hc.2,rfl⟩,rfl,rfl,c2⟩
     ·rw[if_neg hc] at c1;cases c1
   obtain ⟨x,hx,e1,e2,e3⟩:=this
   have hm:([x.1,x.2.1],sRow x) ∈ (spotsF ps).flatMap movOf1:=List.mem_flatMap.2 ⟨x,hx,by unfold movOf1;rw[if_pos e3];exact List.mem_singleton.2 rfl⟩
   have:=List.find?_eq_none.1 hf _ hm
   rw[key2_eq,e1,e2] at this
   simp at this
def convS (x:L6Spot):Seen:=(sRow x,x.1,x.2.1,decide (sFlag x=1),(if sFlag x=1 then sTp x else x.1),(if sFlag x=1 then sTs x else x.2.1),())
def fillS (ps:Pgs) (y:Seen):Seen:=(orZ (mapGet tK2 ((spotsF ps).flatMap movOf1) [y.2.2.2.2.1,y.2.2.2.2.2.1]) row0,y.2)
def listV (ps:Pgs):List Seen:=(spotsF ps).flatMap rowsOf1++((spotsF ps).flatMap stubOf1).map (fillS ps)
theorem listV_perm {ps:Pgs} (h:cellsOk ps) (hs:(spotsF ps).all (stubOk ps)=true):(listV ps).Perm ((seenF ps).map convS):=by
 unfold listV seenF
 have hall:=List.all_eq_true.1 hs
 have hfl:∀ x ∈ spotsF ps,sFlag x=0\/sFlag x=1\/sFlag x=2:=fun x hx=>spot_flag h hx
 have hnn:∀ x ∈ spotsF ps,0<=sTp x/\0<=sTs x:=fun x hx=>spot_nonneg hx
 have key:∀ S:List L6Spot,(∀ x ∈ S,x ∈ spotsF ps)->(S.flatMap rowsOf1++(S.flatMap stubOf1).map (fillS ps)).Perm ((S.flatMap (seenX ps)).map convS):=by
  intro S
  induction S with
  | nil=>intro _;exact List.Perm.refl _
  | cons x S ih=>
   intro hS
   have ih:=ih fun y hy=>hS y (List.mem_cons_of_mem _ hy)
   have hx:=hS x List.mem_cons_self
   simp only[List.flatMap_cons,List.map_append]
   rcases hfl x hx with h0 | h1 | h2
   ·have e1:rowsOf1 x=[convS (seen1 ps x)]:=by
     unfold rowsOf1 convS seen1
     have n1:¬ sFlag x=1:=by omega
     rw[if_pos h0,if_neg n1,if_neg n1,if_neg n1,decide_eq_false n1]
    have e2:stubOf1 x=[]:=by unfold stubOf1;rw[if_neg (by omega)]
    have e3:seenX ps x=[seen1 ps x]:=by unfold seenX;rw[if_neg (by omega)]
    rw[e1,e2,e3]
    simp only[List.map_nil,List.nil_append,List.map_cons,List.cons_append]
    exact List.Perm.cons _ ih
   ·have e1:rowsOf1 x=[]:=by unfold rowsOf1;rw[if_neg (by omega)]
    have e3:seenX ps x=[seen1 ps x]:=by unfold seenX;rw[if_neg (by omega)]
    have e2:(stubOf1 x).map (fillS ps)=[convS (seen1 ps x)]:=by
     unfold stubOf1
     rw[if_pos h1]
     simp only[List.map_cons,List.map_nil]
     obtain ⟨g1,g2⟩:=hnn x hx
     have hst:=hall x hx
     unfold stubOk at hst
     rw[decide_eq_true h1] at hst
     simp only[Bool.not_true,Bool.false_or] at hst
     have hg:=mov_get h (sTp x) (sTs x) g1 g2
     rw[if_pos hst] at hg
     unfold fillS
     simp only[hg,orZ]
     unfold seen1
     rw[if_pos h1]
     have hfl1:sFlag (withRow x (cellG ps (sTp x) (sTs x)).1.2.2.2.2.1)=1:=h1
     unfold convS
     rw[if_pos hfl1,if_pos hfl1,decide_eq_true hfl1]
     rfl
    rw[e1,e2,e3]
    simp only[List.nil_append,List.map_cons,List.map_nil,List.cons_append]
    exact (List.perm_middle).trans (List.Perm.cons _ ih)
   ·have e1:rowsOf1 x=[]:=by unfold rowsOf1;rw[if_neg (by omega)]
    have e2:stubOf1 x=[]:=by unfold stubOf1;rw[if_neg (by omega)]
    have e3:seenX ps x=[]:=by unfold seenX;rw[if_pos h2]
    rw[e1,e2,e3]
    simpa using ih
 exact key (spotsF ps) fun x hx=>hx
def ltS (x y:Seen):Bool:=befB (rk x.1) (rk y.1)
def cfS (x y:Seen):Int:=if befB (x.1.1,x.1.2.1) (y.1.1,y.1.2.1) then -1 else if befB (y.1.1,y.1.2.1) (x.1.1,x.1.2.1) then 1 else 0
theorem cfS_lt:Go.Proofs.ltOf cfS=ltS:=by
 funext x y
 exact ord_lt x.1 y.1
theorem look1_eq (x y:Seen):impl_look_1.sem (x,y,())=some (cfS x y,()):=by
 refine lift_eq (k:=0) fun k hk=>(impl_look_1.raw_eq k _).trans ?_
 show impl_look_1.p _=_
 unfold impl_look_1.p
 rw[order_eq]
 rfl
theorem swoS:SWO ltS where
 irrefl x:=befB_irr _
 trans x y z h1 h2:=befB_trans h1 h2
 ntrans x y z h1 h2:=by
  cases h3:ltS x z with
  | false=>rfl
  | true=>
   unfold ltS at h1 h2 h3
   cases h4:befB (rk y.1) (rk x.1) with
   | true=>
    have:=befB_trans h4 h3
    rw[this] at h2;cases h2
   | false=>
    have:=befB_tri h1 h4
    rw[this] at h3
    rw[h3] at h2;cases h2
def putS (xs:List Seen) (x:Seen):List Seen:=xs.take (pos (xs.map (·.1)) (rk x.1))++[x]++xs.drop (pos (xs.map (·.1)) (rk x.1))
def sortS (l:List Seen):List Seen:=l.foldl putS []
theorem putS_map (xs:List Seen) (x:Seen):(putS xs x).map (·.1)=put1 (xs.map (·.1)) x.1:=by
 unfold putS put1
 simp only[List.map_append,List.map_take,List.map_drop,List.map_cons,List.map_nil]
theorem putS_perm (xs:List Seen) (x:Seen):(putS xs x).Perm (x::xs):=by
 unfold putS
 rw[List.append_assoc]
 have:=List.perm_middle (a:=x) (l₁:=xs.take (pos (xs.map (·.1)) (rk x.1))) (l₂:=xs.drop (pos (xs.map (·.1)) (rk x.1)))
 rw[List.take_append_drop] at this
 exact this
theorem sortS_map (l:List Seen):(sortS l).map (·.1)=sortR (l.map (·.1)):=by
 have main:∀ (l acc:List Seen),(l.foldl putS acc).map (·.1)=(l.map (·.1)).foldl put1 (acc.map (·.1)):=by
  intro l
  induction l with
  | nil=>intro acc;rfl
  | cons x l ih=>intro acc;simp only[List.foldl_cons,List.map_cons,ih,putS_map]
 exact main l []
theorem sortS_perm (l:List Seen):(sortS l).Perm l:=by
 have main:∀ (l acc:List Seen),(l.foldl putS acc).Perm (l++acc):=by
  intro l
  induction l with
  | nil=>intro acc;exact List.Perm.refl _
  | cons x l ih=>
   intro acc
   exact (ih (putS acc x)).trans (((List.Perm.refl l).append (putS_perm acc x)).trans List.perm_middle)
 have:=main l []
 rw[List.append_nil] at this
 exact this
def upS (xs:List Seen):Prop:=xs.Pairwise fun x y=>ltS x y=true
theorem upS_iff {xs:List Seen}:upS xs↔up (xs.map (·.1)):=by
 unfold upS up
 rw[List.pairwise_map]
 rfl
theorem sortS_unique {l r:List Seen} (hp:r.Perm l) (hr:upS r) (hn:(l.map fun x=>rk x.1).Nodup):r=sortS l:=by
 refine sorted_unique (lt:=fun x y=>ltS x y=true) (fun a b h=>befB_not h) r (sortS l) (hp.trans (sortS_perm l).symm) hr (upS_iff.2 ?_)
 rw[sortS_map]
 refine sortR_up ?_
 rw[List.map_map]
 exact hn
theorem upS_nodup {r:List Seen} (h:upS r):(r.map fun x=>rk x.1).Nodup:=by
 have:=up_nodup (upS_iff.1 h)
 rw[List.map_map] at this
 exact this
def adjB:List Seen->Bool
 | x::y::l=>ltS x y&&adjB (y::l)
 | _=>true
theorem adj_up:∀ (l:List Seen),adjB l=true->upS l
 | [],_=>List.Pairwise.nil
 | [x],_=>List.pairwise_singleton _ _
 | x::y::l,h=>by
  simp only[adjB,Bool.and_eq_true] at h
  have ih:=adj_up (y::l) h.2
  refine List.pairwise_cons.2 ⟨fun z hz=>?_,ih⟩
  rcases List.mem_cons.1 hz with rfl | hz
  ·exact h.1
  ·exact befB_trans h.1 ((List.pairwise_cons.1 ih).1 z hz)
theorem up_adjB:∀ (l:List Seen),upS l->adjB l=true
 | [],_=>rfl
 | [x],_=>rfl
 | x::y::l,h=>by
  obtain ⟨h1,h2⟩:=List.pairwise_cons.1 h
  simp only[adjB,Bool.and_eq_true]
  exact ⟨h1 y List.mem_cons_self,up_adjB (y::l) h2⟩
theorem sorted_up {r:List Seen} (h:r.Pairwise fun x y=>ltS y x=false) (hn:(r.map fun x=>rk x.1).Nodup):upS r:=by
 unfold upS
 have h2:r.Pairwise fun x y=>rk x.1≠rk y.1:=by
  unfold List.Nodup at hn
  rw[List.pairwise_map] at hn
  exact hn
 refine (h.and h2).imp fun {x y} ⟨g1,g2⟩=>?_
 cases h3:ltS x y with
 | true=>rfl
 | false=>exact absurd (befB_tri h3 g1) g2
end OT
set_option linter.unusedVariables false
set_option linter.unusedSimpArgs false
namespace OT
open Go Go.Sort
theorem sort_sem (z:List Seen) (hl:z.length<=1000):∃ r:List Seen,(∀ f:Nat×Int,slices_SortFunc_seen.sem (z,f,())=some (r,()))/\r.Perm z/\r.Pairwise fun x y=>ltS y x=false:=by
 have hs:SWO (Go.Proofs.ltOf cfS):=by rw[cfS_lt];exact swoS
 have h1:=sortF_eq (e:=tSeen) (cs:=impl_look_1.sem) (cf:=cfS) (fun x y=>look1_eq x y) hs z (cap_ok (Nat.le_trans hl (by omega)))
 have h2:=pdq_spec (α:=tSeen.den) (lt:=Go.Proofs.ltOf cfS) hs z
 refine ⟨_,fun f=>?_,h2.1,?_⟩
 ·show (sortF tSeen impl_look_1.sem z).map (fun r=>(r,()))=_
  rw[h1]
  rfl
 ·exact h2.2.imp fun {x y} (h:Go.Proofs.ltOf (α:=Seen) cfS y x=false)=>by rw[cfS_lt] at h;exact h
theorem forI_adj {O:Type} (r:List Seen) (bad e:O):∀ (l pre:List Seen) (x:Seen),r=pre++x::l->forI (fun i (_:Unit) y=>if (match r[i]? with | some z=>ltS z y | none=>true) then .inr () else .inl bad) (fun _=>e) pre.length l ()=if adjB (x::l) then e else bad
 | [],pre,x,_=>by simp[forI,adjB]
 | y::l,pre,x,h=>by
  have hx:r[pre.length]?=some x:=by rw[h,List.getElem?_append_right (Nat.le_refl _)];simp
  simp only[forI,hx,adjB]
  by_cases hc:ltS x y=true
  rotate_left
  ·have hc':ltS x y=false:=by simpa using hc
   simp only[hc',Bool.false_eq_true,if_false,Bool.false_and]
  ·simp only[hc,if_true,Bool.true_and]
   have:=forI_adj r bad e l (pre++[x]) y (by rw[h];simp)
   rw[List.length_append] at this
   exact this
theorem adj_walk (ps:Pgs) (k:Nat) (hk:300<=k) (r:List Seen) (hl:r.length<=192):rawIter (fun self v=>impl_look.B4 k self (fun z=>impl_look.Q4 k (ps,()) r z) (ps,()) r v) k 1=if adjB r then some (r,(0:Int),()) else some (([]:List Seen),(8:Int),()):=by
 have:=for_loopE (B:=fun self v=>impl_look.B4 k self (fun z=>impl_look.Q4 k (ps,()) r z) (ps,()) r v) (r.drop 1) (fun (_:Unit) (i:Int)=>i+1) (fun i _ y=>if (match r[i]? with | some z=>ltS z y | none=>true) then .inr () else .inl (some (([]:List Seen),(8:Int),()))) (fun _=>some (r,(0:Int),())) (fun _ _=>True) (by rw[maxLen_val,List.length_drop];omega)
  (fun i hi s self _=>by
   rw[List.length_drop] at hi
   show impl_look.b4 _ _ _ _ _=_
   unfold impl_look.b4
   have hlt:(i:Int)+1 < (r.length:Int):=by omega
   have hlt2:(i:Int) < (r.length:Int):=by omega
   have hnn:(0:Int)<=(i:Int)+1:=by omega
   have hw1:w64 ((i:Int)+1 - 1)=(i:Int):=by rw[w64_in (by omega)];omega
   have hw2:w64 ((i:Int)+1+1)=w64 ((i:Int)+1)+1:=by rw[w64_in (by omega),w64_in (by omega)]
   have htn:((i:Int)+1).toNat=i+1:=by omega
   have hg:(r.drop 1)[i]'(by rw[List.length_drop];omega)=r[i+1]'(by omega):=by rw[List.getElem_drop];congr 1;omega
   rw[hg]
   simp only[hlt,hlt2,hnn,hw1,hw2,htn,decide_true,cond_true,Int.natCast_nonneg,and_self,if_true,Int.toNat_natCast,List.getElem?_eq_getElem (show i < r.length by omega),List.getElem?_eq_getElem (show i+1 < r.length by omega),Option.bind_some,isBefore_eq]
   show (bif !ltS r[i] (r[i+1]'(by omega)) then _ else _)=_
   cases ltS r[i] (r[i+1]'(by omega)) <;> rfl)
  (fun _ _ _ _ _ _=>trivial) (fun s self _=>by
   rw[List.length_drop]
   show impl_look.b4 _ _ _ _ _=_
   unfold impl_look.b4
   have hlt:¬ (((r.length - 1:Nat):Int)+1 < (r.length:Int)):=by omega
   simp only[hlt,decide_false,cond_false]
   rfl) () trivial k (by rw[List.length_drop];omega)
 refine Eq.trans this ?_
 cases r with
 | nil=>rfl
 | cons x l=>
  exact forI_adj (x::l) _ _ l [] x rfl
def viewL (ps:Pgs):List Seen:=if viewC ps=0 then sortS ((seenF ps).map convS) else []
def lookL (ps:Pgs):List Seen:=if lookC ps=0 then sortS ((seenF ps).map convS) else []
def keyS2 (y:Seen):Option (Int×Int):=some (y.2.2.2.2.1,y.2.2.2.2.2.1)
def toldE (y:Seen):List Int×Bool:=([y.2.2.2.2.1,y.2.2.2.2.2.1],true)
theorem told_get (T:List Seen) (a b:Int):orZ (mapGet tK2 (T.map toldE) [a,b]) false=T.any fun y=>decide (a=y.2.2.2.2.1)&&decide (b=y.2.2.2.2.2.1):=by
 induction T with
 | nil=>rfl
 | cons y T ih=>
  have hk:Ty.eq tK2 [a,b] (toldE y).1=(decide (a=y.2.2.2.2.1)&&decide (b=y.2.2.2.2.2.1)):=key2_eq _ _ _ _
  unfold mapGet at ih ⊢
  rw[List.map_cons,List.find?_cons,List.any_cons,hk]
  cases (decide (a=y.2.2.2.2.1)&&decide (b=y.2.2.2.2.2.1)) with
  | true=>rfl
  | false=>simpa using ih
theorem tgt_keys (S:List L6Spot):(S.flatMap stubOf1).filterMap keyS2=S.filterMap sTgt:=by
 induction S with
 | nil=>rfl
 | cons x S ih=>
  rw[List.flatMap_cons,List.filterMap_append,ih]
  unfold stubOf1
  by_cases h:sFlag x=1
  ·rw[if_pos h]
   have:sTgt x=some (sTp x,sTs x):=by unfold sTgt;rw[if_pos h]
   simp[List.filterMap_cons,this,keyS2]
  ·rw[if_neg h]
   have:sTgt x=none:=by unfold sTgt;rw[if_neg h]
   simp[List.filterMap_cons,this]
theorem implLook_eq (ps:Pgs) (h:cellsOk ps):impl_look.sem (ps,())=some (lookL ps,lookC ps,()):=by
 obtain ⟨hl,hp⟩:=h.1
 have hsl:=spots_len h.1
 refine lift_eq (k:=300) fun k hk=>(impl_look.raw_eq k _).trans ?_
 have inner:∀ (self:(List Seen×List Seen×List (List Int×Row)×Pgs×Int×Int)->Option impl_look.Out) (e0:(List Seen×List Seen×List (List Int×Row))->Option impl_look.Out) (i:Nat) (hi:i < ps.length) (S:List L6Spot),S.length<=16*i->(∀ x ∈ S,x.1 < (i:Int)) ->
   impl_look.r1 k self e0 (ps,()) (i:Int) ps[i] ps (ps.length:Int) (pn ps[i]:Int) (S.flatMap rowsOf1,S.flatMap stubOf1,S.flatMap movOf1,(0:Int))=self ((S++spotsPg i ps[i]).flatMap rowsOf1,(S++spotsPg i ps[i]).flatMap stubOf1,(S++spotsPg i ps[i]).flatMap movOf1,ps,(ps.length:Int),w64 ((i:Int)+1)):=fun self e0 i hi S0 hS0 hfr=>by
  have hok:=hp _ (List.getElem_mem hi)
  have hn:=hok.n
  have hlen:=hok.len
  have hcell:=h.2 _ (List.getElem_mem hi)
  have:=range_loop (B:=fun self' v=>impl_look.B1 k self' (fun z=>impl_look.Q0 k self e0 (ps,()) (i:Int) ps[i] ps (ps.length:Int) (pn ps[i]:Int) z) (ps,()) (i:Int) ps[i] ps (ps.length:Int) (pn ps[i]:Int) v) (pn ps[i]) (fun (S:List L6Spot) (j:Int)=>(S.flatMap rowsOf1,S.flatMap stubOf1,S.flatMap movOf1,j)) (fun j S=>.inr (S++spot1 i ps[i] j)) (fun S=>self (S.flatMap rowsOf1,S.flatMap stubOf1,S.flatMap movOf1,ps,(ps.length:Int),w64 ((i:Int)+1))) (fun j S=>S.length<=16*i+j/\∀ x ∈ S,x.1 < (i:Int)\/(x.1=(i:Int)/\x.2.1 < (j:Int))) (by omega)
   (fun j hj S self' ⟨hI1,hI2⟩=>by
    show impl_look.b1 _ _ _ _ _ _ _ _ _=_
    unfold impl_look.b1 spot1
    have hlt:(j:Int) < (pn ps[i]:Int):=by omega
    simp only[hlt,decide_true,cond_true,implHas_eq hok,hj,Bool.true_and,Option.bind_some]
    by_cases hz:psz ps[i] j=0
    ·simp only[hz,decide_true,Bool.not_true,Bool.not_false,cond_true,if_true,List.append_nil]
    ·have hc2:=hcell j hj hz
     obtain ⟨f1,f2⟩:=cellF_flag _ hc2
     obtain ⟨l1,l2⟩:=gather_len S
     have hcap:∀ (T:List Seen) (y:Seen),T.length<=S.length->T.length+[y].length<=CAP:=fun T y hT=>cap_ok (by simp only[List.length_cons,List.length_nil];omega)
     simp only[hz,decide_false,Bool.not_false,Bool.not_true,cond_false,implCellAt_eq hok hj,implUnpack_eq _ (Nat.le_trans (cellP_small hok hj) (by omega)),hc2,if_true,if_false,Option.bind_some,f1,decide_true,hcap _ _ l1,hcap _ _ l2,key2_lay]
     obtain ⟨x,hx⟩:∃ x:L6Spot,x=((i:Int),(j:Int),(cellF (cellP ps[i] j)).1,()):=⟨_,rfl⟩
     have hxf:sFlag x=(cellF (cellP ps[i] j)).1.2.1:=by rw[hx];rfl
     rw[<-hx]
     simp only[List.flatMap_append,List.flatMap_cons,List.flatMap_nil,List.append_nil]
     rcases f2 with g | g | g
     ·have e1:rowsOf1 x=[((cellF (cellP ps[i] j)).1.2.2.2.2.1,(i:Int),(j:Int),false,(i:Int),(j:Int),())]:=by unfold rowsOf1;rw[if_pos (hxf.trans g),hx];rfl
      have e2:stubOf1 x=[]:=by unfold stubOf1;rw[if_neg (by omega)]
      have e3:movOf1 x=[]:=by unfold movOf1;rw[if_neg (by omega)]
      rw[e1,e2,e3]
      simp only[g,decide_true,cond_true,List.append_nil,List.length_cons,List.length_nil,Nat.zero_lt_succ,List.length_replicate,List.length_set,if_true]
     ·have e1:rowsOf1 x=[]:=by unfold rowsOf1;rw[if_neg (by omega)]
      have e2:stubOf1 x=[(row0,(i:Int),(j:Int),true,(cellF (cellP ps[i] j)).1.2.2.1,(cellF (cellP ps[i] j)).1.2.2.2.1,())]:=by unfold stubOf1;rw[if_pos (hxf.trans g),hx];rfl
      have e3:movOf1 x=[]:=by unfold movOf1;rw[if_neg (by omega)]
      rw[e1,e2,e3]
      have n1:¬ ((1:Int)=0):=by decide
      have n2:¬ ((1:Int)=2):=by decide
      simp only[g,n1,n2,decide_false,cond_false,List.append_nil,List.length_cons,List.length_nil,Nat.zero_lt_succ,List.length_replicate,List.length_set,if_true]
     ·have e1:rowsOf1 x=[]:=by unfold rowsOf1;rw[if_neg (by omega)]
      have e2:stubOf1 x=[]:=by unfold stubOf1;rw[if_neg (by omega)]
      have e3:movOf1 x=[([(i:Int),(j:Int)],(cellF (cellP ps[i] j)).1.2.2.2.2.1)]:=by unfold movOf1;rw[if_pos (hxf.trans g),hx];rfl
      rw[e1,e2,e3]
      have n1:¬ ((2:Int)=0):=by decide
      have hput:mapPut tK2 (S.flatMap movOf1) [(i:Int),(j:Int)] (cellF (cellP ps[i] j)).1.2.2.2.2.1=S.flatMap movOf1++[([(i:Int),(j:Int)],(cellF (cellP ps[i] j)).1.2.2.2.2.1)]:=mapPut_fresh tK2 _ _ _ fun e he=>by
       obtain ⟨y,hy,hye⟩:=List.mem_flatMap.1 he
       unfold movOf1 at hye
       split at hye
       ·rw[List.mem_singleton] at hye
        subst hye
        rw[key2_eq]
        rcases hI2 y hy with c | ⟨c,d⟩
        ·rw[decide_eq_false (show ¬ (i:Int)=y.1 by omega)];rfl
        ·rw[decide_eq_false (show ¬ (j:Int)=y.2.1 by omega),Bool.and_false]
       ·cases hye
      simp only[g,n1,decide_false,decide_true,cond_false,cond_true,hput,List.append_nil,List.length_cons,List.length_nil,Nat.zero_lt_succ,List.length_replicate,List.length_set,if_true]
      rfl)
   (fun j hj S S' ⟨hI1,hI2⟩ hf=>by
    injection hf with hf
    subst hf
    have:(spot1 i ps[i] j).length<=1:=by unfold spot1;split <;> simp
    refine ⟨by rw[List.length_append];omega,fun x hx=>?_⟩
    rcases List.mem_append.1 hx with hx | hx
    ·rcases hI2 x hx with c | ⟨c,d⟩
     ·exact .inl c
     ·exact .inr ⟨c,by omega⟩
    ·unfold spot1 at hx
     split at hx
     ·cases hx
     ·rw[List.mem_singleton] at hx
      subst hx
      exact .inr ⟨rfl,by show (j:Int) < ((j+1:Nat):Int);omega⟩) (fun S self' hI=>by
    show impl_look.b1 _ _ _ _ _ _ _ _ _=_
    unfold impl_look.b1
    simp only[Int.lt_irrefl,decide_false,cond_false]
    rfl) S0 ⟨by omega,fun x hx=>.inl (hfr x hx)⟩ k (by omega)
  rw[forI_app (spot1 i ps[i])] at this
  exact this
 have outer:impl_look.r0 k (ps,()) (([]:List Seen),([]:List Seen),([]:List (List Int×Row)),ps,(ps.length:Int),(0:Int))=impl_look.Q1 k (ps,()) ((spotsF ps).flatMap rowsOf1,(spotsF ps).flatMap stubOf1,(spotsF ps).flatMap movOf1):=by
  have:=for_loopE (B:=fun self v=>impl_look.B0 k self (fun z=>impl_look.Q1 k (ps,()) z) (ps,()) v) ps (fun (S:List L6Spot) (i:Int)=>(S.flatMap rowsOf1,S.flatMap stubOf1,S.flatMap movOf1,ps,(ps.length:Int),i)) (fun i S p=>.inr (S++spotsPg i p)) (fun S=>impl_look.Q1 k (ps,()) (S.flatMap rowsOf1,S.flatMap stubOf1,S.flatMap movOf1)) (fun i S=>S.length<=16*i/\∀ x ∈ S,x.1 < (i:Int)) (by rw[maxLen_val];omega)
   (fun i hi S self ⟨hI1,hI2⟩=>by
    show impl_look.b0 _ _ _ _ _=_
    unfold impl_look.b0
    have hlt:(i:Int) < (ps.length:Int):=by omega
    have hlen:=(hp _ (List.getElem_mem hi)).len
    simp only[hlt,decide_true,cond_true,Int.natCast_nonneg,if_true,Int.toNat_natCast,List.getElem?_eq_getElem hi,Option.bind_some,pSlots_eq hlen,inner self _ i hi S hI1 hI2])
   (fun i hi S S' ⟨hI1,hI2⟩ hf=>by
    injection hf with hf
    subst hf
    have:=spotsPg_len (hp _ (List.getElem_mem hi)) i
    refine ⟨by rw[List.length_append];omega,fun x hx=>?_⟩
    rcases List.mem_append.1 hx with hx | hx
    ·have:=hI2 x hx;omega
    ·obtain ⟨s,_,hs⟩:=List.mem_flatMap.1 hx
     unfold spot1 at hs
     split at hs
     ·cases hs
     ·rw[List.mem_singleton] at hs
      subst hs
      show (i:Int) < ((i+1:Nat):Int)
      omega) (fun S self hI=>by
    show impl_look.b0 _ _ _ _ _=_
    unfold impl_look.b0
    simp only[Int.lt_irrefl,decide_false,cond_false]) [] ⟨by simp,fun x hx=>by cases hx⟩ k (by omega)
  rw[forI_appI] at this
  exact this
 show impl_look.r0 k (ps,()) (([]:List Seen),([]:List Seen),([]:List (List Int×Row)),ps,(ps.length:Int),(0:Int))=_
 rw[outer]
 show impl_look.q1 _ _ _=_
 unfold impl_look.q1
 obtain ⟨gl1,gl2⟩:=gather_len (spotsF ps)
 have hT:∀ y ∈ (spotsF ps).flatMap stubOf1,∃ x ∈ spotsF ps,sFlag x=1/\y=(row0,x.1,x.2.1,true,sTp x,sTs x,()):=fun y hy=>by
  obtain ⟨x,hx,hxy⟩:=List.mem_flatMap.1 hy
  unfold stubOf1 at hxy
  split at hxy
  ·rename_i hf
   exact ⟨x,hx,hf,List.mem_singleton.1 hxy⟩
  ·cases hxy
 have l2w:impl_look.r2 k (ps,()) ((spotsF ps).flatMap rowsOf1) ((spotsF ps).flatMap stubOf1) ((spotsF ps).flatMap movOf1) (((spotsF ps).flatMap stubOf1).length:Int) (0:Int)=if (spotsF ps).all (stubOk ps) then impl_look.Q2 k (ps,()) ((spotsF ps).flatMap rowsOf1) ((spotsF ps).flatMap stubOf1) ((spotsF ps).flatMap movOf1) (((spotsF ps).flatMap stubOf1).length:Int) () else some (([]:List Seen),(4:Int),()):=by
  obtain ⟨T,hTd⟩:∃ T,T=(spotsF ps).flatMap stubOf1:=⟨_,rfl⟩
  obtain ⟨M,hM⟩:∃ M,M=(spotsF ps).flatMap movOf1:=⟨_,rfl⟩
  rw[<-hTd,<- hM]
  have hTl:T.length<=192:=by rw[hTd];omega
  have:=for_loopE (B:=fun self v=>impl_look.B2 k self (fun z=>impl_look.Q2 k (ps,()) ((spotsF ps).flatMap rowsOf1) T M (T.length:Int) z) (ps,()) ((spotsF ps).flatMap rowsOf1) T M (T.length:Int) v) T (fun (_:Unit) (i:Int)=>i) (fun i _ y=>if (mapGet tK2 M [y.2.2.2.2.1,y.2.2.2.2.2.1]).isSome then .inr () else .inl (some (([]:List Seen),(4:Int),()))) (fun _=>impl_look.Q2 k (ps,()) ((spotsF ps).flatMap rowsOf1) T M (T.length:Int) ()) (fun _ _=>True) (by rw[maxLen_val];omega)
   (fun i hi s self _=>by
    show impl_look.b2 _ _ _ _ _ _ _ _=_
    unfold impl_look.b2
    have hlt:(i:Int) < (T.length:Int):=by omega
    simp only[hlt,decide_true,cond_true,Int.natCast_nonneg,and_self,if_true,Int.toNat_natCast,List.getElem?_eq_getElem hi,Option.bind_some,key2_lay,List.length_replicate,List.length_set,show (0:Nat) < 2 by omega,show (1:Nat) < 2 by omega]
    cases (mapGet tK2 M [(T[i]).2.2.2.2.1,(T[i]).2.2.2.2.2.1]).isSome <;> rfl)
   (fun _ _ _ _ _ _=>trivial) (fun s self _=>by
    show impl_look.b2 _ _ _ _ _ _ _ _=_
    unfold impl_look.b2
    simp only[Int.lt_irrefl,decide_false,cond_false]) () trivial k (by omega)
  rw[forI_check (fun y:Seen=>(mapGet tK2 M [y.2.2.2.2.1,y.2.2.2.2.2.1]).isSome) (some (([]:List Seen),(4:Int),())) (fun _=>impl_look.Q2 k (ps,()) ((spotsF ps).flatMap rowsOf1) T M (T.length:Int) ())] at this
  refine Eq.trans this ?_
  have hb:T.all (fun y:Seen=>(mapGet tK2 M [y.2.2.2.2.1,y.2.2.2.2.2.1]).isSome)=(spotsF ps).all (stubOk ps):=by
   have hone:∀ x ∈ spotsF ps,sFlag x=1->(mapGet tK2 M [sTp x,sTs x]).isSome=stubOk ps x:=fun x hx hf=>by
    obtain ⟨g1,g2⟩:=spot_nonneg hx
    rw[hM,mov_get h _ _ g1 g2]
    unfold stubOk
    rw[decide_eq_true hf]
    cases ((cellG ps (sTp x) (sTs x)).2&&decide ((cellG ps (sTp x) (sTs x)).1.2.1=2)) <;> rfl
   rw[Bool.eq_iff_iff,List.all_eq_true,List.all_eq_true]
   constructor
   ·intro hall x hx
    by_cases hf:sFlag x=1
    ·rw[<-hone x hx hf]
     have hy:(row0,x.1,x.2.1,true,sTp x,sTs x,()) ∈ T:=by
      rw[hTd]
      exact List.mem_flatMap.2 ⟨x,hx,by unfold stubOf1;rw[if_pos hf];exact List.mem_singleton.2 rfl⟩
     exact hall _ hy
    ·unfold stubOk;rw[decide_eq_false hf];rfl
   ·intro hall y hy
    obtain ⟨x,hx,hf,e⟩:=hT y (hTd ▸ hy)
    subst e
    exact (hone x hx hf).trans (hall x hx)
  rw[hb]
 rw[l2w]
 unfold lookL lookC
 by_cases hst:(spotsF ps).all (stubOk ps)=true
 rotate_left
 ·simp only[hst,Bool.false_eq_true,if_false]
  rfl
 simp only[hst,if_true]
 show impl_look.q2 _ _ _ _ _ _ _=_
 unfold impl_look.q2
 have l3w:impl_look.r3 k (ps,()) ((spotsF ps).flatMap rowsOf1) ((spotsF ps).flatMap stubOf1) ((spotsF ps).flatMap movOf1) (((spotsF ps).flatMap stubOf1).length:Int) ((spotsF ps).flatMap stubOf1) ((spotsF ps).flatMap movOf1) (((spotsF ps).flatMap stubOf1).length:Int) ((spotsF ps).flatMap rowsOf1,([]:List (List Int×Bool)),(0:Int))=if ((spotsF ps).filterMap sTgt).Nodup then impl_look.Q3 k (ps,()) ((spotsF ps).flatMap stubOf1) ((spotsF ps).flatMap movOf1) (((spotsF ps).flatMap stubOf1).length:Int) (listV ps) else some (([]:List Seen),(6:Int),()):=by
  have hkeys:=tgt_keys (spotsF ps)
  unfold listV
  obtain ⟨T,hTd⟩:∃ T,T=(spotsF ps).flatMap stubOf1:=⟨_,rfl⟩
  obtain ⟨M,hM⟩:∃ M,M=(spotsF ps).flatMap movOf1:=⟨_,rfl⟩
  obtain ⟨L,hL⟩:∃ L,L=(spotsF ps).flatMap rowsOf1:=⟨_,rfl⟩
  have hfill:∀ y:Seen,fillS ps y=(orZ (mapGet tK2 M [y.2.2.2.2.1,y.2.2.2.2.2.1]) row0,y.2):=fun y=>by unfold fillS;rw[hM]
  rw[<-hTd,<- hM,<- hL]
  rw[<-hTd] at hkeys
  have hTl:T.length<=192:=by rw[hTd];omega
  have hLl:L.length<=192:=by rw[hL];omega
  have:=for_loopE (B:=fun self v=>impl_look.B3 k self (fun z=>impl_look.Q3 k (ps,()) T M (T.length:Int) z) (ps,()) T M (T.length:Int) v) T (fun (_:Unit) (i:Int)=>(L++(T.take i.toNat).map (fillS ps),(T.take i.toNat).map toldE,i)) (fun i _ y=>if (T.take i).any (fun z=>decide (y.2.2.2.2.1=z.2.2.2.2.1)&&decide (y.2.2.2.2.2.1=z.2.2.2.2.2.1)) then .inl (some (([]:List Seen),(6:Int),())) else .inr ()) (fun _=>impl_look.Q3 k (ps,()) T M (T.length:Int) (L++T.map (fillS ps))) (fun _ _=>True) (by rw[maxLen_val];omega)
   (fun i hi s self _=>by
    show impl_look.b3 _ _ _ _ _ _ _=_
    unfold impl_look.b3
    have hlt:(i:Int) < (T.length:Int):=by omega
    have hcap:∀ y:Seen,(L++(T.take i).map (fillS ps)).length+[y].length<=CAP:=fun y=>cap_ok (by simp only[List.length_append,List.length_map,List.length_take,List.length_cons,List.length_nil];omega)
    have hw:(w64 ((i:Int)+1)).toNat=i+1:=by rw[w64_in (by omega)];omega
    have htk:T.take (i+1)=T.take i++[T[i]]:=List.take_succ_eq_append_getElem hi
    simp only[hlt,decide_true,cond_true,Int.natCast_nonneg,and_self,if_true,Int.toNat_natCast,List.getElem?_eq_getElem hi,Option.bind_some,key2_lay,List.length_replicate,List.length_set,show (0:Nat) < 2 by omega,show (1:Nat) < 2 by omega,told_get,hcap,hw,htk,List.map_append,List.map_cons,List.map_nil]
    have htg:=told_get (T.take i) (T[i]).2.2.2.2.1 (T[i]).2.2.2.2.2.1
    refine Eq.trans (congrArg (fun b:Bool=>bif b then (some (([]:List Seen),(6:Int),()):Option impl_look.Out) else self (L++(T.take i).map (fillS ps)++[(orZ (mapGet tK2 M [(T[i]).2.2.2.2.1,(T[i]).2.2.2.2.2.1]) ((0:Int),(0:Int),(0:Int),([]:List UInt8),()),(T[i]).2)],mapPut tK2 ((T.take i).map toldE) [(T[i]).2.2.2.2.1,(T[i]).2.2.2.2.2.1] true,w64 ((i:Int)+1))) htg) ?_
    cases hc:(T.take i).any (fun z=>decide ((T[i]).2.2.2.2.1=z.2.2.2.2.1)&&decide ((T[i]).2.2.2.2.2.1=z.2.2.2.2.2.1)) with
    | true=>rfl
    | false=>
     simp only[cond_false,Bool.false_eq_true,if_false]
     have hput:mapPut tK2 ((T.take i).map toldE) [(T[i]).2.2.2.2.1,(T[i]).2.2.2.2.2.1] true=(T.take i).map toldE++[toldE T[i]]:=mapPut_fresh tK2 _ _ _ fun e he=>by
      obtain ⟨z,hz,rfl⟩:=List.mem_map.1 he
      have h1:=List.any_eq_false.1 hc z hz
      have:Ty.eq tK2 [(T[i]).2.2.2.2.1,(T[i]).2.2.2.2.2.1] (toldE z).1=_:=key2_eq _ _ _ _
      rw[this]
      simpa using h1
     rw[hput,hfill,List.append_assoc])
   (fun _ _ _ _ _ _=>trivial) (fun s self _=>by
    show impl_look.b3 _ _ _ _ _ _ _=_
    unfold impl_look.b3
    simp only[Int.lt_irrefl,decide_false,cond_false,Int.toNat_natCast,List.take_length]) () trivial k (by omega)
  rw[forI_dup0 keyS2 (some (([]:List Seen),(6:Int),())) (fun _=>impl_look.Q3 k (ps,()) T M (T.length:Int) (L++T.map (fillS ps))) (fun y z=>decide (y.2.2.2.2.1=z.2.2.2.2.1)&&decide (y.2.2.2.2.2.1=z.2.2.2.2.2.1)) (fun y z=>?_) T,hkeys] at this
  ·simp only[Int.toNat_zero,List.take_zero,List.map_nil,List.append_nil] at this
   exact this
  ·unfold keyS2
   simp only[Bool.and_eq_true,decide_eq_true_eq]
   constructor
   ·rintro ⟨h1,h2⟩;exact ⟨_,rfl,by rw[h1,h2]⟩
   ·rintro ⟨b,h1,h2⟩
    injection h1 with h1
    injection h2 with h2
    rw[<-h2] at h1
    injection h1 with h3 h4
    exact ⟨h3,h4⟩
 rw[l3w]
 by_cases htk:((spotsF ps).filterMap sTgt).Nodup
 rotate_left
 ·simp only[htk,if_false]
  rfl
 simp only[htk,if_true]
 show impl_look.q3 _ _ _ _ _ _=_
 unfold impl_look.q3
 have hperm:=listV_perm h hst
 have hvl:(listV ps).length<=192:=by
  have:=hperm.length_eq
  rw[List.length_map] at this
  have:=seen_len h.1
  omega
 obtain ⟨r,hr1,hr2,hr3⟩:=sort_sem (listV ps) (by omega)
 rw[hr1]
 simp only[Option.bind_some]
 have hrl:r.length<=192:=by have:=hr2.length_eq;omega
 have hrp:=hr2.trans hperm
 have hkn:(r.map fun x=>rk x.1).Nodup↔((seenF ps).map fun x=>rk (sRow x)).Nodup:=by
  have h1:(r.map fun x=>rk x.1).Perm (((seenF ps).map convS).map fun x=>rk x.1):=hrp.map _
  rw[h1.nodup_iff,List.map_map]
  exact Iff.rfl
 refine (adj_walk ps k hk r hrl).trans ?_
 by_cases hnd:((seenF ps).map fun x=>rk (sRow x)).Nodup
 ·have hup:=sorted_up hr3 (hkn.2 hnd)
  have hun:=sortS_unique hrp hup (by rw[List.map_map];exact hnd)
  simp only[hnd,if_true,up_adjB r hup]
  rw[hun]
 ·have:¬ adjB r=true:=fun ha=>hnd (hkn.1 (upS_nodup (adj_up r ha)))
  simp only[hnd,this,if_false]
  rfl
theorem implView_eq (ps:Pgs) (hp:∀ p ∈ ps,p.length<=maxLen):impl_view.sem (ps,())=some (viewL ps,viewC ps,()):=by
 refine lift_eq (k:=300) fun k hk=>(impl_view.raw_eq k _).trans ?_
 unfold impl_view.p viewL viewC
 by_cases hl:12 < ps.length
 ·have:(12:Int) < (ps.length:Int):=by omega
  simp only[this,decide_true,cond_true,hl,if_true]
  rfl
 have hl':¬ ((12:Int) < (ps.length:Int)):=by omega
 simp only[hl',decide_false,cond_false,hl,if_false]
 have inner:∀ (self:(Pgs×Pgs×Int×Int)->Option impl_view.Out) (e0:Pgs->Option impl_view.Out) (i:Nat) (hi:i < ps.length),PageOk ps[i]->impl_view.r1 k self e0 (ps,()) ps ps[i] ps (ps.length:Int) (i:Int) (pn ps[i]:Int) (0:Int)=if (List.range (pn ps[i])).all (okCell ps[i]) then self (ps,ps,(ps.length:Int),w64 ((i:Int)+1)) else some (([]:List Seen),(5:Int),()):=fun self e0 i hi hok=>by
  have hn:=hok.n
  have hlen:=hok.len
  have:=range_loop (B:=fun self' v=>impl_view.B1 k self' (fun z=>impl_view.Q0 k self e0 (ps,()) ps ps[i] ps (ps.length:Int) (i:Int) (pn ps[i]:Int) z) (ps,()) ps ps[i] ps (ps.length:Int) (i:Int) (pn ps[i]:Int) v) (pn ps[i]) (fun (_:Unit) (j:Int)=>j) (fun j _=>if okCell ps[i] j then .inr () else .inl (some (([]:List Seen),(5:Int),()))) (fun _=>self (ps,ps,(ps.length:Int),w64 ((i:Int)+1))) (fun _ _=>True) (by omega)
   (fun j hj s self' hI=>by
    show impl_view.b1 _ _ _ _ _ _ _ _ _ _=_
    unfold impl_view.b1 okCell
    have hlt:(j:Int) < (pn ps[i]:Int):=by omega
    simp only[hlt,decide_true,cond_true,implHas_eq hok,hj,Bool.true_and,Option.bind_some]
    by_cases hz:psz ps[i] j=0
    ·simp only[hz,decide_true,Bool.not_true,cond_false,Bool.true_or,if_true]
    ·simp only[hz,decide_false,Bool.not_false,cond_true,implCellAt_eq hok hj,implUnpack_eq _ (Nat.le_trans (cellP_small hok hj) (by omega)),Option.bind_some,Bool.false_or]
     cases hc:(cellF (cellP ps[i] j)).2 with
     | true=>
      have:=(cellF_flag _ hc).1
      simp only[if_true,this,decide_true,Bool.not_true,cond_false]
     | false=>rfl)
   (fun _ _ _ _ _ _=>trivial) (fun s self' hI=>by
    show impl_view.b1 _ _ _ _ _ _ _ _ _ _=_
    unfold impl_view.b1
    simp only[Int.lt_irrefl,decide_false,cond_false]
    rfl) () trivial k (by omega)
  rw[forI_checkN] at this
  exact this
 have outer:impl_view.r0 k (ps,()) (ps,ps,(ps.length:Int),(0:Int))=if firstF pgC ps=0 then impl_view.Q1 k (ps,()) ps else some (([]:List Seen),firstF pgC ps,()):=by
  have:=for_loopE (B:=fun self v=>impl_view.B0 k self (fun z=>impl_view.Q1 k (ps,()) z) (ps,()) v) ps (fun (_:Unit) (i:Int)=>(ps,ps,(ps.length:Int),i)) (fun i _ p=>if pgC p=0 then .inr () else .inl (some (([]:List Seen),pgC p,()))) (fun _=>impl_view.Q1 k (ps,()) ps) (fun _ _=>True) (by rw[maxLen_val];omega)
   (fun i hi s self hI=>by
    show impl_view.b0 _ _ _ _ _=_
    unfold impl_view.b0 pgC
    have hlt:(i:Int) < (ps.length:Int):=by omega
    simp only[hlt,decide_true,cond_true,Int.natCast_nonneg,if_true,Int.toNat_natCast,List.getElem?_eq_getElem hi,Option.bind_some,implPage_eq _ (hp _ (List.getElem_mem hi))]
    by_cases h0:pageF ps[i]=0
    ·have hok:=pageF_iff.1 h0
     rw[decide_eq_true h0]
     simp only[Bool.not_true,cond_false,pSlots_eq hok.len,Option.bind_some,inner self _ i hi hok,h0,if_true]
     by_cases hc:(List.range (pn ps[i])).all (okCell ps[i])=true
     ·simp only[hc,if_true]
     ·simp only[hc,Bool.false_eq_true,if_false]
      rfl
    ·rw[decide_eq_false h0]
     simp only[Bool.not_false,cond_true,h0,if_false])
   (fun _ _ _ _ _ _=>trivial) (fun s self _=>by
    show impl_view.b0 _ _ _ _ _=_
    unfold impl_view.b0
    simp only[Int.lt_irrefl,decide_false,cond_false]) () trivial k (by omega)
  rw[forI_first pgC (fun c=>some (([]:List Seen),c,())) (fun _=>impl_view.Q1 k (ps,()) ps)] at this
  exact this
 rw[outer]
 by_cases hc:firstF pgC ps=0
 ·simp only[hc,if_true]
  show impl_view.q1 _ _=_
  unfold impl_view.q1
  rw[implLook_eq ps (cells_of (by omega) hc)]
  rfl
 ·simp only[hc,if_false]
end OT
set_option linter.unusedVariables false
set_option linter.unusedSimpArgs false
set_option linter.unusedSectionVars false
namespace OT
open Go
structure viewR (ps:Pgs):Prop where
 right:rightP ps
 cells:cellsOk ps
 stubs:(spotsF ps).all (stubOk ps)=true
 tgts:((spotsF ps).filterMap sTgt).Nodup
 keys:((seenF ps).map fun x=>rk (sRow x)).Nodup
 list:viewL ps=sortS ((seenF ps).map convS)
theorem view_ok {ps:Pgs} (h:viewC ps=0):viewR ps:=by
 obtain ⟨h1,h2,h3⟩:=view_right h
 have hc:=cells_of h1.1 h2
 unfold lookC at h3
 split at h3
 ·rename_i a1
  split at h3
  ·rename_i a2
   split at h3
   ·rename_i a3
    exact ⟨h1,hc,a1,a2,a3,by unfold viewL;rw[if_pos h]⟩
   ·cases h3
  ·cases h3
 ·cases h3
theorem viewL_perm {ps:Pgs} (h:viewR ps):(viewL ps).Perm ((seenF ps).map convS):=by rw[h.list];exact sortS_perm _
theorem viewL_len {ps:Pgs} (h:viewR ps):(viewL ps).length<=192:=by
 have:=(viewL_perm h).length_eq
 rw[List.length_map] at this
 have:=seen_len h.right
 omega
def rowsV (ps:Pgs):List Row:=(viewL ps).map (·.1)
theorem rowsV_eq {ps:Pgs} (h:viewR ps):rowsV ps=sortR ((seenF ps).map sRow):=by
 unfold rowsV
 rw[h.list,sortS_map,List.map_map]
 rfl
theorem seenRows_eq (l:List Seen) (hl:l.length<=1000):impl_plain.sem (l,())=some (l.map (·.1),()):=by
 refine lift_eq (k:=1100) fun q hq=>(impl_plain.raw_eq q _).trans ?_
 have:=for_loop (B:=fun self v=>impl_plain.B0 q self (fun z=>impl_plain.Q0 q (l,()) z) (l,()) v) l (fun (s:List Row) (i:Int)=>(s,i)) (fun _ s x=>.inr (s++[x.1])) (fun s=>(s,())) (fun i s=>s.length=i) (by rw[maxLen_val];omega)
  (fun i hi s self hs=>by
   show impl_plain.b0 _ _ _ _=_
   unfold impl_plain.b0
   have hlt:(i:Int) < (l.length:Int):=by omega
   rw[decide_eq_true hlt,cond_true,if_pos (Int.natCast_nonneg i)]
   simp only[Int.toNat_natCast,List.getElem?_eq_getElem hi,Option.bind_some]
   rw[if_pos (cap_ok (by simp only[List.length_cons,List.length_nil];omega))])
  (fun i hi s s' hs hf=>by injection hf with hf;subst hf;simp[hs]) (fun s self _=>by
   show impl_plain.b0 _ _ _ _=_
   unfold impl_plain.b0
   rw[decide_eq_false (Int.lt_irrefl _),cond_false]
   rfl) [] rfl q (by omega)
 rw[forI_fold (g:=fun (s:List Row) (x:Seen)=>s++[x.1])] at this
 refine this.trans ?_
 have hm:∀ (xs:List Seen) (s:List Row),xs.foldl (fun s x=>s++[x.1]) s=s++xs.map (·.1):=by
  intro xs
  induction xs with
  | nil=>intro s;simp
  | cons x xs ih=>intro s;rw[List.foldl_cons,ih];simp
 rw[hm,List.nil_append]
theorem specRowsIn_eq {ps:Pgs} (h:viewC ps=0):spec_l6RowsIn.sem (ps,())=some (rowsV ps,()):=by
 have hr:=view_right h
 have hl:=seen_len hr.1
 refine lift_eq (k:=300) fun k hk=>(spec_l6RowsIn.raw_eq k _).trans ?_
 unfold spec_l6RowsIn.p
 rw[specSeen_eq ps hr.1]
 simp only[Option.bind_some]
 have:=for_loop (B:=fun self v=>spec_l6RowsIn.B0 k self (fun z=>spec_l6RowsIn.Q0 k (ps,()) (seenF ps) z) (ps,()) (seenF ps) v) (seenF ps) (fun (s:List Row) (i:Int)=>(s,i)) (fun _ s x=>.inr (put1 s (sRow x))) (fun s=>(s,())) (fun i s=>s.length<=i) (by rw[maxLen_val];omega)
  (fun i hi s self hs=>by
   show spec_l6RowsIn.b0 _ _ _ _ _=_
   unfold spec_l6RowsIn.b0
   have hlt:(i:Int) < ((seenF ps).length:Int):=by omega
   rw[decide_eq_true hlt,cond_true,if_pos ⟨Int.natCast_nonneg i,hlt⟩]
   simp only[Int.toNat_natCast,List.getElem?_eq_getElem hi,Option.bind_some]
   rw[specPut_eq _ _ (by omega)]
   rfl)
  (fun i hi s s' hs hf=>by
   injection hf with hf
   subst hf
   unfold put1
   simp only[List.length_append,List.length_take,List.length_drop,List.length_cons,List.length_nil]
   omega) (fun s self _=>by
   show spec_l6RowsIn.b0 _ _ _ _ _=_
   unfold spec_l6RowsIn.b0
   rw[decide_eq_false (Int.lt_irrefl _),cond_false]
   rfl) [] (Nat.le_refl 0) k (by omega)
 rw[forI_fold (g:=fun (s:List Row) (x:L6Spot)=>put1 s (sRow x))] at this
 refine this.trans ?_
 rw[rowsV_eq (view_ok h)]
 unfold sortR
 rw[List.foldl_map]
end OT
set_option linter.unusedVariables false
set_option linter.unusedSimpArgs false
namespace OT
open Go
def bl (x:Run):Int:=(List.length x.2.1:Int)
def runStep (s:Int) (x:Run):Sum (Int×Unit) Int:=
 if inB x.1 0 63 then (if inB (bl x) 1 64 then (if 64 < x.1+bl x then .inl (3,()) else if x.1 < s then .inl (1,()) else .inr (x.1+bl x+1)) else .inl (3,())) else .inl (3,())
def runsL (s:Int) (xs:List Run):Int:=(forI (fun _ s x=>runStep s x) (fun _=>((0:Int),())) 0 xs s).1
def runsF (xs:List Run):Int:=if 64 < xs.length then 2 else runsL 0 xs
theorem step_good {s s':Int} {x:Run} (h:runStep s x=.inr s'):0<=x.1/\x.1<=63/\1<=bl x/\bl x<=64/\x.1+bl x<=64/\s<=x.1/\s'=x.1+bl x+1:=by
 unfold runStep at h
 split at h
 ·rename_i h1
  split at h
  ·rename_i h2
   split at h
   ·cases h
   ·split at h
    ·cases h
    ·injection h with h
     simp only[inB,Bool.and_eq_true,decide_eq_true_eq] at h1 h2
     omega
  ·cases h
 ·cases h
theorem step_bad {s:Int} {x:Run} {o:Int×Unit} (h:runStep s x=.inl o):o.1≠0:=by
 unfold runStep at h
 split at h
 ·split at h
  ·split at h
   ·injection h with h;subst h;decide
   ·split at h
    ·injection h with h;subst h;decide
    ·cases h
  ·injection h with h;subst h;decide
 ·injection h with h;subst h;decide
theorem forI_ix {S O α:Type} {f:S->α->Sum O S} {fin:S->O}:∀ (xs:List α) (i j:Nat) (s:S),forI (fun _ s x=>f s x) fin i xs s=forI (fun _ s x=>f s x) fin j xs s
 | [],_,_,_=>rfl
 | x::xs,i,j,s=>by
  simp only[forI]
  split
  ·rfl
  ·exact forI_ix xs _ _ _
theorem runsL_cons (s:Int) (x:Run) (xs:List Run):runsL s (x::xs)=match runStep s x with | .inl o=>o.1 | .inr s'=>runsL s' xs:=by
 unfold runsL
 simp only[forI]
 cases h:runStep s x with
 | inl o=>rfl
 | inr s'=>simp only;rw[forI_ix xs 1 0]
theorem runsL_good:∀ (xs:List Run) (s:Int),runsL s xs=0->∀ x ∈ xs,0<=x.1/\x.1<=63/\1<=bl x/\bl x<=64
 | [],_,_,_,hx=>by cases hx
 | y::ys,s,h,x,hx=>by
  rw[runsL_cons] at h
  cases hs:runStep s y with
  | inl o=>rw[hs] at h;exact absurd h (step_bad hs)
  | inr s'=>
   rw[hs] at h
   have:=step_good hs
   rcases List.mem_cons.1 hx with e | e
   ·subst e;omega
   ·exact runsL_good ys s' h x e
theorem runsF_good {xs:List Run} (h:runsF xs=0):List.length xs<=64/\∀ x ∈ xs,0<=x.1/\x.1<=63/\1<=bl x/\bl x<=64:=by
 unfold runsF at h
 split at h
 ·cases h
 ·exact ⟨by omega,runsL_good xs 0 h⟩
theorem runsF_one {y z:Run} {ys:List Run} (h:runsF (y::z::ys)=0):List.length y.2.1≠64:=by
 unfold runsF at h
 split at h
 ·cases h
 ·rw[runsL_cons] at h
  cases hs:runStep 0 y with
  | inl o=>rw[hs] at h;exact absurd h (step_bad hs)
  | inr s'=>
   rw[hs] at h
   have h1:=step_good hs
   simp only[runsL_cons] at h
   cases hs2:runStep s' z with
   | inl o=>rw[hs2] at h;exact absurd h (step_bad hs2)
   | inr s2=>
    have h2:=step_good hs2
    have:bl y=(List.length y.2.1:Int):=rfl
    omega
theorem implRuns_eq (xs:List Run):impl_RunsFault.sem (xs,())=some (runsF xs,()):=by
 refine lift_eq (k:=66) fun k hk=>(impl_RunsFault.raw_eq k _).trans ?_
 unfold impl_RunsFault.p runsF
 by_cases hl:64 < xs.length
 ·have:(64:Int) < (xs.length:Int):=by omega
  simp only[hl,this,decide_true,cond_true,if_true]
 have hl':¬ (64:Int) < (xs.length:Int):=by omega
 have:=for_loop (B:=fun self v=>impl_RunsFault.B0 0 self (fun z=>impl_RunsFault.Q0 0 (xs,()) z) (xs,()) v) xs (fun (s:Int) (i:Int)=>(s,i)) (fun _ s x=>runStep s x) (fun _=>(0,())) (fun _ _=>True) (by rw[maxLen_val];omega)
  (fun i hi s self _=>by
   show impl_RunsFault.b0 _ _ _ _=_
   unfold impl_RunsFault.b0
   have hlt:(i:Int) < (xs.length:Int):=by omega
   simp only[hlt,decide_true,cond_true,Int.natCast_nonneg,if_true,Int.toNat_natCast,List.getElem?_eq_getElem hi,Option.bind_some,implIn_eq]
   generalize xs[i]=x
   unfold runStep bl inB
   by_cases a1:(0:Int)<=x.1
   rotate_left
   ·simp[a1]
   by_cases a2:x.1<=63
   rotate_left
   ·simp[a2]
   by_cases a3:(1:Int)<=(List.length x.2.1:Int)
   rotate_left
   ·simp[a1,a2,a3]
   by_cases a4:(List.length x.2.1:Int)<=64
   rotate_left
   ·simp[a1,a2,a4]
   have e1:w64 (x.1+(List.length x.2.1:Int))=x.1+(List.length x.2.1:Int):=w64_in (by omega)
   have e2:w64 (x.1+(List.length x.2.1:Int)+1)=x.1+(List.length x.2.1:Int)+1:=w64_in (by omega)
   simp only[a1,a2,a3,a4,e1,e2,decide_true,Bool.and_self,Bool.not_true,cond_false,if_true]
   by_cases a5:64 < x.1+(List.length x.2.1:Int)
   ·simp[a5]
   by_cases a6:x.1 < s
   ·simp[a5,a6]
   simp[a5,a6]) (fun _ _ _ _ _ _=>trivial) (fun s self _=>by
   show impl_RunsFault.b0 _ _ _ _=_
   unfold impl_RunsFault.b0
   simp[impl_RunsFault.Q0,impl_RunsFault.q0]) 0 trivial k (by omega)
 simp only[hl,if_false,hl',decide_false,cond_false]
 exact this
theorem specRuns_eq (xs:List Run):spec_l3Fault.sem (xs,())=some (runsF xs,()):=by
 refine lift_eq (k:=66) fun k hk=>(spec_l3Fault.raw_eq k _).trans ?_
 unfold spec_l3Fault.p runsF
 by_cases hl:64 < xs.length
 ·have:(64:Int) < (xs.length:Int):=by omega
  simp only[hl,this,decide_true,cond_true,if_true]
 have hl':¬ (64:Int) < (xs.length:Int):=by omega
 have:=for_loop (B:=fun self v=>spec_l3Fault.B0 0 self (fun z=>spec_l3Fault.Q0 0 (xs,()) z) (xs,()) v) xs (fun (s:Int) (i:Int)=>i) (fun _ s x=>runStep s x) (fun _=>(0,()))
  (fun i s=>(i=0->s=0)/\∀ y,0 < i->xs[i - 1]?=some y->0<=y.1/\y.1<=63/\bl y<=64/\s=y.1+bl y+1) (by rw[maxLen_val];omega)
  (fun i hi s self hI=>by
   show spec_l3Fault.b0 _ _ _ _=_
   unfold spec_l3Fault.b0
   have hlt:(i:Int) < (xs.length:Int):=by omega
   simp only[hlt,decide_true,cond_true,Int.natCast_nonneg,if_true,Int.toNat_natCast,List.getElem?_eq_getElem hi,Option.bind_some,specIn_eq]
   generalize xs[i]=x
   unfold runStep bl inB
   by_cases a1:(0:Int)<=x.1
   rotate_left
   ·simp[a1]
   by_cases a2:x.1<=63
   rotate_left
   ·simp[a2]
   by_cases a3:(1:Int)<=(List.length x.2.1:Int)
   rotate_left
   ·simp[a1,a2,a3]
   by_cases a4:(List.length x.2.1:Int)<=64
   rotate_left
   ·simp[a1,a2,a4]
   have e1:w64 (x.1+(List.length x.2.1:Int))=x.1+(List.length x.2.1:Int):=w64_in (by omega)
   simp only[a1,a2,a3,a4,e1,decide_true,Bool.and_self,Bool.not_true,cond_false,if_true]
   by_cases a5:64 < x.1+(List.length x.2.1:Int)
   ·simp[a5]
   by_cases h0:i=0
   ·subst h0
    have:=hI.1 rfl
    subst this
    have a6:¬ x.1 < 0:=by omega
    simp[a5,a6]
   ·have hi1:i - 1 < xs.length:=by omega
    obtain ⟨y0,y1,y2,y3⟩:=hI.2 xs[i - 1] (by omega) (List.getElem?_eq_getElem hi1)
    have hp:(0:Int) < (i:Int):=by omega
    have ew:w64 ((i:Int) - 1)=((i - 1:Nat):Int):=by rw[w64_in (by omega)];omega
    unfold bl at y2 y3
    have e2:w64 ((xs[i - 1]).1+(List.length (xs[i - 1]).2.1:Int))=(xs[i - 1]).1+(List.length (xs[i - 1]).2.1:Int):=w64_in (by omega)
    simp only[a5,hp,ew,e2,decide_true,decide_false,cond_true,cond_false,Int.natCast_nonneg,if_true,if_false,Int.toNat_natCast,List.getElem?_eq_getElem hi1,Option.bind_some]
    by_cases a6:x.1 < s
    ·have:x.1<=(xs[i - 1]).1+(List.length (xs[i - 1]).2.1:Int):=by omega
     simp[a6,this]
    ·have:¬ x.1<=(xs[i - 1]).1+(List.length (xs[i - 1]).2.1:Int):=by omega
     simp[a6,this])
  (fun i hi s s' _ hs=>⟨fun e=>by omega,fun y _ hy=>by
   rw[Nat.add_sub_cancel,List.getElem?_eq_getElem hi] at hy
   injection hy with hy;subst hy
   have:=step_good hs
   omega⟩) (fun s self _=>by
   show spec_l3Fault.b0 _ _ _ _=_
   unfold spec_l3Fault.b0
   simp[spec_l3Fault.Q0,spec_l3Fault.q0]) 0 ⟨fun _=>rfl,fun y h=>by omega⟩ k (by omega)
 simp only[hl,if_false,hl',decide_false,cond_false]
 exact this
def headF (k:Int) (xs:List Run):Int:=match xs with
 | []=>1
 | y::_=>if decide (k=4)&&!decide (List.length y.2.1=64) then 1 else 0
def recF (r:Record):Int:=
 if !inB r.1 1 6||(!inB r.1 2 4&&(!decide (r.2.2.1=0)||decide (0 < List.length r.2.2.2.1)))||(decide (r.1=4)&&!decide (r.2.1=0)) then 1
 else if (!decide (r.1=4)&&!inB r.2.1 1 99)||!inB r.2.2.1 0 11 then 3
 else if !inB r.1 2 4 then 0
 else if runsF r.2.2.2.1=0 then headF r.1 r.2.2.2.1 else runsF r.2.2.2.1
theorem spec4Runs_eq (k:Int):spec_l4Runs.sem (k,())=some (inB k 2 4,()):=by
 refine lift_eq (k:=0) fun n _=>(spec_l4Runs.raw_eq n _).trans ?_
 show spec_l4Runs.p _=_
 unfold spec_l4Runs.p
 simp[specIn_eq,inB]
theorem turns_eq (k:Int):impl_turns.sem (k,())=some (inB k 2 4,()):=by
 refine lift_eq (k:=0) fun n _=>(impl_turns.raw_eq n _).trans ?_
 show impl_turns.p _=_
 unfold impl_turns.p inB
 by_cases h1:k=2
 ·subst h1;rfl
 by_cases h2:k=3
 ·subst h2;rfl
 by_cases h3:k=4
 ·subst h3;rfl
 have:(decide ((2:Int)<=k)&&decide (k<=4))=false:=by
  by_cases h4:(2:Int)<=k
  ·have:¬ k<=4:=by omega
   simp[this]
  ·simp[h4]
 simp[h1,h2,h3,this]
theorem specRec_eq (r:Record):spec_l4Fault.sem (r,())=some (recF r,()):=by
 obtain ⟨k,t,p,xs,⟨⟩⟩:=r
 refine lift_eq (k:=0) fun n _=>(spec_l4Fault.raw_eq n _).trans ?_
 show spec_l4Fault.p _=_
 unfold spec_l4Fault.p recF
 simp only[specIn_eq,spec4Runs_eq,specRuns_eq,Option.bind_some,show ∀ a b c:Int,(decide (b<=a)&&decide (a<=c))=inB a b c from fun _ _ _=>rfl]
 have h0:decide ((0:Int) < (xs.length:Int))=decide (0 < xs.length):=by simp
 have hj:(spec_l3Fault.sem (xs,()))=some (runsF xs,()):=specRuns_eq xs
 rw[h0]
 have hh:(bif decide ((List.length xs:Int)=0) then some ((1:Int),()) else bif decide (k=4) then (xs[0]?).bind fun x23=>bif !decide ((List.length x23.2.1:Int)=64) then some ((1:Int),()) else some (0,()) else some (0,()))=some (headF k xs,()):=by
  cases xs with
  | nil=>rfl
  | cons y ys=>
   have:¬ ((List.length (y::ys):Int)=0):=by simp only[List.length_cons];omega
   simp only[this,decide_false,cond_false,headF,List.getElem?_cons_zero,Option.bind_some]
   have h64:decide ((List.length y.2.1:Int)=64)=decide (List.length y.2.1=64):=by
    by_cases h:List.length y.2.1=64
    ·simp[h]
    ·have:¬ ((List.length y.2.1:Int)=64):=by omega
     simp[h,this]
   rw[h64]
   cases decide (k=4) <;> cases decide (List.length y.2.1=64) <;> rfl
 rw[hh]
 by_cases hr:runsF xs=0
 ·simp only[hr,decide_true,Bool.not_true,cond_false,if_true]
  cases inB k 1 6 <;> cases inB k 2 4 <;> cases decide (p=0) <;> cases decide (0 < xs.length) <;> cases decide (k=4) <;> cases decide (t=0) <;> cases inB t 1 99 <;> cases inB p 0 11 <;> rfl
 ·simp only[hr,decide_false,Bool.not_false,cond_true,if_false]
  cases inB k 1 6 <;> cases inB k 2 4 <;> cases decide (p=0) <;> cases decide (0 < xs.length) <;> cases decide (k=4) <;> cases decide (t=0) <;> cases inB t 1 99 <;> cases inB p 0 11 <;> rfl
theorem implRec_eq (r:Record):impl_RecordFault.sem (r,())=some (recF r,()):=by
 obtain ⟨k,t,p,xs,⟨⟩⟩:=r
 refine lift_eq (k:=0) fun n _=>(impl_RecordFault.raw_eq n _).trans ?_
 show impl_RecordFault.p _=_
 unfold impl_RecordFault.p recF
 simp only[implIn_eq,turns_eq,isTx_eq,implRuns_eq,Option.bind_some,show ∀ a b c:Int,(decide (b<=a)&&decide (a<=c))=inB a b c from fun _ _ _=>rfl]
 have h0:decide ((0:Int) < (xs.length:Int))=decide (0 < xs.length):=by simp
 rw[h0]
 have hk:inB k 2 4=false->decide (k=4)=false:=by
  intro h
  by_cases e:k=4
  ·subst e;cases h
  ·simp[e]
 have h64:∀ y:Run,decide ((List.length y.2.1:Int)=64)=decide (List.length y.2.1=64):=fun y=>by
  by_cases h:List.length y.2.1=64
  ·simp[h]
  ·have:¬ ((List.length y.2.1:Int)=64):=by omega
   simp[h,this]
 have hz:decide (0 < xs.length)=false->xs=[]:=by
  intro h
  cases xs with
  | nil=>rfl
  | cons _ _=>simp at h
 have hh:runsF xs=0->(bif decide ((List.length xs:Int)=0) then some ((1:Int),()) else bif decide (k=4) then bif !decide ((List.length xs:Int)=1) then some ((1:Int),()) else (xs[0]?).bind fun x23=>bif !decide ((List.length x23.2.1:Int)=64) then some ((1:Int),()) else some (0,()) else some (0,()))=some (headF k xs,()):=by
  intro hr
  cases xs with
  | nil=>rfl
  | cons y ys=>
   have:¬ ((List.length (y::ys):Int)=0):=by simp only[List.length_cons];omega
   simp only[this,decide_false,cond_false,headF,List.getElem?_cons_zero,Option.bind_some,h64]
   cases ys with
   | nil=>cases decide (k=4) <;> cases decide (List.length y.2.1=64) <;> rfl
   | cons z ys=>
    have h1:=runsF_one hr
    have h2:¬ ((List.length (y::z::ys):Int)=1):=by simp only[List.length_cons];omega
    simp only[h1,h2,decide_false]
    cases decide (k=4) <;> rfl
 cases hk2:inB k 2 4 with
 | false=>
  have hk4:=hk hk2
  have hr0:runsF ([]:List Run)=0:=rfl
  simp only[hk4]
  by_cases hx:xs=[]
  ·subst hx
   cases inB k 1 6 <;> cases decide (p=0) <;> cases inB t 1 99 <;> cases inB p 0 11 <;> rfl
  ·have hx':decide (0 < xs.length)=true:=by
    cases xs with
    | nil=>exact absurd rfl hx
    | cons _ _=>simp
   simp only[hx']
   cases inB k 1 6 <;> cases decide (p=0) <;> rfl
 | true=>
  by_cases hr:runsF xs=0
  ·have hh:=hh hr
   simp only[hr,decide_true,Bool.not_true,cond_false,cond_true,if_true,hh]
   cases inB k 1 6 <;> cases decide (k=4) <;> cases decide (t=0) <;> cases inB t 1 99 <;> cases inB p 0 11 <;> rfl
  ·simp only[hr,decide_false,Bool.not_false,cond_true,if_false]
   cases inB k 1 6 <;> cases decide (k=4) <;> cases decide (t=0) <;> cases inB t 1 99 <;> cases inB p 0 11 <;> rfl
theorem recF_good {r:Record} (h:recF r=0):1<=r.1/\r.1<=6/\0<=r.2.1/\r.2.1<=99/\0<=r.2.2.1/\r.2.2.1<=11/\List.length r.2.2.2.1<=64/\∀ x ∈ r.2.2.2.1,0<=x.1/\x.1<=63/\1<=bl x/\bl x<=64:=by
 obtain ⟨k,t,p,xs,⟨⟩⟩:=r
 unfold recF at h
 split at h
 ·cases h
 rename_i h1
 split at h
 ·cases h
 rename_i h2
 have hx:List.length xs<=64/\∀ x ∈ xs,0<=x.1/\x.1<=63/\1<=bl x/\bl x<=64:=by
  split at h
  ·rename_i h3
   simp only[Bool.or_eq_true,Bool.and_eq_true,not_or,not_and,h3,forall_const] at h1
   cases xs with
   | nil=>exact ⟨by simp,fun x hx=>by cases hx⟩
   | cons y ys=>exact absurd (by simp) h1.1.2.2
  ·split at h
   ·rename_i h4;exact runsF_good h4
   ·rename_i h4;exact absurd h h4
 simp only[Bool.or_eq_true,Bool.and_eq_true,not_or,not_and,inB,Bool.not_eq_true',Bool.and_eq_false_iff,decide_eq_false_iff_not,decide_eq_true_eq] at h1 h2
 refine ⟨?_,?_,?_,?_,?_,?_,hx⟩ <;> by_cases hk:k=4 <;> simp_all <;> omega
end OT
set_option linter.unusedVariables false
set_option linter.unusedSimpArgs false
namespace OT
open Go
def flat1 (x:Run):List UInt8:=UInt8.ofInt x.1::UInt8.ofInt (List.length x.2.1:Int)::x.2.1
def flatR (xs:List Run):List UInt8:=xs.flatMap flat1
def head5 (r:Record):List UInt8:=[(0:UInt8),UInt8.ofInt r.1,UInt8.ofInt r.2.1,UInt8.ofInt r.2.2.1,UInt8.ofInt (List.length r.2.2.2.1:Int)]
def sumP (s:Int) (l:List UInt8):Int:=l.foldl (fun s c=>(s*31+(c.toNat:Int)) % 65521) s
def hdP (r:Record):List UInt8:=(head5 r++flatR r.2.2.2.1).set 0 (UInt8.ofInt (w64 (((head5 r++flatR r.2.2.2.1).length:Int)+2)))
def packF (r:Record):List UInt8:=hdP r++[UInt8.ofInt ((sumP 1 (hdP r)) / 256),UInt8.ofInt (sumP 1 (hdP r))]
def smallR (r:Record):Prop:=List.length r.2.2.2.1<=64/\∀ x ∈ r.2.2.2.1,List.length x.2.1<=64
theorem small_of {r:Record} (h:recF r=0):smallR r:=by
 have:=recF_good h
 refine ⟨this.2.2.2.2.2.2.1,fun x hx=>?_⟩
 have h2:=this.2.2.2.2.2.2.2 x hx
 unfold bl at h2
 omega
theorem flatR_append (xs ys:List Run):flatR (xs++ys)=flatR xs++flatR ys:=List.flatMap_append
theorem flatR_cons (x:Run) (xs:List Run):flatR (x::xs)=flat1 x++flatR xs:=List.flatMap_cons
theorem flatR_len {xs:List Run} (h:∀ x ∈ xs,List.length x.2.1<=64):(flatR xs).length<=66*xs.length:=by
 induction xs with
 | nil=>simp[flatR]
 | cons x xs ih=>
  have h1:=ih fun y hy=>h y (by simp[hy])
  have h2:=h x (by simp)
  rw[flatR_cons]
  simp only[List.length_append,List.length_cons,flat1]
  omega
theorem hdP_len (r:Record):(hdP r).length=5+(flatR r.2.2.2.1).length:=by simp[hdP,head5];omega
theorem packF_len (r:Record):(packF r).length=7+(flatR r.2.2.2.1).length:=by
 simp only[packF,List.length_append,hdP_len,List.length_cons,List.length_nil];omega
theorem packF_small {r:Record} (h:smallR r):(packF r).length<=5000:=by
 rw[packF_len]
 have:=flatR_len h.2
 have:=h.1
 omega
theorem sumP_in:∀ (l:List UInt8) (s:Int),0<=s/\s < 65521->0<=sumP s l/\sumP s l < 65521
 | [],s,h=>h
 | c::l,s,h=>sumP_in l ((s*31+(c.toNat:Int)) % 65521) ⟨Int.emod_nonneg _ (by omega),Int.emod_lt_of_pos _ (by omega)⟩
theorem byte_tmod {s:Int} (h:0<=s):UInt8.ofInt (s.tmod 256)=UInt8.ofInt s:=by
 rw[Int.tmod_eq_emod_of_nonneg h]
 apply UInt8.toBitVec_inj.1
 apply BitVec.eq_of_toNat_eq
 simp[UInt8.ofInt,BitVec.toNat_ofInt]
theorem fold_flat:∀ (xs:List Run) (s:List UInt8),xs.foldl (fun s x=>s++flat1 x) s=s++flatR xs
 | [],s=>by simp[flatR]
 | x::xs,s=>by rw[List.foldl_cons,fold_flat,flatR_cons,List.append_assoc]
theorem sum_step {s:Int} {c:UInt8} (h:0<=s/\s < 65521):((w64 ((w64 (s*(31:Int)))+(w64 (c.toNat:Int)))).tmod (65521:Int))=(s*31+(c.toNat:Int)) % 65521:=by
 have hc:=c.toNat_lt
 have e1:w64 (s*31)=s*31:=w64_in (by omega)
 have e2:w64 (c.toNat:Int)=(c.toNat:Int):=w64_in (by omega)
 have e3:w64 (s*31+(c.toNat:Int))=s*31+(c.toNat:Int):=w64_in (by omega)
 rw[e1,e2,e3,Int.tmod_eq_emod_of_nonneg (by omega)]
theorem specSum_eq (l:List UInt8) (h:l.length<=100000):spec_l4Sum.sem (l,())=some (sumP 1 l,()):=by
 refine lift_eq (k:=100001) fun k hk=>(spec_l4Sum.raw_eq k _).trans ?_
 have:=for_loop (B:=fun self v=>spec_l4Sum.B0 0 self (fun z=>spec_l4Sum.Q0 0 (l,()) z) (l,()) v) l (fun (s:Int) (i:Int)=>(s,i)) (fun _ s c=>.inr ((s*31+(c.toNat:Int)) % 65521)) (fun s=>(s,())) (fun _ s=>0<=s/\s < 65521) (by rw[maxLen_val];omega)
  (fun i hi s self hI=>by
   show spec_l4Sum.b0 _ _ _ _=_
   unfold spec_l4Sum.b0
   have hlt:(i:Int) < (l.length:Int):=by omega
   simp only[hlt,decide_true,cond_true,Int.natCast_nonneg,if_true,Int.toNat_natCast,List.getElem?_eq_getElem hi,Option.bind_some,sum_step hI])
  (fun i hi s s' hI hs=>by injection hs with hs;omega) (fun s self _=>by
   show spec_l4Sum.b0 _ _ _ _=_
   unfold spec_l4Sum.b0
   simp[spec_l4Sum.Q0,spec_l4Sum.q0]) 1 (by omega) k (by omega)
 rw[forI_fold] at this
 exact this
theorem specPack_eq (r:Record) (h:smallR r):spec_l4Pack.sem (r,())=some (packF r,()):=by
 obtain ⟨K,T,P,xs,⟨⟩⟩:=r
 obtain ⟨h1,h2⟩:=h
 simp only at h1 h2
 refine lift_eq (k:=100) fun k hk=>(spec_l4Pack.raw_eq k _).trans ?_
 have hlen:∀ i,(flatR (xs.take i)).length<=66*64:=fun i=>by
  have:=flatR_len (xs:=xs.take i) (fun x hx=>h2 x (List.mem_of_mem_take hx))
  have:(xs.take i).length<=xs.length:=by simp;omega
  omega
 have:=for_loop (B:=fun self v=>spec_l4Pack.B0 0 self (fun z=>spec_l4Pack.Q0 0 ((K,T,P,xs,()),()) z) ((K,T,P,xs,()),()) v) xs (fun (s:List UInt8) (i:Int)=>(s,i)) (fun _ s x=>.inr (s++flat1 x)) (fun s=>(let q:=s.set 0 (UInt8.ofInt (w64 ((s.length:Int)+2)));(q++[UInt8.ofInt ((sumP 1 q) / 256),UInt8.ofInt (sumP 1 q)],())))
  (fun i s=>s=head5 (K,T,P,xs,())++flatR (xs.take i)) (by rw[maxLen_val];omega)
  (fun i hi s self hI=>by
   show spec_l4Pack.b0 _ _ _ _=_
   unfold spec_l4Pack.b0
   have hlt:(i:Int) < (xs.length:Int):=by omega
   have hs:s.length<=5000:=by rw[hI];have:=hlen i;simp only[List.length_append,head5,List.length_cons,List.length_nil];omega
   have hx:=h2 xs[i] (List.getElem_mem hi)
   simp only[hlt,decide_true,cond_true,Int.natCast_nonneg,if_true,Int.toNat_natCast,List.getElem?_eq_getElem hi,Option.bind_some]
   generalize xs[i]=x at hx
   have c1:s.length+[UInt8.ofInt x.1,UInt8.ofInt (List.length x.2.1:Int)].length<=CAP:=cap_ok (by simp only[List.length_cons,List.length_nil];omega)
   have c2:(s++[UInt8.ofInt x.1,UInt8.ofInt (List.length x.2.1:Int)]).length+List.length x.2.1<=CAP:=cap_ok (by simp only[List.length_append,List.length_cons,List.length_nil];omega)
   simp only[c1,c2,if_true,flat1,List.append_assoc,List.cons_append,List.nil_append])
  (fun i hi s s' hI hs=>by
   injection hs with hs
   rw[<-hs,hI,List.take_succ_eq_append_getElem hi,flatR_append,List.append_assoc]
   simp[flatR]) (fun s self hI=>by
   show spec_l4Pack.b0 _ _ _ _=_
   unfold spec_l4Pack.b0
   have hs:5<=s.length/\s.length<=5000:=by rw[hI];have:=hlen xs.length;simp only[List.length_append,head5,List.length_cons,List.length_nil];omega
   simp only[Int.lt_irrefl,decide_false,cond_false,spec_l4Pack.Q0,spec_l4Pack.q0]
   have c0:(0:Int)<=0/\(0:Int) < (s.length:Int):=⟨by omega,by omega⟩
   rw[if_pos c0,List.getElem?_eq_getElem (by omega:0 < s.length)]
   simp only[Option.bind_some]
   generalize hq:s.set 0 (UInt8.ofInt (w64 ((s.length:Int)+2)))=q
   have hql:q.length=s.length:=by rw[<-hq];simp
   rw[specSum_eq q (by omega)]
   simp only[Option.bind_some]
   have hb:=sumP_in q 1 (by omega)
   have c1:q.length+[UInt8.ofInt (w64 ((sumP 1 q).tdiv 256)),UInt8.ofInt ((sumP 1 q).tmod 256)].length<=CAP:=cap_ok (by simp only[List.length_cons,List.length_nil];omega)
   rw[if_pos c1,byte_tmod hb.1,Int.tdiv_eq_ediv_of_nonneg hb.1,w64_in (by omega)]) (head5 (K,T,P,xs,())) (by simp[flatR]) k (by omega)
 rw[forI_fold,fold_flat] at this
 exact this
theorem implPack_eq (r:Record) (h:smallR r):impl_packed.sem (r,())=some (packF r,()):=by
 obtain ⟨K,T,P,xs,⟨⟩⟩:=r
 obtain ⟨h1,h2⟩:=h
 simp only at h1 h2
 refine lift_eq (k:=6000) fun k hk=>(impl_packed.raw_eq k _).trans ?_
 have hlen:∀ i,(flatR (xs.take i)).length<=66*64:=fun i=>by
  have:=flatR_len (xs:=xs.take i) (fun x hx=>h2 x (List.mem_of_mem_take hx))
  have:(xs.take i).length<=xs.length:=by simp;omega
  omega
 have sum2:∀ q:List UInt8,q.length<=5000->impl_packed.r1 k ((K,T,P,xs,()),()) q (q.length:Int) (1,0)=some (q++[UInt8.ofInt ((sumP 1 q) / 256),UInt8.ofInt (sumP 1 q)],()):=fun q hq=>by
  have:=for_loop (B:=fun self v=>impl_packed.B1 0 self (fun z=>impl_packed.Q1 0 ((K,T,P,xs,()),()) q (q.length:Int) z) ((K,T,P,xs,()),()) q (q.length:Int) v) q (fun (s:Int) (i:Int)=>(s,i)) (fun _ s c=>.inr ((s*31+(c.toNat:Int)) % 65521)) (fun s=>(q++[UInt8.ofInt (s / 256),UInt8.ofInt s],())) (fun _ s=>0<=s/\s < 65521) (by rw[maxLen_val];omega)
   (fun i hi s self hI=>by
    show impl_packed.b1 _ _ _ _ _ _=_
    unfold impl_packed.b1
    have hlt:(i:Int) < (q.length:Int):=by omega
    have hlt2:(0:Int)<=(i:Int)/\(i:Int) < (q.length:Int):=by omega
    simp only[hlt,hlt2,and_self,decide_true,cond_true,Int.natCast_nonneg,if_true,Int.toNat_natCast,List.getElem?_eq_getElem hi,Option.bind_some,sum_step hI])
   (fun i hi s s' hI hs=>by injection hs with hs;omega) (fun s self hI=>by
    show impl_packed.b1 _ _ _ _ _ _=_
    unfold impl_packed.b1
    simp only[Int.lt_irrefl,decide_false,cond_false,impl_packed.Q1,impl_packed.q1]
    have c1:q.length+[UInt8.ofInt (s.fdiv (2 ^ 8)),UInt8.ofInt s].length<=CAP:=cap_ok (by simp only[List.length_cons,List.length_nil];omega)
    rw[if_pos c1,Int.fdiv_eq_ediv_of_nonneg s (by omega:(0:Int)<=2 ^ 8)]
    rfl) 1 (by omega) k (by omega)
  rw[forI_fold] at this
  exact this
 have:=for_loop (B:=fun self v=>impl_packed.B0 k self (fun z=>impl_packed.Q0 k ((K,T,P,xs,()),()) z) ((K,T,P,xs,()),()) v) xs (fun (s:List UInt8) (i:Int)=>(s,i)) (fun _ s x=>.inr (s++flat1 x)) (fun s=>(let q:=s.set 0 (UInt8.ofInt (w64 ((s.length:Int)+2)));(q++[UInt8.ofInt ((sumP 1 q) / 256),UInt8.ofInt (sumP 1 q)],())))
  (fun i s=>s=head5 (K,T,P,xs,())++flatR (xs.take i)) (by rw[maxLen_val];omega)
  (fun i hi s self hI=>by
   show impl_packed.b0 _ _ _ _=_
   unfold impl_packed.b0
   have hlt:(i:Int) < (xs.length:Int):=by omega
   have hs:s.length<=5000:=by rw[hI];have:=hlen i;simp only[List.length_append,head5,List.length_cons,List.length_nil];omega
   have hx:=h2 xs[i] (List.getElem_mem hi)
   simp only[hlt,decide_true,cond_true,Int.natCast_nonneg,if_true,Int.toNat_natCast,List.getElem?_eq_getElem hi,Option.bind_some]
   generalize xs[i]=x at hx
   have c1:s.length+[UInt8.ofInt x.1,UInt8.ofInt (List.length x.2.1:Int)].length<=CAP:=cap_ok (by simp only[List.length_cons,List.length_nil];omega)
   have c2:(s++[UInt8.ofInt x.1,UInt8.ofInt (List.length x.2.1:Int)]).length+List.length x.2.1<=CAP:=cap_ok (by simp only[List.length_append,List.length_cons,List.length_nil];omega)
   simp only[c1,c2,if_true,flat1,List.append_assoc,List.cons_append,List.nil_append])
  (fun i hi s s' hI hs=>by
   injection hs with hs
   rw[<-hs,hI,List.take_succ_eq_append_getElem hi,flatR_append,List.append_assoc]
   simp[flatR]) (fun s self hI=>by
   show impl_packed.b0 _ _ _ _=_
   unfold impl_packed.b0
   have hs:5<=s.length/\s.length<=5000:=by rw[hI];have:=hlen xs.length;simp only[List.length_append,head5,List.length_cons,List.length_nil];omega
   simp only[Int.lt_irrefl,decide_false,cond_false,impl_packed.Q0,impl_packed.q0]
   have c0:(0:Int)<=0/\(0:Int) < (s.length:Int):=⟨by omega,by omega⟩
   rw[if_pos c0,List.getElem?_eq_getElem (by omega:0 < s.length)]
   simp only[Option.bind_some]
   generalize hq:s.set 0 (UInt8.ofInt (w64 ((s.length:Int)+2)))=q
   have hql:q.length=s.length:=by rw[<-hq];simp
   exact sum2 q (by omega)) (head5 (K,T,P,xs,())) (by simp[flatR]) k (by omega)
 rw[forI_fold,fold_flat] at this
 exact this
end OT
set_option linter.unusedVariables false
set_option linter.unusedSimpArgs false
namespace OT
open Go
def at8 (D:List UInt8) (i:Nat):Nat:=(D.getD i 0).toNat
theorem at8_lt (D:List UInt8) (i:Nat):at8 D i < 256:=UInt8.toNat_lt _
theorem at8_get {D:List UInt8} {i:Nat} (h:i < D.length):D[i]?=some D[i]/\(D[i]).toNat=at8 D i:=⟨List.getElem?_eq_getElem h,by simp[at8,h]⟩
def piece (D:List UInt8) (at' n:Nat):Run:=((at8 D at':Int),(D.take (at'+2+n)).drop (at'+2),())
def pI (D:List UInt8) (e:Nat):Nat->Nat->List Run->Option (List Run×Nat)
 | 0,a,rs=>some (rs,a)
 | c+1,a,rs=>if e < a+2 then none else if e < a+2+at8 D (a+1) then none else pI D e c (a+2+at8 D (a+1)) (rs++[piece D a (at8 D (a+1))])
def pS (D:List UInt8):Nat->Nat->List Run->List Run
 | 0,_,rs=>rs
 | c+1,a,rs=>if a+2<=D.length then (if D.length < a+2+at8 D (a+1) then rs else pS D c (a+2+at8 D (a+1)) (rs++[piece D a (at8 D (a+1))])) else rs
theorem pI_pS {D:List UInt8} {e:Nat} (he:e<=D.length):∀ (c a:Nat) (rs rs':List Run) (a':Nat),pI D e c a rs=some (rs',a')->pS D c a rs=rs'
 | 0,a,rs,rs',a',h=>by injection h with h;injection h
 | c+1,a,rs,rs',a',h=>by
  simp only[pI] at h
  split at h
  ·cases h
  ·split at h
   ·cases h
   ·simp only[pS]
    rw[if_pos (by omega),if_neg (by omega)]
    exact pI_pS he c _ _ _ _ h
theorem pI_pack {e:Nat}:∀ (ys:List Run) (pre suf:List UInt8) (rs:List Run),(∀ y ∈ ys,0<=y.1/\y.1<=63/\1<=bl y/\bl y<=64)->pre.length+(flatR ys).length<=e ->
  pI (pre++flatR ys++suf) e ys.length pre.length rs=some (rs++ys,pre.length+(flatR ys).length)
 | [],pre,suf,rs,_,_=>by simp[pI,flatR]
 | y::ys,pre,suf,rs,h,he=>by
  obtain ⟨b1,b2,b3,b4⟩:=h y (by simp)
  unfold bl at b3 b4
  have hD:pre++flatR (y::ys)++suf=(pre++flat1 y)++flatR ys++suf:=by rw[flatR_cons];simp only[List.append_assoc]
  have hf1:(flat1 y).length=2+List.length y.2.1:=by simp only[flat1,List.length_cons];omega
  have hfl:(flatR (y::ys)).length=2+List.length y.2.1+(flatR ys).length:=by rw[flatR_cons,List.length_append,hf1]
  have h8:∀ n:Int,0<=n->n<=64->((UInt8.ofInt n).toNat:Int)=n:=fun n h1 h2=>by
   simp[UInt8.ofInt,BitVec.toNat_ofInt];omega
  have g0:(at8 (pre++flatR (y::ys)++suf) pre.length:Int)=y.1:=by
   unfold at8
   rw[flatR_cons]
   simp only[flat1,List.append_assoc,List.getD_eq_getElem?_getD]
   rw[List.getElem?_append_right (Nat.le_refl _)]
   simpa using h8 y.1 b1 (by omega)
  have g1:at8 (pre++flatR (y::ys)++suf) (pre.length+1)=List.length y.2.1:=by
   unfold at8
   rw[flatR_cons]
   simp only[flat1,List.append_assoc,List.getD_eq_getElem?_getD]
   rw[List.getElem?_append_right (by omega)]
   have:=h8 (List.length y.2.1:Int) (by omega) b4
   simp only[Nat.add_sub_cancel_left,List.cons_append,List.getElem?_cons_succ,List.getElem?_cons_zero,Option.getD_some]
   omega
  have g2:piece (pre++flatR (y::ys)++suf) pre.length (List.length y.2.1)=y:=by
   obtain ⟨yi,yb,⟨⟩⟩:=y
   unfold piece
   have g0:(at8 (pre++flatR ((yi,yb,())::ys)++suf) pre.length:Int)=yi:=g0
   rw[g0]
   have:((pre++flatR ((yi,yb,())::ys)++suf).take (pre.length+2+yb.length)).drop (pre.length+2)=yb:=by
    rw[flatR_cons]
    simp only[flat1,List.append_assoc,List.cons_append]
    rw[List.take_append,List.drop_append]
    have e1:List.take (pre.length+2+yb.length) pre=pre:=List.take_of_length_le (by omega)
    have e2:pre.length+2+yb.length - pre.length=yb.length+1+1:=by omega
    rw[e1,e2]
    have e3:List.drop (pre.length+2) pre=[]:=List.drop_of_length_le (by omega)
    have e4:pre.length+2 - pre.length=1+1:=by omega
    rw[e3,e4]
    simp
   show (yi,((pre++flatR ((yi,yb,())::ys)++suf).take (pre.length+2+yb.length)).drop (pre.length+2),())=(yi,yb,())
   rw[this]
  simp only[List.length_cons,pI]
  rw[if_neg (by omega),g1,if_neg (by omega),g2,hD]
  have hl:(pre++flat1 y).length=pre.length+2+List.length y.2.1:=by rw[List.length_append,hf1];omega
  have:=pI_pack (e:=e) ys (pre++flat1 y) suf (rs++[y]) (fun z hz=>h z (by simp[hz])) (by rw[hl];omega)
  rw[hl] at this
  rw[this,hfl]
  simp only[List.append_assoc,List.cons_append,List.nil_append]
  congr 2
  omega
def readF (d:List UInt8):Option (Record×Nat):=
 if d.length < 7\/at8 d 0 < 7\/d.length < at8 d 0 then none else
 match pI (d.take (at8 d 0)) (at8 d 0 - 2) (at8 d 4) 5 [] with
 | none=>none
 | some (rs,a)=>if a=at8 d 0 - 2/\recF ((at8 d 1:Int),(at8 d 2:Int),(at8 d 3:Int),rs,())=0/\packF ((at8 d 1:Int),(at8 d 2:Int),(at8 d 3:Int),rs,())=d.take (at8 d 0) then
   some (((at8 d 1:Int),(at8 d 2:Int),(at8 d 3:Int),rs,()),at8 d 0) else none
theorem at8_take {d:List UInt8} {n i:Nat} (h:i < n) (hn:n<=d.length):at8 (d.take n) i=at8 d i:=by
 unfold at8
 simp only[List.getD_eq_getElem?_getD]
 rw[List.getElem?_take,if_pos h]
theorem pS_pI {D:List UInt8} (hl:7<=D.length) {rs:List Run} (hrs:pS D (at8 D 4) 5 []=rs) {k t p:Int} (hr:recF (k,t,p,rs,())=0) (hp:packF (k,t,p,rs,())=D):pI D (D.length - 2) (at8 D 4) 5 []=some (rs,D.length - 2):=by
 have hg:=recF_good hr
 have h1:=hg.2.2.2.2.2.2.1
 have h2:=hg.2.2.2.2.2.2.2
 simp only at h1 h2
 have hlen:=packF_len (k,t,p,rs,())
 rw[hp] at hlen
 simp only at hlen
 have hshape:∃ (pre suf:List UInt8),pre.length=5/\D=pre++flatR rs++suf/\pre[4]?=some (UInt8.ofInt (List.length rs:Int)):=by
  refine ⟨(head5 (k,t,p,rs,())).set 0 (UInt8.ofInt (w64 (((head5 (k,t,p,rs,())++flatR rs).length:Int)+2))),[UInt8.ofInt ((sumP 1 (hdP (k,t,p,rs,()))) / 256),UInt8.ofInt (sumP 1 (hdP (k,t,p,rs,())))],by simp[head5],?_,by simp[head5]⟩
  rw[<-hp]
  rfl
 obtain ⟨pre,suf,s1,s2,s3⟩:=hshape
 have h4:at8 D 4=List.length rs:=by
  unfold at8
  rw[s2]
  simp only[List.getD_eq_getElem?_getD,List.append_assoc]
  rw[List.getElem?_append_left (by omega),s3]
  simp[UInt8.ofInt,BitVec.toNat_ofInt]
  omega
 rw[h4]
 have:=pI_pack (e:=D.length - 2) rs pre suf [] h2 (by omega)
 rw[<-s2,s1] at this
 rw[this]
 simp only[List.nil_append]
 congr 2
 omega
theorem w64_nat {n:Nat} (h:n<=4000000000):w64 (n:Int)=(n:Int):=w64_in (by omega)
theorem equal_eq (a b:List UInt8) (h:a.length<=100000):slices_Equal_byte.sem (a,b,())=some (decide (a=b),()):=by
 refine lift_eq (k:=100001) fun k hk=>(slices_Equal_byte.raw_eq k _).trans ?_
 unfold slices_Equal_byte.p
 by_cases hl:a.length=b.length
 rotate_left
 ·have h1:¬ ((a.length:Int)=(b.length:Int)):=by omega
  have h2:¬ a=b:=fun e=>hl (by rw[e])
  simp only[h1,h2,decide_false,Bool.not_false,cond_true]
 have hl':(a.length:Int)=(b.length:Int):=by omega
 simp only[hl',decide_true,Bool.not_true,cond_false]
 have key:∀ (m i:Nat),a.length - i=m->i<=a.length->∀ j,m < j->rawIter (fun self v=>slices_Equal_byte.B0 k self (fun z=>slices_Equal_byte.Q0 k (a,b,()) z) (a,b,()) v) j (i:Int)=some (decide (a.drop i=b.drop i),()):=by
  intro m
  induction m with
  | zero=>
   intro i hm hi j hj
   have:i=a.length:=by omega
   subst this
   cases j with
   | zero=>omega
   | succ j=>
    show slices_Equal_byte.b0 _ _ _ _=_
    unfold slices_Equal_byte.b0
    simp only[Int.lt_irrefl,decide_false,cond_false,slices_Equal_byte.Q0,slices_Equal_byte.q0]
    rw[List.drop_length,hl,List.drop_length]
    simp
  | succ m ih=>
   intro i hm hi j hj
   have hlt:i < a.length:=by omega
   cases j with
   | zero=>omega
   | succ j=>
    show slices_Equal_byte.b0 _ _ _ _=_
    unfold slices_Equal_byte.b0
    have hlti:(i:Int) < (a.length:Int):=by omega
    have hlb:i < b.length:=by omega
    have hw:w64 ((i:Int)+1)=((i+1:Nat):Int):=by rw[w64_in (by omega)];omega
    simp only[hlti,decide_true,cond_true,Int.natCast_nonneg,if_true,Int.toNat_natCast,List.getElem?_eq_getElem hlt,List.getElem?_eq_getElem hlb,Option.bind_some,hw]
    rw[List.drop_eq_getElem_cons hlt,List.drop_eq_getElem_cons hlb]
    by_cases he:a[i]=b[i]
    ·simp only[he,decide_true,Bool.not_true,cond_false,List.cons.injEq,true_and]
     exact ih (i+1) (by omega) (by omega) j (by omega)
    ·have:¬ (((a[i]).toNat:Int)=((b[i]).toNat:Int)):=fun e=>he (UInt8.toNat_inj.1 (by omega))
     have h2:¬ (a[i]::a.drop (i+1)=b[i]::b.drop (i+1)):=fun e=>he (by injection e)
     simp only[this,h2,decide_false,Bool.not_false,cond_true]
 have:=key a.length 0 (by omega) (by omega) k (by omega)
 simp only[List.drop_zero] at this
 exact this
def zeroR:Record:=((0:Int),(0:Int),(0:Int),([]:List Run),())
theorem parseI_eq {D:List UInt8} (hD:7<=D.length) (hD2:D.length<=255) {a1:impl_read.Arg} {e0:(Record×Int)->Option impl_read.Out} {K T P N:Int} (hN:0<=N/\N<=255) {k:Nat} :
  ∀ (c a i:Nat) (rs:List Run),(i:Int)+c=N->a<=D.length - 2->rs.length<=i->∀ j,c < j ->
   rawIter (fun self v=>impl_read.B0 k self e0 a1 D ((D.length - 2:Nat):Int) N v) j ((K,T,P,rs,()),(a:Int),(i:Int))=match pI D (D.length - 2) c a rs with
    | none=>some (zeroR,(0:Int),())
    | some (rs',a')=>e0 ((K,T,P,rs',()),(a':Int)):=by
 intro c
 induction c with
 | zero=>
  intro a i rs hi ha hrs j hj
  cases j with
  | zero=>omega
  | succ j=>
   show impl_read.b0 _ _ a1 _ _ _ _=_
   unfold impl_read.b0
   have:¬ (i:Int) < N:=by omega
   simp only[this,decide_false,cond_false,pI]
 | succ c ih=>
  intro a i rs hi ha hrs j hj
  cases j with
  | zero=>omega
  | succ j=>
   show impl_read.b0 _ _ a1 _ _ _ _=_
   unfold impl_read.b0
   have h1:(i:Int) < N:=by omega
   have e1:w64 ((a:Int)+2)=((a+2:Nat):Int):=by rw[w64_in (by omega)];omega
   have e2:w64 ((a:Int)+1)=((a+1:Nat):Int):=by rw[w64_in (by omega)];omega
   have e3:w64 ((i:Int)+1)=((i+1:Nat):Int):=by rw[w64_in (by omega)];omega
   simp only[h1,decide_true,cond_true,e1,e2,e3,pI]
   by_cases h2:D.length - 2 < a+2
   ·have:((D.length - 2:Nat):Int) < ((a+2:Nat):Int):=by omega
    simp only[this,decide_true,cond_true,if_pos h2]
    rfl
   have h2':¬ ((D.length - 2:Nat):Int) < ((a+2:Nat):Int):=by omega
   obtain ⟨g1,g2⟩:=at8_get (show a+1 < D.length by omega)
   obtain ⟨g3,g4⟩:=at8_get (show a < D.length by omega)
   have hb:=at8_lt D (a+1)
   have hb2:=at8_lt D a
   simp only[h2',decide_false,cond_false,if_neg h2,Int.natCast_nonneg,if_true,Int.toNat_natCast,g1,g3,Option.bind_some,g2,g4,w64_nat (show at8 D (a+1)<=4000000000 by omega),w64_nat (show at8 D a<=4000000000 by omega)]
   have e4:w64 (((a+2:Nat):Int)+(at8 D (a+1):Int))=((a+2+at8 D (a+1):Nat):Int):=by rw[w64_in (by omega)];omega
   have e5:w64 ((2:Int)+(at8 D (a+1):Int))=((2+at8 D (a+1):Nat):Int):=by rw[w64_in (by omega)];omega
   have e6:w64 ((a:Int)+((2+at8 D (a+1):Nat):Int))=((a+2+at8 D (a+1):Nat):Int):=by rw[w64_in (by omega)];omega
   simp only[e4,e5,e6]
   by_cases h3:D.length - 2 < a+2+at8 D (a+1)
   ·have:((D.length - 2:Nat):Int) < ((a+2+at8 D (a+1):Nat):Int):=by omega
    simp only[this,decide_true,cond_true,if_pos h3]
    rfl
   have h3':¬ ((D.length - 2:Nat):Int) < ((a+2+at8 D (a+1):Nat):Int):=by omega
   have h4:((a+2:Nat):Int)<=((a+2+at8 D (a+1):Nat):Int)/\((a+2+at8 D (a+1):Nat):Int)<=(D.length:Int):=by omega
   simp only[h3',decide_false,cond_false,if_neg h3,h4,and_self,if_true,Int.toNat_natCast]
   rw[implCopied_eq _ (by simp only[List.length_drop,List.length_take];omega)]
   have hc:rs.length+[(((at8 D a:Nat):Int),((D.take (a+2+at8 D (a+1))).drop (a+2)),())].length<=CAP:=cap_ok (by simp only[List.length_cons,List.length_nil];omega)
   simp only[Option.bind_some,hc,if_true]
   exact ih (a+2+at8 D (a+1)) (i+1) _ (by omega) (by omega) (by simp;omega) j (by omega)
theorem parseS_eq {D:List UInt8} (hD:7<=D.length) (hD2:D.length<=255) {e0:Record->Option spec_l4Read.Out} {K T P:Int} {k:Nat} :
  ∀ (c a i:Nat) (rs:List Run),i+c=at8 D 4->a<=600->rs.length<=i->∀ j,c < j ->
   rawIter (fun self v=>spec_l4Read.B0 k self e0 (D,()) v) j ((K,T,P,rs,()),(a:Int),(i:Int))=e0 (K,T,P,pS D c a rs,()):=by
 intro c
 induction c with
 | zero=>
  intro a i rs hi ha hrs j hj
  cases j with
  | zero=>omega
  | succ j=>
   show spec_l4Read.b0 _ _ (D,()) _=_
   unfold spec_l4Read.b0
   obtain ⟨g1,g2⟩:=at8_get (show 4 < D.length by omega)
   have hb:=at8_lt D 4
   simp only[g1,Option.bind_some,g2,w64_nat (show at8 D 4<=4000000000 by omega)]
   have:¬ (i:Int) < (at8 D 4:Int):=by omega
   simp only[this,decide_false,cond_false,pS]
 | succ c ih=>
  intro a i rs hi ha hrs j hj
  cases j with
  | zero=>omega
  | succ j=>
   show spec_l4Read.b0 _ _ (D,()) _=_
   unfold spec_l4Read.b0
   obtain ⟨g1,g2⟩:=at8_get (show 4 < D.length by omega)
   have hb4:=at8_lt D 4
   have h1:(i:Int) < (at8 D 4:Int):=by omega
   have e1:w64 ((a:Int)+2)=((a+2:Nat):Int):=by rw[w64_in (by omega)];omega
   have e2:w64 ((a:Int)+1)=((a+1:Nat):Int):=by rw[w64_in (by omega)];omega
   have e3:w64 ((i:Int)+1)=((i+1:Nat):Int):=by rw[w64_in (by omega)];omega
   simp only[g1,Option.bind_some,g2,w64_nat (show at8 D 4<=4000000000 by omega),h1,decide_true,cond_true,e1,e2,e3,pS]
   by_cases h2:a+2<=D.length
   rotate_left
   ·have:¬ ((a+2:Nat):Int)<=(D.length:Int):=by omega
    simp only[this,decide_false,cond_false,if_neg h2]
   have h2':((a+2:Nat):Int)<=(D.length:Int):=by omega
   obtain ⟨g5,g6⟩:=at8_get (show a+1 < D.length by omega)
   obtain ⟨g3,g4⟩:=at8_get (show a < D.length by omega)
   have hb:=at8_lt D (a+1)
   have hb2:=at8_lt D a
   simp only[h2',decide_true,cond_true,if_pos h2,Int.natCast_nonneg,if_true,Int.toNat_natCast,g5,g3,Option.bind_some,g6,g4,w64_nat (show at8 D (a+1)<=4000000000 by omega),w64_nat (show at8 D a<=4000000000 by omega)]
   have e4:w64 (((a+2:Nat):Int)+(at8 D (a+1):Int))=((a+2+at8 D (a+1):Nat):Int):=by rw[w64_in (by omega)];omega
   simp only[e4]
   by_cases h3:D.length < a+2+at8 D (a+1)
   ·have:(D.length:Int) < ((a+2+at8 D (a+1):Nat):Int):=by omega
    simp only[this,decide_true,cond_true,if_pos h3]
   have h3':¬ (D.length:Int) < ((a+2+at8 D (a+1):Nat):Int):=by omega
   have h4:((a+2:Nat):Int)<=((a+2+at8 D (a+1):Nat):Int)/\((a+2+at8 D (a+1):Nat):Int)<=(D.length:Int):=by omega
   simp only[h3',decide_false,cond_false,if_neg h3,h4,and_self,if_true,Int.toNat_natCast]
   rw[specCopy_eq _ (by simp only[List.length_drop,List.length_take];omega)]
   have hc:rs.length+[(((at8 D a:Nat):Int),((D.take (a+2+at8 D (a+1))).drop (a+2)),())].length<=CAP:=cap_ok (by simp only[List.length_cons,List.length_nil];omega)
   simp only[Option.bind_some,hc,if_true]
   exact ih (a+2+at8 D (a+1)) (i+1) _ (by omega) (by omega) (by simp;omega) j (by omega)
theorem implRead_eq (d:List UInt8) (hd:d.length<=2000000000):impl_read.sem (d,())=some (match readF d with | none=>(zeroR,(0:Int),()) | some (r,n)=>(r,(n:Int),())):=by
 refine lift_eq (k:=300) fun k hk=>(impl_read.raw_eq k _).trans ?_
 unfold impl_read.p readF
 by_cases h7:d.length < 7
 ·have:(d.length:Int) < 7:=by omega
  simp only[this,decide_true,cond_true,h7,true_or,if_true]
  rfl
 have h7':¬ (d.length:Int) < 7:=by omega
 obtain ⟨g1,g2⟩:=at8_get (show 0 < d.length by omega)
 have hb:=at8_lt d 0
 simp only[h7',decide_false,cond_false,h7,false_or,g1,Option.bind_some,g2,w64_nat (show at8 d 0<=4000000000 by omega)]
 by_cases hl:d.length < at8 d 0
 ·have:(d.length:Int) < (at8 d 0:Int):=by omega
  simp only[this,decide_true,cond_true,hl,or_true,if_true]
  rfl
 have hl':¬ (d.length:Int) < (at8 d 0:Int):=by omega
 by_cases hm:at8 d 0 < 7
 ·have:(at8 d 0:Int) < 7:=by omega
  simp only[hl',decide_false,cond_false,this,decide_true,cond_true,hm,true_or,if_true]
  rfl
 have hm':¬ (at8 d 0:Int) < 7:=by omega
 have hin:0<=(at8 d 0:Int)/\(at8 d 0:Int)<=(d.length:Int):=by omega
 simp only[hl',hm',decide_false,cond_false,hl,hm,or_self,if_false,hin,and_self,if_true,Int.toNat_natCast,List.drop_zero]
 generalize hDD:d.take (at8 d 0)=D
 have hDl:D.length=at8 d 0:=by rw[<-hDD];simp;omega
 have ga:∀ i,i < at8 d 0->at8 D i=at8 d i:=fun i hi=>by rw[<-hDD];exact at8_take hi (by omega)
 obtain ⟨q1,q2⟩:=at8_get (show 1 < D.length by omega)
 obtain ⟨q3,q4⟩:=at8_get (show 2 < D.length by omega)
 obtain ⟨q5,q6⟩:=at8_get (show 3 < D.length by omega)
 obtain ⟨q7,q8⟩:=at8_get (show 4 < D.length by omega)
 have b1:=at8_lt d 1
 have b2:=at8_lt d 2
 have b3:=at8_lt d 3
 have b4:=at8_lt d 4
 have ew:w64 ((D.length:Int) - 2)=((D.length - 2:Nat):Int):=by rw[w64_in (by omega)];omega
 simp only[q1,q3,q5,q7,Option.bind_some,q2,q4,q6,q8,ga 1 (by omega),ga 2 (by omega),ga 3 (by omega),ga 4 (by omega),ew,w64_nat (show at8 d 1<=4000000000 by omega),w64_nat (show at8 d 2<=4000000000 by omega),w64_nat (show at8 d 3<=4000000000 by omega),w64_nat (show at8 d 4<=4000000000 by omega)]
 have hp:=parseI_eq (D:=D) (by omega) (by omega) (a1:=(d,())) (e0:=fun z=>impl_read.Q0 k (d,()) D ((D.length - 2:Nat):Int) (at8 d 4:Int) z) (K:=(at8 d 1:Int)) (T:=(at8 d 2:Int)) (P:=(at8 d 3:Int)) (N:=(at8 d 4:Int)) (by omega) (k:=k) (at8 d 4) 5 0 [] (by omega) (by omega) (Nat.le_refl _) k (by omega)
 refine Eq.trans hp ?_
 rw[<-hDl]
 cases hpi:pI D (D.length - 2) (at8 d 4) 5 [] with
 | none=>rfl
 | some q=>
  obtain ⟨rs,a⟩:=q
  simp only[impl_read.Q0,impl_read.q0]
  by_cases ha:a=D.length - 2
  rotate_left
  ·have:¬ ((a:Int)=((D.length - 2:Nat):Int)):=by omega
   simp only[this,decide_false,Bool.not_false,cond_true,ha,false_and,if_false]
   rfl
  subst ha
  simp only[decide_true,Bool.not_true,cond_false,implRec_eq,Option.bind_some,true_and]
  by_cases hr:recF ((at8 d 1:Int),(at8 d 2:Int),(at8 d 3:Int),rs,())=0
  rotate_left
  ·simp only[hr,decide_false,Bool.not_false,cond_true,false_and,if_false]
   rfl
  have hs:=small_of hr
  have hpl:=packF_small hs
  simp only[hr,decide_true,Bool.not_true,cond_false,implPack_eq _ hs,Option.bind_some,true_and]
  rw[equal_eq _ _ (by omega)]
  by_cases he:packF ((at8 d 1:Int),(at8 d 2:Int),(at8 d 3:Int),rs,())=D
  ·simp only[he,decide_true,Option.bind_some,Bool.not_true,cond_false,if_true]
  ·simp only[he,decide_false,Option.bind_some,Bool.not_false,cond_true,if_false]
   rfl
theorem specRead_eq (d:List UInt8) (hd:d.length<=2000000000):spec_ReadRecord.sem (d,())=some (match readF d with | none=>(((5:Int),(0:Int),zeroR,()),()) | some (r,n)=>(((0:Int),(n:Int),r,()),())):=by
 refine lift_eq (k:=300) fun k hk=>(spec_ReadRecord.raw_eq k _).trans ?_
 show spec_ReadRecord.p _=_
 unfold spec_ReadRecord.p readF
 by_cases h7:d.length < 7
 ·have:(d.length:Int) < 7:=by omega
  simp only[this,decide_true,cond_true,h7,true_or,if_true]
  rfl
 have h7':¬ (d.length:Int) < 7:=by omega
 obtain ⟨g1,g2⟩:=at8_get (show 0 < d.length by omega)
 have hb:=at8_lt d 0
 simp only[h7',decide_false,cond_false,h7,false_or,g1,Option.bind_some,g2,w64_nat (show at8 d 0<=4000000000 by omega)]
 by_cases hm:at8 d 0 < 7
 ·have:(at8 d 0:Int) < 7:=by omega
  simp only[this,decide_true,cond_true,hm,true_or,if_true]
  rfl
 have hm':¬ (at8 d 0:Int) < 7:=by omega
 by_cases hl:d.length < at8 d 0
 ·have:(d.length:Int) < (at8 d 0:Int):=by omega
  simp only[hm',decide_false,cond_false,this,decide_true,cond_true,hl,or_true,if_true]
  rfl
 have hl':¬ (d.length:Int) < (at8 d 0:Int):=by omega
 have hin:0<=(at8 d 0:Int)/\(at8 d 0:Int)<=(d.length:Int):=by omega
 simp only[hl',hm',decide_false,cond_false,hl,hm,or_self,if_false,hin,and_self,if_true,Int.toNat_natCast,List.drop_zero]
 generalize hDD:d.take (at8 d 0)=D
 have hDl:D.length=at8 d 0:=by rw[<-hDD];simp;omega
 have ga:∀ i,i < at8 d 0->at8 D i=at8 d i:=fun i hi=>by rw[<-hDD];exact at8_take hi (by omega)
 have hread:spec_l4Read.sem (D,())=some (((at8 d 1:Int),(at8 d 2:Int),(at8 d 3:Int),pS D (at8 d 4) 5 [],()),()):=by
  refine lift_eq (k:=300) fun k hk=>(spec_l4Read.raw_eq k _).trans ?_
  unfold spec_l4Read.p
  obtain ⟨q1,q2⟩:=at8_get (show 1 < D.length by omega)
  obtain ⟨q3,q4⟩:=at8_get (show 2 < D.length by omega)
  obtain ⟨q5,q6⟩:=at8_get (show 3 < D.length by omega)
  have b1:=at8_lt d 1
  have b2:=at8_lt d 2
  have b3:=at8_lt d 3
  have b4:=at8_lt d 4
  simp only[q1,q3,q5,Option.bind_some,q2,q4,q6,ga 1 (by omega),ga 2 (by omega),ga 3 (by omega),w64_nat (show at8 d 1<=4000000000 by omega),w64_nat (show at8 d 2<=4000000000 by omega),w64_nat (show at8 d 3<=4000000000 by omega)]
  have hp:=parseS_eq (D:=D) (by omega) (by omega) (e0:=fun z=>spec_l4Read.Q0 k (D,()) z) (K:=(at8 d 1:Int)) (T:=(at8 d 2:Int)) (P:=(at8 d 3:Int)) (k:=k) (at8 D 4) 5 0 [] (by omega) (by omega) (Nat.le_refl _) k (by rw[ga 4 (by omega)];omega)
  refine Eq.trans hp ?_
  rw[ga 4 (by omega)]
  rfl
 rw[hread]
 simp only[Option.bind_some,specRec_eq]
 rw[<-hDl]
 generalize hrs:pS D (at8 d 4) 5 []=rs
 by_cases hr:recF ((at8 d 1:Int),(at8 d 2:Int),(at8 d 3:Int),rs,())=0
 ·have hs:=small_of hr
  simp only[hr,decide_true,Bool.not_true,cond_false,specPack_eq _ hs,Option.bind_some]
  by_cases he:packF ((at8 d 1:Int),(at8 d 2:Int),(at8 d 3:Int),rs,())=D
  ·have h4:at8 D 4=at8 d 4:=ga 4 (by omega)
   have hpi:=pS_pI (D:=D) (by omega) (by rw[h4];exact hrs) hr he
   rw[h4] at hpi
   rw[hpi]
   simp[he,hr]
  ·simp only[he,decide_false,Bool.not_false,cond_true]
   cases hpi:pI D (D.length - 2) (at8 d 4) 5 [] with
   | none=>rfl
   | some q=>
    obtain ⟨rs',a'⟩:=q
    have:=pI_pS (by omega) _ _ _ _ _ hpi
    rw[hrs] at this
    subst this
    simp only[he,and_false,if_false]
    rfl
 ·simp only[hr,decide_false,Bool.not_false,cond_true]
  cases hpi:pI D (D.length - 2) (at8 d 4) 5 [] with
  | none=>rfl
  | some q=>
   obtain ⟨rs',a'⟩:=q
   have:=pI_pS (by omega) _ _ _ _ _ hpi
   rw[hrs] at this
   subst this
   simp only[hr,false_and,and_false,if_false]
   rfl
end OT
set_option linter.unusedVariables false
set_option linter.unusedSimpArgs false
namespace OT
open Go
theorem readF_n {d:List UInt8} {r:Record} {n:Nat} (h:readF d=some (r,n)):7<=n/\n<=d.length/\recF r=0:=by
 unfold readF at h
 split at h
 ·cases h
 ·rename_i hc
  split at h
  ·cases h
  ·split at h
   ·rename_i hh
    injection h with h
    injection h with h1 h2
    subst h1
    omega
   ·cases h
theorem readF_nil:readF []=none:=rfl
def readAllF:Nat->List UInt8->List Record×Nat
 | 0,_=>([],0)
 | k+1,d=>match readF d with
  | none=>([],0)
  | some (r,n)=>(r::(readAllF k (d.drop n)).1,n+(readAllF k (d.drop n)).2)
theorem readAllF_fuel:∀ (k k':Nat) (d:List UInt8),d.length < k->d.length < k'->readAllF k d=readAllF k' d
 | 0,_,_,h,_=>by omega
 | _+1,0,_,_,h=>by omega
 | k+1,k'+1,d,h,h'=>by
  simp only[readAllF]
  cases hr:readF d with
  | none=>rfl
  | some q=>
   obtain ⟨r,n⟩:=q
   have hn:=readF_n hr
   have:(d.drop n).length=d.length - n:=List.length_drop
   simp only
   rw[readAllF_fuel k k' (d.drop n) (by omega) (by omega)]
def allF (d:List UInt8):List Record×Nat:=readAllF (d.length+1) d
theorem implAll_eq (d:List UInt8) (hd:d.length<=1048576):impl_readAll.sem (d,())=some ((allF d).1,((allF d).2:Int),()):=by
 refine lift_eq (k:=1048578) fun k hk=>(impl_readAll.raw_eq k _).trans ?_
 have key:∀ (m a:Nat) (acc:List Record),d.length - a=m->a<=d.length->acc.length<=a->∀ j,m < j ->
   rawIter (fun self v=>impl_readAll.B0 k self (d,()) v) j (acc,(a:Int))=some (acc++(readAllF (m+1) (d.drop a)).1,((a+(readAllF (m+1) (d.drop a)).2:Nat):Int),()):=by
  intro m
  induction m using Nat.strongRecOn with
  | ind m ih=>
  intro a acc hm ha hacc j hj
  cases j with
  | zero=>omega
  | succ j=>
   show impl_readAll.b0 _ _ _=_
   unfold impl_readAll.b0
   have hin:(0:Int)<=(a:Int)/\(a:Int)<=(d.length:Int):=by omega
   simp only[hin,and_self,if_true,Int.toNat_natCast,List.take_length]
   rw[implRead_eq _ (by simp;omega)]
   simp only[Option.bind_some,readAllF]
   cases hr:readF (d.drop a) with
   | none=>simp only[decide_true,cond_true,List.append_nil,Nat.add_zero];try rfl
   | some q=>
    obtain ⟨r,n⟩:=q
    have hn:=readF_n hr
    have hl:(d.drop a).length=d.length - a:=List.length_drop
    have h0:¬ ((n:Int)=0):=by omega
    have hc:acc.length+[r].length<=CAP:=cap_ok (by simp only[List.length_cons,List.length_nil];omega)
    have ew:w64 ((a:Int)+(n:Int))=((a+n:Nat):Int):=by rw[w64_in (by omega)];omega
    simp only[h0,decide_false,cond_false,hc,if_true,ew]
    have:=ih (d.length - (a+n)) (by omega) (a+n) (acc++[r]) rfl (by omega) (by simp;omega) j (by omega)
    refine Eq.trans this ?_
    have hdd:(d.drop a).drop n=d.drop (a+n):=by rw[List.drop_drop]
    have hl2:(d.drop (a+n)).length=d.length - (a+n):=List.length_drop
    rw[hdd,readAllF_fuel m (d.length - (a+n)+1) (d.drop (a+n)) (by omega) (by omega)]
    simp only[List.append_assoc,List.cons_append,List.nil_append,Nat.add_assoc]
 have:=key d.length 0 [] rfl (by omega) (Nat.le_refl _) k (by omega)
 simp only[List.drop_zero,List.nil_append,Nat.zero_add] at this
 exact this
theorem specAll_eq (d:List UInt8) (hd:d.length<=1048576):spec_l5Read.sem (d,())=some ((allF d).1,((allF d).2:Int),()):=by
 refine lift_eq (k:=1048578) fun k hk=>(spec_l5Read.raw_eq k _).trans ?_
 have key:∀ (m a:Nat) (acc:List Record),d.length - a=m->a<=d.length->acc.length<=a->∀ j,m < j ->
   rawIter (fun self v=>spec_l5Read.B0 k self (fun z=>spec_l5Read.Q0 k (d,()) z) (d,()) v) j (acc,(a:Int))=some (acc++(readAllF (m+1) (d.drop a)).1,((a+(readAllF (m+1) (d.drop a)).2:Nat):Int),()):=by
  intro m
  induction m using Nat.strongRecOn with
  | ind m ih=>
  intro a acc hm ha hacc j hj
  cases j with
  | zero=>omega
  | succ j=>
   show spec_l5Read.b0 _ _ (d,()) _=_
   unfold spec_l5Read.b0
   by_cases hlt:a < d.length
   rotate_left
   ·have h1:¬ (a:Int) < (d.length:Int):=by omega
    have h2:d.drop a=[]:=List.drop_of_length_le (by omega)
    simp only[h1,decide_false,cond_false,spec_l5Read.Q0,spec_l5Read.q0,h2,readAllF,readF_nil,List.append_nil,Nat.add_zero]
    try rfl
   have hlt':(a:Int) < (d.length:Int):=by omega
   have hin:(0:Int)<=(a:Int)/\(a:Int)<=(d.length:Int):=by omega
   simp only[hlt',decide_true,cond_true,hin,and_self,if_true,Int.toNat_natCast,List.take_length]
   rw[specRead_eq _ (by simp;omega)]
   simp only[Option.bind_some,readAllF]
   cases hr:readF (d.drop a) with
   | none=>
    have h5:¬ ((5:Int)=0):=by omega
    simp only[h5,decide_false,Bool.not_false,cond_true,List.append_nil,Nat.add_zero,spec_l5Read.Q0,spec_l5Read.q0];try rfl
   | some q=>
    obtain ⟨r,n⟩:=q
    have hn:=readF_n hr
    have hl:(d.drop a).length=d.length - a:=List.length_drop
    have hc:acc.length+[r].length<=CAP:=cap_ok (by simp only[List.length_cons,List.length_nil];omega)
    have ew:w64 ((a:Int)+(n:Int))=((a+n:Nat):Int):=by rw[w64_in (by omega)];omega
    simp only[decide_true,Bool.not_true,cond_false,hc,if_true,ew]
    have:=ih (d.length - (a+n)) (by omega) (a+n) (acc++[r]) rfl (by omega) (by simp;omega) j (by omega)
    refine Eq.trans this ?_
    have hdd:(d.drop a).drop n=d.drop (a+n):=by rw[List.drop_drop]
    have hl2:(d.drop (a+n)).length=d.length - (a+n):=List.length_drop
    rw[hdd,readAllF_fuel m (d.length - (a+n)+1) (d.drop (a+n)) (by omega) (by omega)]
    simp only[List.append_assoc,List.cons_append,List.nil_append,Nat.add_assoc]
 have:=key d.length 0 [] rfl (by omega) (Nat.le_refl _) k (by omega)
 simp only[List.drop_zero,List.nil_append,Nat.zero_add] at this
 exact this
def okL (l:Log):Prop:=List.length l.1<=1048576/\List.length l.2.1<=1048576
def wholeB (d:List UInt8):Bool:=decide ((allF d).2=d.length)
def logF (l:Log):Int:=if 16000 < List.length l.1+List.length l.2.1 then 2 else if wholeB l.1&&wholeB l.2.1 then 0 else 5
theorem whole_int (d:List UInt8):decide (((allF d).2:Int)=(d.length:Int))=wholeB d:=by
 unfold wholeB
 by_cases h:(allF d).2=d.length
 ·simp[h]
 ·have:¬ ((allF d).2:Int)=(d.length:Int):=by omega
  simp[h,this]
theorem specLog_eq (l:Log) (h:okL l):spec_l5Fault.sem (l,())=some (logF l,()):=by
 refine lift_eq (k:=0) fun k _=>(spec_l5Fault.raw_eq k _).trans ?_
 show spec_l5Fault.p _=_
 unfold spec_l5Fault.p logF
 obtain ⟨h1,h2⟩:=h
 have ew:w64 ((List.length l.1:Int)+(List.length l.2.1:Int))=((List.length l.1+List.length l.2.1:Nat):Int):=by rw[w64_in (by omega)];omega
 simp only[ew,specAll_eq _ h1,specAll_eq _ h2,Option.bind_some,whole_int]
 by_cases hc:16000 < List.length l.1+List.length l.2.1
 ·have:(16000:Int) < ((List.length l.1+List.length l.2.1:Nat):Int):=by omega
  simp only[this,hc,decide_true,cond_true,if_true]
  try rfl
 ·have:¬ (16000:Int) < ((List.length l.1+List.length l.2.1:Nat):Int):=by omega
  simp only[this,hc,decide_false,cond_false,if_false]
  cases wholeB l.1 <;> cases wholeB l.2.1 <;> rfl
theorem size_eq (l:Log) (h:okL l):impl_Log_size.sem (l,())=some (((List.length l.1+List.length l.2.1:Nat):Int),()):=by
 refine lift_eq (k:=0) fun k _=>(impl_Log_size.raw_eq k _).trans ?_
 show impl_Log_size.p _=_
 unfold impl_Log_size.p
 obtain ⟨h1,h2⟩:=h
 have ew:w64 ((List.length l.1:Int)+(List.length l.2.1:Int))=((List.length l.1+List.length l.2.1:Nat):Int):=by rw[w64_in (by omega)];omega
 rw[ew]
 try rfl
theorem implLog_eq (l:Log) (h:okL l):impl_LogFault.sem (l,())=some (logF l,()):=by
 refine lift_eq (k:=5) fun k hk=>(impl_LogFault.raw_eq k _).trans ?_
 unfold impl_LogFault.p logF
 rw[size_eq l h]
 have hl:∀ x ∈ [l.1,l.2.1],List.length x<=1048576:=by
  intro x hx
  simp only[List.mem_cons,List.not_mem_nil,or_false] at hx
  rcases hx with e | e <;> subst e
  ·exact h.1
  ·exact h.2
 have:=for_loop (B:=fun self v=>impl_LogFault.B0 0 self (fun z=>impl_LogFault.Q0 0 (l,()) z) (l,()) v) [l.1,l.2.1] (fun (_:Unit) (i:Int)=>i) (fun _ _ x=>if wholeB x then .inr () else .inl (5,())) (fun _=>(0,())) (fun _ _=>True) (by rw[maxLen_val];simp)
  (fun i hi s self hI=>by
   show impl_LogFault.b0 _ _ _ _=_
   unfold impl_LogFault.b0
   have hlt:(i:Int) < ([l.1,l.2.1].length:Int):=by omega
   have hin:(0:Int)<=(i:Int)/\(i:Int) < ([l.1,l.2.1].length:Int):=by omega
   simp only[hlt,hin,and_self,decide_true,cond_true,if_true,Int.toNat_natCast,List.getElem?_eq_getElem hi,Option.bind_some]
   have hx:=hl [l.1,l.2.1][i] (List.getElem_mem hi)
   generalize [l.1,l.2.1][i]=x at hx
   rw[implAll_eq x hx]
   simp only[Option.bind_some,whole_int]
   cases wholeB x <;> rfl)
  (fun _ _ _ _ _ _=>trivial) (fun s self _=>by
   show impl_LogFault.b0 _ _ _ _=_
   unfold impl_LogFault.b0
   simp[impl_LogFault.Q0,impl_LogFault.q0]) () trivial k (by simp only[List.length_cons,List.length_nil];omega)
 rw[forI_check wholeB (5,()) (fun _=>(0,()))] at this
 have this:impl_LogFault.r0 k (l,()) 0=_:=this
 simp only[Option.bind_some,this]
 by_cases hc:16000 < List.length l.1+List.length l.2.1
 ·have:(16000:Int) < ((List.length l.1+List.length l.2.1:Nat):Int):=by omega
  simp only[this,hc,decide_true,cond_true,if_true]
 ·have:¬ (16000:Int) < ((List.length l.1+List.length l.2.1:Nat):Int):=by omega
  simp only[this,hc,decide_false,cond_false,if_false,List.all_cons,List.all_nil,Bool.and_true]
  cases wholeB l.1 <;> cases wholeB l.2.1 <;> rfl
end OT
set_option linter.unusedVariables false
set_option linter.unusedSimpArgs false
namespace OT
open Go
theorem implNew_eq:impl_newPage.sem ((0:UInt8),())=some (newF,()):=by
 refine lift_eq (k:=66) fun k hk=>(impl_newPage.raw_eq k _).trans ?_
 unfold impl_newPage.p
 have:=for_loop (B:=fun self v=>impl_newPage.B0 0 self (fun z=>impl_newPage.Q0 0 ((0:UInt8),()) z) ((0:UInt8),()) v) (List.replicate 64 (0:UInt8)) (fun (s:List UInt8) (i:Int)=>(s,i)) (fun _ s _=>.inr s) (fun s=>(newF,())) (fun _ s=>s=List.replicate 64 (0:UInt8)) (by rw[maxLen_val];simp)
  (fun i hi s self hI=>by
   show impl_newPage.b0 _ _ _ _=_
   unfold impl_newPage.b0
   subst hI
   simp only[List.length_replicate] at hi ⊢
   have hlt:(i:Int) < ((64:Nat):Int):=by omega
   have hin:(0:Int)<=(i:Int)/\(i:Int) < ((64:Nat):Int):=by omega
   have hg:(List.replicate 64 (0:UInt8))[i]?=some 0:=(List.getElem?_replicate (n:=64) (i:=i) (a:=(0:UInt8))).trans (if_pos hi)
   have hs:(List.replicate 64 (0:UInt8)).set i 0=List.replicate 64 (0:UInt8):=List.set_replicate_self
   simp only[hlt,hin,and_self,decide_true,cond_true,if_true,Int.toNat_natCast,hg,Option.bind_some,hs])
  (fun i hi s s' hI hs=>by injection hs with hs;rw[<-hs,hI]) (fun s self hI=>by
   show impl_newPage.b0 _ _ _ _=_
   unfold impl_newPage.b0
   subst hI
   simp only[List.length_replicate,Int.lt_irrefl,decide_false,cond_false]
   rfl) (List.replicate 64 (0:UInt8)) rfl k (by simp;omega)
 rw[forI_fold (g:=fun s _=>s)] at this
 have hc:(0:Int)<=64/\(64:Int)<=64/\(64:Int)<=(CAP:Int):=⟨by omega,by omega,by simp only[CAP];omega⟩
 rw[if_pos hc]
 exact this
theorem specNew_eq:spec_l2New.sem ((0:UInt8),())=some (newF,()):=by
 refine lift_eq (k:=66) fun k hk=>(spec_l2New.raw_eq k _).trans ?_
 unfold spec_l2New.p
 have:=for_loop (B:=fun self v=>spec_l2New.B0 0 self (fun z=>spec_l2New.Q0 0 ((0:UInt8),()) z) ((0:UInt8),()) v) (List.replicate 64 (0:UInt8)) (fun (s:List UInt8) (i:Int)=>(s,i)) (fun _ s _=>.inr s) (fun s=>(newF,())) (fun _ s=>s=List.replicate 64 (0:UInt8)) (by rw[maxLen_val];simp)
  (fun i hi s self hI=>by
   show spec_l2New.b0 _ _ _ _=_
   unfold spec_l2New.b0
   subst hI
   simp only[List.length_replicate] at hi ⊢
   have hlt:(i:Int) < (64:Int):=by omega
   have hin:(0:Int)<=(i:Int)/\(i:Int) < ((64:Nat):Int):=by omega
   have hg:(List.replicate 64 (0:UInt8))[i]?=some 0:=(List.getElem?_replicate (n:=64) (i:=i) (a:=(0:UInt8))).trans (if_pos hi)
   have hs:(List.replicate 64 (0:UInt8)).set i 0=List.replicate 64 (0:UInt8):=List.set_replicate_self
   simp only[hlt,hin,and_self,decide_true,cond_true,if_true,Int.toNat_natCast,hg,Option.bind_some,hs])
  (fun i hi s s' hI hs=>by injection hs with hs;rw[<-hs,hI]) (fun s self hI=>by
   show spec_l2New.b0 _ _ _ _=_
   unfold spec_l2New.b0
   subst hI
   have:¬ (((64:Nat):Int) < 64):=by omega
   simp only[List.length_replicate,this,decide_false,cond_false]
   rfl) (List.replicate 64 (0:UInt8)) rfl k (by simp;omega)
 rw[forI_fold (g:=fun s _=>s)] at this
 have hc:(0:Int)<=64/\(64:Int)<=64/\(64:Int)<=(CAP:Int):=⟨by omega,by omega,by simp only[CAP];omega⟩
 rw[if_pos hc]
 exact this
end OT
