/- FnExactEditsFor: the row; no conditions. -/
import Derived.Test.YtcpoeochapnmlaaGreatVf
import Derived.Test.YtcpoeochapnmlaaGreatRows
set_option linter.unusedVariables false
set_option linter.unusedSimpArgs false
set_option linter.unusedSectionVars false
namespace OT
open Go
def startW (ps:Pgs):L7Work:=(ps,([]:List Edit),())
theorem start_ok {ps:Pgs} (h:rightP ps):okW (startW ps) 0:=⟨h,Nat.le_refl _,fun e he=>by cases he⟩
theorem gp_of {ps:Pgs} (h:rightP ps):gp ps:=⟨h.1,fun p hp=>(h.2 p hp).len⟩
theorem specStart_eq {ps:Pgs} (h:rightP ps):spec_l7Start.sem (ps,())=some (startW ps,()):=by
 refine lift_eq (k:=0) fun k _=>(spec_l7Start.raw_eq k _).trans ?_
 show spec_l7Start.p _=_
 unfold spec_l7Start.p
 rw[specCopies_eq ps (gp_of h)]
 rfl
theorem implStart_eq {ps:Pgs} (h:rightP ps):impl_deskOf.sem (ps,())=some (startW ps,()):=by
 refine lift_eq (k:=0) fun k _=>(impl_deskOf.raw_eq k _).trans ?_
 show impl_deskOf.p _=_
 unfold impl_deskOf.p
 rw[implCopies_eq ps (gp_of h)]
 rfl
def badE (k:Int):EditsResult:=(k,([]:List Edit),([]:List (List UInt8)),())
def doneE (ok:Bool) (w:L7Work):EditsResult:=if ok then ((0:Int),w.2.1,w.1,()) else badE 9
theorem specBadE_eq (k:Int):spec_l7Bad.sem (k,())=some (badE k,()):=lift_eq (k:=0) fun q _=>(spec_l7Bad.raw_eq q _).trans rfl
theorem specDoneE_eq (w:L7Work):spec_l7Done.sem (w,())=some (doneE true w,()):=lift_eq (k:=0) fun q _=>(spec_l7Done.raw_eq q _).trans rfl
theorem implResE_eq (w:L7Work):impl_desk_result.sem (w,())=some (doneE true w,()):=lift_eq (k:=0) fun q _=>(impl_desk_result.raw_eq q _).trans rfl
theorem implDoneE_eq (w:L7Work) (ok:Bool):impl_desk_done.sem (w,ok,())=some (doneE ok w,()):=by
 refine lift_eq (k:=0) fun k _=>(impl_desk_done.raw_eq k _).trans ?_
 show impl_desk_done.p _=_
 unfold impl_desk_done.p
 rw[implResE_eq]
 cases ok <;> rfl
def insW (w:L7Work) (r:Row):Option (Nat×Nat)×L7Work:=placeW w (-1) (cellB 0 r)
theorem insW_ok {w:L7Work} {n:Nat} (h:okW w n) {r:Row} (hr:rowF r=0):placeR w n 25 (cellB 0 r) (insW w r):=
 placeW_ok h (cellB_len hr).1 (by have:=(cellB_len (f:=0) hr).2;omega) _
theorem implIns_eq {w:L7Work} {n:Nat} (h:okW w n) (hn:n<=800) {r:Row} (hr:rowF r=0):impl_desk_insert.sem (w,r,())=some ((insW w r).1.isSome,(insW w r).2,()):=by
 refine lift_eq (k:=0) fun k _=>(impl_desk_insert.raw_eq k _).trans ?_
 show impl_desk_insert.p _=_
 unfold impl_desk_insert.p
 have e:impl_cell.sem ((0:Int),r,())=some (cellB 0 r,()):=implCell_eq (f:=0) hr
 simp only[e,Option.bind_some,implPlace_eq h hn (cellB_len hr).1 (show (cellB 0 r).length<=20 by have:=(cellB_len (f:=0) hr).2;omega)]
 unfold placeOut insW
 cases (placeW w (-1) (cellB 0 r)).1 <;> rfl
theorem specIns_eq {ps:Pgs} (h:rightP ps) {r:Row} (hr:rowF r=0):spec_l7Insert.sem (ps,r,())=some (doneE (insW (startW ps) r).1.isSome (insW (startW ps) r).2,()):=by
 refine lift_eq (k:=0) fun k _=>(spec_l7Insert.raw_eq k _).trans ?_
 show spec_l7Insert.p _=_
 unfold spec_l7Insert.p
 have e:spec_l1Cell.sem ((0:Int),r,())=some (cellB 0 r,()):=specCell_eq (f:=0) hr
 simp only[e,specStart_eq h,Option.bind_some,specPlace_eq (start_ok h) (by omega) (cellB_len hr).1 (show (cellB 0 r).length<=20 by have:=(cellB_len (f:=0) hr).2;omega),specBadE_eq,specDoneE_eq]
 unfold placeOut insW
 cases (placeW (startW ps) (-1) (cellB 0 r)).1 <;> rfl
def updW (w:L7Work) (P s A B:Nat) (mv:Bool) (r:Row):Bool×L7Work:=
 if (setIn w A B (cellB (bif mv then 2 else 0) r)).1=true then (true,(setIn w A B (cellB (bif mv then 2 else 0) r)).2)
 else match (placeW (setIn w A B (cellB (bif mv then 2 else 0) r)).2 (A:Int) (cellB 2 r)).1 with
  | none=>(false,(placeW (setIn w A B (cellB (bif mv then 2 else 0) r)).2 (A:Int) (cellB 2 r)).2)
  | some a=>(true,bif mv then dropIn (setIn (placeW (setIn w A B (cellB (bif mv then 2 else 0) r)).2 (A:Int) (cellB 2 r)).2 P s (stubB a.1 a.2)).2 A B else (setIn (placeW (setIn w A B (cellB (bif mv then 2 else 0) r)).2 (A:Int) (cellB 2 r)).2 P s (stubB a.1 a.2)).2)
theorem cellB_ne {f:Nat} {r:Row}:cellB f r≠[]:=by unfold cellB;simp
theorem stubB_len (P t:Nat):(stubB P t).length=3:=rfl
theorem keep_at {w:L7Work} {n m:Nat} {c:List UInt8} {r:Option (Nat×Nat)×L7Work} (R:placeR w n m c r) {Q t:Nat} (h:cAt w.1 Q t≠[]) (hc:c≠[]):cAt r.2.1 Q t≠[]:=by
 cases hr:r.1 with
 | none=>rw[(R.no hr).2];exact h
 | some a=>
  rw[(R.yes a.1 a.2 hr).2.2.2]
  split
  ·exact hc
  ·exact h
theorem keep_set {w:L7Work} {n P s:Nat} {c:List UInt8} {r:Bool×L7Work} (R:setInR w n P s c r) {Q t:Nat} (h:cAt w.1 Q t≠[]) (hc:c≠[]):cAt r.2.1 Q t≠[]:=by
 cases hr:r.1 with
 | false=>rw[R.no hr];exact h
 | true=>
  rw[R.yes hr]
  split
  ·exact hc
  ·exact h
section
variable {w:L7Work} {n:Nat} (h:okW w n) (hn:n<=400) {P s A B:Nat} (h1:cAt w.1 P s≠[]) (h2:cAt w.1 A B≠[]) (mv:Bool) {r:Row} (hr:rowF r=0)
include h hn h1 h2 hr
theorem updW_ok:okW (updW w P s A B mv r).2 (n+40):=by
 have R1:=setIn_ok h h2 (cellB_len (f:=bif mv then 2 else 0) hr).1
 have R2:=placeW_ok R1.ok (cellB_len (f:=2) hr).1 (by have:=(cellB_len (f:=2) hr).2;omega) (A:Int)
 unfold updW
 split
 ·exact R1.ok.mono (by omega)
 ·split
  ·exact R2.ok.mono (by omega)
  ·rename_i a ha
   have k1:=keep_at R2 (keep_set R1 h1 cellB_ne) cellB_ne
   have k2:=keep_at R2 (keep_set R1 h2 cellB_ne) cellB_ne
   have R3:=setIn_ok R2.ok k1 (c:=stubB a.1 a.2) (by rw[stubB_len];omega)
   cases mv with
   | false=>exact R3.ok.mono (by omega)
   | true=>
    have k3:=keep_set R3 k2 (by unfold stubB;simp)
    exact (dropIn_ok R3.ok k3).1.mono (by omega)
theorem implUpd_eq (r0:Row):impl_desk_update.sem (w,(r0,(P:Int),(s:Int),mv,(A:Int),(B:Int),()),r,())=some (if Ty.eq tRow r0 r=true then (true,w,()) else ((updW w P s A B mv r).1,(updW w P s A B mv r).2,())):=by
 refine lift_eq (k:=0) fun k _=>(impl_desk_update.raw_eq k _).trans ?_
 show impl_desk_update.p _=_
 unfold impl_desk_update.p
 show (bif Ty.eq tRow r0 r then _ else _)=_
 cases Ty.eq tRow r0 r with
 | true=>rfl
 | false=>
  have l20:∀ f,(cellB f r).length<=20:=fun f=>by have:=(cellB_len (f:=f) hr).2;omega
  have l1:∀ f,1<=(cellB f r).length:=fun f=>(cellB_len (f:=f) hr).1
  have main:∀ f:Nat,f=(bif mv then 2 else 0)->((impl_cell.sem ((f:Int),r,())).bind fun r11=>(impl_desk_turn.sem (w,(A:Int),(B:Int),r11.1,())).bind fun r12=>bif r12.1 then (some (true,r12.2.1,()):Option impl_desk_update.Out) else (impl_cell.sem ((2:Int),r,())).bind fun r13=>(impl_desk_place.sem (r12.2.1,r13.1,(A:Int),())).bind fun r14=>bif !r14.2.2.1 then (some (false,r14.2.2.2.1,())) else (impl_stub.sem (r14.1,r14.2.1,())).bind fun r15=>(impl_desk_turn.sem (r14.2.2.2.1,(P:Int),(s:Int),r15.1,())).bind fun r16=>bif mv then ((impl_desk_drop.sem (r16.2.1,(A:Int),(B:Int),())).bind fun r17=>some (true,r17.1,())) else some (true,r16.2.1,()))=some ((updW w P s A B mv r).1,(updW w P s A B mv r).2,()):=by
   intro f hf
   have R1:=setIn_ok h h2 (l1 f)
   have R2:=placeW_ok R1.ok (l1 2) (l20 2) (A:Int)
   have e2:impl_cell.sem ((2:Int),r,())=some (cellB 2 r,()):=implCell_eq (f:=2) hr
   unfold updW
   rw[<-hf]
   simp only[implCell_eq (f:=f) hr,e2,Option.bind_some,implSetIn_eq h (by omega) h2 (l1 f) (l20 f)]
   cases hb:(setIn w A B (cellB f r)).1 with
   | true=>simp only[cond_true,if_true]
   | false=>
    simp only[cond_false,Bool.false_eq_true,if_false,implPlace_eq R1.ok (show n+2<=800 by omega) (l1 2) (l20 2),Option.bind_some]
    unfold placeOut
    cases hg:(placeW (setIn w A B (cellB f r)).2 (A:Int) (cellB 2 r)).1 with
    | none=>rfl
    | some a=>
     have k1:=keep_at R2 (keep_set R1 h1 cellB_ne) cellB_ne
     have k2:=keep_at R2 (keep_set R1 h2 cellB_ne) cellB_ne
     have l3:1<=(stubB a.1 a.2).length:=by rw[stubB_len];omega
     have R3:=setIn_ok R2.ok k1 l3
     have k3:=keep_set R3 k2 (by unfold stubB;simp)
     simp only[Bool.not_true,cond_false,implStub_eq,Option.bind_some,implSetIn_eq R2.ok (show n+2+25<=900 by omega) k1 l3 (show (stubB a.1 a.2).length<=20 by rw[stubB_len];omega)]
     cases mv with
     | false=>rfl
     | true=>simp only[cond_true,implDropIn_eq R3.ok (show n+2+25+2<=900 by omega) k3,Option.bind_some]
  cases mv with
  | true=>exact main 2 rfl
  | false=>exact main 0 rfl
theorem specMove_eq (x:L6Spot) (x3:x.2.2.1.2.2.1=(A:Int)) (x4:x.2.2.1.2.2.2.1=(B:Int)) (x1:x.1=(P:Int)) (x2:x.2.1=(s:Int)):spec_l7Move.sem (w,x,r,())=some ((updW w P s A B true r).1,(updW w P s A B true r).2,()):=by
 refine lift_eq (k:=0) fun k _=>(spec_l7Move.raw_eq k _).trans ?_
 show spec_l7Move.p _=_
 unfold spec_l7Move.p
 have l20:∀ f,(cellB f r).length<=20:=fun f=>by have:=(cellB_len (f:=f) hr).2;omega
 have l1:∀ f,1<=(cellB f r).length:=fun f=>(cellB_len (f:=f) hr).1
 have R1:=setIn_ok h h2 (l1 2)
 have R2:=placeW_ok R1.ok (l1 2) (l20 2) (A:Int)
 have e2:spec_l1Cell.sem ((2:Int),r,())=some (cellB 2 r,()):=specCell_eq (f:=2) hr
 unfold updW
 simp only[e2,x1,x2,x3,x4,Option.bind_some,specSetIn_eq h (by omega) h2 (l1 2) (l20 2),cond_true]
 cases hb:(setIn w A B (cellB 2 r)).1 with
 | true=>simp only[cond_true,if_true]
 | false=>
  simp only[cond_false,Bool.false_eq_true,if_false,specPlace_eq R1.ok (show n+2<=800 by omega) (l1 2) (l20 2),Option.bind_some]
  unfold placeOut
  cases hg:(placeW (setIn w A B (cellB 2 r)).2 (A:Int) (cellB 2 r)).1 with
  | none=>rfl
  | some a=>
   have k1:=keep_at R2 (keep_set R1 h1 cellB_ne) cellB_ne
   have k2:=keep_at R2 (keep_set R1 h2 cellB_ne) cellB_ne
   have l3:1<=(stubB a.1 a.2).length:=by rw[stubB_len];omega
   have R3:=setIn_ok R2.ok k1 l3
   have k3:=keep_set R3 k2 (by unfold stubB;simp)
   simp only[Bool.not_true,cond_false,specStub_eq,Option.bind_some,specSetIn_eq R2.ok (show n+2+25<=900 by omega) k1 l3 (show (stubB a.1 a.2).length<=20 by rw[stubB_len];omega),specDropIn_eq R3.ok (show n+2+25+2<=900 by omega) k3]
end
def updX (ps:Pgs) (x:L6Spot) (r:Row):EditsResult:=
 if Ty.eq tRow (sRow x) r=true then doneE true (startW ps) else
  doneE (updW (startW ps) x.1.toNat x.2.1.toNat (if sFlag x=1 then sTp x else x.1).toNat (if sFlag x=1 then sTs x else x.2.1).toNat (decide (sFlag x=1)) r).1 (updW (startW ps) x.1.toNat x.2.1.toNat (if sFlag x=1 then sTp x else x.1).toNat (if sFlag x=1 then sTs x else x.2.1).toNat (decide (sFlag x=1)) r).2
theorem specUpd_eq {ps:Pgs} (h:viewR ps) {x:L6Spot} (hx:x ∈ seenF ps) {r:Row} (hr:rowF r=0):spec_l7Update.sem (ps,x,r,())=some (updX ps x r,()):=by
 obtain ⟨P,s,x1,x2,c1,c2,c3⟩:=found_at h hx
 have ho:=start_ok h.right
 refine lift_eq (k:=0) fun k _=>(spec_l7Update.raw_eq k _).trans ?_
 show spec_l7Update.p _=_
 unfold spec_l7Update.p updX
 simp only[specStart_eq h.right,specDoneE_eq,specBadE_eq,Option.bind_some]
 show (bif Ty.eq tRow (sRow x) r then _ else _)=_
 cases Ty.eq tRow (sRow x) r with
 | true=>rfl
 | false=>
  simp only[cond_false,Bool.false_eq_true,if_false]
  show (bif decide (sFlag x=1) then _ else _)=_
  by_cases hf:sFlag x=1
  ·obtain ⟨Q,t,x3,x4,c4,c5⟩:=c2 hf
   rw[decide_eq_true hf,cond_true,specMove_eq ho (by omega) c1 c4 hr x x3 x4 x1 x2]
   simp only[if_pos hf,x1,x2,x3,x4,Int.toNat_natCast,Option.bind_some]
   cases (updW (startW ps) P s Q t true r).1 <;> rfl
  ·rw[decide_eq_false hf,cond_false]
   simp only[if_neg hf,x1,x2,Int.toNat_natCast]
   have l20:∀ f,(cellB f r).length<=20:=fun f=>by have:=(cellB_len (f:=f) hr).2;omega
   have l1:∀ f,1<=(cellB f r).length:=fun f=>(cellB_len (f:=f) hr).1
   have R1:=setIn_ok ho c1 (l1 0)
   have R2:=placeW_ok R1.ok (l1 2) (l20 2) (P:Int)
   have e0:spec_l1Cell.sem ((0:Int),r,())=some (cellB 0 r,()):=specCell_eq (f:=0) hr
   have e2:spec_l1Cell.sem ((2:Int),r,())=some (cellB 2 r,()):=specCell_eq (f:=2) hr
   unfold updW
   simp only[e0,e2,Option.bind_some,specSetIn_eq ho (by omega) c1 (l1 0) (l20 0),cond_false]
   cases hb:(setIn (startW ps) P s (cellB 0 r)).1 with
   | true=>rfl
   | false=>
    simp only[cond_false,Bool.false_eq_true,if_false,specPlace_eq R1.ok (show 0+2<=800 by omega) (l1 2) (l20 2),Option.bind_some]
    unfold placeOut
    cases hg:(placeW (setIn (startW ps) P s (cellB 0 r)).2 (P:Int) (cellB 2 r)).1 with
    | none=>rfl
    | some a=>
     have k1:=keep_at R2 (keep_set R1 c1 cellB_ne) cellB_ne
     have l3:1<=(stubB a.1 a.2).length:=by rw[stubB_len];omega
     simp only[Bool.not_true,cond_false,specStub_eq,Option.bind_some,specSetIn_eq R2.ok (show 0+2+25<=900 by omega) k1 l3 (show (stubB a.1 a.2).length<=20 by rw[stubB_len];omega)]
theorem implUpdX_eq {ps:Pgs} (h:viewR ps) {x:L6Spot} (hx:x ∈ seenF ps) {r:Row} (hr:rowF r=0):((impl_desk_update.sem (startW ps,convS x,r,())).bind fun r12=>impl_desk_done.sem (r12.2.1,r12.1,()))=some (updX ps x r,()):=by
 obtain ⟨P,s,x1,x2,c1,c2,c3⟩:=found_at h hx
 have ho:=start_ok h.right
 unfold updX
 by_cases hf:sFlag x=1
 ·obtain ⟨Q,t,x3,x4,c4,c5⟩:=c2 hf
  have hc:convS x=(sRow x,(P:Int),(s:Int),true,(Q:Int),(t:Int),()):=by unfold convS;rw[decide_eq_true hf,if_pos hf,if_pos hf,x1,x2,x3,x4]
  rw[hc,implUpd_eq ho (by omega) c1 c4 true hr (sRow x),decide_eq_true hf]
  simp only[if_pos hf,x1,x2,x3,x4,Int.toNat_natCast,Option.bind_some,implDoneE_eq]
  cases Ty.eq tRow (sRow x) r <;> rfl
 ·have hc:convS x=(sRow x,(P:Int),(s:Int),false,(P:Int),(s:Int),()):=by unfold convS;rw[decide_eq_false hf,if_neg hf,if_neg hf,x1,x2]
  rw[hc,implUpd_eq ho (by omega) c1 c1 false hr (sRow x),decide_eq_false hf]
  simp only[if_neg hf,x1,x2,Int.toNat_natCast,Option.bind_some,implDoneE_eq]
  cases Ty.eq tRow (sRow x) r <;> rfl
def delX (ps:Pgs) (x:L6Spot):EditsResult:=doneE true (if sFlag x=1 then dropIn (dropIn (startW ps) x.1.toNat x.2.1.toNat) (sTp x).toNat (sTs x).toNat else dropIn (startW ps) x.1.toNat x.2.1.toNat)
theorem del_at {ps:Pgs} (h:viewR ps) {x:L6Spot} (hx:x ∈ seenF ps):∃ P s:Nat,x.1=(P:Int)/\x.2.1=(s:Int)/\cAt ps P s≠[]/\(sFlag x=1->∃ Q t:Nat,sTp x=(Q:Int)/\sTs x=(t:Int)/\cAt (dropIn (startW ps) P s).1 Q t≠[]):=by
 obtain ⟨P,s,x1,x2,c1,c2,c3⟩:=found_at h hx
 refine ⟨P,s,x1,x2,c1,fun hf=>?_⟩
 obtain ⟨Q,t,x3,x4,c4,c5⟩:=c2 hf
 refine ⟨Q,t,x3,x4,?_⟩
 rw[(dropIn_ok (start_ok h.right) c1).2.2,if_neg]
 ·exact c4
 ·rintro ⟨rfl,rfl⟩
  rw[c5] at c3
  rw[hf] at c3
  cases c3
theorem specDel_eq {ps:Pgs} (h:viewR ps) {x:L6Spot} (hx:x ∈ seenF ps):spec_l7Delete.sem (ps,x,())=some (delX ps x,()):=by
 obtain ⟨P,s,x1,x2,c1,c2⟩:=del_at h hx
 have ho:=start_ok h.right
 have hd:=(dropIn_ok ho c1).1
 refine lift_eq (k:=0) fun k _=>(spec_l7Delete.raw_eq k _).trans ?_
 show spec_l7Delete.p _=_
 unfold spec_l7Delete.p delX
 simp only[specStart_eq h.right,specDoneE_eq,Option.bind_some,x1,x2,specDropIn_eq ho (by omega) c1,Int.toNat_natCast]
 show (bif decide (sFlag x=1) then _ else _)=_
 by_cases hf:sFlag x=1
 ·obtain ⟨Q,t,x3,x4,c4⟩:=c2 hf
  rw[decide_eq_true hf,cond_true,if_pos hf]
  have e3:x.2.2.1.2.2.1=(Q:Int):=x3
  have e4:x.2.2.1.2.2.2.1=(t:Int):=x4
  simp only[x3,x4,e3,e4,Int.toNat_natCast,specDropIn_eq hd (by omega) c4,Option.bind_some]
 ·rw[decide_eq_false hf,cond_false,if_neg hf]
theorem implDel_eq {ps:Pgs} (h:viewR ps) {x:L6Spot} (hx:x ∈ seenF ps):((impl_desk_delete.sem (startW ps,convS x,())).bind fun r28=>impl_desk_result.sem (r28.1,()))=some (delX ps x,()):=by
 obtain ⟨P,s,x1,x2,c1,c2⟩:=del_at h hx
 have ho:=start_ok h.right
 have hd:=(dropIn_ok ho c1).1
 have e:impl_desk_delete.sem (startW ps,convS x,())=some (if sFlag x=1 then dropIn (dropIn (startW ps) x.1.toNat x.2.1.toNat) (sTp x).toNat (sTs x).toNat else dropIn (startW ps) x.1.toNat x.2.1.toNat,()):=by
  refine lift_eq (k:=0) fun k _=>(impl_desk_delete.raw_eq k _).trans ?_
  show impl_desk_delete.p _=_
  unfold impl_desk_delete.p convS
  simp only[x1,x2,Int.toNat_natCast]
  rw[implDropIn_eq ho (by omega) c1]
  simp only[Option.bind_some]
  by_cases hf:sFlag x=1
  ·obtain ⟨Q,t,x3,x4,c4⟩:=c2 hf
   rw[decide_eq_true hf,cond_true,if_pos hf,if_pos hf,if_pos hf,x3,x4,implDropIn_eq hd (by omega) c4]
   simp only[Option.bind_some,Int.toNat_natCast]
  ·rw[decide_eq_false hf,cond_false,if_neg hf]
 rw[e,Option.bind_some,implResE_eq]
 rfl
theorem zz_le {e:Ty} {n:Nat}:∀ {xs:List e.den},(∀ x ∈ xs,zz e x<=n)->zz (.slc e) xs<=(n+1)*xs.length
 | [],_=>Nat.zero_le _
 | x::xs,h=>by
  rw[zz_cons,List.length_cons]
  have h1:=h x List.mem_cons_self
  have h2:=zz_le fun y hy=>h y (List.mem_cons_of_mem _ hy)
  rw[Nat.mul_add]
  omega
theorem doneE_small {w:L7Work} {n:Nat} (h:okW w n) (hn:n<=100) (ok:Bool):zz tEditsResult (doneE ok w)<=8000:=by
 have e0:∀ (k:Int) (es:List Edit) (ps:Pgs),zz tEditsResult ((k,es,ps,()):EditsResult)=0+(zz (.slc tEdit) es+(zz (.slc (.slc u8)) ps+0)):=fun _ _ _=>rfl
 have hb:∀ p:List UInt8,p.length=64->zz (.slc u8) p<=64:=fun p hp=>by
  have:zz (.slc u8) p<=(0+1)*List.length p:=zz_le (e:=u8) (xs:=p) fun x _=>Nat.le_refl 0
  omega
 unfold doneE
 split
 ·rw[e0]
  have h1:zz (.slc tEdit) w.2.1<=(64+1)*List.length w.2.1:=zz_le (e:=tEdit) (xs:=w.2.1) fun x hx=>by
   have e1:zz tEdit x=0+(zz (.slc u8) x.2.1+0):=rfl
   have:=hb _ (h.eb x hx)
   omega
  have h2:zz (.slc (.slc u8)) w.1<=(64+1)*List.length w.1:=zz_le (e:=.slc u8) (xs:=w.1) fun x hx=>hb x (h.pages.2 x hx).len
  have h3:=h.el
  have h4:=h.pages.1
  omega
 ·unfold badE
  rw[e0]
  have h1:zz (.slc tEdit) ([]:List Edit)=0:=rfl
  have h2:zz (.slc (.slc u8)) ([]:Pgs)=0:=rfl
  omega
theorem badE_small (k:Int):zz tEditsResult (badE k)=0:=rfl
theorem updX_small {ps:Pgs} (h:viewR ps) {x:L6Spot} (hx:x ∈ seenF ps) {r:Row} (hr:rowF r=0):zz tEditsResult (updX ps x r)<=8000:=by
 obtain ⟨P,s,x1,x2,c1,c2,c3⟩:=found_at h hx
 have ho:=start_ok h.right
 unfold updX
 split
 ·exact doneE_small ho (by omega) _
 ·by_cases hf:sFlag x=1
  ·obtain ⟨Q,t,x3,x4,c4,c5⟩:=c2 hf
   simp only[if_pos hf,x1,x2,x3,x4,Int.toNat_natCast]
   exact doneE_small (updW_ok ho (by omega) c1 c4 _ hr) (by omega) _
  ·simp only[if_neg hf,x1,x2,Int.toNat_natCast]
   exact doneE_small (updW_ok ho (by omega) c1 c1 _ hr) (by omega) _
theorem delX_small {ps:Pgs} (h:viewR ps) {x:L6Spot} (hx:x ∈ seenF ps):zz tEditsResult (delX ps x)<=8000:=by
 obtain ⟨P,s,x1,x2,c1,c2⟩:=del_at h hx
 have ho:=start_ok h.right
 have hd:=(dropIn_ok ho c1).1
 unfold delX
 simp only[x1,x2,Int.toNat_natCast]
 split
 ·rename_i hf
  obtain ⟨Q,t,x3,x4,c4⟩:=c2 hf
  simp only[x3,x4,Int.toNat_natCast]
  exact doneE_small (dropIn_ok hd c4).1 (by omega) _
 ·exact doneE_small hd (by omega) _
theorem insX_small {ps:Pgs} (h:rightP ps) {r:Row} (hr:rowF r=0):zz tEditsResult (doneE (insW (startW ps) r).1.isSome (insW (startW ps) r).2)<=8000:=doneE_small (insW_ok (start_ok h) hr).ok (by omega) _
end OT
set_option linter.unusedVariables false
set_option linter.unusedSimpArgs false
set_option linter.unusedSectionVars false
namespace OT
open Go
def forE (ps:Pgs) (c:Change):EditsResult:=
 if viewC ps=0 then
  if chF c=0 then
   match findS ps (ck c).1 (ck c).2 with
   | some x=>if c.1&&Ty.eq tRow (sRow x) c.2.1 then (if c.2.2.1 then updX ps x c.2.2.2.1 else delX ps x) else badE 8
   | none=>if c.1 then badE 8 else doneE (insW (startW ps) c.2.2.2.1).1.isSome (insW (startW ps) c.2.2.2.1).2
  else badE (chF c)
 else badE (viewC ps)
section
variable {ps:Pgs} (hp:∀ p ∈ ps,p.length<=maxLen)
include hp
theorem chF_one {c:Change} (h:chF c=0) (hw:c.1=false):c.2.2.1=true:=by
 unfold chF at h
 rw[hw] at h
 cases hi:c.2.2.1 with
 | true=>rfl
 | false=>rw[hi] at h;simp at h
theorem specForE_eq {c:Change} (hc:cl c):spec_EditsFor.sem (ps,c,())=some (forE ps c,()):=by
 refine lift_eq (k:=0) fun k _=>(spec_EditsFor.raw_eq k _).trans ?_
 show spec_EditsFor.p _=_
 unfold spec_EditsFor.p forE
 rw[specView_eq ps hp]
 simp only[Option.bind_some,specBadE_eq,specChange_eq c hc]
 by_cases hv:viewC ps=0
 ·rw[if_pos hv,decide_eq_true hv,Bool.not_true,cond_false]
  by_cases hf:chF c=0
  ·rw[if_pos hf,decide_eq_true hf,Bool.not_true,cond_false]
   have hV:=view_ok hv
   have:spec_l7For.sem (ps,c,())=some (match findS ps (ck c).1 (ck c).2 with
    | some x=>if c.1&&Ty.eq tRow (sRow x) c.2.1 then (if c.2.2.1 then updX ps x c.2.2.2.1 else delX ps x) else badE 8
    | none=>if c.1 then badE 8 else doneE (insW (startW ps) c.2.2.2.1).1.isSome (insW (startW ps) c.2.2.2.1).2,()):=by
    refine lift_eq (k:=0) fun k _=>(spec_l7For.raw_eq k _).trans ?_
    show spec_l7For.p _=_
    unfold spec_l7For.p
    rw[specKey_eq]
    simp only[Option.bind_some,specFind_eq ps hV.right,specBadE_eq]
    cases hx:findS ps (ck c).1 (ck c).2 with
    | none=>
     simp only
     cases hw:c.1 with
     | true=>rfl
     | false=>
      have hi:=(chF_key hf).2 (chF_one hp hf hw)
      rw[specIns_eq hV.right hi]
      rfl
    | some x=>
     have hm:=List.mem_of_find?_eq_some hx
     simp only
     cases hw:c.1 with
     | false=>rfl
     | true=>
      show (bif !Ty.eq tRow (sRow x) c.2.1 then _ else _)=_
      cases Ty.eq tRow (sRow x) c.2.1 with
      | false=>rfl
      | true=>
       cases hi:c.2.2.1 with
       | false=>rw[specDel_eq hV hm];rfl
       | true=>rw[specUpd_eq hV hm ((chF_key hf).2 hi)];rfl
   rw[this]
   rfl
  ·rw[if_neg hf,decide_eq_false hf,Bool.not_false,cond_true]
 ·rw[if_neg hv,decide_eq_false hv,Bool.not_false,cond_true]
theorem implForE_eq {c:Change} (hc:cl c):impl_EditsFor.sem (ps,c,())=some (forE ps c,()):=by
 refine lift_eq (k:=0) fun k _=>(impl_EditsFor.raw_eq k _).trans ?_
 show impl_EditsFor.p _=_
 unfold impl_EditsFor.p forE
 rw[implView_eq ps hp]
 simp only[Option.bind_some,implChange_eq c hc,implKey_eq]
 by_cases hv:viewC ps=0
 ·rw[if_pos hv,decide_eq_true hv,cond_true]
  by_cases hf:chF c=0
  ·have hV:=view_ok hv
   have hl:=viewL_len hV
   have ho:=start_ok hV.right
   rw[if_pos hf,decide_eq_true hf,Bool.not_true,cond_false,implPlain_eq _ (by omega),implStart_eq hV.right]
   simp only[Option.bind_some]
   have hrl:(rowsV ps).length<=2000000:=by unfold rowsV;rw[List.length_map];omega
   rw[show (viewL ps).map (·.1)=rowsV ps from rfl,fitsTo_eq c (rowsV ps) (rowsV_up hV) hrl]
   have hk1:(keyRow c).1=(ck c).1:=by rw[<-keyRow_ck c]
   have hk2:(keyRow c).2.1=(ck c).2:=by rw[<-keyRow_ck c]
   simp only[Option.bind_some,hk1,hk2,implFind_eq _ (show (viewL ps).length<=1000 by omega),find_same hV]
   have hfr:=find_rows hV (ck c).1 (ck c).2
   cases hx:findS ps (ck c).1 (ck c).2 with
   | none=>
    rw[hx] at hfr
    simp only at hfr
    have e:fits1 (rowsV ps) c=!c.1:=by
     unfold fits1
     rw[show ck c=((ck c).1,(ck c).2) from rfl,hfr]
     cases c.1 <;> rfl
    rw[e]
    cases hw:c.1 with
    | true=>rfl
    | false=>
     have hi:=(chF_key hf).2 (chF_one hp hf hw)
     simp only[Option.map_none,Bool.not_false,Bool.not_true,cond_false,cond_true,Bool.false_eq_true,if_false,implIns_eq ho (show 0<=800 by omega) hi,Option.bind_some,implDoneE_eq]
   | some x=>
    have hm:=List.mem_of_find?_eq_some hx
    rw[hx] at hfr
    obtain ⟨f1,f2,f3,f4⟩:=hfr
    have e:fits1 (rowsV ps) c=(c.1&&Ty.eq tRow (sRow x) c.2.1):=by
     unfold fits1
     rw[show ck c=((ck c).1,(ck c).2) from rfl,f1,f2]
     cases c.1 <;> rfl
    rw[e]
    dsimp only
    cases hw:c.1 with
    | false=>rfl
    | true=>
     cases Ty.eq tRow (sRow x) c.2.1 with
     | false=>rfl
     | true=>
      simp only[Option.map_some,Bool.and_self,Bool.not_true,cond_false,if_true]
      cases hi:c.2.2.1 with
      | true=>
       have e:=implUpdX_eq hV hm ((chF_key hf).2 hi)
       simp only[cond_true,if_true]
       cases hu:impl_desk_update.sem (startW ps,convS x,c.2.2.2.1,()) with
       | none=>rw[hu] at e;cases e
       | some y=>
        rw[hu,Option.bind_some] at e
        simp only[Option.bind_some,e]
      | false=>
       have e:=implDel_eq hV hm
       simp only[cond_false,Bool.false_eq_true,if_false]
       cases hu:impl_desk_delete.sem (startW ps,convS x,()) with
       | none=>rw[hu] at e;cases e
       | some y=>
        rw[hu,Option.bind_some] at e
        simp only[Option.bind_some,e]
  ·rw[if_neg hf,decide_eq_false hf,Bool.not_false,cond_true]
   rfl
 ·rw[if_neg hv,decide_eq_false hv,cond_false,Bool.not_false,cond_true]
  rfl
end
theorem forE_small (ps:Pgs) (c:Change):zz tEditsResult (forE ps c)<=8000:=by
 unfold forE
 split
 ·rename_i hv
  split
  ·rename_i hf
   split
   ·rename_i x hx
    have hm:=List.mem_of_find?_eq_some hx
    split
    ·split
     ·rename_i hi
      exact updX_small (view_ok hv) hm ((chF_key hf).2 hi)
     ·exact delX_small (view_ok hv) hm
    ·rw[badE_small];omega
   ·split
    ·rw[badE_small];omega
    ·rename_i hw
     exact insX_small (view_ok hv).right ((chF_key hf).2 (chF_one (ps:=[]) (fun p hp=>by cases hp) hf (by simpa using hw)))
  ·rw[badE_small];omega
 ·rw[badE_small];omega
theorem pgs_len {ps:Pgs} (h:zz (.slc (.slc u8)) ps<=1048576):∀ p ∈ (ps:Pgs),p.length<=maxLen:=fun p hp=>by
 have h3:=zz_mem (e:=.slc u8) hp
 have h4:List.length p<=zz (.slc u8) p:=zz_len (e:=u8) p
 rw[maxLen_val];omega
theorem editsFor_true (v:laws_FnExactEditsFor.Arg) (hv:okA laws_FnExactEditsFor.ps v):laws_FnExactEditsFor.sem v=some (true,()):=by
 obtain ⟨ps,c,⟨⟩⟩:=v
 obtain ⟨hv_ps,hv_c,_⟩:=hv
 refine lift_eq (k:=0) fun k _=>(laws_FnExactEditsFor.raw_eq k _).trans ?_
 show laws_FnExactEditsFor.p _=_
 unfold laws_FnExactEditsFor.p
 simp only[szByteSS_eq ps 1048576 hv_ps (show (0:Int)<=1048576 by omega) (by omega),Option.bind_some]
 by_cases hz1:((zz (.slc (.slc u8)) ps:Nat):Int)<=1048576
 rotate_left
 ·have:lft (1048576) (zz (.slc (.slc u8)) ps)=-1:=if_neg hz1
  simp only[this]
  rfl
 have e1:lft (1048576) (zz (.slc (.slc u8)) ps)=1048576 - ((zz (.slc (.slc u8)) ps:Nat):Int):=if_pos hz1
 have n1:¬ (1048576 - ((zz (.slc (.slc u8)) ps:Nat):Int) < 0):=by omega
 simp only[e1,n1,decide_false,cond_false,szChange_eq c _ hv_c (show (0:Int)<=1048576 - ((zz (.slc (.slc u8)) ps:Nat):Int) by omega) (by omega),Option.bind_some]
 by_cases hz2:((zz tChange c:Nat):Int)<=1048576 - ((zz (.slc (.slc u8)) ps:Nat):Int)
 rotate_left
 ·have:lft (1048576 - ((zz (.slc (.slc u8)) ps:Nat):Int)) (zz tChange c)=-1:=if_neg hz2
  simp only[this]
  rfl
 have e2:lft (1048576 - ((zz (.slc (.slc u8)) ps:Nat):Int)) (zz tChange c)=1048576 - ((zz (.slc (.slc u8)) ps:Nat):Int) - ((zz tChange c:Nat):Int):=if_pos hz2
 have n2:¬ (1048576 - ((zz (.slc (.slc u8)) ps:Nat):Int) - ((zz tChange c:Nat):Int) < 0):=by omega
 have hp:=pgs_len (ps:=ps) (by omega)
 have hc:=cl_ok hv_c
 have hR:=forE_small ps c
 have hB:BIG=4611686018427387904:=rfl
 obtain ⟨k',y,a1,a2,a3,a4⟩:=mhEditsResult (forE ps c) 1 (by omega) (by omega)
 obtain ⟨l1,w1,b1,c1,d1⟩:=mkByteSS ps 1 (by omega) (by omega)
 simp only[e2,n2,decide_false,cond_false,toByteSS_eq ps (by omega),toChange_eq c (by omega),specForE_eq hp hc,implForE_eq hp hc,eqEditsResult_self (forE ps c) (by omega),a1,a2,show ¬ k' < 0 by omega,eqByteSS_self ps (by omega),b1,show ¬ l1 < 0 by omega,Option.bind_some,Bool.not_true,decide_true,cond_true]
end OT
namespace Go.Proofs.YtcpoeochapnmlaaGreat.editsFor
open Go Go.ChangeShapes Go.WideShapes Go.ChangeAt Go.RowKit
theorem own:ownKnob Tryz.prog.godebug=none:=by kernel_rfl
theorem laidOut:laidOutB Tryz.prog=true:=by kernel_rfl
theorem htrue:∀ v,OT.okA OT.laws_FnExactEditsFor.ps v->∃ u,OT.laws_FnExactEditsFor.sem v=some (true,u):=fun v hv=>⟨(),OT.editsFor_true v hv⟩
theorem trod_len {H:Type} {enc:TypeId×Value->H} {P:Program} {w:World} {base:Nat} {sp:Nat->Bool} {held:Bool}:∀ (ts:List TypeId) (vs:List Value) (ds:List (DataW H)) (ps:List MemPlace),DataW.TrodAll enc P w base sp held ts vs ds ps->ds.length=ts.length
 | [],[],[],_,_=>rfl
 | _::ts,_::vs,_::ds,_,⟨_,q,_,h,_⟩=>congrArg (·+1) (trod_len ts vs ds q h)
 | [],_::_,_,_,h=>h.elim
 | [],[],_::_,_,h=>h.elim
 | _::_,[],_,_,h=>h.elim
 | _::_,_::_,[],_,h=>h.elim
set_option maxRecDepth 100000 in
theorem lifted (os:Os) (started:os.Started) (H:Type) (enc:TypeId×Value->H) :
  ReturnsInHanded {} Tryz.checked os 5 .any (Rows.fnExactEditsForSpec.pre6 enc Tryz.prog Tryz.f5 Rows.fnExactEditsForRow.domain false) (Rows.fnExactEditsForSpec.post enc Tryz.prog Tryz.f5 false true false false):=by
 refine returnsInHanded_of_change (C:=Tryz.checked) own started (by kernel_rfl) Tryz.func5
  (ChangeSpec.witness6 (enc:=enc) (C:=Tryz.checked) false ⟨#[],#[.slice none 0 0,.agg #[.bool false,.int .i64 0,.int .i64 0,.int .i64 0,.string ⟨#[]⟩,.bool false,.int .i64 0,.int .i64 0,.int .i64 0,.string ⟨#[]⟩]],[]⟩ 8 (by kernel_rfl) (by kernel_rfl) (by kernel_rfl) (by kernel_rfl)) ?_
 intro W base args ds gs before hval0 hW hcnd _
 have hval:∀ (j:Nat) t v,Tryz.f5.params[j]?=some t->args[j]?=some v->Value.okWide Tryz.prog W .any base t v:=hval0
 have hW':=hW
 obtain ⟨p,q,hA0,hV,rfl,hfz,hnd⟩:=hW
 have hA:DataW.TrodAll enc Tryz.prog W 0 (fun _=>true) true Tryz.f5.params.toList args.toList ds p:=hA0
 obtain ⟨rfl,rfl⟩:=trodVars_none hV
 simp only[List.append_nil] at hW'
 have hl:OT.roLay Tryz.prog OT.laws_FnExactEditsFor.ps Tryz.f5.params.toList=true:=by kernel_rfl
 have hc:=OT.law_calls (enc:=enc) OT.laws_FnExactEditsFor.ok.1 htrue hl hA (b0:=base) (fun j t v ht hv=>hval j t v (by simpa using ht) (by simpa using hv))
 simp only[Array.toArray_toList] at hc
 refine hc.mono fun e W' ⟨he,hb⟩=>?_
 refine ⟨_,he,OT.law_post (C:=Tryz.checked) laidOut rfl hl (by kernel_rfl) Tryz.underlying4 rfl hW' hA ?_ hb⟩
 have hlen:ds.length=2:=trod_len _ _ _ _ hA
 match ds,hlen with
 | [d1,d2],_=>rfl
set_option maxHeartbeats 8000000 in
theorem closed:joinedFacts Tryz.prog 5 Tryz.f5 Rows.fnExactEditsForSpec Rows.fnExactEditsForRow=true:=by
 unfold joinedFacts
 simp only[Bool.and_eq_true]
 repeat' apply And.intro
 all_goals (as_aux_lemma=>kernel_rfl)
theorem over:Rows.fnExactEditsForRow.holds Tryz.pinned (OpenSpec.ofChange Rows.fnExactEditsForSpec):=
 OpenClaim.holds_of_wide 5 Tryz.f5 rfl rfl rfl rfl rfl rfl rfl ⟨rfl,rfl,rfl,rfl,rfl⟩ rfl rfl rfl rfl rfl (by kernel_rfl) Tryz.func5 closed
  (of_decide_eq_true (by kernel_rfl)) (by unfold Func.isWrapper;first | (rw[if_pos (by decide +kernel)];kernel_rfl) | (rw[if_neg (by decide +kernel)];exact ⟨rfl,rfl⟩))
  (fun os started H enc _=>lifted os started H enc)
theorem proved:Rows.FnExactEditsForSaid:=over
#print axioms proved
end Go.Proofs.YtcpoeochapnmlaaGreat.editsFor
