/- FnExactSameStory: the row; no conditions. -/
import Derived.Test.YtledflocbohofaaGreatSg
import Derived.Test.YtledflocbohofaaGreatRows
set_option linter.unusedVariables false
set_option linter.unusedSimpArgs false
namespace OT
open Go
def lay1 (p:List UInt8) (r:Run):List UInt8:=over p r.1.toNat (min (List.length r.2.1) (p.length - r.1.toNat)) r.2.1
def applyR (p:List UInt8) (rs:List Run):List UInt8:=rs.foldl lay1 p
theorem lay1_len {p:List UInt8} {r:Run} (h:r.1.toNat<=p.length):(lay1 p r).length=p.length:=over_length _ _ (by omega) (by omega)
theorem applyR_len:∀ (rs:List Run) (p:List UInt8),p.length=64->(∀ r ∈ rs,0<=r.1/\r.1<=63)->(applyR p rs).length=64
 | [],p,h,_=>h
 | r::rs,p,h,hr=>by
  have:=hr r (by simp)
  exact applyR_len rs _ (by rw[lay1_len (by omega)];exact h) (fun x hx=>hr x (by simp[hx]))
theorem implApplied_eq (p:List UInt8) (rs:List Run) (hp:p.length=64) (hl:rs.length<=64) (hr:∀ r ∈ rs,0<=r.1/\r.1<=63):impl_applied.sem (p,rs,())=some (applyR p rs,()):=by
 refine lift_eq (k:=66) fun k hk=>(impl_applied.raw_eq k _).trans ?_
 unfold impl_applied.p
 rw[implCopied_eq _ (by show p.length<=_;omega)]
 have:=for_loop (B:=fun self v=>impl_applied.B0 0 self (fun z=>impl_applied.Q0 0 (p,rs,()) z) (p,rs,()) v) rs (fun (s:List UInt8) (i:Int)=>(s,i)) (fun _ s r=>.inr (lay1 s r)) (fun s=>(s,())) (fun _ s=>s.length=64) (by rw[maxLen_val];omega)
  (fun i hi s self hI=>by
   show impl_applied.b0 _ _ _ _=_
   unfold impl_applied.b0
   have hlt:(i:Int) < (rs.length:Int):=by omega
   have hx:=hr rs[i] (List.getElem_mem hi)
   have hin:(0:Int)<=(rs[i]).1/\(rs[i]).1<=(s.length:Int):=by omega
   simp only[hlt,decide_true,cond_true,Int.natCast_nonneg,if_true,Int.toNat_natCast,List.getElem?_eq_getElem hi,Option.bind_some,hin,and_self]
   rfl)
  (fun i hi s s' hI hs=>by
   injection hs with hs
   have hx:=hr rs[i] (List.getElem_mem hi)
   rw[<-hs,lay1_len (by omega)];exact hI) (fun s self hI=>by
   show impl_applied.b0 _ _ _ _=_
   unfold impl_applied.b0
   simp only[Int.lt_irrefl,decide_false,cond_false]
   rfl) p hp k (by omega)
 rw[forI_fold] at this
 exact this
theorem specApplied_eq (p:List UInt8) (rs:List Run) (hp:p.length=64) (hl:rs.length<=64) (hr:∀ r ∈ rs,0<=r.1/\r.1<=63):spec_l3Apply.sem (p,rs,())=some (applyR p rs,()):=by
 refine lift_eq (k:=66) fun k hk=>(spec_l3Apply.raw_eq k _).trans ?_
 unfold spec_l3Apply.p
 rw[specCopy_eq _ (by show p.length<=_;omega)]
 have:=for_loop (B:=fun self v=>spec_l3Apply.B0 0 self (fun z=>spec_l3Apply.Q0 0 (p,rs,()) z) (p,rs,()) v) rs (fun (s:List UInt8) (i:Int)=>(s,i)) (fun _ s r=>.inr (lay1 s r)) (fun s=>(s,())) (fun _ s=>s.length=64) (by rw[maxLen_val];omega)
  (fun i hi s self hI=>by
   show spec_l3Apply.b0 _ _ _ _=_
   unfold spec_l3Apply.b0
   have hlt:(i:Int) < (rs.length:Int):=by omega
   have hx:=hr rs[i] (List.getElem_mem hi)
   have hin:(0:Int)<=(rs[i]).1/\(rs[i]).1<=(s.length:Int):=by omega
   simp only[hlt,decide_true,cond_true,Int.natCast_nonneg,if_true,Int.toNat_natCast,List.getElem?_eq_getElem hi,Option.bind_some,hin,and_self]
   rfl)
  (fun i hi s s' hI hs=>by
   injection hs with hs
   have hx:=hr rs[i] (List.getElem_mem hi)
   rw[<-hs,lay1_len (by omega)];exact hI) (fun s self hI=>by
   show spec_l3Apply.b0 _ _ _ _=_
   unfold spec_l3Apply.b0
   simp only[Int.lt_irrefl,decide_false,cond_false]
   rfl) p hp k (by omega)
 rw[forI_fold] at this
 exact this
theorem clone_eq (ps:Pages) (h:ps.length<=12):slices_Clone_bytes.sem (ps,())=some (ps,()):=by
 refine lift_eq (k:=0) fun k _=>(slices_Clone_bytes.raw_eq k _).trans ?_
 show slices_Clone_bytes.p _=_
 unfold slices_Clone_bytes.p
 refine nilB_eq (fun e=>by rw[show ps=[] from e]) ?_
 have:([]:List (List UInt8)).length+ps.length<=CAP:=cap_ok (by simp only[List.length_nil];omega)
 rw[if_pos this,List.nil_append]
def putR (q:Pages) (r:Record):Pages:=q.set r.2.2.1.toNat (applyR (q.getD r.2.2.1.toNat []) r.2.2.2.1)
def stepF (ps:Pages) (r:Record):Sum Int Pages:=
 if recF r=0 then (if inB r.1 2 4 then (if (ps.length:Int) < r.2.2.1 then .inl 1 else .inr (putR (if r.2.2.1=(ps.length:Int) then ps++[newF] else ps) r)) else .inr ps) else .inl (recF r)
theorem stepF_bad {ps:Pages} {r:Record} {c:Int} (h:stepF ps r=.inl c):c≠0:=by
 unfold stepF at h
 split at h
 ·split at h
  ·split at h
   ·injection h with h;subst h;decide
   ·cases h
  ·cases h
 ·rename_i hr
  injection h with h;subst h;exact hr
theorem putR_good {q:Pages} {r:Record} (hq:gp q) (hr:recF r=0) (hp:r.2.2.1.toNat < q.length):gp (putR q r):=by
 have hg:=recF_good hr
 refine ⟨by simp[putR];exact hq.1,fun p hm=>?_⟩
 rcases List.mem_or_eq_of_mem_set hm with h | h
 ·exact hq.2 p h
 ·subst h
  have hx:q.getD r.2.2.1.toNat []=q[r.2.2.1.toNat]:=by simp[hp]
  rw[hx]
  exact applyR_len _ _ (hq.2 _ (List.getElem_mem hp)) (fun x hx=>by have:=hg.2.2.2.2.2.2.2 x hx;omega)
theorem stepF_good {ps ps':Pages} {r:Record} (hp:gp ps) (h:stepF ps r=.inr ps'):gp ps':=by
 unfold stepF at h
 split at h
 ·rename_i hr
  have hg:=recF_good hr
  split at h
  ·split at h
   ·cases h
   ·rename_i hl
    injection h with h
    subst h
    split
    ·rename_i he
     refine putR_good ⟨by simp;omega,fun p hm=>?_⟩ hr (by simp;omega)
     rcases List.mem_append.1 hm with hm | hm
     ·exact hp.2 p hm
     ·simp only[List.mem_singleton] at hm;subst hm;exact newF_len
    ·rename_i he
     exact putR_good hp hr (by omega)
  ·injection h with h;subst h;exact hp
 ·cases h
theorem implRecorded_eq (ps:Pages) (r:Record) (hp:gp ps) (hr:recF r=0):impl_recorded.sem (ps,r,())=some (match stepF ps r with | .inl c=>(([]:Pages),c,()) | .inr ps'=>(ps',(0:Int),())):=by
 refine lift_eq (k:=0) fun k _=>(impl_recorded.raw_eq k _).trans ?_
 show impl_recorded.p _=_
 have hg:=recF_good hr
 unfold impl_recorded.p stepF
 simp only[turns_eq,hr,if_true,Option.bind_some]
 cases ht:inB r.1 2 4 with
 | false=>rfl
 | true=>
  simp only[Bool.not_true,cond_false,if_true]
  by_cases hl:(ps.length:Int) < r.2.2.1
  ·simp only[hl,decide_true,cond_true,if_true]
  have h12:¬ r.2.2.1=12:=by omega
  simp only[hl,h12,decide_false,cond_false,if_false,clone_eq ps hp.1,Option.bind_some]
  have key:∀ q:Pages,gp q->r.2.2.1.toNat < q.length->(if 0<=r.2.2.1/\r.2.2.1 < (q.length:Int) then ((q[r.2.2.1.toNat]?).bind fun x11=>(impl_applied.sem (x11,r.2.2.2.1,())).bind fun r12=>if 0<=r.2.2.1/\r.2.2.1 < (q.length:Int) then ((q[r.2.2.1.toNat]?).bind fun x13=>some (q.set r.2.2.1.toNat r12.1,(0:Int),())) else none) else none:Option impl_recorded.Out)=some (putR q r,(0:Int),()):=fun q hq hlt=>by
   have hc:0<=r.2.2.1/\r.2.2.1 < (q.length:Int):=by omega
   simp only[hc,and_self,if_true,List.getElem?_eq_getElem hlt,Option.bind_some]
   rw[implApplied_eq _ _ (hq.2 _ (List.getElem_mem hlt)) hg.2.2.2.2.2.2.1 (fun x hx=>by have:=hg.2.2.2.2.2.2.2 x hx;omega)]
   have hx:q.getD r.2.2.1.toNat []=q[r.2.2.1.toNat]:=by simp[hlt]
   unfold putR
   rw[hx]
   rfl
  by_cases he:r.2.2.1=(ps.length:Int)
  ·have hcc:ps.length+[newF].length<=CAP:=cap_ok (by have:=hp.1;simp only[List.length_cons,List.length_nil];omega)
   rw[if_pos he]
   simp only[he,decide_true,cond_true,implNew_eq,Option.bind_some,hcc,if_true]
   rw[<-he]
   refine key _ ⟨by simp;omega,fun p hm=>?_⟩ (by simp;omega)
   rcases List.mem_append.1 hm with hm | hm
   ·exact hp.2 p hm
   ·simp only[List.mem_singleton] at hm;subst hm;exact newF_len
  ·rw[if_neg he]
   simp only[he,decide_false,cond_false]
   exact key ps hp (by omega)
theorem editsBad_eq (c:Int):spec_l7Bad.sem (c,())=some ((c,([]:List Run),([]:List (List UInt8)),()),()):=by
 refine lift_eq (k:=0) fun k _=>(spec_l7Bad.raw_eq k _).trans ?_
 rfl
theorem specRecord_eq (ps:Pages) (r:Record) (hp:gp ps):spec_ApplyRecord.sem (ps,r,())=some (match stepF ps r with | .inl c=>((c,([]:List Run),([]:Pages),()),()) | .inr ps'=>(((0:Int),([]:List Run),ps',()),())):=by
 refine lift_eq (k:=14) fun k hk=>(spec_ApplyRecord.raw_eq k _).trans ?_
 unfold spec_ApplyRecord.p
 have h12:¬ (12:Int) < (ps.length:Int):=by have:=hp.1;omega
 simp only[h12,decide_false,cond_false]
 have main:spec_ApplyRecord.Q0 0 (ps,r,()) ()=some (match stepF ps r with | .inl c=>((c,([]:List Run),([]:Pages),()),()) | .inr ps'=>(((0:Int),([]:List Run),ps',()),())):=by
  show spec_ApplyRecord.q0 _ _=_
  unfold spec_ApplyRecord.q0 stepF
  simp only[specRec_eq,editsBad_eq,specCopies_eq ps hp,spec4Runs_eq,Option.bind_some]
  by_cases hr:recF r=0
  rotate_left
  ·simp only[hr,decide_false,Bool.not_false,cond_true,if_false]
  have hg:=recF_good hr
  simp only[hr,decide_true,Bool.not_true,cond_false,if_true]
  cases ht:inB r.1 2 4 with
  | false=>rfl
  | true=>
   simp only[Bool.not_true,cond_false,if_true]
   by_cases hl:(ps.length:Int) < r.2.2.1
   ·simp only[hl,decide_true,cond_true,if_true]
   have h12:¬ r.2.2.1=12:=by omega
   simp only[hl,h12,decide_false,cond_false,if_false]
   have key:∀ q:Pages,gp q->r.2.2.1.toNat < q.length->(if 0<=r.2.2.1/\r.2.2.1 < (q.length:Int) then ((q[r.2.2.1.toNat]?).bind fun x621=>(q[r.2.2.1.toNat]?).bind fun x622=>(spec_l3Apply.sem (x622,r.2.2.2.1,())).bind fun r623=>if 0<=r.2.2.1/\r.2.2.1 < (q.length:Int) then ((q[r.2.2.1.toNat]?).bind fun x624=>some (((0:Int),([]:List Run),q.set r.2.2.1.toNat r623.1,()),())) else none) else none:Option spec_ApplyRecord.Out)=some (((0:Int),([]:List Run),putR q r,()),()):=fun q hq hlt=>by
    have hc:0<=r.2.2.1/\r.2.2.1 < (q.length:Int):=by omega
    simp only[hc,and_self,if_true,List.getElem?_eq_getElem hlt,Option.bind_some]
    rw[specApplied_eq _ _ (hq.2 _ (List.getElem_mem hlt)) hg.2.2.2.2.2.2.1 (fun x hx=>by have:=hg.2.2.2.2.2.2.2 x hx;omega)]
    have hx:q.getD r.2.2.1.toNat []=q[r.2.2.1.toNat]:=by simp[hlt]
    unfold putR
    rw[hx]
    rfl
   by_cases he:r.2.2.1=(ps.length:Int)
   ·have hcc:ps.length+[newF].length<=CAP:=cap_ok (by have:=hp.1;simp only[List.length_cons,List.length_nil];omega)
    rw[if_pos he]
    simp only[he,decide_true,cond_true,specNew_eq,Option.bind_some,hcc,if_true]
    rw[<-he]
    refine key _ ⟨by simp;omega,fun p hm=>?_⟩ (by simp;omega)
    rcases List.mem_append.1 hm with hm | hm
    ·exact hp.2 p hm
    ·simp only[List.mem_singleton] at hm;subst hm;exact newF_len
   ·rw[if_neg he]
    simp only[he,decide_false,cond_false]
    exact key ps hp (by omega)
 have:=for_loop (B:=fun self v=>spec_ApplyRecord.B0 0 self (fun z=>spec_ApplyRecord.Q0 0 (ps,r,()) z) (ps,r,()) v) ps (fun (s:Unit) (i:Int)=>i) (fun _ s x=>.inr s) (fun s=>(match stepF ps r with | .inl c=>((c,([]:List Run),([]:Pages),()),()) | .inr ps'=>(((0:Int),([]:List Run),ps',()),()))) (fun i s=>True) (by have:=hp.1;rw[maxLen_val];omega)
  (fun i hi s self hI=>by
   show spec_ApplyRecord.b0 _ _ _ _=_
   unfold spec_ApplyRecord.b0
   have hlt:(i:Int) < (ps.length:Int):=by omega
   have hx:((ps[i].length:Nat):Int)=64:=by have:=hp.2 ps[i] (List.getElem_mem hi);omega
   simp only[hlt,decide_true,cond_true,Int.natCast_nonneg,if_true,Int.toNat_natCast,List.getElem?_eq_getElem hi,Option.bind_some,hx,Bool.not_true,cond_false])
  (fun _ _ _ _ _ _=>trivial) (fun s self hI=>by
   show spec_ApplyRecord.b0 _ _ _ _=_
   unfold spec_ApplyRecord.b0
   simp only[Int.lt_irrefl,decide_false,cond_false]
   exact main) () trivial k (by have:=hp.1;omega)
 rw[forI_fold (g:=fun s _=>s)] at this
 exact this
def redoF (xs:List Record):Pages×Int×Unit:=forI (fun _ ps r=>match stepF ps r with | .inl c=>.inl (([]:Pages),c,()) | .inr ps'=>.inr ps') (fun ps=>(ps,(0:Int),())) 0 xs []
theorem redoF_good (xs:List Record):(redoF xs).2.1=0->gp (redoF xs).1:=by
 have main:∀ (xs:List Record) (i:Nat) (ps:Pages),gp ps->(forI (fun _ ps r=>match stepF ps r with | .inl c=>.inl (([]:Pages),c,()) | .inr ps'=>.inr ps') (fun ps=>(ps,(0:Int),())) i xs ps).2.1=0->gp (forI (fun _ ps r=>match stepF ps r with | .inl c=>.inl (([]:Pages),c,()) | .inr ps'=>.inr ps') (fun ps=>(ps,(0:Int),())) i xs ps).1:=by
  intro xs
  induction xs with
  | nil=>intro i ps h _;exact h
  | cons x xs ih=>
   intro i ps h
   simp only[forI]
   cases hs:stepF ps x with
   | inl c=>intro h0;exact absurd h0 (stepF_bad hs)
   | inr ps'=>exact ih _ _ (stepF_good h hs)
 exact main xs 0 [] ⟨by simp,fun _ h=>by cases h⟩
theorem specRedo_eq (xs:List Record) (hx:xs.length<=maxLen):spec_l12Redo.sem (xs,())=some (redoF xs):=by
 refine lift_eq (k:=xs.length+1) fun k hk=>(spec_l12Redo.raw_eq k _).trans ?_
 exact for_loop (B:=fun self v=>spec_l12Redo.B0 0 self (fun z=>spec_l12Redo.Q0 0 (xs,()) z) (xs,()) v) xs (fun (s:Pages) (i:Int)=>(s,i)) (fun _ ps r=>match stepF ps r with | .inl c=>.inl (([]:Pages),c,()) | .inr ps'=>.inr ps') (fun ps=>(ps,(0:Int),())) (fun _ s=>gp s) hx
  (fun i hi s self hI=>by
   show spec_l12Redo.b0 _ _ _ _=_
   unfold spec_l12Redo.b0
   have hlt:(i:Int) < (xs.length:Int):=by omega
   simp only[hlt,decide_true,cond_true,Int.natCast_nonneg,if_true,Int.toNat_natCast,List.getElem?_eq_getElem hi,Option.bind_some,specRecord_eq s _ hI]
   cases hs:stepF s xs[i] with
   | inl c=>
    have:=stepF_bad hs
    simp only[this,decide_false,Bool.not_false,cond_true]
   | inr ps'=>simp only[decide_true,Bool.not_true,cond_false])
  (fun i hi s s' hI hs=>by
   cases h:stepF s xs[i] with
   | inl c=>rw[h] at hs;cases hs
   | inr ps'=>rw[h] at hs;injection hs with hs;subst hs;exact stepF_good hI h) (fun s self hI=>by
   show spec_l12Redo.b0 _ _ _ _=_
   unfold spec_l12Redo.b0
   simp only[Int.lt_irrefl,decide_false,cond_false]
   rfl) [] ⟨by simp,fun _ h=>by cases h⟩ k (by omega)
theorem implRedo_eq (xs:List Record) (hx:xs.length<=maxLen):impl_redo.sem (xs,())=some (redoF xs):=by
 refine lift_eq (k:=xs.length+1) fun k hk=>(impl_redo.raw_eq k _).trans ?_
 exact for_loop (B:=fun self v=>impl_redo.B0 0 self (fun z=>impl_redo.Q0 0 (xs,()) z) (xs,()) v) xs (fun (s:Pages) (i:Int)=>(s,i)) (fun _ ps r=>match stepF ps r with | .inl c=>.inl (([]:Pages),c,()) | .inr ps'=>.inr ps') (fun ps=>(ps,(0:Int),())) (fun _ s=>gp s) hx
  (fun i hi s self hI=>by
   show impl_redo.b0 _ _ _ _=_
   unfold impl_redo.b0
   have hlt:(i:Int) < (xs.length:Int):=by omega
   simp only[hlt,decide_true,cond_true,Int.natCast_nonneg,if_true,Int.toNat_natCast,List.getElem?_eq_getElem hi,Option.bind_some,implRec_eq]
   by_cases hr:recF xs[i]=0
   ·simp only[hr,decide_true,Bool.not_true,cond_false,implRecorded_eq s _ hI hr,Option.bind_some]
    cases hs:stepF s xs[i] with
    | inl c=>
     have:=stepF_bad hs
     simp only[this,decide_false,Bool.not_false,cond_true]
    | inr ps'=>simp only[decide_true,Bool.not_true,cond_false]
   ·have hs:stepF s xs[i]=.inl (recF xs[i]):=by unfold stepF;rw[if_neg hr]
    simp only[hr,decide_false,Bool.not_false,cond_true,hs])
  (fun i hi s s' hI hs=>by
   cases h:stepF s xs[i] with
   | inl c=>rw[h] at hs;cases hs
   | inr ps'=>rw[h] at hs;injection hs with hs;subst hs;exact stepF_good hI h) (fun s self hI=>by
   show impl_redo.b0 _ _ _ _=_
   unfold impl_redo.b0
   simp only[Int.lt_irrefl,decide_false,cond_false]
   rfl) [] ⟨by simp,fun _ h=>by cases h⟩ k (by omega)
end OT
set_option linter.unusedVariables false
set_option linter.unusedSimpArgs false
namespace OT
open Go
def txF (x:Tx):Int:=if undoF x=0 then marksF x else undoF x
theorem forI_pack {α:Type} (c:Nat->α->Int):∀ (xs:List α) (i:Nat),forI (fun i (_:Unit) y=>if c i y=0 then .inr () else .inl (c i y,())) (fun _=>((0:Int),())) i xs ()=(forI (fun i (_:Unit) y=>if c i y=0 then .inr () else .inl (c i y)) (fun _=>(0:Int)) i xs (),())
 | [],_=>rfl
 | y::ys,i=>by simp only[forI];by_cases h0:c i y=0 <;> simp[h0,forI_pack c ys (i+1)]
theorem forI_codeE {α:Type} (c:Nat->α->Int) (E:Option (Int×Unit)):∀ (xs:List α) (i:Nat),forI (fun i (_:Unit) y=>if c i y=0 then .inr () else .inl (some (c i y,()))) (fun _=>E) i xs () =
  if forI (fun i (_:Unit) y=>if c i y=0 then .inr () else .inl (c i y)) (fun _=>(0:Int)) i xs ()=0 then E else some (forI (fun i (_:Unit) y=>if c i y=0 then .inr () else .inl (c i y)) (fun _=>(0:Int)) i xs (),())
 | [],_=>rfl
 | y::ys,i=>by simp only[forI];by_cases h0:c i y=0 <;> simp[h0,forI_codeE c E ys (i+1)]
theorem forI_firstF {α:Type} (c:α->Int):∀ (xs:List α) (i:Nat),forI (fun _ (_:Unit) y=>if c y=0 then .inr () else .inl (c y)) (fun _=>(0:Int)) i xs ()=firstF c xs
 | [],_=>rfl
 | y::ys,i=>by simp only[forI,firstF];by_cases h0:c y=0 <;> simp[h0,forI_firstF c ys (i+1)]
theorem txFault_eq (x:Tx) (h:tl x):impl_txFault.sem (x,())=some (txF x,()):=by
 obtain ⟨h1,h2,h3,h4⟩:=h
 refine lift_eq (k:=1048577) fun k hk=>(impl_txFault.raw_eq k _).trans ?_
 have third:List.length x.2.2.2.1<=12->impl_txFault.r2 k (x,()) (0:Int)=some (locksL x.2.2.2.1,()):=fun hl=>by
  have:=for_loop (B:=fun self v=>impl_txFault.B2 k self (fun z=>impl_txFault.Q2 k (x,()) z) (x,()) v) x.2.2.2.1 (fun (_:Unit) (i:Int)=>i) (fun i _ y=>if lockC x.2.2.2.1 i y=0 then .inr () else .inl (lockC x.2.2.2.1 i y,())) (fun _=>(0,())) (fun _ _=>True) (by rw[maxLen_val];omega)
   (fun i hi s self _=>by
    show impl_txFault.b2 _ _ _ _=_
    unfold impl_txFault.b2 lockC
    have hlt:(i:Int) < (List.length x.2.2.2.1:Int):=by omega
    have hin:(0:Int)<=(i:Int)/\(i:Int)<=(List.length x.2.2.2.1:Int):=by omega
    simp only[hlt,hin,and_self,decide_true,cond_true,Int.natCast_nonneg,if_true,Int.toNat_natCast,List.getElem?_eq_getElem hi,Option.bind_some,isKey_eq,List.drop_zero]
    rw[contains_eq _ _ (by rw[maxLen_val];simp;omega)]
    cases keyB2 (x.2.2.2.1)[i] <;> cases hasK (x.2.2.2.1.take i) (x.2.2.2.1)[i] <;> rfl)
   (fun _ _ _ _ _ _=>trivial) (fun s self _=>by
    show impl_txFault.b2 _ _ _ _=_
    unfold impl_txFault.b2
    simp only[Int.lt_irrefl,decide_false,cond_false]
    rfl) () trivial k (by omega)
  rw[forI_pack (lockC x.2.2.2.1)] at this
  exact this
 have second:List.length x.2.2.1<=8->List.length x.2.2.2.1<=12->impl_txFault.r1 k (x,()) ((0:Int),(0:Int))=some (if marksL (List.length x.2.1:Int) 0 x.2.2.1 then locksL x.2.2.2.1 else 3,()):=fun hm hl=>by
  have:=for_loopE (B:=fun self v=>impl_txFault.B1 k self (fun z=>impl_txFault.Q1 k (x,()) z) (x,()) v) x.2.2.1 (fun (last:Int) (i:Int)=>(last,i)) (fun _ last m=>if inB m last (List.length x.2.1:Int) then .inr m else .inl (some ((3:Int),()))) (fun _=>some (locksL x.2.2.2.1,())) (fun _ _=>True) (by rw[maxLen_val];omega)
   (fun i hi last self _=>by
    show impl_txFault.b1 _ _ _ _=_
    unfold impl_txFault.b1
    have hlt:(i:Int) < (List.length x.2.2.1:Int):=by omega
    simp only[hlt,decide_true,cond_true,Int.natCast_nonneg,if_true,Int.toNat_natCast,List.getElem?_eq_getElem hi,Option.bind_some,implIn_eq]
    show (bif !inB (x.2.2.1)[i] last (List.length x.2.1:Int) then _ else _)=_
    cases inB (x.2.2.1)[i] last (List.length x.2.1:Int) <;> rfl)
   (fun _ _ _ _ _ _=>trivial) (fun last self _=>by
    show impl_txFault.b1 _ _ _ _=_
    unfold impl_txFault.b1
    simp only[Int.lt_irrefl,decide_false,cond_false]
    exact third hl) 0 trivial k (by omega)
  rw[marksE] at this
  refine Eq.trans this ?_
  unfold marksL
  cases forI (fun _ last m=>if inB m last (List.length x.2.1:Int) then .inr m else .inl false) (fun _=>true) 0 x.2.2.1 0 <;> rfl
 have after:impl_txFault.Q0 k (x,()) ()=some (marksF x,()):=by
  show impl_txFault.q0 _ _ _=_
  unfold impl_txFault.q0 marksF
  by_cases hm:8 < List.length x.2.2.1
  ·have:(8:Int) < (List.length x.2.2.1:Int):=by omega
   simp only[this,hm,decide_true,cond_true,Bool.true_or,if_true]
   try rfl
  have hm':¬ (8:Int) < (List.length x.2.2.1:Int):=by omega
  by_cases hk2:12 < List.length x.2.2.2.1
  ·have:(12:Int) < (List.length x.2.2.2.1:Int):=by omega
   simp only[this,hm,hm',hk2,decide_true,decide_false,cond_true,cond_false,Bool.false_or,if_true]
   try rfl
  have hk':¬ (12:Int) < (List.length x.2.2.2.1:Int):=by omega
  simp only[hm,hm',hk',hk2,decide_false,cond_false,Bool.or_self,Bool.false_eq_true,if_false]
  exact second (by omega) (by omega)
 have:=for_loopE (B:=fun self v=>impl_txFault.B0 k self (fun z=>impl_txFault.Q0 k (x,()) z) (x,()) v) x.2.1 (fun (_:Unit) (i:Int)=>i) (fun _ _ c=>if undoC x.2.2.2.1 c=0 then .inr () else .inl (some (undoC x.2.2.2.1 c,()))) (fun _=>some (marksF x,())) (fun _ _=>True) (by rw[maxLen_val];omega)
  (fun i hi s self _=>by
   show impl_txFault.b0 _ _ _ _=_
   unfold impl_txFault.b0
   have hlt:(i:Int) < (List.length x.2.1:Int):=by omega
   simp only[hlt,decide_true,cond_true,Int.natCast_nonneg,if_true,Int.toNat_natCast,List.getElem?_eq_getElem hi,Option.bind_some,single_eq _ (h4 _ (List.getElem_mem hi)),lock_eq]
   rw[contains_eq _ _ (by rw[maxLen_val];omega)]
   unfold undoC
   by_cases hc:chS (x.2.1)[i]=0
   ·simp only[hc,decide_true,Bool.not_true,cond_false,if_true,Option.bind_some]
    cases hasK x.2.2.2.1 (keyOfC (x.2.1)[i]) <;> rfl
   ·simp only[hc,decide_false,Bool.not_false,cond_true,if_false])
  (fun _ _ _ _ _ _=>trivial) (fun s self _=>by
   show impl_txFault.b0 _ _ _ _=_
   unfold impl_txFault.b0
   simp only[Int.lt_irrefl,decide_false,cond_false]
   exact after) () trivial k (by omega)
 rw[forI_codeE (fun _=>undoC x.2.2.2.1),forI_firstF] at this
 refine Eq.trans this ?_
 unfold txF undoF
 split <;> rfl
def lockF (xs:List Tx) (k:Key):Int:=match xs with
 | []=>0
 | x::xs=>if hasK x.2.2.2.1 k then x.1 else lockF xs k
def tls (xs:List Tx):Prop:=xs.length<=1048576/\∀ x ∈ xs,tl x
theorem forI_lock (k:Key):∀ (xs:List Tx) (i:Nat),forI (fun _ (_:Unit) x=>if hasK x.2.2.2.1 k then .inl (x.1,()) else .inr ()) (fun _=>((0:Int),())) i xs ()=(lockF xs k,())
 | [],_=>rfl
 | x::xs,i=>by simp only[forI,lockF];cases hasK x.2.2.2.1 k <;> simp[forI_lock k xs (i+1)]
theorem tl_locks {x:Tx} (h:tl x):List.length x.2.2.2.1<=maxLen:=by rw[maxLen_val];have:=h.2.2.1;omega
theorem specLock_eq (xs:List Tx) (k0:Key) (h:tls xs):spec_l10Lock.sem (xs,k0,())=some (lockF xs k0,()):=by
 obtain ⟨h1,h2⟩:=h
 refine lift_eq (k:=xs.length+1) fun k hk=>(spec_l10Lock.raw_eq k _).trans ?_
 have:=for_loop (B:=fun self v=>spec_l10Lock.B0 0 self (fun z=>spec_l10Lock.Q0 0 (xs,k0,()) z) (xs,k0,()) v) xs (fun (_:Unit) (i:Int)=>i) (fun _ _ x=>if hasK x.2.2.2.1 k0 then .inl (x.1,()) else .inr ()) (fun _=>(0,())) (fun _ _=>True) (by rw[maxLen_val];omega)
  (fun i hi s self _=>by
   show spec_l10Lock.b0 _ _ _ _=_
   unfold spec_l10Lock.b0
   have hlt:(i:Int) < (xs.length:Int):=by omega
   simp only[hlt,decide_true,cond_true,Int.natCast_nonneg,if_true,Int.toNat_natCast,List.getElem?_eq_getElem hi,Option.bind_some,locks_eq _ _ (tl_locks (h2 _ (List.getElem_mem hi)))]
   cases hasK (xs[i]).2.2.2.1 k0 <;> rfl)
  (fun _ _ _ _ _ _=>trivial) (fun s self _=>by
   show spec_l10Lock.b0 _ _ _ _=_
   unfold spec_l10Lock.b0
   simp only[Int.lt_irrefl,decide_false,cond_false]
   rfl) () trivial k (by omega)
 rw[forI_lock] at this
 exact this
def cntF (xs:List Tx):Int:=xs.foldl (fun n x=>n+(List.length x.2.1:Int)) 0
theorem specCount_eq (xs:List Tx) (h:tls xs):spec_l10Count.sem (xs,())=some (cntF xs,()):=by
 obtain ⟨h1,h2⟩:=h
 refine lift_eq (k:=xs.length+1) fun k hk=>(spec_l10Count.raw_eq k _).trans ?_
 have:=for_loop (B:=fun self v=>spec_l10Count.B0 0 self (fun z=>spec_l10Count.Q0 0 (xs,()) z) (xs,()) v) xs (fun (n:Int) (i:Int)=>(n,i)) (fun _ n x=>.inr (n+(List.length x.2.1:Int))) (fun n=>(n,())) (fun i n=>0<=n/\n<=1048576*(i:Int)) (by rw[maxLen_val];omega)
  (fun i hi n self hI=>by
   show spec_l10Count.b0 _ _ _ _=_
   unfold spec_l10Count.b0
   have hlt:(i:Int) < (xs.length:Int):=by omega
   have hx:=(h2 _ (List.getElem_mem hi)).1
   simp only[hlt,decide_true,cond_true,Int.natCast_nonneg,if_true,Int.toNat_natCast,List.getElem?_eq_getElem hi,Option.bind_some]
   rw[w64_in (n:=n+_) (by omega)])
  (fun i hi n n' hI hs=>by
   injection hs with hs
   have hx:=(h2 _ (List.getElem_mem hi)).1
   omega) (fun s self _=>by
   show spec_l10Count.b0 _ _ _ _=_
   unfold spec_l10Count.b0
   simp only[Int.lt_irrefl,decide_false,cond_false]
   rfl) 0 (by omega) k (by omega)
 rw[forI_fold] at this
 exact this
theorem implCount_eq (xs:List Tx) (h:tls xs):impl_undone.sem (xs,())=some (cntF xs,()):=by
 obtain ⟨h1,h2⟩:=h
 refine lift_eq (k:=xs.length+1) fun k hk=>(impl_undone.raw_eq k _).trans ?_
 have:=for_loop (B:=fun self v=>impl_undone.B0 0 self (fun z=>impl_undone.Q0 0 (xs,()) z) (xs,()) v) xs (fun (n:Int) (i:Int)=>(n,i)) (fun _ n x=>.inr (n+(List.length x.2.1:Int))) (fun n=>(n,())) (fun i n=>0<=n/\n<=1048576*(i:Int)) (by rw[maxLen_val];omega)
  (fun i hi n self hI=>by
   show impl_undone.b0 _ _ _ _=_
   unfold impl_undone.b0
   have hlt:(i:Int) < (xs.length:Int):=by omega
   have hx:=(h2 _ (List.getElem_mem hi)).1
   simp only[hlt,decide_true,cond_true,Int.natCast_nonneg,if_true,Int.toNat_natCast,List.getElem?_eq_getElem hi,Option.bind_some]
   rw[w64_in (n:=n+_) (by omega)])
  (fun i hi n n' hI hs=>by
   injection hs with hs
   have hx:=(h2 _ (List.getElem_mem hi)).1
   omega) (fun s self _=>by
   show impl_undone.b0 _ _ _ _=_
   unfold impl_undone.b0
   simp only[Int.lt_irrefl,decide_false,cond_false]
   rfl) 0 (by omega) k (by omega)
 rw[forI_fold] at this
 exact this
def oneC (xs:List Tx) (i:Nat) (x:Tx):Int:=if inB x.1 1 99 then (if 0 < i then (match xs[i - 1]? with
    | some y=>if x.1<=y.1 then 1 else txF x
    | none=>1) else txF x) else 3
def eachF (xs:List Tx):Int:=forI (fun i (_:Unit) x=>if oneC xs i x=0 then .inr () else .inl (oneC xs i x)) (fun _=>(0:Int)) 0 xs ()
def flatK (xs:List Tx):List Key:=xs.flatMap fun x=>x.2.2.2.1
def apartB (xs:List Tx):Bool:=decide (flatK xs).Nodup
def txsF (xs:List Tx):Int:=if 4 < xs.length then 2 else if eachF xs=0 then (if apartB xs then (if 12 < cntF xs then 2 else 0) else 7) else eachF xs
theorem each_good (xs:List Tx) (h:eachF xs=0):∀ i (hi:i < xs.length),oneC xs i xs[i]=0:=by
 have main:∀ (ys:List Tx) (j:Nat),(forI (fun i (_:Unit) x=>if oneC xs i x=0 then .inr () else .inl (oneC xs i x)) (fun _=>(0:Int)) j ys ())=0->∀ i (hi:i < ys.length),oneC xs (j+i) ys[i]=0:=by
  intro ys
  induction ys with
  | nil=>intro j _ i hi;simp at hi
  | cons y ys ih=>
   intro j hf i hi
   simp only[forI] at hf
   by_cases h0:oneC xs j y=0
   ·rw[if_pos h0] at hf
    cases i with
    | zero=>simpa using h0
    | succ i=>
     have:=ih (j+1) hf i (by simpa using hi)
     rw[show j+(i+1)=j+1+i by omega]
     simpa using this
   ·rw[if_neg h0] at hf
    exact absurd hf h0
 intro i hi
 have:=main xs 0 h i hi
 rwa [Nat.zero_add] at this
theorem one_good {xs:List Tx} {i:Nat} {x:Tx} (h:oneC xs i x=0):1<=x.1/\txF x=0/\∀ y,0 < i->xs[i - 1]?=some y->y.1 < x.1:=by
 unfold oneC at h
 split at h
 ·rename_i hb
  simp only[inB,Bool.and_eq_true,decide_eq_true_eq] at hb
  split at h
  ·rename_i h0
   split at h
   ·rename_i y hy
    split at h
    ·cases h
    ·exact ⟨hb.1,h,fun z _ hz=>by rw[hy] at hz;injection hz with hz;subst hz;omega⟩
   ·cases h
  ·exact ⟨hb.1,h,fun y h0=>by omega⟩
 ·cases h
theorem each_rise {xs:List Tx} (h:eachF xs=0):xs.Pairwise fun x y=>x.1 < y.1:=by
 rw[List.pairwise_iff_getElem]
 intro i j hi hj hij
 have key:∀ d (hd:i+d+1 < xs.length),(xs[i]).1 < (xs[i+d+1]).1:=by
  intro d
  induction d with
  | zero=>
   intro hd
   exact (one_good (each_good xs h (i+1) hd)).2.2 xs[i] (by omega) (by simp[hi])
  | succ d ih=>
   intro hd
   have h1:=ih (by omega)
   have h2:=(one_good (each_good xs h (i+d+1+1) hd)).2.2 xs[i+d+1] (by omega) (by rw[Nat.add_sub_cancel];exact List.getElem?_eq_getElem (by omega))
   exact Int.lt_trans h1 h2
 have:=key (j - i - 1) (by omega)
 have e:i+(j - i - 1)+1=j:=by omega
 simpa only [e] using this
theorem locks_nodup {ks:List Key} (h:locksL ks=0):ks.Nodup:=by
 have main:∀ (ys:List Key) (j:Nat),(forI (fun i (_:Unit) k=>if lockC ks i k=0 then .inr () else .inl (lockC ks i k)) (fun _=>(0:Int)) j ys ())=0->∀ i (hi:i < ys.length),lockC ks (j+i) ys[i]=0:=by
  intro ys
  induction ys with
  | nil=>intro j _ i hi;simp at hi
  | cons y ys ih=>
   intro j hf i hi
   simp only[forI] at hf
   by_cases h0:lockC ks j y=0
   ·rw[if_pos h0] at hf
    cases i with
    | zero=>simpa using h0
    | succ i=>
     have:=ih (j+1) hf i (by simpa using hi)
     rw[show j+(i+1)=j+1+i by omega]
     simpa using this
   ·rw[if_neg h0] at hf
    exact absurd hf h0
 rw[List.nodup_iff_pairwise_ne,List.pairwise_iff_getElem]
 intro i j hi hj hij e
 have h1:=main ks 0 h j hj
 rw[Nat.zero_add] at h1
 unfold lockC at h1
 split at h1
 ·split at h1
  ·cases h1
  ·rename_i hn
   refine hn (hasK_iff.2 ?_)
   rw[<-e]
   exact List.mem_take_iff_getElem.2 ⟨i,by omega,rfl⟩
 ·cases h1
theorem tx_nodup {x:Tx} (h:txF x=0):(x.2.2.2.1:List Key).Nodup:=by
 unfold txF at h
 split at h
 ·unfold marksF at h
  split at h
  ·cases h
  ·split at h
   ·exact locks_nodup h
   ·cases h
 ·rename_i hn;exact absurd h hn
end OT
set_option linter.unusedVariables false
set_option linter.unusedSimpArgs false
namespace OT
open Go
def apartS (xs:List Tx):Bool:=xs.all fun x=>x.2.2.2.1.all fun k=>decide (lockF xs k=x.1)
theorem apart_eq {xs:List Tx} (hr:xs.Pairwise fun x y=>x.1 < y.1) (hn:∀ x ∈ xs,(x.2.2.2.1:List Key).Nodup):apartS xs=apartB xs:=by
 have main:∀ (xs:List Tx),(xs.Pairwise fun x y=>x.1 < y.1)->(∀ x ∈ xs,(x.2.2.2.1:List Key).Nodup)->((∀ x ∈ xs,∀ k ∈ (x.2.2.2.1:List Key),lockF xs k=x.1)↔(flatK xs).Nodup):=by
  intro xs
  induction xs with
  | nil=>intro _ _;simp[flatK]
  | cons x xs ih=>
   intro hr hn
   obtain ⟨h1,h2⟩:=List.pairwise_cons.1 hr
   have ih:=ih h2 (fun y hy=>hn y (by simp[hy]))
   have hfl:flatK (x::xs)=x.2.2.2.1++flatK xs:=by simp[flatK]
   rw[hfl,List.nodup_append]
   constructor
   ·intro hall
    have hd:∀ y ∈ xs,∀ k ∈ (y.2.2.2.1:List Key),k ∉ (x.2.2.2.1:List Key):=fun y hy k hk hx=>by
     have e1:=hall y (by simp[hy]) k hk
     simp only[lockF,hasK_iff.2 hx,if_true] at e1
     have:=h1 y hy
     omega
    refine ⟨hn x (by simp),ih.1 fun y hy k hk=>?_,fun a ha b hb e=>?_⟩
    ·have e1:=hall y (by simp[hy]) k hk
     have:hasK x.2.2.2.1 k=false:=by
      cases hh:hasK x.2.2.2.1 k with
      | false=>rfl
      | true=>exact absurd (hasK_iff.1 hh) (hd y hy k hk)
     simp only[lockF,this,Bool.false_eq_true,if_false] at e1
     exact e1
    ·subst e
     obtain ⟨y,hy,hk⟩:=List.mem_flatMap.1 hb
     exact hd y hy a hk ha
   ·rintro ⟨g1,g2,g3⟩ y hy k hk
    rcases List.mem_cons.1 hy with e | e
    ·subst e
     simp only[lockF,hasK_iff.2 hk,if_true]
    ·have hkf:k ∈ flatK xs:=List.mem_flatMap.2 ⟨y,e,hk⟩
     have:hasK x.2.2.2.1 k=false:=by
      cases hh:hasK x.2.2.2.1 k with
      | false=>rfl
      | true=>exact absurd rfl (g3 k (hasK_iff.1 hh) k hkf)
     simp only[lockF,this,Bool.false_eq_true,if_false]
     exact ih.2 g2 y e k hk
 have hm:=main xs hr hn
 unfold apartS apartB
 rw[Bool.eq_iff_iff]
 simp only[List.all_eq_true,decide_eq_true_eq]
 exact hm
theorem specApart_eq (xs:List Tx) (h:tls xs):spec_l10Apart.sem (xs,())=some (apartS xs,()):=by
 have ht:=h
 obtain ⟨h1,h2⟩:=h
 refine lift_eq (k:=1048577) fun k hk=>(spec_l10Apart.raw_eq k _).trans ?_
 have inner:∀ (self:((List Tx)×Int)->Option spec_l10Apart.Out) (e0:Unit->Option spec_l10Apart.Out) (i:Nat) (hi:i < xs.length),spec_l10Apart.r1 k self e0 (xs,()) xs (i:Int) (0:Int)=if (xs[i]).2.2.2.1.any (fun y=>!decide (lockF xs y=(xs[i]).1)) then some (false,()) else self (xs,w64 ((i:Int)+1)):=fun self e0 i hi=>by
  have htx:=h2 _ (List.getElem_mem hi)
  have hlk:=htx.2.2.1
  have:=for_loopE (B:=fun self' v=>spec_l10Apart.B1 k self' (fun z=>spec_l10Apart.Q0 k self e0 (xs,()) xs (i:Int) z) (xs,()) xs (i:Int) v) (xs[i]).2.2.2.1 (fun (_:Unit) (j:Int)=>j) (fun _ _ y=>if !decide (lockF xs y=(xs[i]).1) then .inl (some (false,())) else .inr ()) (fun _=>self (xs,w64 ((i:Int)+1))) (fun _ _=>True) (by rw[maxLen_val];omega)
   (fun j hj s self' _=>by
    show spec_l10Apart.b1 _ _ _ _ _ _=_
    unfold spec_l10Apart.b1
    have hlt:(j:Int) < (List.length (xs[i]).2.2.2.1:Int):=by omega
    simp only[Int.natCast_nonneg,if_true,Int.toNat_natCast,List.getElem?_eq_getElem hi,Option.bind_some,hlt,decide_true,cond_true,List.getElem?_eq_getElem hj,specLock_eq xs _ ht]
    cases decide (lockF xs ((xs[i]).2.2.2.1)[j]=(xs[i]).1) <;> rfl)
   (fun _ _ _ _ _ _=>trivial) (fun s self' _=>by
    show spec_l10Apart.b1 _ _ _ _ _ _=_
    unfold spec_l10Apart.b1
    simp only[Int.natCast_nonneg,if_true,Int.toNat_natCast,List.getElem?_eq_getElem hi,Option.bind_some,Int.lt_irrefl,decide_false,cond_false]
    rfl) () trivial k (by omega)
  rw[forI_any] at this
  exact this
 have:=for_loop (B:=fun self v=>spec_l10Apart.B0 k self (fun z=>spec_l10Apart.Q1 k (xs,()) z) (xs,()) v) xs (fun (_:Unit) (i:Int)=>(xs,i)) (fun _ _ x=>if x.2.2.2.1.all (fun y=>decide (lockF xs y=x.1)) then .inr () else .inl (false,())) (fun _=>(true,())) (fun _ _=>True) (by rw[maxLen_val];omega)
  (fun i hi s self _=>by
   show spec_l10Apart.b0 _ _ _ _ _=_
   unfold spec_l10Apart.b0
   have hlt:(i:Int) < (xs.length:Int):=by omega
   simp only[hlt,decide_true,cond_true]
   rw[inner self _ i hi]
   have:(xs[i]).2.2.2.1.any (fun y=>!decide (lockF xs y=(xs[i]).1))=!(xs[i]).2.2.2.1.all (fun y=>decide (lockF xs y=(xs[i]).1)):=by rw[List.not_all_eq_any_not]
   rw[this]
   cases (xs[i]).2.2.2.1.all (fun y=>decide (lockF xs y=(xs[i]).1)) <;> rfl)
  (fun _ _ _ _ _ _=>trivial) (fun s self _=>by
   show spec_l10Apart.b0 _ _ _ _ _=_
   unfold spec_l10Apart.b0
   simp only[Int.lt_irrefl,decide_false,cond_false]
   rfl) () trivial k (by omega)
 rw[forI_check (fun (x:Tx)=>x.2.2.2.1.all (fun y=>decide (lockF xs y=x.1))) (false,()) (fun _=>(true,()))] at this
 refine Eq.trans this ?_
 unfold apartS
 cases xs.all fun x=>x.2.2.2.1.all (fun y=>decide (lockF xs y=x.1)) <;> rfl
def seenM (S:List Key):List (Key×Bool):=S.map fun k=>(k,true)
theorem mapGet_cons {α:Type} (k:Ty) (e:k.den×α) (m:List (k.den×α)) (x:k.den):mapGet k (e::m) x=if k.eq x e.1 then some e.2 else mapGet k m x:=by
 unfold mapGet
 rw[List.find?_cons]
 cases k.eq x e.1 <;> rfl
theorem mapPut_new {α:Type} (k:Ty) (m:List (k.den×α)) (x:k.den) (y:α) (h:∀ e ∈ m,k.eq x e.1=false):mapPut k m x y=m++[(x,y)]:=by
 have:m.findIdx? (fun e=>k.eq x e.1)=none:=by
  rw[List.findIdx?_eq_none_iff]
  intro e he
  exact h e he
 unfold mapPut
 rw[this]
theorem mapGet_seen (S:List Key) (k:Key):mapGet tKey (seenM S) k=if hasK S k then some true else none:=by
 induction S with
 | nil=>rfl
 | cons s S ih=>
  refine (mapGet_cons tKey (s,true) (seenM S) k).trans ?_
  have hk:tKey.eq k (s,true).1=decide (k=s):=kq_eq k s
  rw[hk]
  have hc:hasK (s::S) k=(decide (s=k)||hasK S k):=rfl
  rw[hc]
  by_cases h:k=s
  ·have h2:s=k:=h.symm
   simp[h2]
  ·have h2:¬ s=k:=fun e=>h e.symm
   simp only[h,h2,decide_false,Bool.false_or,Bool.false_eq_true,if_false]
   exact ih
theorem get_seen (S:List Key) (k:Key):orZ (mapGet tKey (seenM S) k) false=hasK S k:=by
 refine Eq.trans (congrArg (fun o=>orZ o false) (mapGet_seen S k)) ?_
 cases hasK S k <;> rfl
theorem put_seen {S:List Key} {k:Key} (h:hasK S k=false):mapPut tKey (seenM S) k true=seenM (S++[k]):=by
 refine (mapPut_new tKey (seenM S) k true fun e he=>?_).trans ?_
 ·obtain ⟨s,hs,rfl⟩:=List.mem_map.1 he
  have hk:tKey.eq k (s,true).1=decide (k=s):=kq_eq k s
  rw[hk]
  simp only[hasK,List.any_eq_false,decide_eq_true_eq] at h
  have:=h s hs
  simp only[decide_eq_false_iff_not]
  exact fun e=>this e.symm
 ·simp only[seenM,List.map_append,List.map_cons,List.map_nil]
  rfl
def getM (m:List (Key×Bool)) (k:Key):Bool:=orZ (mapGet tKey m k) false
def putM (m:List (Key×Bool)) (k:Key):List (Key×Bool):=mapPut tKey m k true
def walkM:List (Key×Bool)->List Key->Option (List (Key×Bool))
 | m,[]=>some m
 | m,k::ks=>if getM m k then none else walkM (putM m k) ks
theorem walk_append:∀ (m:List (Key×Bool)) (a b:List Key),walkM m (a++b)=(walkM m a).bind fun m'=>walkM m' b
 | m,[],b=>rfl
 | m,k::a,b=>by
  simp only[List.cons_append,walkM]
  split
  ·rfl
  ·exact walk_append _ a b
theorem walk_seen:∀ (ks S:List Key),S.Nodup->walkM (seenM S) ks=if (S++ks).Nodup then some (seenM (S++ks)) else none
 | [],S,h=>by simp[walkM,h]
 | k::ks,S,h=>by
  have hg:getM (seenM S) k=hasK S k:=get_seen S k
  simp only[walkM,hg]
  cases hh:hasK S k with
  | true=>
   have:¬ (S++k::ks).Nodup:=fun hn=>by
    rw[List.nodup_append] at hn
    exact hn.2.2 k (hasK_iff.1 hh) k (by simp) rfl
   simp[this]
  | false=>
   have hk:k ∉ S:=fun hm=>by rw[hasK_iff.2 hm] at hh;cases hh
   simp only[Bool.false_eq_true,if_false]
   have hp:putM (seenM S) k=seenM (S++[k]):=put_seen hh
   rw[hp,walk_seen ks (S++[k]) (by rw[List.nodup_append];exact ⟨h,by simp,fun a ha b hb e=>by simp at hb;subst hb;subst e;exact hk ha⟩)]
   simp only[List.append_assoc,List.cons_append,List.nil_append]
theorem forI_walk {O:Type} (bad:Option O) (E:List (Key×Bool)->Option O):∀ (ks:List Key) (i:Nat) (m:List (Key×Bool)),forI (fun _ m k=>if getM m k then .inl bad else .inr (putM m k)) E i ks m=match walkM m ks with | none=>bad | some m'=>E m'
 | [],_,_=>rfl
 | k::ks,i,m=>by
  simp only[forI,walkM]
  by_cases h:getM m k=true
  ·simp[h]
  ·simp only[h,if_false]
   exact forI_walk bad E ks _ _
theorem forI_walks {O:Type} (bad:Option O) (E:Option O):∀ (xs:List Tx) (i:Nat) (m:List (Key×Bool)),forI (fun _ m x=>match walkM m x.2.2.2.1 with | none=>.inl bad | some m'=>.inr m') (fun _=>E) i xs m=match walkM m (flatK xs) with | none=>bad | some _=>E
 | [],_,_=>rfl
 | x::xs,i,m=>by
  have hfl:flatK (x::xs)=x.2.2.2.1++flatK xs:=by simp[flatK]
  rw[hfl,walk_append]
  simp only[forI]
  cases h:walkM m x.2.2.2.1 with
  | none=>rfl
  | some m'=>
   simp only[Option.bind_some]
   exact forI_walks bad E xs _ _
theorem implTxs_eq (xs:List Tx) (h:tls xs):impl_TxsFault.sem (xs,())=some (txsF xs,()):=by
 have ht:=h
 obtain ⟨h1,h2⟩:=h
 refine lift_eq (k:=1048577) fun k hk=>(impl_TxsFault.raw_eq k _).trans ?_
 unfold impl_TxsFault.p txsF
 by_cases h4:4 < xs.length
 ·have:(4:Int) < (xs.length:Int):=by omega
  simp only[this,h4,decide_true,cond_true,if_true]
  (try rfl)
 have h4':¬ (4:Int) < (xs.length:Int):=by omega
 simp only[h4,h4',decide_false,cond_false,if_false]
 have last:impl_TxsFault.Q2 k (xs,()) xs=some (if 12 < cntF xs then 2 else 0,()):=by
  show impl_TxsFault.q2 _ _=_
  unfold impl_TxsFault.q2
  simp only[implCount_eq xs ht,Option.bind_some]
  by_cases hc:12 < cntF xs <;> simp[hc]
 have inner:∀ (self:((List Tx)×(List (Key×Bool))×(List Tx)×Int×Int)->Option impl_TxsFault.Out) (e2:List Tx->Option impl_TxsFault.Out) (i:Nat) (hi:i < xs.length) (m:List (Key×Bool)),impl_TxsFault.r2 k self e2 (xs,()) xs xs (xs.length:Int) (i:Int) (xs[i]).2.2.2.1 (List.length (xs[i]).2.2.2.1:Int) (m,(0:Int))=match walkM m (xs[i]).2.2.2.1 with | none=>some ((7:Int),()) | some m'=>self (xs,m',xs,(xs.length:Int),w64 ((i:Int)+1)):=fun self e2 i hi m=>by
  have hlk:=(h2 _ (List.getElem_mem hi)).2.2.1
  have:=for_loopE (B:=fun self' v=>impl_TxsFault.B2 k self' (fun z=>impl_TxsFault.Q1 k self e2 (xs,()) xs xs (xs.length:Int) (i:Int) (xs[i]).2.2.2.1 (List.length (xs[i]).2.2.2.1:Int) z) (xs,()) xs xs (xs.length:Int) (i:Int) (xs[i]).2.2.2.1 (List.length (xs[i]).2.2.2.1:Int) v) (xs[i]).2.2.2.1 (fun (m:List (Key×Bool)) (j:Int)=>(m,j)) (fun _ m y=>if getM m y then .inl (some ((7:Int),())) else .inr (putM m y)) (fun m=>self (xs,m,xs,(xs.length:Int),w64 ((i:Int)+1))) (fun _ _=>True) (by rw[maxLen_val];omega)
   (fun j hj s self' _=>by
    show impl_TxsFault.b2 _ _ _ _ _ _ _ _ _ _=_
    unfold impl_TxsFault.b2
    have hlt:(j:Int) < (List.length (xs[i]).2.2.2.1:Int):=by omega
    simp only[hlt,decide_true,cond_true,Int.natCast_nonneg,if_true,Int.toNat_natCast,List.getElem?_eq_getElem hj,Option.bind_some]
    show (bif getM s ((xs[i]).2.2.2.1)[j] then some ((7:Int),()) else self' (putM s ((xs[i]).2.2.2.1)[j],w64 ((j:Int)+1)))=_
    cases getM s ((xs[i]).2.2.2.1)[j] <;> rfl)
   (fun _ _ _ _ _ _=>trivial) (fun s self' _=>by
    show impl_TxsFault.b2 _ _ _ _ _ _ _ _ _ _=_
    unfold impl_TxsFault.b2
    simp only[Int.lt_irrefl,decide_false,cond_false]
    rfl) m trivial k (by omega)
  rw[forI_walk] at this
  exact this
 have apart:impl_TxsFault.Q0 k (xs,()) ()=some (if apartB xs then (if 12 < cntF xs then 2 else 0) else 7,()):=by
  have:=for_loopE (B:=fun self v=>impl_TxsFault.B1 k self (fun z=>impl_TxsFault.Q2 k (xs,()) z) (xs,()) v) xs (fun (m:List (Key×Bool)) (i:Int)=>(xs,m,xs,(xs.length:Int),i)) (fun _ m x=>match walkM m x.2.2.2.1 with | none=>.inl (some ((7:Int),())) | some m'=>.inr m') (fun _=>some (if 12 < cntF xs then 2 else 0,())) (fun _ _=>True) (by rw[maxLen_val];omega)
   (fun i hi m self _=>by
    show impl_TxsFault.b1 _ _ _ _ _=_
    unfold impl_TxsFault.b1
    have hlt:(i:Int) < (xs.length:Int):=by omega
    simp only[hlt,decide_true,cond_true,Int.natCast_nonneg,if_true,Int.toNat_natCast,List.getElem?_eq_getElem hi,Option.bind_some]
    rw[inner self _ i hi m]
    cases walkM m (xs[i]).2.2.2.1 <;> rfl)
   (fun _ _ _ _ _ _=>trivial) (fun s self _=>by
    show impl_TxsFault.b1 _ _ _ _ _=_
    unfold impl_TxsFault.b1
    simp only[Int.lt_irrefl,decide_false,cond_false]
    exact last) (seenM []) trivial k (by omega)
  rw[forI_walks,walk_seen _ _ List.nodup_nil] at this
  refine Eq.trans this ?_
  unfold apartB
  simp only[List.nil_append]
  by_cases hn:(flatK xs).Nodup <;> simp[hn]
 have:=for_loopE (B:=fun self v=>impl_TxsFault.B0 k self (fun z=>impl_TxsFault.Q0 k (xs,()) z) (xs,()) v) xs (fun (_:Unit) (i:Int)=>i) (fun i _ x=>if oneC xs i x=0 then .inr () else .inl (some (oneC xs i x,()))) (fun _=>some (if apartB xs then (if 12 < cntF xs then 2 else 0) else 7,())) (fun _ _=>True) (by rw[maxLen_val];omega)
  (fun i hi s self _=>by
   show impl_TxsFault.b0 _ _ _ _=_
   unfold impl_TxsFault.b0 oneC
   have hlt:(i:Int) < (xs.length:Int):=by omega
   simp only[hlt,decide_true,cond_true,Int.natCast_nonneg,if_true,Int.toNat_natCast,List.getElem?_eq_getElem hi,Option.bind_some,isTx_eq,txFault_eq _ (h2 _ (List.getElem_mem hi))]
   show (bif !inB (xs[i]).1 1 99 then _ else _)=_
   cases inB (xs[i]).1 1 99 with
   | false=>rfl
   | true=>
    simp only[Bool.not_true,cond_false,if_true]
    by_cases h0:i=0
    ·subst h0
     have hz:¬ (0:Int) < ((0:Nat):Int):=by omega
     simp only[hz,decide_false,cond_false,Nat.lt_irrefl,if_false]
     by_cases hc:txF xs[0]=0
     ·simp only[hc,decide_true,Bool.not_true,cond_false,if_true]
     ·simp only[hc,decide_false,Bool.not_false,cond_true,if_false]
    ·have hi1:i - 1 < xs.length:=by omega
     have hp:(0:Int) < (i:Int):=by omega
     have hp2:0 < i:=by omega
     simp only[hp,hp2,decide_true,cond_true,wprev (show 0 < i by omega) (by rw[maxLen_val];omega),Int.natCast_nonneg,if_true,Int.toNat_natCast,List.getElem?_eq_getElem hi1,Option.bind_some]
     by_cases hle:(xs[i]).1<=(xs[i - 1]).1
     ·simp only[hle,decide_true,cond_true,if_true]
      rfl
     ·simp only[hle,decide_false,cond_false,if_false]
      by_cases hc:txF xs[i]=0
      ·simp only[hc,decide_true,Bool.not_true,cond_false,if_true]
      ·simp only[hc,decide_false,Bool.not_false,cond_true,if_false])
  (fun _ _ _ _ _ _=>trivial) (fun s self _=>by
   show impl_TxsFault.b0 _ _ _ _=_
   unfold impl_TxsFault.b0
   simp only[Int.lt_irrefl,decide_false,cond_false]
   exact apart) () trivial k (by omega)
 rw[forI_codeE (oneC xs)] at this
 refine Eq.trans this ?_
 unfold eachF
 split <;> rfl
theorem specTxs_eq (xs:List Tx) (h:tls xs):spec_l10Fault.sem (xs,())=some (txsF xs,()):=by
 have ht:=h
 obtain ⟨h1,h2⟩:=h
 refine lift_eq (k:=1048577) fun k hk=>(spec_l10Fault.raw_eq k _).trans ?_
 unfold spec_l10Fault.p txsF
 by_cases h4:4 < xs.length
 ·have:(4:Int) < (xs.length:Int):=by omega
  simp only[this,h4,decide_true,cond_true,if_true]
  (try rfl)
 have h4':¬ (4:Int) < (xs.length:Int):=by omega
 simp only[h4,h4',decide_false,cond_false,if_false]
 have last:spec_l10Fault.Q0 k (xs,()) ()=some (if apartS xs then (if 12 < cntF xs then 2 else 0) else 7,()):=by
  show spec_l10Fault.q0 _ _=_
  unfold spec_l10Fault.q0
  simp only[specApart_eq xs ht,specCount_eq xs ht,Option.bind_some]
  cases apartS xs with
  | false=>rfl
  | true=>by_cases hc:12 < cntF xs <;> simp[hc]
 have:=for_loopE (B:=fun self v=>spec_l10Fault.B0 k self (fun z=>spec_l10Fault.Q0 k (xs,()) z) (xs,()) v) xs (fun (_:Unit) (i:Int)=>i) (fun i _ x=>if oneC xs i x=0 then .inr () else .inl (some (oneC xs i x,()))) (fun _=>some (if apartS xs then (if 12 < cntF xs then 2 else 0) else 7,())) (fun _ _=>True) (by rw[maxLen_val];omega)
  (fun i hi s self _=>by
   show spec_l10Fault.b0 _ _ _ _=_
   unfold spec_l10Fault.b0 oneC
   have hlt:(i:Int) < (xs.length:Int):=by omega
   simp only[hlt,decide_true,cond_true,Int.natCast_nonneg,if_true,Int.toNat_natCast,List.getElem?_eq_getElem hi,Option.bind_some,specIn_eq,specUndo_eq _ (h2 _ (List.getElem_mem hi)),specMarks_eq _ (h2 _ (List.getElem_mem hi))]
   have hj:(bif !decide (undoF xs[i]=0) then some (undoF xs[i],()) else bif !decide (marksF xs[i]=0) then some (marksF xs[i],()) else self (w64 ((i:Int)+1)))=match (generalizing:=false) (if txF xs[i]=0 then .inr () else .inl (some (txF xs[i],())):Sum (Option (Int×Unit)) Unit) with | .inl o=>o | .inr _=>self (w64 ((i:Int)+1)):=by
    unfold txF
    by_cases hu:undoF xs[i]=0
    ·simp only[hu,decide_true,Bool.not_true,cond_false,if_true]
     by_cases hm:marksF xs[i]=0
     ·simp only[hm,decide_true,Bool.not_true,cond_false,if_true]
     ·simp only[hm,decide_false,Bool.not_false,cond_true,if_false]
    ·simp only[hu,decide_false,Bool.not_false,cond_true,if_false]
   show (bif !inB (xs[i]).1 1 99 then _ else _)=_
   cases inB (xs[i]).1 1 99 with
   | false=>rfl
   | true=>
    simp only[Bool.not_true,cond_false,if_true]
    by_cases h0:i=0
    ·subst h0
     have hz:¬ (0:Int) < ((0:Nat):Int):=by omega
     simp only[hz,decide_false,cond_false,Nat.lt_irrefl,if_false]
     refine hj.trans ?_
     by_cases hc:txF xs[0]=0 <;> simp only[hc,if_true,if_false]
    ·have hi1:i - 1 < xs.length:=by omega
     have hp:(0:Int) < (i:Int):=by omega
     have hp2:0 < i:=by omega
     simp only[hp,hp2,decide_true,cond_true,wprev (show 0 < i by omega) (by rw[maxLen_val];omega),Int.natCast_nonneg,if_true,Int.toNat_natCast,List.getElem?_eq_getElem hi1,Option.bind_some]
     by_cases hle:(xs[i]).1<=(xs[i - 1]).1
     ·simp only[hle,decide_true,cond_true,if_true]
      rfl
     ·simp only[hle,decide_false,cond_false,if_false]
      refine hj.trans ?_
      by_cases hc:txF xs[i]=0 <;> simp only[hc,if_true,if_false])
  (fun _ _ _ _ _ _=>trivial) (fun s self _=>by
   show spec_l10Fault.b0 _ _ _ _=_
   unfold spec_l10Fault.b0
   simp only[Int.lt_irrefl,decide_false,cond_false]
   exact last) () trivial k (by omega)
 rw[forI_codeE (oneC xs)] at this
 refine Eq.trans this ?_
 show (if eachF xs=0 then _ else some (eachF xs,()))=_
 by_cases he:eachF xs=0
 ·rw[if_pos he,if_pos he,apart_eq (each_rise he) (fun x hx=>by
   obtain ⟨i,hi,rfl⟩:=List.mem_iff_getElem.1 hx
   exact tx_nodup (one_good (each_good xs he i hi)).2.1)]
 ·rw[if_neg he,if_neg he]
end OT
set_option linter.unusedVariables false
set_option linter.unusedSimpArgs false
namespace OT
open Go
def dd (S:List Key) (ks:List Key):List Key:=ks.foldl (fun S k=>if hasK S k then S else S++[k]) S
def rowKs (rows:List Row):List Key:=rows.map fun r=>(r.1,r.2.1,())
def allKs (rows:List Row) (xs:List Tx):List Key:=rowKs rows++flatK xs
theorem mapPut_some {α:Type} (k:Ty) (m:List (k.den×α)) (x:k.den) (y:α) {i:Nat} (h:m.findIdx? (fun e=>k.eq x e.1)=some i):mapPut k m x y=m.set i (x,y):=by
 unfold mapPut
 rw[h]
theorem putM_same {S:List Key} {k:Key} (h:hasK S k=true):putM (seenM S) k=seenM S:=by
 have key:∀ (S:List Key) (i:Nat),(seenM S).findIdx? (fun e=>Ty.eq tKey k e.1)=some i->(seenM S)[i]?=some (k,true):=by
  intro S i hi
  have h1:=List.findIdx?_eq_some_iff_findIdx_eq.1 hi
  have hlt:i < (seenM S).length:=h1.1
  have h2:(seenM S).findIdx (fun e=>Ty.eq tKey k e.1) < (seenM S).length:=by rw[h1.2];exact hlt
  have h3:=List.findIdx_getElem (xs:=seenM S) (p:=fun e=>Ty.eq tKey k e.1) (w:=h2)
  simp only[h1.2] at h3
  have h4:Ty.eq tKey k (seenM S)[i].1=decide (k=(seenM S)[i].1):=kq_eq k _
  have h3:Ty.eq tKey k (seenM S)[i].1=true:=h3
  rw[h4,decide_eq_true_eq] at h3
  rw[List.getElem?_eq_getElem hlt]
  have h5:(seenM S)[i]=((seenM S)[i].1,true):=by simp[seenM]
  rw[h5,<- h3]
 show mapPut tKey (seenM S) k true=seenM S
 cases hf:(seenM S).findIdx? (fun e=>Ty.eq tKey k e.1) with
 | none=>
  exfalso
  have h1:mapGet tKey (seenM S) k=none:=by
   unfold mapGet
   have h2:=List.findIdx?_eq_none_iff.1 hf
   have:(seenM S).find? (fun e=>Ty.eq tKey k e.1)=none:=List.find?_eq_none.2 fun e he=>by rw[h2 e he];simp
   exact congrArg _ this
  have h2:=mapGet_seen S k
  rw[h] at h2
  exact absurd (h1.symm.trans h2) (by simp)
 | some i=>
  have h1:=key S i hf
  have hlt:=(List.getElem?_eq_some_iff.1 h1).1
  refine (mapPut_some tKey (seenM S) k true hf).trans ?_
  show (seenM S).set i (k,true)=seenM S
  have:(seenM S)[i]=(k,true):=(List.getElem?_eq_some_iff.1 h1).2
  rw[<-this]
  exact List.set_getElem_self hlt
theorem put_step (S:List Key) (k:Key):putM (seenM S) k=seenM (if hasK S k then S else S++[k]):=by
 cases h:hasK S k with
 | true=>simp only[if_true];exact putM_same h
 | false=>simp only[Bool.false_eq_true,if_false];exact put_seen h
theorem puts_dd:∀ (ks S:List Key),ks.foldl putM (seenM S)=seenM (dd S ks)
 | [],S=>rfl
 | k::ks,S=>by
  rw[List.foldl_cons,put_step,puts_dd ks]
  rfl
theorem dd_append (S a b:List Key):dd S (a++b)=dd (dd S a) b:=List.foldl_append
theorem dd_len:∀ (ks S:List Key),S.length<=(dd S ks).length
 | [],S=>Nat.le_refl _
 | x::ks,S=>by
  refine Nat.le_trans ?_ (dd_len ks (if hasK S x then S else S++[x]))
  split
  ·exact Nat.le_refl _
  ·simp
theorem dd_nodup:∀ (ks S:List Key),(S++ks).Nodup->dd S ks=S++ks
 | [],S,_=>by simp[dd]
 | x::ks,S,h=>by
  have hx:hasK S x=false:=by
   cases hh:hasK S x with
   | false=>rfl
   | true=>
    rw[List.nodup_append] at h
    exact absurd rfl (h.2.2 x (hasK_iff.1 hh) x (by simp))
  show dd (if hasK S x then S else S++[x]) ks=_
  rw[hx]
  simp only[Bool.false_eq_true,if_false]
  rw[dd_nodup ks (S++[x]) (by simpa using h)]
  simp
theorem rowKs_nodup {rows:List Row} (h:up rows):(rowKs rows).Nodup:=by
 unfold rowKs
 rw[List.nodup_iff_pairwise_ne,List.pairwise_map]
 refine h.imp fun {a b} hab e=>?_
 have:rk a=rk b:=by
  simp only[Prod.mk.injEq,and_true] at e
  exact Prod.ext e.1 e.2
 rw[this,befB_irr] at hab
 cases hab
theorem rows_room {rows:List Row} {xs:List Tx} (h:up rows):rows.length<=(dd [] (allKs rows xs)).length:=by
 unfold allKs
 rw[dd_append,dd_nodup (rowKs rows) [] (by simpa using rowKs_nodup h)]
 refine Nat.le_trans ?_ (dd_len _ _)
 simp[rowKs]
def newN:List Key->List Key->Nat
 | _,[]=>0
 | S,k::ks=>(if hasK S k then 0 else 1)+newN (S++[k]) ks
theorem newN_dd:∀ (ks S T:List Key),(∀ k,k ∈ S↔k ∈ T)->(dd S ks).length=S.length+newN T ks
 | [],S,T,_=>rfl
 | x::ks,S,T,h=>by
  have hx:hasK S x=hasK T x:=by rw[Bool.eq_iff_iff,hasK_iff,hasK_iff];exact h x
  show (dd (if hasK S x then S else S++[x]) ks).length=_
  simp only[newN,<- hx]
  cases hh:hasK S x with
  | true=>
   simp only[if_true]
   rw[newN_dd ks S (T++[x]) fun k=>?_]
   ·omega
   ·simp only[List.mem_append,List.mem_singleton,<- h k]
    constructor
    ·exact .inl
    ·rintro (h1 | h1)
     ·exact h1
     ·subst h1;exact hasK_iff.1 hh
  | false=>
   simp only[Bool.false_eq_true,if_false]
   rw[newN_dd ks (S++[x]) (T++[x]) fun k=>by simp only[List.mem_append,h k]]
   simp only[List.length_append,List.length_cons,List.length_nil]
   omega
def roomF (rows:List Row) (xs:List Tx):Nat:=(dd [] (allKs rows xs)).length
theorem keysOf_eq (rows:List Row) (xs:List Tx) (hr:rows.length<=1048576) (h:tls xs):impl_keysOf.sem (rows,xs,())=some (seenM (dd [] (allKs rows xs)),()):=by
 obtain ⟨h1,h2⟩:=h
 refine lift_eq (k:=1048577) fun k hk=>(impl_keysOf.raw_eq k _).trans ?_
 have inner:∀ (self:((List (Key×Bool))×(List Tx)×Int×Int)->Option impl_keysOf.Out) (e2:(List (Key×Bool))->Option impl_keysOf.Out) (i:Nat) (hi:i < xs.length) (m:List (Key×Bool)),impl_keysOf.r2 k self e2 (rows,xs,()) xs (xs.length:Int) (i:Int) (xs[i]).2.2.2.1 (List.length (xs[i]).2.2.2.1:Int) (m,(0:Int))=self ((xs[i]).2.2.2.1.foldl putM m,xs,(xs.length:Int),w64 ((i:Int)+1)):=fun self e2 i hi m=>by
  have hlk:=(h2 _ (List.getElem_mem hi)).2.2.1
  have:=for_loopE (B:=fun self' v=>impl_keysOf.B2 k self' (fun z=>impl_keysOf.Q1 k self e2 (rows,xs,()) xs (xs.length:Int) (i:Int) (xs[i]).2.2.2.1 (List.length (xs[i]).2.2.2.1:Int) z) (rows,xs,()) xs (xs.length:Int) (i:Int) (xs[i]).2.2.2.1 (List.length (xs[i]).2.2.2.1:Int) v) (xs[i]).2.2.2.1 (fun (m:List (Key×Bool)) (j:Int)=>(m,j)) (fun _ m y=>.inr (putM m y)) (fun m=>self (m,xs,(xs.length:Int),w64 ((i:Int)+1))) (fun _ _=>True) (by rw[maxLen_val];omega)
   (fun j hj s self' _=>by
    show impl_keysOf.b2 _ _ _ _ _ _ _ _ _=_
    unfold impl_keysOf.b2
    have hlt:(j:Int) < (List.length (xs[i]).2.2.2.1:Int):=by omega
    simp only[hlt,decide_true,cond_true,Int.natCast_nonneg,if_true,Int.toNat_natCast,List.getElem?_eq_getElem hj,Option.bind_some]
    rfl)
   (fun _ _ _ _ _ _=>trivial) (fun s self' _=>by
    show impl_keysOf.b2 _ _ _ _ _ _ _ _ _=_
    unfold impl_keysOf.b2
    simp only[Int.lt_irrefl,decide_false,cond_false]
    rfl) m trivial k (by omega)
  rw[forI_fold (g:=putM)] at this
  exact this
 have second:∀ m,impl_keysOf.r1 k (rows,xs,()) (m,xs,(xs.length:Int),(0:Int))=some ((flatK xs).foldl putM m,()):=fun m=>by
  have:=for_loop (B:=fun self v=>impl_keysOf.B1 k self (fun z=>impl_keysOf.Q2 k (rows,xs,()) z) (rows,xs,()) v) xs (fun (m:List (Key×Bool)) (i:Int)=>(m,xs,(xs.length:Int),i)) (fun _ m x=>.inr (x.2.2.2.1.foldl putM m)) (fun m=>(m,())) (fun _ _=>True) (by rw[maxLen_val];omega)
   (fun i hi m self _=>by
    show impl_keysOf.b1 _ _ _ _ _=_
    unfold impl_keysOf.b1
    have hlt:(i:Int) < (xs.length:Int):=by omega
    simp only[hlt,decide_true,cond_true,Int.natCast_nonneg,if_true,Int.toNat_natCast,List.getElem?_eq_getElem hi,Option.bind_some]
    exact inner self _ i hi m)
   (fun _ _ _ _ _ _=>trivial) (fun s self _=>by
    show impl_keysOf.b1 _ _ _ _ _=_
    unfold impl_keysOf.b1
    simp only[Int.lt_irrefl,decide_false,cond_false]
    rfl) m trivial k (by omega)
  rw[forI_fold (g:=fun m (x:Tx)=>x.2.2.2.1.foldl putM m)] at this
  refine Eq.trans this ?_
  have:∀ (xs:List Tx) (m:List (Key×Bool)),xs.foldl (fun m (x:Tx)=>x.2.2.2.1.foldl putM m) m=(flatK xs).foldl putM m:=by
   intro xs
   induction xs with
   | nil=>intro m;rfl
   | cons x xs ih=>intro m;rw[List.foldl_cons,ih];simp[flatK,List.foldl_append]
  rw[this]
 have:=for_loopE (B:=fun self v=>impl_keysOf.B0 k self (fun z=>impl_keysOf.Q0 k (rows,xs,()) z) (rows,xs,()) v) rows (fun (m:List (Key×Bool)) (i:Int)=>(m,i)) (fun _ m r=>.inr (putM m (r.1,r.2.1,()))) (fun m=>some ((flatK xs).foldl putM m,())) (fun _ _=>True) (by rw[maxLen_val];omega)
  (fun i hi m self _=>by
   show impl_keysOf.b0 _ _ _ _=_
   unfold impl_keysOf.b0
   have hlt:(i:Int) < (rows.length:Int):=by omega
   simp only[hlt,decide_true,cond_true,Int.natCast_nonneg,if_true,Int.toNat_natCast,List.getElem?_eq_getElem hi,Option.bind_some]
   rfl)
  (fun _ _ _ _ _ _=>trivial) (fun s self _=>by
   show impl_keysOf.b0 _ _ _ _=_
   unfold impl_keysOf.b0
   simp only[Int.lt_irrefl,decide_false,cond_false]
   exact second s) (seenM []) trivial k (by omega)
 rw[forI_fold (g:=fun m (r:Row)=>putM m (r.1,r.2.1,()))] at this
 refine Eq.trans this ?_
 have e1:rows.foldl (fun m (r:Row)=>putM m (r.1,r.2.1,())) (seenM [])=(rowKs rows).foldl putM (seenM []):=by unfold rowKs;rw[List.foldl_map]
 rw[e1,<- List.foldl_append]
 exact congrArg (fun m=>some (m,())) (puts_dd (allKs rows xs) [])
theorem forI_firsts {O:Type} (x:Key) (E:Bool->Option O):∀ (ys:List Key) (j:Nat) (b:Bool),forI (fun _ b y=>if b then .inr (!decide (y=x)) else .inl (E false)) E j ys b=if b then E (!hasK ys x) else E false
 | [],_,b=>by cases b <;> rfl
 | y::ys,j,b=>by
  cases b with
  | false=>simp[forI]
  | true=>
   simp only[forI,if_true]
   rw[forI_firsts x E ys]
   have:hasK (y::ys) x=(decide (y=x)||hasK ys x):=rfl
   rw[this]
   cases decide (y=x) <;> simp
theorem forI_new {O:Type} (all:List Key) (E:Int->O):∀ (ys pre:List Key) (n:Int),all=pre++ys->forI (fun i n x=>.inr (if hasK (all.take i) x then n else n+1)) E pre.length ys n=E (n+(newN pre ys:Int))
 | [],pre,n,_=>by simp[forI,newN]
 | y::ys,pre,n,h=>by
  simp only[forI]
  have ht:all.take pre.length=pre:=by rw[h];simp
  rw[ht]
  have:=forI_new all E ys (pre++[y]) (if hasK pre y then n else n+1) (by rw[h];simp)
  rw[List.length_append] at this
  refine Eq.trans this ?_
  congr 1
  simp only[newN]
  cases hasK pre y <;> simp <;> omega
def exK (k:Key):List Key:=if k.2.1=0 then [] else [k]
def roomK (rows:List Row) (xs:List Tx) (k:Key):Nat:=(dd [] (allKs rows xs++exK k)).length
theorem specRoomK_eq (rows:List Row) (xs:List Tx) (kk:Key) (hr:rows.length<=1048576) (hx:xs.length<=1000) (h:∀ x ∈ xs,List.length x.2.2.2.1<=1000):spec_l10Room.sem (rows,xs,kk,())=some ((roomK rows xs kk:Int),()):=by
 refine lift_eq (k:=3000000) fun k hk=>(spec_l10Room.raw_eq k _).trans ?_
 have hfl:(flatK xs).length<=1000*xs.length:=by
  clear hx
  induction xs with
  | nil=>simp[flatK]
  | cons x xs ih=>
   have h1:=h x (by simp)
   have h2:=ih fun y hy=>h y (by simp[hy])
   have:flatK (x::xs)=x.2.2.2.1++flatK xs:=by simp[flatK]
   rw[this,List.length_append,List.length_cons]
   omega
 have third:∀ all:List Key,all.length<=2100000->spec_l10Room.r2 k (rows,xs,kk,()) (all,(0:Int),(0:Int))=some ((newN [] all:Int),()):=fun all hall=>by
  have inner:∀ (self:((List Key)×Int×Int)->Option spec_l10Room.Out) (e4:Int->Option spec_l10Room.Out) (i:Nat) (hi:i < all.length) (n:Int),spec_l10Room.r3 k self e4 (rows,xs,kk,()) all n (i:Int) (true,(0:Int))=if hasK (all.take i) all[i] then self (all,n,w64 ((i:Int)+1)) else self (all,w64 (n+1),w64 ((i:Int)+1)):=fun self e4 i hi n=>by
   have hti:(all.take i).length=i:=by simp;omega
   have:=for_loopE (B:=fun self' v=>spec_l10Room.B3 k self' (fun z=>spec_l10Room.Q2 k self e4 (rows,xs,kk,()) all n (i:Int) z) (rows,xs,kk,()) all n (i:Int) v) (all.take i) (fun (b:Bool) (j:Int)=>(b,j)) (fun _ b y=>if b then .inr (!decide (y=all[i])) else .inl (if false then self (all,w64 (n+1),w64 ((i:Int)+1)) else self (all,n,w64 ((i:Int)+1)))) (fun b=>if b then self (all,w64 (n+1),w64 ((i:Int)+1)) else self (all,n,w64 ((i:Int)+1))) (fun _ _=>True) (by rw[maxLen_val];omega)
    (fun j hj b self' _=>by
     show spec_l10Room.b3 _ _ _ _ _ _ _=_
     unfold spec_l10Room.b3
     rw[hti] at hj
     have hlt:(j:Int) < (i:Int):=by omega
     have hjl:j < all.length:=by omega
     have c1:(0:Int)<=(j:Int)/\(j:Int) < (all.length:Int):=by omega
     have c2:(0:Int)<=(i:Int)/\(i:Int) < (all.length:Int):=by omega
     simp only[hlt,c1,c2,and_self,decide_true,cond_true,if_true,Int.toNat_natCast,List.getElem?_eq_getElem hjl,List.getElem?_eq_getElem hi,Option.bind_some,kq_eq,List.getElem_take]
     cases b <;> rfl)
    (fun _ _ _ _ _ _=>trivial) (fun b self' _=>by
     show spec_l10Room.b3 _ _ _ _ _ _ _=_
     unfold spec_l10Room.b3
     simp only[hti,Int.lt_irrefl,decide_false,cond_false]
     cases b <;> rfl) true trivial k (by omega)
   have e:=forI_firsts all[i] (fun b=>if b then self (all,w64 (n+1),w64 ((i:Int)+1)) else self (all,n,w64 ((i:Int)+1))) (all.take i) 0 true
   refine (Eq.trans this e).trans ?_
   cases hasK (all.take i) all[i] <;> rfl
  have:=for_loop (B:=fun self v=>spec_l10Room.B2 k self (fun z=>spec_l10Room.Q3 k (rows,xs,kk,()) z) (rows,xs,kk,()) v) all (fun (n:Int) (i:Int)=>(all,n,i)) (fun i n x=>.inr (if hasK (all.take i) x then n else n+1)) (fun n=>(n,())) (fun i n=>0<=n/\n<=(i:Int)) (by rw[maxLen_val];omega)
   (fun i hi n self hI=>by
    show spec_l10Room.b2 _ _ _ _ _=_
    unfold spec_l10Room.b2
    have hlt:(i:Int) < (all.length:Int):=by omega
    simp only[hlt,decide_true,cond_true]
    rw[inner self _ i hi n,w64_in (n:=n+1) (by omega)]
    cases hasK (all.take i) all[i] <;> rfl)
   (fun i hi n n' hI hs=>by
    injection hs with hs
    rw[<-hs]
    split <;> omega) (fun s self _=>by
    show spec_l10Room.b2 _ _ _ _ _=_
    unfold spec_l10Room.b2
    simp only[Int.lt_irrefl,decide_false,cond_false]
    rfl) 0 (by omega) k (by omega)
  have e:=forI_new all (fun n=>(n,())) all [] 0 rfl
  refine (Eq.trans this (congrArg some e)).trans ?_
  rw[Int.zero_add]
 have second:spec_l10Room.r1 k (rows,xs,kk,()) (rowKs rows,(0:Int))=some ((newN [] (allKs rows xs++exK kk):Int),()):=by
  have hrl:(rowKs rows).length=rows.length:=by simp[rowKs]
  have:=for_loopE (B:=fun self v=>spec_l10Room.B1 k self (fun z=>spec_l10Room.Q1 k (rows,xs,kk,()) z) (rows,xs,kk,()) v) xs (fun (s:List Key) (i:Int)=>(s,i)) (fun _ s x=>.inr (s++x.2.2.2.1)) (fun s=>spec_l10Room.r2 k (rows,xs,kk,()) (s++exK kk,(0:Int),(0:Int))) (fun i s=>s.length<=1048576+1000*i) (by rw[maxLen_val];omega)
   (fun i hi s self hI=>by
    show spec_l10Room.b1 _ _ _ _=_
    unfold spec_l10Room.b1
    have hlt:(i:Int) < (xs.length:Int):=by omega
    have hlk:=h _ (List.getElem_mem hi)
    have hc:s.length+List.length (xs[i]).2.2.2.1<=CAP:=cap_ok (by omega)
    simp only[hlt,decide_true,cond_true,Int.natCast_nonneg,if_true,Int.toNat_natCast,List.getElem?_eq_getElem hi,Option.bind_some,hc])
   (fun i hi s s' hI hs=>by
    injection hs with hs
    have hlk:=h _ (List.getElem_mem hi)
    rw[<-hs,List.length_append];omega) (fun s self hI=>by
    show spec_l10Room.b1 _ _ _ _=_
    unfold spec_l10Room.b1
    simp only[Int.lt_irrefl,decide_false,cond_false]
    show spec_l10Room.q1 _ _ _=_
    unfold spec_l10Room.q1 exK
    have hc:s.length+[kk].length<=CAP:=cap_ok (by simp only[List.length_cons,List.length_nil];omega)
    by_cases h0:kk.2.1=0
    ·simp only[h0,decide_true,Bool.not_true,cond_false,if_true,List.append_nil]
    ·simp only[h0,decide_false,Bool.not_false,cond_true,if_false,hc,if_true]) (rowKs rows) (by omega) k (by omega)
  rw[forI_fold (g:=fun s (x:Tx)=>s++x.2.2.2.1)] at this
  refine Eq.trans this ?_
  have e:∀ (xs:List Tx) (s:List Key),xs.foldl (fun s (x:Tx)=>s++x.2.2.2.1) s=s++flatK xs:=by
   intro xs
   induction xs with
   | nil=>intro s;simp[flatK]
   | cons x xs ih=>intro s;rw[List.foldl_cons,ih];simp[flatK]
  rw[e]
  have hex:(exK kk).length<=1:=by unfold exK;split <;> simp
  exact third _ (by rw[List.length_append,List.length_append,hrl];omega)
 have:=for_loopE (B:=fun self v=>spec_l10Room.B0 k self (fun z=>spec_l10Room.Q0 k (rows,xs,kk,()) z) (rows,xs,kk,()) v) rows (fun (s:List Key) (i:Int)=>(s,i)) (fun _ s r=>.inr (s++[(r.1,r.2.1,())])) (fun s=>spec_l10Room.r1 k (rows,xs,kk,()) (s,(0:Int))) (fun i s=>s.length=i) (by rw[maxLen_val];omega)
  (fun i hi s self hI=>by
   show spec_l10Room.b0 _ _ _ _=_
   unfold spec_l10Room.b0
   have hlt:(i:Int) < (rows.length:Int):=by omega
   have hc:s.length+[((rows[i]).1,(rows[i]).2.1,())].length<=CAP:=cap_ok (by simp only[List.length_cons,List.length_nil];omega)
   simp only[hlt,decide_true,cond_true,Int.natCast_nonneg,if_true,Int.toNat_natCast,List.getElem?_eq_getElem hi,Option.bind_some]
   rw[if_pos hc])
  (fun i hi s s' hI hs=>by injection hs with hs;rw[<-hs];simp[hI]) (fun s self _=>by
   show spec_l10Room.b0 _ _ _ _=_
   unfold spec_l10Room.b0
   simp only[Int.lt_irrefl,decide_false,cond_false]
   rfl) [] rfl k (by omega)
 rw[forI_fold (g:=fun s (r:Row)=>s++[(r.1,r.2.1,())])] at this
 have e:∀ (rows:List Row) (s:List Key),rows.foldl (fun s (r:Row)=>s++[(r.1,r.2.1,())]) s=s++rowKs rows:=by
  intro rows
  induction rows with
  | nil=>intro s;simp[rowKs]
  | cons r rows ih=>intro s;rw[List.foldl_cons,ih];simp[rowKs]
 rw[e,List.nil_append,second] at this
 refine Eq.trans this ?_
 have:=newN_dd (allKs rows xs++exK kk) [] [] (fun _=>Iff.rfl)
 simp only[List.length_nil,Nat.zero_add] at this
 unfold roomK
 rw[this]
theorem specRoom_eq (rows:List Row) (xs:List Tx) (hr:rows.length<=1048576) (hx:xs.length<=1000) (h:∀ x ∈ xs,List.length x.2.2.2.1<=1000):spec_l10Room.sem (rows,xs,((0:Int),(0:Int),()),())=some ((roomF rows xs:Int),()):=by
 rw[specRoomK_eq rows xs _ hr hx h]
 unfold roomK exK
 simp only[if_true,List.append_nil]
 rfl
theorem locks_key {ks:List Key} (h:locksL ks=0):∀ k ∈ ks,keyB2 k=true:=by
 have main:∀ (ys:List Key) (j:Nat),(forI (fun i (_:Unit) k=>if lockC ks i k=0 then .inr () else .inl (lockC ks i k)) (fun _=>(0:Int)) j ys ())=0->∀ y ∈ ys,keyB2 y=true:=by
  intro ys
  induction ys with
  | nil=>intro j _ y hy;cases hy
  | cons y ys ih=>
   intro j hf z hz
   simp only[forI] at hf
   by_cases h0:lockC ks j y=0
   ·rw[if_pos h0] at hf
    rcases List.mem_cons.1 hz with rfl | hz
    ·unfold lockC at h0
     split at h0
     ·assumption
     ·cases h0
    ·exact ih (j+1) hf z hz
   ·rw[if_neg h0] at hf
    exact absurd hf h0
 exact main ks 0 h
structure TxsOk (xs:List Tx):Prop where
 len:xs.length<=4
 ch:∀ x ∈ xs,∀ c ∈ (x.2.1:List Change),chF c=0
 locks:∀ x ∈ xs,List.length x.2.2.2.1<=12
 undo:∀ x ∈ xs,List.length x.2.1<=12
 keys:∀ x ∈ xs,∀ k ∈ (x.2.2.2.1:List Key),keyB2 k=true
theorem firstF_zero {α:Type} {c:α->Int}:∀ {xs:List α},firstF c xs=0->∀ x ∈ xs,c x=0
 | [],_,_,h=>by cases h
 | y::ys,h,x,hx=>by
  simp only[firstF] at h
  split at h
  ·rcases List.mem_cons.1 hx with e | e
   ·subst e;assumption
   ·exact firstF_zero h x e
  ·rename_i hn;exact absurd h hn
theorem cnt_mem:∀ (xs:List Tx) (n:Int),0<=n->n<=xs.foldl (fun n x=>n+(List.length x.2.1:Int)) n/\∀ x ∈ xs,(List.length x.2.1:Int)<=xs.foldl (fun n x=>n+(List.length x.2.1:Int)) n
 | [],n,h=>⟨Int.le_refl _,fun x hx=>by cases hx⟩
 | y::ys,n,h=>by
  obtain ⟨h1,h2⟩:=cnt_mem ys (n+(List.length y.2.1:Int)) (by omega)
  simp only[List.foldl_cons]
  refine ⟨by omega,fun x hx=>?_⟩
  rcases List.mem_cons.1 hx with e | e
  ·subst e;omega
  ·exact h2 x e
theorem txs_ok {xs:List Tx} (h:txsF xs=0):TxsOk xs:=by
 unfold txsF at h
 split at h
 ·cases h
 ·rename_i hl
  split at h
  ·rename_i he
   split at h
   ·split at h
    ·cases h
    ·rename_i hc
     have each:∀ x ∈ xs,txF x=0:=fun x hx=>by
      obtain ⟨i,hi,rfl⟩:=List.mem_iff_getElem.1 hx
      exact (one_good (each_good xs he i hi)).2.1
     refine ⟨by omega,fun x hx c hcm=>?_,fun x hx=>?_,fun x hx=>?_,fun x hx=>?_⟩
     ·have h1:=each x hx
      unfold txF at h1
      split at h1
      ·rename_i hu
       have h2:=firstF_zero hu c hcm
       unfold undoC at h2
       split at h2
       ·rename_i hs
        unfold chS at hs
        split at hs
        ·assumption
        ·rename_i hn;exact absurd hs hn
       ·rename_i hn;exact absurd h2 hn
      ·rename_i hn;exact absurd h1 hn
     ·have h1:=each x hx
      unfold txF at h1
      split at h1
      ·unfold marksF at h1
       split at h1
       ·cases h1
       ·rename_i hm
        simp only[Bool.or_eq_true,decide_eq_true_eq,not_or] at hm
        omega
      ·rename_i hn;exact absurd h1 hn
     ·have:=(cnt_mem xs 0 (Int.le_refl _)).2 x hx
      unfold cntF at hc
      omega
     ·have h1:=each x hx
      unfold txF at h1
      split at h1
      ·unfold marksF at h1
       split at h1
       ·cases h1
       ·split at h1
        ·exact locks_key h1
        ·cases h1
      ·rename_i hn;exact absurd h1 hn
   ·cases h
  ·rename_i hn;exact absurd h hn
end OT
set_option linter.unusedVariables false
set_option linter.unusedSimpArgs false
namespace OT
open Go
def invC (c:Change):Change:=(c.2.2.1,c.2.2.2.1,c.1,c.2.1,())
def invF (cs:List Change):List Change:=cs.reverse.map invC
theorem inv_len (cs:List Change):(invF cs).length=cs.length:=by simp[invF]
theorem inv_mem {cs:List Change} {c:Change} (h:c ∈ invF cs):∃ d ∈ cs,c=invC d:=by
 unfold invF at h
 obtain ⟨d,h1,h2⟩:=List.mem_map.1 h
 exact ⟨d,List.mem_reverse.1 h1,h2.symm⟩
theorem sameKey_comm (a b:Row):sameKey a b=sameKey b a:=by
 rw[sameKey_rk,sameKey_rk]
 by_cases h:rk a=rk b
 ·simp[h]
 ·have:¬ rk b=rk a:=fun e=>h e.symm
  simp[h,this]
theorem chF_inv {c:Change} (h:chF c=0):chF (invC c)=0:=by
 obtain ⟨a,ra,b,rb,⟨⟩⟩:=c
 unfold chF at h ⊢
 simp only[invC]
 have hk:=sameKey_comm ra rb
 cases a <;> cases b
 ·exact h
 ·simp at h ⊢
  by_cases hr:rowF rb=0
  ·exact fun _=>hr
  ·simp[hr] at h
 ·simp at h ⊢
  by_cases hr:rowF ra=0
  ·exact hr
  ·simp[hr] at h
 ·simp only[hk] at h
  by_cases hs:sameKey rb ra=true
  ·by_cases hr:rowF ra=0
   ·by_cases hb:rowF rb=0
    ·simp[hs,hr,hb] at h ⊢
     try omega
    ·simp[hs,hr,hb] at h ⊢
   ·by_cases hb:rowF rb=0
    ·simp[hs,hr,hb] at h ⊢
    ·simp[hs,hr,hb] at h ⊢
  ·simp[hs] at h
theorem inverse_loop (cs:List Change) (hl:cs.length<=1048576) {O:Type} {B:((List Change×Int)->Option O)->(List Change×Int)->Option O} {E:List Change->Option O}
  (hin:∀ (m:Nat) (hm:m < cs.length) acc self,acc.length<=1048576->B self (acc,(m:Int))=self (acc++[invC cs[m]],w64 ((m:Int) - 1))) (hout:∀ acc self,B self (acc,(-1:Int))=E acc) :
  ∀ k,cs.length < k->rawIter B k ([],w64 ((cs.length:Int) - 1))=E (invF cs):=by
 have main:∀ (m:Nat) (acc:List Change),m<=cs.length->acc.length+m<=cs.length->∀ k,m < k->rawIter B k (acc,(m:Int) - 1)=E (acc++(cs.take m).reverse.map invC):=by
  intro m
  induction m with
  | zero=>
   intro acc _ _ k hk
   cases k with
   | zero=>omega
   | succ k=>
    show B (rawIter B k) _=_
    have:((0:Nat):Int) - 1=-1:=by omega
    rw[this,hout]
    simp
  | succ m ih=>
   intro acc hm ha k hk
   cases k with
   | zero=>omega
   | succ k=>
    show B (rawIter B k) _=_
    have e:((m+1:Nat):Int) - 1=(m:Int):=by omega
    rw[e,hin m (by omega) acc _ (by omega),w64_in (by omega),ih _ (by omega) (by simp;omega) k (by omega),List.take_succ_eq_append_getElem (by omega),List.reverse_append,List.map_append,List.append_assoc]
    rfl
 intro k hk
 have:=main cs.length [] (Nat.le_refl _) (by simp) k hk
 rw[w64_in (by omega)]
 simpa [invF] using this
theorem specInv_eq (cs:List Change) (hl:cs.length<=1048576):spec_l10Inverse.sem (cs,())=some (invF cs,()):=by
 refine lift_eq (k:=cs.length+1) fun k hk=>(spec_l10Inverse.raw_eq k _).trans ?_
 refine inverse_loop cs hl (B:=fun self v=>spec_l10Inverse.B0 0 self (fun z=>spec_l10Inverse.Q0 0 (cs,()) z) (cs,()) v) (E:=fun z=>some (z,())) (fun m hm acc self ha=>?_) (fun acc self=>?_) k (by omega)
 ·show spec_l10Inverse.b0 _ _ _ _=_
  unfold spec_l10Inverse.b0
  have hc:acc.length+[invC cs[m]].length<=CAP:=cap_ok (by simp only[List.length_cons,List.length_nil];omega)
  simp only[Int.natCast_nonneg,decide_true,cond_true,if_true,Int.toNat_natCast,List.getElem?_eq_getElem hm,Option.bind_some]
  exact if_pos hc
 ·show spec_l10Inverse.b0 _ _ _ _=_
  unfold spec_l10Inverse.b0
  rfl
theorem implInv_eq (cs:List Change) (hl:cs.length<=1048576):impl_inverse.sem (cs,())=some (invF cs,()):=by
 refine lift_eq (k:=cs.length+1) fun k hk=>(impl_inverse.raw_eq k _).trans ?_
 refine inverse_loop cs hl (B:=fun self v=>impl_inverse.B0 0 self (fun z=>impl_inverse.Q0 0 (cs,()) z) (cs,()) v) (E:=fun z=>some (z,())) (fun m hm acc self ha=>?_) (fun acc self=>?_) k (by omega)
 ·show impl_inverse.b0 _ _ _ _=_
  unfold impl_inverse.b0
  have hc:acc.length+[invC cs[m]].length<=CAP:=cap_ok (by simp only[List.length_cons,List.length_nil];omega)
  simp only[Int.natCast_nonneg,decide_true,cond_true,if_true,Int.toNat_natCast,List.getElem?_eq_getElem hm,Option.bind_some]
  exact if_pos hc
 ·show impl_inverse.b0 _ _ _ _=_
  unfold impl_inverse.b0
  rfl
def backL:List Row->List Change->Option (List Row)
 | s,[]=>some s
 | s,c::cs=>if fits1 s c then backL (done1 s c) cs else none
theorem back_append:∀ (a b:List Change) (s:List Row),backL s (a++b)=(backL s a).bind fun t=>backL t b
 | [],b,s=>rfl
 | c::a,b,s=>by
  simp only[List.cons_append,backL]
  split
  ·exact back_append a b _
  ·rfl
theorem forI_back {O:Type} (bad:O) (fin:List Row->O):∀ (cs:List Change) (i:Nat) (s:List Row),forI (fun _ s c=>if fits1 s c then .inr (done1 s c) else .inl bad) fin i cs s=match backL s cs with | some t=>fin t | none=>bad
 | [],_,_=>rfl
 | c::cs,i,s=>by
  simp only[forI,backL]
  by_cases h:fits1 s c=true
  ·simp only[h,if_true];exact forI_back bad fin cs _ _
  ·simp[h]
theorem back_good:∀ (cs:List Change) (s t:List Row),Good s->(∀ c ∈ cs,chF c=0)->backL s cs=some t->Good t/\t.length<=s.length+cs.length
 | [],s,t,h,_,hb=>by injection hb with hb;subst hb;exact ⟨h,by simp⟩
 | c::cs,s,t,h,hc,hb=>by
  simp only[backL] at hb
  split at hb
  ·have h1:=back_good cs (done1 s c) t (good_done h (hc c (by simp))) (fun d hd=>hc d (by simp[hd])) hb
   have h2:=done_len s c
   exact ⟨h1.1,by simp only[List.length_cons];omega⟩
  ·cases hb
theorem forI_inr {O α:Type} {f:Nat->Unit->α->Sum O Unit} {fin:Unit->O}:∀ (xs:List α) (j:Nat),(∀ i (hi:i < xs.length),f (j+i) () xs[i]=.inr ())->forI f fin j xs ()=fin ()
 | [],_,_=>rfl
 | x::xs,j,h=>by
  have h0:=h 0 (by simp)
  simp only[Nat.add_zero,List.getElem_cons_zero] at h0
  simp only[forI,h0]
  exact forI_inr xs (j+1) fun i hi=>by
   have:=h (i+1) (by simp;omega)
   rw[show j+1+i=j+(i+1) by omega]
   simpa using this
theorem good_rowsF {xs:List Row} (h:Good xs) (hl:xs.length<=60):rowsF xs=0:=by
 unfold rowsF
 rw[if_neg (by omega),forI_inr xs 0 fun i hi=>?_]
 unfold rowsStep
 rw[if_pos (h.ok _ (List.getElem_mem hi)),Nat.zero_add]
 by_cases h0:0 < i
 ·rw[if_pos h0,List.getElem?_eq_getElem (show i - 1 < xs.length by omega)]
  have hu:=h.up
  unfold up at hu
  rw[List.pairwise_iff_getElem] at hu
  have:=hu (i - 1) i (by omega) hi (by omega)
  simp only[this,if_true]
 ·rw[if_neg h0]
theorem apply_back {s:List Row} {cs:List Change} (h:Good s) (hc:∀ c ∈ cs,chF c=0) (hl:s.length+cs.length<=60):applyF s cs=match backL s cs with | some t=>((0:Int),t,()) | none=>((8:Int),([]:List Row),()):=by
 unfold applyF
 rw[if_pos (good_rowsF h (by omega))]
 have main:∀ (cs:List Change) (s:List Row) (i:Nat),Good s->(∀ c ∈ cs,chF c=0)->s.length+cs.length<=60->(forI applyStep applyFin i cs s).1=match backL s cs with | some t=>((0:Int),t,()) | none=>((8:Int),([]:List Row),()):=by
  intro cs
  induction cs with
  | nil=>
   intro s i h _ hl
   simp only[forI,applyFin,backL]
   rw[if_neg (by simp at hl;omega)]
  | cons c cs ih=>
   intro s i h hc hl
   simp only[forI,applyStep,backL,hc c (by simp),if_true]
   by_cases hf:fits1 s c=true
   ·simp only[hf,if_true]
    have:=done_len s c
    exact ih _ _ (good_done h (hc c (by simp))) (fun d hd=>hc d (by simp[hd])) (by simp at hl;omega)
   ·simp[hf]
 exact main cs s 0 h hc hl
def backs (xs:List Tx):List Change:=xs.flatMap fun x=>invF x.2.1
theorem forI_backs {O:Type} (bad:O) (fin:List Row->O):∀ (xs:List Tx) (i:Nat) (s:List Row),forI (fun _ s x=>match backL s (invF x.2.1) with | some t=>.inr t | none=>.inl bad) fin i xs s=match backL s (backs xs) with | some t=>fin t | none=>bad
 | [],_,_=>rfl
 | x::xs,i,s=>by
  have hb:backs (x::xs)=invF x.2.1++backs xs:=by simp[backs]
  rw[hb,back_append]
  simp only[forI]
  cases backL s (invF x.2.1) with
  | none=>rfl
  | some t=>simp only[Option.bind_some];exact forI_backs bad fin xs _ _
theorem inv_ch {cs:List Change} (h:∀ c ∈ cs,chF c=0):∀ c ∈ invF cs,chF c=0:=fun c hc=>by
 obtain ⟨d,h1,rfl⟩:=inv_mem hc
 exact chF_inv (h d h1)
theorem inv_cl {cs:List Change} (h:∀ c ∈ cs,cl c):∀ c ∈ invF cs,cl c:=fun c hc=>by
 obtain ⟨d,h1,rfl⟩:=inv_mem hc
 exact ⟨(h d h1).2,(h d h1).1⟩
theorem good_rl {s:List Row} (h:Good s):∀ x ∈ s,rl x:=fun x hx=>by
 have:=rowF_text (h.ok x hx)
 unfold rl
 rw[maxLen_val]
 omega
theorem specUndoL_eq (s:List Row) (cs:List Change) (h:Good s) (hc:∀ c ∈ cs,chF c=0) (hl:s.length+cs.length<=1000):spec_l11Undo.sem (s,cs,())=some (match backL s (invF cs) with | some t=>(t,true,()) | none=>(([]:List Row),false,())):=by
 refine lift_eq (k:=1001) fun k hk=>(spec_l11Undo.raw_eq k _).trans ?_
 unfold spec_l11Undo.p
 rw[specInv_eq cs (by omega)]
 simp only[Option.bind_some]
 have hlen:=inv_len cs
 have hch:=inv_ch hc
 have:=for_loop (B:=fun self v=>spec_l11Undo.B0 0 self (fun z=>spec_l11Undo.Q0 0 (s,cs,()) (invF cs) z) (s,cs,()) (invF cs) v) (invF cs) (fun (s:List Row) (i:Int)=>(s,i)) (fun _ s c=>if fits1 s c then .inr (done1 s c) else .inl (([]:List Row),false,())) (fun s=>(s,true,())) (fun i t=>Good t/\t.length<=s.length+i) (by rw[maxLen_val];omega)
  (fun i hi t self hI=>by
   show spec_l11Undo.b0 _ _ _ _ _=_
   unfold spec_l11Undo.b0
   have hlt:(i:Int) < ((invF cs).length:Int):=by omega
   have hin:(0:Int)<=(i:Int)/\(i:Int) < ((invF cs).length:Int):=by omega
   simp only[hlt,hin,and_self,decide_true,cond_true,if_true,Int.toNat_natCast,List.getElem?_eq_getElem hi,Option.bind_some]
   rw[specDo_eq t _ hI.1.up (by omega) (chF_key (hch _ (List.getElem_mem hi))).1]
   cases fits1 t (invF cs)[i] <;> rfl)
  (fun i hi t t' hI hs=>by
   split at hs
   ·injection hs with hs
    subst hs
    have:=done_len t (invF cs)[i]
    exact ⟨good_done hI.1 (hch _ (List.getElem_mem hi)),by omega⟩
   ·cases hs) (fun t self _=>by
   show spec_l11Undo.b0 _ _ _ _ _=_
   unfold spec_l11Undo.b0
   simp only[Int.lt_irrefl,decide_false,cond_false]
   rfl) s ⟨h,by omega⟩ k (by omega)
 rw[forI_back] at this
 refine Eq.trans this ?_
 cases backL s (invF cs) <;> rfl
theorem specBack_eq (rows:List Row) (xs:List Tx) (h:Good rows) (hl:rows.length<=12) (hx:TxsOk xs):spec_l11Back.sem (rows,xs,())=some (match backL rows (backs xs) with | some t=>(t,true,()) | none=>(([]:List Row),false,())):=by
 refine lift_eq (k:=10) fun k hk=>(spec_l11Back.raw_eq k _).trans ?_
 unfold spec_l11Back.p
 have hc:([]:List Row).length+rows.length<=CAP:=cap_ok (by simp only[List.length_nil];omega)
 rw[if_pos hc,List.nil_append]
 have hx4:=hx.len
 have:=for_loop (B:=fun self v=>spec_l11Back.B0 0 self (fun z=>spec_l11Back.Q0 0 (rows,xs,()) z) (rows,xs,()) v) xs (fun (s:List Row) (i:Int)=>(s,i)) (fun _ s x=>match backL s (invF x.2.1) with | some t=>.inr t | none=>.inl (([]:List Row),false,())) (fun s=>(s,true,())) (fun i t=>Good t/\t.length<=12+12*i) (by rw[maxLen_val];omega)
  (fun i hi t self hI=>by
   show spec_l11Back.b0 _ _ _ _=_
   unfold spec_l11Back.b0
   have hlt:(i:Int) < (xs.length:Int):=by omega
   have hu:=hx.undo _ (List.getElem_mem hi)
   simp only[hlt,decide_true,cond_true,Int.natCast_nonneg,if_true,Int.toNat_natCast,List.getElem?_eq_getElem hi,Option.bind_some]
   rw[specUndoL_eq t _ hI.1 (hx.ch _ (List.getElem_mem hi)) (by omega)]
   cases backL t (invF (xs[i]).2.1) <;> rfl)
  (fun i hi t t' hI hs=>by
   have hu:=hx.undo _ (List.getElem_mem hi)
   cases hb:backL t (invF (xs[i]).2.1) with
   | none=>rw[hb] at hs;cases hs
   | some q=>
    rw[hb] at hs
    injection hs with hs
    subst hs
    have:=back_good _ _ _ hI.1 (inv_ch (hx.ch _ (List.getElem_mem hi))) hb
    rw[inv_len] at this
    exact ⟨this.1,by omega⟩) (fun t self _=>by
   show spec_l11Back.b0 _ _ _ _=_
   unfold spec_l11Back.b0
   simp only[Int.lt_irrefl,decide_false,cond_false]
   rfl) rows ⟨h,by omega⟩ k (by omega)
 rw[forI_backs] at this
 refine Eq.trans this ?_
 cases backL rows (backs xs) <;> rfl
theorem committed_eq (rows:List Row) (xs:List Tx) (h:Good rows) (hl:rows.length<=12) (hx:TxsOk xs) (ht:tls xs):impl_committed.sem (rows,xs,())=some (match backL rows (backs xs) with | some t=>(t,(0:Int),()) | none=>(([]:List Row),(8:Int),())):=by
 refine lift_eq (k:=10) fun k hk=>(impl_committed.raw_eq k _).trans ?_
 unfold impl_committed.p
 have hx4:=hx.len
 have:=for_loop (B:=fun self v=>impl_committed.B0 0 self (fun z=>impl_committed.Q0 0 (rows,xs,()) z) (rows,xs,()) v) xs (fun (s:List Row) (i:Int)=>(s,i)) (fun _ s x=>match backL s (invF x.2.1) with | some t=>.inr t | none=>.inl (([]:List Row),(8:Int),())) (fun s=>(s,(0:Int),())) (fun i t=>Good t/\t.length<=12+12*i) (by rw[maxLen_val];omega)
  (fun i hi t self hI=>by
   show impl_committed.b0 _ _ _ _=_
   unfold impl_committed.b0
   have hlt:(i:Int) < (xs.length:Int):=by omega
   have hu:=hx.undo _ (List.getElem_mem hi)
   have hch:=inv_ch (hx.ch _ (List.getElem_mem hi))
   have htl:=ht.2 _ (List.getElem_mem hi)
   simp only[hlt,decide_true,cond_true,Int.natCast_nonneg,if_true,Int.toNat_natCast,List.getElem?_eq_getElem hi,Option.bind_some]
   rw[implInv_eq _ htl.1]
   simp only[Option.bind_some]
   have hil:=inv_len (xs[i]).2.1
   rw[implApply_eq t _ (by rw[maxLen_val];omega) (good_rl hI.1) (by omega) (inv_cl htl.2.2.2),apply_back hI.1 hch (by omega)]
   cases backL t (invF (xs[i]).2.1) <;> rfl)
  (fun i hi t t' hI hs=>by
   have hu:=hx.undo _ (List.getElem_mem hi)
   cases hb:backL t (invF (xs[i]).2.1) with
   | none=>rw[hb] at hs;cases hs
   | some q=>
    rw[hb] at hs
    injection hs with hs
    subst hs
    have:=back_good _ _ _ hI.1 (inv_ch (hx.ch _ (List.getElem_mem hi))) hb
    rw[inv_len] at this
    exact ⟨this.1,by omega⟩) (fun t self hI=>by
   show impl_committed.b0 _ _ _ _=_
   unfold impl_committed.b0
   simp only[Int.lt_irrefl,decide_false,cond_false,impl_committed.Q0,impl_committed.q0]
   rw[cloneRow_eq t (by omega)]
   rfl) rows ⟨h,by omega⟩ k (by omega)
 rw[forI_backs] at this
 refine Eq.trans this ?_
 cases backL rows (backs xs) <;> rfl
def nextB (n:Int) (xs:List Tx):Bool:=match xs[xs.length - 1]? with
 | some x=>decide (n<=x.1)
 | none=>false
def plainF (p:Plain):Int:=
 if rowsF p.1=0 then
  if txsF p.2.1=0 then
   if inB p.2.2.1 1 100&&!nextB p.2.2.1 p.2.1 then
    if 12 < roomF p.1 p.2.1 then 2 else (match backL p.1 (backs p.2.1) with | some _=>0 | none=>8)
   else 3
  else txsF p.2.1
 else rowsF p.1
def okP (p:Plain):Prop:=List.length p.1<=1048576/\(∀ x ∈ (p.1:List Row),rl x)/\tls p.2.1
theorem last_eq {O:Type} (n:Int) (xs:List Tx) (hl:xs.length<=1048576) (bad j:Option O) :
  (bif decide ((0:Int) < (xs.length:Int)) then (if 0<=w64 ((xs.length:Int) - (1:Int)) then ((xs[(w64 ((xs.length:Int) - (1:Int))).toNat]?).bind fun x5=>bif decide (n<=x5.1) then bad else j) else none) else j)=if nextB n xs then bad else j:=by
 unfold nextB
 by_cases h:0 < xs.length
 ·have h1:(0:Int) < (xs.length:Int):=by omega
  have h2:w64 ((xs.length:Int) - 1)=((xs.length - 1:Nat):Int):=by rw[w64_in (by omega)];omega
  have h3:xs.length - 1 < xs.length:=by omega
  simp only[h1,h2,decide_true,cond_true,Int.natCast_nonneg,if_true,Int.toNat_natCast,List.getElem?_eq_getElem h3,Option.bind_some]
  cases decide (n<=(xs[xs.length - 1]).1) <;> rfl
 ·have h0:xs=[]:=List.eq_nil_of_length_eq_zero (by omega)
  subst h0
  rfl
theorem implPlain_eq (p:Plain) (h:okP p):impl_PlainFault.sem (p,())=some (plainF p,()):=by
 obtain ⟨rows,xs,n,⟨⟩⟩:=p
 obtain ⟨h1,h2,h3⟩:=h
 simp only at h1 h2 h3
 refine lift_eq (k:=0) fun k _=>(impl_PlainFault.raw_eq k _).trans ?_
 show impl_PlainFault.p _=_
 unfold impl_PlainFault.p plainF
 simp only[implRows_eq rows (by rw[maxLen_val];omega) h2,implTxs_eq xs h3,implIn_eq,keysOf_eq rows xs h1 h3,Option.bind_some]
 by_cases hr:rowsF rows=0
 rotate_left
 ·simp only[hr,decide_false,Bool.not_false,cond_true,if_false]
 by_cases ht:txsF xs=0
 rotate_left
 ·simp only[hr,ht,decide_true,decide_false,Bool.not_true,Bool.not_false,cond_true,cond_false,if_true,if_false]
 obtain ⟨hg,_⟩:=rowsF_good hr
 have hok:=txs_ok ht
 simp only[hr,ht,decide_true,Bool.not_true,cond_false,if_true]
 have hin:(decide ((1:Int)<=n)&&decide (n<=100))=inB n 1 100:=rfl
 rw[hin]
 cases inB n 1 100 with
 | false=>rfl
 | true=>
  simp only[Bool.not_true,cond_false,Bool.true_and]
  rw[last_eq n xs h3.1]
  cases nextB n xs with
  | true=>rfl
  | false=>
   simp only[Bool.not_false,Bool.false_eq_true,if_false,if_true]
   have hlen:(seenM (dd [] (allKs rows xs))).length=roomF rows xs:=by simp[seenM,roomF]
   by_cases hroom:12 < roomF rows xs
   ·have:(12:Int) < ((seenM (dd [] (allKs rows xs))).length:Int):=by rw[hlen];omega
    simp only[this,hroom,decide_true,cond_true,if_true]
   ·have:¬ (12:Int) < ((seenM (dd [] (allKs rows xs))).length:Int):=by rw[hlen];omega
    have hrl:rows.length<=12:=by
     have:=rows_room (xs:=xs) hg.up
     unfold roomF at hroom
     omega
    simp only[this,hroom,decide_false,cond_false,if_false,committed_eq rows xs hg hrl hok h3,Option.bind_some]
    cases backL rows (backs xs) <;> rfl
theorem specFault_eq (p:Plain) (h:okP p):spec_l11Fault.sem (p,())=some (plainF p,()):=by
 obtain ⟨rows,xs,n,⟨⟩⟩:=p
 obtain ⟨h1,h2,h3⟩:=h
 simp only at h1 h2 h3
 refine lift_eq (k:=0) fun k _=>(spec_l11Fault.raw_eq k _).trans ?_
 show spec_l11Fault.p _=_
 unfold spec_l11Fault.p plainF
 simp only[specRows_eq rows (by rw[maxLen_val];omega) h2,specTxs_eq xs h3,specIn_eq,Option.bind_some]
 by_cases hr:rowsF rows=0
 rotate_left
 ·simp only[hr,decide_false,Bool.not_false,cond_true,if_false]
 by_cases ht:txsF xs=0
 rotate_left
 ·simp only[hr,ht,decide_true,decide_false,Bool.not_true,Bool.not_false,cond_true,cond_false,if_true,if_false]
 obtain ⟨hg,_⟩:=rowsF_good hr
 have hok:=txs_ok ht
 have hroomE:=specRoom_eq rows xs h1 (by have:=hok.len;omega) (fun x hx=>by have:=hok.locks x hx;omega)
 simp only[hr,ht,decide_true,Bool.not_true,cond_false,if_true,hroomE,Option.bind_some]
 have hin:(decide ((1:Int)<=n)&&decide (n<=100))=inB n 1 100:=rfl
 rw[hin]
 cases inB n 1 100 with
 | false=>rfl
 | true=>
  simp only[Bool.not_true,cond_false,Bool.true_and]
  rw[last_eq n xs h3.1]
  cases nextB n xs with
  | true=>rfl
  | false=>
   simp only[Bool.not_false,Bool.false_eq_true,if_false,if_true]
   by_cases hroom:12 < roomF rows xs
   ·have:(12:Int) < (roomF rows xs:Int):=by omega
    simp only[this,hroom,decide_true,cond_true,if_true]
   ·have:¬ (12:Int) < (roomF rows xs:Int):=by omega
    have hrl:rows.length<=12:=by
     have:=rows_room (xs:=xs) hg.up
     unfold roomF at hroom
     omega
    simp only[this,hroom,decide_false,cond_false,if_false,specBack_eq rows xs hg hrl hok,Option.bind_some]
    cases backL rows (backs xs) <;> rfl
theorem plain_ok {p:Plain} (hv:okD tPlain p) (hz:zz tPlain p<=1048576):okP p:=by
 obtain ⟨rows,xs,n,⟨⟩⟩:=p
 obtain ⟨hr,hx,_⟩:=hv
 replace hz:zz (.slc tRow) rows+(zz (.slc tTx) xs+(0+0))<=1048576:=hz
 refine ⟨Nat.le_trans (zz_len (e:=tRow) rows) (by omega),fun x hm=>rl_ok (hr.2 x hm),Nat.le_trans (zz_len (e:=tTx) xs) (by omega),fun x hm=>?_⟩
 have h1:zz tTx x+1<=zz (.slc tTx) xs:=zz_mem (e:=tTx) hm
 have h2:zz tTx x=0+(zz (.slc tChange) x.2.1+(zz (.slc i64) x.2.2.1+(zz (.slc tKey) x.2.2.2.1+0))):=rfl
 have h3:List.length x.2.1<=zz (.slc tChange) x.2.1:=zz_len (e:=tChange) x.2.1
 have h4:List.length x.2.2.1<=zz (.slc i64) x.2.2.1:=zz_len (e:=i64) x.2.2.1
 have h5:List.length x.2.2.2.1<=zz (.slc tKey) x.2.2.2.1:=zz_len (e:=tKey) x.2.2.2.1
 exact ⟨by omega,by omega,by omega,fun c hc=>cl_ok ((hx.2 x hm).2.1.2 c hc)⟩
end OT
set_option linter.unusedVariables false
set_option linter.unusedSimpArgs false
namespace OT
open Go
end OT
set_option linter.unusedVariables false
set_option linter.unusedSimpArgs false
set_option linter.unusedSectionVars false
namespace OT
open Go
theorem at8_app {a b:List UInt8} {i:Nat} (h:i < a.length):at8 (a++b) i=at8 a i:=by
 unfold at8
 simp only[List.getD_eq_getElem?_getD]
 rw[List.getElem?_append_left h]
theorem readF_app {a b:List UInt8} {q:Record×Nat} (h:readF a=some q):readF (a++b)=some q:=by
 have h0:=h
 unfold readF at h
 split at h
 ·cases h
 ·rename_i hc
  have l0:7<=a.length:=by omega
  have l1:at8 a 0<=a.length:=by omega
  unfold readF
  have e0:at8 (a++b) 0=at8 a 0:=at8_app (by omega)
  have e1:at8 (a++b) 1=at8 a 1:=at8_app (by omega)
  have e2:at8 (a++b) 2=at8 a 2:=at8_app (by omega)
  have e3:at8 (a++b) 3=at8 a 3:=at8_app (by omega)
  have e4:at8 (a++b) 4=at8 a 4:=at8_app (by omega)
  rw[e0,e1,e2,e3,e4,List.take_append_of_le_length l1,if_neg (by rw[List.length_append];omega)]
  exact h
theorem readAll_app (b:List UInt8):∀ (k:Nat) (a:List UInt8),a.length < k->(readAllF k a).2=a.length->readAllF (k+b.length) (a++b)=((readAllF k a).1++(allF b).1,a.length+(allF b).2)
 | 0,_,h,_=>by omega
 | k+1,a,hk,h=>by
  cases hr:readF a with
  | none=>
   simp only[readAllF,hr] at h
   have:a=[]:=List.eq_nil_of_length_eq_zero h.symm
   subst this
   rw[List.nil_append,readAllF_fuel (k+1+b.length) (b.length+1) b (by omega) (by omega)]
   simp[readAllF,hr,allF]
  | some q=>
   obtain ⟨r,n⟩:=q
   have hn:=readF_n hr
   have hd:(a.drop n).length=a.length - n:=List.length_drop
   simp only[readAllF,hr] at h
   have ih:=readAll_app b k (a.drop n) (by omega) (by omega)
   have e:k+1+b.length=(k+b.length)+1:=by omega
   rw[e]
   simp only[readAllF,hr,readF_app hr,List.drop_append_of_le_length hn.2.1,ih,List.cons_append]
   rw[hd]
   congr 1
   omega
theorem whole_app {a b:List UInt8} (h:wholeB a=true):allF (a++b)=((allF a).1++(allF b).1,a.length+(allF b).2):=by
 have:=readAll_app b (a.length+1) a (by omega) (of_decide_eq_true h)
 unfold allF
 rw[List.length_append,readAllF_fuel (a.length+b.length+1) (a.length+1+b.length) _ (by rw[List.length_append];omega) (by rw[List.length_append];omega)]
 exact this
def recsF (l:Log):List Record:=(allF l.1).1++(allF l.2.1).1
theorem readAllF_cnt:∀ (k:Nat) (d:List UInt8),(readAllF k d).1.length<=d.length
 | 0,d=>Nat.zero_le _
 | k+1,d=>by
  simp only[readAllF]
  cases hr:readF d with
  | none=>exact Nat.zero_le _
  | some q=>
   obtain ⟨r,n⟩:=q
   have hn:=readF_n hr
   have hd:(d.drop n).length=d.length - n:=List.length_drop
   have:=readAllF_cnt k (d.drop n)
   simp only[List.length_cons]
   omega
theorem log_whole {l:Log} (h:logF l=0):List.length l.1+List.length l.2.1<=16000/\wholeB l.1=true/\wholeB l.2.1=true:=by
 unfold logF at h
 split at h
 ·cases h
 ·split at h
  ·rename_i a b
   rw[Bool.and_eq_true] at b
   exact ⟨by omega,b.1,b.2⟩
  ·cases h
theorem recs_len {l:Log} (h:logF l=0):(recsF l).length<=16000:=by
 have h1:=log_whole h
 unfold recsF
 rw[List.length_append]
 have a:=readAllF_cnt (List.length l.1+1) l.1
 have b:=readAllF_cnt (List.length l.2.1+1) l.2.1
 unfold allF
 omega
theorem implRecs_eq {l:Log} (h:logF l=0):impl_Log_records.sem (l,())=some (recsF l,()):=by
 have h1:=log_whole h
 have h2:=recs_len h
 refine lift_eq (k:=0) fun k _=>(impl_Log_records.raw_eq k _).trans ?_
 unfold impl_Log_records.p
 simp only[implAll_eq l.1 (by omega),implAll_eq l.2.1 (by omega),Option.bind_some]
 rw[if_pos (cap_ok (by unfold recsF at h2;rw[List.length_append] at h2;omega))]
 rfl
theorem copy2_eq (d:List UInt8) (hd:d.length<=1048576):spec_l2Copy.sem (d,())=some (d,()):=specCopy_eq d (by omega)
theorem specRecs_eq {l:Log} (h:logF l=0):spec_l12Records.sem (l,())=some (recsF l,()):=by
 have h1:=log_whole h
 refine lift_eq (k:=0) fun k _=>(spec_l12Records.raw_eq k _).trans ?_
 unfold spec_l12Records.p
 simp only[copy2_eq l.1 (by omega),Option.bind_some]
 rw[if_pos (cap_ok (by omega)),specAll_eq _ (by rw[List.length_append];omega)]
 rw[whole_app h1.2.1]
 rfl
theorem allB_dec {α:Type} [DecidableEq α]:∀ {a b:List α},a.length=b.length->allB (fun x y=>decide (x=y)) a b=decide (a=b)
 | [],[],_=>by simp[allB]
 | x::a,y::b,h=>by
  have ih:=allB_dec (a:=a) (b:=b) (by simpa using h)
  unfold allB at ih ⊢
  simp only[List.zip_cons_cons,List.all_cons,ih]
  by_cases h1:x=y <;> by_cases h2:a=b <;> simp[h1,h2]
 | [],_::_,h=>by cases h
 | _::_,[],h=>by cases h
theorem specSame_eq (a b:List (List UInt8)) (hl:a.length<=1000):spec_l12Same.sem (a,b,())=some (decide (a=b),()):=by
 refine lift_eq (k:=1002) fun k hk=>(spec_l12Same.raw_eq k _).trans ?_
 unfold spec_l12Same.p
 by_cases hlen:a.length=b.length
 rotate_left
 ·have e1:¬ ((a.length:Int)=(b.length:Int)):=by omega
  have e2:¬ a=b:=fun h=>hlen (by rw[h])
  simp only[e1,e2,decide_false,Bool.not_false,cond_true]
 have e1:((a.length:Int)=(b.length:Int)):=by omega
 simp only[e1,decide_true,Bool.not_true,cond_false]
 have:=all_loop (B:=fun self v=>spec_l12Same.B0 k self (fun z=>spec_l12Same.Q0 k (a,b,()) z) (a,b,()) v) (xs:=a) (ys:=b) (fun x y=>decide (x=y)) hlen (by rw[maxLen_val];omega)
  (fun i hx hy self=>by
   show spec_l12Same.b0 _ _ _ _=_
   unfold spec_l12Same.b0
   have hlt:(i:Int) < (a.length:Int):=by omega
   simp only[hlt,decide_true,cond_true,Int.natCast_nonneg,if_true,Int.toNat_natCast,List.getElem?_eq_getElem hx,List.getElem?_eq_getElem hy,Option.bind_some]
   by_cases h:a[i]=b[i] <;> simp[h]) (fun self=>by
   show spec_l12Same.b0 _ _ _ _=_
   unfold spec_l12Same.b0
   rw[decide_eq_false (Int.lt_irrefl _),cond_false]
   rfl) k (by omega)
 refine this.trans ?_
 rw[allB_dec hlen]
theorem implSame_eq (a b:List (List UInt8)) (hl:a.length<=1000) (ha:∀ x ∈ a,x.length<=100000):impl_samePages.sem (a,b,())=some (decide (a=b),()):=by
 refine lift_eq (k:=0) fun k _=>(impl_samePages.raw_eq k _).trans ?_
 unfold impl_samePages.p
 have:∀ f:Nat×Int,slices_EqualFunc_bytes.sem (a,b,f,())=some (decide (a=b),()):=fun f=>by
  refine lift_eq (k:=1002) fun k hk=>(slices_EqualFunc_bytes.raw_eq k _).trans ?_
  unfold slices_EqualFunc_bytes.p
  by_cases hlen:a.length=b.length
  rotate_left
  ·have e1:¬ ((a.length:Int)=(b.length:Int)):=by omega
   have e2:¬ a=b:=fun h=>hlen (by rw[h])
   simp only[e1,e2,decide_false,Bool.not_false,cond_true]
  have e1:((a.length:Int)=(b.length:Int)):=by omega
  simp only[e1,decide_true,Bool.not_true,cond_false]
  have:=all_loop (B:=fun self v=>slices_EqualFunc_bytes.B0 k self (fun z=>slices_EqualFunc_bytes.Q0 k (a,b,f,()) z) (a,b,f,()) v) (xs:=a) (ys:=b) (fun x y=>decide (x=y)) hlen (by rw[maxLen_val];omega)
   (fun i hx hy self=>by
    show slices_EqualFunc_bytes.b0 _ _ _ _=_
    unfold slices_EqualFunc_bytes.b0
    have hlt:(i:Int) < (a.length:Int):=by omega
    simp only[hlt,decide_true,cond_true,Int.natCast_nonneg,if_true,Int.toNat_natCast,List.getElem?_eq_getElem hx,List.getElem?_eq_getElem hy,Option.bind_some,equal_eq _ _ (ha _ (List.getElem_mem hx))]
    by_cases h:a[i]=b[i] <;> simp[h]) (fun self=>by
    show slices_EqualFunc_bytes.b0 _ _ _ _=_
    unfold slices_EqualFunc_bytes.b0
    rw[decide_eq_false (Int.lt_irrefl _),cond_false]
    rfl) k (by omega)
  refine this.trans ?_
  rw[allB_dec hlen]
 rw[this]
 rfl
theorem storeRows_eq {s:Store} (h:viewC s.2.1=0):impl_Store_rows.sem (s,())=some (rowsV s.2.1,()):=by
 have hr:=view_right h
 refine lift_eq (k:=0) fun k _=>(impl_Store_rows.raw_eq k _).trans ?_
 unfold impl_Store_rows.p
 rw[implView_eq s.2.1 (fun p hp=>by rw[(hr.1.2 p hp).len,maxLen_val];omega)]
 simp only[Option.bind_some]
 rw[seenRows_eq _ (by have:=viewL_len (view_ok h);omega)]
 rfl
theorem rl_cellF {d:List UInt8} (h:d.length<=64):List.length (cellF d).1.2.2.2.2.1.2.2.2.1<=64:=by
 unfold cellF
 split
 ·exact Nat.zero_le _
 ·split
  ·exact Nat.zero_le _
  ·show (d.drop 6).length<=64
   rw[List.length_drop]
   omega
theorem cellP_le {p:List UInt8} (s:Nat) (h:p.length<=64):(cellP p s).length<=64:=by
 unfold cellP
 rw[List.length_take,List.length_drop]
 omega
theorem rl_cellG {ps:Pgs} (h:rightP ps) (a b:Int):List.length (cellG ps a b).1.2.2.2.2.1.2.2.2.1<=64:=by
 unfold cellG
 cases hp:ps[a.toNat]? with
 | none=>exact Nat.zero_le _
 | some p=>
  have hm:=h.2 p (List.mem_of_getElem? hp)
  simp only
  split
  ·exact rl_cellF (cellP_le _ (by rw[hm.len];omega))
  ·exact Nat.zero_le _
theorem rt_rows {ps:Pgs} (h:viewC ps=0):∀ r ∈ rowsV ps,List.length r.2.2.2.1<=64:=fun r hr=>by
 have hv:=view_right h
 rw[rowsV_eq (view_ok h),(sortR_perm _).mem_iff,List.mem_map] at hr
 obtain ⟨x,hx,rfl⟩:=hr
 unfold seenF at hx
 rw[List.mem_flatMap] at hx
 obtain ⟨y,hy,hx⟩:=hx
 unfold seenX at hx
 split at hx
 ·cases hx
 ·rw[List.mem_singleton] at hx
  subst hx
  unfold seen1
  split
  ·exact rl_cellG hv.1 _ _
  ·obtain ⟨P,p,t,h1,h2,h3,rfl⟩:=spot_mem.1 hy
   exact rl_cellF (cellP_le _ (by rw[(hv.1.2 p (List.mem_of_getElem? h1)).len];omega))
theorem rl_rows {ps:Pgs} (h:viewC ps=0):∀ r ∈ rowsV ps,rl r:=fun r hr=>by
 have:=rt_rows h r hr
 unfold rl
 rw[maxLen_val]
 omega
theorem rows_len {ps:Pgs} (h:viewC ps=0):(rowsV ps).length<=192:=by
 unfold rowsV
 rw[List.length_map]
 exact viewL_len (view_ok h)
def okS (s:Store):Prop:=okL s.2.2.1/\(∀ p ∈ (s.2.1:Pgs),p.length<=maxLen)/\tls s.2.2.2.1
theorem okP_of {s:Store} (h:okS s) (hv:viewC s.2.1=0):okP (rowsV s.2.1,s.2.2.2.1,s.2.2.2.2.1,()):=
 ⟨by have:=rows_len hv;show (rowsV s.2.1).length<=1048576;omega,rl_rows hv,h.2.2⟩
def downF (s:Store):Int:=if decide (0 < List.length s.2.1)||(decide (0 < List.length s.2.2.2.1)||decide (0 < List.length s.2.2.1.2.1)) then 1 else if inB s.2.2.2.2.1 1 100 then 0 else 3
def upF (s:Store):Int:=if viewC s.2.1=0 then
        if plainF (rowsV s.2.1,s.2.2.2.1,s.2.2.2.2.1,())=0 then
         if (redoF (recsF s.2.2.1)).2.1=0/\(redoF (recsF s.2.2.1)).1=s.2.1 then 0 else 8
        else plainF (rowsV s.2.1,s.2.2.2.1,s.2.2.2.2.1,())
   else viewC s.2.1
def storeF (s:Store):Int:=if logF s.2.2.1=0 then (bif s.1 then upF s else downF s) else logF s.2.2.1
theorem down_eq (s:Store) (A:Option (Bool×Unit)) (h:A=some (inB s.2.2.2.2.1 1 100,())) :
  (bif decide ((0:Int) < (List.length s.2.1:Int)) then (some ((1:Int),())) else bif decide ((0:Int) < (List.length s.2.2.2.1:Int)) then (some ((1:Int),())) else bif decide ((0:Int) < (List.length s.2.2.1.2.1:Int)) then (some ((1:Int),())) else A.bind fun r3=>bif !r3.1 then (some ((3:Int),())) else some ((0:Int),()))=some (downF s,()):=by
 have e:∀ n:Nat,decide ((0:Int) < (n:Int))=decide (0 < n):=fun n=>by rw[decide_eq_decide];omega
 rw[h,e,e,e]
 unfold downF
 cases decide (0 < List.length s.2.1) <;> cases decide (0 < List.length s.2.2.2.1) <;> cases decide (0 < List.length s.2.2.1.2.1) <;> try rfl
 simp only[Option.bind_some]
 cases inB s.2.2.2.2.1 1 100 <;> rfl
theorem implStore_eq {s:Store} (h:okS s):impl_StoreFault.sem (s,())=some (storeF s,()):=by
 refine lift_eq (k:=0) fun k _=>(impl_StoreFault.raw_eq k _).trans ?_
 unfold impl_StoreFault.p storeF
 simp only[implLog_eq _ h.1,Option.bind_some]
 by_cases h0:logF s.2.2.1=0
 rotate_left
 ·simp only[h0,decide_false,Bool.not_false,cond_true,if_false]
 simp only[h0,decide_true,Bool.not_true,cond_false,if_true]
 cases hu:s.1 with
 | false=>exact down_eq s _ (implIn_eq _ _ _)
 | true=>
  simp only[Bool.not_true,cond_false,cond_true]
  unfold upF
  rw[implView_eq s.2.1 h.2.1]
  simp only[Option.bind_some]
  by_cases h1:viewC s.2.1=0
  rotate_left
  ·simp only[h1,decide_false,Bool.not_false,cond_true,if_false]
  simp only[h1,decide_true,Bool.not_true,cond_false,if_true]
  rw[seenRows_eq _ (by have:=viewL_len (view_ok h1);omega)]
  simp only[Option.bind_some]
  have hp:=implPlain_eq _ (okP_of h h1)
  unfold rowsV at hp ⊢
  rw[hp]
  simp only[Option.bind_some]
  generalize plainF ((viewL s.2.1).map (·.1),s.2.2.2.1,s.2.2.2.2.1,())=c
  by_cases h2:c=0
  rotate_left
  ·simp only[h2,decide_false,Bool.not_false,cond_true,if_false]
  simp only[h2,decide_true,Bool.not_true,cond_false,if_true,implRecs_eq h0,Option.bind_some,implRedo_eq _ (show (recsF s.2.2.1).length<=maxLen by have:=recs_len h0;rw[maxLen_val];omega)]
  by_cases h3:(redoF (recsF s.2.2.1)).2.1=0
  rotate_left
  ·simp only[h3,decide_false,Bool.not_false,cond_true,false_and,if_false]
  have hg:=redoF_good _ h3
  simp only[h3,decide_true,Bool.not_true,cond_false,true_and,implSame_eq _ s.2.1 (show List.length (redoF (recsF s.2.2.1)).1<=1000 by have:=hg.1;omega) (fun x hx=>by have:=hg.2 x hx;omega),Option.bind_some]
  by_cases h4:(redoF (recsF s.2.2.1)).1=s.2.1
  ·simp only[h4,decide_true,Bool.not_true,cond_false,if_true]
  ·simp only[h4,decide_false,Bool.not_false,cond_true,if_false]
theorem specStoreIn_eq {s:Store} (h:okS s):spec_l12Fault.sem (s,())=some (storeF s,()):=by
 refine lift_eq (k:=0) fun k _=>(spec_l12Fault.raw_eq k _).trans ?_
 unfold spec_l12Fault.p storeF
 simp only[specLog_eq _ h.1,Option.bind_some]
 by_cases h0:logF s.2.2.1=0
 rotate_left
 ·simp only[h0,decide_false,Bool.not_false,cond_true,if_false]
 simp only[h0,decide_true,Bool.not_true,cond_false,if_true]
 cases hu:s.1 with
 | false=>exact down_eq s _ (specIn_eq _ _ _)
 | true=>
  simp only[Bool.not_true,cond_false,cond_true]
  unfold upF
  rw[specView_eq s.2.1 h.2.1]
  simp only[Option.bind_some]
  by_cases h1:viewC s.2.1=0
  rotate_left
  ·simp only[h1,decide_false,Bool.not_false,cond_true,if_false]
  simp only[h1,decide_true,Bool.not_true,cond_false,if_true]
  rw[specRowsIn_eq h1]
  simp only[Option.bind_some]
  rw[specFault_eq _ (okP_of h h1)]
  simp only[Option.bind_some]
  generalize plainF (rowsV s.2.1,s.2.2.2.1,s.2.2.2.2.1,())=c
  by_cases h2:c=0
  rotate_left
  ·simp only[h2,decide_false,Bool.not_false,cond_true,if_false]
  simp only[h2,decide_true,Bool.not_true,cond_false,if_true,specRecs_eq h0,Option.bind_some,specRedo_eq _ (show (recsF s.2.2.1).length<=maxLen by have:=recs_len h0;rw[maxLen_val];omega)]
  by_cases h3:(redoF (recsF s.2.2.1)).2.1=0
  rotate_left
  ·simp only[h3,decide_false,Bool.not_false,cond_true,false_and,if_false]
  have hg:=redoF_good _ h3
  simp only[h3,decide_true,Bool.not_true,cond_false,true_and,specSame_eq _ s.2.1 (show List.length (redoF (recsF s.2.2.1)).1<=1000 by have:=hg.1;omega),Option.bind_some]
  by_cases h4:(redoF (recsF s.2.2.1)).1=s.2.1
  ·simp only[h4,decide_true,Bool.not_true,cond_false,if_true]
  ·simp only[h4,decide_false,Bool.not_false,cond_true,if_false]
end OT
set_option linter.unusedVariables false
set_option linter.unusedSimpArgs false
set_option linter.unusedSectionVars false
namespace OT
open Go
theorem store_ok {s:Store} (hv:okD tStore s) (hz:zz tStore s<=1048576):okS s:=by
 obtain ⟨u,ps,l,xs,n,⟨⟩⟩:=s
 obtain ⟨h1,h2,h3,h4,h5,_⟩:=hv
 replace hz:0+(zz (.slc (.slc u8)) ps+(zz tLog l+(zz (.slc tTx) xs+(0+0))))<=1048576:=hz
 have hzl:zz tLog l=zz (.slc u8) l.1+(zz (.slc u8) l.2.1+0):=rfl
 have hl1:List.length l.1<=zz (.slc u8) l.1:=zz_len (e:=u8) l.1
 have hl2:List.length l.2.1<=zz (.slc u8) l.2.1:=zz_len (e:=u8) l.2.1
 refine ⟨⟨?_,?_⟩,fun p hp=>?_,?_⟩
 ·show List.length l.1<=1048576;omega
 ·show List.length l.2.1<=1048576;omega
 ·have a1:zz (.slc u8) p+1<=zz (.slc (.slc u8)) ps:=zz_mem (e:=.slc u8) hp
  have a2:List.length p<=zz (.slc u8) p:=zz_len (e:=u8) p
  rw[maxLen_val];omega
 ·have a3:zz tPlain (([]:List Row),xs,n,())<=1048576:=by
   show (0+0)+(zz (.slc tTx) xs+(0+0))<=1048576
   omega
  exact (plain_ok (p:=(([]:List Row),xs,n,())) ⟨⟨Nat.zero_le _,fun x hx=>by cases hx⟩,h4,h5,trivial⟩ a3).2.2
theorem store_view {s:Store} (h:storeF s=0) (hu:s.1=true):viewC s.2.1=0/\logF s.2.2.1=0:=by
 unfold storeF at h
 split at h
 ·rename_i h0
  rw[hu,cond_true] at h
  unfold upF at h
  split at h
  ·exact ⟨by assumption,h0⟩
  ·rename_i h1;exact absurd h h1
 ·rename_i h0;exact absurd h h0
end OT
set_option linter.unusedVariables false
set_option linter.unusedSimpArgs false
set_option linter.unusedSectionVars false
namespace OT
open Go
def eqL {α:Type} (e:α->α->Bool) (xs ys:List α):Bool:=decide (xs.length=ys.length)&&allB e xs ys
theorem allB_cons {α:Type} (e:α->α->Bool) (x y:α) (xs ys:List α):allB e (x::xs) (y::ys)=(e x y&&allB e xs ys):=by
 unfold allB
 simp only[List.zip_cons_cons,List.all_cons]
def eqStep {α O:Type} (e:α->α->Bool) (ys:List α) (bad:O) (i:Nat) (x:α):Sum O Unit:=match ys[i]? with
 | some y=>if e x y then .inr () else .inl bad
 | none=>.inl bad
theorem forI_eqL {α O:Type} (e:α->α->Bool) (bad fin:O) (ys:List α):∀ (xs pre post:List α),ys=pre++post->xs.length=post.length->forI (fun i (_:Unit) x=>eqStep e ys bad i x) (fun _=>fin) pre.length xs ()=if allB e xs post then fin else bad
 | [],pre,post,_,hl=>by
  have:post=[]:=List.eq_nil_of_length_eq_zero hl.symm
  subst this
  simp[forI,allB]
 | x::xs,pre,[],_,hl=>by cases hl
 | x::xs,pre,y::post,h,hl=>by
  have hx:ys[pre.length]?=some y:=by rw[h,List.getElem?_append_right (Nat.le_refl _)];simp
  simp only[forI,eqStep,hx,allB_cons]
  cases he:e x y with
  | false=>rfl
  | true=>
   have ih:=forI_eqL e bad fin ys xs (pre++[y]) post (by rw[h,List.append_assoc];rfl) (by simpa using hl)
   rw[List.length_append,List.length_cons,List.length_nil] at ih
   simp only[if_true,Bool.true_and]
   exact ih
def rowE (x y:Row):Bool:=Ty.eq tRow x y
def chE (x y:Change):Bool:=Ty.eq tChange x y
def keyE (x y:Key):Bool:=Ty.eq tKey x y
theorem eqRows2_eq (xs ys:List Row) (hx:xs.length<=maxLen):slices_Equal_Row.sem (xs,ys,())=some (eqL rowE xs ys,()):=by
 refine lift_eq (k:=xs.length+1) fun k hk=>(slices_Equal_Row.raw_eq k _).trans ?_
 unfold slices_Equal_Row.p eqL
 by_cases hl:xs.length=ys.length
 rotate_left
 ·have h2:¬ ((xs.length:Int)=(ys.length:Int)):=by omega
  simp only[hl,h2,decide_false,Bool.not_false,cond_true,Bool.false_and]
 have h2:((xs.length:Int)=(ys.length:Int)):=by omega
 simp only[hl,h2,decide_true,Bool.not_true,cond_false,Bool.true_and]
 exact all_loop (B:=fun self v=>slices_Equal_Row.B0 0 self (fun z=>slices_Equal_Row.Q0 0 (xs,ys,()) z) (xs,ys,()) v) rowE hl hx (fun i hi hj self=>by
   show slices_Equal_Row.b0 _ _ _ _=_
   unfold slices_Equal_Row.b0
   have hlt:(i:Int) < (xs.length:Int):=by omega
   simp only[hlt,decide_true,cond_true,Int.natCast_nonneg,if_true,Int.toNat_natCast,List.getElem?_eq_getElem hi,List.getElem?_eq_getElem hj,Option.bind_some]
   show (bif !rowE xs[i] ys[i] then _ else _)=_
   cases h:rowE xs[i] ys[i] <;> simp) (fun self=>by
   show slices_Equal_Row.b0 _ _ _ _=_
   unfold slices_Equal_Row.b0
   rw[decide_eq_false (Int.lt_irrefl _),cond_false]
   rfl) k (by omega)
theorem eqRows15_eq (xs ys:List Row) (hx:xs.length<=maxLen):spec_l15Rows.sem (xs,ys,())=some (eqL rowE xs ys,()):=by
 refine lift_eq (k:=xs.length+1) fun k hk=>(spec_l15Rows.raw_eq k _).trans ?_
 unfold spec_l15Rows.p eqL
 by_cases hl:xs.length=ys.length
 rotate_left
 ·have h2:¬ ((xs.length:Int)=(ys.length:Int)):=by omega
  simp only[hl,h2,decide_false,Bool.not_false,cond_true,Bool.false_and]
 have h2:((xs.length:Int)=(ys.length:Int)):=by omega
 simp only[hl,h2,decide_true,Bool.not_true,cond_false,Bool.true_and]
 exact all_loop (B:=fun self v=>spec_l15Rows.B0 0 self (fun z=>spec_l15Rows.Q0 0 (xs,ys,()) z) (xs,ys,()) v) rowE hl hx (fun i hi hj self=>by
   show spec_l15Rows.b0 _ _ _ _=_
   unfold spec_l15Rows.b0
   have hlt:(i:Int) < (xs.length:Int):=by omega
   simp only[hlt,decide_true,cond_true,Int.natCast_nonneg,if_true,Int.toNat_natCast,List.getElem?_eq_getElem hi,List.getElem?_eq_getElem hj,Option.bind_some]
   show (bif !rowE xs[i] ys[i] then _ else _)=_
   cases h:rowE xs[i] ys[i] <;> simp) (fun self=>by
   show spec_l15Rows.b0 _ _ _ _=_
   unfold spec_l15Rows.b0
   rw[decide_eq_false (Int.lt_irrefl _),cond_false]
   rfl) k (by omega)
theorem eqChanges2_eq (xs ys:List Change) (hx:xs.length<=maxLen):slices_Equal_Change.sem (xs,ys,())=some (eqL chE xs ys,()):=by
 refine lift_eq (k:=xs.length+1) fun k hk=>(slices_Equal_Change.raw_eq k _).trans ?_
 unfold slices_Equal_Change.p eqL
 by_cases hl:xs.length=ys.length
 rotate_left
 ·have h2:¬ ((xs.length:Int)=(ys.length:Int)):=by omega
  simp only[hl,h2,decide_false,Bool.not_false,cond_true,Bool.false_and]
 have h2:((xs.length:Int)=(ys.length:Int)):=by omega
 simp only[hl,h2,decide_true,Bool.not_true,cond_false,Bool.true_and]
 exact all_loop (B:=fun self v=>slices_Equal_Change.B0 0 self (fun z=>slices_Equal_Change.Q0 0 (xs,ys,()) z) (xs,ys,()) v) chE hl hx (fun i hi hj self=>by
   show slices_Equal_Change.b0 _ _ _ _=_
   unfold slices_Equal_Change.b0
   have hlt:(i:Int) < (xs.length:Int):=by omega
   simp only[hlt,decide_true,cond_true,Int.natCast_nonneg,if_true,Int.toNat_natCast,List.getElem?_eq_getElem hi,List.getElem?_eq_getElem hj,Option.bind_some]
   show (bif !chE xs[i] ys[i] then _ else _)=_
   cases h:chE xs[i] ys[i] <;> simp) (fun self=>by
   show slices_Equal_Change.b0 _ _ _ _=_
   unfold slices_Equal_Change.b0
   rw[decide_eq_false (Int.lt_irrefl _),cond_false]
   rfl) k (by omega)
theorem eqChanges15_eq (xs ys:List Change) (hx:xs.length<=maxLen):spec_l15Changes.sem (xs,ys,())=some (eqL chE xs ys,()):=by
 refine lift_eq (k:=xs.length+1) fun k hk=>(spec_l15Changes.raw_eq k _).trans ?_
 unfold spec_l15Changes.p eqL
 by_cases hl:xs.length=ys.length
 rotate_left
 ·have h2:¬ ((xs.length:Int)=(ys.length:Int)):=by omega
  simp only[hl,h2,decide_false,Bool.not_false,cond_true,Bool.false_and]
 have h2:((xs.length:Int)=(ys.length:Int)):=by omega
 simp only[hl,h2,decide_true,Bool.not_true,cond_false,Bool.true_and]
 exact all_loop (B:=fun self v=>spec_l15Changes.B0 0 self (fun z=>spec_l15Changes.Q0 0 (xs,ys,()) z) (xs,ys,()) v) chE hl hx (fun i hi hj self=>by
   show spec_l15Changes.b0 _ _ _ _=_
   unfold spec_l15Changes.b0
   have hlt:(i:Int) < (xs.length:Int):=by omega
   simp only[hlt,decide_true,cond_true,Int.natCast_nonneg,if_true,Int.toNat_natCast,List.getElem?_eq_getElem hi,List.getElem?_eq_getElem hj,Option.bind_some]
   show (bif !chE xs[i] ys[i] then _ else _)=_
   cases h:chE xs[i] ys[i] <;> simp) (fun self=>by
   show spec_l15Changes.b0 _ _ _ _=_
   unfold spec_l15Changes.b0
   rw[decide_eq_false (Int.lt_irrefl _),cond_false]
   rfl) k (by omega)
theorem eqKeys2_eq (xs ys:List Key) (hx:xs.length<=maxLen):slices_Equal_Key.sem (xs,ys,())=some (eqL keyE xs ys,()):=by
 refine lift_eq (k:=xs.length+1) fun k hk=>(slices_Equal_Key.raw_eq k _).trans ?_
 unfold slices_Equal_Key.p eqL
 by_cases hl:xs.length=ys.length
 rotate_left
 ·have h2:¬ ((xs.length:Int)=(ys.length:Int)):=by omega
  simp only[hl,h2,decide_false,Bool.not_false,cond_true,Bool.false_and]
 have h2:((xs.length:Int)=(ys.length:Int)):=by omega
 simp only[hl,h2,decide_true,Bool.not_true,cond_false,Bool.true_and]
 exact all_loop (B:=fun self v=>slices_Equal_Key.B0 0 self (fun z=>slices_Equal_Key.Q0 0 (xs,ys,()) z) (xs,ys,()) v) keyE hl hx (fun i hi hj self=>by
   show slices_Equal_Key.b0 _ _ _ _=_
   unfold slices_Equal_Key.b0
   have hlt:(i:Int) < (xs.length:Int):=by omega
   simp only[hlt,decide_true,cond_true,Int.natCast_nonneg,if_true,Int.toNat_natCast,List.getElem?_eq_getElem hi,List.getElem?_eq_getElem hj,Option.bind_some]
   show (bif !keyE xs[i] ys[i] then _ else _)=_
   cases h:keyE xs[i] ys[i] <;> simp) (fun self=>by
   show slices_Equal_Key.b0 _ _ _ _=_
   unfold slices_Equal_Key.b0
   rw[decide_eq_false (Int.lt_irrefl _),cond_false]
   rfl) k (by omega)
def decI (x y:Int):Bool:=decide (x=y)
theorem eqInts2_eq (xs ys:List Int) (hx:xs.length<=maxLen):slices_Equal_int64.sem (xs,ys,())=some (eqL decI xs ys,()):=by
 refine lift_eq (k:=xs.length+1) fun k hk=>(slices_Equal_int64.raw_eq k _).trans ?_
 unfold slices_Equal_int64.p eqL
 by_cases hl:xs.length=ys.length
 rotate_left
 ·have h2:¬ ((xs.length:Int)=(ys.length:Int)):=by omega
  simp only[hl,h2,decide_false,Bool.not_false,cond_true,Bool.false_and]
 have h2:((xs.length:Int)=(ys.length:Int)):=by omega
 simp only[hl,h2,decide_true,Bool.not_true,cond_false,Bool.true_and]
 exact all_loop (B:=fun self v=>slices_Equal_int64.B0 0 self (fun z=>slices_Equal_int64.Q0 0 (xs,ys,()) z) (xs,ys,()) v) decI hl hx (fun i hi hj self=>by
   show slices_Equal_int64.b0 _ _ _ _=_
   unfold slices_Equal_int64.b0
   have hlt:(i:Int) < (xs.length:Int):=by omega
   simp only[hlt,decide_true,cond_true,Int.natCast_nonneg,if_true,Int.toNat_natCast,List.getElem?_eq_getElem hi,List.getElem?_eq_getElem hj,Option.bind_some]
   show (bif !decI xs[i] ys[i] then _ else _)=_
   cases h:decI xs[i] ys[i] <;> simp) (fun self=>by
   show slices_Equal_int64.b0 _ _ _ _=_
   unfold slices_Equal_int64.b0
   rw[decide_eq_false (Int.lt_irrefl _),cond_false]
   rfl) k (by omega)
def txE (x y:Tx):Bool:=decide (x.1=y.1)&&(eqL chE x.2.1 y.2.1&&(eqL decI x.2.2.1 y.2.2.1&&eqL keyE x.2.2.2.1 y.2.2.2.1))
def tlx (x:Tx):Prop:=List.length x.2.1<=maxLen/\List.length x.2.2.1<=maxLen/\List.length x.2.2.2.1<=maxLen
theorem implTx_eq (x y:Tx) (h:tlx x):impl_sameTxs_1.sem (x,y,())=some (txE x y,()):=by
 refine lift_eq (k:=0) fun k hk=>(impl_sameTxs_1.raw_eq k _).trans ?_
 unfold impl_sameTxs_1.p txE
 rw[eqChanges2_eq _ _ h.1,eqInts2_eq _ _ h.2.1,eqKeys2_eq _ _ h.2.2]
 simp only[Option.bind_some]
 cases decide (x.1=y.1) <;> cases eqL chE x.2.1 y.2.1 <;> cases eqL decI x.2.2.1 y.2.2.1 <;> rfl
theorem eqTx_loop (k:Nat) (x y:Tx) (h:List.length x.2.2.2.1<=maxLen) (hl:List.length x.2.2.2.1=List.length y.2.2.2.1) (hk:List.length x.2.2.2.1 < k):spec_l15Tx.r1 k (x,y,()) 0=some (allB keyE x.2.2.2.1 y.2.2.2.1,()):=
 all_loop (B:=fun self v=>spec_l15Tx.B1 0 self (fun z=>spec_l15Tx.Q1 0 (x,y,()) z) (x,y,()) v) (xs:=x.2.2.2.1) (ys:=y.2.2.2.1) keyE hl h (fun i hi hj self=>by
   show spec_l15Tx.b1 _ _ _ _=_
   unfold spec_l15Tx.b1
   have hlt:(i:Int) < (List.length x.2.2.2.1:Int):=by omega
   simp only[hlt,decide_true,cond_true,Int.natCast_nonneg,if_true,Int.toNat_natCast,List.getElem?_eq_getElem hi,List.getElem?_eq_getElem hj,Option.bind_some]
   show (bif !keyE _ _ then _ else _)=_
   generalize keyE _ _=b
   cases b <;> simp) (fun self=>by
   show spec_l15Tx.b1 _ _ _ _=_
   unfold spec_l15Tx.b1
   rw[decide_eq_false (Int.lt_irrefl _),cond_false]
   rfl) k hk
theorem specTx_eq (x y:Tx) (h:tlx x):spec_l15Tx.sem (x,y,())=some (txE x y,()):=by
 obtain ⟨h1,h2,h3⟩:=h
 refine lift_eq (k:=List.length x.2.2.1+List.length x.2.2.2.1+1) fun k hk=>(spec_l15Tx.raw_eq k _).trans ?_
 unfold spec_l15Tx.p txE
 rw[eqChanges15_eq _ _ h1]
 simp only[Option.bind_some]
 cases hid:decide (x.1=y.1) with
 | false=>rfl
 | true=>
 cases hc:eqL chE x.2.1 y.2.1 with
 | false=>rfl
 | true=>
 simp only[Bool.not_true,cond_false,Bool.true_and]
 unfold eqL
 by_cases hl:List.length x.2.2.1=List.length y.2.2.1
 rotate_left
 ·have e2:¬ ((List.length x.2.2.1:Int)=(List.length y.2.2.1:Int)):=by omega
  simp only[hl,e2,decide_false,Bool.not_false,cond_true,Bool.false_and]
 have e2:((List.length x.2.2.1:Int)=(List.length y.2.2.1:Int)):=by omega
 by_cases hm:List.length x.2.2.2.1=List.length y.2.2.2.1
 rotate_left
 ·have e3:¬ ((List.length x.2.2.2.1:Int)=(List.length y.2.2.2.1:Int)):=by omega
  simp only[hl,hm,e2,e3,decide_true,decide_false,Bool.not_true,Bool.not_false,cond_true,cond_false,Bool.false_and,Bool.and_false]
 have e3:((List.length x.2.2.2.1:Int)=(List.length y.2.2.2.1:Int)):=by omega
 simp only[hl,hm,e2,e3,decide_true,Bool.not_true,cond_false,Bool.true_and]
 have:=for_loop (B:=fun self v=>spec_l15Tx.B0 k self (fun z=>spec_l15Tx.Q0 k (x,y,()) z) (x,y,()) v) x.2.2.1 (fun (_:Unit) (i:Int)=>i) (fun i (_:Unit) a=>eqStep decI y.2.2.1 (false,()) i a) (fun _=>(allB keyE x.2.2.2.1 y.2.2.2.1,())) (fun _ _=>True) h2
  (fun i hi s self _=>by
   show spec_l15Tx.b0 _ _ _ _=_
   unfold spec_l15Tx.b0
   have hlt:(i:Int) < (List.length x.2.2.1:Int):=by omega
   have hj:i < List.length y.2.2.1:=by omega
   simp only[hlt,decide_true,cond_true,Int.natCast_nonneg,if_true,Int.toNat_natCast,List.getElem?_eq_getElem hi,List.getElem?_eq_getElem hj,Option.bind_some,eqStep]
   rw[show decide (x.2.2.1[i]=y.2.2.1[i])=decI x.2.2.1[i] y.2.2.1[i] from rfl]
   generalize decI _ _=b
   cases b <;> rfl) (fun _ _ _ _ _ _=>trivial) (fun s self _=>by
   show spec_l15Tx.b0 _ _ _ _=_
   unfold spec_l15Tx.b0
   rw[decide_eq_false (Int.lt_irrefl _),cond_false]
   exact eqTx_loop k x y h3 hm (by omega)) () trivial k (by omega)
 have h4:=forI_eqL decI ((false,()):Bool×Unit) (allB keyE x.2.2.2.1 y.2.2.2.1,()) y.2.2.1 x.2.2.1 [] y.2.2.1 rfl hl
 rw[List.length_nil] at h4
 rw[h4] at this
 refine this.trans ?_
 cases allB decI x.2.2.1 y.2.2.1 <;> rfl
theorem txs_small {s:Store} (h:okS s):∀ x ∈ (s.2.2.2.1:List Tx),tlx x:=fun x hx=>by
 have:=h.2.2.2 x hx
 obtain ⟨h1,h2,h3,_⟩:=this
 refine ⟨?_,?_,?_⟩ <;> rw[maxLen_val] <;> omega
theorem sameTxs_eq (xs ys:List Tx) (hx:xs.length<=maxLen) (h:∀ x ∈ xs,tlx x):impl_sameTxs.sem (xs,ys,())=some (eqL txE xs ys,()):=by
 refine lift_eq (k:=0) fun k _=>(impl_sameTxs.raw_eq k _).trans ?_
 unfold impl_sameTxs.p
 have:∀ f:Nat×Int,slices_EqualFunc_Tx.sem (xs,ys,f,())=some (eqL txE xs ys,()):=fun f=>by
  refine lift_eq (k:=xs.length+1) fun k hk=>(slices_EqualFunc_Tx.raw_eq k _).trans ?_
  unfold slices_EqualFunc_Tx.p eqL
  by_cases hl:xs.length=ys.length
  rotate_left
  ·have h2:¬ ((xs.length:Int)=(ys.length:Int)):=by omega
   simp only[hl,h2,decide_false,Bool.not_false,cond_true,Bool.false_and]
  have h2:((xs.length:Int)=(ys.length:Int)):=by omega
  simp only[hl,h2,decide_true,Bool.not_true,cond_false,Bool.true_and]
  exact all_loop (B:=fun self v=>slices_EqualFunc_Tx.B0 0 self (fun z=>slices_EqualFunc_Tx.Q0 0 (xs,ys,f,()) z) (xs,ys,f,()) v) txE hl hx (fun i hi hj self=>by
    show slices_EqualFunc_Tx.b0 _ _ _ _=_
    unfold slices_EqualFunc_Tx.b0
    have hlt:(i:Int) < (xs.length:Int):=by omega
    simp only[hlt,decide_true,cond_true,Int.natCast_nonneg,if_true,Int.toNat_natCast,List.getElem?_eq_getElem hi,List.getElem?_eq_getElem hj,Option.bind_some,implTx_eq _ _ (h _ (List.getElem_mem hi))]
    cases h:txE xs[i] ys[i] <;> simp[h]) (fun self=>by
    show slices_EqualFunc_Tx.b0 _ _ _ _=_
    unfold slices_EqualFunc_Tx.b0
    rw[decide_eq_false (Int.lt_irrefl _),cond_false]
    rfl) k (by omega)
 rw[this]
 rfl
def storyF (s:Store) (p:Plain):Bool:=
 decide (storeF s=0)&&(decide (plainF p=0)&&(s.1&&(decide (s.2.2.2.2.1=p.2.2.1)&&(eqL txE s.2.2.2.1 p.2.1&&eqL rowE (rowsV s.2.1) p.1))))
theorem implStory_eq {s:Store} {p:Plain} (hs:okS s) (hp:okP p):impl_SameStory.sem (s,p,())=some (storyF s p,()):=by
 refine lift_eq (k:=0) fun k _=>(impl_SameStory.raw_eq k _).trans ?_
 unfold impl_SameStory.p storyF
 rw[implStore_eq hs,implPlain_eq p hp]
 simp only[Option.bind_some]
 by_cases h0:storeF s=0
 rotate_left
 ·simp only[h0,decide_false,Bool.not_false,cond_true,Bool.false_and]
 by_cases h1:plainF p=0
 rotate_left
 ·simp only[h0,h1,decide_false,decide_true,Bool.not_false,Bool.not_true,cond_true,cond_false,Bool.false_and,Bool.and_false]
 simp only[h0,h1,decide_true,Bool.not_true,cond_false,Bool.true_and]
 cases hu:s.1 with
 | false=>rfl
 | true=>
  have hv:=(store_view h0 hu).1
  simp only[Bool.not_true,cond_false,Bool.true_and]
  rw[storeRows_eq hv]
  simp only[Option.bind_some]
  rw[eqRows2_eq _ _ (by have:=rows_len hv;rw[maxLen_val];omega),sameTxs_eq _ _ (by have:=hs.2.2.1;rw[maxLen_val];omega) (txs_small hs)]
  simp only[Option.bind_some]
  cases eqL rowE (rowsV s.2.1) p.1 <;> cases eqL txE s.2.2.2.1 p.2.1 <;> cases decide (s.2.2.2.2.1=p.2.2.1) <;> rfl
theorem specStory_eq {s:Store} {p:Plain} (hs:okS s) (hp:okP p):spec_SameStory.sem (s,p,())=some (storyF s p,()):=by
 have hxl:List.length s.2.2.2.1<=1048576:=hs.2.2.1
 refine lift_eq (k:=1048600) fun k hk=>(spec_SameStory.raw_eq k _).trans ?_
 unfold spec_SameStory.p storyF
 rw[specStoreIn_eq hs,specFault_eq p hp]
 simp only[Option.bind_some]
 by_cases h0:storeF s=0
 rotate_left
 ·simp only[h0,decide_false,Bool.not_false,cond_true,Bool.false_and]
 by_cases h1:plainF p=0
 rotate_left
 ·simp only[h0,h1,decide_false,decide_true,Bool.not_false,Bool.not_true,cond_true,cond_false,Bool.false_and,Bool.and_false]
 simp only[h0,h1,decide_true,Bool.not_true,cond_false,Bool.true_and]
 cases hu:s.1 with
 | false=>rfl
 | true=>
  have hv:=(store_view h0 hu).1
  simp only[Bool.not_true,cond_false,Bool.true_and]
  cases hn:decide (s.2.2.2.2.1=p.2.2.1) with
  | false=>rfl
  | true=>
  simp only[Bool.not_true,cond_false,Bool.true_and]
  have e0:eqL txE s.2.2.2.1 p.2.1=(decide (List.length s.2.2.2.1=List.length p.2.1)&&allB txE s.2.2.2.1 p.2.1):=rfl
  rw[e0]
  by_cases hl:List.length s.2.2.2.1=List.length p.2.1
  rotate_left
  ·have e2:¬ ((List.length s.2.2.2.1:Int)=(List.length p.2.1:Int)):=by omega
   simp only[hl,e2,decide_false,Bool.not_false,cond_true,Bool.false_and]
  have e2:((List.length s.2.2.2.1:Int)=(List.length p.2.1:Int)):=by omega
  simp only[hl,e2,decide_true,Bool.not_true,cond_false,Bool.true_and]
  have:=for_loop (B:=fun self v=>spec_SameStory.B0 k self (fun z=>spec_SameStory.Q0 k (s,p,()) z) (s,p,()) v) s.2.2.2.1 (fun (_:Unit) (i:Int)=>i) (fun i (_:Unit) a=>eqStep txE p.2.1 (false,()) i a) (fun _=>(eqL rowE (rowsV s.2.1) p.1,())) (fun _ _=>True) (by rw[maxLen_val];omega)
   (fun i hi u self _=>by
    show spec_SameStory.b0 _ _ _ _=_
    unfold spec_SameStory.b0
    have hlt:(i:Int) < (List.length s.2.2.2.1:Int):=by omega
    have hj:i < List.length p.2.1:=by omega
    simp only[hlt,decide_true,cond_true,Int.natCast_nonneg,if_true,Int.toNat_natCast,List.getElem?_eq_getElem hi,List.getElem?_eq_getElem hj,Option.bind_some,eqStep,specTx_eq _ _ (txs_small hs _ (List.getElem_mem hi))]
    generalize txE _ _=b
    cases b <;> rfl) (fun _ _ _ _ _ _=>trivial) (fun u self _=>by
    show spec_SameStory.b0 _ _ _ _=_
    unfold spec_SameStory.b0
    rw[decide_eq_false (Int.lt_irrefl _),cond_false]
    show spec_SameStory.q0 _ _=_
    unfold spec_SameStory.q0
    rw[specRowsIn_eq hv]
    simp only[Option.bind_some]
    rw[eqRows15_eq _ _ (by have:=rows_len hv;rw[maxLen_val];omega)]
    rfl) () trivial k (by omega)
  have h4:=forI_eqL txE ((false,()):Bool×Unit) (eqL rowE (rowsV s.2.1) p.1,()) p.2.1 s.2.2.2.1 [] p.2.1 rfl hl
  rw[List.length_nil] at h4
  rw[h4] at this
  refine this.trans ?_
  cases allB txE s.2.2.2.1 p.2.1 <;> rfl
theorem sameStory_true (v:laws_FnExactSameStory.Arg) (hv:okA laws_FnExactSameStory.ps v):laws_FnExactSameStory.sem v=some (true,()):=by
 obtain ⟨s,p,⟨⟩⟩:=v
 obtain ⟨hv_s,hv_p,_⟩:=hv
 refine lift_eq (k:=0) fun k _=>(laws_FnExactSameStory.raw_eq k _).trans ?_
 show laws_FnExactSameStory.p _=_
 unfold laws_FnExactSameStory.p
 simp only[szStore_eq s 1048576 hv_s (show (0:Int)<=1048576 by omega) (by omega),Option.bind_some]
 by_cases hz1:((zz tStore s:Nat):Int)<=1048576
 rotate_left
 ·have:lft (1048576) (zz tStore s)=-1:=if_neg hz1
  simp only[this]
  rfl
 have e1:lft (1048576) (zz tStore s)=1048576 - ((zz tStore s:Nat):Int):=if_pos hz1
 have n1:¬ (1048576 - ((zz tStore s:Nat):Int) < 0):=by omega
 simp only[e1,n1,decide_false,cond_false,szPlain_eq p _ hv_p (show (0:Int)<=1048576 - ((zz tStore s:Nat):Int) by omega) (by omega),Option.bind_some]
 by_cases hz2:((zz tPlain p:Nat):Int)<=1048576 - ((zz tStore s:Nat):Int)
 rotate_left
 ·have:lft (1048576 - ((zz tStore s:Nat):Int)) (zz tPlain p)=-1:=if_neg hz2
  simp only[this]
  rfl
 have e2:lft (1048576 - ((zz tStore s:Nat):Int)) (zz tPlain p)=1048576 - ((zz tStore s:Nat):Int) - ((zz tPlain p:Nat):Int):=if_pos hz2
 have n2:¬ (1048576 - ((zz tStore s:Nat):Int) - ((zz tPlain p:Nat):Int) < 0):=by omega
 have h1:okS s:=store_ok hv_s (by omega)
 have h2:okP p:=plain_ok (p:=p) hv_p (by omega)
 simp only[e2,n2,decide_false,cond_false,toStore_eq s (by omega),toPlain_eq p (by omega),specStory_eq h1 h2,implStory_eq h1 h2,eqStore_self s (by omega),eqPlain_self p (by omega),Option.bind_some,beq_self_eq_true,Bool.not_true,decide_true,cond_true]
end OT
namespace Go.Proofs.YtledflocbohofaaGreat.sameStory
open Go Go.ChangeShapes Go.WideShapes Go.ChangeAt Go.RowKit
theorem own:ownKnob Tryz.prog.godebug=none:=by kernel_rfl
theorem laidOut:laidOutB Tryz.prog=true:=by kernel_rfl
theorem htrue:∀ v,OT.okA OT.laws_FnExactSameStory.ps v->∃ u,OT.laws_FnExactSameStory.sem v=some (true,u):=fun v hv=>⟨(),OT.sameStory_true v hv⟩
theorem trod_len {H:Type} {enc:TypeId×Value->H} {P:Program} {w:World} {base:Nat} {sp:Nat->Bool} {held:Bool}:∀ (ts:List TypeId) (vs:List Value) (ds:List (DataW H)) (ps:List MemPlace),DataW.TrodAll enc P w base sp held ts vs ds ps->ds.length=ts.length
 | [],[],[],_,_=>rfl
 | _::ts,_::vs,_::ds,_,⟨_,q,_,h,_⟩=>congrArg (·+1) (trod_len ts vs ds q h)
 | [],_::_,_,_,h=>h.elim
 | [],[],_::_,_,h=>h.elim
 | _::_,[],_,_,h=>h.elim
 | _::_,_::_,[],_,h=>h.elim
set_option maxRecDepth 100000 in
theorem lifted (os:Os) (started:os.Started) (H:Type) (enc:TypeId×Value->H) :
  ReturnsInHanded {} Tryz.checked os 4 .any (Rows.fnExactSameStorySpec.pre6 enc Tryz.prog Tryz.f4 Rows.fnExactSameStoryRow.domain false) (Rows.fnExactSameStorySpec.post enc Tryz.prog Tryz.f4 false true false false):=by
 refine returnsInHanded_of_change (C:=Tryz.checked) own started (by kernel_rfl) Tryz.func4
  (ChangeSpec.witness6 (enc:=enc) (C:=Tryz.checked) false ⟨#[],#[.agg #[.bool false,.slice none 0 0,.slice none 0 0,.slice none 0 0,.slice none 0 0,.int .i64 0],.agg #[.slice none 0 0,.slice none 0 0,.int .i64 0]],[]⟩ 8 (by kernel_rfl) (by kernel_rfl) (by kernel_rfl) (by kernel_rfl)) ?_
 intro W base args ds gs before hval0 hW hcnd _
 have hval:∀ (j:Nat) t v,Tryz.f4.params[j]?=some t->args[j]?=some v->Value.okWide Tryz.prog W .any base t v:=hval0
 have hW':=hW
 obtain ⟨p,q,hA0,hV,rfl,hfz,hnd⟩:=hW
 have hA:DataW.TrodAll enc Tryz.prog W 0 (fun _=>true) true Tryz.f4.params.toList args.toList ds p:=hA0
 obtain ⟨rfl,rfl⟩:=trodVars_none hV
 simp only[List.append_nil] at hW'
 have hl:OT.roLay Tryz.prog OT.laws_FnExactSameStory.ps Tryz.f4.params.toList=true:=by kernel_rfl
 have hc:=OT.law_calls (enc:=enc) (cap:=false) (ps:=OT.laws_FnExactSameStory.ps) (Fn:=OT.laws_FnExactSameStory.sem) OT.laws_FnExactSameStory.ok.1 htrue hl hA (b0:=base) (fun j t v ht hv=>hval j t v (by simpa using ht) (by simpa using hv))
 simp only[Array.toArray_toList] at hc
 refine hc.mono fun e W' ⟨he,hb⟩=>?_
 refine ⟨_,he,OT.law_post (C:=Tryz.checked) laidOut rfl hl (by kernel_rfl) Tryz.underlying4 rfl hW' hA ?_ hb⟩
 have hlen:ds.length=2:=trod_len _ _ _ _ hA
 match ds,hlen with
 | [d1,d2],_=>rfl
set_option maxHeartbeats 8000000 in
theorem closed:joinedFacts Tryz.prog 4 Tryz.f4 Rows.fnExactSameStorySpec Rows.fnExactSameStoryRow=true:=by
 unfold joinedFacts
 simp only[Bool.and_eq_true]
 repeat' apply And.intro
 all_goals (as_aux_lemma=>kernel_rfl)
theorem over:Rows.fnExactSameStoryRow.holds Tryz.pinned (OpenSpec.ofChange Rows.fnExactSameStorySpec):=
 OpenClaim.holds_of_wide 4 Tryz.f4 rfl rfl rfl rfl rfl rfl rfl ⟨rfl,rfl,rfl,rfl,rfl⟩ rfl rfl rfl rfl rfl (by kernel_rfl) Tryz.func4 closed
  (of_decide_eq_true (by kernel_rfl)) (by unfold Func.isWrapper;first | (rw[if_pos (by decide +kernel)];kernel_rfl) | (rw[if_neg (by decide +kernel)];exact ⟨rfl,rfl⟩))
  (fun os started H enc _=>lifted os started H enc)
theorem proved:Rows.FnExactSameStorySaid:=over
#print axioms proved
end Go.Proofs.YtledflocbohofaaGreat.sameStory
