/- FnExactStepMiner: the row; no conditions. -/
import Derived.Test.YtljankkghppaiaaGreatRg
import Derived.Test.YtljankkghppaiaaGreatRows
set_option linter.unusedVariables false
set_option linter.unusedSimpArgs false
set_option linter.unusedSectionVars false
namespace OT
open Go
theorem pathB_self:∀ p:Path,pathB p p=true
 | []=>rfl
 | .fst::p=>pathB_self p
 | .snd::p=>pathB_self p
 | .idx i::p=>by simp[pathB,pathB_self p]
 | .aix i::p=>by simp[pathB,pathB_self p]
theorem where_some {α:Type} (p:α->Bool):∀ (xs:List α) (i:Nat),whereF p i xs=-1\/∃ (j:Nat) (hj:j < xs.length),whereF p i xs=((i+j:Nat):Int)/\p xs[j]=true
 | [],i=>.inl rfl
 | x::xs,i=>by
  simp only[whereF]
  by_cases hx:p x=true
  ·rw[if_pos hx];exact .inr ⟨0,by simp,by simp,hx⟩
  ·rw[if_neg hx]
   rcases where_some p xs (i+1) with h | ⟨j,hj,h1,h2⟩
   ·exact .inl h
   ·exact .inr ⟨j+1,by simpa using hj,by rw[h1];congr 1;omega,h2⟩
theorem txB_some (xs:List Buffer) (t:Int):txB xs t=-1\/∃ (j:Nat) (hj:j < xs.length),txB xs t=(j:Int)/\(xs[j]).1=t:=by
 rcases where_some (fun b:Buffer=>decide (b.1=t)) xs 0 with h | ⟨j,hj,h1,h2⟩
 ·exact .inl h
 ·exact .inr ⟨j,hj,by rw[txB,h1,Nat.zero_add],by simpa using h2⟩
abbrev badM (k:Int):MinerResult:=(k,false,false,(0:Int),([]:List Change),miner0,())
def tl2 (T:Nat) (c:Change):Prop:=List.length c.2.1.2.2.2.1<=T/\List.length c.2.2.2.1.2.2.2.1<=T
abbrev okB2 (T:Nat) (b:Buffer):Prop:=List.length b.2.1<=61/\∀ c ∈ (b.2.1:List Change),tl2 T c
theorem tl2_cl {T:Nat} {c:Change} (hT:T<=1048576) (h:tl2 T c):cl c:=⟨by unfold rl;rw[maxLen_val];have:=h.1;omega,by unfold rl;rw[maxLen_val];have:=h.2;omega⟩
structure goodM (T:Nat) (m:Miner):Prop where
 lo:64<=T
 hi:T<=1048576
 view:viewC m.1=0
 bl:List.length m.2.1<=8
 buf:∀ b ∈ (m.2.1:List Buffer),okB2 T b
theorem goodM.gp {T:Nat} {m:Miner} (h:goodM T m):gp m.1:=right_gp (view_ok h.view).right
theorem goodM.fine {T:Nat} {m:Miner} (h:goodM T m):fineM m:=⟨h.gp,by have:=h.bl;omega,fun b hb=>by have:=(h.buf b hb).1;omega⟩
theorem gp_max {ps:Pgs} (h:gp ps):∀ p ∈ ps,p.length<=maxLen:=fun p hp=>by rw[h.2 p hp,maxLen_val];omega
def bufG (j:Nat) (s:List Buffer) (c:Change):Sum (MinerResult×Unit) (List Buffer):=match s[j]? with
 | some b=>if (foldC b.2.1 c).1=0 then .inr (s.set j (b.1,(foldC b.2.1 c).2.1,b.2.2)) else .inl (badM (foldC b.2.1 c).1,())
 | none=>.inl (badM 4,())
def bufZ (ps:Pgs) (s:List Buffer):MinerResult×Unit:=(((0:Int),false,false,(0:Int),([]:List Change),(ps,s,()),()),())
def bufsF (j:Nat) (ps:Pgs) (s:List Buffer) (list:List Change):MinerResult:=(forI (fun _ s c=>bufG j s c) (bufZ ps) 0 list s).1
def bufsOk (T n:Nat) (s:List Buffer):Prop:=s.length=n/\∀ b ∈ s,okB2 T b
theorem foldC_ok {T:Nat} {xs:List Change} {c:Change} (hx:∀ x ∈ xs,tl2 T x) (hc:tl2 T c):okB2 T ((0:Int),(foldC xs c).2.1,()):=by
 unfold foldC
 split
 ·rename_i hf
  have h60:=(foldF_good hf).2.2
  split
  ·cases h:fold1 xs c with
   | none=>exact ⟨Nat.zero_le _,fun x hx=>by cases hx⟩
   | some r=>
    have:=fold1_len h
    exact ⟨by simp only;omega,fold1_all h hx hc fun x hx'=>⟨(hx x hx').1,hc.2⟩⟩
  ·exact ⟨Nat.zero_le _,fun x hx=>by cases hx⟩
 ·exact ⟨Nat.zero_le _,fun x hx=>by cases hx⟩
theorem bufG_ok {T j n:Nat} {s s':List Buffer} {c:Change} (h:bufsOk T n s) (hc:tl2 T c) (he:bufG j s c=.inr s'):bufsOk T n s':=by
 unfold bufG at he
 split at he
 ·rename_i b hb
  split at he
  ·injection he with he;subst he
   have hbm:=h.2 b (List.mem_of_getElem? hb)
   have hf:=foldC_ok (c:=c) hbm.2 hc
   refine ⟨by rw[List.length_set];exact h.1,fun y hy=>?_⟩
   rcases List.mem_or_eq_of_mem_set hy with hy | rfl
   ·exact h.2 y hy
   ·exact hf
  ·cases he
 ·cases he
def endM (m:Miner) (r:Record):MinerResult:=match m.2.1[(txB m.2.1 r.2.1).toNat]? with
 | some b=>((0:Int),true,decide (r.1=5),r.2.1,b.2.1,(m.1,m.2.1.take (txB m.2.1 r.2.1).toNat++m.2.1.drop ((txB m.2.1 r.2.1).toNat+1),()),())
 | none=>badM 4
def turnM (m:Miner) (r:Record):MinerResult:=match stepF m.1 r with
 | .inl c=>badM c
 | .inr ps=>if viewC ps=0 then (if r.1=4 then (if mrgF (rowsV m.1) (rowsV ps)=[] then ((0:Int),false,false,(0:Int),([]:List Change),(ps,m.2.1,()),()) else badM 8) else
   if txB m.2.1 r.2.1 < 0 then badM 4 else bufsF (txB m.2.1 r.2.1).toNat ps m.2.1 (mrgF (rowsV m.1) (rowsV ps))) else badM (viewC ps)
def stepM (m:Miner) (r:Record):MinerResult:=if recF r=0 then
    (if r.1=1 then (if 0<=txB m.2.1 r.2.1 then badM 6 else if 8<=(List.length m.2.1:Int) then badM 2 else ((0:Int),false,false,(0:Int),([]:List Change),(m.1,m.2.1++[(r.2.1,([]:List Change),())],()),()))
     else if r.1=5\/r.1=6 then (if txB m.2.1 r.2.1 < 0 then badM 4 else endM m r) else turnM m r)
 else badM (recF r)
theorem stepF_ps {ps ps':Pgs} {r:Record} (hp:gp ps) (h:stepF ps r=.inr ps'):gp ps':=stepF_good hp h
theorem mrg_tl {T:Nat} (hT:64<=T) {B A:Pgs} (hB:viewC B=0) (hA:viewC A=0):∀ c ∈ mrgF (rowsV B) (rowsV A),tl2 T c:=fun c hc=>by
 have:=mrg_rows (q:=fun r=>List.length r.2.2.2.1<=64) (Nat.zero_le _) _ _ _ (rt_rows hB) (rt_rows hA) c hc
 exact ⟨by have:=this.1;omega,by have:=this.2;omega⟩
theorem mrg_small {B A:Pgs} (hB:viewC B=0) (hA:viewC A=0):(mrgF (rowsV B) (rowsV A)).length<=384:=by
 have h1:=rows_len hB;have h2:=rows_len hA
 have:=mrgF_len ((rowsV B).length+(rowsV A).length) (rowsV B) (rowsV A)
 unfold mrgF;omega
theorem delB_eq (xs:List Buffer) (i:Nat) (hi:i < xs.length) (hl:xs.length<=1000):slices_Delete_Buffer.sem (xs,(i:Int),w64 ((i:Int)+1),())=some (xs.take i++xs.drop (i+1),()):=by
 rw[w64_in (by omega)]
 have h1:(0:Int)<=(i:Int)/\(i:Int)<=(i:Int)+1/\(i:Int)+1<=(xs.length:Int):=⟨by omega,by omega,by omega⟩
 show (if (0:Int)<=(i:Int)/\(i:Int)<=(i:Int)+1/\(i:Int)+1<=(xs.length:Int) then some (xs.take (i:Int).toNat++xs.drop ((i:Int)+1).toNat,()) else none)=_
 rw[if_pos h1]
 rfl
theorem delIn_one (j:Nat) (h:j<=1000):delIn (j:Int) (w64 ((j:Int)+1)) j=true:=by
 rw[w64_in (by omega)]
 simp only[delIn,Bool.and_eq_true,decide_eq_true_eq]
 omega
theorem kinds {r:Record} (h:recF r=0) (h1:¬ r.1=1) (h5:¬ r.1=5) (h6:¬ r.1=6):r.1=2\/r.1=3\/r.1=4:=by
 have:=recF_good h;omega
theorem implStep_eq {T:Nat} {m:Miner} (r:Record) (h:goodM T m):impl_Miner_step.sem (m,r,())=some (stepM m r,()):=by
 have hbl:=h.bl
 refine lift_eq (k:=3000) fun k hk=>(impl_Miner_step.raw_eq k _).trans ?_
 unfold impl_Miner_step.p stepM
 simp only[implRec_eq,Option.bind_some]
 by_cases hr:recF r=0
 rotate_left
 ·simp only[hr,decide_false,Bool.not_false,cond_true,if_false]
 simp only[hr,decide_true,Bool.not_true,cond_false,if_true,implMAt_eq m _ (show List.length m.2.1<=1048576 by omega),implMOwn_eq m h.fine,Option.bind_some]
 have hend:∀ b:Bool,¬ txB m.2.1 r.2.1 < 0->b=decide (r.1=5)->(if 0<=txB m.2.1 r.2.1/\txB m.2.1 r.2.1 < (List.length m.2.1:Int) then ((m.2.1[(txB m.2.1 r.2.1).toNat]?).bind fun x6=>(m.2.1[(txB m.2.1 r.2.1).toNat]?).bind fun x7=>(m.2.1[(txB m.2.1 r.2.1).toNat]?).bind fun x8=>bif delIn (txB m.2.1 r.2.1) (w64 (txB m.2.1 r.2.1+(1:Int))) (txB m.2.1 r.2.1).toNat then ((slices_Delete_Buffer.sem (m.2.1.set (txB m.2.1 r.2.1).toNat x8,txB m.2.1 r.2.1,w64 (txB m.2.1 r.2.1+(1:Int)),())).bind fun r9=>some (((0:Int),true,b,x7.1,x7.2.1,(m.1,r9.1,m.2.2),()),())) else none) else none)=some (endM m r,()):=fun b h0 hb=>by
  rcases txB_some m.2.1 r.2.1 with e | ⟨j,hj,e,ht⟩
  ·rw[e] at h0;exact absurd (by decide) h0
  ·unfold endM
   rw[e]
   simp only[Int.toNat_natCast,List.getElem?_eq_getElem hj,Option.bind_some,delIn_one j (by omega),cond_true,List.set_getElem_self,delB_eq m.2.1 j hj (by omega),ht,hb]
   rw[if_pos ⟨by omega,by omega⟩]
 by_cases h1:r.1=1
 ·simp only[h1,decide_true,cond_true,if_true]
  by_cases h2:0<=txB m.2.1 r.2.1
  ·simp only[h2,decide_true,cond_true,if_true]
  ·simp only[h2,decide_false,cond_false,if_false]
   by_cases h3:8<=(List.length m.2.1:Int)
   ·simp only[h3,decide_true,cond_true,if_true]
   ·simp only[h3,decide_false,cond_false,if_false]
    rw[if_pos (cap_ok (by simp only[List.length_cons,List.length_nil];omega))]
 simp only[h1,decide_false,cond_false,if_false]
 by_cases h5:r.1=5
 ·simp only[h5,decide_true,cond_true,true_or,if_true]
  by_cases h2:txB m.2.1 r.2.1 < 0
  ·simp only[h2,decide_true,cond_true,if_true]
  ·simp only[h2,decide_false,cond_false,if_false]
   exact hend true h2 (by rw[h5];rfl)
 simp only[h5,decide_false,cond_false,false_or]
 by_cases h6:r.1=6
 ·simp only[h6,decide_true,cond_true,if_true]
  by_cases h2:txB m.2.1 r.2.1 < 0
  ·simp only[h2,decide_true,cond_true,if_true]
  ·simp only[h2,decide_false,cond_false,if_false]
   exact hend _ h2 (by rw[h6];rfl)
 simp only[h6,decide_false,cond_false,if_false]
 unfold turnM
 simp only[implRecorded_eq m.1 r h.gp hr,Option.bind_some]
 cases hs:stepF m.1 r with
 | inl c=>
  have:=stepF_bad hs
  simp only[this,decide_false,Bool.not_false,cond_true]
 | inr ps=>
  have hgp:=stepF_ps h.gp hs
  simp only[decide_true,Bool.not_true,cond_false,implView_eq ps (gp_max hgp),Option.bind_some]
  by_cases hv:viewC ps=0
  rotate_left
  ·simp only[hv,decide_false,Bool.not_false,cond_true,if_false]
  have hl1:=viewL_len (view_ok h.view);have hl2:=viewL_len (view_ok hv)
  simp only[hv,decide_true,Bool.not_true,cond_false,if_true,implView_eq m.1 (gp_max h.gp),seenRows_eq _ (show (viewL m.1).length<=1000 by omega),seenRows_eq _ (show (viewL ps).length<=1000 by omega),Option.bind_some]
  have hbt:impl_between.sem ((viewL m.1).map (·.1),(viewL ps).map (·.1),())=some (mrgF (rowsV m.1) (rowsV ps),()):=implBetween_eq (rowsV m.1) (rowsV ps) (by have:=rows_len h.view;omega) (by have:=rows_len hv;omega)
  simp only[hbt,implCopies_eq ps hgp,Option.bind_some]
  by_cases h4:r.1=4
  ·simp only[h4,decide_true,Bool.not_true,cond_true,cond_false,if_true]
   cases hm:mrgF (rowsV m.1) (rowsV ps) with
   | nil=>rfl
   | cons x xs=>
    have:(0:Int) < ((x::xs).length:Int):=by simp only[List.length_cons];omega
    simp only[this,decide_true,cond_true,reduceCtorEq,if_false]
  simp only[h4,decide_false,Bool.not_false,cond_true,cond_false,if_false]
  by_cases h2:txB m.2.1 r.2.1 < 0
  ·simp only[h2,decide_true,cond_true,if_true]
  simp only[h2,decide_false,cond_false,if_false]
  rcases txB_some m.2.1 r.2.1 with e | ⟨j,hj,e,ht⟩
  ·rw[e] at h2;exact absurd (by decide) h2
  rw[e]
  simp only[Int.toNat_natCast]
  have hcl:=mrg_tl h.lo h.view hv
  have hsm:=mrg_small h.view hv
  generalize mrgF (rowsV m.1) (rowsV ps)=list at hcl hsm
  have:=for_loop (B:=fun self v=>impl_Miner_step.B0 k self (fun z=>impl_Miner_step.Q0 k (m,r,()) (j:Int) list (list.length:Int) z) (m,r,()) (j:Int) list (list.length:Int) v) list (fun (s:List Buffer) (i:Int)=>(((ps,s,()):Miner),i)) (fun _ s c=>bufG j s c) (bufZ ps) (fun i s=>bufsOk T (List.length m.2.1) s) (by rw[maxLen_val];omega)
   (fun i hi s self hI=>by
    show impl_Miner_step.b0 _ _ _ _ _ _ _=_
    unfold impl_Miner_step.b0 bufG
    have hlt:(i:Int) < (list.length:Int):=by omega
    have hjs:j < s.length:=by rw[hI.1];exact hj
    have hjs':(j:Int) < (s.length:Int):=by omega
    have hb:=hI.2 _ (List.getElem_mem hjs)
    simp only[hlt,hjs',decide_true,cond_true,Int.natCast_nonneg,true_and,if_true,Int.toNat_natCast,List.getElem?_eq_getElem hi,List.getElem?_eq_getElem hjs,Option.bind_some,pathB_self,Bool.and_self,implFold_eq _ _ (show List.length (s[j]).2.1<=1048576 by have:=hb.1;omega) (fun x hx=>tl2_cl h.hi (hb.2 x hx)) (tl2_cl h.hi (hcl _ (List.getElem_mem hi)))]
    by_cases hf:(foldC (s[j]).2.1 list[i]).1=0
    ·simp only[hf,decide_true,Bool.not_true,cond_false,if_true]
    ·simp only[hf,decide_false,Bool.not_false,cond_true,if_false])
   (fun i hi s s' hI hf=>bufG_ok hI (hcl _ (List.getElem_mem hi)) hf) (fun s self _=>by
    show impl_Miner_step.b0 _ _ _ _ _ _ _=_
    unfold impl_Miner_step.b0
    simp only[Int.lt_irrefl,decide_false,cond_false]
    rfl) m.2.1 ⟨rfl,h.buf⟩ k (by omega)
  exact this
theorem specBadM_eq (c:Int):spec_l9Bad.sem (c,())=some (badM c,()):=by
 refine lift_eq (k:=0) fun k hk=>(spec_l9Bad.raw_eq k _).trans ?_
 rfl
theorem specEnd_eq {T:Nat} {m:Miner} (r:Record) (h:goodM T m):spec_l9End.sem (m,r,())=some (if txB m.2.1 r.2.1 < 0 then badM 4 else endM m r,()):=by
 have hbl:=h.bl
 refine lift_eq (k:=0) fun k hk=>(spec_l9End.raw_eq k _).trans ?_
 show spec_l9End.p _=_
 unfold spec_l9End.p endM
 simp only[specMAt_eq m _ (show List.length m.2.1<=1048576 by omega),specBadM_eq,Option.bind_some]
 by_cases h2:txB m.2.1 r.2.1 < 0
 ·simp only[h2,decide_true,cond_true,if_true]
 simp only[h2,decide_false,cond_false,if_false,specMCopy_eq m h.fine,Option.bind_some]
 rcases txB_some m.2.1 r.2.1 with e | ⟨j,hj,e,ht⟩
 ·rw[e] at h2;exact absurd (by decide) h2
 rw[e,w64_in (by omega)]
 have hcap:∀ l:List Buffer,l.length<=1000->([]:List Buffer).length+l.length<=CAP:=fun l hl=>cap_ok (by simp only[List.length_nil];omega)
 rw[if_pos ⟨by omega,by omega⟩]
 simp only[Int.toNat_natCast,show ((j:Int)+1).toNat=j+1 from by omega,List.drop_zero,List.nil_append,List.take_length]
 rw[if_pos (hcap _ (by rw[List.length_take];omega)),if_pos (by omega),List.getElem?_eq_getElem hj]
 simp only[Option.bind_some]
 rw[if_pos ⟨by omega,by omega⟩,if_pos (cap_ok (by rw[List.length_take,List.length_drop];omega))]
theorem specTurn_eq {T:Nat} {m:Miner} (r:Record) (h:goodM T m) (hr:recF r=0):spec_l9Turn.sem (m,r,())=some (turnM m r,()):=by
 have hbl:=h.bl
 refine lift_eq (k:=3000) fun k hk=>(spec_l9Turn.raw_eq k _).trans ?_
 unfold spec_l9Turn.p turnM
 simp only[specRecord_eq m.1 r h.gp,specBadM_eq,Option.bind_some]
 cases hs:stepF m.1 r with
 | inl c=>
  have:=stepF_bad hs
  simp only[this,decide_false,Bool.not_false,cond_true]
 | inr ps=>
  have hgp:=stepF_ps h.gp hs
  simp only[decide_true,Bool.not_true,cond_false,specView_eq ps (gp_max hgp),Option.bind_some]
  by_cases hv:viewC ps=0
  rotate_left
  ·simp only[hv,decide_false,Bool.not_false,cond_true,if_false]
  simp only[hv,decide_true,Bool.not_true,cond_false,if_true,specRowsIn_eq h.view,specRowsIn_eq hv,specChanges_eq (rowsV m.1) (rowsV ps) (rowsV_up (view_ok h.view)) (rowsV_up (view_ok hv)) (by have:=rows_len h.view;omega) (by have:=rows_len hv;omega),specMCopy_eq m h.fine,specMAt_eq m _ (show List.length m.2.1<=1048576 by omega),Option.bind_some]
  by_cases h4:r.1=4
  ·simp only[h4,decide_true,cond_true,if_true]
   cases hm:mrgF (rowsV m.1) (rowsV ps) with
   | nil=>rfl
   | cons x xs=>
    have:(0:Int) < ((x::xs).length:Int):=by simp only[List.length_cons];omega
    simp only[this,decide_true,cond_true,reduceCtorEq,if_false]
  simp only[h4,decide_false,cond_false,if_false]
  by_cases h2:txB m.2.1 r.2.1 < 0
  ·simp only[h2,decide_true,cond_true,if_true]
  simp only[h2,decide_false,cond_false,if_false]
  rcases txB_some m.2.1 r.2.1 with e | ⟨j,hj,e,ht⟩
  ·rw[e] at h2;exact absurd (by decide) h2
  rw[e]
  simp only[Int.toNat_natCast]
  have hcl:=mrg_tl h.lo h.view hv
  have hsm:=mrg_small h.view hv
  generalize mrgF (rowsV m.1) (rowsV ps)=list at hcl hsm
  have:=for_loop (B:=fun self v=>spec_l9Turn.B0 k self (fun z=>spec_l9Turn.Q0 k (m,r,()) list (j:Int) z) (m,r,()) list (j:Int) v) list (fun (s:List Buffer) (i:Int)=>(((ps,s,()):Miner),i)) (fun _ s c=>bufG j s c) (bufZ ps) (fun i s=>bufsOk T (List.length m.2.1) s) (by rw[maxLen_val];omega)
   (fun i hi s self hI=>by
    show spec_l9Turn.b0 _ _ _ _ _ _=_
    unfold spec_l9Turn.b0 bufG
    have hlt:(i:Int) < (list.length:Int):=by omega
    have hjs:j < s.length:=by rw[hI.1];exact hj
    have hjs':(j:Int) < (s.length:Int):=by omega
    have hb:=hI.2 _ (List.getElem_mem hjs)
    simp only[hlt,hjs',decide_true,cond_true,Int.natCast_nonneg,true_and,if_true,Int.toNat_natCast,List.getElem?_eq_getElem hi,List.getElem?_eq_getElem hjs,Option.bind_some,pathB_self,Bool.and_self,specFold_eq _ _ (show List.length (s[j]).2.1<=1048576 by have:=hb.1;omega) (fun x hx=>tl2_cl h.hi (hb.2 x hx)) (tl2_cl h.hi (hcl _ (List.getElem_mem hi))),specBadM_eq]
    by_cases hf:(foldC (s[j]).2.1 list[i]).1=0
    ·simp only[hf,decide_true,Bool.not_true,cond_false,if_true]
    ·simp only[hf,decide_false,Bool.not_false,cond_true,if_false])
   (fun i hi s s' hI hf=>bufG_ok hI (hcl _ (List.getElem_mem hi)) hf) (fun s self _=>by
    show spec_l9Turn.b0 _ _ _ _ _ _=_
    unfold spec_l9Turn.b0
    simp only[Int.lt_irrefl,decide_false,cond_false]
    rfl) m.2.1 ⟨rfl,h.buf⟩ k (by omega)
  exact this
theorem specStep_eq {T:Nat} {m:Miner} (r:Record) (h:goodM T m) (hr:recF r=0):spec_l9Step.sem (m,r,())=some (stepM m r,()):=by
 have hbl:=h.bl
 refine lift_eq (k:=0) fun k hk=>(spec_l9Step.raw_eq k _).trans ?_
 show spec_l9Step.p _=_
 unfold spec_l9Step.p stepM
 simp only[hr,if_true,specEnd_eq r h,specTurn_eq r h hr,specMAt_eq m _ (show List.length m.2.1<=1048576 by omega),specMCopy_eq m h.fine,specBadM_eq,Option.bind_some]
 have hcap:List.length m.2.1+[((r.2.1,([]:List Change),()):Buffer)].length<=CAP:=cap_ok (by simp only[List.length_cons,List.length_nil];omega)
 by_cases h5:r.1=5
 ·simp only[h5,decide_true,cond_true,true_or,if_true,show ¬ ((5:Int)=1) from by decide,if_false]
 by_cases h6:r.1=6
 ·simp only[h6,decide_true,decide_false,cond_true,cond_false,or_true,if_true,show ¬ ((6:Int)=1) from by decide,show ¬ ((6:Int)=5) from by decide,if_false]
 by_cases h1:r.1=1
 ·simp only[h1,decide_true,cond_true,if_true,show ¬ ((1:Int)=5) from by decide,show ¬ ((1:Int)=6) from by decide,decide_false,cond_false]
  by_cases h2:0<=txB m.2.1 r.2.1
  ·simp only[h2,decide_true,cond_true,if_true]
  ·simp only[h2,decide_false,cond_false,if_false]
   by_cases h3:8<=(List.length m.2.1:Int)
   ·simp only[h3,decide_true,cond_true,if_true]
   ·simp only[h3,decide_false,cond_false,if_false,if_pos hcap]
 simp only[h1,h5,h6,decide_false,cond_false,or_self,if_false]
end OT
set_option linter.unusedVariables false
set_option linter.unusedSimpArgs false
set_option linter.unusedSectionVars false
namespace OT
open Go
def goodR (T:Nat) (R:MinerResult):Prop:=(R.1=0->goodM T R.2.2.2.2.2.1)/\okB2 T ((0:Int),R.2.2.2.2.1,())/\zz tMiner R.2.2.2.2.2.1<=2000*T
theorem zz_change {T:Nat} {c:Change} (h:tl2 T c):zz tChange c<=2*T:=by
 have h1:zz tChange c=0+((0+(0+(0+(List.length c.2.1.2.2.2.1+0))))+(0+((0+(0+(0+(List.length c.2.2.2.1.2.2.2.1+0))))+0))):=rfl
 have:=h.1;have:=h.2
 omega
theorem zz_changes {T:Nat}:∀ {xs:List Change},(∀ c ∈ xs,tl2 T c)->zz (.slc tChange) xs<=(2*T+1)*xs.length
 | [],_=>Nat.zero_le _
 | c::xs,h=>by
  have h1:zz (.slc tChange) (c::xs)=zz tChange c+1+zz (.slc tChange) xs:=zz_cons (e:=tChange) c xs
  have h2:=zz_change (h c List.mem_cons_self)
  have h3:=zz_changes (xs:=xs) fun x hx=>h x (List.mem_cons_of_mem _ hx)
  refine Nat.le_trans (Nat.le_of_eq h1) ?_
  rw[List.length_cons,Nat.mul_succ]
  omega
theorem zz_buffer {T:Nat} {b:Buffer} (h:okB2 T b):zz tBuffer b<=61*(2*T+1):=by
 have h1:zz tBuffer b=0+(zz (.slc tChange) b.2.1+0):=rfl
 have h2:=zz_changes h.2
 have h3:(2*T+1)*List.length b.2.1<=(2*T+1)*61:=Nat.mul_le_mul_left _ h.1
 omega
theorem zz_buffers {T:Nat}:∀ {xs:List Buffer},(∀ b ∈ xs,okB2 T b)->zz (.slc tBuffer) xs<=(61*(2*T+1)+1)*xs.length
 | [],_=>Nat.zero_le _
 | b::xs,h=>by
  have h1:zz (.slc tBuffer) (b::xs)=zz tBuffer b+1+zz (.slc tBuffer) xs:=zz_cons (e:=tBuffer) b xs
  have h2:=zz_buffer (h b List.mem_cons_self)
  have h3:=zz_buffers (xs:=xs) fun x hx=>h x (List.mem_cons_of_mem _ hx)
  refine Nat.le_trans (Nat.le_of_eq h1) ?_
  rw[List.length_cons,Nat.mul_succ]
  omega
theorem zz_miner {T:Nat} {m:Miner} (h:goodM T m):zz tMiner m<=2000*T:=by
 have h1:zz tMiner m=zz (.slc (.slc u8)) m.1+(zz (.slc tBuffer) m.2.1+0):=rfl
 have h2:=zz_pages m.1 h.gp
 have h3:=zz_buffers h.buf
 have h4:(61*(2*T+1)+1)*List.length m.2.1<=(61*(2*T+1)+1)*8:=Nat.mul_le_mul_left _ h.bl
 have:=h.lo
 omega
theorem bad_good {T:Nat} {k:Int} (hk:k≠0):goodR T (badM k):=⟨fun h=>absurd h hk,⟨Nat.zero_le _,fun _ h=>by cases h⟩,Nat.zero_le _⟩
theorem good_of {T:Nat} {m:Miner} {a b:Bool} {t:Int} {l:List Change} (h:goodM T m) (hl:okB2 T ((0:Int),l,())):goodR T ((0:Int),a,b,t,l,m,()):=⟨fun _=>h,hl,zz_miner h⟩
theorem bufs_good {T j n:Nat} {ps:Pgs} (hlo:64<=T) (hhi:T<=1048576) (hv:viewC ps=0) (hn:n<=8):∀ (list:List Change) (i:Nat) (s:List Buffer),(∀ c ∈ list,tl2 T c)->bufsOk T n s->goodR T (forI (fun _ s c=>bufG j s c) (bufZ ps) i list s).1
 | [],i,s,_,h=>good_of ⟨hlo,hhi,hv,by show s.length<=8;rw[h.1];exact hn,h.2⟩ ⟨Nat.zero_le _,fun _ h=>by cases h⟩
 | c::list,i,s,hc,h=>by
  simp only[forI]
  cases hg:bufG j s c with
  | inl o=>
   simp only
   unfold bufG at hg
   split at hg
   ·split at hg
    ·cases hg
    ·rename_i hf
     injection hg with hg;subst hg
     exact bad_good hf
   ·injection hg with hg;subst hg
    exact bad_good (by decide)
  | inr s'=>exact bufs_good hlo hhi hv hn list (i+1) s' (fun x hx=>hc x (List.mem_cons_of_mem _ hx)) (bufG_ok h (hc c List.mem_cons_self) hg)
theorem stepM_good {T:Nat} {m:Miner} (r:Record) (h:goodM T m):goodR T (stepM m r):=by
 have hnil:okB2 T ((0:Int),([]:List Change),()):=⟨Nat.zero_le _,fun _ h=>by cases h⟩
 unfold stepM
 split
 rotate_left
 ·rename_i hr;exact bad_good hr
 rename_i hr
 split
 ·split
  ·exact bad_good (by decide)
  ·split
   ·exact bad_good (by decide)
   ·rename_i h8
    refine good_of ⟨h.lo,h.hi,h.view,?_,fun b hb=>?_⟩ hnil
    ·show (m.2.1++[((r.2.1,([]:List Change),()):Buffer)]).length<=8
     rw[List.length_append,List.length_cons,List.length_nil]
     omega
    ·rcases List.mem_append.1 hb with hb | hb
     ·exact h.buf b hb
     ·rw[List.mem_singleton] at hb;subst hb;exact hnil
 split
 ·split
  ·exact bad_good (by decide)
  ·unfold endM
   split
   ·rename_i b hb
    refine good_of ⟨h.lo,h.hi,h.view,?_,fun y hy=>?_⟩ (h.buf b (List.mem_of_getElem? hb))
    ·have:=h.bl
     show (m.2.1.take _++m.2.1.drop _).length<=8
     rw[List.length_append,List.length_take,List.length_drop]
     omega
    ·rcases List.mem_append.1 hy with hy | hy
     ·exact h.buf y (List.mem_of_mem_take hy)
     ·exact h.buf y (List.mem_of_mem_drop hy)
   ·exact bad_good (by decide)
 unfold turnM
 cases hs:stepF m.1 r with
 | inl c=>exact bad_good (stepF_bad hs)
 | inr ps=>
  simp only
  split
  rotate_left
  ·rename_i hv;exact bad_good hv
  rename_i hv
  split
  ·split
   ·exact good_of ⟨h.lo,h.hi,hv,h.bl,h.buf⟩ hnil
   ·exact bad_good (by decide)
  split
  ·exact bad_good (by decide)
  exact bufs_good h.lo h.hi hv h.bl _ 0 _ (mrg_tl h.lo h.view hv) ⟨rfl,h.buf⟩
theorem stepR_small {T:Nat} {R:MinerResult} (h:goodR T R):zz tMinerResult R<=3000*T+100:=by
 have h1:zz tMinerResult R=0+(0+(0+(0+(zz (.slc tChange) R.2.2.2.2.1+(zz tMiner R.2.2.2.2.2.1+0))))):=rfl
 have h2:0+(zz (.slc tChange) R.2.2.2.2.1+0)<=61*(2*T+1):=zz_buffer h.2.1
 have:=h.2.2
 omega
theorem minerF_good {m:Miner} (h:okM m) (hz:zz tMiner m<=1048576) (h0:minerF m=0):goodM 1048576 m:=by
 unfold minerF at h0
 split at h0
 rotate_left
 ·rename_i hv;exact absurd h0 hv
 rename_i hv
 split at h0
 ·cases h0
 rename_i h8
 have hn:=forI_none (f:=fun i (_:Unit) b=>openStep m.2.1 i b) (fun i s x o ho=>by
  unfold openStep at ho
  split at ho
  ·split at ho
   ·split at ho
    ·cases ho
    ·injection ho with ho;rw[<-ho];decide
   ·rename_i hx
    injection ho with ho;rw[<-ho];exact hx
  ·injection ho with ho;rw[<-ho];decide) m.2.1 0 h0
 refine ⟨by decide,Nat.le_refl _,hv,by omega,fun b hb=>?_⟩
 obtain ⟨i,hi,rfl⟩:=List.mem_iff_getElem.1 hb
 have h1:=hn i hi
 unfold openStep at h1
 have hz1:zz tMiner m=zz (.slc (.slc u8)) m.1+(zz (.slc tBuffer) m.2.1+0):=rfl
 have hz2:zz tBuffer m.2.1[i]+1<=zz (.slc tBuffer) m.2.1:=zz_mem (e:=tBuffer) hb
 have hz3:zz tBuffer m.2.1[i]=0+(zz (.slc tChange) (m.2.1[i]).2.1+0):=rfl
 refine ⟨?_,fun c hc=>?_⟩
 ·split at h1
  ·split at h1
   ·rename_i hf
    have:=(foldF_good hf).2.2
    omega
   ·cases h1
  ·cases h1
 ·have hz4:zz tChange c+1<=zz (.slc tChange) (m.2.1[i]).2.1:=zz_mem (e:=tChange) hc
  have hz5:zz tChange c=0+((0+(0+(0+(List.length c.2.1.2.2.2.1+0))))+(0+((0+(0+(0+(List.length c.2.2.2.1.2.2.2.1+0))))+0))):=rfl
  exact ⟨by omega,by omega⟩
def stepAll (m:Miner) (r:Record):MinerResult:=if minerF m=0 then stepM m r else badM (minerF m)
theorem implStepM_eq {m:Miner} (r:Record) (h:okM m) (hz:zz tMiner m<=1048576):impl_StepMiner.sem (m,r,())=some (stepAll m r,()):=by
 refine lift_eq (k:=0) fun k hk=>(impl_StepMiner.raw_eq k _).trans ?_
 show impl_StepMiner.p _=_
 unfold impl_StepMiner.p stepAll
 simp only[implMiner_eq m h,Option.bind_some]
 by_cases h0:minerF m=0
 ·simp only[h0,decide_true,Bool.not_true,cond_false,if_true,implStep_eq r (minerF_good h hz h0),Option.bind_some]
 ·simp only[h0,decide_false,Bool.not_false,cond_true,if_false]
theorem specStepM_eq {m:Miner} (r:Record) (h:okM m) (hz:zz tMiner m<=1048576):spec_StepMiner.sem (m,r,())=some (stepAll m r,()):=by
 refine lift_eq (k:=0) fun k hk=>(spec_StepMiner.raw_eq k _).trans ?_
 show spec_StepMiner.p _=_
 unfold spec_StepMiner.p stepAll
 simp only[specMiner_eq m h,specBadM_eq,specRec_eq,Option.bind_some]
 by_cases h0:minerF m=0
 ·simp only[h0,decide_true,Bool.not_true,cond_false,if_true]
  by_cases hr:recF r=0
  ·simp only[hr,decide_true,Bool.not_true,cond_false,specStep_eq r (minerF_good h hz h0) hr,Option.bind_some]
  ·simp only[hr,decide_false,Bool.not_false,cond_true,stepM,if_false]
 ·simp only[h0,decide_false,Bool.not_false,cond_true,if_false]
theorem stepAll_small {m:Miner} (r:Record) (h:okM m) (hz:zz tMiner m<=1048576):zz tMinerResult (stepAll m r)<=4000000000:=by
 unfold stepAll
 split
 ·rename_i h0
  have:=stepR_small (stepM_good r (minerF_good h hz h0))
  omega
 ·exact Nat.zero_le _
theorem stepMiner_true (v:laws_FnExactStepMiner.Arg) (hv:okA laws_FnExactStepMiner.ps v):laws_FnExactStepMiner.sem v=some (true,()):=by
 obtain ⟨m,r,⟨⟩⟩:=v
 obtain ⟨hv_m,hv_r,_⟩:=hv
 refine lift_eq (k:=0) fun k _=>(laws_FnExactStepMiner.raw_eq k _).trans ?_
 show laws_FnExactStepMiner.p _=_
 unfold laws_FnExactStepMiner.p
 simp only[szMiner_eq m 1048576 hv_m (show (0:Int)<=1048576 by omega) (by omega),Option.bind_some]
 by_cases hz1:((zz tMiner m:Nat):Int)<=1048576
 rotate_left
 ·have:lft (1048576) (zz tMiner m)=-1:=if_neg hz1
  simp only[this]
  rfl
 have e1:lft (1048576) (zz tMiner m)=1048576 - ((zz tMiner m:Nat):Int):=if_pos hz1
 have n1:¬ (1048576 - ((zz tMiner m:Nat):Int) < 0):=by omega
 simp only[e1,n1,decide_false,cond_false,szRecord_eq r _ hv_r (show (0:Int)<=1048576 - ((zz tMiner m:Nat):Int) by omega) (by omega),Option.bind_some]
 by_cases hz2:((zz tRecord r:Nat):Int)<=1048576 - ((zz tMiner m:Nat):Int)
 rotate_left
 ·have:lft (1048576 - ((zz tMiner m:Nat):Int)) (zz tRecord r)=-1:=if_neg hz2
  simp only[this]
  rfl
 have e2:lft (1048576 - ((zz tMiner m:Nat):Int)) (zz tRecord r)=1048576 - ((zz tMiner m:Nat):Int) - ((zz tRecord r:Nat):Int):=if_pos hz2
 have n2:¬ (1048576 - ((zz tMiner m:Nat):Int) - ((zz tRecord r:Nat):Int) < 0):=by omega
 have h1:okM m:=okM_of hv_m (by omega)
 have hR:=stepAll_small r h1 (by omega)
 have hB:BIG=4611686018427387904:=rfl
 obtain ⟨k',y,a1,a2,a3,a4⟩:=mhMinerResult (stepAll m r) 1 (by omega) (by omega)
 obtain ⟨l1,w1,b1,c1,d1⟩:=mkMiner m 1 (by omega) (by omega)
 obtain ⟨l2,w2,b2,c2,d2⟩:=mkRecord r l1 (by omega) (by omega)
 simp only[e2,n2,decide_false,cond_false,toMiner_eq m (by omega),toRecord_eq r (by omega),specStepM_eq r h1 (by omega),implStepM_eq r h1 (by omega),eqMinerResult_self (stepAll m r) (by omega),a1,a2,show ¬ k' < 0 by omega,eqMiner_self m (by omega),b1,show ¬ l1 < 0 by omega,eqRecord_self r (by omega),b2,show ¬ l2 < 0 by omega,Option.bind_some,Bool.not_true,decide_true,cond_true]
end OT
namespace Go.Proofs.YtljankkghppaiaaGreat.stepMiner
open Go Go.ChangeShapes Go.WideShapes Go.ChangeAt Go.RowKit
theorem own:ownKnob Tryz.prog.godebug=none:=by kernel_rfl
theorem laidOut:laidOutB Tryz.prog=true:=by kernel_rfl
theorem htrue:∀ v,OT.okA OT.laws_FnExactStepMiner.ps v->∃ u,OT.laws_FnExactStepMiner.sem v=some (true,u):=fun v hv=>⟨(),OT.stepMiner_true v hv⟩
theorem trod_len {H:Type} {enc:TypeId×Value->H} {P:Program} {w:World} {base:Nat} {sp:Nat->Bool} {held:Bool}:∀ (ts:List TypeId) (vs:List Value) (ds:List (DataW H)) (ps:List MemPlace),DataW.TrodAll enc P w base sp held ts vs ds ps->ds.length=ts.length
 | [],[],[],_,_=>rfl
 | _::ts,_::vs,_::ds,_,⟨_,q,_,h,_⟩=>congrArg (·+1) (trod_len ts vs ds q h)
 | [],_::_,_,_,h=>h.elim
 | [],[],_::_,_,h=>h.elim
 | _::_,[],_,_,h=>h.elim
 | _::_,_::_,[],_,h=>h.elim
set_option maxRecDepth 100000 in
theorem lifted (os:Os) (started:os.Started) (H:Type) (enc:TypeId×Value->H) :
  ReturnsInHanded {} Tryz.checked os 5 .any (Rows.fnExactStepMinerSpec.pre6 enc Tryz.prog Tryz.f5 Rows.fnExactStepMinerRow.domain false) (Rows.fnExactStepMinerSpec.post enc Tryz.prog Tryz.f5 false true false false):=by
 refine returnsInHanded_of_change (C:=Tryz.checked) own started (by kernel_rfl) Tryz.func5
  (ChangeSpec.witness6 (enc:=enc) (C:=Tryz.checked) false ⟨#[],#[.agg #[.slice none 0 0,.slice none 0 0],.agg #[.int .i64 0,.int .i64 0,.int .i64 0,.slice none 0 0]],[]⟩ 8 (by kernel_rfl) (by kernel_rfl) (by kernel_rfl) (by kernel_rfl)) ?_
 intro W base args ds gs before hval0 hW hcnd _
 have hval:∀ (j:Nat) t v,Tryz.f5.params[j]?=some t->args[j]?=some v->Value.okWide Tryz.prog W .any base t v:=hval0
 have hW':=hW
 obtain ⟨p,q,hA0,hV,rfl,hfz,hnd⟩:=hW
 have hA:DataW.TrodAll enc Tryz.prog W 0 (fun _=>true) true Tryz.f5.params.toList args.toList ds p:=hA0
 obtain ⟨rfl,rfl⟩:=trodVars_none hV
 simp only[List.append_nil] at hW'
 have hl:OT.roLay Tryz.prog OT.laws_FnExactStepMiner.ps Tryz.f5.params.toList=true:=by kernel_rfl
 have hc:=OT.law_calls (enc:=enc) (cap:=false) (ps:=OT.laws_FnExactStepMiner.ps) (Fn:=OT.laws_FnExactStepMiner.sem) OT.laws_FnExactStepMiner.ok.1 htrue hl hA (b0:=base) (fun j t v ht hv=>hval j t v (by simpa using ht) (by simpa using hv))
 simp only[Array.toArray_toList] at hc
 refine hc.mono fun e W' ⟨he,hb⟩=>?_
 refine ⟨_,he,OT.law_post (C:=Tryz.checked) laidOut rfl hl (by kernel_rfl) Tryz.underlying4 rfl hW' hA ?_ hb⟩
 have hlen:ds.length=2:=trod_len _ _ _ _ hA
 match ds,hlen with
 | [d1,d2],_=>rfl
set_option maxHeartbeats 8000000 in
theorem closed:joinedFacts Tryz.prog 5 Tryz.f5 Rows.fnExactStepMinerSpec Rows.fnExactStepMinerRow=true:=by
 unfold joinedFacts
 simp only[Bool.and_eq_true]
 repeat' apply And.intro
 all_goals (as_aux_lemma=>kernel_rfl)
theorem over:Rows.fnExactStepMinerRow.holds Tryz.pinned (OpenSpec.ofChange Rows.fnExactStepMinerSpec):=
 OpenClaim.holds_of_wide 5 Tryz.f5 rfl rfl rfl rfl rfl rfl rfl ⟨rfl,rfl,rfl,rfl,rfl⟩ rfl rfl rfl rfl rfl (by kernel_rfl) Tryz.func5 closed
  (of_decide_eq_true (by kernel_rfl)) (by unfold Func.isWrapper;first | (rw[if_pos (by decide +kernel)];kernel_rfl) | (rw[if_neg (by decide +kernel)];exact ⟨rfl,rfl⟩))
  (fun os started H enc _=>lifted os started H enc)
theorem proved:Rows.FnExactStepMinerSaid:=over
#print axioms proved
end Go.Proofs.YtljankkghppaiaaGreat.stepMiner
