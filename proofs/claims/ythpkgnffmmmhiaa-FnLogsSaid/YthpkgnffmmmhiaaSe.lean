/- FnLogs: the row; no conditions. -/
import Derived.Test.YthpkgnffmmmhiaaSd
import Derived.Test.YthpkgnffmmmhiaaRows
set_option linter.unusedVariables false
set_option linter.unusedSimpArgs false
set_option linter.unusedSectionVars false
namespace OT
open Go
def newB (b:UInt8):List UInt8:=((List.replicate 64 b).set 0 0).set 1 64
theorem newB_eq (v:Int) (h:v=0\/v=7):∃ p,spec_l2New.sem (UInt8.ofInt v,())=some (p,())/\PageOk p:=by
 rcases h with rfl | rfl
 ·refine ⟨newF,?_,newPg_ok.1⟩
  exact specNew_eq
 ·refine ⟨newB 7,lift_eq (k:=66) fun k hk=>?_,pageF_iff.1 (by decide +kernel)⟩
  obtain ⟨j,rfl⟩:∃ j,k=j+66:=⟨k - 66,by omega⟩
  exact (spec_l2New.raw_eq _ _).trans (by kernel_rfl)
theorem drawRight_ok {s:L1Src} {b:Int} (h:srcOk s b) (hb:b<=400000):∃ p t,spec_l2Right.sem (s,())=some (p,t,())/\PageOk p/\srcOk t (b+500):=by
 obtain ⟨v0,t0,e0,m0,s0⟩:=pick_ok h (by omega) [(0:Int),(0:Int),(7:Int)] (by simp) (by simp)
 obtain ⟨p0,e1,hp0⟩:=newB_eq v0 (by simp only[List.mem_cons,List.not_mem_nil,or_false] at m0;omega)
 obtain ⟨v,t1,e2,a2,c2,s1⟩:=next_ok (n:=14) s0 (by omega) (by omega) (by omega)
 have:=down_ex 700000 (B:=fun w v=>spec_l2Right.b0 w (spec_l2Right.q0 (s,())) (s,()) v) (fun s (l:List UInt8) i=>(s,l,i)) (fun _ l=>PageOk l) 20 (by omega) (fun s l=>(l,s,()))
  (fun m s x c hm hs hc hI=>by
   have hlt:(0:Int) < ((m+1:Nat):Int):=by omega
   obtain ⟨v1,t1,e1,a1,c1,s1⟩:=next_ok (n:=14) hs (by omega) (by omega) (by omega)
   have hw:w64 (1+v1)=((v1.toNat+1:Nat):Int):=by rw[w64_in (by omega)];omega
   obtain ⟨l,t2,e2,hl,s2⟩:=some_ok s1 (by omega) (v1.toNat+1) (by omega)
   obtain ⟨v3,t3,e3,a3,c3,s3⟩:=next_ok (n:=5) s2 (by omega) (by omega) (by omega)
   by_cases h0:v3=0
   ·obtain ⟨v4,t4,e4,a4,c4,s4⟩:=next_ok (n:=6) s3 (by omega) (by omega) (by omega)
    have e5:=specHas_eq hI v4.toNat
    rw[show ((v4.toNat:Nat):Int)=v4 by omega] at e5
    by_cases hh:v4.toNat < pn x/\psz x v4.toNat≠0
    ·have e6:=specDrop_eq hI hh.1
     rw[show ((v4.toNat:Nat):Int)=v4 by omega] at e6
     refine ⟨t4,dropQ x v4.toNat,s4.mono (by omega),(dropQ_ok hI hh.1).1,fun self=>?_⟩
     unfold spec_l2Right.b0
     simp only[hlt,decide_true,cond_true,e1,e2,e3,e4,e5,e6,Option.bind_some,down_w hm,hw,h0,hh.1,hh.2,decide_false,Bool.not_false,Bool.and_self]
    ·refine ⟨t4,x,s4.mono (by omega),hI,fun self=>?_⟩
     have e7:(decide (v4.toNat < pn x)&&!decide (psz x v4.toNat=0))=false:=by
      by_cases q1:v4.toNat < pn x
      ·have q2:psz x v4.toNat=0:=Decidable.byContradiction fun q=>hh ⟨q1,q⟩
       simp[q2]
      ·simp[q1]
     unfold spec_l2Right.b0
     simp only[hlt,decide_true,cond_true,e1,e2,e3,e4,e5,e7,Option.bind_some,down_w hm,hw,h0,cond_false]
   by_cases h1:v3=1
   ·obtain ⟨v4,t4,e4,a4,c4,s4⟩:=next_ok (n:=6) s3 (by omega) (by omega) (by omega)
    have e5:=specHas_eq hI v4.toNat
    rw[show ((v4.toNat:Nat):Int)=v4 by omega] at e5
    have n10:¬ (1:Int)=0:=by omega
    by_cases hh:v4.toNat < pn x/\psz x v4.toNat≠0
    ·have e6:=specSet_eq hI l (by omega) (by omega) hh.1 hh.2
     rw[show ((v4.toNat:Nat):Int)=v4 by omega] at e6
     by_cases hz:setF x v4.toNat l=0
     ·refine ⟨t4,setQ x v4.toNat l,s4.mono (by omega),(setQ_ok hI hh.1 hh.2 (by omega) hz).1,fun self=>?_⟩
      unfold spec_l2Right.b0
      simp only[hlt,decide_true,cond_true,e1,e2,e3,e4,e5,e6,Option.bind_some,down_w hm,hw,h1,n10,hh.1,hh.2,decide_false,Bool.not_false,Bool.and_self,cond_false,hz,if_true]
     ·refine ⟨t4,x,s4.mono (by omega),hI,fun self=>?_⟩
      unfold spec_l2Right.b0
      simp only[hlt,decide_true,cond_true,e1,e2,e3,e4,e5,e6,Option.bind_some,down_w hm,hw,h1,n10,hh.1,hh.2,decide_false,Bool.not_false,Bool.and_self,cond_false,hz,if_false]
    ·refine ⟨t4,x,s4.mono (by omega),hI,fun self=>?_⟩
     have e7:(decide (v4.toNat < pn x)&&!decide (psz x v4.toNat=0))=false:=by
      by_cases q1:v4.toNat < pn x
      ·have q2:psz x v4.toNat=0:=Decidable.byContradiction fun q=>hh ⟨q1,q⟩
       simp[q2]
      ·simp[q1]
     unfold spec_l2Right.b0
     simp only[hlt,decide_true,cond_true,e1,e2,e3,e4,e5,e7,Option.bind_some,down_w hm,hw,h1,n10,decide_false,cond_false]
   by_cases h2:v3=2
   ·obtain ⟨v4,t4,e4,s4⟩:=chance_ok (n:=3) s3 (by omega) (by omega) (by omega)
    have n20:¬ (2:Int)=0:=by omega
    have n21:¬ (2:Int)=1:=by omega
    cases v4 with
    | true=>
     refine ⟨t4,compQ x,s4.mono (by omega),(compQ_ok hI).1,fun self=>?_⟩
     unfold spec_l2Right.b0
     simp only[hlt,decide_true,cond_true,e1,e2,e3,e4,specComp_eq hI,Option.bind_some,down_w hm,hw,h2,n20,n21,decide_false,cond_false]
    | false=>
     refine ⟨t4,x,s4.mono (by omega),hI,fun self=>?_⟩
     unfold spec_l2Right.b0
     simp only[hlt,decide_true,cond_true,e1,e2,e3,e4,Option.bind_some,down_w hm,hw,h2,n20,n21,decide_false,cond_false]
   have e6:=gPut_eq hI l (by omega) (by omega)
   by_cases hz:putF x l=0
   ·refine ⟨t3,putQ x l,s3.mono (by omega),(putQ_ok hI (by omega) hz).1,fun self=>?_⟩
    unfold spec_l2Right.b0
    simp only[hlt,decide_true,cond_true,e1,e2,e3,e6,Option.bind_some,down_w hm,hw,h0,h1,h2,decide_false,cond_false,hz,if_true]
   ·refine ⟨t3,x,s3.mono (by omega),hI,fun self=>?_⟩
    unfold spec_l2Right.b0
    simp only[hlt,decide_true,cond_true,e1,e2,e3,e6,Option.bind_some,down_w hm,hw,h0,h1,h2,decide_false,cond_false,hz,if_false])
  (fun s x c _ _ self=>by
   unfold spec_l2Right.b0
   rw[decide_eq_false (Int.lt_irrefl _),cond_false]
   rfl) v.toNat t1 p0 (b+2) (by omega) (s1.mono (by omega)) hp0 (by omega)
 obtain ⟨t,l,a1',a2',a3'⟩:=this
 have hv:((v.toNat:Nat):Int)=v:=by omega
 rw[hv] at a3' a1'
 refine ⟨l,t,lift_eq (k:=16) fun k hk=>(spec_l2Right.raw_eq k _).trans ?_,a2',a1'.mono (by omega)⟩
 unfold spec_l2Right.p
 rw[e0]
 simp only[Option.bind_some,e1,e2]
 exact a3' k (by omega)
end OT
set_option linter.unusedVariables false
set_option linter.unusedSimpArgs false
namespace OT
open Go
def bl (x:Run):Int:=(List.length x.2.1:Int)
def runStep (s:Int) (x:Run):Sum (Int×Unit) Int:=
 if inB x.1 0 63 then (if inB (bl x) 1 64 then (if 64 < x.1+bl x then .inl (3,()) else if x.1 < s then .inl (1,()) else .inr (x.1+bl x+1)) else .inl (3,())) else .inl (3,())
def runsL (s:Int) (xs:List Run):Int:=(forI (fun _ s x=>runStep s x) (fun _=>((0:Int),())) 0 xs s).1
def runsF (xs:List Run):Int:=if 64 < xs.length then 2 else runsL 0 xs
theorem step_good {s s':Int} {x:Run} (h:runStep s x=.inr s'):0<=x.1/\x.1<=63/\1<=bl x/\bl x<=64/\x.1+bl x<=64/\s<=x.1/\s'=x.1+bl x+1:=by
 unfold runStep at h
 split at h
 ·rename_i h1
  split at h
  ·rename_i h2
   split at h
   ·cases h
   ·split at h
    ·cases h
    ·injection h with h
     simp only[inB,Bool.and_eq_true,decide_eq_true_eq] at h1 h2
     omega
  ·cases h
 ·cases h
theorem step_bad {s:Int} {x:Run} {o:Int×Unit} (h:runStep s x=.inl o):o.1≠0:=by
 unfold runStep at h
 split at h
 ·split at h
  ·split at h
   ·injection h with h;subst h;decide
   ·split at h
    ·injection h with h;subst h;decide
    ·cases h
  ·injection h with h;subst h;decide
 ·injection h with h;subst h;decide
theorem forI_ix {S O α:Type} {f:S->α->Sum O S} {fin:S->O}:∀ (xs:List α) (i j:Nat) (s:S),forI (fun _ s x=>f s x) fin i xs s=forI (fun _ s x=>f s x) fin j xs s
 | [],_,_,_=>rfl
 | x::xs,i,j,s=>by
  simp only[forI]
  split
  ·rfl
  ·exact forI_ix xs _ _ _
theorem runsL_cons (s:Int) (x:Run) (xs:List Run):runsL s (x::xs)=match runStep s x with | .inl o=>o.1 | .inr s'=>runsL s' xs:=by
 unfold runsL
 simp only[forI]
 cases h:runStep s x with
 | inl o=>rfl
 | inr s'=>simp only;rw[forI_ix xs 1 0]
theorem runsL_good:∀ (xs:List Run) (s:Int),runsL s xs=0->∀ x ∈ xs,0<=x.1/\x.1<=63/\1<=bl x/\bl x<=64
 | [],_,_,_,hx=>by cases hx
 | y::ys,s,h,x,hx=>by
  rw[runsL_cons] at h
  cases hs:runStep s y with
  | inl o=>rw[hs] at h;exact absurd h (step_bad hs)
  | inr s'=>
   rw[hs] at h
   have:=step_good hs
   rcases List.mem_cons.1 hx with e | e
   ·subst e;omega
   ·exact runsL_good ys s' h x e
theorem runsF_good {xs:List Run} (h:runsF xs=0):List.length xs<=64/\∀ x ∈ xs,0<=x.1/\x.1<=63/\1<=bl x/\bl x<=64:=by
 unfold runsF at h
 split at h
 ·cases h
 ·exact ⟨by omega,runsL_good xs 0 h⟩
theorem runsF_one {y z:Run} {ys:List Run} (h:runsF (y::z::ys)=0):List.length y.2.1≠64:=by
 unfold runsF at h
 split at h
 ·cases h
 ·rw[runsL_cons] at h
  cases hs:runStep 0 y with
  | inl o=>rw[hs] at h;exact absurd h (step_bad hs)
  | inr s'=>
   rw[hs] at h
   have h1:=step_good hs
   simp only[runsL_cons] at h
   cases hs2:runStep s' z with
   | inl o=>rw[hs2] at h;exact absurd h (step_bad hs2)
   | inr s2=>
    have h2:=step_good hs2
    have:bl y=(List.length y.2.1:Int):=rfl
    omega
theorem implRuns_eq (xs:List Run):impl_RunsFault.sem (xs,())=some (runsF xs,()):=by
 refine lift_eq (k:=66) fun k hk=>(impl_RunsFault.raw_eq k _).trans ?_
 unfold impl_RunsFault.p runsF
 by_cases hl:64 < xs.length
 ·have:(64:Int) < (xs.length:Int):=by omega
  simp only[hl,this,decide_true,cond_true,if_true]
 have hl':¬ (64:Int) < (xs.length:Int):=by omega
 have:=for_loop (B:=fun self v=>impl_RunsFault.B0 0 self (fun z=>impl_RunsFault.Q0 0 (xs,()) z) (xs,()) v) xs (fun (s:Int) (i:Int)=>(s,i)) (fun _ s x=>runStep s x) (fun _=>(0,())) (fun _ _=>True) (by rw[maxLen_val];omega)
  (fun i hi s self _=>by
   show impl_RunsFault.b0 _ _ _ _=_
   unfold impl_RunsFault.b0
   have hlt:(i:Int) < (xs.length:Int):=by omega
   simp only[hlt,decide_true,cond_true,Int.natCast_nonneg,if_true,Int.toNat_natCast,List.getElem?_eq_getElem hi,Option.bind_some,implIn_eq]
   generalize xs[i]=x
   unfold runStep bl inB
   by_cases a1:(0:Int)<=x.1
   rotate_left
   ·simp[a1]
   by_cases a2:x.1<=63
   rotate_left
   ·simp[a2]
   by_cases a3:(1:Int)<=(List.length x.2.1:Int)
   rotate_left
   ·simp[a1,a2,a3]
   by_cases a4:(List.length x.2.1:Int)<=64
   rotate_left
   ·simp[a1,a2,a4]
   have e1:w64 (x.1+(List.length x.2.1:Int))=x.1+(List.length x.2.1:Int):=w64_in (by omega)
   have e2:w64 (x.1+(List.length x.2.1:Int)+1)=x.1+(List.length x.2.1:Int)+1:=w64_in (by omega)
   simp only[a1,a2,a3,a4,e1,e2,decide_true,Bool.and_self,Bool.not_true,cond_false,if_true]
   by_cases a5:64 < x.1+(List.length x.2.1:Int)
   ·simp[a5]
   by_cases a6:x.1 < s
   ·simp[a5,a6]
   simp[a5,a6]) (fun _ _ _ _ _ _=>trivial) (fun s self _=>by
   show impl_RunsFault.b0 _ _ _ _=_
   unfold impl_RunsFault.b0
   simp[impl_RunsFault.Q0,impl_RunsFault.q0]) 0 trivial k (by omega)
 simp only[hl,if_false,hl',decide_false,cond_false]
 exact this
theorem specRuns_eq (xs:List Run):spec_l3Fault.sem (xs,())=some (runsF xs,()):=by
 refine lift_eq (k:=66) fun k hk=>(spec_l3Fault.raw_eq k _).trans ?_
 unfold spec_l3Fault.p runsF
 by_cases hl:64 < xs.length
 ·have:(64:Int) < (xs.length:Int):=by omega
  simp only[hl,this,decide_true,cond_true,if_true]
 have hl':¬ (64:Int) < (xs.length:Int):=by omega
 have:=for_loop (B:=fun self v=>spec_l3Fault.B0 0 self (fun z=>spec_l3Fault.Q0 0 (xs,()) z) (xs,()) v) xs (fun (s:Int) (i:Int)=>i) (fun _ s x=>runStep s x) (fun _=>(0,()))
  (fun i s=>(i=0->s=0)/\∀ y,0 < i->xs[i - 1]?=some y->0<=y.1/\y.1<=63/\bl y<=64/\s=y.1+bl y+1) (by rw[maxLen_val];omega)
  (fun i hi s self hI=>by
   show spec_l3Fault.b0 _ _ _ _=_
   unfold spec_l3Fault.b0
   have hlt:(i:Int) < (xs.length:Int):=by omega
   simp only[hlt,decide_true,cond_true,Int.natCast_nonneg,if_true,Int.toNat_natCast,List.getElem?_eq_getElem hi,Option.bind_some,specIn_eq]
   generalize xs[i]=x
   unfold runStep bl inB
   by_cases a1:(0:Int)<=x.1
   rotate_left
   ·simp[a1]
   by_cases a2:x.1<=63
   rotate_left
   ·simp[a2]
   by_cases a3:(1:Int)<=(List.length x.2.1:Int)
   rotate_left
   ·simp[a1,a2,a3]
   by_cases a4:(List.length x.2.1:Int)<=64
   rotate_left
   ·simp[a1,a2,a4]
   have e1:w64 (x.1+(List.length x.2.1:Int))=x.1+(List.length x.2.1:Int):=w64_in (by omega)
   simp only[a1,a2,a3,a4,e1,decide_true,Bool.and_self,Bool.not_true,cond_false,if_true]
   by_cases a5:64 < x.1+(List.length x.2.1:Int)
   ·simp[a5]
   by_cases h0:i=0
   ·subst h0
    have:=hI.1 rfl
    subst this
    have a6:¬ x.1 < 0:=by omega
    simp[a5,a6]
   ·have hi1:i - 1 < xs.length:=by omega
    obtain ⟨y0,y1,y2,y3⟩:=hI.2 xs[i - 1] (by omega) (List.getElem?_eq_getElem hi1)
    have hp:(0:Int) < (i:Int):=by omega
    have ew:w64 ((i:Int) - 1)=((i - 1:Nat):Int):=by rw[w64_in (by omega)];omega
    unfold bl at y2 y3
    have e2:w64 ((xs[i - 1]).1+(List.length (xs[i - 1]).2.1:Int))=(xs[i - 1]).1+(List.length (xs[i - 1]).2.1:Int):=w64_in (by omega)
    simp only[a5,hp,ew,e2,decide_true,decide_false,cond_true,cond_false,Int.natCast_nonneg,if_true,if_false,Int.toNat_natCast,List.getElem?_eq_getElem hi1,Option.bind_some]
    by_cases a6:x.1 < s
    ·have:x.1<=(xs[i - 1]).1+(List.length (xs[i - 1]).2.1:Int):=by omega
     simp[a6,this]
    ·have:¬ x.1<=(xs[i - 1]).1+(List.length (xs[i - 1]).2.1:Int):=by omega
     simp[a6,this])
  (fun i hi s s' _ hs=>⟨fun e=>by omega,fun y _ hy=>by
   rw[Nat.add_sub_cancel,List.getElem?_eq_getElem hi] at hy
   injection hy with hy;subst hy
   have:=step_good hs
   omega⟩) (fun s self _=>by
   show spec_l3Fault.b0 _ _ _ _=_
   unfold spec_l3Fault.b0
   simp[spec_l3Fault.Q0,spec_l3Fault.q0]) 0 ⟨fun _=>rfl,fun y h=>by omega⟩ k (by omega)
 simp only[hl,if_false,hl',decide_false,cond_false]
 exact this
def headF (k:Int) (xs:List Run):Int:=match xs with
 | []=>1
 | y::_=>if decide (k=4)&&!decide (List.length y.2.1=64) then 1 else 0
def recF (r:Record):Int:=
 if !inB r.1 1 6||(!inB r.1 2 4&&(!decide (r.2.2.1=0)||decide (0 < List.length r.2.2.2.1)))||(decide (r.1=4)&&!decide (r.2.1=0)) then 1
 else if (!decide (r.1=4)&&!inB r.2.1 1 99)||!inB r.2.2.1 0 11 then 3
 else if !inB r.1 2 4 then 0
 else if runsF r.2.2.2.1=0 then headF r.1 r.2.2.2.1 else runsF r.2.2.2.1
theorem spec4Runs_eq (k:Int):spec_l4Runs.sem (k,())=some (inB k 2 4,()):=by
 refine lift_eq (k:=0) fun n _=>(spec_l4Runs.raw_eq n _).trans ?_
 show spec_l4Runs.p _=_
 unfold spec_l4Runs.p
 simp[specIn_eq,inB]
theorem turns_eq (k:Int):impl_turns.sem (k,())=some (inB k 2 4,()):=by
 refine lift_eq (k:=0) fun n _=>(impl_turns.raw_eq n _).trans ?_
 show impl_turns.p _=_
 unfold impl_turns.p inB
 by_cases h1:k=2
 ·subst h1;rfl
 by_cases h2:k=3
 ·subst h2;rfl
 by_cases h3:k=4
 ·subst h3;rfl
 have:(decide ((2:Int)<=k)&&decide (k<=4))=false:=by
  by_cases h4:(2:Int)<=k
  ·have:¬ k<=4:=by omega
   simp[this]
  ·simp[h4]
 simp[h1,h2,h3,this]
theorem specRec_eq (r:Record):spec_l4Fault.sem (r,())=some (recF r,()):=by
 obtain ⟨k,t,p,xs,⟨⟩⟩:=r
 refine lift_eq (k:=0) fun n _=>(spec_l4Fault.raw_eq n _).trans ?_
 show spec_l4Fault.p _=_
 unfold spec_l4Fault.p recF
 simp only[specIn_eq,spec4Runs_eq,specRuns_eq,Option.bind_some,show ∀ a b c:Int,(decide (b<=a)&&decide (a<=c))=inB a b c from fun _ _ _=>rfl]
 have h0:decide ((0:Int) < (xs.length:Int))=decide (0 < xs.length):=by simp
 have hj:(spec_l3Fault.sem (xs,()))=some (runsF xs,()):=specRuns_eq xs
 rw[h0]
 have hh:(bif decide ((List.length xs:Int)=0) then some ((1:Int),()) else bif decide (k=4) then (xs[0]?).bind fun x23=>bif !decide ((List.length x23.2.1:Int)=64) then some ((1:Int),()) else some (0,()) else some (0,()))=some (headF k xs,()):=by
  cases xs with
  | nil=>rfl
  | cons y ys=>
   have:¬ ((List.length (y::ys):Int)=0):=by simp only[List.length_cons];omega
   simp only[this,decide_false,cond_false,headF,List.getElem?_cons_zero,Option.bind_some]
   have h64:decide ((List.length y.2.1:Int)=64)=decide (List.length y.2.1=64):=by
    by_cases h:List.length y.2.1=64
    ·simp[h]
    ·have:¬ ((List.length y.2.1:Int)=64):=by omega
     simp[h,this]
   rw[h64]
   cases decide (k=4) <;> cases decide (List.length y.2.1=64) <;> rfl
 rw[hh]
 by_cases hr:runsF xs=0
 ·simp only[hr,decide_true,Bool.not_true,cond_false,if_true]
  cases inB k 1 6 <;> cases inB k 2 4 <;> cases decide (p=0) <;> cases decide (0 < xs.length) <;> cases decide (k=4) <;> cases decide (t=0) <;> cases inB t 1 99 <;> cases inB p 0 11 <;> rfl
 ·simp only[hr,decide_false,Bool.not_false,cond_true,if_false]
  cases inB k 1 6 <;> cases inB k 2 4 <;> cases decide (p=0) <;> cases decide (0 < xs.length) <;> cases decide (k=4) <;> cases decide (t=0) <;> cases inB t 1 99 <;> cases inB p 0 11 <;> rfl
theorem implRec_eq (r:Record):impl_RecordFault.sem (r,())=some (recF r,()):=by
 obtain ⟨k,t,p,xs,⟨⟩⟩:=r
 refine lift_eq (k:=0) fun n _=>(impl_RecordFault.raw_eq n _).trans ?_
 show impl_RecordFault.p _=_
 unfold impl_RecordFault.p recF
 simp only[implIn_eq,turns_eq,isTx_eq,implRuns_eq,Option.bind_some,show ∀ a b c:Int,(decide (b<=a)&&decide (a<=c))=inB a b c from fun _ _ _=>rfl]
 have h0:decide ((0:Int) < (xs.length:Int))=decide (0 < xs.length):=by simp
 rw[h0]
 have hk:inB k 2 4=false->decide (k=4)=false:=by
  intro h
  by_cases e:k=4
  ·subst e;cases h
  ·simp[e]
 have h64:∀ y:Run,decide ((List.length y.2.1:Int)=64)=decide (List.length y.2.1=64):=fun y=>by
  by_cases h:List.length y.2.1=64
  ·simp[h]
  ·have:¬ ((List.length y.2.1:Int)=64):=by omega
   simp[h,this]
 have hz:decide (0 < xs.length)=false->xs=[]:=by
  intro h
  cases xs with
  | nil=>rfl
  | cons _ _=>simp at h
 have hh:runsF xs=0->(bif decide ((List.length xs:Int)=0) then some ((1:Int),()) else bif decide (k=4) then bif !decide ((List.length xs:Int)=1) then some ((1:Int),()) else (xs[0]?).bind fun x23=>bif !decide ((List.length x23.2.1:Int)=64) then some ((1:Int),()) else some (0,()) else some (0,()))=some (headF k xs,()):=by
  intro hr
  cases xs with
  | nil=>rfl
  | cons y ys=>
   have:¬ ((List.length (y::ys):Int)=0):=by simp only[List.length_cons];omega
   simp only[this,decide_false,cond_false,headF,List.getElem?_cons_zero,Option.bind_some,h64]
   cases ys with
   | nil=>cases decide (k=4) <;> cases decide (List.length y.2.1=64) <;> rfl
   | cons z ys=>
    have h1:=runsF_one hr
    have h2:¬ ((List.length (y::z::ys):Int)=1):=by simp only[List.length_cons];omega
    simp only[h1,h2,decide_false]
    cases decide (k=4) <;> rfl
 cases hk2:inB k 2 4 with
 | false=>
  have hk4:=hk hk2
  have hr0:runsF ([]:List Run)=0:=rfl
  simp only[hk4]
  by_cases hx:xs=[]
  ·subst hx
   cases inB k 1 6 <;> cases decide (p=0) <;> cases inB t 1 99 <;> cases inB p 0 11 <;> rfl
  ·have hx':decide (0 < xs.length)=true:=by
    cases xs with
    | nil=>exact absurd rfl hx
    | cons _ _=>simp
   simp only[hx']
   cases inB k 1 6 <;> cases decide (p=0) <;> rfl
 | true=>
  by_cases hr:runsF xs=0
  ·have hh:=hh hr
   simp only[hr,decide_true,Bool.not_true,cond_false,cond_true,if_true,hh]
   cases inB k 1 6 <;> cases decide (k=4) <;> cases decide (t=0) <;> cases inB t 1 99 <;> cases inB p 0 11 <;> rfl
  ·simp only[hr,decide_false,Bool.not_false,cond_true,if_false]
   cases inB k 1 6 <;> cases decide (k=4) <;> cases decide (t=0) <;> cases inB t 1 99 <;> cases inB p 0 11 <;> rfl
theorem recF_good {r:Record} (h:recF r=0):1<=r.1/\r.1<=6/\0<=r.2.1/\r.2.1<=99/\0<=r.2.2.1/\r.2.2.1<=11/\List.length r.2.2.2.1<=64/\∀ x ∈ r.2.2.2.1,0<=x.1/\x.1<=63/\1<=bl x/\bl x<=64:=by
 obtain ⟨k,t,p,xs,⟨⟩⟩:=r
 unfold recF at h
 split at h
 ·cases h
 rename_i h1
 split at h
 ·cases h
 rename_i h2
 have hx:List.length xs<=64/\∀ x ∈ xs,0<=x.1/\x.1<=63/\1<=bl x/\bl x<=64:=by
  split at h
  ·rename_i h3
   simp only[Bool.or_eq_true,Bool.and_eq_true,not_or,not_and,h3,forall_const] at h1
   cases xs with
   | nil=>exact ⟨by simp,fun x hx=>by cases hx⟩
   | cons y ys=>exact absurd (by simp) h1.1.2.2
  ·split at h
   ·rename_i h4;exact runsF_good h4
   ·rename_i h4;exact absurd h h4
 simp only[Bool.or_eq_true,Bool.and_eq_true,not_or,not_and,inB,Bool.not_eq_true',Bool.and_eq_false_iff,decide_eq_false_iff_not,decide_eq_true_eq] at h1 h2
 refine ⟨?_,?_,?_,?_,?_,?_,hx⟩ <;> by_cases hk:k=4 <;> simp_all <;> omega
end OT
set_option linter.unusedVariables false
set_option linter.unusedSimpArgs false
namespace OT
open Go
def flat1 (x:Run):List UInt8:=UInt8.ofInt x.1::UInt8.ofInt (List.length x.2.1:Int)::x.2.1
def flatR (xs:List Run):List UInt8:=xs.flatMap flat1
def head5 (r:Record):List UInt8:=[(0:UInt8),UInt8.ofInt r.1,UInt8.ofInt r.2.1,UInt8.ofInt r.2.2.1,UInt8.ofInt (List.length r.2.2.2.1:Int)]
def sumP (s:Int) (l:List UInt8):Int:=l.foldl (fun s c=>(s*31+(c.toNat:Int)) % 65521) s
def hdP (r:Record):List UInt8:=(head5 r++flatR r.2.2.2.1).set 0 (UInt8.ofInt (w64 (((head5 r++flatR r.2.2.2.1).length:Int)+2)))
def packF (r:Record):List UInt8:=hdP r++[UInt8.ofInt ((sumP 1 (hdP r)) / 256),UInt8.ofInt (sumP 1 (hdP r))]
def smallR (r:Record):Prop:=List.length r.2.2.2.1<=64/\∀ x ∈ r.2.2.2.1,List.length x.2.1<=64
theorem small_of {r:Record} (h:recF r=0):smallR r:=by
 have:=recF_good h
 refine ⟨this.2.2.2.2.2.2.1,fun x hx=>?_⟩
 have h2:=this.2.2.2.2.2.2.2 x hx
 unfold bl at h2
 omega
theorem flatR_append (xs ys:List Run):flatR (xs++ys)=flatR xs++flatR ys:=List.flatMap_append
theorem flatR_cons (x:Run) (xs:List Run):flatR (x::xs)=flat1 x++flatR xs:=List.flatMap_cons
theorem flatR_len {xs:List Run} (h:∀ x ∈ xs,List.length x.2.1<=64):(flatR xs).length<=66*xs.length:=by
 induction xs with
 | nil=>simp[flatR]
 | cons x xs ih=>
  have h1:=ih fun y hy=>h y (by simp[hy])
  have h2:=h x (by simp)
  rw[flatR_cons]
  simp only[List.length_append,List.length_cons,flat1]
  omega
theorem hdP_len (r:Record):(hdP r).length=5+(flatR r.2.2.2.1).length:=by simp[hdP,head5];omega
theorem packF_len (r:Record):(packF r).length=7+(flatR r.2.2.2.1).length:=by
 simp only[packF,List.length_append,hdP_len,List.length_cons,List.length_nil];omega
theorem packF_small {r:Record} (h:smallR r):(packF r).length<=5000:=by
 rw[packF_len]
 have:=flatR_len h.2
 have:=h.1
 omega
theorem sumP_in:∀ (l:List UInt8) (s:Int),0<=s/\s < 65521->0<=sumP s l/\sumP s l < 65521
 | [],s,h=>h
 | c::l,s,h=>sumP_in l ((s*31+(c.toNat:Int)) % 65521) ⟨Int.emod_nonneg _ (by omega),Int.emod_lt_of_pos _ (by omega)⟩
theorem byte_tmod {s:Int} (h:0<=s):UInt8.ofInt (s.tmod 256)=UInt8.ofInt s:=by
 rw[Int.tmod_eq_emod_of_nonneg h]
 apply UInt8.toBitVec_inj.1
 apply BitVec.eq_of_toNat_eq
 simp[UInt8.ofInt,BitVec.toNat_ofInt]
theorem fold_flat:∀ (xs:List Run) (s:List UInt8),xs.foldl (fun s x=>s++flat1 x) s=s++flatR xs
 | [],s=>by simp[flatR]
 | x::xs,s=>by rw[List.foldl_cons,fold_flat,flatR_cons,List.append_assoc]
theorem sum_step {s:Int} {c:UInt8} (h:0<=s/\s < 65521):((w64 ((w64 (s*(31:Int)))+(w64 (c.toNat:Int)))).tmod (65521:Int))=(s*31+(c.toNat:Int)) % 65521:=by
 have hc:=c.toNat_lt
 have e1:w64 (s*31)=s*31:=w64_in (by omega)
 have e2:w64 (c.toNat:Int)=(c.toNat:Int):=w64_in (by omega)
 have e3:w64 (s*31+(c.toNat:Int))=s*31+(c.toNat:Int):=w64_in (by omega)
 rw[e1,e2,e3,Int.tmod_eq_emod_of_nonneg (by omega)]
theorem specSum_eq (l:List UInt8) (h:l.length<=100000):spec_l4Sum.sem (l,())=some (sumP 1 l,()):=by
 refine lift_eq (k:=100001) fun k hk=>(spec_l4Sum.raw_eq k _).trans ?_
 have:=for_loop (B:=fun self v=>spec_l4Sum.B0 0 self (fun z=>spec_l4Sum.Q0 0 (l,()) z) (l,()) v) l (fun (s:Int) (i:Int)=>(s,i)) (fun _ s c=>.inr ((s*31+(c.toNat:Int)) % 65521)) (fun s=>(s,())) (fun _ s=>0<=s/\s < 65521) (by rw[maxLen_val];omega)
  (fun i hi s self hI=>by
   show spec_l4Sum.b0 _ _ _ _=_
   unfold spec_l4Sum.b0
   have hlt:(i:Int) < (l.length:Int):=by omega
   simp only[hlt,decide_true,cond_true,Int.natCast_nonneg,if_true,Int.toNat_natCast,List.getElem?_eq_getElem hi,Option.bind_some,sum_step hI])
  (fun i hi s s' hI hs=>by injection hs with hs;omega) (fun s self _=>by
   show spec_l4Sum.b0 _ _ _ _=_
   unfold spec_l4Sum.b0
   simp[spec_l4Sum.Q0,spec_l4Sum.q0]) 1 (by omega) k (by omega)
 rw[forI_fold] at this
 exact this
theorem specPack_eq (r:Record) (h:smallR r):spec_l4Pack.sem (r,())=some (packF r,()):=by
 obtain ⟨K,T,P,xs,⟨⟩⟩:=r
 obtain ⟨h1,h2⟩:=h
 simp only at h1 h2
 refine lift_eq (k:=100) fun k hk=>(spec_l4Pack.raw_eq k _).trans ?_
 have hlen:∀ i,(flatR (xs.take i)).length<=66*64:=fun i=>by
  have:=flatR_len (xs:=xs.take i) (fun x hx=>h2 x (List.mem_of_mem_take hx))
  have:(xs.take i).length<=xs.length:=by simp;omega
  omega
 have:=for_loop (B:=fun self v=>spec_l4Pack.B0 0 self (fun z=>spec_l4Pack.Q0 0 ((K,T,P,xs,()),()) z) ((K,T,P,xs,()),()) v) xs (fun (s:List UInt8) (i:Int)=>(s,i)) (fun _ s x=>.inr (s++flat1 x)) (fun s=>(let q:=s.set 0 (UInt8.ofInt (w64 ((s.length:Int)+2)));(q++[UInt8.ofInt ((sumP 1 q) / 256),UInt8.ofInt (sumP 1 q)],())))
  (fun i s=>s=head5 (K,T,P,xs,())++flatR (xs.take i)) (by rw[maxLen_val];omega)
  (fun i hi s self hI=>by
   show spec_l4Pack.b0 _ _ _ _=_
   unfold spec_l4Pack.b0
   have hlt:(i:Int) < (xs.length:Int):=by omega
   have hs:s.length<=5000:=by rw[hI];have:=hlen i;simp only[List.length_append,head5,List.length_cons,List.length_nil];omega
   have hx:=h2 xs[i] (List.getElem_mem hi)
   simp only[hlt,decide_true,cond_true,Int.natCast_nonneg,if_true,Int.toNat_natCast,List.getElem?_eq_getElem hi,Option.bind_some]
   generalize xs[i]=x at hx
   have c1:s.length+[UInt8.ofInt x.1,UInt8.ofInt (List.length x.2.1:Int)].length<=CAP:=cap_ok (by simp only[List.length_cons,List.length_nil];omega)
   have c2:(s++[UInt8.ofInt x.1,UInt8.ofInt (List.length x.2.1:Int)]).length+List.length x.2.1<=CAP:=cap_ok (by simp only[List.length_append,List.length_cons,List.length_nil];omega)
   simp only[c1,c2,if_true,flat1,List.append_assoc,List.cons_append,List.nil_append])
  (fun i hi s s' hI hs=>by
   injection hs with hs
   rw[<-hs,hI,List.take_succ_eq_append_getElem hi,flatR_append,List.append_assoc]
   simp[flatR]) (fun s self hI=>by
   show spec_l4Pack.b0 _ _ _ _=_
   unfold spec_l4Pack.b0
   have hs:5<=s.length/\s.length<=5000:=by rw[hI];have:=hlen xs.length;simp only[List.length_append,head5,List.length_cons,List.length_nil];omega
   simp only[Int.lt_irrefl,decide_false,cond_false,spec_l4Pack.Q0,spec_l4Pack.q0]
   have c0:(0:Int)<=0/\(0:Int) < (s.length:Int):=⟨by omega,by omega⟩
   rw[if_pos c0,List.getElem?_eq_getElem (by omega:0 < s.length)]
   simp only[Option.bind_some]
   generalize hq:s.set 0 (UInt8.ofInt (w64 ((s.length:Int)+2)))=q
   have hql:q.length=s.length:=by rw[<-hq];simp
   rw[specSum_eq q (by omega)]
   simp only[Option.bind_some]
   have hb:=sumP_in q 1 (by omega)
   have c1:q.length+[UInt8.ofInt (w64 ((sumP 1 q).tdiv 256)),UInt8.ofInt ((sumP 1 q).tmod 256)].length<=CAP:=cap_ok (by simp only[List.length_cons,List.length_nil];omega)
   rw[if_pos c1,byte_tmod hb.1,Int.tdiv_eq_ediv_of_nonneg hb.1,w64_in (by omega)]) (head5 (K,T,P,xs,())) (by simp[flatR]) k (by omega)
 rw[forI_fold,fold_flat] at this
 exact this
theorem implPack_eq (r:Record) (h:smallR r):impl_packed.sem (r,())=some (packF r,()):=by
 obtain ⟨K,T,P,xs,⟨⟩⟩:=r
 obtain ⟨h1,h2⟩:=h
 simp only at h1 h2
 refine lift_eq (k:=6000) fun k hk=>(impl_packed.raw_eq k _).trans ?_
 have hlen:∀ i,(flatR (xs.take i)).length<=66*64:=fun i=>by
  have:=flatR_len (xs:=xs.take i) (fun x hx=>h2 x (List.mem_of_mem_take hx))
  have:(xs.take i).length<=xs.length:=by simp;omega
  omega
 have sum2:∀ q:List UInt8,q.length<=5000->impl_packed.r1 k ((K,T,P,xs,()),()) q (q.length:Int) (1,0)=some (q++[UInt8.ofInt ((sumP 1 q) / 256),UInt8.ofInt (sumP 1 q)],()):=fun q hq=>by
  have:=for_loop (B:=fun self v=>impl_packed.B1 0 self (fun z=>impl_packed.Q1 0 ((K,T,P,xs,()),()) q (q.length:Int) z) ((K,T,P,xs,()),()) q (q.length:Int) v) q (fun (s:Int) (i:Int)=>(s,i)) (fun _ s c=>.inr ((s*31+(c.toNat:Int)) % 65521)) (fun s=>(q++[UInt8.ofInt (s / 256),UInt8.ofInt s],())) (fun _ s=>0<=s/\s < 65521) (by rw[maxLen_val];omega)
   (fun i hi s self hI=>by
    show impl_packed.b1 _ _ _ _ _ _=_
    unfold impl_packed.b1
    have hlt:(i:Int) < (q.length:Int):=by omega
    have hlt2:(0:Int)<=(i:Int)/\(i:Int) < (q.length:Int):=by omega
    simp only[hlt,hlt2,and_self,decide_true,cond_true,Int.natCast_nonneg,if_true,Int.toNat_natCast,List.getElem?_eq_getElem hi,Option.bind_some,sum_step hI])
   (fun i hi s s' hI hs=>by injection hs with hs;omega) (fun s self hI=>by
    show impl_packed.b1 _ _ _ _ _ _=_
    unfold impl_packed.b1
    simp only[Int.lt_irrefl,decide_false,cond_false,impl_packed.Q1,impl_packed.q1]
    have c1:q.length+[UInt8.ofInt (s.fdiv (2 ^ 8)),UInt8.ofInt s].length<=CAP:=cap_ok (by simp only[List.length_cons,List.length_nil];omega)
    rw[if_pos c1,Int.fdiv_eq_ediv_of_nonneg s (by omega:(0:Int)<=2 ^ 8)]
    rfl) 1 (by omega) k (by omega)
  rw[forI_fold] at this
  exact this
 have:=for_loop (B:=fun self v=>impl_packed.B0 k self (fun z=>impl_packed.Q0 k ((K,T,P,xs,()),()) z) ((K,T,P,xs,()),()) v) xs (fun (s:List UInt8) (i:Int)=>(s,i)) (fun _ s x=>.inr (s++flat1 x)) (fun s=>(let q:=s.set 0 (UInt8.ofInt (w64 ((s.length:Int)+2)));(q++[UInt8.ofInt ((sumP 1 q) / 256),UInt8.ofInt (sumP 1 q)],())))
  (fun i s=>s=head5 (K,T,P,xs,())++flatR (xs.take i)) (by rw[maxLen_val];omega)
  (fun i hi s self hI=>by
   show impl_packed.b0 _ _ _ _=_
   unfold impl_packed.b0
   have hlt:(i:Int) < (xs.length:Int):=by omega
   have hs:s.length<=5000:=by rw[hI];have:=hlen i;simp only[List.length_append,head5,List.length_cons,List.length_nil];omega
   have hx:=h2 xs[i] (List.getElem_mem hi)
   simp only[hlt,decide_true,cond_true,Int.natCast_nonneg,if_true,Int.toNat_natCast,List.getElem?_eq_getElem hi,Option.bind_some]
   generalize xs[i]=x at hx
   have c1:s.length+[UInt8.ofInt x.1,UInt8.ofInt (List.length x.2.1:Int)].length<=CAP:=cap_ok (by simp only[List.length_cons,List.length_nil];omega)
   have c2:(s++[UInt8.ofInt x.1,UInt8.ofInt (List.length x.2.1:Int)]).length+List.length x.2.1<=CAP:=cap_ok (by simp only[List.length_append,List.length_cons,List.length_nil];omega)
   simp only[c1,c2,if_true,flat1,List.append_assoc,List.cons_append,List.nil_append])
  (fun i hi s s' hI hs=>by
   injection hs with hs
   rw[<-hs,hI,List.take_succ_eq_append_getElem hi,flatR_append,List.append_assoc]
   simp[flatR]) (fun s self hI=>by
   show impl_packed.b0 _ _ _ _=_
   unfold impl_packed.b0
   have hs:5<=s.length/\s.length<=5000:=by rw[hI];have:=hlen xs.length;simp only[List.length_append,head5,List.length_cons,List.length_nil];omega
   simp only[Int.lt_irrefl,decide_false,cond_false,impl_packed.Q0,impl_packed.q0]
   have c0:(0:Int)<=0/\(0:Int) < (s.length:Int):=⟨by omega,by omega⟩
   rw[if_pos c0,List.getElem?_eq_getElem (by omega:0 < s.length)]
   simp only[Option.bind_some]
   generalize hq:s.set 0 (UInt8.ofInt (w64 ((s.length:Int)+2)))=q
   have hql:q.length=s.length:=by rw[<-hq];simp
   exact sum2 q (by omega)) (head5 (K,T,P,xs,())) (by simp[flatR]) k (by omega)
 rw[forI_fold,fold_flat] at this
 exact this
end OT
set_option linter.unusedVariables false
set_option linter.unusedSimpArgs false
namespace OT
open Go
def at8 (D:List UInt8) (i:Nat):Nat:=(D.getD i 0).toNat
theorem at8_lt (D:List UInt8) (i:Nat):at8 D i < 256:=UInt8.toNat_lt _
theorem at8_get {D:List UInt8} {i:Nat} (h:i < D.length):D[i]?=some D[i]/\(D[i]).toNat=at8 D i:=⟨List.getElem?_eq_getElem h,by simp[at8,h]⟩
def piece (D:List UInt8) (at' n:Nat):Run:=((at8 D at':Int),(D.take (at'+2+n)).drop (at'+2),())
def pI (D:List UInt8) (e:Nat):Nat->Nat->List Run->Option (List Run×Nat)
 | 0,a,rs=>some (rs,a)
 | c+1,a,rs=>if e < a+2 then none else if e < a+2+at8 D (a+1) then none else pI D e c (a+2+at8 D (a+1)) (rs++[piece D a (at8 D (a+1))])
def pS (D:List UInt8):Nat->Nat->List Run->List Run
 | 0,_,rs=>rs
 | c+1,a,rs=>if a+2<=D.length then (if D.length < a+2+at8 D (a+1) then rs else pS D c (a+2+at8 D (a+1)) (rs++[piece D a (at8 D (a+1))])) else rs
theorem pI_pS {D:List UInt8} {e:Nat} (he:e<=D.length):∀ (c a:Nat) (rs rs':List Run) (a':Nat),pI D e c a rs=some (rs',a')->pS D c a rs=rs'
 | 0,a,rs,rs',a',h=>by injection h with h;injection h
 | c+1,a,rs,rs',a',h=>by
  simp only[pI] at h
  split at h
  ·cases h
  ·split at h
   ·cases h
   ·simp only[pS]
    rw[if_pos (by omega),if_neg (by omega)]
    exact pI_pS he c _ _ _ _ h
theorem pI_pack {e:Nat}:∀ (ys:List Run) (pre suf:List UInt8) (rs:List Run),(∀ y ∈ ys,0<=y.1/\y.1<=63/\1<=bl y/\bl y<=64)->pre.length+(flatR ys).length<=e ->
  pI (pre++flatR ys++suf) e ys.length pre.length rs=some (rs++ys,pre.length+(flatR ys).length)
 | [],pre,suf,rs,_,_=>by simp[pI,flatR]
 | y::ys,pre,suf,rs,h,he=>by
  obtain ⟨b1,b2,b3,b4⟩:=h y (by simp)
  unfold bl at b3 b4
  have hD:pre++flatR (y::ys)++suf=(pre++flat1 y)++flatR ys++suf:=by rw[flatR_cons];simp only[List.append_assoc]
  have hf1:(flat1 y).length=2+List.length y.2.1:=by simp only[flat1,List.length_cons];omega
  have hfl:(flatR (y::ys)).length=2+List.length y.2.1+(flatR ys).length:=by rw[flatR_cons,List.length_append,hf1]
  have h8:∀ n:Int,0<=n->n<=64->((UInt8.ofInt n).toNat:Int)=n:=fun n h1 h2=>by
   simp[UInt8.ofInt,BitVec.toNat_ofInt];omega
  have g0:(at8 (pre++flatR (y::ys)++suf) pre.length:Int)=y.1:=by
   unfold at8
   rw[flatR_cons]
   simp only[flat1,List.append_assoc,List.getD_eq_getElem?_getD]
   rw[List.getElem?_append_right (Nat.le_refl _)]
   simpa using h8 y.1 b1 (by omega)
  have g1:at8 (pre++flatR (y::ys)++suf) (pre.length+1)=List.length y.2.1:=by
   unfold at8
   rw[flatR_cons]
   simp only[flat1,List.append_assoc,List.getD_eq_getElem?_getD]
   rw[List.getElem?_append_right (by omega)]
   have:=h8 (List.length y.2.1:Int) (by omega) b4
   simp only[Nat.add_sub_cancel_left,List.cons_append,List.getElem?_cons_succ,List.getElem?_cons_zero,Option.getD_some]
   omega
  have g2:piece (pre++flatR (y::ys)++suf) pre.length (List.length y.2.1)=y:=by
   obtain ⟨yi,yb,⟨⟩⟩:=y
   unfold piece
   have g0:(at8 (pre++flatR ((yi,yb,())::ys)++suf) pre.length:Int)=yi:=g0
   rw[g0]
   have:((pre++flatR ((yi,yb,())::ys)++suf).take (pre.length+2+yb.length)).drop (pre.length+2)=yb:=by
    rw[flatR_cons]
    simp only[flat1,List.append_assoc,List.cons_append]
    rw[List.take_append,List.drop_append]
    have e1:List.take (pre.length+2+yb.length) pre=pre:=List.take_of_length_le (by omega)
    have e2:pre.length+2+yb.length - pre.length=yb.length+1+1:=by omega
    rw[e1,e2]
    have e3:List.drop (pre.length+2) pre=[]:=List.drop_of_length_le (by omega)
    have e4:pre.length+2 - pre.length=1+1:=by omega
    rw[e3,e4]
    simp
   show (yi,((pre++flatR ((yi,yb,())::ys)++suf).take (pre.length+2+yb.length)).drop (pre.length+2),())=(yi,yb,())
   rw[this]
  simp only[List.length_cons,pI]
  rw[if_neg (by omega),g1,if_neg (by omega),g2,hD]
  have hl:(pre++flat1 y).length=pre.length+2+List.length y.2.1:=by rw[List.length_append,hf1];omega
  have:=pI_pack (e:=e) ys (pre++flat1 y) suf (rs++[y]) (fun z hz=>h z (by simp[hz])) (by rw[hl];omega)
  rw[hl] at this
  rw[this,hfl]
  simp only[List.append_assoc,List.cons_append,List.nil_append]
  congr 2
  omega
def readF (d:List UInt8):Option (Record×Nat):=
 if d.length < 7\/at8 d 0 < 7\/d.length < at8 d 0 then none else
 match pI (d.take (at8 d 0)) (at8 d 0 - 2) (at8 d 4) 5 [] with
 | none=>none
 | some (rs,a)=>if a=at8 d 0 - 2/\recF ((at8 d 1:Int),(at8 d 2:Int),(at8 d 3:Int),rs,())=0/\packF ((at8 d 1:Int),(at8 d 2:Int),(at8 d 3:Int),rs,())=d.take (at8 d 0) then
   some (((at8 d 1:Int),(at8 d 2:Int),(at8 d 3:Int),rs,()),at8 d 0) else none
theorem at8_take {d:List UInt8} {n i:Nat} (h:i < n) (hn:n<=d.length):at8 (d.take n) i=at8 d i:=by
 unfold at8
 simp only[List.getD_eq_getElem?_getD]
 rw[List.getElem?_take,if_pos h]
theorem pS_pI {D:List UInt8} (hl:7<=D.length) {rs:List Run} (hrs:pS D (at8 D 4) 5 []=rs) {k t p:Int} (hr:recF (k,t,p,rs,())=0) (hp:packF (k,t,p,rs,())=D):pI D (D.length - 2) (at8 D 4) 5 []=some (rs,D.length - 2):=by
 have hg:=recF_good hr
 have h1:=hg.2.2.2.2.2.2.1
 have h2:=hg.2.2.2.2.2.2.2
 simp only at h1 h2
 have hlen:=packF_len (k,t,p,rs,())
 rw[hp] at hlen
 simp only at hlen
 have hshape:∃ (pre suf:List UInt8),pre.length=5/\D=pre++flatR rs++suf/\pre[4]?=some (UInt8.ofInt (List.length rs:Int)):=by
  refine ⟨(head5 (k,t,p,rs,())).set 0 (UInt8.ofInt (w64 (((head5 (k,t,p,rs,())++flatR rs).length:Int)+2))),[UInt8.ofInt ((sumP 1 (hdP (k,t,p,rs,()))) / 256),UInt8.ofInt (sumP 1 (hdP (k,t,p,rs,())))],by simp[head5],?_,by simp[head5]⟩
  rw[<-hp]
  rfl
 obtain ⟨pre,suf,s1,s2,s3⟩:=hshape
 have h4:at8 D 4=List.length rs:=by
  unfold at8
  rw[s2]
  simp only[List.getD_eq_getElem?_getD,List.append_assoc]
  rw[List.getElem?_append_left (by omega),s3]
  simp[UInt8.ofInt,BitVec.toNat_ofInt]
  omega
 rw[h4]
 have:=pI_pack (e:=D.length - 2) rs pre suf [] h2 (by omega)
 rw[<-s2,s1] at this
 rw[this]
 simp only[List.nil_append]
 congr 2
 omega
theorem w64_nat {n:Nat} (h:n<=4000000000):w64 (n:Int)=(n:Int):=w64_in (by omega)
theorem equal_eq (a b:List UInt8) (h:a.length<=100000):slices_Equal_byte.sem (a,b,())=some (decide (a=b),()):=by
 refine lift_eq (k:=100001) fun k hk=>(slices_Equal_byte.raw_eq k _).trans ?_
 unfold slices_Equal_byte.p
 by_cases hl:a.length=b.length
 rotate_left
 ·have h1:¬ ((a.length:Int)=(b.length:Int)):=by omega
  have h2:¬ a=b:=fun e=>hl (by rw[e])
  simp only[h1,h2,decide_false,Bool.not_false,cond_true]
 have hl':(a.length:Int)=(b.length:Int):=by omega
 simp only[hl',decide_true,Bool.not_true,cond_false]
 have key:∀ (m i:Nat),a.length - i=m->i<=a.length->∀ j,m < j->rawIter (fun self v=>slices_Equal_byte.B0 k self (fun z=>slices_Equal_byte.Q0 k (a,b,()) z) (a,b,()) v) j (i:Int)=some (decide (a.drop i=b.drop i),()):=by
  intro m
  induction m with
  | zero=>
   intro i hm hi j hj
   have:i=a.length:=by omega
   subst this
   cases j with
   | zero=>omega
   | succ j=>
    show slices_Equal_byte.b0 _ _ _ _=_
    unfold slices_Equal_byte.b0
    simp only[Int.lt_irrefl,decide_false,cond_false,slices_Equal_byte.Q0,slices_Equal_byte.q0]
    rw[List.drop_length,hl,List.drop_length]
    simp
  | succ m ih=>
   intro i hm hi j hj
   have hlt:i < a.length:=by omega
   cases j with
   | zero=>omega
   | succ j=>
    show slices_Equal_byte.b0 _ _ _ _=_
    unfold slices_Equal_byte.b0
    have hlti:(i:Int) < (a.length:Int):=by omega
    have hlb:i < b.length:=by omega
    have hw:w64 ((i:Int)+1)=((i+1:Nat):Int):=by rw[w64_in (by omega)];omega
    simp only[hlti,decide_true,cond_true,Int.natCast_nonneg,if_true,Int.toNat_natCast,List.getElem?_eq_getElem hlt,List.getElem?_eq_getElem hlb,Option.bind_some,hw]
    rw[List.drop_eq_getElem_cons hlt,List.drop_eq_getElem_cons hlb]
    by_cases he:a[i]=b[i]
    ·simp only[he,decide_true,Bool.not_true,cond_false,List.cons.injEq,true_and]
     exact ih (i+1) (by omega) (by omega) j (by omega)
    ·have:¬ (((a[i]).toNat:Int)=((b[i]).toNat:Int)):=fun e=>he (UInt8.toNat_inj.1 (by omega))
     have h2:¬ (a[i]::a.drop (i+1)=b[i]::b.drop (i+1)):=fun e=>he (by injection e)
     simp only[this,h2,decide_false,Bool.not_false,cond_true]
 have:=key a.length 0 (by omega) (by omega) k (by omega)
 simp only[List.drop_zero] at this
 exact this
def zeroR:Record:=((0:Int),(0:Int),(0:Int),([]:List Run),())
theorem parseI_eq {D:List UInt8} (hD:7<=D.length) (hD2:D.length<=255) {a1:impl_read.Arg} {e0:(Record×Int)->Option impl_read.Out} {K T P N:Int} (hN:0<=N/\N<=255) {k:Nat} :
  ∀ (c a i:Nat) (rs:List Run),(i:Int)+c=N->a<=D.length - 2->rs.length<=i->∀ j,c < j ->
   rawIter (fun self v=>impl_read.B0 k self e0 a1 D ((D.length - 2:Nat):Int) N v) j ((K,T,P,rs,()),(a:Int),(i:Int))=match pI D (D.length - 2) c a rs with
    | none=>some (zeroR,(0:Int),())
    | some (rs',a')=>e0 ((K,T,P,rs',()),(a':Int)):=by
 intro c
 induction c with
 | zero=>
  intro a i rs hi ha hrs j hj
  cases j with
  | zero=>omega
  | succ j=>
   show impl_read.b0 _ _ a1 _ _ _ _=_
   unfold impl_read.b0
   have:¬ (i:Int) < N:=by omega
   simp only[this,decide_false,cond_false,pI]
 | succ c ih=>
  intro a i rs hi ha hrs j hj
  cases j with
  | zero=>omega
  | succ j=>
   show impl_read.b0 _ _ a1 _ _ _ _=_
   unfold impl_read.b0
   have h1:(i:Int) < N:=by omega
   have e1:w64 ((a:Int)+2)=((a+2:Nat):Int):=by rw[w64_in (by omega)];omega
   have e2:w64 ((a:Int)+1)=((a+1:Nat):Int):=by rw[w64_in (by omega)];omega
   have e3:w64 ((i:Int)+1)=((i+1:Nat):Int):=by rw[w64_in (by omega)];omega
   simp only[h1,decide_true,cond_true,e1,e2,e3,pI]
   by_cases h2:D.length - 2 < a+2
   ·have:((D.length - 2:Nat):Int) < ((a+2:Nat):Int):=by omega
    simp only[this,decide_true,cond_true,if_pos h2]
    rfl
   have h2':¬ ((D.length - 2:Nat):Int) < ((a+2:Nat):Int):=by omega
   obtain ⟨g1,g2⟩:=at8_get (show a+1 < D.length by omega)
   obtain ⟨g3,g4⟩:=at8_get (show a < D.length by omega)
   have hb:=at8_lt D (a+1)
   have hb2:=at8_lt D a
   simp only[h2',decide_false,cond_false,if_neg h2,Int.natCast_nonneg,if_true,Int.toNat_natCast,g1,g3,Option.bind_some,g2,g4,w64_nat (show at8 D (a+1)<=4000000000 by omega),w64_nat (show at8 D a<=4000000000 by omega)]
   have e4:w64 (((a+2:Nat):Int)+(at8 D (a+1):Int))=((a+2+at8 D (a+1):Nat):Int):=by rw[w64_in (by omega)];omega
   have e5:w64 ((2:Int)+(at8 D (a+1):Int))=((2+at8 D (a+1):Nat):Int):=by rw[w64_in (by omega)];omega
   have e6:w64 ((a:Int)+((2+at8 D (a+1):Nat):Int))=((a+2+at8 D (a+1):Nat):Int):=by rw[w64_in (by omega)];omega
   simp only[e4,e5,e6]
   by_cases h3:D.length - 2 < a+2+at8 D (a+1)
   ·have:((D.length - 2:Nat):Int) < ((a+2+at8 D (a+1):Nat):Int):=by omega
    simp only[this,decide_true,cond_true,if_pos h3]
    rfl
   have h3':¬ ((D.length - 2:Nat):Int) < ((a+2+at8 D (a+1):Nat):Int):=by omega
   have h4:((a+2:Nat):Int)<=((a+2+at8 D (a+1):Nat):Int)/\((a+2+at8 D (a+1):Nat):Int)<=(D.length:Int):=by omega
   simp only[h3',decide_false,cond_false,if_neg h3,h4,and_self,if_true,Int.toNat_natCast]
   rw[implCopied_eq _ (by simp only[List.length_drop,List.length_take];omega)]
   have hc:rs.length+[(((at8 D a:Nat):Int),((D.take (a+2+at8 D (a+1))).drop (a+2)),())].length<=CAP:=cap_ok (by simp only[List.length_cons,List.length_nil];omega)
   simp only[Option.bind_some,hc,if_true]
   exact ih (a+2+at8 D (a+1)) (i+1) _ (by omega) (by omega) (by simp;omega) j (by omega)
theorem parseS_eq {D:List UInt8} (hD:7<=D.length) (hD2:D.length<=255) {e0:Record->Option spec_l4Read.Out} {K T P:Int} {k:Nat} :
  ∀ (c a i:Nat) (rs:List Run),i+c=at8 D 4->a<=600->rs.length<=i->∀ j,c < j ->
   rawIter (fun self v=>spec_l4Read.B0 k self e0 (D,()) v) j ((K,T,P,rs,()),(a:Int),(i:Int))=e0 (K,T,P,pS D c a rs,()):=by
 intro c
 induction c with
 | zero=>
  intro a i rs hi ha hrs j hj
  cases j with
  | zero=>omega
  | succ j=>
   show spec_l4Read.b0 _ _ (D,()) _=_
   unfold spec_l4Read.b0
   obtain ⟨g1,g2⟩:=at8_get (show 4 < D.length by omega)
   have hb:=at8_lt D 4
   simp only[g1,Option.bind_some,g2,w64_nat (show at8 D 4<=4000000000 by omega)]
   have:¬ (i:Int) < (at8 D 4:Int):=by omega
   simp only[this,decide_false,cond_false,pS]
 | succ c ih=>
  intro a i rs hi ha hrs j hj
  cases j with
  | zero=>omega
  | succ j=>
   show spec_l4Read.b0 _ _ (D,()) _=_
   unfold spec_l4Read.b0
   obtain ⟨g1,g2⟩:=at8_get (show 4 < D.length by omega)
   have hb4:=at8_lt D 4
   have h1:(i:Int) < (at8 D 4:Int):=by omega
   have e1:w64 ((a:Int)+2)=((a+2:Nat):Int):=by rw[w64_in (by omega)];omega
   have e2:w64 ((a:Int)+1)=((a+1:Nat):Int):=by rw[w64_in (by omega)];omega
   have e3:w64 ((i:Int)+1)=((i+1:Nat):Int):=by rw[w64_in (by omega)];omega
   simp only[g1,Option.bind_some,g2,w64_nat (show at8 D 4<=4000000000 by omega),h1,decide_true,cond_true,e1,e2,e3,pS]
   by_cases h2:a+2<=D.length
   rotate_left
   ·have:¬ ((a+2:Nat):Int)<=(D.length:Int):=by omega
    simp only[this,decide_false,cond_false,if_neg h2]
   have h2':((a+2:Nat):Int)<=(D.length:Int):=by omega
   obtain ⟨g5,g6⟩:=at8_get (show a+1 < D.length by omega)
   obtain ⟨g3,g4⟩:=at8_get (show a < D.length by omega)
   have hb:=at8_lt D (a+1)
   have hb2:=at8_lt D a
   simp only[h2',decide_true,cond_true,if_pos h2,Int.natCast_nonneg,if_true,Int.toNat_natCast,g5,g3,Option.bind_some,g6,g4,w64_nat (show at8 D (a+1)<=4000000000 by omega),w64_nat (show at8 D a<=4000000000 by omega)]
   have e4:w64 (((a+2:Nat):Int)+(at8 D (a+1):Int))=((a+2+at8 D (a+1):Nat):Int):=by rw[w64_in (by omega)];omega
   simp only[e4]
   by_cases h3:D.length < a+2+at8 D (a+1)
   ·have:(D.length:Int) < ((a+2+at8 D (a+1):Nat):Int):=by omega
    simp only[this,decide_true,cond_true,if_pos h3]
   have h3':¬ (D.length:Int) < ((a+2+at8 D (a+1):Nat):Int):=by omega
   have h4:((a+2:Nat):Int)<=((a+2+at8 D (a+1):Nat):Int)/\((a+2+at8 D (a+1):Nat):Int)<=(D.length:Int):=by omega
   simp only[h3',decide_false,cond_false,if_neg h3,h4,and_self,if_true,Int.toNat_natCast]
   rw[specCopy_eq _ (by simp only[List.length_drop,List.length_take];omega)]
   have hc:rs.length+[(((at8 D a:Nat):Int),((D.take (a+2+at8 D (a+1))).drop (a+2)),())].length<=CAP:=cap_ok (by simp only[List.length_cons,List.length_nil];omega)
   simp only[Option.bind_some,hc,if_true]
   exact ih (a+2+at8 D (a+1)) (i+1) _ (by omega) (by omega) (by simp;omega) j (by omega)
theorem implRead_eq (d:List UInt8) (hd:d.length<=2000000000):impl_read.sem (d,())=some (match readF d with | none=>(zeroR,(0:Int),()) | some (r,n)=>(r,(n:Int),())):=by
 refine lift_eq (k:=300) fun k hk=>(impl_read.raw_eq k _).trans ?_
 unfold impl_read.p readF
 by_cases h7:d.length < 7
 ·have:(d.length:Int) < 7:=by omega
  simp only[this,decide_true,cond_true,h7,true_or,if_true]
  rfl
 have h7':¬ (d.length:Int) < 7:=by omega
 obtain ⟨g1,g2⟩:=at8_get (show 0 < d.length by omega)
 have hb:=at8_lt d 0
 simp only[h7',decide_false,cond_false,h7,false_or,g1,Option.bind_some,g2,w64_nat (show at8 d 0<=4000000000 by omega)]
 by_cases hl:d.length < at8 d 0
 ·have:(d.length:Int) < (at8 d 0:Int):=by omega
  simp only[this,decide_true,cond_true,hl,or_true,if_true]
  rfl
 have hl':¬ (d.length:Int) < (at8 d 0:Int):=by omega
 by_cases hm:at8 d 0 < 7
 ·have:(at8 d 0:Int) < 7:=by omega
  simp only[hl',decide_false,cond_false,this,decide_true,cond_true,hm,true_or,if_true]
  rfl
 have hm':¬ (at8 d 0:Int) < 7:=by omega
 have hin:0<=(at8 d 0:Int)/\(at8 d 0:Int)<=(d.length:Int):=by omega
 simp only[hl',hm',decide_false,cond_false,hl,hm,or_self,if_false,hin,and_self,if_true,Int.toNat_natCast,List.drop_zero]
 generalize hDD:d.take (at8 d 0)=D
 have hDl:D.length=at8 d 0:=by rw[<-hDD];simp;omega
 have ga:∀ i,i < at8 d 0->at8 D i=at8 d i:=fun i hi=>by rw[<-hDD];exact at8_take hi (by omega)
 obtain ⟨q1,q2⟩:=at8_get (show 1 < D.length by omega)
 obtain ⟨q3,q4⟩:=at8_get (show 2 < D.length by omega)
 obtain ⟨q5,q6⟩:=at8_get (show 3 < D.length by omega)
 obtain ⟨q7,q8⟩:=at8_get (show 4 < D.length by omega)
 have b1:=at8_lt d 1
 have b2:=at8_lt d 2
 have b3:=at8_lt d 3
 have b4:=at8_lt d 4
 have ew:w64 ((D.length:Int) - 2)=((D.length - 2:Nat):Int):=by rw[w64_in (by omega)];omega
 simp only[q1,q3,q5,q7,Option.bind_some,q2,q4,q6,q8,ga 1 (by omega),ga 2 (by omega),ga 3 (by omega),ga 4 (by omega),ew,w64_nat (show at8 d 1<=4000000000 by omega),w64_nat (show at8 d 2<=4000000000 by omega),w64_nat (show at8 d 3<=4000000000 by omega),w64_nat (show at8 d 4<=4000000000 by omega)]
 have hp:=parseI_eq (D:=D) (by omega) (by omega) (a1:=(d,())) (e0:=fun z=>impl_read.Q0 k (d,()) D ((D.length - 2:Nat):Int) (at8 d 4:Int) z) (K:=(at8 d 1:Int)) (T:=(at8 d 2:Int)) (P:=(at8 d 3:Int)) (N:=(at8 d 4:Int)) (by omega) (k:=k) (at8 d 4) 5 0 [] (by omega) (by omega) (Nat.le_refl _) k (by omega)
 refine Eq.trans hp ?_
 rw[<-hDl]
 cases hpi:pI D (D.length - 2) (at8 d 4) 5 [] with
 | none=>rfl
 | some q=>
  obtain ⟨rs,a⟩:=q
  simp only[impl_read.Q0,impl_read.q0]
  by_cases ha:a=D.length - 2
  rotate_left
  ·have:¬ ((a:Int)=((D.length - 2:Nat):Int)):=by omega
   simp only[this,decide_false,Bool.not_false,cond_true,ha,false_and,if_false]
   rfl
  subst ha
  simp only[decide_true,Bool.not_true,cond_false,implRec_eq,Option.bind_some,true_and]
  by_cases hr:recF ((at8 d 1:Int),(at8 d 2:Int),(at8 d 3:Int),rs,())=0
  rotate_left
  ·simp only[hr,decide_false,Bool.not_false,cond_true,false_and,if_false]
   rfl
  have hs:=small_of hr
  have hpl:=packF_small hs
  simp only[hr,decide_true,Bool.not_true,cond_false,implPack_eq _ hs,Option.bind_some,true_and]
  rw[equal_eq _ _ (by omega)]
  by_cases he:packF ((at8 d 1:Int),(at8 d 2:Int),(at8 d 3:Int),rs,())=D
  ·simp only[he,decide_true,Option.bind_some,Bool.not_true,cond_false,if_true]
  ·simp only[he,decide_false,Option.bind_some,Bool.not_false,cond_true,if_false]
   rfl
theorem specRead_eq (d:List UInt8) (hd:d.length<=2000000000):spec_ReadRecord.sem (d,())=some (match readF d with | none=>(((5:Int),(0:Int),zeroR,()),()) | some (r,n)=>(((0:Int),(n:Int),r,()),())):=by
 refine lift_eq (k:=300) fun k hk=>(spec_ReadRecord.raw_eq k _).trans ?_
 show spec_ReadRecord.p _=_
 unfold spec_ReadRecord.p readF
 by_cases h7:d.length < 7
 ·have:(d.length:Int) < 7:=by omega
  simp only[this,decide_true,cond_true,h7,true_or,if_true]
  rfl
 have h7':¬ (d.length:Int) < 7:=by omega
 obtain ⟨g1,g2⟩:=at8_get (show 0 < d.length by omega)
 have hb:=at8_lt d 0
 simp only[h7',decide_false,cond_false,h7,false_or,g1,Option.bind_some,g2,w64_nat (show at8 d 0<=4000000000 by omega)]
 by_cases hm:at8 d 0 < 7
 ·have:(at8 d 0:Int) < 7:=by omega
  simp only[this,decide_true,cond_true,hm,true_or,if_true]
  rfl
 have hm':¬ (at8 d 0:Int) < 7:=by omega
 by_cases hl:d.length < at8 d 0
 ·have:(d.length:Int) < (at8 d 0:Int):=by omega
  simp only[hm',decide_false,cond_false,this,decide_true,cond_true,hl,or_true,if_true]
  rfl
 have hl':¬ (d.length:Int) < (at8 d 0:Int):=by omega
 have hin:0<=(at8 d 0:Int)/\(at8 d 0:Int)<=(d.length:Int):=by omega
 simp only[hl',hm',decide_false,cond_false,hl,hm,or_self,if_false,hin,and_self,if_true,Int.toNat_natCast,List.drop_zero]
 generalize hDD:d.take (at8 d 0)=D
 have hDl:D.length=at8 d 0:=by rw[<-hDD];simp;omega
 have ga:∀ i,i < at8 d 0->at8 D i=at8 d i:=fun i hi=>by rw[<-hDD];exact at8_take hi (by omega)
 have hread:spec_l4Read.sem (D,())=some (((at8 d 1:Int),(at8 d 2:Int),(at8 d 3:Int),pS D (at8 d 4) 5 [],()),()):=by
  refine lift_eq (k:=300) fun k hk=>(spec_l4Read.raw_eq k _).trans ?_
  unfold spec_l4Read.p
  obtain ⟨q1,q2⟩:=at8_get (show 1 < D.length by omega)
  obtain ⟨q3,q4⟩:=at8_get (show 2 < D.length by omega)
  obtain ⟨q5,q6⟩:=at8_get (show 3 < D.length by omega)
  have b1:=at8_lt d 1
  have b2:=at8_lt d 2
  have b3:=at8_lt d 3
  have b4:=at8_lt d 4
  simp only[q1,q3,q5,Option.bind_some,q2,q4,q6,ga 1 (by omega),ga 2 (by omega),ga 3 (by omega),w64_nat (show at8 d 1<=4000000000 by omega),w64_nat (show at8 d 2<=4000000000 by omega),w64_nat (show at8 d 3<=4000000000 by omega)]
  have hp:=parseS_eq (D:=D) (by omega) (by omega) (e0:=fun z=>spec_l4Read.Q0 k (D,()) z) (K:=(at8 d 1:Int)) (T:=(at8 d 2:Int)) (P:=(at8 d 3:Int)) (k:=k) (at8 D 4) 5 0 [] (by omega) (by omega) (Nat.le_refl _) k (by rw[ga 4 (by omega)];omega)
  refine Eq.trans hp ?_
  rw[ga 4 (by omega)]
  rfl
 rw[hread]
 simp only[Option.bind_some,specRec_eq]
 rw[<-hDl]
 generalize hrs:pS D (at8 d 4) 5 []=rs
 by_cases hr:recF ((at8 d 1:Int),(at8 d 2:Int),(at8 d 3:Int),rs,())=0
 ·have hs:=small_of hr
  simp only[hr,decide_true,Bool.not_true,cond_false,specPack_eq _ hs,Option.bind_some]
  by_cases he:packF ((at8 d 1:Int),(at8 d 2:Int),(at8 d 3:Int),rs,())=D
  ·have h4:at8 D 4=at8 d 4:=ga 4 (by omega)
   have hpi:=pS_pI (D:=D) (by omega) (by rw[h4];exact hrs) hr he
   rw[h4] at hpi
   rw[hpi]
   simp[he,hr]
  ·simp only[he,decide_false,Bool.not_false,cond_true]
   cases hpi:pI D (D.length - 2) (at8 d 4) 5 [] with
   | none=>rfl
   | some q=>
    obtain ⟨rs',a'⟩:=q
    have:=pI_pS (by omega) _ _ _ _ _ hpi
    rw[hrs] at this
    subst this
    simp only[he,and_false,if_false]
    rfl
 ·simp only[hr,decide_false,Bool.not_false,cond_true]
  cases hpi:pI D (D.length - 2) (at8 d 4) 5 [] with
  | none=>rfl
  | some q=>
   obtain ⟨rs',a'⟩:=q
   have:=pI_pS (by omega) _ _ _ _ _ hpi
   rw[hrs] at this
   subst this
   simp only[hr,false_and,and_false,if_false]
   rfl
end OT
set_option linter.unusedVariables false
set_option linter.unusedSimpArgs false
namespace OT
open Go
theorem readF_n {d:List UInt8} {r:Record} {n:Nat} (h:readF d=some (r,n)):7<=n/\n<=d.length/\recF r=0:=by
 unfold readF at h
 split at h
 ·cases h
 ·rename_i hc
  split at h
  ·cases h
  ·split at h
   ·rename_i hh
    injection h with h
    injection h with h1 h2
    subst h1
    omega
   ·cases h
theorem readF_nil:readF []=none:=rfl
def readAllF:Nat->List UInt8->List Record×Nat
 | 0,_=>([],0)
 | k+1,d=>match readF d with
  | none=>([],0)
  | some (r,n)=>(r::(readAllF k (d.drop n)).1,n+(readAllF k (d.drop n)).2)
theorem readAllF_fuel:∀ (k k':Nat) (d:List UInt8),d.length < k->d.length < k'->readAllF k d=readAllF k' d
 | 0,_,_,h,_=>by omega
 | _+1,0,_,_,h=>by omega
 | k+1,k'+1,d,h,h'=>by
  simp only[readAllF]
  cases hr:readF d with
  | none=>rfl
  | some q=>
   obtain ⟨r,n⟩:=q
   have hn:=readF_n hr
   have:(d.drop n).length=d.length - n:=List.length_drop
   simp only
   rw[readAllF_fuel k k' (d.drop n) (by omega) (by omega)]
def allF (d:List UInt8):List Record×Nat:=readAllF (d.length+1) d
theorem implAll_eq (d:List UInt8) (hd:d.length<=1048576):impl_readAll.sem (d,())=some ((allF d).1,((allF d).2:Int),()):=by
 refine lift_eq (k:=1048578) fun k hk=>(impl_readAll.raw_eq k _).trans ?_
 have key:∀ (m a:Nat) (acc:List Record),d.length - a=m->a<=d.length->acc.length<=a->∀ j,m < j ->
   rawIter (fun self v=>impl_readAll.B0 k self (d,()) v) j (acc,(a:Int))=some (acc++(readAllF (m+1) (d.drop a)).1,((a+(readAllF (m+1) (d.drop a)).2:Nat):Int),()):=by
  intro m
  induction m using Nat.strongRecOn with
  | ind m ih=>
  intro a acc hm ha hacc j hj
  cases j with
  | zero=>omega
  | succ j=>
   show impl_readAll.b0 _ _ _=_
   unfold impl_readAll.b0
   have hin:(0:Int)<=(a:Int)/\(a:Int)<=(d.length:Int):=by omega
   simp only[hin,and_self,if_true,Int.toNat_natCast,List.take_length]
   rw[implRead_eq _ (by simp;omega)]
   simp only[Option.bind_some,readAllF]
   cases hr:readF (d.drop a) with
   | none=>simp only[decide_true,cond_true,List.append_nil,Nat.add_zero];try rfl
   | some q=>
    obtain ⟨r,n⟩:=q
    have hn:=readF_n hr
    have hl:(d.drop a).length=d.length - a:=List.length_drop
    have h0:¬ ((n:Int)=0):=by omega
    have hc:acc.length+[r].length<=CAP:=cap_ok (by simp only[List.length_cons,List.length_nil];omega)
    have ew:w64 ((a:Int)+(n:Int))=((a+n:Nat):Int):=by rw[w64_in (by omega)];omega
    simp only[h0,decide_false,cond_false,hc,if_true,ew]
    have:=ih (d.length - (a+n)) (by omega) (a+n) (acc++[r]) rfl (by omega) (by simp;omega) j (by omega)
    refine Eq.trans this ?_
    have hdd:(d.drop a).drop n=d.drop (a+n):=by rw[List.drop_drop]
    have hl2:(d.drop (a+n)).length=d.length - (a+n):=List.length_drop
    rw[hdd,readAllF_fuel m (d.length - (a+n)+1) (d.drop (a+n)) (by omega) (by omega)]
    simp only[List.append_assoc,List.cons_append,List.nil_append,Nat.add_assoc]
 have:=key d.length 0 [] rfl (by omega) (Nat.le_refl _) k (by omega)
 simp only[List.drop_zero,List.nil_append,Nat.zero_add] at this
 exact this
theorem specAll_eq (d:List UInt8) (hd:d.length<=1048576):spec_l5Read.sem (d,())=some ((allF d).1,((allF d).2:Int),()):=by
 refine lift_eq (k:=1048578) fun k hk=>(spec_l5Read.raw_eq k _).trans ?_
 have key:∀ (m a:Nat) (acc:List Record),d.length - a=m->a<=d.length->acc.length<=a->∀ j,m < j ->
   rawIter (fun self v=>spec_l5Read.B0 k self (fun z=>spec_l5Read.Q0 k (d,()) z) (d,()) v) j (acc,(a:Int))=some (acc++(readAllF (m+1) (d.drop a)).1,((a+(readAllF (m+1) (d.drop a)).2:Nat):Int),()):=by
  intro m
  induction m using Nat.strongRecOn with
  | ind m ih=>
  intro a acc hm ha hacc j hj
  cases j with
  | zero=>omega
  | succ j=>
   show spec_l5Read.b0 _ _ (d,()) _=_
   unfold spec_l5Read.b0
   by_cases hlt:a < d.length
   rotate_left
   ·have h1:¬ (a:Int) < (d.length:Int):=by omega
    have h2:d.drop a=[]:=List.drop_of_length_le (by omega)
    simp only[h1,decide_false,cond_false,spec_l5Read.Q0,spec_l5Read.q0,h2,readAllF,readF_nil,List.append_nil,Nat.add_zero]
    try rfl
   have hlt':(a:Int) < (d.length:Int):=by omega
   have hin:(0:Int)<=(a:Int)/\(a:Int)<=(d.length:Int):=by omega
   simp only[hlt',decide_true,cond_true,hin,and_self,if_true,Int.toNat_natCast,List.take_length]
   rw[specRead_eq _ (by simp;omega)]
   simp only[Option.bind_some,readAllF]
   cases hr:readF (d.drop a) with
   | none=>
    have h5:¬ ((5:Int)=0):=by omega
    simp only[h5,decide_false,Bool.not_false,cond_true,List.append_nil,Nat.add_zero,spec_l5Read.Q0,spec_l5Read.q0];try rfl
   | some q=>
    obtain ⟨r,n⟩:=q
    have hn:=readF_n hr
    have hl:(d.drop a).length=d.length - a:=List.length_drop
    have hc:acc.length+[r].length<=CAP:=cap_ok (by simp only[List.length_cons,List.length_nil];omega)
    have ew:w64 ((a:Int)+(n:Int))=((a+n:Nat):Int):=by rw[w64_in (by omega)];omega
    simp only[decide_true,Bool.not_true,cond_false,hc,if_true,ew]
    have:=ih (d.length - (a+n)) (by omega) (a+n) (acc++[r]) rfl (by omega) (by simp;omega) j (by omega)
    refine Eq.trans this ?_
    have hdd:(d.drop a).drop n=d.drop (a+n):=by rw[List.drop_drop]
    have hl2:(d.drop (a+n)).length=d.length - (a+n):=List.length_drop
    rw[hdd,readAllF_fuel m (d.length - (a+n)+1) (d.drop (a+n)) (by omega) (by omega)]
    simp only[List.append_assoc,List.cons_append,List.nil_append,Nat.add_assoc]
 have:=key d.length 0 [] rfl (by omega) (Nat.le_refl _) k (by omega)
 simp only[List.drop_zero,List.nil_append,Nat.zero_add] at this
 exact this
def okL (l:Log):Prop:=List.length l.1<=1048576/\List.length l.2.1<=1048576
def wholeB (d:List UInt8):Bool:=decide ((allF d).2=d.length)
def logF (l:Log):Int:=if 16000 < List.length l.1+List.length l.2.1 then 2 else if wholeB l.1&&wholeB l.2.1 then 0 else 5
def appF (l:Log) (r:Record):LogResult:=
 if logF l=0 then (if recF r=0 then (if 16000 < List.length l.1+List.length l.2.1+(packF r).length then ((9:Int),(([]:List UInt8),([]:List UInt8),()),()) else ((0:Int),(l.1,l.2.1++packF r,()),()))
  else (recF r,(([]:List UInt8),([]:List UInt8),()),())) else (logF l,(([]:List UInt8),([]:List UInt8),()),())
theorem whole_int (d:List UInt8):decide (((allF d).2:Int)=(d.length:Int))=wholeB d:=by
 unfold wholeB
 by_cases h:(allF d).2=d.length
 ·simp[h]
 ·have:¬ ((allF d).2:Int)=(d.length:Int):=by omega
  simp[h,this]
theorem specLog_eq (l:Log) (h:okL l):spec_l5Fault.sem (l,())=some (logF l,()):=by
 refine lift_eq (k:=0) fun k _=>(spec_l5Fault.raw_eq k _).trans ?_
 show spec_l5Fault.p _=_
 unfold spec_l5Fault.p logF
 obtain ⟨h1,h2⟩:=h
 have ew:w64 ((List.length l.1:Int)+(List.length l.2.1:Int))=((List.length l.1+List.length l.2.1:Nat):Int):=by rw[w64_in (by omega)];omega
 simp only[ew,specAll_eq _ h1,specAll_eq _ h2,Option.bind_some,whole_int]
 by_cases hc:16000 < List.length l.1+List.length l.2.1
 ·have:(16000:Int) < ((List.length l.1+List.length l.2.1:Nat):Int):=by omega
  simp only[this,hc,decide_true,cond_true,if_true]
  try rfl
 ·have:¬ (16000:Int) < ((List.length l.1+List.length l.2.1:Nat):Int):=by omega
  simp only[this,hc,decide_false,cond_false,if_false]
  cases wholeB l.1 <;> cases wholeB l.2.1 <;> rfl
theorem size_eq (l:Log) (h:okL l):impl_Log_size.sem (l,())=some (((List.length l.1+List.length l.2.1:Nat):Int),()):=by
 refine lift_eq (k:=0) fun k _=>(impl_Log_size.raw_eq k _).trans ?_
 show impl_Log_size.p _=_
 unfold impl_Log_size.p
 obtain ⟨h1,h2⟩:=h
 have ew:w64 ((List.length l.1:Int)+(List.length l.2.1:Int))=((List.length l.1+List.length l.2.1:Nat):Int):=by rw[w64_in (by omega)];omega
 rw[ew]
 try rfl
theorem implLog_eq (l:Log) (h:okL l):impl_LogFault.sem (l,())=some (logF l,()):=by
 refine lift_eq (k:=5) fun k hk=>(impl_LogFault.raw_eq k _).trans ?_
 unfold impl_LogFault.p logF
 rw[size_eq l h]
 have hl:∀ x ∈ [l.1,l.2.1],List.length x<=1048576:=by
  intro x hx
  simp only[List.mem_cons,List.not_mem_nil,or_false] at hx
  rcases hx with e | e <;> subst e
  ·exact h.1
  ·exact h.2
 have:=for_loop (B:=fun self v=>impl_LogFault.B0 0 self (fun z=>impl_LogFault.Q0 0 (l,()) z) (l,()) v) [l.1,l.2.1] (fun (_:Unit) (i:Int)=>i) (fun _ _ x=>if wholeB x then .inr () else .inl (5,())) (fun _=>(0,())) (fun _ _=>True) (by rw[maxLen_val];simp)
  (fun i hi s self hI=>by
   show impl_LogFault.b0 _ _ _ _=_
   unfold impl_LogFault.b0
   have hlt:(i:Int) < ([l.1,l.2.1].length:Int):=by omega
   have hin:(0:Int)<=(i:Int)/\(i:Int) < ([l.1,l.2.1].length:Int):=by omega
   simp only[hlt,hin,and_self,decide_true,cond_true,if_true,Int.toNat_natCast,List.getElem?_eq_getElem hi,Option.bind_some]
   have hx:=hl [l.1,l.2.1][i] (List.getElem_mem hi)
   generalize [l.1,l.2.1][i]=x at hx
   rw[implAll_eq x hx]
   simp only[Option.bind_some,whole_int]
   cases wholeB x <;> rfl)
  (fun _ _ _ _ _ _=>trivial) (fun s self _=>by
   show impl_LogFault.b0 _ _ _ _=_
   unfold impl_LogFault.b0
   simp[impl_LogFault.Q0,impl_LogFault.q0]) () trivial k (by simp only[List.length_cons,List.length_nil];omega)
 rw[forI_check wholeB (5,()) (fun _=>(0,()))] at this
 have this:impl_LogFault.r0 k (l,()) 0=_:=this
 simp only[Option.bind_some,this]
 by_cases hc:16000 < List.length l.1+List.length l.2.1
 ·have:(16000:Int) < ((List.length l.1+List.length l.2.1:Nat):Int):=by omega
  simp only[this,hc,decide_true,cond_true,if_true]
 ·have:¬ (16000:Int) < ((List.length l.1+List.length l.2.1:Nat):Int):=by omega
  simp only[this,hc,decide_false,cond_false,if_false,List.all_cons,List.all_nil,Bool.and_true]
  cases wholeB l.1 <;> cases wholeB l.2.1 <;> rfl
theorem specAppend_eq (l:Log) (r:Record) (h:okL l):spec_AppendLog.sem (l,r,())=some (appF l r,()):=by
 refine lift_eq (k:=0) fun k _=>(spec_AppendLog.raw_eq k _).trans ?_
 show spec_AppendLog.p _=_
 unfold spec_AppendLog.p appF
 simp only[specLog_eq l h,specRec_eq,Option.bind_some]
 by_cases h1:logF l=0
 rotate_left
 ·simp only[h1,decide_false,Bool.not_false,cond_true,if_false]
  try rfl
 by_cases h2:recF r=0
 rotate_left
 ·simp only[h1,h2,decide_true,decide_false,Bool.not_true,Bool.not_false,cond_true,cond_false,if_true,if_false]
  try rfl
 have hs:=small_of h2
 have hpl:=packF_small hs
 obtain ⟨o1,o2⟩:=h
 have hap:spec_l5Append.sem (l,r,())=some (if 16000 < List.length l.1+List.length l.2.1+(packF r).length then (l,false,()) else ((l.1,l.2.1++packF r,()),true,())):=by
  refine lift_eq (k:=0) fun k _=>(spec_l5Append.raw_eq k _).trans ?_
  show spec_l5Append.p _=_
  unfold spec_l5Append.p
  have hcp:spec_l5Copy.sem (l,())=some (l,()):=by
   refine lift_eq (k:=0) fun k _=>(spec_l5Copy.raw_eq k _).trans ?_
   show spec_l5Copy.p _=_
   unfold spec_l5Copy.p
   rw[specCopy_eq _ (by show List.length l.1<=_;omega)]
   simp only[Option.bind_some]
   rw[specCopy_eq _ (by show List.length l.2.1<=_;omega)]
   rfl
  have e1:w64 ((List.length l.1:Int)+(List.length l.2.1:Int))=((List.length l.1+List.length l.2.1:Nat):Int):=by rw[w64_in (by omega)];omega
  have e2:w64 (((List.length l.1+List.length l.2.1:Nat):Int)+((packF r).length:Int))=((List.length l.1+List.length l.2.1+(packF r).length:Nat):Int):=by rw[w64_in (by omega)];omega
  have hcc:List.length l.2.1+(packF r).length<=CAP:=cap_ok (by omega)
  simp only[specPack_eq r hs,hcp,Option.bind_some,e1,e2]
  by_cases hc:16000 < List.length l.1+List.length l.2.1+(packF r).length
  ·have:(16000:Int) < ((List.length l.1+List.length l.2.1+(packF r).length:Nat):Int):=by omega
   simp only[this,hc,decide_true,cond_true,if_true]
  ·have:¬ (16000:Int) < ((List.length l.1+List.length l.2.1+(packF r).length:Nat):Int):=by omega
   simp only[this,hc,decide_false,cond_false,if_false,hcc,if_true]
 simp only[h1,h2,decide_true,Bool.not_true,cond_false,if_true,hap,Option.bind_some]
 by_cases hc:16000 < List.length l.1+List.length l.2.1+(packF r).length
 ·simp only[hc,if_true];rfl
 ·simp only[hc,if_false];rfl
theorem implAppend_eq (l:Log) (r:Record) (h:okL l):impl_AppendLog.sem (l,r,())=some (appF l r,()):=by
 refine lift_eq (k:=0) fun k _=>(impl_AppendLog.raw_eq k _).trans ?_
 show impl_AppendLog.p _=_
 unfold impl_AppendLog.p appF
 simp only[implLog_eq l h,implRec_eq,Option.bind_some]
 by_cases h1:logF l=0
 rotate_left
 ·simp only[h1,decide_false,Bool.not_false,cond_true,if_false]
  try rfl
 by_cases h2:recF r=0
 rotate_left
 ·simp only[h1,h2,decide_true,decide_false,Bool.not_true,Bool.not_false,cond_true,cond_false,if_true,if_false]
  try rfl
 have hs:=small_of h2
 have hpl:=packF_small hs
 have hok:=h
 obtain ⟨o1,o2⟩:=h
 have hap:impl_Log_appended.sem (l,r,())=some (if 16000 < List.length l.1+List.length l.2.1+(packF r).length then (l,false,()) else ((l.1,l.2.1++packF r,()),true,())):=by
  refine lift_eq (k:=0) fun k _=>(impl_Log_appended.raw_eq k _).trans ?_
  show impl_Log_appended.p _=_
  unfold impl_Log_appended.p
  have e2:w64 (((List.length l.1+List.length l.2.1:Nat):Int)+((packF r).length:Int))=((List.length l.1+List.length l.2.1+(packF r).length:Nat):Int):=by rw[w64_in (by omega)];omega
  have hcc:List.length l.2.1+(packF r).length<=CAP:=cap_ok (by omega)
  simp only[implPack_eq r hs,size_eq l hok,Option.bind_some,e2]
  rw[implCopied_eq _ (by show List.length l.2.1<=_;omega)]
  by_cases hc:16000 < List.length l.1+List.length l.2.1+(packF r).length
  ·have:(16000:Int) < ((List.length l.1+List.length l.2.1+(packF r).length:Nat):Int):=by omega
   simp only[this,hc,decide_true,cond_true,if_true]
  ·have:¬ (16000:Int) < ((List.length l.1+List.length l.2.1+(packF r).length:Nat):Int):=by omega
   simp only[this,hc,decide_false,cond_false,if_false,Option.bind_some,hcc,if_true]
 have hown:∀ l:Log,List.length l.1<=2000000->List.length l.2.1<=2000000->impl_Log_own.sem (l,())=some (l,()):=fun l g1 g2=>by
  refine lift_eq (k:=0) fun k _=>(impl_Log_own.raw_eq k _).trans ?_
  show impl_Log_own.p _=_
  unfold impl_Log_own.p
  rw[implCopied_eq _ (by show List.length l.1<=_;omega)]
  simp only[Option.bind_some]
  rw[implCopied_eq _ (by show List.length l.2.1<=_;omega)]
  rfl
 simp only[h1,h2,decide_true,Bool.not_true,cond_false,if_true,hap,Option.bind_some]
 by_cases hc:16000 < List.length l.1+List.length l.2.1+(packF r).length
 ·simp only[hc,if_true];rfl
 ·simp only[hc,if_false,Bool.not_true,cond_false]
  rw[hown _ (by show List.length l.1<=_;omega) (by show (l.2.1++packF r).length<=_;rw[List.length_append];omega)]
  rfl
end OT
set_option linter.unusedVariables false
set_option linter.unusedSimpArgs false
set_option linter.unusedSectionVars false
namespace OT
open Go
theorem at8_app2 {a b:List UInt8} {i:Nat} (h:i < a.length):at8 (a++b) i=at8 a i:=by
 unfold at8
 simp only[List.getD_eq_getElem?_getD]
 rw[List.getElem?_append_left h]
theorem runs_sum:∀ (xs:List Run) (s:Int),s<=65->(forI (fun _ s x=>runStep s x) (fun _=>((0:Int),())) 0 xs s).1=0->s+(sumW (fun x:Run=>List.length x.2.1+1) xs:Int)<=65:=by
 have main:∀ (xs:List Run) (i:Nat) (s:Int),s<=65->(forI (fun _ s x=>runStep s x) (fun _=>((0:Int),())) i xs s).1=0->s+(sumW (fun x:Run=>List.length x.2.1+1) xs:Int)<=65:=by
  intro xs
  induction xs with
  | nil=>intro i s h _;simp only[sumW];omega
  | cons x xs ih=>
   intro i s h h0
   simp only[forI] at h0
   cases hs:runStep s x with
   | inl o=>rw[hs] at h0;exact absurd h0 (step_bad hs)
   | inr s'=>
    rw[hs] at h0
    have hg:=step_good hs
    have hb:bl x=(List.length x.2.1:Int):=rfl
    have:=ih (i+1) s' (by omega) h0
    simp only[sumW]
    omega
 exact fun xs s=>main xs 0 s
theorem flat_len2:∀ (xs:List Run),(flatR xs).length<=2*sumW (fun x:Run=>List.length x.2.1+1) xs
 | []=>Nat.zero_le _
 | x::xs=>by
  have:=flat_len2 xs
  rw[flatR_cons,List.length_append]
  simp only[flat1,List.length_cons,sumW]
  omega
theorem rec_runs {r:Record} (h:recF r=0):(flatR r.2.2.2.1).length<=130:=by
 have hg:=flat_len2 r.2.2.2.1
 have:runsF r.2.2.2.1=0\/List.length r.2.2.2.1=0:=by
  unfold recF at h
  by_cases h24:inB r.1 2 4=true
  ·left
   split at h
   ·cases h
   ·split at h
    ·cases h
    ·rw[h24] at h
     simp only[Bool.not_true,Bool.false_eq_true,if_false] at h
     split at h
     ·assumption
     ·rename_i hn;exact absurd h hn
  ·right
   split at h
   ·cases h
   ·rename_i hc
    simp only[Bool.or_eq_true,not_or,Bool.and_eq_true,Bool.not_eq_true',not_and] at hc
    have:=hc.1.2 (by simpa using h24)
    simp only[decide_eq_true_eq] at this
    omega
 rcases this with h0 | h0
 ·unfold runsF at h0
  split at h0
  ·cases h0
  ·have:=runs_sum r.2.2.2.1 0 (by omega) h0
   omega
 ·have:r.2.2.2.1=[]:=List.eq_nil_of_length_eq_zero h0
  rw[this]
  exact Nat.zero_le _
theorem u8_nat {n:Int} (h0:0<=n) (h1:n<=255):((UInt8.ofInt n).toNat:Int)=n:=by
 simp[UInt8.ofInt,BitVec.toNat_ofInt];omega
theorem read_pack {r:Record} (h:recF r=0) (s:List UInt8):readF (packF r++s)=some (r,(packF r).length):=by
 have hg:=recF_good h
 have hrl:=rec_runs h
 have hpl:=packF_len r
 have hhl:=hdP_len r
 obtain ⟨k,t,p,xs,⟨⟩⟩:=r
 simp only at hg hrl hpl
 have hnb:(flatR xs).length<=130:=hrl
 have hn:(packF (k,t,p,xs,())).length=7+(flatR xs).length:=hpl
 have hw:w64 (((head5 (k,t,p,xs,())++flatR xs).length:Int)+2)=((7+(flatR xs).length:Nat):Int):=by
  rw[List.length_append]
  simp only[head5,List.length_cons,List.length_nil]
  rw[w64_in (by omega)]
  omega
 have hhd:hdP (k,t,p,xs,())=[UInt8.ofInt ((7+(flatR xs).length:Nat):Int),UInt8.ofInt k,UInt8.ofInt t,UInt8.ofInt p,UInt8.ofInt (List.length xs:Int)]++flatR xs:=by
  unfold hdP
  rw[show (k,t,p,xs,()).2.2.2.1=xs from rfl,hw]
  rfl
 have hpk:packF (k,t,p,xs,())=[UInt8.ofInt ((7+(flatR xs).length:Nat):Int),UInt8.ofInt k,UInt8.ofInt t,UInt8.ofInt p,UInt8.ofInt (List.length xs:Int)]++flatR xs++[UInt8.ofInt ((sumP 1 (hdP (k,t,p,xs,()))) / 256),UInt8.ofInt (sumP 1 (hdP (k,t,p,xs,())))]:=by
  unfold packF
  rw[hhd]
 have e0:at8 (packF (k,t,p,xs,())++s) 0=7+(flatR xs).length:=by
  have:=u8_nat (n:=((7+(flatR xs).length:Nat):Int)) (by omega) (by omega)
  rw[at8_app2 (by omega),hpk]
  show (UInt8.ofInt ((7+(flatR xs).length:Nat):Int)).toNat=_
  omega
 have e1:(at8 (packF (k,t,p,xs,())++s) 1:Int)=k:=by
  rw[at8_app2 (by omega),hpk]
  exact u8_nat (n:=k) (by omega) (by omega)
 have e2:(at8 (packF (k,t,p,xs,())++s) 2:Int)=t:=by
  rw[at8_app2 (by omega),hpk]
  exact u8_nat (n:=t) (by omega) (by omega)
 have e3:(at8 (packF (k,t,p,xs,())++s) 3:Int)=p:=by
  rw[at8_app2 (by omega),hpk]
  exact u8_nat (n:=p) (by omega) (by omega)
 have e4:at8 (packF (k,t,p,xs,())++s) 4=xs.length:=by
  have:=u8_nat (n:=(xs.length:Int)) (by omega) (by omega)
  rw[at8_app2 (by omega),hpk]
  show (UInt8.ofInt (xs.length:Int)).toNat=_
  omega
 have hp:=pI_pack (e:=5+(flatR xs).length) xs [UInt8.ofInt ((7+(flatR xs).length:Nat):Int),UInt8.ofInt k,UInt8.ofInt t,UInt8.ofInt p,UInt8.ofInt (List.length xs:Int)] [UInt8.ofInt ((sumP 1 (hdP (k,t,p,xs,()))) / 256),UInt8.ofInt (sumP 1 (hdP (k,t,p,xs,())))] [] hg.2.2.2.2.2.2.2 (by simp only[List.length_cons,List.length_nil];omega)
 rw[<-hpk] at hp
 unfold readF
 rw[e0,e1,e2,e3,e4,if_neg (by rw[List.length_append,hn];omega),List.take_append_of_le_length (by omega),List.take_of_length_le (by omega),show 7+(flatR xs).length - 2=5+(flatR xs).length by omega]
 simp only[List.length_cons,List.length_nil] at hp
 rw[hp]
 simp only[List.nil_append]
 exact (if_pos ⟨trivial,h,trivial⟩).trans (congrArg (fun n=>some (((k,t,p,xs,()):Record),n)) hn.symm)
def packAll (rs:List Record):List UInt8:=rs.flatMap packF
theorem all_pack:∀ (rs:List Record) (k:Nat),(packAll rs).length < k->(∀ r ∈ rs,recF r=0)->readAllF k (packAll rs)=(rs,(packAll rs).length)
 | [],k,hk,_=>by
  obtain ⟨j,rfl⟩:∃ j,k=j+1:=⟨k - 1,by omega⟩
  simp only[packAll,List.flatMap_nil,readAllF,readF_nil]
  rfl
 | r::rs,k,hk,h=>by
  have hc:packAll (r::rs)=packF r++packAll rs:=by unfold packAll;rw[List.flatMap_cons]
  rw[hc,List.length_append] at hk ⊢
  have hp:=packF_len r
  obtain ⟨j,rfl⟩:∃ j,k=j+1:=⟨k - 1,by omega⟩
  have ih:=all_pack rs j (by omega) fun q hq=>h q (List.mem_cons_of_mem _ hq)
  simp only[readAllF,read_pack (h r List.mem_cons_self),List.drop_left,ih]
theorem allF_pack {rs:List Record} (h:∀ r ∈ rs,recF r=0):allF (packAll rs)=(rs,(packAll rs).length):=all_pack rs _ (by omega) h
end OT
set_option linter.unusedVariables false
set_option linter.unusedSimpArgs false
set_option linter.unusedSectionVars false
namespace OT
open Go
theorem two_ok {s:L1Src} {b:Int} (h:srcOk s b) (hb:b<=300000):∃ p q t,spec_l3Two.sem (s,())=some (p,q,t,())/\p.length=64/\q.length=64/\srcOk t (b+600):=by
 obtain ⟨p,t0,e0,hp,s0⟩:=drawRight_ok h (by omega)
 obtain ⟨v,t1,e1,a1,c1,s1⟩:=next_ok (n:=9) s0 (by omega) (by omega) (by omega)
 have hl:=hp.len
 have e2:=specCopy_eq p (by omega)
 have:=down_ex 700000 (B:=fun w v=>spec_l3Two.b0 w (spec_l3Two.q0 (s,()) p) (s,()) p v) (fun s (l:List UInt8) i=>(s,l,i)) (fun _ l=>l.length=64) 2 (by omega) (fun s l=>(p,l,s,()))
  (fun m s x c hm hs hc hI=>by
   have hlt:(0:Int) < ((m+1:Nat):Int):=by omega
   obtain ⟨v1,t1,e1,a1,c1,s1⟩:=next_ok (n:=64) hs (by omega) (by omega) (by omega)
   obtain ⟨v2,t2,e2,a2,c2,s2⟩:=next_ok (n:=256) s1 (by omega) (by omega) (by omega)
   refine ⟨t2,x.set v1.toNat (UInt8.ofInt v2),s2.mono (by omega),by rw[List.length_set];exact hI,fun self=>?_⟩
   unfold spec_l3Two.b0
   rw[decide_eq_true hlt,cond_true,e1]
   simp only[Option.bind_some]
   rw[e2]
   simp only[Option.bind_some]
   rw[if_pos ⟨a1,by omega⟩,List.getElem?_eq_getElem (show v1.toNat < x.length by omega),down_w hm]
   rfl)
  (fun s x c _ _ self=>by
   unfold spec_l3Two.b0
   rw[decide_eq_false (Int.lt_irrefl _),cond_false]
   rfl) v.toNat t1 p (b+501) (by omega) (s1.mono (by omega)) hl (by omega)
 obtain ⟨t,l,a1',a2',a3'⟩:=this
 have hv:((v.toNat:Nat):Int)=v:=by omega
 rw[hv] at a3' a1'
 refine ⟨p,l,t,lift_eq (k:=12) fun k hk=>(spec_l3Two.raw_eq k _).trans ?_,hl,a2',a1'.mono (by omega)⟩
 unfold spec_l3Two.p
 rw[e0]
 simp only[Option.bind_some]
 rw[e2]
 simp only[Option.bind_some]
 rw[e1]
 exact a3' k (by omega)
def runsOk (n:Nat) (x:List Run×Bool):Prop:=x.1.length<=n/\(∀ r ∈ x.1,List.length r.2.1<=n)/\(x.2=true->x.1≠[])
def addLast (rs:List Run) (y:UInt8):List Run:=rs.set (rs.length - 1) (((rs[rs.length - 1]?).getD ((0:Int),([]:List UInt8),())).1,((rs[rs.length - 1]?).getD ((0:Int),([]:List UInt8),())).2.1++[y],())
def diffS (b:List UInt8) (i:Nat) (s:List Run×Bool) (x:UInt8):List Run×Bool:=
 if x=(b[i]?).getD 0 then (s.1,false) else (addLast (if s.2 then s.1 else s.1++[((i:Int),([]:List UInt8),())]) ((b[i]?).getD 0),true)
theorem addLast_len (rs:List Run) (y:UInt8):(addLast rs y).length=rs.length:=by unfold addLast;rw[List.length_set]
theorem addLast_ok {rs:List Run} {y:UInt8} {n:Nat} (h:∀ r ∈ rs,List.length r.2.1<=n):∀ r ∈ addLast rs y,List.length r.2.1<=n+1:=by
 intro r hr
 unfold addLast at hr
 rcases List.mem_or_eq_of_mem_set hr with h1 | h1
 ·have:=h r h1;omega
 ·rw[h1]
  show List.length (_++[y])<=n+1
  rw[List.length_append]
  cases hg:rs[rs.length - 1]? with
  | none=>simp
  | some z=>
   have:=h z (List.mem_of_getElem? hg)
   simpa using this
theorem diffS_ok {b:List UInt8} {i:Nat} {s:List Run×Bool} {x:UInt8} (h:runsOk i s):runsOk (i+1) (diffS b i s x):=by
 obtain ⟨h1,h2,h3⟩:=h
 unfold diffS
 split
 ·exact ⟨by show s.1.length<=i+1;omega,fun r hr=>by have:=h2 r hr;omega,fun h=>by cases h⟩
 ·have hm:∀ r ∈ (if s.2=true then s.1 else s.1++[((i:Int),([]:List UInt8),())]),List.length r.2.1<=i:=by
   intro r hr
   split at hr
   ·exact h2 r hr
   ·rcases List.mem_append.1 hr with h4 | h4
    ·exact h2 r h4
    ·rw[List.mem_singleton] at h4
     rw[h4]
     exact Nat.zero_le _
  refine ⟨?_,addLast_ok hm,fun _ he=>?_⟩
  ·show (addLast _ _).length<=i+1
   rw[addLast_len]
   split
   ·omega
   ·rw[List.length_append,List.length_cons,List.length_nil];omega
  ·have:(addLast (if s.2=true then s.1 else s.1++[((i:Int),([]:List UInt8),())]) ((b[i]?).getD 0)).length=0:=by rw[show addLast _ _=[] from he];rfl
   rw[addLast_len] at this
   split at this
   ·rename_i hs
    exact h3 hs (List.eq_nil_of_length_eq_zero this)
   ·rw[List.length_append,List.length_cons] at this;omega
theorem diff_ok (a b:List UInt8) (ha:a.length=64) (hb:b.length=64):∃ rs,spec_l3Diff.sem (a,b,())=some (rs,())/\rs.length<=64/\∀ r ∈ rs,List.length r.2.1<=64:=by
 have key:=for_loop (B:=fun self v=>spec_l3Diff.b0 self (spec_l3Diff.q0 (a,b,())) (a,b,()) v) a (fun (s:List Run×Bool) (i:Int)=>(s.1,s.2,i)) (fun i s x=>.inr (diffS b i s x)) (fun s=>(s.1,())) (fun i s=>runsOk i s) (by rw[maxLen_val];omega)
  (fun i hi s self hI=>by
   have hlt:(i:Int) < (a.length:Int):=by omega
   have hj:i < b.length:=by omega
   obtain ⟨h1,h2,h3⟩:=hI
   obtain ⟨rs,o⟩:=s
   simp only at h1 h2 h3
   unfold spec_l3Diff.b0 diffS
   simp only[hlt,decide_true,cond_true,Int.natCast_nonneg,if_true,Int.toNat_natCast,List.getElem?_eq_getElem hi,List.getElem?_eq_getElem hj,Option.bind_some,Option.getD_some]
   have hd:decide (((a[i]).toNat:Int)=((b[i]).toNat:Int))=decide (a[i]=b[i]):=by
    rw[decide_eq_decide]
    exact ⟨fun h=>UInt8.toNat_inj.1 (by omega),fun h=>by rw[h]⟩
   rw[hd]
   by_cases he:a[i]=b[i]
   ·rw[decide_eq_true he,cond_true,if_pos he]
   rw[decide_eq_false he,cond_false,if_neg he]
   have fin:∀ (q:List Run),q≠[]->q.length<=i+1->(∀ r ∈ q,List.length r.2.1<=i) ->
    (if 0<=w64 ((q.length:Int) - (1:Int))/\w64 ((q.length:Int) - (1:Int)) < (q.length:Int) then ((q[(w64 ((q.length:Int) - (1:Int))).toNat]?).bind fun x614=>(q[(w64 ((q.length:Int) - (1:Int))).toNat]?).bind fun x616=>(q[(w64 ((q.length:Int) - (1:Int))).toNat]?).bind fun x617=>if x616.2.1.length+[b[i]].length<=CAP then (((q.set (w64 ((q.length:Int) - (1:Int))).toNat x617)[(w64 ((q.length:Int) - (1:Int))).toNat]?).bind fun x618=>self ((q.set (w64 ((q.length:Int) - (1:Int))).toNat x617).set (w64 ((q.length:Int) - (1:Int))).toNat (x618.1,x616.2.1++[b[i]],x618.2.2),true,w64 ((i:Int)+1))) else none) else none)=self (addLast q b[i],true,w64 ((i:Int)+1)):=by
    intro q hq hl hm
    have hpos:0 < q.length:=by
     cases q with
     | nil=>exact absurd rfl hq
     | cons _ _=>simp
    have hw:w64 ((q.length:Int) - 1)=((q.length - 1:Nat):Int):=by rw[w64_in (by omega)];omega
    have hi1:q.length - 1 < q.length:=by omega
    have hz:=hm _ (List.getElem_mem hi1)
    rw[hw,if_pos ⟨by omega,by omega⟩,Int.toNat_natCast,List.getElem?_eq_getElem hi1]
    simp only[Option.bind_some,List.set_getElem_self]
    rw[if_pos (cap_ok (by rw[List.length_cons,List.length_nil];omega)),List.getElem?_eq_getElem hi1]
    simp only[if_true,Option.bind_some]
    unfold addLast
    rw[List.getElem?_eq_getElem hi1]
    rfl
   cases o with
   | true=>
    simp only[Bool.not_true,cond_false,if_true]
    refine Eq.trans ?_ (fin rs (h3 rfl) (by omega) h2)
    rfl
   | false=>
    simp only[Bool.not_false,cond_true,Bool.false_eq_true,if_false]
    rw[if_pos (cap_ok (by rw[List.length_cons,List.length_nil];omega))]
    refine fin (rs++[((i:Int),([]:List UInt8),())]) (by simp) (by rw[List.length_append,List.length_cons,List.length_nil];omega) fun r hr=>?_
    rcases List.mem_append.1 hr with h4 | h4
    ·exact h2 r h4
    ·rw[List.mem_singleton] at h4
     rw[h4]
     exact Nat.zero_le _)
  (fun i hi s s' hI hf=>by injection hf with hf;subst hf;exact diffS_ok hI) (fun s self _=>by
   unfold spec_l3Diff.b0
   rw[decide_eq_false (Int.lt_irrefl _),cond_false]
   rfl) ([],false) ⟨Nat.zero_le _,fun r hr=>(by cases hr),fun h=>(by cases h)⟩
 have hI:∀ (xs:List UInt8) (i:Nat) (s:List Run×Bool),runsOk i s->∃ s',forI (fun i s x=>.inr (diffS b i s x)) (fun s:List Run×Bool=>(s.1,())) i xs s=(s'.1,())/\runsOk (i+xs.length) s':=by
  intro xs
  induction xs with
  | nil=>intro i s h;exact ⟨s,rfl,h⟩
  | cons x xs ih=>
   intro i s h
   obtain ⟨s',e,h'⟩:=ih (i+1) _ (diffS_ok (b:=b) (x:=x) h)
   refine ⟨s',e,?_⟩
   rw[List.length_cons,show i+(xs.length+1)=i+1+xs.length by omega]
   exact h'
 obtain ⟨s',e,h1,h2,_⟩:=hI a 0 ([],false) ⟨Nat.zero_le _,fun r hr=>(by cases hr),fun h=>(by cases h)⟩
 refine ⟨s'.1,lift_eq (k:=65) fun k hk=>(spec_l3Diff.raw_eq k _).trans ?_,by omega,fun r hr=>by have:=h2 r hr;omega⟩
 have:=key k (by omega)
 rw[e] at this
 exact this
theorem rec_ok {s:L1Src} {b:Int} (h:srcOk s b) (hb:b<=200000):∃ r t,spec_l4Draw.sem (s,())=some (r,t,())/\smallR r/\srcOk t (b+1000):=by
 obtain ⟨k,t1,e1,_,s1⟩:=pick_ok h (by omega) [(1:Int),(2:Int),(2:Int),(3:Int),(4:Int),(5:Int),(6:Int)] (by simp) (by simp)
 obtain ⟨v,t2,e2,a2,c2,s2⟩:=next_ok (n:=5) s1 (by omega) (by omega) (by omega)
 suffices hq:∃ r t,spec_l4Draw.p (s,())=some (r,t,())/\smallR r/\srcOk t (b+1000) by
  obtain ⟨r,t,p1,p2,p3⟩:=hq
  exact ⟨r,t,lift_eq (k:=0) fun k _=>(spec_l4Draw.raw_eq k _).trans p1,p2,p3⟩
 unfold spec_l4Draw.p
 rw[e1]
 simp only[Option.bind_some]
 rw[e2]
 simp only[Option.bind_some]
 rw[spec4Runs_eq]
 simp only[Option.bind_some]
 cases hk:inB k 2 4 with
 | false=>exact ⟨_,_,rfl,⟨Nat.zero_le _,fun x hx=>by cases hx⟩,s2.mono (by omega)⟩
 | true=>
  rw[Bool.not_true,cond_false]
  obtain ⟨v3,t3,e3,a3,c3,s3⟩:=next_ok (n:=3) s2 (by omega) (by omega) (by omega)
  obtain ⟨p,q,t4,e4,hp,hq,s4⟩:=two_ok s3 (by omega)
  rw[e3]
  simp only[Option.bind_some]
  rw[e4]
  simp only[Option.bind_some]
  rw[if_pos ⟨by omega,by omega⟩,List.getElem?_eq_getElem (show 5 < q.length by omega)]
  simp only[Option.bind_some]
  rw[if_pos ⟨by omega,by omega⟩]
  generalize hy:q.set 5 (UInt8.ofInt ((q[5].toNat:Int)+1))=y
  have hy64:y.length=64:=by rw[<-hy,List.length_set];exact hq
  obtain ⟨rs,e5,h1,h2⟩:=diff_ok p y hp hy64
  rw[e5]
  simp only[Option.bind_some]
  have fin:∀ (x:Record),smallR x->∃ r t,(bif decide ((List.length x.2.2.2.1:Int)=(0:Int)) then (some ((x.1,x.2.1,x.2.2.1,[((3:Int),[(1:UInt8)],())],x.2.2.2.2),t4,()):Option spec_l4Draw.Out) else some (x,t4,()))=some (r,t,())/\smallR r/\srcOk t (b+1000):=by
   intro x hx
   by_cases h0:(List.length x.2.2.2.1:Int)=0
   ·rw[decide_eq_true h0,cond_true]
    refine ⟨_,_,rfl,⟨by show 1<=64;omega,fun z hz=>?_⟩,s4.mono (by omega)⟩
    have hz:z ∈ [((3:Int),[(1:UInt8)],())]:=hz
    rw[List.mem_singleton] at hz
    rw[hz]
    show 1<=64
    omega
   ·rw[decide_eq_false h0,cond_false]
    exact ⟨_,_,rfl,hx,s4.mono (by omega)⟩
  by_cases h4:k=4
  ·rw[decide_eq_true h4,cond_true]
   refine fin ((k,(0:Int),v3,[((0:Int),y,())],()):Record) ⟨by show 1<=64;omega,fun z hz=>?_⟩
   have hz:z ∈ [((0:Int),y,())]:=hz
   rw[List.mem_singleton] at hz
   rw[hz]
   show y.length<=64
   omega
  ·rw[decide_eq_false h4,cond_false]
   exact fin ((k,w64 ((1:Int)+v),v3,rs,()):Record) ⟨h1,h2⟩
theorem bentRuns_ok {s:L1Src} {b:Int} (h:srcOk s b) (hb:b<=200000):∃ r t,spec_l3Bent.sem (s,())=some (r,t,())/\srcOk t (b+1000):=by
 obtain ⟨p,q,t1,e1,hp,hq,s1⟩:=two_ok h (by omega)
 obtain ⟨rs,e2,h1,h2⟩:=diff_ok p q hp hq
 obtain ⟨v,t3,e3,a3,c3,s3⟩:=next_ok (n:=10) s1 (by omega) (by omega) (by omega)
 suffices hq:∃ r t,spec_l3Bent.p (s,())=some (r,t,())/\srcOk t (b+1000) by
  obtain ⟨r,t,p1,p3⟩:=hq
  exact ⟨r,t,lift_eq (k:=0) fun k _=>(spec_l3Bent.raw_eq k _).trans p1,p3⟩
 unfold spec_l3Bent.p
 rw[e1]
 simp only[Option.bind_some]
 rw[e2]
 simp only[Option.bind_some]
 rw[e3]
 simp only[Option.bind_some]
 by_cases h0:v=0
 ·rw[decide_eq_true h0,cond_true]
  obtain ⟨w,t4,e4,_,s4⟩:=pick_ok s3 (by omega) [(-1:Int),(0:Int),(63:Int),(64:Int)] (by simp) (by simp)
  obtain ⟨n,t5,e5,a5,c5,s5⟩:=next_ok (n:=4) s4 (by omega) (by omega) (by omega)
  obtain ⟨l,t6,e6,hl,s6⟩:=some_ok s5 (by omega) n.toNat (by omega)
  rw[show ((n.toNat:Nat):Int)=n by omega] at e6
  rw[e4]
  simp only[Option.bind_some]
  rw[e5]
  simp only[Option.bind_some]
  rw[e6]
  simp only[Option.bind_some]
  rw[if_pos (cap_ok (by rw[List.length_cons,List.length_nil];omega))]
  exact ⟨_,_,rfl,s6.mono (by omega)⟩
 rw[decide_eq_false h0,cond_false]
 by_cases h1:v=1
 ·rw[decide_eq_true h1,cond_true,if_pos ⟨by omega,by omega,by simp only[CAP];omega⟩]
  exact ⟨_,_,rfl,s3.mono (by omega)⟩
 rw[decide_eq_false h1,cond_false]
 exact ⟨_,_,rfl,s3.mono (by omega)⟩
theorem bentRec_ok {s:L1Src} {b:Int} (h:srcOk s b) (hb:b<=100000):∃ r t,spec_l4Bent.sem (s,())=some (r,t,())/\srcOk t (b+3000):=by
 obtain ⟨r,t1,e1,_,s1⟩:=rec_ok h (by omega)
 obtain ⟨v,t2,e2,a2,c2,s2⟩:=next_ok (n:=12) s1 (by omega) (by omega) (by omega)
 suffices hq:∃ r t,spec_l4Bent.p (s,())=some (r,t,())/\srcOk t (b+3000) by
  obtain ⟨r,t,p1,p3⟩:=hq
  exact ⟨r,t,lift_eq (k:=0) fun k _=>(spec_l4Bent.raw_eq k _).trans p1,p3⟩
 unfold spec_l4Bent.p
 rw[e1]
 simp only[Option.bind_some]
 rw[e2]
 simp only[Option.bind_some]
 by_cases h0:v=0
 ·obtain ⟨w,t4,e4,_,s4⟩:=pick_ok s2 (by omega) [(0:Int),(1:Int),(2:Int),(4:Int),(7:Int)] (by simp) (by simp)
  rw[decide_eq_true h0,cond_true,e4]
  exact ⟨_,_,rfl,s4.mono (by omega)⟩
 rw[decide_eq_false h0,cond_false]
 by_cases h1:v=1
 ·obtain ⟨w,t4,e4,_,s4⟩:=pick_ok s2 (by omega) [(0:Int),(99:Int),(100:Int)] (by simp) (by simp)
  rw[decide_eq_true h1,cond_true,e4]
  exact ⟨_,_,rfl,s4.mono (by omega)⟩
 rw[decide_eq_false h1,cond_false]
 by_cases h2:v=2
 ·obtain ⟨w,t4,e4,_,s4⟩:=pick_ok s2 (by omega) [(11:Int),(12:Int),(-1:Int)] (by simp) (by simp)
  rw[decide_eq_true h2,cond_true,e4]
  exact ⟨_,_,rfl,s4.mono (by omega)⟩
 rw[decide_eq_false h2,cond_false]
 by_cases h3:v=3
 ·obtain ⟨w,t4,e4,s4⟩:=bentRuns_ok s2 (by omega)
  rw[decide_eq_true h3,cond_true,e4]
  exact ⟨_,_,rfl,s4.mono (by omega)⟩
 rw[decide_eq_false h3,cond_false]
 exact ⟨_,_,rfl,s2.mono (by omega)⟩
theorem source_eq (c:List UInt8):spec_l1Source.sem (c,())=some ((c,(0:Int),()),()):=lift_eq (k:=0) fun k _=>(spec_l1Source.raw_eq k _).trans rfl
theorem drawPack_ok (c:List UInt8) (h:c.length<=1048576):∃ rs,spec_DrawPackAll.sem (c,())=some (rs,())/\rs.length<=10:=by
 have h0:srcOk (c,(0:Int),()) 0:=⟨h,Int.le_refl 0,Int.le_refl 0⟩
 obtain ⟨v,t1,e1,a1,c1,s1⟩:=next_ok (n:=6) h0 (by omega) (by omega) (by omega)
 have hfin:∀ (s:L1Src) (x:List Record),srcOk s 50000->x.length<=5->∃ o,spec_DrawPackAll.q0 (c,()) (s,x)=some (o,())/\o.length<=10:=by
  intro s x hs hx
  obtain ⟨b,t2,e2,s2⟩:=chance_ok (n:=8) hs (by omega) (by omega) (by omega)
  unfold spec_DrawPackAll.q0
  rw[e2]
  simp only[Option.bind_some]
  cases b with
  | false=>exact ⟨x,rfl,by omega⟩
  | true=>
   obtain ⟨r,t3,e3,s3⟩:=bentRec_ok s2 (by omega)
   rw[cond_true,e3]
   simp only[Option.bind_some]
   rw[if_pos (cap_ok (by rw[List.length_cons,List.length_nil];omega))]
   exact ⟨_,rfl,by rw[List.length_append,List.length_cons,List.length_nil];omega⟩
 have:=down_exG 100000 (B:=fun w v=>spec_DrawPackAll.b0 w (spec_DrawPackAll.q0 (c,())) (c,()) v) (fun s (l:List Record) i=>(s,l,i)) (fun b l=>1000*(l.length:Int)<=b - 1) 1000 (by omega) (fun s l=>spec_DrawPackAll.q0 (c,()) (s,l))
  (fun m s x b hm hs hb hI=>by
   have hlt:(0:Int) < ((m+1:Nat):Int):=by omega
   obtain ⟨r,t2,e2,_,s2⟩:=rec_ok hs (by omega)
   refine ⟨t2,x++[r],s2,by rw[List.length_append,List.length_cons,List.length_nil];omega,fun self=>?_⟩
   unfold spec_DrawPackAll.b0
   rw[decide_eq_true hlt,cond_true,e2]
   simp only[Option.bind_some]
   rw[if_pos (cap_ok (by rw[List.length_cons,List.length_nil];omega)),down_w hm])
  (fun s x b _ _ self=>by
   unfold spec_DrawPackAll.b0
   rw[decide_eq_false (Int.lt_irrefl _),cond_false]) v.toNat t1 [] (0+1) (by omega) s1 (by simp) (by omega)
 obtain ⟨t,l,a1',a2',a3'⟩:=this
 have hv:((v.toNat:Nat):Int)=v:=by omega
 rw[hv] at a3' a1' a2'
 obtain ⟨o,ho,ho2⟩:=hfin t l (a1'.mono (by omega)) (by omega)
 refine ⟨o,lift_eq (k:=8) fun k hk=>(spec_DrawPackAll.raw_eq k _).trans ?_,ho2⟩
 unfold spec_DrawPackAll.p
 rw[source_eq]
 simp only[Option.bind_some]
 rw[e1]
 exact (a3' k (by omega)).trans ho
def sizeL (l:Log) (n:Nat):Prop:=List.length l.1+List.length l.2.1<=n
theorem append_v {l:Log} {r:Record} (h:sizeL l 16000) (hs:smallR r):∃ l' ok,spec_l5Append_v.sem (l,r,())=some (l',ok,())/\sizeL l' 16000:=by
 have hpl:=packF_small hs
 have h':List.length l.1+List.length l.2.1<=16000:=h
 have hcp:spec_l5Copy.sem (l,())=some (l,()):=by
  refine lift_eq (k:=0) fun k _=>(spec_l5Copy.raw_eq k _).trans ?_
  unfold spec_l5Copy.p
  rw[specCopy_eq l.1 (by omega)]
  simp only[Option.bind_some]
  rw[specCopy_eq l.2.1 (by omega)]
  rfl
 suffices hq:∃ l' ok,spec_l5Append_v.p (l,r,())=some (l',ok,())/\sizeL l' 16000 by
  obtain ⟨l',ok,p1,p3⟩:=hq
  exact ⟨l',ok,lift_eq (k:=0) fun k _=>(spec_l5Append_v.raw_eq k _).trans p1,p3⟩
 unfold spec_l5Append_v.p
 have e1:w64 ((List.length l.1:Int)+(List.length l.2.1:Int))=((List.length l.1+List.length l.2.1:Nat):Int):=by rw[w64_in (by omega)];omega
 have e2:w64 (((List.length l.1+List.length l.2.1:Nat):Int)+((packF r).length:Int))=((List.length l.1+List.length l.2.1+(packF r).length:Nat):Int):=by rw[w64_in (by omega)];omega
 rw[specPack_eq r hs]
 simp only[Option.bind_some]
 rw[e1,e2]
 by_cases hc:(16000:Int) < ((List.length l.1+List.length l.2.1+(packF r).length:Nat):Int)
 ·rw[decide_eq_true hc,cond_true]
  exact ⟨_,_,rfl,h⟩
 ·rw[decide_eq_false hc,cond_false,hcp]
  simp only[Option.bind_some]
  rw[if_pos (cap_ok (by omega))]
  refine ⟨_,_,rfl,?_⟩
  show List.length l.1+List.length (l.2.1++packF r)<=16000
  rw[List.length_append]
  omega
theorem sync_ok {l:Log} (h:sizeL l 16000):∃ l',spec_l5Sync.sem (l,())=some (l',())/\sizeL l' 16000:=by
 have h':List.length l.1+List.length l.2.1<=16000:=h
 refine ⟨(l.1++l.2.1,([]:List UInt8),()),lift_eq (k:=0) fun k _=>(spec_l5Sync.raw_eq k _).trans ?_,by show List.length (l.1++l.2.1)+0<=16000;rw[List.length_append];omega⟩
 unfold spec_l5Sync.p
 rw[specCopy_eq l.1 (by omega)]
 simp only[Option.bind_some]
 rw[if_pos (cap_ok (by omega))]
theorem rightLog_ok {s:L1Src} {b:Int} (h:srcOk s b) (hb:b<=50000):∃ l t,spec_l5Right.sem (s,())=some (l,t,())/\sizeL l 16000/\srcOk t (b+10000):=by
 obtain ⟨v,t1,e1,a1,c1,s1⟩:=next_ok (n:=7) h (by omega) (by omega) (by omega)
 have:=down_ex 100000 (B:=fun w v=>spec_l5Right.b0 w (spec_l5Right.q0 (s,())) (s,()) v) (fun s (l:Log) i=>(s,l,i)) (fun _ l=>sizeL l 16000) 1001 (by omega) (fun s l=>(l,s,()))
  (fun m s x b hm hs hb hI=>by
   have hlt:(0:Int) < ((m+1:Nat):Int):=by omega
   obtain ⟨r,t2,e2,hr,s2⟩:=rec_ok hs (by omega)
   obtain ⟨l',ok,e3,h3⟩:=append_v hI hr
   obtain ⟨u,t4,e4,s4⟩:=chance_ok (n:=3) s2 (by omega) (by omega) (by omega)
   cases u with
   | true=>
    obtain ⟨l2,e5,h5⟩:=sync_ok h3
    refine ⟨t4,l2,s4.mono (by omega),h5,fun self=>?_⟩
    unfold spec_l5Right.b0
    rw[decide_eq_true hlt,cond_true,e2]
    simp only[Option.bind_some]
    rw[e3]
    simp only[Option.bind_some]
    rw[e4]
    simp only[Option.bind_some,cond_true]
    rw[e5,down_w hm]
    rfl
   | false=>
    refine ⟨t4,l',s4.mono (by omega),h3,fun self=>?_⟩
    unfold spec_l5Right.b0
    rw[decide_eq_true hlt,cond_true,e2]
    simp only[Option.bind_some]
    rw[e3]
    simp only[Option.bind_some]
    rw[e4]
    simp only[Option.bind_some,cond_false]
    rw[down_w hm])
  (fun s x b _ _ self=>by
   unfold spec_l5Right.b0
   rw[decide_eq_false (Int.lt_irrefl _),cond_false]
   rfl) v.toNat t1 (([]:List UInt8),([]:List UInt8),()) (b+1) (by omega) s1 (by show 0+0<=16000;omega) (by omega)
 obtain ⟨t,l,a1',a2',a3'⟩:=this
 have hv:((v.toNat:Nat):Int)=v:=by omega
 rw[hv] at a3' a1'
 refine ⟨l,t,lift_eq (k:=8) fun k hk=>(spec_l5Right.raw_eq k _).trans ?_,a2',a1'.mono (by omega)⟩
 unfold spec_l5Right.p
 rw[e1]
 exact a3' k (by omega)
theorem bentLog_ok {s:L1Src} {b:Int} (h:srcOk s b) (hb:b<=50000):∃ l t,spec_l5Bent.sem (s,())=some (l,t,())/\okL l/\srcOk t (b+10001):=by
 obtain ⟨l,t1,e1,hl,s1⟩:=rightLog_ok h hb
 have h':List.length l.1+List.length l.2.1<=16000:=hl
 obtain ⟨v,t2,e2,a2,c2,s2⟩:=next_ok (n:=12) s1 (by omega) (by omega) (by omega)
 suffices hq:∃ r t,spec_l5Bent.p (s,())=some (r,t,())/\okL r/\srcOk t (b+10001) by
  obtain ⟨r,t,p1,p2,p3⟩:=hq
  exact ⟨r,t,lift_eq (k:=0) fun k _=>(spec_l5Bent.raw_eq k _).trans p1,p2,p3⟩
 unfold spec_l5Bent.p
 rw[e1]
 simp only[Option.bind_some]
 rw[e2]
 simp only[Option.bind_some]
 by_cases h0:v=0
 ·rw[decide_eq_true h0,cond_true,if_pos (cap_ok (by rw[List.length_cons,List.length_nil];omega))]
  refine ⟨_,_,rfl,⟨?_,?_⟩,s2.mono (by omega)⟩
  ·show List.length (l.1++[9])<=1048576
   rw[List.length_append,List.length_cons,List.length_nil];omega
  ·show List.length l.2.1<=1048576
   omega
 rw[decide_eq_false h0,cond_false]
 by_cases h1:v=1
 ·rw[decide_eq_true h1,cond_true,if_pos (cap_ok (by rw[List.length_cons,List.length_cons,List.length_nil];omega))]
  refine ⟨_,_,rfl,⟨?_,?_⟩,s2.mono (by omega)⟩
  ·show List.length l.1<=1048576
   omega
  ·show List.length (l.2.1++[7,1])<=1048576
   rw[List.length_append,List.length_cons,List.length_cons,List.length_nil];omega
 rw[decide_eq_false h1,cond_false]
 by_cases h2:v=2
 ·rw[decide_eq_true h2,cond_true,if_pos ⟨by omega,by omega,by simp only[CAP];omega⟩]
  refine ⟨_,_,rfl,⟨?_,?_⟩,s2.mono (by omega)⟩
  ·show List.length l.1<=1048576
   omega
  ·show List.length (List.replicate 16001 (0:UInt8))<=1048576
   rw[List.length_replicate];omega
 rw[decide_eq_false h2,cond_false]
 exact ⟨_,_,rfl,⟨by omega,by omega⟩,s2.mono (by omega)⟩
theorem drawApp_ok (c:List UInt8) (h:c.length<=1048576):∃ l r,spec_DrawAppendLog.sem (c,())=some (l,r,())/\okL l:=by
 have h0:srcOk (c,(0:Int),()) 0:=⟨h,Int.le_refl 0,Int.le_refl 0⟩
 obtain ⟨l,t1,e1,hl,s1⟩:=bentLog_ok h0 (by omega)
 obtain ⟨r,t2,e2,s2⟩:=bentRec_ok s1 (by omega)
 refine ⟨l,r,lift_eq (k:=0) fun k _=>(spec_DrawAppendLog.raw_eq k _).trans ?_,hl⟩
 unfold spec_DrawAppendLog.p
 rw[source_eq]
 simp only[Option.bind_some]
 rw[e1]
 simp only[Option.bind_some]
 rw[e2]
 rfl
end OT
set_option linter.unusedVariables false
set_option linter.unusedSimpArgs false
set_option linter.unusedSectionVars false
namespace OT
open Go
theorem sameRuns_self (xs:List Run) (hl:xs.length<=64) (h:∀ x ∈ xs,List.length x.2.1<=64):impl_sameRuns.sem (xs,xs,())=some (true,()):=by
 refine lift_eq (k:=0) fun k _=>(impl_sameRuns.raw_eq k _).trans ?_
 unfold impl_sameRuns.p
 have:∀ f:Nat×Int,slices_EqualFunc_Run.sem (xs,xs,f,())=some (true,()):=fun f=>by
  refine lift_eq (k:=66) fun k hk=>(slices_EqualFunc_Run.raw_eq k _).trans ?_
  unfold slices_EqualFunc_Run.p
  rw[decide_eq_true rfl,Bool.not_true,cond_false]
  have:=all_loop (B:=fun self v=>slices_EqualFunc_Run.b0 self (slices_EqualFunc_Run.q0 (xs,xs,f,())) (xs,xs,f,()) v) (xs:=xs) (ys:=xs) (fun _ _=>true) rfl (by rw[maxLen_val];omega)
   (fun i hx hy self=>by
    have h1:impl_sameRuns_1.sem (xs[i],xs[i],())=some (true,()):=by
     refine lift_eq (k:=0) fun k _=>(impl_sameRuns_1.raw_eq k _).trans ?_
     unfold impl_sameRuns_1.p
     rw[decide_eq_true rfl,cond_true,equal_eq xs[i].2.1 xs[i].2.1 (by have:=h _ (List.getElem_mem hx);omega),decide_eq_true rfl]
     rfl
    have hlt:(i:Int) < (xs.length:Int):=by omega
    unfold slices_EqualFunc_Run.b0
    rw[decide_eq_true hlt,cond_true,if_pos (Int.natCast_nonneg i),Int.toNat_natCast,List.getElem?_eq_getElem hx]
    simp only[Option.bind_some]
    rw[if_pos (Int.natCast_nonneg i),h1]
    rfl) (fun self=>by
    unfold slices_EqualFunc_Run.b0
    rw[decide_eq_false (Int.lt_irrefl _),cond_false]
    rfl) k (by omega)
  refine Eq.trans this ?_
  simp[allB]
 rw[this]
 rfl
theorem sameRecs_self (xs:List Record) (hl:xs.length<=100000) (h:∀ x ∈ xs,recF x=0):impl_SameRecords.sem (xs,xs,())=some (true,()):=by
 refine lift_eq (k:=0) fun k _=>(impl_SameRecords.raw_eq k _).trans ?_
 unfold impl_SameRecords.p
 have:∀ f:Nat×Int,slices_EqualFunc_Record.sem (xs,xs,f,())=some (true,()):=fun f=>by
  refine lift_eq (k:=100002) fun k hk=>(slices_EqualFunc_Record.raw_eq k _).trans ?_
  unfold slices_EqualFunc_Record.p
  rw[decide_eq_true rfl,Bool.not_true,cond_false]
  have:=all_loop (B:=fun self v=>slices_EqualFunc_Record.b0 self (slices_EqualFunc_Record.q0 (xs,xs,f,())) (xs,xs,f,()) v) (xs:=xs) (ys:=xs) (fun _ _=>true) rfl (by rw[maxLen_val];omega)
   (fun i hx hy self=>by
    have h1:impl_SameRecords_1.sem (xs[i],xs[i],())=some (true,()):=by
     have hs:=small_of (h _ (List.getElem_mem hx))
     refine lift_eq (k:=0) fun k _=>(impl_SameRecords_1.raw_eq k _).trans ?_
     unfold impl_SameRecords_1.p
     rw[decide_eq_true rfl,cond_true,decide_eq_true rfl,cond_true,decide_eq_true rfl,cond_true,sameRuns_self _ hs.1 hs.2]
     rfl
    have hlt:(i:Int) < (xs.length:Int):=by omega
    unfold slices_EqualFunc_Record.b0
    rw[decide_eq_true hlt,cond_true,if_pos (Int.natCast_nonneg i),Int.toNat_natCast,List.getElem?_eq_getElem hx]
    simp only[Option.bind_some]
    rw[if_pos (Int.natCast_nonneg i),h1]
    rfl) (fun self=>by
    unfold slices_EqualFunc_Record.b0
    rw[decide_eq_false (Int.lt_irrefl _),cond_false]
    rfl) k (by omega)
  refine Eq.trans this ?_
  simp[allB]
 rw[this]
 rfl
abbrev BR:Type:=Int×List UInt8×Unit
def packP (rs:List Record) (acc:List UInt8):BR:=if firstF recF rs=0 then (if 16000 < (acc++packAll rs).length then ((2:Int),([]:List UInt8),()) else ((0:Int),acc++packAll rs,())) else (firstF recF rs,([]:List UInt8),())
def packS (s:List UInt8) (r:Record):Sum (BR×Unit) (List UInt8):=if recF r=0 then .inr (if s.length<=16000 then s++packF r else s) else .inl ((recF r,([]:List UInt8),()),())
def packE (s:List UInt8):BR×Unit:=if 16000 < s.length then (((2:Int),([]:List UInt8),()),()) else (((0:Int),s,()),())
theorem packAll_cons (r:Record) (rs:List Record):packAll (r::rs)=packF r++packAll rs:=by unfold packAll;rw[List.flatMap_cons]
theorem forI_pack2:∀ (rs:List Record) (i:Nat) (s acc:List UInt8),(s=acc\/(16000 < s.length/\16000 < acc.length))->forI (fun _ s r=>packS s r) packE i rs s=(packP rs acc,())
 | [],i,s,acc,h=>by
  simp only[forI,packE,packP,firstF,packAll,List.flatMap_nil,List.append_nil,if_true]
  rcases h with rfl | h
  ·split <;> rfl
  ·rw[if_pos h.1,if_pos h.2]
 | r::rs,i,s,acc,h=>by
  simp only[forI,packS]
  by_cases h0:recF r=0
  rotate_left
  ·rw[if_neg h0]
   unfold packP
   simp only[firstF,h0,if_false]
  rw[if_pos h0]
  have:=forI_pack2 rs (i+1) (if s.length<=16000 then s++packF r else s) (acc++packF r) (by
   rcases h with rfl | h
   ·by_cases hl:s.length<=16000
    ·rw[if_pos hl];exact .inl rfl
    ·rw[if_neg hl];exact .inr ⟨by omega,by rw[List.length_append];omega⟩
   ·rw[if_neg (by omega)]
    exact .inr ⟨h.1,by rw[List.length_append];omega⟩)
  refine Eq.trans this ?_
  unfold packP
  rw[packAll_cons,<- List.append_assoc]
  simp only[firstF,h0,if_true]
theorem implPackAll_eq (rs:List Record) (hl:rs.length<=100):impl_PackAll.sem (rs,())=some (packP rs [],()):=by
 refine lift_eq (k:=102) fun k hk=>(impl_PackAll.raw_eq k _).trans ?_
 have:=for_loop (B:=fun self v=>impl_PackAll.b0 self (impl_PackAll.q0 (rs,())) (rs,()) v) rs (fun (s:List UInt8) (i:Int)=>(s,i)) (fun _ s r=>packS s r) packE (fun _ s=>s.length<=21000) (by rw[maxLen_val];omega)
  (fun i hi s self hI=>by
   have hlt:(i:Int) < (rs.length:Int):=by omega
   unfold impl_PackAll.b0 packS
   rw[decide_eq_true hlt,cond_true,if_pos (Int.natCast_nonneg i),Int.toNat_natCast,List.getElem?_eq_getElem hi]
   simp only[Option.bind_some]
   rw[implRec_eq]
   simp only[Option.bind_some]
   by_cases h0:recF rs[i]=0
   rotate_left
   ·rw[decide_eq_false h0,Bool.not_false,cond_true,if_neg h0]
   rw[decide_eq_true h0,Bool.not_true,cond_false,if_pos h0]
   have hs:=small_of h0
   have hp:=packF_small hs
   by_cases h1:s.length<=16000
   ·have h2:(s.length:Int)<=16000:=by omega
    rw[decide_eq_true h2,cond_true,if_pos h1,implPack_eq _ hs]
    simp only[Option.bind_some]
    rw[if_pos (cap_ok (by omega))]
   ·have h2:¬ (s.length:Int)<=16000:=by omega
    rw[decide_eq_false h2,cond_false,if_neg h1])
  (fun i hi s s' hI hf=>by
   unfold packS at hf
   by_cases h0:recF rs[i]=0
   rotate_left
   ·rw[if_neg h0] at hf;cases hf
   rw[if_pos h0] at hf
   injection hf with hf
   subst hf
   have hp:=packF_small (small_of h0)
   by_cases h1:s.length<=16000
   ·rw[if_pos h1,List.length_append];omega
   ·rw[if_neg h1];exact hI) (fun s self hI=>by
   unfold impl_PackAll.b0
   rw[decide_eq_false (Int.lt_irrefl _),cond_false]
   unfold impl_PackAll.q0 packE
   by_cases h:16000 < s.length
   ·have h2:(16000:Int) < (s.length:Int):=by omega
    rw[decide_eq_true h2,cond_true,if_pos h]
   ·have h2:¬ (16000:Int) < (s.length:Int):=by omega
    rw[decide_eq_false h2,cond_false,if_neg h]) [] (Nat.zero_le _) k (by omega)
 rw[forI_pack2 rs 0 [] [] (.inl rfl)] at this
 exact this
theorem specPackLoop (rs:List Record) (hl:rs.length<=100) (h:∀ r ∈ rs,recF r=0) (k:Nat) (hk:102<=k):spec_PackAll.r1 k (rs,()) (([]:List UInt8),(0:Int))=some (packP rs [],()):=by
 have:=for_loop (B:=fun self v=>spec_PackAll.b1 self (spec_PackAll.q1 (rs,())) (rs,()) v) rs (fun (s:List UInt8) (i:Int)=>(s,i)) (fun _ s r=>.inr (s++packF r)) packE (fun i s=>s.length<=5000*i) (by rw[maxLen_val];omega)
  (fun i hi s self hI=>by
   have hlt:(i:Int) < (rs.length:Int):=by omega
   have hs:=small_of (h _ (List.getElem_mem hi))
   have hp:=packF_small hs
   unfold spec_PackAll.b1
   rw[decide_eq_true hlt,cond_true,if_pos (Int.natCast_nonneg i),Int.toNat_natCast,List.getElem?_eq_getElem hi]
   simp only[Option.bind_some]
   rw[specPack_eq _ hs]
   simp only[Option.bind_some]
   rw[if_pos (cap_ok (by omega))])
  (fun i hi s s' hI hf=>by
   injection hf with hf
   subst hf
   have hp:=packF_small (small_of (h _ (List.getElem_mem hi)))
   rw[List.length_append]
   omega) (fun s self hI=>by
   unfold spec_PackAll.b1
   rw[decide_eq_false (Int.lt_irrefl _),cond_false]
   unfold spec_PackAll.q1 packE
   by_cases h:16000 < s.length
   ·have h2:(16000:Int) < (s.length:Int):=by omega
    rw[decide_eq_true h2,cond_true,if_pos h]
   ·have h2:¬ (16000:Int) < (s.length:Int):=by omega
    rw[decide_eq_false h2,cond_false,if_neg h]) [] (Nat.zero_le _) k (by omega)
 rw[forI_fold (g:=fun (s:List UInt8) (r:Record)=>s++packF r)] at this
 have hf:∀ (xs:List Record) (s:List UInt8),xs.foldl (fun s r=>s++packF r) s=s++packAll xs:=by
  intro xs
  induction xs with
  | nil=>intro s;simp[packAll]
  | cons x xs ih=>intro s;rw[List.foldl_cons,ih,packAll_cons,List.append_assoc]
 have h0:firstF recF rs=0:=by
  have:∀ xs:List Record,(∀ r ∈ xs,recF r=0)->firstF recF xs=0:=by
   intro xs
   induction xs with
   | nil=>intro _;rfl
   | cons x xs ih=>
    intro hx
    simp only[firstF,hx x List.mem_cons_self,if_true]
    exact ih fun r hr=>hx r (List.mem_cons_of_mem _ hr)
  exact this rs h
 rw[hf] at this
 refine Eq.trans this (congrArg some ?_)
 unfold packE packP
 rw[if_pos h0]
 split <;> rfl
theorem specPackAll_eq (rs:List Record) (hl:rs.length<=100):spec_PackAll.sem (rs,())=some (packP rs [],()):=by
 refine lift_eq (k:=102) fun k hk=>(spec_PackAll.raw_eq k _).trans ?_
 have:=for_loop (B:=fun self v=>spec_PackAll.B0 k self (spec_PackAll.Q0 k (rs,())) (rs,()) v) rs (fun (_:Unit) (i:Int)=>i) (fun _ _ r=>if recF r=0 then .inr () else .inl ((recF r,([]:List UInt8),()),())) (fun _=>(packP rs [],())) (fun i _=>∀ (j:Nat) (hj:j < rs.length),j < i->recF rs[j]=0) (by rw[maxLen_val];omega)
  (fun i hi s self hI=>by
   have hlt:(i:Int) < (rs.length:Int):=by omega
   show spec_PackAll.b0 _ _ _ _=_
   unfold spec_PackAll.b0
   rw[decide_eq_true hlt,cond_true,if_pos (Int.natCast_nonneg i),Int.toNat_natCast,List.getElem?_eq_getElem hi]
   simp only[Option.bind_some]
   rw[specRec_eq]
   simp only[Option.bind_some]
   by_cases h0:recF rs[i]=0
   ·rw[decide_eq_true h0,Bool.not_true,cond_false,if_pos h0]
   ·rw[decide_eq_false h0,Bool.not_false,cond_true,if_neg h0])
  (fun i hi s s' hI hf j hj hji=>by
   by_cases h0:recF rs[i]=0
   rotate_left
   ·rw[if_neg h0] at hf;cases hf
   by_cases he:j=i
   ·subst he;exact h0
   ·exact hI j hj (by omega)) (fun s self hI=>by
   show spec_PackAll.b0 _ _ _ _=_
   unfold spec_PackAll.b0
   rw[decide_eq_false (Int.lt_irrefl _),cond_false]
   exact specPackLoop rs hl (fun r hr=>by
    obtain ⟨j,hj,rfl⟩:=List.getElem_of_mem hr
    exact hI j hj hj) k hk) () (fun j hj h=>by omega) k (by omega)
 rw[forI_first recF (fun c=>((c,([]:List UInt8),()),())) (fun _=>(packP rs [],()))] at this
 refine Eq.trans this (congrArg some ?_)
 split
 ·rfl
 ·rename_i h
  unfold packP
  rw[if_neg h]
theorem readLog_eq (d:List UInt8) (hd:d.length<=16000):impl_ReadLog.sem (d,())=some (((0:Int),((allF d).2:Int),(allF d).1,()),()):=by
 refine lift_eq (k:=0) fun k _=>(impl_ReadLog.raw_eq k _).trans ?_
 unfold impl_ReadLog.p
 have h:¬ (16000:Int) < (d.length:Int):=by omega
 rw[decide_eq_false h,cond_false,implAll_eq d (by omega)]
 rfl
theorem syncLog_eq {l:Log} (h:okL l) (h0:logF l=0):impl_SyncLog.sem (l,())=some (((0:Int),(l.1++l.2.1,([]:List UInt8),()),()),()):=by
 obtain ⟨h1,h2⟩:=h
 have e1:impl_Log_all.sem (l,())=some (l.1++l.2.1,()):=by
  refine lift_eq (k:=0) fun k _=>(impl_Log_all.raw_eq k _).trans ?_
  unfold impl_Log_all.p
  rw[implCopied_eq l.1 (by omega)]
  simp only[Option.bind_some]
  rw[if_pos (cap_ok (by omega))]
 have e2:impl_Log_synced.sem (l,())=some ((l.1++l.2.1,([]:List UInt8),()),()):=by
  refine lift_eq (k:=0) fun k _=>(impl_Log_synced.raw_eq k _).trans ?_
  unfold impl_Log_synced.p
  rw[e1]
  rfl
 refine lift_eq (k:=0) fun k _=>(impl_SyncLog.raw_eq k _).trans ?_
 unfold impl_SyncLog.p
 rw[implLog_eq _ ⟨h1,h2⟩]
 simp only[Option.bind_some]
 rw[h0,decide_eq_true rfl,Bool.not_true,cond_false,e2]
 rfl
theorem readF_app3 {a b:List UInt8} {q:Record×Nat} (h:readF a=some q):readF (a++b)=some q:=by
 have h0:=h
 unfold readF at h
 split at h
 ·cases h
 ·rename_i hc
  have l0:7<=a.length:=by omega
  have l1:at8 a 0<=a.length:=by omega
  unfold readF
  have e0:at8 (a++b) 0=at8 a 0:=at8_app2 (by omega)
  have e1:at8 (a++b) 1=at8 a 1:=at8_app2 (by omega)
  have e2:at8 (a++b) 2=at8 a 2:=at8_app2 (by omega)
  have e3:at8 (a++b) 3=at8 a 3:=at8_app2 (by omega)
  have e4:at8 (a++b) 4=at8 a 4:=at8_app2 (by omega)
  rw[e0,e1,e2,e3,e4,List.take_append_of_le_length l1,if_neg (by rw[List.length_append];omega)]
  exact h
theorem readAll_app3 (b:List UInt8):∀ (k:Nat) (a:List UInt8),a.length < k->(readAllF k a).2=a.length->readAllF (k+b.length) (a++b)=((readAllF k a).1++(allF b).1,a.length+(allF b).2)
 | 0,_,h,_=>by omega
 | k+1,a,hk,h=>by
  cases hr:readF a with
  | none=>
   simp only[readAllF,hr] at h
   have:a=[]:=List.eq_nil_of_length_eq_zero h.symm
   subst this
   rw[List.nil_append,readAllF_fuel (k+1+b.length) (b.length+1) b (by omega) (by omega)]
   simp[readAllF,hr,allF]
  | some q=>
   obtain ⟨r,n⟩:=q
   have hn:=readF_n hr
   have hd:(a.drop n).length=a.length - n:=List.length_drop
   simp only[readAllF,hr] at h
   have ih:=readAll_app3 b k (a.drop n) (by omega) (by omega)
   have e:k+1+b.length=(k+b.length)+1:=by omega
   rw[e]
   simp only[readAllF,hr,readF_app3 hr,List.drop_append_of_le_length hn.2.1,ih,List.cons_append]
   rw[hd]
   congr 1
   omega
theorem whole_app3 {a b:List UInt8} (h:wholeB a=true):allF (a++b)=((allF a).1++(allF b).1,a.length+(allF b).2):=by
 have:=readAll_app3 b (a.length+1) a (by omega) (of_decide_eq_true h)
 unfold allF
 rw[List.length_append,readAllF_fuel (a.length+b.length+1) (a.length+1+b.length) _ (by rw[List.length_append];omega) (by rw[List.length_append];omega)]
 exact this
theorem all_rec:∀ (k:Nat) (d:List UInt8),∀ r ∈ (readAllF k d).1,recF r=0
 | 0,_,r,h=>by cases h
 | k+1,d,r,h=>by
  simp only[readAllF] at h
  cases hr:readF d with
  | none=>rw[hr] at h;cases h
  | some q=>
   obtain ⟨x,n⟩:=q
   rw[hr] at h
   rcases List.mem_cons.1 h with h1 | h1
   ·rw[h1];exact (readF_n hr).2.2
   ·exact all_rec k _ r h1
theorem all_cnt:∀ (k:Nat) (d:List UInt8),(readAllF k d).1.length<=d.length
 | 0,d=>Nat.zero_le _
 | k+1,d=>by
  simp only[readAllF]
  cases hr:readF d with
  | none=>exact Nat.zero_le _
  | some q=>
   obtain ⟨r,n⟩:=q
   have hn:=readF_n hr
   have hd:(d.drop n).length=d.length - n:=List.length_drop
   have:=all_cnt k (d.drop n)
   simp only[List.length_cons]
   omega
theorem logs_true (v:laws_FnLogs.Arg) (hv:okA laws_FnLogs.ps v):laws_FnLogs.sem v=some (true,()):=by
 obtain ⟨c,⟨⟩⟩:=v
 refine lift_eq (k:=0) fun k _=>(laws_FnLogs.raw_eq k _).trans ?_
 show laws_FnLogs.p _=_
 unfold laws_FnLogs.p
 rw[show laws_lwBig.sem (c,())=some (decide ((1048576:Int) < (c.length:Int)),()) from lift_eq (k:=0) fun k _=>(laws_lwBig.raw_eq k _).trans rfl]
 simp only[Option.bind_some]
 by_cases hl:(1048576:Int) < (c.length:Int)
 ·rw[decide_eq_true hl,cond_true]
 rw[decide_eq_false hl,cond_false]
 obtain ⟨rs,e1,hrs⟩:=drawPack_ok c (by omega)
 obtain ⟨l,x,e2,hlog⟩:=drawApp_ok c (by omega)
 rw[e1]
 simp only[Option.bind_some]
 rw[implPackAll_eq rs (by omega),specPackAll_eq rs (by omega)]
 simp only[Option.bind_some]
 by_cases h0:(packP rs []).1=0
 rotate_left
 ·rw[decide_eq_false h0,Bool.not_false,cond_true,decide_true]
 rw[decide_eq_true h0,Bool.not_true,cond_false]
 have hpk:(∀ r ∈ rs,recF r=0)/\packP rs []=((0:Int),packAll rs,())/\(packAll rs).length<=16000:=by
  unfold packP at h0 ⊢
  by_cases hf:firstF recF rs=0
  rotate_left
  ·rw[if_neg hf] at h0;exact absurd h0 hf
  rw[if_pos hf] at h0 ⊢
  rw[List.nil_append] at h0 ⊢
  by_cases hc:16000 < (packAll rs).length
  ·rw[if_pos hc] at h0;cases h0
  rw[if_neg hc]
  refine ⟨?_,rfl,by omega⟩
  have:∀ xs:List Record,firstF recF xs=0->∀ r ∈ xs,recF r=0:=by
   intro xs
   induction xs with
   | nil=>intro _ r h;cases h
   | cons y ys ih=>
    intro h r hr
    simp only[firstF] at h
    by_cases hy:recF y=0
    ·rw[if_pos hy] at h
     rcases List.mem_cons.1 hr with h1 | h1
     ·rw[h1];exact hy
     ·exact ih h r h1
    ·rw[if_neg hy] at h;exact absurd h hy
  exact this rs hf
 obtain ⟨hall,hp,hp16⟩:=hpk
 rw[hp]
 simp only[]
 rw[readLog_eq _ hp16,allF_pack hall]
 simp only[Option.bind_some]
 rw[sameRecs_self rs (by omega) hall]
 simp only[Option.bind_some,decide_true,cond_true]
 rw[e2]
 simp only[Option.bind_some]
 rw[implAppend_eq l x hlog,specAppend_eq l x hlog]
 simp only[Option.bind_some,decide_true,Bool.not_true,cond_false]
 by_cases h1:(appF l x).1=0
 rotate_left
 ·rw[decide_eq_false h1,cond_false]
 rw[decide_eq_true h1,cond_true]
 have happ:logF l=0/\recF x=0/\List.length l.1+List.length l.2.1+(packF x).length<=16000/\appF l x=((0:Int),(l.1,l.2.1++packF x,()),()):=by
  unfold appF at h1 ⊢
  split at h1
  ·rename_i a1
   rw[if_pos a1]
   split at h1
   ·rename_i a2
    rw[if_pos a2]
    split at h1
    ·cases h1
    ·rename_i a3
     rw[if_neg a3]
     exact ⟨a1,a2,by omega,rfl⟩
   ·rename_i a2;exact absurd h1 a2
  ·rename_i a1;exact absurd h1 a1
 obtain ⟨g1,g2,g3,g4⟩:=happ
 have hw:wholeB l.1=true/\wholeB l.2.1=true:=by
  unfold logF at g1
  split at g1
  ·cases g1
  ·split at g1
   ·rename_i b
    rw[Bool.and_eq_true] at b
    exact b
   ·cases g1
 rw[g4]
 simp only[List.nil_append,List.length_nil]
 rw[if_pos (cap_ok (by omega)),if_pos (cap_ok (by omega)),readLog_eq (l.1++l.2.1) (by rw[List.length_append];omega)]
 simp only[Option.bind_some]
 have hx1:allF (packF x)=([x],(packF x).length):=by
  have:=allF_pack (rs:=[x]) (fun r hr=>by rw[List.mem_singleton] at hr;rw[hr];exact g2)
  rw[packAll_cons,show packAll []=[] from rfl,List.append_nil] at this
  exact this
 have hx2:allF (l.2.1++packF x)=((allF l.2.1).1++[x],List.length l.2.1+(packF x).length):=by rw[whole_app3 hw.2,hx1]
 have hwas:allF (l.1++l.2.1)=((allF l.1).1++(allF l.2.1).1,List.length l.1+(allF l.2.1).2):=whole_app3 hw.1
 have hnow:allF (l.1++(l.2.1++packF x))=((allF l.1).1++((allF l.2.1).1++[x]),List.length l.1+(List.length l.2.1+(packF x).length)):=by rw[whole_app3 hw.1,hx2]
 have hwn:wholeB (l.2.1++packF x)=true:=by
  unfold wholeB
  rw[hx2,List.length_append,decide_eq_true rfl]
 have hok':okL ((l.1,l.2.1++packF x,()):Log):=⟨by show List.length l.1<=1048576;omega,by show (l.2.1++packF x).length<=1048576;rw[List.length_append];omega⟩
 have hlg':logF ((l.1,l.2.1++packF x,()):Log)=0:=by
  unfold logF
  rw[if_neg (by show ¬ 16000 < List.length l.1+(l.2.1++packF x).length;rw[List.length_append];omega)]
  rw[if_pos (by rw[Bool.and_eq_true];exact ⟨hw.1,hwn⟩)]
 have hlen:(l.1++(l.2.1++packF x)).length<=16000:=by rw[List.length_append,List.length_append];omega
 rw[if_pos (cap_ok (by omega)),if_pos (cap_ok (by rw[List.length_append];omega)),readLog_eq _ hlen,syncLog_eq hok' hlg']
 simp only[Option.bind_some]
 rw[readLog_eq _ hlen,hwas,hnow]
 simp only[Option.bind_some]
 have c1:=all_cnt (List.length l.1+1) l.1
 have c2:=all_cnt (List.length l.2.1+1) l.2.1
 have r1:∀ r ∈ (allF l.1).1,recF r=0:=all_rec _ _
 have r2:∀ r ∈ (allF l.2.1).1,recF r=0:=all_rec _ _
 generalize hA:(allF l.1).1=A at *
 generalize hB:(allF l.2.1).1=B at *
 have hA':A.length<=16000:=by unfold allF at hA;rw[hA] at c1;omega
 have hB':B.length<=16000:=by unfold allF at hB;rw[hB] at c2;omega
 have en:(A++(B++[x])).length=(A++B).length+1:=by simp only[List.length_append,List.length_cons,List.length_nil];omega
 have hAB:(A++B).length<=32000:=by rw[List.length_append];omega
 have ew:w64 (((A++B).length:Int)+1)=((A++(B++[x])).length:Int):=by rw[w64_in (by omega)];omega
 rw[ew,decide_eq_true (rfl:((A++(B++[x])).length:Int)=_),Bool.not_true,cond_false,if_pos ⟨by omega,by omega⟩,Int.toNat_natCast]
 have t1:((A++(B++[x])).take (A++B).length).drop 0=A++B:=by rw[<-List.append_assoc,List.take_left,List.drop_zero]
 have t2:((A++(B++[x])).take (A++(B++[x])).length).drop (A++B).length=[x]:=by rw[List.take_length,<- List.append_assoc,List.drop_left]
 rw[t1,sameRecs_self (A++B) (by omega) (fun r hr=>by
  rcases List.mem_append.1 hr with h | h
  ·exact r1 r h
  ·exact r2 r h)]
 simp only[Option.bind_some,Bool.not_true,cond_false]
 rw[if_pos ⟨by omega,by omega⟩,t2,sameRecs_self [x] (by simp) (fun r hr=>by rw[List.mem_singleton] at hr;rw[hr];exact g2)]
 simp only[Option.bind_some,Bool.not_true,cond_false]
 rfl
end OT
namespace Go.Proofs.Ythpkgnffmmmhiaa.logs
open Go Go.ChangeShapes Go.WideShapes Go.ChangeAt Go.RowKit
theorem own:ownKnob Try.prog.godebug=none:=by kernel_rfl
theorem laidOut:laidOutB Try.prog=true:=by kernel_rfl
theorem htrue:∀ v,OT.okA OT.laws_FnLogs.ps v->∃ u,OT.laws_FnLogs.sem v=some (true,u):=fun v hv=>⟨(),OT.logs_true v hv⟩
theorem trod_len {H:Type} {enc:TypeId×Value->H} {P:Program} {w:World} {base:Nat} {sp:Nat->Bool} {held:Bool}:∀ (ts:List TypeId) (vs:List Value) (ds:List (DataW H)) (ps:List MemPlace),DataW.TrodAll enc P w base sp held ts vs ds ps->ds.length=ts.length
 | [],[],[],_,_=>rfl
 | _::ts,_::vs,_::ds,_,⟨_,q,_,h,_⟩=>congrArg (·+1) (trod_len ts vs ds q h)
 | [],_::_,_,_,h=>h.elim
 | [],[],_::_,_,h=>h.elim
 | _::_,[],_,_,h=>h.elim
 | _::_,_::_,[],_,h=>h.elim
set_option maxRecDepth 100000 in
theorem lifted (os:Os) (started:os.Started) (H:Type) (enc:TypeId×Value->H) :
  ReturnsInHanded {} Try.checked os 3 .any (Rows.fnLogsSpec.pre6 enc Try.prog Try.f3 Rows.fnLogsRow.domain false) (Rows.fnLogsSpec.post enc Try.prog Try.f3 false true false false):=by
 refine returnsInHanded_of_change (C:=Try.checked) own started (by kernel_rfl) Try.func3
  (ChangeSpec.witness6 (enc:=enc) (C:=Try.checked) false ⟨#[],#[.slice none 0 0],[]⟩ 8 (by kernel_rfl) (by kernel_rfl) (by kernel_rfl) (by kernel_rfl)) ?_
 intro W base args ds gs before hval0 hW hcnd _
 have hval:∀ (j:Nat) t v,Try.f3.params[j]?=some t->args[j]?=some v->Value.okWide Try.prog W .any base t v:=hval0
 have hW':=hW
 obtain ⟨p,q,hA0,hV,rfl,hfz,hnd⟩:=hW
 have hA:DataW.TrodAll enc Try.prog W 0 (fun _=>true) true Try.f3.params.toList args.toList ds p:=hA0
 obtain ⟨rfl,rfl⟩:=trodVars_none hV
 simp only[List.append_nil] at hW'
 have hl:OT.roLay Try.prog OT.laws_FnLogs.ps Try.f3.params.toList=true:=by kernel_rfl
 have hc:=OT.law_calls (enc:=enc) (cap:=false) (ps:=OT.laws_FnLogs.ps) (Fn:=OT.laws_FnLogs.sem) OT.laws_FnLogs.ok.1 htrue hl hA (b0:=base) (fun j t v ht hv=>hval j t v (by simpa using ht) (by simpa using hv))
 simp only[Array.toArray_toList] at hc
 refine hc.mono fun e W' ⟨he,hb⟩=>?_
 refine ⟨_,he,OT.law_post (C:=Try.checked) laidOut rfl hl (by kernel_rfl) Try.underlying4 rfl hW' hA ?_ hb⟩
 have hlen:ds.length=1:=trod_len _ _ _ _ hA
 match ds,hlen with
 | [d1],_=>rfl
set_option maxHeartbeats 8000000 in
theorem closed:joinedFacts Try.prog 3 Try.f3 Rows.fnLogsSpec Rows.fnLogsRow=true:=by
 unfold joinedFacts
 simp only[Bool.and_eq_true]
 repeat' apply And.intro
 all_goals (as_aux_lemma=>kernel_rfl)
theorem over:Rows.fnLogsRow.holds Try.pinned (OpenSpec.ofChange Rows.fnLogsSpec):=
 OpenClaim.holds_of_wide 3 Try.f3 rfl rfl rfl rfl rfl rfl rfl ⟨rfl,rfl,rfl,rfl,rfl⟩ rfl rfl rfl rfl rfl (by kernel_rfl) Try.func3 closed
  (of_decide_eq_true (by kernel_rfl)) (by unfold Func.isWrapper;first | (rw[if_pos (by decide +kernel)];kernel_rfl) | (rw[if_neg (by decide +kernel)];exact ⟨rfl,rfl⟩))
  (fun os started H enc _=>lifted os started H enc)
theorem proved:Rows.FnLogsSaid:=over
#print axioms proved
end Go.Proofs.Ythpkgnffmmmhiaa.logs
