/- FnExactSameStory: the row; no conditions. -/
import Derived.Test.YtledflocbohofaaGreatSg
import Derived.Test.YtledflocbohofaaGreatRows
set_option linter.unusedVariables false
set_option linter.unusedSimpArgs false
namespace OT
open Go
def GV (p:List UInt8) (r:cE):List UInt8:=lc p r.1.toNat (min (List.length r.2.1) (p.length - r.1.toNat)) r.2.1
def yU (p:List UInt8) (rs:List cE):List UInt8:=rs.foldl GV p
theorem xm {p:List UInt8} {r:cE} (h:r.1.toNat<=p.length):(GV p r).length=p.length:=wt _ _ (by omega) (by omega)
theorem yV:∀ (rs:List cE) (p:List UInt8),p.length=64->(∀ r ∈ rs,0<=r.1/\r.1<=63)->(yU p rs).length=64
 | [],p,h,_=>h
 | r::rs,p,h,hr=>by
  have:=hr r (by simp)
  exact yV rs _ (by rw[xm (by omega)];exact h) (fun x hx=>hr x (by simp[hx]))
theorem zD (p:List UInt8) (rs:List cE) (hp:p.length=64) (hl:rs.length<=64) (hr:∀ r ∈ rs,0<=r.1/\r.1<=63):eF.ab (p,rs,())=some (yU p rs,()):=by
 refine ag (k:=66) fun k hk=>(eF.aa k _).trans ?_
 unfold eF.p
 rw[uu _ (by show p.length<=_;omega)]
 have:=br (B:=fun self v=>eF.B0 0 self (fun z=>eF.Q0 0 (p,rs,()) z) (p,rs,()) v) rs (fun (s:List UInt8) (i:Int)=>(s,i)) (fun _ s r=>.inr (GV s r)) (fun s=>(s,())) (fun _ s=>s.length=64) (by rw[ah];omega)
  (fun i hi s self hI=>by
   show eF.b0 _ _ _ _=_
   unfold eF.b0
   have aj:(i:Int) < (rs.length:Int):=by omega
   have hx:=hr rs[i] (List.getElem_mem hi)
   have en:(0:Int)<=(rs[i]).1/\(rs[i]).1<=(s.length:Int):=by omega
   simp only[aj,decide_true,cond_true,Int.natCast_nonneg,if_true,Int.toNat_natCast,List.getElem?_eq_getElem hi,Option.bind_some,en,and_self]
   rfl)
  (fun i hi s s' hI hs=>by
   injection hs with hs
   have hx:=hr rs[i] (List.getElem_mem hi)
   rw[<-hs,xm (by omega)];exact hI) (fun s self hI=>by
   show eF.b0 _ _ _ _=_
   unfold eF.b0
   simp only[Int.lt_irrefl,decide_false,cond_false]
   rfl) p hp k (by omega)
 rw[ei] at this
 exact this
theorem zE (p:List UInt8) (rs:List cE) (hp:p.length=64) (hl:rs.length<=64) (hr:∀ r ∈ rs,0<=r.1/\r.1<=63):eB.ab (p,rs,())=some (yU p rs,()):=by
 refine ag (k:=66) fun k hk=>(eB.aa k _).trans ?_
 unfold eB.p
 rw[pv _ (by show p.length<=_;omega)]
 have:=br (B:=fun self v=>eB.B0 0 self (fun z=>eB.Q0 0 (p,rs,()) z) (p,rs,()) v) rs (fun (s:List UInt8) (i:Int)=>(s,i)) (fun _ s r=>.inr (GV s r)) (fun s=>(s,())) (fun _ s=>s.length=64) (by rw[ah];omega)
  (fun i hi s self hI=>by
   show eB.b0 _ _ _ _=_
   unfold eB.b0
   have aj:(i:Int) < (rs.length:Int):=by omega
   have hx:=hr rs[i] (List.getElem_mem hi)
   have en:(0:Int)<=(rs[i]).1/\(rs[i]).1<=(s.length:Int):=by omega
   simp only[aj,decide_true,cond_true,Int.natCast_nonneg,if_true,Int.toNat_natCast,List.getElem?_eq_getElem hi,Option.bind_some,en,and_self]
   rfl)
  (fun i hi s s' hI hs=>by
   injection hs with hs
   have hx:=hr rs[i] (List.getElem_mem hi)
   rw[<-hs,xm (by omega)];exact hI) (fun s self hI=>by
   show eB.b0 _ _ _ _=_
   unfold eB.b0
   simp only[Int.lt_irrefl,decide_false,cond_false]
   rfl) p hp k (by omega)
 rw[ei] at this
 exact this
theorem Ko (ps:f9) (h:ps.length<=12):fy.ab (ps,())=some (ps,()):=by
 refine ag (k:=0) fun k _=>(fy.aa k _).trans ?_
 show fy.p _=_
 unfold fy.p
 refine ER (fun e=>by rw[show ps=[] from e]) ?_
 have:([]:List (List UInt8)).length+ps.length<=bm:=cD (by simp only[List.length_nil];omega)
 rw[if_pos this,List.nil_append]
def xn (q:f9) (r:aL):f9:=q.set r.2.2.1.toNat (yU (q.getD r.2.2.1.toNat []) r.2.2.2.1)
def iV (ps:f9) (r:aL):Sum Int f9:=
 if l5 r=0 then (if cA r.1 2 4 then (if (ps.length:Int) < r.2.2.1 then .inl 1 else .inr (xn (if r.2.2.1=(ps.length:Int) then ps++[tQ] else ps) r)) else .inr ps) else .inl (l5 r)
theorem vM {ps:f9} {r:aL} {c:Int} (h:iV ps r=.inl c):c≠0:=by
 unfold iV at h
 split at h
 ·split at h
  ·split at h
   ·injection h with h;subst h;decide
   ·cases h
  ·cases h
 ·rename_i hr
  injection h with h;subst h;exact hr
theorem Aq {q:f9} {r:aL} (hq:gp q) (hr:l5 r=0) (hp:r.2.2.1.toNat < q.length):gp (xn q r):=by
 have hg:=om hr
 refine ⟨by simp[xn];exact hq.1,fun p hm=>?_⟩
 rcases List.mem_or_eq_of_mem_set hm with h | h
 ·exact hq.2 p h
 ·subst h
  have hx:q.getD r.2.2.1.toNat []=q[r.2.2.1.toNat]:=by simp[hp]
  rw[hx]
  exact yV _ _ (hq.2 _ (List.getElem_mem hp)) (fun x hx=>by have:=hg.2.2.2.2.2.2.2 x hx;omega)
theorem ug {ps mj:f9} {r:aL} (hp:gp ps) (h:iV ps r=.inr mj):gp mj:=by
 unfold iV at h
 split at h
 ·rename_i hr
  have hg:=om hr
  split at h
  ·split at h
   ·cases h
   ·rename_i hl
    injection h with h
    subst h
    split
    ·rename_i he
     refine Aq ⟨by simp;omega,fun p hm=>?_⟩ hr (by simp;omega)
     rcases List.mem_append.1 hm with hm | hm
     ·exact hp.2 p hm
     ·simp only[List.mem_singleton] at hm;subst hm;exact xe
    ·rename_i he
     exact Aq hp hr (by omega)
  ·injection h with h;subst h;exact hp
 ·cases h
theorem yW (ps:f9) (r:aL) (hp:gp ps) (hr:l5 r=0):gS.ab (ps,r,())=some (match iV ps r with | .inl c=>(([]:f9),c,()) | .inr mj=>(mj,(0:Int),())):=by
 refine ag (k:=0) fun k _=>(gS.aa k _).trans ?_
 show gS.p _=_
 have hg:=om hr
 unfold gS.p iV
 simp only[C8,hr,if_true,Option.bind_some]
 cases ht:cA r.1 2 4 with
 | false=>rfl
 | true=>
  simp only[Bool.not_true,cond_false,if_true]
  by_cases hl:(ps.length:Int) < r.2.2.1
  ·simp only[hl,decide_true,cond_true,if_true]
  have Bx:¬ r.2.2.1=12:=by omega
  simp only[hl,Bx,decide_false,cond_false,if_false,Ko ps hp.1,Option.bind_some]
  have key:∀ q:f9,gp q->r.2.2.1.toNat < q.length->(if 0<=r.2.2.1/\r.2.2.1 < (q.length:Int) then ((q[r.2.2.1.toNat]?).bind fun NR=>(eF.ab (NR,r.2.2.2.1,())).bind fun Iu=>if 0<=r.2.2.1/\r.2.2.1 < (q.length:Int) then ((q[r.2.2.1.toNat]?).bind fun SP=>some (q.set r.2.2.1.toNat Iu.1,(0:Int),())) else none) else none:Option gS.Out)=some (xn q r,(0:Int),()):=fun q hq aj=>by
   have hc:0<=r.2.2.1/\r.2.2.1 < (q.length:Int):=by omega
   simp only[hc,and_self,if_true,List.getElem?_eq_getElem aj,Option.bind_some]
   rw[zD _ _ (hq.2 _ (List.getElem_mem aj)) hg.2.2.2.2.2.2.1 (fun x hx=>by have:=hg.2.2.2.2.2.2.2 x hx;omega)]
   have hx:q.getD r.2.2.1.toNat []=q[r.2.2.1.toNat]:=by simp[aj]
   unfold xn
   rw[hx]
   rfl
  by_cases he:r.2.2.1=(ps.length:Int)
  ·have yn:ps.length+[tQ].length<=bm:=cD (by have:=hp.1;simp only[List.length_cons,List.length_nil];omega)
   rw[if_pos he]
   simp only[he,decide_true,cond_true,GT,Option.bind_some,yn,if_true]
   rw[<-he]
   refine key _ ⟨by simp;omega,fun p hm=>?_⟩ (by simp;omega)
   rcases List.mem_append.1 hm with hm | hm
   ·exact hp.2 p hm
   ·simp only[List.mem_singleton] at hm;subst hm;exact xe
  ·rw[if_neg he]
   simp only[he,decide_false,cond_false]
   exact key ps hp (by omega)
theorem D_ (c:Int):jl.ab (c,())=some ((c,([]:List cE),([]:List (List UInt8)),()),()):=by
 refine ag (k:=0) fun k _=>(jl.aa k _).trans ?_
 rfl
theorem AM (ps:f9) (r:aL) (hp:gp ps):bN.ab (ps,r,())=some (match iV ps r with | .inl c=>((c,([]:List cE),([]:f9),()),()) | .inr mj=>(((0:Int),([]:List cE),mj,()),())):=by
 refine ag (k:=14) fun k hk=>(bN.aa k _).trans ?_
 unfold bN.p
 have Bx:¬ (12:Int) < (ps.length:Int):=by have:=hp.1;omega
 simp only[Bx,decide_false,cond_false]
 have main:bN.Q0 0 (ps,r,()) ()=some (match iV ps r with | .inl c=>((c,([]:List cE),([]:f9),()),()) | .inr mj=>(((0:Int),([]:List cE),mj,()),())):=by
  show bN.q0 _ _=_
  unfold bN.q0 iV
  simp only[yR,D_,AK ps hp,vI,Option.bind_some]
  by_cases hr:l5 r=0
  rotate_left
  ·simp only[hr,decide_false,Bool.not_false,cond_true,if_false]
  have hg:=om hr
  simp only[hr,decide_true,Bool.not_true,cond_false,if_true]
  cases ht:cA r.1 2 4 with
  | false=>rfl
  | true=>
   simp only[Bool.not_true,cond_false,if_true]
   by_cases hl:(ps.length:Int) < r.2.2.1
   ·simp only[hl,decide_true,cond_true,if_true]
   have Bx:¬ r.2.2.1=12:=by omega
   simp only[hl,Bx,decide_false,cond_false,if_false]
   have key:∀ q:f9,gp q->r.2.2.1.toNat < q.length->(if 0<=r.2.2.1/\r.2.2.1 < (q.length:Int) then ((q[r.2.2.1.toNat]?).bind fun QL=>(q[r.2.2.1.toNat]?).bind fun JZ=>(eB.ab (JZ,r.2.2.2.1,())).bind fun J0=>if 0<=r.2.2.1/\r.2.2.1 < (q.length:Int) then ((q[r.2.2.1.toNat]?).bind fun QM=>some (((0:Int),([]:List cE),q.set r.2.2.1.toNat J0.1,()),())) else none) else none:Option bN.Out)=some (((0:Int),([]:List cE),xn q r,()),()):=fun q hq aj=>by
    have hc:0<=r.2.2.1/\r.2.2.1 < (q.length:Int):=by omega
    simp only[hc,and_self,if_true,List.getElem?_eq_getElem aj,Option.bind_some]
    rw[zE _ _ (hq.2 _ (List.getElem_mem aj)) hg.2.2.2.2.2.2.1 (fun x hx=>by have:=hg.2.2.2.2.2.2.2 x hx;omega)]
    have hx:q.getD r.2.2.1.toNat []=q[r.2.2.1.toNat]:=by simp[aj]
    unfold xn
    rw[hx]
    rfl
   by_cases he:r.2.2.1=(ps.length:Int)
   ·have yn:ps.length+[tQ].length<=bm:=cD (by have:=hp.1;simp only[List.length_cons,List.length_nil];omega)
    rw[if_pos he]
    simp only[he,decide_true,cond_true,GU,Option.bind_some,yn,if_true]
    rw[<-he]
    refine key _ ⟨by simp;omega,fun p hm=>?_⟩ (by simp;omega)
    rcases List.mem_append.1 hm with hm | hm
    ·exact hp.2 p hm
    ·simp only[List.mem_singleton] at hm;subst hm;exact xe
   ·rw[if_neg he]
    simp only[he,decide_false,cond_false]
    exact key ps hp (by omega)
 have:=br (B:=fun self v=>bN.B0 0 self (fun z=>bN.Q0 0 (ps,r,()) z) (ps,r,()) v) ps (fun (s:Unit) (i:Int)=>i) (fun _ s x=>.inr s) (fun s=>(match iV ps r with | .inl c=>((c,([]:List cE),([]:f9),()),()) | .inr mj=>(((0:Int),([]:List cE),mj,()),()))) (fun i s=>True) (by have:=hp.1;rw[ah];omega)
  (fun i hi s self hI=>by
   show bN.b0 _ _ _ _=_
   unfold bN.b0
   have aj:(i:Int) < (ps.length:Int):=by omega
   have hx:((ps[i].length:Nat):Int)=64:=by have:=hp.2 ps[i] (List.getElem_mem hi);omega
   simp only[aj,decide_true,cond_true,Int.natCast_nonneg,if_true,Int.toNat_natCast,List.getElem?_eq_getElem hi,Option.bind_some,hx,Bool.not_true,cond_false])
  (fun _ _ _ _ _ _=>trivial) (fun s self hI=>by
   show bN.b0 _ _ _ _=_
   unfold bN.b0
   simp only[Int.lt_irrefl,decide_false,cond_false]
   exact main) () trivial k (by have:=hp.1;omega)
 rw[ei (g:=fun s _=>s)] at this
 exact this
def nI (xs:List aL):f9×Int×Unit:=aU (fun _ ps r=>match iV ps r with | .inl c=>.inl (([]:f9),c,()) | .inr mj=>.inr mj) (fun ps=>(ps,(0:Int),())) 0 xs []
theorem yX (xs:List aL):(nI xs).2.1=0->gp (nI xs).1:=by
 have main:∀ (xs:List aL) (i:Nat) (ps:f9),gp ps->(aU (fun _ ps r=>match iV ps r with | .inl c=>.inl (([]:f9),c,()) | .inr mj=>.inr mj) (fun ps=>(ps,(0:Int),())) i xs ps).2.1=0->gp (aU (fun _ ps r=>match iV ps r with | .inl c=>.inl (([]:f9),c,()) | .inr mj=>.inr mj) (fun ps=>(ps,(0:Int),())) i xs ps).1:=by
  intro xs
  induction xs with
  | nil=>intro i ps h _;exact h
  | cons x xs ih=>
   intro i ps h
   simp only[aU]
   cases hs:iV ps x with
   | inl c=>intro h0;exact absurd h0 (vM hs)
   | inr mj=>exact ih _ _ (ug h hs)
 exact main xs 0 [] ⟨by simp,fun _ h=>by cases h⟩
theorem Ea (xs:List aL) (hx:xs.length<=maxLen):fL.ab (xs,())=some (nI xs):=by
 refine ag (k:=xs.length+1) fun k hk=>(fL.aa k _).trans ?_
 exact br (B:=fun self v=>fL.B0 0 self (fun z=>fL.Q0 0 (xs,()) z) (xs,()) v) xs (fun (s:f9) (i:Int)=>(s,i)) (fun _ ps r=>match iV ps r with | .inl c=>.inl (([]:f9),c,()) | .inr mj=>.inr mj) (fun ps=>(ps,(0:Int),())) (fun _ s=>gp s) hx
  (fun i hi s self hI=>by
   show fL.b0 _ _ _ _=_
   unfold fL.b0
   have aj:(i:Int) < (xs.length:Int):=by omega
   simp only[aj,decide_true,cond_true,Int.natCast_nonneg,if_true,Int.toNat_natCast,List.getElem?_eq_getElem hi,Option.bind_some,AM s _ hI]
   cases hs:iV s xs[i] with
   | inl c=>
    have:=vM hs
    simp only[this,decide_false,Bool.not_false,cond_true]
   | inr mj=>simp only[decide_true,Bool.not_true,cond_false])
  (fun i hi s s' hI hs=>by
   cases h:iV s xs[i] with
   | inl c=>rw[h] at hs;cases hs
   | inr mj=>rw[h] at hs;injection hs with hs;subst hs;exact ug hI h) (fun s self hI=>by
   show fL.b0 _ _ _ _=_
   unfold fL.b0
   simp only[Int.lt_irrefl,decide_false,cond_false]
   rfl) [] ⟨by simp,fun _ h=>by cases h⟩ k (by omega)
theorem Eb (xs:List aL) (hx:xs.length<=maxLen):iN.ab (xs,())=some (nI xs):=by
 refine ag (k:=xs.length+1) fun k hk=>(iN.aa k _).trans ?_
 exact br (B:=fun self v=>iN.B0 0 self (fun z=>iN.Q0 0 (xs,()) z) (xs,()) v) xs (fun (s:f9) (i:Int)=>(s,i)) (fun _ ps r=>match iV ps r with | .inl c=>.inl (([]:f9),c,()) | .inr mj=>.inr mj) (fun ps=>(ps,(0:Int),())) (fun _ s=>gp s) hx
  (fun i hi s self hI=>by
   show iN.b0 _ _ _ _=_
   unfold iN.b0
   have aj:(i:Int) < (xs.length:Int):=by omega
   simp only[aj,decide_true,cond_true,Int.natCast_nonneg,if_true,Int.toNat_natCast,List.getElem?_eq_getElem hi,Option.bind_some,yS]
   by_cases hr:l5 xs[i]=0
   ·simp only[hr,decide_true,Bool.not_true,cond_false,yW s _ hI hr,Option.bind_some]
    cases hs:iV s xs[i] with
    | inl c=>
     have:=vM hs
     simp only[this,decide_false,Bool.not_false,cond_true]
    | inr mj=>simp only[decide_true,Bool.not_true,cond_false]
   ·have hs:iV s xs[i]=.inl (l5 xs[i]):=by unfold iV;rw[if_neg hr]
    simp only[hr,decide_false,Bool.not_false,cond_true,hs])
  (fun i hi s s' hI hs=>by
   cases h:iV s xs[i] with
   | inl c=>rw[h] at hs;cases hs
   | inr mj=>rw[h] at hs;injection hs with hs;subst hs;exact ug hI h) (fun s self hI=>by
   show iN.b0 _ _ _ _=_
   unfold iN.b0
   simp only[Int.lt_irrefl,decide_false,cond_false]
   rfl) [] ⟨by simp,fun _ h=>by cases h⟩ k (by omega)
end OT
set_option linter.unusedVariables false
set_option linter.unusedSimpArgs false
namespace OT
open Go
def o5 (x:Tx):Int:=if rT x=0 then mh x else rT x
theorem Ar {α:Type} (c:Nat->α->Int):∀ (xs:List α) (i:Nat),aU (fun i (_:Unit) y=>if c i y=0 then .inr () else .inl (c i y,())) (fun _=>((0:Int),())) i xs ()=(aU (fun i (_:Unit) y=>if c i y=0 then .inr () else .inl (c i y)) (fun _=>(0:Int)) i xs (),())
 | [],_=>rfl
 | y::ys,i=>by simp only[aU];by_cases h0:c i y=0 <;> simp[h0,Ar c ys (i+1)]
theorem qw {α:Type} (c:Nat->α->Int) (E:Option (Int×Unit)):∀ (xs:List α) (i:Nat),aU (fun i (_:Unit) y=>if c i y=0 then .inr () else .inl (some (c i y,()))) (fun _=>E) i xs () =
  if aU (fun i (_:Unit) y=>if c i y=0 then .inr () else .inl (c i y)) (fun _=>(0:Int)) i xs ()=0 then E else some (aU (fun i (_:Unit) y=>if c i y=0 then .inr () else .inl (c i y)) (fun _=>(0:Int)) i xs (),())
 | [],_=>rfl
 | y::ys,i=>by simp only[aU];by_cases h0:c i y=0 <;> simp[h0,qw c E ys (i+1)]
theorem wE {α:Type} (c:α->Int):∀ (xs:List α) (i:Nat),aU (fun _ (_:Unit) y=>if c y=0 then .inr () else .inl (c y)) (fun _=>(0:Int)) i xs ()=ig c xs
 | [],_=>rfl
 | y::ys,i=>by simp only[aU,ig];by_cases h0:c y=0 <;> simp[h0,wE c ys (i+1)]
theorem GW (x:Tx) (h:tl x):bd.ab (x,())=some (o5 x,()):=by
 obtain ⟨h1,Y,h3,h4⟩:=h
 refine ag (k:=1048577) fun k hk=>(bd.aa k _).trans ?_
 have GX:List.length x.2.2.2.1<=12->bd.r2 k (x,()) (0:Int)=some (oO x.2.2.2.1,()):=fun hl=>by
  have:=br (B:=fun self v=>bd.B2 k self (fun z=>bd.Q2 k (x,()) z) (x,()) v) x.2.2.2.1 (fun (_:Unit) (i:Int)=>i) (fun i _ y=>if jT x.2.2.2.1 i y=0 then .inr () else .inl (jT x.2.2.2.1 i y,())) (fun _=>(0,())) (fun _ _=>True) (by rw[ah];omega)
   (fun i hi s self _=>by
    show bd.b2 _ _ _ _=_
    unfold bd.b2 jT
    have aj:(i:Int) < (List.length x.2.2.2.1:Int):=by omega
    have en:(0:Int)<=(i:Int)/\(i:Int)<=(List.length x.2.2.2.1:Int):=by omega
    simp only[aj,en,and_self,decide_true,cond_true,Int.natCast_nonneg,if_true,Int.toNat_natCast,List.getElem?_eq_getElem hi,Option.bind_some,J4,List.drop_zero]
    rw[contains_eq _ _ (by rw[ah];simp;omega)]
    cases pw (x.2.2.2.1)[i] <;> cases dc (x.2.2.2.1.take i) (x.2.2.2.1)[i] <;> rfl)
   (fun _ _ _ _ _ _=>trivial) (fun s self _=>by
    show bd.b2 _ _ _ _=_
    unfold bd.b2
    simp only[Int.lt_irrefl,decide_false,cond_false]
    rfl) () trivial k (by omega)
  rw[Ar (jT x.2.2.2.1)] at this
  exact this
 have second:List.length x.2.2.1<=8->List.length x.2.2.2.1<=12->bd.r1 k (x,()) ((0:Int),(0:Int))=some (if yD (List.length x.2.1:Int) 0 x.2.2.1 then oO x.2.2.2.1 else 3,()):=fun hm hl=>by
  have:=bE (B:=fun self v=>bd.B1 k self (fun z=>bd.Q1 k (x,()) z) (x,()) v) x.2.2.1 (fun (last:Int) (i:Int)=>(last,i)) (fun _ last m=>if cA m last (List.length x.2.1:Int) then .inr m else .inl (some ((3:Int),()))) (fun _=>some (oO x.2.2.2.1,())) (fun _ _=>True) (by rw[ah];omega)
   (fun i hi last self _=>by
    show bd.b1 _ _ _ _=_
    unfold bd.b1
    have aj:(i:Int) < (List.length x.2.2.1:Int):=by omega
    simp only[aj,decide_true,cond_true,Int.natCast_nonneg,if_true,Int.toNat_natCast,List.getElem?_eq_getElem hi,Option.bind_some,lL]
    show (bif !cA (x.2.2.1)[i] last (List.length x.2.1:Int) then _ else _)=_
    cases cA (x.2.2.1)[i] last (List.length x.2.1:Int) <;> rfl)
   (fun _ _ _ _ _ _=>trivial) (fun last self _=>by
    show bd.b1 _ _ _ _=_
    unfold bd.b1
    simp only[Int.lt_irrefl,decide_false,cond_false]
    exact GX hl) 0 trivial k (by omega)
  rw[CO] at this
  refine Eq.trans this ?_
  unfold yD
  cases aU (fun _ last m=>if cA m last (List.length x.2.1:Int) then .inr m else .inl false) (fun _=>true) 0 x.2.2.1 0 <;> rfl
 have after:bd.Q0 k (x,()) ()=some (mh x,()):=by
  show bd.q0 _ _ _=_
  unfold bd.q0 mh
  by_cases hm:8 < List.length x.2.2.1
  ·have:(8:Int) < (List.length x.2.2.1:Int):=by omega
   simp only[this,hm,decide_true,cond_true,Bool.true_or,if_true]
   try rfl
  have wx:¬ (8:Int) < (List.length x.2.2.1:Int):=by omega
  by_cases gr:12 < List.length x.2.2.2.1
  ·have:(12:Int) < (List.length x.2.2.2.1:Int):=by omega
   simp only[this,hm,wx,gr,decide_true,decide_false,cond_true,cond_false,Bool.false_or,if_true]
   try rfl
  have sC:¬ (12:Int) < (List.length x.2.2.2.1:Int):=by omega
  simp only[hm,wx,sC,gr,decide_false,cond_false,Bool.or_self,Bool.false_eq_true,if_false]
  exact second (by omega) (by omega)
 have:=bE (B:=fun self v=>bd.B0 k self (fun z=>bd.Q0 k (x,()) z) (x,()) v) x.2.1 (fun (_:Unit) (i:Int)=>i) (fun _ _ c=>if px x.2.2.2.1 c=0 then .inr () else .inl (some (px x.2.2.2.1 c,()))) (fun _=>some (mh x,())) (fun _ _=>True) (by rw[ah];omega)
  (fun i hi s self _=>by
   show bd.b0 _ _ _ _=_
   unfold bd.b0
   have aj:(i:Int) < (List.length x.2.1:Int):=by omega
   simp only[aj,decide_true,cond_true,Int.natCast_nonneg,if_true,Int.toNat_natCast,List.getElem?_eq_getElem hi,Option.bind_some,IA _ (h4 _ (List.getElem_mem hi)),Mg]
   rw[contains_eq _ _ (by rw[ah];omega)]
   unfold px
   by_cases hc:yy (x.2.1)[i]=0
   ·simp only[hc,decide_true,Bool.not_true,cond_false,if_true,Option.bind_some]
    cases dc x.2.2.2.1 (sH (x.2.1)[i]) <;> rfl
   ·simp only[hc,decide_false,Bool.not_false,cond_true,if_false])
  (fun _ _ _ _ _ _=>trivial) (fun s self _=>by
   show bd.b0 _ _ _ _=_
   unfold bd.b0
   simp only[Int.lt_irrefl,decide_false,cond_false]
   exact after) () trivial k (by omega)
 rw[qw (fun _=>px x.2.2.2.1),wE] at this
 refine Eq.trans this ?_
 unfold o5 rT
 split <;> rfl
def jV (xs:List Tx) (k:Key):Int:=match xs with
 | []=>0
 | x::xs=>if dc x.2.2.2.1 k then x.1 else jV xs k
def wF (xs:List Tx):Prop:=xs.length<=1048576/\∀ x ∈ xs,tl x
theorem As (k:Key):∀ (xs:List Tx) (i:Nat),aU (fun _ (_:Unit) x=>if dc x.2.2.2.1 k then .inl (x.1,()) else .inr ()) (fun _=>((0:Int),())) i xs ()=(jV xs k,())
 | [],_=>rfl
 | x::xs,i=>by simp only[aU,jV];cases dc x.2.2.2.1 k <;> simp[As k xs (i+1)]
theorem Kp {x:Tx} (h:tl x):List.length x.2.2.2.1<=maxLen:=by rw[ah];have:=h.2.2.1;omega
theorem Ec (xs:List Tx) (k0:Key) (h:wF xs):fJ.ab (xs,k0,())=some (jV xs k0,()):=by
 obtain ⟨h1,Y⟩:=h
 refine ag (k:=xs.length+1) fun k hk=>(fJ.aa k _).trans ?_
 have:=br (B:=fun self v=>fJ.B0 0 self (fun z=>fJ.Q0 0 (xs,k0,()) z) (xs,k0,()) v) xs (fun (_:Unit) (i:Int)=>i) (fun _ _ x=>if dc x.2.2.2.1 k0 then .inl (x.1,()) else .inr ()) (fun _=>(0,())) (fun _ _=>True) (by rw[ah];omega)
  (fun i hi s self _=>by
   show fJ.b0 _ _ _ _=_
   unfold fJ.b0
   have aj:(i:Int) < (xs.length:Int):=by omega
   simp only[aj,decide_true,cond_true,Int.natCast_nonneg,if_true,Int.toNat_natCast,List.getElem?_eq_getElem hi,Option.bind_some,CN _ _ (Kp (Y _ (List.getElem_mem hi)))]
   cases dc (xs[i]).2.2.2.1 k0 <;> rfl)
  (fun _ _ _ _ _ _=>trivial) (fun s self _=>by
   show fJ.b0 _ _ _ _=_
   unfold fJ.b0
   simp only[Int.lt_irrefl,decide_false,cond_false]
   rfl) () trivial k (by omega)
 rw[As] at this
 exact this
def pW (xs:List Tx):Int:=xs.foldl (fun n x=>n+(List.length x.2.1:Int)) 0
theorem Dd (xs:List Tx) (h:wF xs):eX.ab (xs,())=some (pW xs,()):=by
 obtain ⟨h1,Y⟩:=h
 refine ag (k:=xs.length+1) fun k hk=>(eX.aa k _).trans ?_
 have:=br (B:=fun self v=>eX.B0 0 self (fun z=>eX.Q0 0 (xs,()) z) (xs,()) v) xs (fun (n:Int) (i:Int)=>(n,i)) (fun _ n x=>.inr (n+(List.length x.2.1:Int))) (fun n=>(n,())) (fun i n=>0<=n/\n<=1048576*(i:Int)) (by rw[ah];omega)
  (fun i hi n self hI=>by
   show eX.b0 _ _ _ _=_
   unfold eX.b0
   have aj:(i:Int) < (xs.length:Int):=by omega
   have hx:=(Y _ (List.getElem_mem hi)).1
   simp only[aj,decide_true,cond_true,Int.natCast_nonneg,if_true,Int.toNat_natCast,List.getElem?_eq_getElem hi,Option.bind_some]
   rw[aP (n:=n+_) (by omega)])
  (fun i hi n n' hI hs=>by
   injection hs with hs
   have hx:=(Y _ (List.getElem_mem hi)).1
   omega) (fun s self _=>by
   show eX.b0 _ _ _ _=_
   unfold eX.b0
   simp only[Int.lt_irrefl,decide_false,cond_false]
   rfl) 0 (by omega) k (by omega)
 rw[ei] at this
 exact this
theorem De (xs:List Tx) (h:wF xs):gq.ab (xs,())=some (pW xs,()):=by
 obtain ⟨h1,Y⟩:=h
 refine ag (k:=xs.length+1) fun k hk=>(gq.aa k _).trans ?_
 have:=br (B:=fun self v=>gq.B0 0 self (fun z=>gq.Q0 0 (xs,()) z) (xs,()) v) xs (fun (n:Int) (i:Int)=>(n,i)) (fun _ n x=>.inr (n+(List.length x.2.1:Int))) (fun n=>(n,())) (fun i n=>0<=n/\n<=1048576*(i:Int)) (by rw[ah];omega)
  (fun i hi n self hI=>by
   show gq.b0 _ _ _ _=_
   unfold gq.b0
   have aj:(i:Int) < (xs.length:Int):=by omega
   have hx:=(Y _ (List.getElem_mem hi)).1
   simp only[aj,decide_true,cond_true,Int.natCast_nonneg,if_true,Int.toNat_natCast,List.getElem?_eq_getElem hi,Option.bind_some]
   rw[aP (n:=n+_) (by omega)])
  (fun i hi n n' hI hs=>by
   injection hs with hs
   have hx:=(Y _ (List.getElem_mem hi)).1
   omega) (fun s self _=>by
   show gq.b0 _ _ _ _=_
   unfold gq.b0
   simp only[Int.lt_irrefl,decide_false,cond_false]
   rfl) 0 (by omega) k (by omega)
 rw[ei] at this
 exact this
def mX (xs:List Tx) (i:Nat) (x:Tx):Int:=if cA x.1 1 99 then (if 0 < i then (match xs[i - 1]? with
    | some y=>if x.1<=y.1 then 1 else o5 x
    | none=>1) else o5 x) else 3
def sb (xs:List Tx):Int:=aU (fun i (_:Unit) x=>if mX xs i x=0 then .inr () else .inl (mX xs i x)) (fun _=>(0:Int)) 0 xs ()
def flatK (xs:List Tx):List Key:=xs.flatMap fun x=>x.2.2.2.1
def sP (xs:List Tx):Bool:=decide (flatK xs).Nodup
def sr (xs:List Tx):Int:=if 4 < xs.length then 2 else if sb xs=0 then (if sP xs then (if 12 < pW xs then 2 else 0) else 7) else sb xs
theorem sc (xs:List Tx) (h:sb xs=0):∀ i (hi:i < xs.length),mX xs i xs[i]=0:=by
 have main:∀ (ys:List Tx) (j:Nat),(aU (fun i (_:Unit) x=>if mX xs i x=0 then .inr () else .inl (mX xs i x)) (fun _=>(0:Int)) j ys ())=0->∀ i (hi:i < ys.length),mX xs (j+i) ys[i]=0:=by
  intro ys
  induction ys with
  | nil=>intro j _ i hi;simp at hi
  | cons y ys ih=>
   intro j hf i hi
   simp only[aU] at hf
   by_cases h0:mX xs j y=0
   ·rw[if_pos h0] at hf
    cases i with
    | zero=>simpa using h0
    | succ i=>
     have:=ih (j+1) hf i (by simpa using hi)
     rw[show j+(i+1)=j+1+i by omega]
     simpa using this
   ·rw[if_neg h0] at hf
    exact absurd hf h0
 intro i hi
 have:=main xs 0 h i hi
 rwa [Nat.zero_add] at this
theorem uh {xs:List Tx} {i:Nat} {x:Tx} (h:mX xs i x=0):1<=x.1/\o5 x=0/\∀ y,0 < i->xs[i - 1]?=some y->y.1 < x.1:=by
 unfold mX at h
 split at h
 ·rename_i hb
  simp only[cA,Bool.and_eq_true,decide_eq_true_eq] at hb
  split at h
  ·rename_i h0
   split at h
   ·rename_i y hy
    split at h
    ·cases h
    ·exact ⟨hb.1,h,fun z _ hz=>by rw[hy] at hz;injection hz with hz;subst hz;omega⟩
   ·cases h
  ·exact ⟨hb.1,h,fun y h0=>by omega⟩
 ·cases h
theorem I8 {xs:List Tx} (h:sb xs=0):xs.Pairwise fun x y=>x.1 < y.1:=by
 rw[List.pairwise_iff_getElem]
 intro i j hi hj iX
 have key:∀ d (hd:i+d+1 < xs.length),(xs[i]).1 < (xs[i+d+1]).1:=by
  intro d
  induction d with
  | zero=>
   intro hd
   exact (uh (sc xs h (i+1) hd)).2.2 xs[i] (by omega) (by simp[hi])
  | succ d ih=>
   intro hd
   have h1:=ih (by omega)
   have Y:=(uh (sc xs h (i+d+1+1) hd)).2.2 xs[i+d+1] (by omega) (by rw[Nat.add_sub_cancel];exact List.getElem?_eq_getElem (by omega))
   exact Int.lt_trans h1 Y
 have:=key (j - i - 1) (by omega)
 have e:i+(j - i - 1)+1=j:=by omega
 simpa only [e] using this
theorem Ed {ks:List Key} (h:oO ks=0):ks.Nodup:=by
 have main:∀ (ys:List Key) (j:Nat),(aU (fun i (_:Unit) k=>if jT ks i k=0 then .inr () else .inl (jT ks i k)) (fun _=>(0:Int)) j ys ())=0->∀ i (hi:i < ys.length),jT ks (j+i) ys[i]=0:=by
  intro ys
  induction ys with
  | nil=>intro j _ i hi;simp at hi
  | cons y ys ih=>
   intro j hf i hi
   simp only[aU] at hf
   by_cases h0:jT ks j y=0
   ·rw[if_pos h0] at hf
    cases i with
    | zero=>simpa using h0
    | succ i=>
     have:=ih (j+1) hf i (by simpa using hi)
     rw[show j+(i+1)=j+1+i by omega]
     simpa using this
   ·rw[if_neg h0] at hf
    exact absurd hf h0
 rw[List.nodup_iff_pairwise_ne,List.pairwise_iff_getElem]
 intro i j hi hj iX e
 have h1:=main ks 0 h j hj
 rw[Nat.zero_add] at h1
 unfold jT at h1
 split at h1
 ·split at h1
  ·cases h1
  ·rename_i hn
   refine hn (kt.2 ?_)
   rw[<-e]
   exact List.mem_take_iff_getElem.2 ⟨i,by omega,rfl⟩
 ·cases h1
theorem Kq {x:Tx} (h:o5 x=0):(x.2.2.2.1:List Key).Nodup:=by
 unfold o5 at h
 split at h
 ·unfold mh at h
  split at h
  ·cases h
  ·split at h
   ·exact Ed h
   ·cases h
 ·rename_i hn;exact absurd h hn
end OT
set_option linter.unusedVariables false
set_option linter.unusedSimpArgs false
namespace OT
open Go
def rA (xs:List Tx):Bool:=xs.all fun x=>x.2.2.2.1.all fun k=>decide (jV xs k=x.1)
theorem Kr {xs:List Tx} (hr:xs.Pairwise fun x y=>x.1 < y.1) (hn:∀ x ∈ xs,(x.2.2.2.1:List Key).Nodup):rA xs=sP xs:=by
 have main:∀ (xs:List Tx),(xs.Pairwise fun x y=>x.1 < y.1)->(∀ x ∈ xs,(x.2.2.2.1:List Key).Nodup)->((∀ x ∈ xs,∀ k ∈ (x.2.2.2.1:List Key),jV xs k=x.1)↔(flatK xs).Nodup):=by
  intro xs
  induction xs with
  | nil=>intro _ _;simp[flatK]
  | cons x xs ih=>
   intro hr hn
   obtain ⟨h1,Y⟩:=List.pairwise_cons.1 hr
   have ih:=ih Y (fun y hy=>hn y (by simp[hy]))
   have Ai:flatK (x::xs)=x.2.2.2.1++flatK xs:=by simp[flatK]
   rw[Ai,List.nodup_append]
   constructor
   ·intro i_
    have hd:∀ y ∈ xs,∀ k ∈ (y.2.2.2.1:List Key),k ∉ (x.2.2.2.1:List Key):=fun y hy k hk hx=>by
     have e1:=i_ y (by simp[hy]) k hk
     simp only[jV,kt.2 hx,if_true] at e1
     have:=h1 y hy
     omega
    refine ⟨hn x (by simp),ih.1 fun y hy k hk=>?_,fun a ha b hb e=>?_⟩
    ·have e1:=i_ y (by simp[hy]) k hk
     have:dc x.2.2.2.1 k=false:=by
      cases hh:dc x.2.2.2.1 k with
      | false=>rfl
      | true=>exact absurd (kt.1 hh) (hd y hy k hk)
     simp only[jV,this,Bool.false_eq_true,if_false] at e1
     exact e1
    ·subst e
     obtain ⟨y,hy,hk⟩:=List.mem_flatMap.1 hb
     exact hd y hy a hk ha
   ·rintro ⟨g1,g2,g3⟩ y hy k hk
    rcases List.mem_cons.1 hy with e | e
    ·subst e
     simp only[jV,kt.2 hk,if_true]
    ·have S_:k ∈ flatK xs:=List.mem_flatMap.2 ⟨y,e,hk⟩
     have:dc x.2.2.2.1 k=false:=by
      cases hh:dc x.2.2.2.1 k with
      | false=>rfl
      | true=>exact absurd rfl (g3 k (kt.1 hh) k S_)
     simp only[jV,this,Bool.false_eq_true,if_false]
     exact ih.2 g2 y e k hk
 have hm:=main xs hr hn
 unfold rA sP
 rw[Bool.eq_iff_iff]
 simp only[List.all_eq_true,decide_eq_true_eq]
 exact hm
theorem Df (xs:List Tx) (h:wF xs):bR.ab (xs,())=some (rA xs,()):=by
 have ht:=h
 obtain ⟨h1,Y⟩:=h
 refine ag (k:=1048577) fun k hk=>(bR.aa k _).trans ?_
 have inner:∀ (self:((List Tx)×Int)->Option bR.Out) (e0:Unit->Option bR.Out) (i:Nat) (hi:i < xs.length),bR.r1 k self e0 (xs,()) xs (i:Int) (0:Int)=if (xs[i]).2.2.2.1.any (fun y=>!decide (jV xs y=(xs[i]).1)) then some (false,()) else self (xs,ae ((i:Int)+1)):=fun self e0 i hi=>by
  have Ta:=Y _ (List.getElem_mem hi)
  have LE:=Ta.2.2.1
  have:=bE (B:=fun cg v=>bR.B1 k cg (fun z=>bR.Q0 k self e0 (xs,()) xs (i:Int) z) (xs,()) xs (i:Int) v) (xs[i]).2.2.2.1 (fun (_:Unit) (j:Int)=>j) (fun _ _ y=>if !decide (jV xs y=(xs[i]).1) then .inl (some (false,())) else .inr ()) (fun _=>self (xs,ae ((i:Int)+1))) (fun _ _=>True) (by rw[ah];omega)
   (fun j hj s cg _=>by
    show bR.b1 _ _ _ _ _ _=_
    unfold bR.b1
    have aj:(j:Int) < (List.length (xs[i]).2.2.2.1:Int):=by omega
    simp only[Int.natCast_nonneg,if_true,Int.toNat_natCast,List.getElem?_eq_getElem hi,Option.bind_some,aj,decide_true,cond_true,List.getElem?_eq_getElem hj,Ec xs _ ht]
    cases decide (jV xs ((xs[i]).2.2.2.1)[j]=(xs[i]).1) <;> rfl)
   (fun _ _ _ _ _ _=>trivial) (fun s cg _=>by
    show bR.b1 _ _ _ _ _ _=_
    unfold bR.b1
    simp only[Int.natCast_nonneg,if_true,Int.toNat_natCast,List.getElem?_eq_getElem hi,Option.bind_some,Int.lt_irrefl,decide_false,cond_false]
    rfl) () trivial k (by omega)
  rw[ph] at this
  exact this
 have:=br (B:=fun self v=>bR.B0 k self (fun z=>bR.Q1 k (xs,()) z) (xs,()) v) xs (fun (_:Unit) (i:Int)=>(xs,i)) (fun _ _ x=>if x.2.2.2.1.all (fun y=>decide (jV xs y=x.1)) then .inr () else .inl (false,())) (fun _=>(true,())) (fun _ _=>True) (by rw[ah];omega)
  (fun i hi s self _=>by
   show bR.b0 _ _ _ _ _=_
   unfold bR.b0
   have aj:(i:Int) < (xs.length:Int):=by omega
   simp only[aj,decide_true,cond_true]
   rw[inner self _ i hi]
   have:(xs[i]).2.2.2.1.any (fun y=>!decide (jV xs y=(xs[i]).1))=!(xs[i]).2.2.2.1.all (fun y=>decide (jV xs y=(xs[i]).1)):=by rw[List.not_all_eq_any_not]
   rw[this]
   cases (xs[i]).2.2.2.1.all (fun y=>decide (jV xs y=(xs[i]).1)) <;> rfl)
  (fun _ _ _ _ _ _=>trivial) (fun s self _=>by
   show bR.b0 _ _ _ _ _=_
   unfold bR.b0
   simp only[Int.lt_irrefl,decide_false,cond_false]
   rfl) () trivial k (by omega)
 rw[kL (fun (x:Tx)=>x.2.2.2.1.all (fun y=>decide (jV xs y=x.1))) (false,()) (fun _=>(true,()))] at this
 refine Eq.trans this ?_
 unfold rA
 cases xs.all fun x=>x.2.2.2.1.all (fun y=>decide (jV xs y=x.1)) <;> rfl
def cw (S:List Key):List (Key×Bool):=S.map fun k=>(k,true)
theorem Ee {α:Type} (k:Ty) (e:k.den×α) (m:List (k.den×α)) (x:k.den):dq k (e::m) x=if k.eq x e.1 then some e.2 else dq k m x:=by
 unfold dq
 rw[List.find?_cons]
 cases k.eq x e.1 <;> rfl
theorem GY {α:Type} (k:Ty) (m:List (k.den×α)) (x:k.den) (y:α) (h:∀ e ∈ m,k.eq x e.1=false):gH k m x y=m++[(x,y)]:=by
 have:m.findIdx? (fun e=>k.eq x e.1)=none:=by
  rw[List.findIdx?_eq_none_iff]
  intro e he
  exact h e he
 unfold gH
 rw[this]
theorem wG (S:List Key) (k:Key):dq aF (cw S) k=if dc S k then some true else none:=by
 induction S with
 | nil=>rfl
 | cons s S ih=>
  refine (Ee aF (s,true) (cw S) k).trans ?_
  have hk:aF.eq k (s,true).1=decide (k=s):=tT k s
  rw[hk]
  have hc:dc (s::S) k=(decide (s=k)||dc S k):=rfl
  rw[hc]
  by_cases h:k=s
  ·have Y:s=k:=h.symm
   simp[Y]
  ·have Y:¬ s=k:=fun e=>h e.symm
   simp only[h,Y,decide_false,Bool.false_or,Bool.false_eq_true,if_false]
   exact ih
theorem Ks (S:List Key) (k:Key):qH (dq aF (cw S) k) false=dc S k:=by
 refine Eq.trans (congrArg (fun o=>qH o false) (wG S k)) ?_
 cases dc S k <;> rfl
theorem Dg {S:List Key} {k:Key} (h:dc S k=false):gH aF (cw S) k true=cw (S++[k]):=by
 refine (GY aF (cw S) k true fun e he=>?_).trans ?_
 ·obtain ⟨s,hs,rfl⟩:=List.mem_map.1 he
  have hk:aF.eq k (s,true).1=decide (k=s):=tT k s
  rw[hk]
  simp only[dc,List.any_eq_false,decide_eq_true_eq] at h
  have:=h s hs
  simp only[decide_eq_false_iff_not]
  exact fun e=>this e.symm
 ·simp only[cw,List.map_append,List.map_cons,List.map_nil]
  rfl
def getM (m:List (Key×Bool)) (k:Key):Bool:=qH (dq aF m k) false
def li (m:List (Key×Bool)) (k:Key):List (Key×Bool):=gH aF m k true
def lq:List (Key×Bool)->List Key->Option (List (Key×Bool))
 | m,[]=>some m
 | m,k::ks=>if getM m k then none else lq (li m k) ks
theorem wH:∀ (m:List (Key×Bool)) (a b:List Key),lq m (a++b)=(lq m a).bind fun m'=>lq m' b
 | m,[],b=>rfl
 | m,k::a,b=>by
  simp only[List.cons_append,lq]
  split
  ·rfl
  ·exact wH _ a b
theorem Au:∀ (ks S:List Key),S.Nodup->lq (cw S) ks=if (S++ks).Nodup then some (cw (S++ks)) else none
 | [],S,h=>by simp[lq,h]
 | k::ks,S,h=>by
  have hg:getM (cw S) k=dc S k:=Ks S k
  simp only[lq,hg]
  cases hh:dc S k with
  | true=>
   have:¬ (S++k::ks).Nodup:=fun hn=>by
    rw[List.nodup_append] at hn
    exact hn.2.2 k (kt.1 hh) k (by simp) rfl
   simp[this]
  | false=>
   have hk:k ∉ S:=fun hm=>by rw[kt.2 hm] at hh;cases hh
   simp only[Bool.false_eq_true,if_false]
   have hp:li (cw S) k=cw (S++[k]):=Dg hh
   rw[hp,Au ks (S++[k]) (by rw[List.nodup_append];exact ⟨h,by simp,fun a ha b hb e=>by simp at hb;subst hb;subst e;exact hk ha⟩)]
   simp only[List.append_assoc,List.cons_append,List.nil_append]
theorem Av {O:Type} (bad:Option O) (E:List (Key×Bool)->Option O):∀ (ks:List Key) (i:Nat) (m:List (Key×Bool)),aU (fun _ m k=>if getM m k then .inl bad else .inr (li m k)) E i ks m=match lq m ks with | none=>bad | some m'=>E m'
 | [],_,_=>rfl
 | k::ks,i,m=>by
  simp only[aU,lq]
  by_cases h:getM m k=true
  ·simp[h]
  ·simp only[h,if_false]
   exact Av bad E ks _ _
theorem yY {O:Type} (bad:Option O) (E:Option O):∀ (xs:List Tx) (i:Nat) (m:List (Key×Bool)),aU (fun _ m x=>match lq m x.2.2.2.1 with | none=>.inl bad | some m'=>.inr m') (fun _=>E) i xs m=match lq m (flatK xs) with | none=>bad | some _=>E
 | [],_,_=>rfl
 | x::xs,i,m=>by
  have Ai:flatK (x::xs)=x.2.2.2.1++flatK xs:=by simp[flatK]
  rw[Ai,wH]
  simp only[aU]
  cases h:lq m x.2.2.2.1 with
  | none=>rfl
  | some m'=>
   simp only[Option.bind_some]
   exact yY bad E xs _ _
theorem GZ (xs:List Tx) (h:wF xs):aY.ab (xs,())=some (sr xs,()):=by
 have ht:=h
 obtain ⟨h1,Y⟩:=h
 refine ag (k:=1048577) fun k hk=>(aY.aa k _).trans ?_
 unfold aY.p sr
 by_cases h4:4 < xs.length
 ·have:(4:Int) < (xs.length:Int):=by omega
  simp only[this,h4,decide_true,cond_true,if_true]
  (try rfl)
 have N7:¬ (4:Int) < (xs.length:Int):=by omega
 simp only[h4,N7,decide_false,cond_false,if_false]
 have last:aY.Q2 k (xs,()) xs=some (if 12 < pW xs then 2 else 0,()):=by
  show aY.q2 _ _=_
  unfold aY.q2
  simp only[De xs ht,Option.bind_some]
  by_cases hc:12 < pW xs <;> simp[hc]
 have inner:∀ (self:((List Tx)×(List (Key×Bool))×(List Tx)×Int×Int)->Option aY.Out) (e2:List Tx->Option aY.Out) (i:Nat) (hi:i < xs.length) (m:List (Key×Bool)),aY.r2 k self e2 (xs,()) xs xs (xs.length:Int) (i:Int) (xs[i]).2.2.2.1 (List.length (xs[i]).2.2.2.1:Int) (m,(0:Int))=match lq m (xs[i]).2.2.2.1 with | none=>some ((7:Int),()) | some m'=>self (xs,m',xs,(xs.length:Int),ae ((i:Int)+1)):=fun self e2 i hi m=>by
  have LE:=(Y _ (List.getElem_mem hi)).2.2.1
  have:=bE (B:=fun cg v=>aY.B2 k cg (fun z=>aY.Q1 k self e2 (xs,()) xs xs (xs.length:Int) (i:Int) (xs[i]).2.2.2.1 (List.length (xs[i]).2.2.2.1:Int) z) (xs,()) xs xs (xs.length:Int) (i:Int) (xs[i]).2.2.2.1 (List.length (xs[i]).2.2.2.1:Int) v) (xs[i]).2.2.2.1 (fun (m:List (Key×Bool)) (j:Int)=>(m,j)) (fun _ m y=>if getM m y then .inl (some ((7:Int),())) else .inr (li m y)) (fun m=>self (xs,m,xs,(xs.length:Int),ae ((i:Int)+1))) (fun _ _=>True) (by rw[ah];omega)
   (fun j hj s cg _=>by
    show aY.b2 _ _ _ _ _ _ _ _ _ _=_
    unfold aY.b2
    have aj:(j:Int) < (List.length (xs[i]).2.2.2.1:Int):=by omega
    simp only[aj,decide_true,cond_true,Int.natCast_nonneg,if_true,Int.toNat_natCast,List.getElem?_eq_getElem hj,Option.bind_some]
    show (bif getM s ((xs[i]).2.2.2.1)[j] then some ((7:Int),()) else cg (li s ((xs[i]).2.2.2.1)[j],ae ((j:Int)+1)))=_
    cases getM s ((xs[i]).2.2.2.1)[j] <;> rfl)
   (fun _ _ _ _ _ _=>trivial) (fun s cg _=>by
    show aY.b2 _ _ _ _ _ _ _ _ _ _=_
    unfold aY.b2
    simp only[Int.lt_irrefl,decide_false,cond_false]
    rfl) m trivial k (by omega)
  rw[Av] at this
  exact this
 have apart:aY.Q0 k (xs,()) ()=some (if sP xs then (if 12 < pW xs then 2 else 0) else 7,()):=by
  have:=bE (B:=fun self v=>aY.B1 k self (fun z=>aY.Q2 k (xs,()) z) (xs,()) v) xs (fun (m:List (Key×Bool)) (i:Int)=>(xs,m,xs,(xs.length:Int),i)) (fun _ m x=>match lq m x.2.2.2.1 with | none=>.inl (some ((7:Int),())) | some m'=>.inr m') (fun _=>some (if 12 < pW xs then 2 else 0,())) (fun _ _=>True) (by rw[ah];omega)
   (fun i hi m self _=>by
    show aY.b1 _ _ _ _ _=_
    unfold aY.b1
    have aj:(i:Int) < (xs.length:Int):=by omega
    simp only[aj,decide_true,cond_true,Int.natCast_nonneg,if_true,Int.toNat_natCast,List.getElem?_eq_getElem hi,Option.bind_some]
    rw[inner self _ i hi m]
    cases lq m (xs[i]).2.2.2.1 <;> rfl)
   (fun _ _ _ _ _ _=>trivial) (fun s self _=>by
    show aY.b1 _ _ _ _ _=_
    unfold aY.b1
    simp only[Int.lt_irrefl,decide_false,cond_false]
    exact last) (cw []) trivial k (by omega)
  rw[yY,Au _ _ List.nodup_nil] at this
  refine Eq.trans this ?_
  unfold sP
  simp only[List.nil_append]
  by_cases hn:(flatK xs).Nodup <;> simp[hn]
 have:=bE (B:=fun self v=>aY.B0 k self (fun z=>aY.Q0 k (xs,()) z) (xs,()) v) xs (fun (_:Unit) (i:Int)=>i) (fun i _ x=>if mX xs i x=0 then .inr () else .inl (some (mX xs i x,()))) (fun _=>some (if sP xs then (if 12 < pW xs then 2 else 0) else 7,())) (fun _ _=>True) (by rw[ah];omega)
  (fun i hi s self _=>by
   show aY.b0 _ _ _ _=_
   unfold aY.b0 mX
   have aj:(i:Int) < (xs.length:Int):=by omega
   simp only[aj,decide_true,cond_true,Int.natCast_nonneg,if_true,Int.toNat_natCast,List.getElem?_eq_getElem hi,Option.bind_some,ES,GW _ (Y _ (List.getElem_mem hi))]
   show (bif !cA (xs[i]).1 1 99 then _ else _)=_
   cases cA (xs[i]).1 1 99 with
   | false=>rfl
   | true=>
    simp only[Bool.not_true,cond_false,if_true]
    by_cases h0:i=0
    ·subst h0
     have hz:¬ (0:Int) < ((0:Nat):Int):=by omega
     simp only[hz,decide_false,cond_false,Nat.lt_irrefl,if_false]
     by_cases hc:o5 xs[0]=0
     ·simp only[hc,decide_true,Bool.not_true,cond_false,if_true]
     ·simp only[hc,decide_false,Bool.not_false,cond_true,if_false]
    ·have yE:i - 1 < xs.length:=by omega
     have hp:(0:Int) < (i:Int):=by omega
     have N8:0 < i:=by omega
     simp only[hp,N8,decide_true,cond_true,yB (show 0 < i by omega) (by rw[ah];omega),Int.natCast_nonneg,if_true,Int.toNat_natCast,List.getElem?_eq_getElem yE,Option.bind_some]
     by_cases hle:(xs[i]).1<=(xs[i - 1]).1
     ·simp only[hle,decide_true,cond_true,if_true]
      rfl
     ·simp only[hle,decide_false,cond_false,if_false]
      by_cases hc:o5 xs[i]=0
      ·simp only[hc,decide_true,Bool.not_true,cond_false,if_true]
      ·simp only[hc,decide_false,Bool.not_false,cond_true,if_false])
  (fun _ _ _ _ _ _=>trivial) (fun s self _=>by
   show aY.b0 _ _ _ _=_
   unfold aY.b0
   simp only[Int.lt_irrefl,decide_false,cond_false]
   exact apart) () trivial k (by omega)
 rw[qw (mX xs)] at this
 refine Eq.trans this ?_
 unfold sb
 split <;> rfl
theorem G0 (xs:List Tx) (h:wF xs):c6.ab (xs,())=some (sr xs,()):=by
 have ht:=h
 obtain ⟨h1,Y⟩:=h
 refine ag (k:=1048577) fun k hk=>(c6.aa k _).trans ?_
 unfold c6.p sr
 by_cases h4:4 < xs.length
 ·have:(4:Int) < (xs.length:Int):=by omega
  simp only[this,h4,decide_true,cond_true,if_true]
  (try rfl)
 have N7:¬ (4:Int) < (xs.length:Int):=by omega
 simp only[h4,N7,decide_false,cond_false,if_false]
 have last:c6.Q0 k (xs,()) ()=some (if rA xs then (if 12 < pW xs then 2 else 0) else 7,()):=by
  show c6.q0 _ _=_
  unfold c6.q0
  simp only[Df xs ht,Dd xs ht,Option.bind_some]
  cases rA xs with
  | false=>rfl
  | true=>by_cases hc:12 < pW xs <;> simp[hc]
 have:=bE (B:=fun self v=>c6.B0 k self (fun z=>c6.Q0 k (xs,()) z) (xs,()) v) xs (fun (_:Unit) (i:Int)=>i) (fun i _ x=>if mX xs i x=0 then .inr () else .inl (some (mX xs i x,()))) (fun _=>some (if rA xs then (if 12 < pW xs then 2 else 0) else 7,())) (fun _ _=>True) (by rw[ah];omega)
  (fun i hi s self _=>by
   show c6.b0 _ _ _ _=_
   unfold c6.b0 mX
   have aj:(i:Int) < (xs.length:Int):=by omega
   simp only[aj,decide_true,cond_true,Int.natCast_nonneg,if_true,Int.toNat_natCast,List.getElem?_eq_getElem hi,Option.bind_some,iQ,DX _ (Y _ (List.getElem_mem hi)),CP _ (Y _ (List.getElem_mem hi))]
   have hj:(bif !decide (rT xs[i]=0) then some (rT xs[i],()) else bif !decide (mh xs[i]=0) then some (mh xs[i],()) else self (ae ((i:Int)+1)))=match (generalizing:=false) (if o5 xs[i]=0 then .inr () else .inl (some (o5 xs[i],())):Sum (Option (Int×Unit)) Unit) with | .inl o=>o | .inr _=>self (ae ((i:Int)+1)):=by
    unfold o5
    by_cases hu:rT xs[i]=0
    ·simp only[hu,decide_true,Bool.not_true,cond_false,if_true]
     by_cases hm:mh xs[i]=0
     ·simp only[hm,decide_true,Bool.not_true,cond_false,if_true]
     ·simp only[hm,decide_false,Bool.not_false,cond_true,if_false]
    ·simp only[hu,decide_false,Bool.not_false,cond_true,if_false]
   show (bif !cA (xs[i]).1 1 99 then _ else _)=_
   cases cA (xs[i]).1 1 99 with
   | false=>rfl
   | true=>
    simp only[Bool.not_true,cond_false,if_true]
    by_cases h0:i=0
    ·subst h0
     have hz:¬ (0:Int) < ((0:Nat):Int):=by omega
     simp only[hz,decide_false,cond_false,Nat.lt_irrefl,if_false]
     refine hj.trans ?_
     by_cases hc:o5 xs[0]=0 <;> simp only[hc,if_true,if_false]
    ·have yE:i - 1 < xs.length:=by omega
     have hp:(0:Int) < (i:Int):=by omega
     have N8:0 < i:=by omega
     simp only[hp,N8,decide_true,cond_true,yB (show 0 < i by omega) (by rw[ah];omega),Int.natCast_nonneg,if_true,Int.toNat_natCast,List.getElem?_eq_getElem yE,Option.bind_some]
     by_cases hle:(xs[i]).1<=(xs[i - 1]).1
     ·simp only[hle,decide_true,cond_true,if_true]
      rfl
     ·simp only[hle,decide_false,cond_false,if_false]
      refine hj.trans ?_
      by_cases hc:o5 xs[i]=0 <;> simp only[hc,if_true,if_false])
  (fun _ _ _ _ _ _=>trivial) (fun s self _=>by
   show c6.b0 _ _ _ _=_
   unfold c6.b0
   simp only[Int.lt_irrefl,decide_false,cond_false]
   exact last) () trivial k (by omega)
 rw[qw (mX xs)] at this
 refine Eq.trans this ?_
 show (if sb xs=0 then _ else some (sb xs,()))=_
 by_cases he:sb xs=0
 ·rw[if_pos he,if_pos he,Kr (I8 he) (fun x hx=>by
   obtain ⟨i,hi,rfl⟩:=List.mem_iff_getElem.1 hx
   exact Kq (uh (sc xs he i hi)).2.1)]
 ·rw[if_neg he,if_neg he]
end OT
set_option linter.unusedVariables false
set_option linter.unusedSimpArgs false
namespace OT
open Go
def dd (S:List Key) (ks:List Key):List Key:=ks.foldl (fun S k=>if dc S k then S else S++[k]) S
def my (rows:List Row):List Key:=rows.map fun r=>(r.1,r.2.1,())
def oX (rows:List Row) (xs:List Tx):List Key:=my rows++flatK xs
theorem Ef {α:Type} (k:Ty) (m:List (k.den×α)) (x:k.den) (y:α) {i:Nat} (h:m.findIdx? (fun e=>k.eq x e.1)=some i):gH k m x y=m.set i (x,y):=by
 unfold gH
 rw[h]
theorem I9 {S:List Key} {k:Key} (h:dc S k=true):li (cw S) k=cw S:=by
 have key:∀ (S:List Key) (i:Nat),(cw S).findIdx? (fun e=>Ty.eq aF k e.1)=some i->(cw S)[i]?=some (k,true):=by
  intro S i hi
  have h1:=List.findIdx?_eq_some_iff_findIdx_eq.1 hi
  have aj:i < (cw S).length:=h1.1
  have Y:(cw S).findIdx (fun e=>Ty.eq aF k e.1) < (cw S).length:=by rw[h1.2];exact aj
  have h3:=List.findIdx_getElem (xs:=cw S) (p:=fun e=>Ty.eq aF k e.1) (w:=Y)
  simp only[h1.2] at h3
  have h4:Ty.eq aF k (cw S)[i].1=decide (k=(cw S)[i].1):=tT k _
  have h3:Ty.eq aF k (cw S)[i].1=true:=h3
  rw[h4,decide_eq_true_eq] at h3
  rw[List.getElem?_eq_getElem aj]
  have h5:(cw S)[i]=((cw S)[i].1,true):=by simp[cw]
  rw[h5,<- h3]
 show gH aF (cw S) k true=cw S
 cases hf:(cw S).findIdx? (fun e=>Ty.eq aF k e.1) with
 | none=>
  exfalso
  have h1:dq aF (cw S) k=none:=by
   unfold dq
   have Y:=List.findIdx?_eq_none_iff.1 hf
   have:(cw S).find? (fun e=>Ty.eq aF k e.1)=none:=List.find?_eq_none.2 fun e he=>by rw[Y e he];simp
   exact congrArg _ this
  have Y:=wG S k
  rw[h] at Y
  exact absurd (h1.symm.trans Y) (by simp)
 | some i=>
  have h1:=key S i hf
  have aj:=(List.getElem?_eq_some_iff.1 h1).1
  refine (Ef aF (cw S) k true hf).trans ?_
  show (cw S).set i (k,true)=cw S
  have:(cw S)[i]=(k,true):=(List.getElem?_eq_some_iff.1 h1).2
  rw[<-this]
  exact List.set_getElem_self aj
theorem Kt (S:List Key) (k:Key):li (cw S) k=cw (if dc S k then S else S++[k]):=by
 cases h:dc S k with
 | true=>simp only[if_true];exact I9 h
 | false=>simp only[Bool.false_eq_true,if_false];exact Dg h
theorem E7:∀ (ks S:List Key),ks.foldl li (cw S)=cw (dd S ks)
 | [],S=>rfl
 | k::ks,S=>by
  rw[List.foldl_cons,Kt,E7 ks]
  rfl
theorem I_ (S a b:List Key):dd S (a++b)=dd (dd S a) b:=List.foldl_append
theorem Ja:∀ (ks S:List Key),S.length<=(dd S ks).length
 | [],S=>Nat.le_refl _
 | x::ks,S=>by
  refine Nat.le_trans ?_ (Ja ks (if dc S x then S else S++[x]))
  split
  ·exact Nat.le_refl _
  ·simp
theorem Dh:∀ (ks S:List Key),(S++ks).Nodup->dd S ks=S++ks
 | [],S,_=>by simp[dd]
 | x::ks,S,h=>by
  have hx:dc S x=false:=by
   cases hh:dc S x with
   | false=>rfl
   | true=>
    rw[List.nodup_append] at h
    exact absurd rfl (h.2.2 x (kt.1 hh) x (by simp))
  show dd (if dc S x then S else S++[x]) ks=_
  rw[hx]
  simp only[Bool.false_eq_true,if_false]
  rw[Dh ks (S++[x]) (by simpa using h)]
  simp
theorem Eg {rows:List Row} (h:up rows):(my rows).Nodup:=by
 unfold my
 rw[List.nodup_iff_pairwise_ne,List.pairwise_map]
 refine h.imp fun {a b} P_ e=>?_
 have:rk a=rk b:=by
  simp only[Prod.mk.injEq,and_true] at e
  exact Prod.ext e.1 e.2
 rw[this,mU] at P_
 cases P_
theorem Aw {rows:List Row} {xs:List Tx} (h:up rows):rows.length<=(dd [] (oX rows xs)).length:=by
 unfold oX
 rw[I_,Dh (my rows) [] (by simpa using Eg h)]
 refine Nat.le_trans ?_ (Ja _ _)
 simp[my]
def vN:List Key->List Key->Nat
 | _,[]=>0
 | S,k::ks=>(if dc S k then 0 else 1)+vN (S++[k]) ks
theorem zF:∀ (ks S T:List Key),(∀ k,k ∈ S↔k ∈ T)->(dd S ks).length=S.length+vN T ks
 | [],S,T,_=>rfl
 | x::ks,S,T,h=>by
  have hx:dc S x=dc T x:=by rw[Bool.eq_iff_iff,kt,kt];exact h x
  show (dd (if dc S x then S else S++[x]) ks).length=_
  simp only[vN,<- hx]
  cases hh:dc S x with
  | true=>
   simp only[if_true]
   rw[zF ks S (T++[x]) fun k=>?_]
   ·omega
   ·simp only[List.mem_append,List.mem_singleton,<- h k]
    constructor
    ·exact .inl
    ·rintro (h1 | h1)
     ·exact h1
     ·subst h1;exact kt.1 hh
  | false=>
   simp only[Bool.false_eq_true,if_false]
   rw[zF ks (S++[x]) (T++[x]) fun k=>by simp only[List.mem_append,h k]]
   simp only[List.length_append,List.length_cons,List.length_nil]
   omega
def pz (rows:List Row) (xs:List Tx):Nat:=(dd [] (oX rows xs)).length
theorem Jb (rows:List Row) (xs:List Tx) (hr:rows.length<=1048576) (h:wF xs):bD.ab (rows,xs,())=some (cw (dd [] (oX rows xs)),()):=by
 obtain ⟨h1,Y⟩:=h
 refine ag (k:=1048577) fun k hk=>(bD.aa k _).trans ?_
 have inner:∀ (self:((List (Key×Bool))×(List Tx)×Int×Int)->Option bD.Out) (e2:(List (Key×Bool))->Option bD.Out) (i:Nat) (hi:i < xs.length) (m:List (Key×Bool)),bD.r2 k self e2 (rows,xs,()) xs (xs.length:Int) (i:Int) (xs[i]).2.2.2.1 (List.length (xs[i]).2.2.2.1:Int) (m,(0:Int))=self ((xs[i]).2.2.2.1.foldl li m,xs,(xs.length:Int),ae ((i:Int)+1)):=fun self e2 i hi m=>by
  have LE:=(Y _ (List.getElem_mem hi)).2.2.1
  have:=bE (B:=fun cg v=>bD.B2 k cg (fun z=>bD.Q1 k self e2 (rows,xs,()) xs (xs.length:Int) (i:Int) (xs[i]).2.2.2.1 (List.length (xs[i]).2.2.2.1:Int) z) (rows,xs,()) xs (xs.length:Int) (i:Int) (xs[i]).2.2.2.1 (List.length (xs[i]).2.2.2.1:Int) v) (xs[i]).2.2.2.1 (fun (m:List (Key×Bool)) (j:Int)=>(m,j)) (fun _ m y=>.inr (li m y)) (fun m=>self (m,xs,(xs.length:Int),ae ((i:Int)+1))) (fun _ _=>True) (by rw[ah];omega)
   (fun j hj s cg _=>by
    show bD.b2 _ _ _ _ _ _ _ _ _=_
    unfold bD.b2
    have aj:(j:Int) < (List.length (xs[i]).2.2.2.1:Int):=by omega
    simp only[aj,decide_true,cond_true,Int.natCast_nonneg,if_true,Int.toNat_natCast,List.getElem?_eq_getElem hj,Option.bind_some]
    rfl)
   (fun _ _ _ _ _ _=>trivial) (fun s cg _=>by
    show bD.b2 _ _ _ _ _ _ _ _ _=_
    unfold bD.b2
    simp only[Int.lt_irrefl,decide_false,cond_false]
    rfl) m trivial k (by omega)
  rw[ei (g:=li)] at this
  exact this
 have second:∀ m,bD.r1 k (rows,xs,()) (m,xs,(xs.length:Int),(0:Int))=some ((flatK xs).foldl li m,()):=fun m=>by
  have:=br (B:=fun self v=>bD.B1 k self (fun z=>bD.Q2 k (rows,xs,()) z) (rows,xs,()) v) xs (fun (m:List (Key×Bool)) (i:Int)=>(m,xs,(xs.length:Int),i)) (fun _ m x=>.inr (x.2.2.2.1.foldl li m)) (fun m=>(m,())) (fun _ _=>True) (by rw[ah];omega)
   (fun i hi m self _=>by
    show bD.b1 _ _ _ _ _=_
    unfold bD.b1
    have aj:(i:Int) < (xs.length:Int):=by omega
    simp only[aj,decide_true,cond_true,Int.natCast_nonneg,if_true,Int.toNat_natCast,List.getElem?_eq_getElem hi,Option.bind_some]
    exact inner self _ i hi m)
   (fun _ _ _ _ _ _=>trivial) (fun s self _=>by
    show bD.b1 _ _ _ _ _=_
    unfold bD.b1
    simp only[Int.lt_irrefl,decide_false,cond_false]
    rfl) m trivial k (by omega)
  rw[ei (g:=fun m (x:Tx)=>x.2.2.2.1.foldl li m)] at this
  refine Eq.trans this ?_
  have:∀ (xs:List Tx) (m:List (Key×Bool)),xs.foldl (fun m (x:Tx)=>x.2.2.2.1.foldl li m) m=(flatK xs).foldl li m:=by
   intro xs
   induction xs with
   | nil=>intro m;rfl
   | cons x xs ih=>intro m;rw[List.foldl_cons,ih];simp[flatK,List.foldl_append]
  rw[this]
 have:=bE (B:=fun self v=>bD.B0 k self (fun z=>bD.Q0 k (rows,xs,()) z) (rows,xs,()) v) rows (fun (m:List (Key×Bool)) (i:Int)=>(m,i)) (fun _ m r=>.inr (li m (r.1,r.2.1,()))) (fun m=>some ((flatK xs).foldl li m,())) (fun _ _=>True) (by rw[ah];omega)
  (fun i hi m self _=>by
   show bD.b0 _ _ _ _=_
   unfold bD.b0
   have aj:(i:Int) < (rows.length:Int):=by omega
   simp only[aj,decide_true,cond_true,Int.natCast_nonneg,if_true,Int.toNat_natCast,List.getElem?_eq_getElem hi,Option.bind_some]
   rfl)
  (fun _ _ _ _ _ _=>trivial) (fun s self _=>by
   show bD.b0 _ _ _ _=_
   unfold bD.b0
   simp only[Int.lt_irrefl,decide_false,cond_false]
   exact second s) (cw []) trivial k (by omega)
 rw[ei (g:=fun m (r:Row)=>li m (r.1,r.2.1,()))] at this
 refine Eq.trans this ?_
 have e1:rows.foldl (fun m (r:Row)=>li m (r.1,r.2.1,())) (cw [])=(my rows).foldl li (cw []):=by unfold my;rw[List.foldl_map]
 rw[e1,<- List.foldl_append]
 exact congrArg (fun m=>some (m,())) (E7 (oX rows xs) [])
theorem wI {O:Type} (x:Key) (E:Bool->Option O):∀ (ys:List Key) (j:Nat) (b:Bool),aU (fun _ b y=>if b then .inr (!decide (y=x)) else .inl (E false)) E j ys b=if b then E (!dc ys x) else E false
 | [],_,b=>by cases b <;> rfl
 | y::ys,j,b=>by
  cases b with
  | false=>simp[aU]
  | true=>
   simp only[aU,if_true]
   rw[wI x E ys]
   have:dc (y::ys) x=(decide (y=x)||dc ys x):=rfl
   rw[this]
   cases decide (y=x) <;> simp
theorem Di {O:Type} (all:List Key) (E:Int->O):∀ (ys pre:List Key) (n:Int),all=pre++ys->aU (fun i n x=>.inr (if dc (all.take i) x then n else n+1)) E pre.length ys n=E (n+(vN pre ys:Int))
 | [],pre,n,_=>by simp[aU,vN]
 | y::ys,pre,n,h=>by
  simp only[aU]
  have ht:all.take pre.length=pre:=by rw[h];simp
  rw[ht]
  have:=Di all E ys (pre++[y]) (if dc pre y then n else n+1) (by rw[h];simp)
  rw[List.length_append] at this
  refine Eq.trans this ?_
  congr 1
  simp only[vN]
  cases dc pre y <;> simp <;> omega
def Ax (k:Key):List Key:=if k.2.1=0 then [] else [k]
def G3 (rows:List Row) (xs:List Tx) (k:Key):Nat:=(dd [] (oX rows xs++Ax k)).length
theorem Dj (rows:List Row) (xs:List Tx) (kk:Key) (hr:rows.length<=1048576) (hx:xs.length<=1000) (h:∀ x ∈ xs,List.length x.2.2.2.1<=1000):aO.ab (rows,xs,kk,())=some ((G3 rows xs kk:Int),()):=by
 refine ag (k:=3000000) fun k hk=>(aO.aa k _).trans ?_
 have Ai:(flatK xs).length<=1000*xs.length:=by
  clear hx
  induction xs with
  | nil=>simp[flatK]
  | cons x xs ih=>
   have h1:=h x (by simp)
   have Y:=ih fun y hy=>h y (by simp[hy])
   have:flatK (x::xs)=x.2.2.2.1++flatK xs:=by simp[flatK]
   rw[this,List.length_append,List.length_cons]
   omega
 have GX:∀ all:List Key,all.length<=2100000->aO.r2 k (rows,xs,kk,()) (all,(0:Int),(0:Int))=some ((vN [] all:Int),()):=fun all i_=>by
  have inner:∀ (self:((List Key)×Int×Int)->Option aO.Out) (e4:Int->Option aO.Out) (i:Nat) (hi:i < all.length) (n:Int),aO.r3 k self e4 (rows,xs,kk,()) all n (i:Int) (true,(0:Int))=if dc (all.take i) all[i] then self (all,n,ae ((i:Int)+1)) else self (all,ae (n+1),ae ((i:Int)+1)):=fun self e4 i hi n=>by
   have eo:(all.take i).length=i:=by simp;omega
   have:=bE (B:=fun cg v=>aO.B3 k cg (fun z=>aO.Q2 k self e4 (rows,xs,kk,()) all n (i:Int) z) (rows,xs,kk,()) all n (i:Int) v) (all.take i) (fun (b:Bool) (j:Int)=>(b,j)) (fun _ b y=>if b then .inr (!decide (y=all[i])) else .inl (if false then self (all,ae (n+1),ae ((i:Int)+1)) else self (all,n,ae ((i:Int)+1)))) (fun b=>if b then self (all,ae (n+1),ae ((i:Int)+1)) else self (all,n,ae ((i:Int)+1))) (fun _ _=>True) (by rw[ah];omega)
    (fun j hj b cg _=>by
     show aO.b3 _ _ _ _ _ _ _=_
     unfold aO.b3
     rw[eo] at hj
     have aj:(j:Int) < (i:Int):=by omega
     have EO:j < all.length:=by omega
     have c1:(0:Int)<=(j:Int)/\(j:Int) < (all.length:Int):=by omega
     have c2:(0:Int)<=(i:Int)/\(i:Int) < (all.length:Int):=by omega
     simp only[aj,c1,c2,and_self,decide_true,cond_true,if_true,Int.toNat_natCast,List.getElem?_eq_getElem EO,List.getElem?_eq_getElem hi,Option.bind_some,tT,List.getElem_take]
     cases b <;> rfl)
    (fun _ _ _ _ _ _=>trivial) (fun b cg _=>by
     show aO.b3 _ _ _ _ _ _ _=_
     unfold aO.b3
     simp only[eo,Int.lt_irrefl,decide_false,cond_false]
     cases b <;> rfl) true trivial k (by omega)
   have e:=wI all[i] (fun b=>if b then self (all,ae (n+1),ae ((i:Int)+1)) else self (all,n,ae ((i:Int)+1))) (all.take i) 0 true
   refine (Eq.trans this e).trans ?_
   cases dc (all.take i) all[i] <;> rfl
  have:=br (B:=fun self v=>aO.B2 k self (fun z=>aO.Q3 k (rows,xs,kk,()) z) (rows,xs,kk,()) v) all (fun (n:Int) (i:Int)=>(all,n,i)) (fun i n x=>.inr (if dc (all.take i) x then n else n+1)) (fun n=>(n,())) (fun i n=>0<=n/\n<=(i:Int)) (by rw[ah];omega)
   (fun i hi n self hI=>by
    show aO.b2 _ _ _ _ _=_
    unfold aO.b2
    have aj:(i:Int) < (all.length:Int):=by omega
    simp only[aj,decide_true,cond_true]
    rw[inner self _ i hi n,aP (n:=n+1) (by omega)]
    cases dc (all.take i) all[i] <;> rfl)
   (fun i hi n n' hI hs=>by
    injection hs with hs
    rw[<-hs]
    split <;> omega) (fun s self _=>by
    show aO.b2 _ _ _ _ _=_
    unfold aO.b2
    simp only[Int.lt_irrefl,decide_false,cond_false]
    rfl) 0 (by omega) k (by omega)
  have e:=Di all (fun n=>(n,())) all [] 0 rfl
  refine (Eq.trans this (congrArg some e)).trans ?_
  rw[Int.zero_add]
 have second:aO.r1 k (rows,xs,kk,()) (my rows,(0:Int))=some ((vN [] (oX rows xs++Ax kk):Int),()):=by
  have n8:(my rows).length=rows.length:=by simp[my]
  have:=bE (B:=fun self v=>aO.B1 k self (fun z=>aO.Q1 k (rows,xs,kk,()) z) (rows,xs,kk,()) v) xs (fun (s:List Key) (i:Int)=>(s,i)) (fun _ s x=>.inr (s++x.2.2.2.1)) (fun s=>aO.r2 k (rows,xs,kk,()) (s++Ax kk,(0:Int),(0:Int))) (fun i s=>s.length<=1048576+1000*i) (by rw[ah];omega)
   (fun i hi s self hI=>by
    show aO.b1 _ _ _ _=_
    unfold aO.b1
    have aj:(i:Int) < (xs.length:Int):=by omega
    have LE:=h _ (List.getElem_mem hi)
    have hc:s.length+List.length (xs[i]).2.2.2.1<=bm:=cD (by omega)
    simp only[aj,decide_true,cond_true,Int.natCast_nonneg,if_true,Int.toNat_natCast,List.getElem?_eq_getElem hi,Option.bind_some,hc])
   (fun i hi s s' hI hs=>by
    injection hs with hs
    have LE:=h _ (List.getElem_mem hi)
    rw[<-hs,List.length_append];omega) (fun s self hI=>by
    show aO.b1 _ _ _ _=_
    unfold aO.b1
    simp only[Int.lt_irrefl,decide_false,cond_false]
    show aO.q1 _ _ _=_
    unfold aO.q1 Ax
    have hc:s.length+[kk].length<=bm:=cD (by simp only[List.length_cons,List.length_nil];omega)
    by_cases h0:kk.2.1=0
    ·simp only[h0,decide_true,Bool.not_true,cond_false,if_true,List.append_nil]
    ·simp only[h0,decide_false,Bool.not_false,cond_true,if_false,hc,if_true]) (my rows) (by omega) k (by omega)
  rw[ei (g:=fun s (x:Tx)=>s++x.2.2.2.1)] at this
  refine Eq.trans this ?_
  have e:∀ (xs:List Tx) (s:List Key),xs.foldl (fun s (x:Tx)=>s++x.2.2.2.1) s=s++flatK xs:=by
   intro xs
   induction xs with
   | nil=>intro s;simp[flatK]
   | cons x xs ih=>intro s;rw[List.foldl_cons,ih];simp[flatK]
  rw[e]
  have hex:(Ax kk).length<=1:=by unfold Ax;split <;> simp
  exact GX _ (by rw[List.length_append,List.length_append,n8];omega)
 have:=bE (B:=fun self v=>aO.B0 k self (fun z=>aO.Q0 k (rows,xs,kk,()) z) (rows,xs,kk,()) v) rows (fun (s:List Key) (i:Int)=>(s,i)) (fun _ s r=>.inr (s++[(r.1,r.2.1,())])) (fun s=>aO.r1 k (rows,xs,kk,()) (s,(0:Int))) (fun i s=>s.length=i) (by rw[ah];omega)
  (fun i hi s self hI=>by
   show aO.b0 _ _ _ _=_
   unfold aO.b0
   have aj:(i:Int) < (rows.length:Int):=by omega
   have hc:s.length+[((rows[i]).1,(rows[i]).2.1,())].length<=bm:=cD (by simp only[List.length_cons,List.length_nil];omega)
   simp only[aj,decide_true,cond_true,Int.natCast_nonneg,if_true,Int.toNat_natCast,List.getElem?_eq_getElem hi,Option.bind_some]
   rw[if_pos hc])
  (fun i hi s s' hI hs=>by injection hs with hs;rw[<-hs];simp[hI]) (fun s self _=>by
   show aO.b0 _ _ _ _=_
   unfold aO.b0
   simp only[Int.lt_irrefl,decide_false,cond_false]
   rfl) [] rfl k (by omega)
 rw[ei (g:=fun s (r:Row)=>s++[(r.1,r.2.1,())])] at this
 have e:∀ (rows:List Row) (s:List Key),rows.foldl (fun s (r:Row)=>s++[(r.1,r.2.1,())]) s=s++my rows:=by
  intro rows
  induction rows with
  | nil=>intro s;simp[my]
  | cons r rows ih=>intro s;rw[List.foldl_cons,ih];simp[my]
 rw[e,List.nil_append,second] at this
 refine Eq.trans this ?_
 have:=zF (oX rows xs++Ax kk) [] [] (fun _=>Iff.rfl)
 simp only[List.length_nil,Nat.zero_add] at this
 unfold G3
 rw[this]
theorem Eh (rows:List Row) (xs:List Tx) (hr:rows.length<=1048576) (hx:xs.length<=1000) (h:∀ x ∈ xs,List.length x.2.2.2.1<=1000):aO.ab (rows,xs,((0:Int),(0:Int),()),())=some ((pz rows xs:Int),()):=by
 rw[Dj rows xs _ hr hx h]
 unfold G3 Ax
 simp only[if_true,List.append_nil]
 rfl
theorem Jc {ks:List Key} (h:oO ks=0):∀ k ∈ ks,pw k=true:=by
 have main:∀ (ys:List Key) (j:Nat),(aU (fun i (_:Unit) k=>if jT ks i k=0 then .inr () else .inl (jT ks i k)) (fun _=>(0:Int)) j ys ())=0->∀ y ∈ ys,pw y=true:=by
  intro ys
  induction ys with
  | nil=>intro j _ y hy;cases hy
  | cons y ys ih=>
   intro j hf z hz
   simp only[aU] at hf
   by_cases h0:jT ks j y=0
   ·rw[if_pos h0] at hf
    rcases List.mem_cons.1 hz with rfl | hz
    ·unfold jT at h0
     split at h0
     ·assumption
     ·cases h0
    ·exact ih (j+1) hf z hz
   ·rw[if_neg h0] at hf
    exact absurd hf h0
 exact main ks 0 h
structure G4 (xs:List Tx):Prop where
 len:xs.length<=4
 ch:∀ x ∈ xs,∀ c ∈ (x.2.1:List Change),mw c=0
 O5:∀ x ∈ xs,List.length x.2.2.2.1<=12
 G5:∀ x ∈ xs,List.length x.2.1<=12
 keys:∀ x ∈ xs,∀ k ∈ (x.2.2.2.1:List Key),pw k=true
theorem wJ {α:Type} {c:α->Int}:∀ {xs:List α},ig c xs=0->∀ x ∈ xs,c x=0
 | [],_,_,h=>by cases h
 | y::ys,h,x,hx=>by
  simp only[ig] at h
  split at h
  ·rcases List.mem_cons.1 hx with e | e
   ·subst e;assumption
   ·exact wJ h x e
  ·rename_i hn;exact absurd h hn
theorem E8:∀ (xs:List Tx) (n:Int),0<=n->n<=xs.foldl (fun n x=>n+(List.length x.2.1:Int)) n/\∀ x ∈ xs,(List.length x.2.1:Int)<=xs.foldl (fun n x=>n+(List.length x.2.1:Int)) n
 | [],n,h=>⟨Int.le_refl _,fun x hx=>by cases hx⟩
 | y::ys,n,h=>by
  obtain ⟨h1,Y⟩:=E8 ys (n+(List.length y.2.1:Int)) (by omega)
  simp only[List.foldl_cons]
  refine ⟨by omega,fun x hx=>?_⟩
  rcases List.mem_cons.1 hx with e | e
  ·subst e;omega
  ·exact Y x e
theorem Jd {xs:List Tx} (h:sr xs=0):G4 xs:=by
 unfold sr at h
 split at h
 ·cases h
 ·rename_i hl
  split at h
  ·rename_i he
   split at h
   ·split at h
    ·cases h
    ·rename_i hc
     have each:∀ x ∈ xs,o5 x=0:=fun x hx=>by
      obtain ⟨i,hi,rfl⟩:=List.mem_iff_getElem.1 hx
      exact (uh (sc xs he i hi)).2.1
     refine ⟨by omega,fun x hx c PJ=>?_,fun x hx=>?_,fun x hx=>?_,fun x hx=>?_⟩
     ·have h1:=each x hx
      unfold o5 at h1
      split at h1
      ·rename_i hu
       have Y:=wJ hu c PJ
       unfold px at Y
       split at Y
       ·rename_i hs
        unfold yy at hs
        split at hs
        ·assumption
        ·rename_i hn;exact absurd hs hn
       ·rename_i hn;exact absurd Y hn
      ·rename_i hn;exact absurd h1 hn
     ·have h1:=each x hx
      unfold o5 at h1
      split at h1
      ·unfold mh at h1
       split at h1
       ·cases h1
       ·rename_i hm
        simp only[Bool.or_eq_true,decide_eq_true_eq,not_or] at hm
        omega
      ·rename_i hn;exact absurd h1 hn
     ·have:=(E8 xs 0 (Int.le_refl _)).2 x hx
      unfold pW at hc
      omega
     ·have h1:=each x hx
      unfold o5 at h1
      split at h1
      ·unfold mh at h1
       split at h1
       ·cases h1
       ·split at h1
        ·exact Jc h1
        ·cases h1
      ·rename_i hn;exact absurd h1 hn
   ·cases h
  ·rename_i hn;exact absurd h hn
end OT
set_option linter.unusedVariables false
set_option linter.unusedSimpArgs false
namespace OT
open Go
def vO (c:Change):Change:=(c.2.2.1,c.2.2.2.1,c.1,c.2.1,())
def iB (cs:List Change):List Change:=cs.reverse.map vO
theorem wm (cs:List Change):(iB cs).length=cs.length:=by simp[iB]
theorem E9 {cs:List Change} {c:Change} (h:c ∈ iB cs):∃ d ∈ cs,c=vO d:=by
 unfold iB at h
 obtain ⟨d,h1,Y⟩:=List.mem_map.1 h
 exact ⟨d,List.mem_reverse.1 h1,Y.symm⟩
theorem Dk (a b:Row):sameKey a b=sameKey b a:=by
 rw[tY,tY]
 by_cases h:rk a=rk b
 ·simp[h]
 ·have:¬ rk b=rk a:=fun e=>h e.symm
  simp[h,this]
theorem Ml {c:Change} (h:mw c=0):mw (vO c)=0:=by
 obtain ⟨a,ra,b,rb,⟨⟩⟩:=c
 unfold mw at h ⊢
 simp only[vO]
 have hk:=Dk ra rb
 cases a <;> cases b
 ·exact h
 ·simp at h ⊢
  by_cases hr:hB rb=0
  ·exact fun _=>hr
  ·simp[hr] at h
 ·simp at h ⊢
  by_cases hr:hB ra=0
  ·exact hr
  ·simp[hr] at h
 ·simp only[hk] at h
  by_cases hs:sameKey rb ra=true
  ·by_cases hr:hB ra=0
   ·by_cases hb:hB rb=0
    ·simp[hs,hr,hb] at h ⊢
     try omega
    ·simp[hs,hr,hb] at h ⊢
   ·by_cases hb:hB rb=0
    ·simp[hs,hr,hb] at h ⊢
    ·simp[hs,hr,hb] at h ⊢
  ·simp[hs] at h
theorem vP (cs:List Change) (hl:cs.length<=1048576) {O:Type} {B:((List Change×Int)->Option O)->(List Change×Int)->Option O} {E:List Change->Option O}
  (en:∀ (m:Nat) (hm:m < cs.length) acc self,acc.length<=1048576->B self (acc,(m:Int))=self (acc++[vO cs[m]],ae ((m:Int) - 1))) (jP:∀ acc self,B self (acc,(-1:Int))=E acc) :
  ∀ k,cs.length < k->al B k ([],ae ((cs.length:Int) - 1))=E (iB cs):=by
 have main:∀ (m:Nat) (acc:List Change),m<=cs.length->acc.length+m<=cs.length->∀ k,m < k->al B k (acc,(m:Int) - 1)=E (acc++(cs.take m).reverse.map vO):=by
  intro m
  induction m with
  | zero=>
   intro acc _ _ k hk
   cases k with
   | zero=>omega
   | succ k=>
    show B (al B k) _=_
    have:((0:Nat):Int) - 1=-1:=by omega
    rw[this,jP]
    simp
  | succ m ih=>
   intro acc hm ha k hk
   cases k with
   | zero=>omega
   | succ k=>
    show B (al B k) _=_
    have e:((m+1:Nat):Int) - 1=(m:Int):=by omega
    rw[e,en m (by omega) acc _ (by omega),aP (by omega),ih _ (by omega) (by simp;omega) k (by omega),List.take_succ_eq_append_getElem (by omega),List.reverse_append,List.map_append,List.append_assoc]
    rfl
 intro k hk
 have:=main cs.length [] (Nat.le_refl _) (by simp) k hk
 rw[aP (by omega)]
 simpa [iB] using this
theorem G6 (cs:List Change) (hl:cs.length<=1048576):dU.ab (cs,())=some (iB cs,()):=by
 refine ag (k:=cs.length+1) fun k hk=>(dU.aa k _).trans ?_
 refine vP cs hl (B:=fun self v=>dU.B0 0 self (fun z=>dU.Q0 0 (cs,()) z) (cs,()) v) (E:=fun z=>some (z,())) (fun m hm acc self ha=>?_) (fun acc self=>?_) k (by omega)
 ·show dU.b0 _ _ _ _=_
  unfold dU.b0
  have hc:acc.length+[vO cs[m]].length<=bm:=cD (by simp only[List.length_cons,List.length_nil];omega)
  simp only[Int.natCast_nonneg,decide_true,cond_true,if_true,Int.toNat_natCast,List.getElem?_eq_getElem hm,Option.bind_some]
  exact if_pos hc
 ·show dU.b0 _ _ _ _=_
  unfold dU.b0
  rfl
theorem G7 (cs:List Change) (hl:cs.length<=1048576):fM.ab (cs,())=some (iB cs,()):=by
 refine ag (k:=cs.length+1) fun k hk=>(fM.aa k _).trans ?_
 refine vP cs hl (B:=fun self v=>fM.B0 0 self (fun z=>fM.Q0 0 (cs,()) z) (cs,()) v) (E:=fun z=>some (z,())) (fun m hm acc self ha=>?_) (fun acc self=>?_) k (by omega)
 ·show fM.b0 _ _ _ _=_
  unfold fM.b0
  have hc:acc.length+[vO cs[m]].length<=bm:=cD (by simp only[List.length_cons,List.length_nil];omega)
  simp only[Int.natCast_nonneg,decide_true,cond_true,if_true,Int.toNat_natCast,List.getElem?_eq_getElem hm,Option.bind_some]
  exact if_pos hc
 ·show fM.b0 _ _ _ _=_
  unfold fM.b0
  rfl
def fD:List Row->List Change->Option (List Row)
 | s,[]=>some s
 | s,c::cs=>if nH s c then fD (lX s c) cs else none
theorem back_append:∀ (a b:List Change) (s:List Row),fD s (a++b)=(fD s a).bind fun t=>fD t b
 | [],b,s=>rfl
 | c::a,b,s=>by
  simp only[List.cons_append,fD]
  split
  ·exact back_append a b _
  ·rfl
theorem Ay {O:Type} (bad:O) (fin:List Row->O):∀ (cs:List Change) (i:Nat) (s:List Row),aU (fun _ s c=>if nH s c then .inr (lX s c) else .inl bad) fin i cs s=match fD s cs with | some t=>fin t | none=>bad
 | [],_,_=>rfl
 | c::cs,i,s=>by
  simp only[aU,fD]
  by_cases h:nH s c=true
  ·simp only[h,if_true];exact Ay bad fin cs _ _
  ·simp[h]
theorem vQ:∀ (cs:List Change) (s t:List Row),Good s->(∀ c ∈ cs,mw c=0)->fD s cs=some t->Good t/\t.length<=s.length+cs.length
 | [],s,t,h,_,hb=>by injection hb with hb;subst hb;exact ⟨h,by simp⟩
 | c::cs,s,t,h,hc,hb=>by
  simp only[fD] at hb
  split at hb
  ·have h1:=vQ cs (lX s c) t (rX h (hc c (by simp))) (fun d hd=>hc d (by simp[hd])) hb
   have Y:=t7 s c
   exact ⟨h1.1,by simp only[List.length_cons];omega⟩
  ·cases hb
theorem Dl {O α:Type} {f:Nat->Unit->α->Sum O Unit} {fin:Unit->O}:∀ (xs:List α) (j:Nat),(∀ i (hi:i < xs.length),f (j+i) () xs[i]=.inr ())->aU f fin j xs ()=fin ()
 | [],_,_=>rfl
 | x::xs,j,h=>by
  have h0:=h 0 (by simp)
  simp only[Nat.add_zero,List.getElem_cons_zero] at h0
  simp only[aU,h0]
  exact Dl xs (j+1) fun i hi=>by
   have:=h (i+1) (by simp;omega)
   rw[show j+1+i=j+(i+1) by omega]
   simpa using this
theorem G8 {xs:List Row} (h:Good xs) (hl:xs.length<=60):lY xs=0:=by
 unfold lY
 rw[if_neg (by omega),Dl xs 0 fun i hi=>?_]
 unfold lh
 rw[if_pos (h.ok _ (List.getElem_mem hi)),Nat.zero_add]
 by_cases h0:0 < i
 ·rw[if_pos h0,List.getElem?_eq_getElem (show i - 1 < xs.length by omega)]
  have hu:=h.up
  unfold up at hu
  rw[List.pairwise_iff_getElem] at hu
  have:=hu (i - 1) i (by omega) hi (by omega)
  simp only[this,if_true]
 ·rw[if_neg h0]
theorem G9 {s:List Row} {cs:List Change} (h:Good s) (hc:∀ c ∈ cs,mw c=0) (hl:s.length+cs.length<=60):yI s cs=match fD s cs with | some t=>((0:Int),t,()) | none=>((8:Int),([]:List Row),()):=by
 unfold yI
 rw[if_pos (G8 h (by omega))]
 have main:∀ (cs:List Change) (s:List Row) (i:Nat),Good s->(∀ c ∈ cs,mw c=0)->s.length+cs.length<=60->(aU mV ry i cs s).1=match fD s cs with | some t=>((0:Int),t,()) | none=>((8:Int),([]:List Row),()):=by
  intro cs
  induction cs with
  | nil=>
   intro s i h _ hl
   simp only[aU,ry,fD]
   rw[if_neg (by simp at hl;omega)]
  | cons c cs ih=>
   intro s i h hc hl
   simp only[aU,mV,fD,hc c (by simp),if_true]
   by_cases hf:nH s c=true
   ·simp only[hf,if_true]
    have:=t7 s c
    exact ih _ _ (rX h (hc c (by simp))) (fun d hd=>hc d (by simp[hd])) (by simp at hl;omega)
   ·simp[hf]
 exact main cs s 0 h hc hl
def oY (xs:List Tx):List Change:=xs.flatMap fun x=>iB x.2.1
theorem ui {O:Type} (bad:O) (fin:List Row->O):∀ (xs:List Tx) (i:Nat) (s:List Row),aU (fun _ s x=>match fD s (iB x.2.1) with | some t=>.inr t | none=>.inl bad) fin i xs s=match fD s (oY xs) with | some t=>fin t | none=>bad
 | [],_,_=>rfl
 | x::xs,i,s=>by
  have hb:oY (x::xs)=iB x.2.1++oY xs:=by simp[oY]
  rw[hb,back_append]
  simp only[aU]
  cases fD s (iB x.2.1) with
  | none=>rfl
  | some t=>simp only[Option.bind_some];exact ui bad fin xs _ _
theorem yZ {cs:List Change} (h:∀ c ∈ cs,mw c=0):∀ c ∈ iB cs,mw c=0:=fun c hc=>by
 obtain ⟨d,h1,rfl⟩:=E9 hc
 exact Ml (h d h1)
theorem N9 {cs:List Change} (h:∀ c ∈ cs,cl c):∀ c ∈ iB cs,cl c:=fun c hc=>by
 obtain ⟨d,h1,rfl⟩:=E9 hc
 exact ⟨(h d h1).2,(h d h1).1⟩
theorem Mm {s:List Row} (h:Good s):∀ x ∈ s,rl x:=fun x hx=>by
 have:=IS (h.ok x hx)
 unfold rl
 rw[ah]
 omega
theorem Dm (s:List Row) (cs:List Change) (h:Good s) (hc:∀ c ∈ cs,mw c=0) (hl:s.length+cs.length<=1000):e_.ab (s,cs,())=some (match fD s (iB cs) with | some t=>(t,true,()) | none=>(([]:List Row),false,())):=by
 refine ag (k:=1001) fun k hk=>(e_.aa k _).trans ?_
 unfold e_.p
 rw[G6 cs (by omega)]
 simp only[Option.bind_some]
 have hlen:=wm cs
 have LF:=yZ hc
 have:=br (B:=fun self v=>e_.B0 0 self (fun z=>e_.Q0 0 (s,cs,()) (iB cs) z) (s,cs,()) (iB cs) v) (iB cs) (fun (s:List Row) (i:Int)=>(s,i)) (fun _ s c=>if nH s c then .inr (lX s c) else .inl (([]:List Row),false,())) (fun s=>(s,true,())) (fun i t=>Good t/\t.length<=s.length+i) (by rw[ah];omega)
  (fun i hi t self hI=>by
   show e_.b0 _ _ _ _ _=_
   unfold e_.b0
   have aj:(i:Int) < ((iB cs).length:Int):=by omega
   have en:(0:Int)<=(i:Int)/\(i:Int) < ((iB cs).length:Int):=by omega
   simp only[aj,en,and_self,decide_true,cond_true,if_true,Int.toNat_natCast,List.getElem?_eq_getElem hi,Option.bind_some]
   rw[IM t _ hI.1.up (by omega) (EV (LF _ (List.getElem_mem hi))).1]
   cases nH t (iB cs)[i] <;> rfl)
  (fun i hi t t' hI hs=>by
   split at hs
   ·injection hs with hs
    subst hs
    have:=t7 t (iB cs)[i]
    exact ⟨rX hI.1 (LF _ (List.getElem_mem hi)),by omega⟩
   ·cases hs) (fun t self _=>by
   show e_.b0 _ _ _ _ _=_
   unfold e_.b0
   simp only[Int.lt_irrefl,decide_false,cond_false]
   rfl) s ⟨h,by omega⟩ k (by omega)
 rw[Ay] at this
 refine Eq.trans this ?_
 cases fD s (iB cs) <;> rfl
theorem Ei (rows:List Row) (xs:List Tx) (h:Good rows) (hl:rows.length<=12) (hx:G4 xs):fb.ab (rows,xs,())=some (match fD rows (oY xs) with | some t=>(t,true,()) | none=>(([]:List Row),false,())):=by
 refine ag (k:=10) fun k hk=>(fb.aa k _).trans ?_
 unfold fb.p
 have hc:([]:List Row).length+rows.length<=bm:=cD (by simp only[List.length_nil];omega)
 rw[if_pos hc,List.nil_append]
 have Tb:=hx.len
 have:=br (B:=fun self v=>fb.B0 0 self (fun z=>fb.Q0 0 (rows,xs,()) z) (rows,xs,()) v) xs (fun (s:List Row) (i:Int)=>(s,i)) (fun _ s x=>match fD s (iB x.2.1) with | some t=>.inr t | none=>.inl (([]:List Row),false,())) (fun s=>(s,true,())) (fun i t=>Good t/\t.length<=12+12*i) (by rw[ah];omega)
  (fun i hi t self hI=>by
   show fb.b0 _ _ _ _=_
   unfold fb.b0
   have aj:(i:Int) < (xs.length:Int):=by omega
   have hu:=hx.G5 _ (List.getElem_mem hi)
   simp only[aj,decide_true,cond_true,Int.natCast_nonneg,if_true,Int.toNat_natCast,List.getElem?_eq_getElem hi,Option.bind_some]
   rw[Dm t _ hI.1 (hx.ch _ (List.getElem_mem hi)) (by omega)]
   cases fD t (iB (xs[i]).2.1) <;> rfl)
  (fun i hi t t' hI hs=>by
   have hu:=hx.G5 _ (List.getElem_mem hi)
   cases hb:fD t (iB (xs[i]).2.1) with
   | none=>rw[hb] at hs;cases hs
   | some q=>
    rw[hb] at hs
    injection hs with hs
    subst hs
    have:=vQ _ _ _ hI.1 (yZ (hx.ch _ (List.getElem_mem hi))) hb
    rw[wm] at this
    exact ⟨this.1,by omega⟩) (fun t self _=>by
   show fb.b0 _ _ _ _=_
   unfold fb.b0
   simp only[Int.lt_irrefl,decide_false,cond_false]
   rfl) rows ⟨h,by omega⟩ k (by omega)
 rw[ui] at this
 refine Eq.trans this ?_
 cases fD rows (oY xs) <;> rfl
theorem Dn (rows:List Row) (xs:List Tx) (h:Good rows) (hl:rows.length<=12) (hx:G4 xs) (ht:wF xs):cV.ab (rows,xs,())=some (match fD rows (oY xs) with | some t=>(t,(0:Int),()) | none=>(([]:List Row),(8:Int),())):=by
 refine ag (k:=10) fun k hk=>(cV.aa k _).trans ?_
 unfold cV.p
 have Tb:=hx.len
 have:=br (B:=fun self v=>cV.B0 0 self (fun z=>cV.Q0 0 (rows,xs,()) z) (rows,xs,()) v) xs (fun (s:List Row) (i:Int)=>(s,i)) (fun _ s x=>match fD s (iB x.2.1) with | some t=>.inr t | none=>.inl (([]:List Row),(8:Int),())) (fun s=>(s,(0:Int),())) (fun i t=>Good t/\t.length<=12+12*i) (by rw[ah];omega)
  (fun i hi t self hI=>by
   show cV.b0 _ _ _ _=_
   unfold cV.b0
   have aj:(i:Int) < (xs.length:Int):=by omega
   have hu:=hx.G5 _ (List.getElem_mem hi)
   have LF:=yZ (hx.ch _ (List.getElem_mem hi))
   have Qa:=ht.2 _ (List.getElem_mem hi)
   simp only[aj,decide_true,cond_true,Int.natCast_nonneg,if_true,Int.toNat_natCast,List.getElem?_eq_getElem hi,Option.bind_some]
   rw[G7 _ Qa.1]
   simp only[Option.bind_some]
   have KY:=wm (xs[i]).2.1
   rw[CU t _ (by rw[ah];omega) (Mm hI.1) (by omega) (N9 Qa.2.2.2),G9 hI.1 LF (by omega)]
   cases fD t (iB (xs[i]).2.1) <;> rfl)
  (fun i hi t t' hI hs=>by
   have hu:=hx.G5 _ (List.getElem_mem hi)
   cases hb:fD t (iB (xs[i]).2.1) with
   | none=>rw[hb] at hs;cases hs
   | some q=>
    rw[hb] at hs
    injection hs with hs
    subst hs
    have:=vQ _ _ _ hI.1 (yZ (hx.ch _ (List.getElem_mem hi))) hb
    rw[wm] at this
    exact ⟨this.1,by omega⟩) (fun t self hI=>by
   show cV.b0 _ _ _ _=_
   unfold cV.b0
   simp only[Int.lt_irrefl,decide_false,cond_false,cV.Q0,cV.q0]
   rw[wz t (by omega)]
   rfl) rows ⟨h,by omega⟩ k (by omega)
 rw[ui] at this
 refine Eq.trans this ?_
 cases fD rows (oY xs) <;> rfl
def y5 (n:Int) (xs:List Tx):Bool:=match xs[xs.length - 1]? with
 | some x=>decide (n<=x.1)
 | none=>false
def mY (p:Plain):Int:=
 if lY p.1=0 then
  if sr p.2.1=0 then
   if cA p.2.2.1 1 100&&!y5 p.2.2.1 p.2.1 then
    if 12 < pz p.1 p.2.1 then 2 else (match fD p.1 (oY p.2.1) with | some _=>0 | none=>8)
   else 3
  else sr p.2.1
 else lY p.1
def Do (p:Plain):Prop:=List.length p.1<=1048576/\(∀ x ∈ (p.1:List Row),rl x)/\wF p.2.1
theorem E_ {O:Type} (n:Int) (xs:List Tx) (hl:xs.length<=1048576) (bad j:Option O) :
  (bif decide ((0:Int) < (xs.length:Int)) then (if 0<=ae ((xs.length:Int) - (1:Int)) then ((xs[(ae ((xs.length:Int) - (1:Int))).toNat]?).bind fun x5=>bif decide (n<=x5.1) then bad else j) else none) else j)=if y5 n xs then bad else j:=by
 unfold y5
 by_cases h:0 < xs.length
 ·have h1:(0:Int) < (xs.length:Int):=by omega
  have Y:ae ((xs.length:Int) - 1)=((xs.length - 1:Nat):Int):=by rw[aP (by omega)];omega
  have h3:xs.length - 1 < xs.length:=by omega
  simp only[h1,Y,decide_true,cond_true,Int.natCast_nonneg,if_true,Int.toNat_natCast,List.getElem?_eq_getElem h3,Option.bind_some]
  cases decide (n<=(xs[xs.length - 1]).1) <;> rfl
 ·have h0:xs=[]:=List.eq_nil_of_length_eq_zero (by omega)
  subst h0
  rfl
theorem vR (p:Plain) (h:Do p):eE.ab (p,())=some (mY p,()):=by
 obtain ⟨rows,xs,n,⟨⟩⟩:=p
 obtain ⟨h1,Y,h3⟩:=h
 simp only at h1 Y h3
 refine ag (k:=0) fun k _=>(eE.aa k _).trans ?_
 show eE.p _=_
 unfold eE.p mY
 simp only[wy rows (by rw[ah];omega) Y,GZ xs h3,lL,Jb rows xs h1 h3,Option.bind_some]
 by_cases hr:lY rows=0
 rotate_left
 ·simp only[hr,decide_false,Bool.not_false,cond_true,if_false]
 by_cases ht:sr xs=0
 rotate_left
 ·simp only[hr,ht,decide_true,decide_false,Bool.not_true,Bool.not_false,cond_true,cond_false,if_true,if_false]
 obtain ⟨hg,_⟩:=t6 hr
 have aA:=Jd ht
 simp only[hr,ht,decide_true,Bool.not_true,cond_false,if_true]
 have en:(decide ((1:Int)<=n)&&decide (n<=100))=cA n 1 100:=rfl
 rw[en]
 cases cA n 1 100 with
 | false=>rfl
 | true=>
  simp only[Bool.not_true,cond_false,Bool.true_and]
  rw[E_ n xs h3.1]
  cases y5 n xs with
  | true=>rfl
  | false=>
   simp only[Bool.not_false,Bool.false_eq_true,if_false,if_true]
   have hlen:(cw (dd [] (oX rows xs))).length=pz rows xs:=by simp[cw,pz]
   by_cases pq:12 < pz rows xs
   ·have:(12:Int) < ((cw (dd [] (oX rows xs))).length:Int):=by rw[hlen];omega
    simp only[this,pq,decide_true,cond_true,if_true]
   ·have:¬ (12:Int) < ((cw (dd [] (oX rows xs))).length:Int):=by rw[hlen];omega
    have n8:rows.length<=12:=by
     have:=Aw (xs:=xs) hg.up
     unfold pz at pq
     omega
    simp only[this,pq,decide_false,cond_false,if_false,Dn rows xs hg n8 aA h3,Option.bind_some]
    cases fD rows (oY xs) <;> rfl
theorem vS (p:Plain) (h:Do p):fK.ab (p,())=some (mY p,()):=by
 obtain ⟨rows,xs,n,⟨⟩⟩:=p
 obtain ⟨h1,Y,h3⟩:=h
 simp only at h1 Y h3
 refine ag (k:=0) fun k _=>(fK.aa k _).trans ?_
 show fK.p _=_
 unfold fK.p mY
 simp only[D1 rows (by rw[ah];omega) Y,G0 xs h3,iQ,Option.bind_some]
 by_cases hr:lY rows=0
 rotate_left
 ·simp only[hr,decide_false,Bool.not_false,cond_true,if_false]
 by_cases ht:sr xs=0
 rotate_left
 ·simp only[hr,ht,decide_true,decide_false,Bool.not_true,Bool.not_false,cond_true,cond_false,if_true,if_false]
 obtain ⟨hg,_⟩:=t6 hr
 have aA:=Jd ht
 have N_:=Eh rows xs h1 (by have:=aA.len;omega) (fun x hx=>by have:=aA.O5 x hx;omega)
 simp only[hr,ht,decide_true,Bool.not_true,cond_false,if_true,N_,Option.bind_some]
 have en:(decide ((1:Int)<=n)&&decide (n<=100))=cA n 1 100:=rfl
 rw[en]
 cases cA n 1 100 with
 | false=>rfl
 | true=>
  simp only[Bool.not_true,cond_false,Bool.true_and]
  rw[E_ n xs h3.1]
  cases y5 n xs with
  | true=>rfl
  | false=>
   simp only[Bool.not_false,Bool.false_eq_true,if_false,if_true]
   by_cases pq:12 < pz rows xs
   ·have:(12:Int) < (pz rows xs:Int):=by omega
    simp only[this,pq,decide_true,cond_true,if_true]
   ·have:¬ (12:Int) < (pz rows xs:Int):=by omega
    have n8:rows.length<=12:=by
     have:=Aw (xs:=xs) hg.up
     unfold pz at pq
     omega
    simp only[this,pq,decide_false,cond_false,if_false,Ei rows xs hg n8 aA,Option.bind_some]
    cases fD rows (oY xs) <;> rfl
theorem Dp {p:Plain} (hv:lH dI p) (hz:zz dI p<=1048576):Do p:=by
 obtain ⟨rows,xs,n,⟨⟩⟩:=p
 obtain ⟨hr,hx,_⟩:=hv
 replace hz:zz (.U aw) rows+(zz (.U aX) xs+(0+0))<=1048576:=hz
 refine ⟨Nat.le_trans (gx (e:=aw) rows) (by omega),fun x hm=>GA (hr.2 x hm),Nat.le_trans (gx (e:=aX) xs) (by omega),fun x hm=>?_⟩
 have h1:zz aX x+1<=zz (.U aX) xs:=mg (e:=aX) hm
 have Y:zz aX x=0+(zz (.U au) x.2.1+(zz (.U i64) x.2.2.1+(zz (.U aF) x.2.2.2.1+0))):=rfl
 have h3:List.length x.2.1<=zz (.U au) x.2.1:=gx (e:=au) x.2.1
 have h4:List.length x.2.2.1<=zz (.U i64) x.2.2.1:=gx (e:=i64) x.2.2.1
 have h5:List.length x.2.2.2.1<=zz (.U aF) x.2.2.2.1:=gx (e:=aF) x.2.2.2.1
 exact ⟨by omega,by omega,by omega,fun c hc=>O0 ((hx.2 x hm).2.1.2 c hc)⟩
end OT
set_option linter.unusedVariables false
set_option linter.unusedSimpArgs false
namespace OT
open Go
end OT
set_option linter.unusedVariables false
set_option linter.unusedSimpArgs false
set_option linter.unusedSectionVars false
namespace OT
open Go
theorem sQ {a b:List UInt8} {i:Nat} (h:i < a.length):aS (a++b) i=aS a i:=by
 unfold aS
 simp only[List.getD_eq_getElem?_getD]
 rw[List.getElem?_append_left h]
theorem Je {a b:List UInt8} {q:aL×Nat} (h:kY a=some q):kY (a++b)=some q:=by
 have h0:=h
 unfold kY at h
 split at h
 ·cases h
 ·rename_i hc
  have l0:7<=a.length:=by omega
  have l1:aS a 0<=a.length:=by omega
  unfold kY
  have e0:aS (a++b) 0=aS a 0:=sQ (by omega)
  have e1:aS (a++b) 1=aS a 1:=sQ (by omega)
  have e2:aS (a++b) 2=aS a 2:=sQ (by omega)
  have e3:aS (a++b) 3=aS a 3:=sQ (by omega)
  have e4:aS (a++b) 4=aS a 4:=sQ (by omega)
  rw[e0,e1,e2,e3,e4,List.take_append_of_le_length l1,if_neg (by rw[List.length_append];omega)]
  exact h
theorem wK (b:List UInt8):∀ (k:Nat) (a:List UInt8),a.length < k->(eu k a).2=a.length->eu (k+b.length) (a++b)=((eu k a).1++(l8 b).1,a.length+(l8 b).2)
 | 0,_,h,_=>by omega
 | k+1,a,hk,h=>by
  cases hr:kY a with
  | none=>
   simp only[eu,hr] at h
   have:a=[]:=List.eq_nil_of_length_eq_zero h.symm
   subst this
   rw[List.nil_append,mi (k+1+b.length) (b.length+1) b (by omega) (by omega)]
   simp[eu,hr,l8]
  | some q=>
   obtain ⟨r,n⟩:=q
   have hn:=sO hr
   have hd:(a.drop n).length=a.length - n:=List.length_drop
   simp only[eu,hr] at h
   have ih:=wK b k (a.drop n) (by omega) (by omega)
   have e:k+1+b.length=(k+b.length)+1:=by omega
   rw[e]
   simp only[eu,hr,Je hr,List.drop_append_of_le_length hn.2.1,ih,List.cons_append]
   rw[hd]
   congr 1
   omega
theorem Jf {a b:List UInt8} (h:kZ a=true):l8 (a++b)=((l8 a).1++(l8 b).1,a.length+(l8 b).2):=by
 have:=wK b (a.length+1) a (by omega) (of_decide_eq_true h)
 unfold l8
 rw[List.length_append,mi (a.length+b.length+1) (a.length+1+b.length) _ (by rw[List.length_append];omega) (by rw[List.length_append];omega)]
 exact this
def l9 (l:Log):List aL:=(l8 l.1).1++(l8 l.2.1).1
theorem rB:∀ (k:Nat) (d:List UInt8),(eu k d).1.length<=d.length
 | 0,d=>Nat.zero_le _
 | k+1,d=>by
  simp only[eu]
  cases hr:kY d with
  | none=>exact Nat.zero_le _
  | some q=>
   obtain ⟨r,n⟩:=q
   have hn:=sO hr
   have hd:(d.drop n).length=d.length - n:=List.length_drop
   have:=rB k (d.drop n)
   simp only[List.length_cons]
   omega
theorem vT {l:Log} (h:oW l=0):List.length l.1+List.length l.2.1<=16000/\kZ l.1=true/\kZ l.2.1=true:=by
 unfold oW at h
 split at h
 ·cases h
 ·split at h
  ·rename_i a b
   rw[Bool.and_eq_true] at b
   exact ⟨by omega,b.1,b.2⟩
  ·cases h
theorem xo {l:Log} (h:oW l=0):(l9 l).length<=16000:=by
 have h1:=vT h
 unfold l9
 rw[List.length_append]
 have a:=rB (List.length l.1+1) l.1
 have b:=rB (List.length l.2.1+1) l.2.1
 unfold l8
 omega
theorem Ej {l:Log} (h:oW l=0):g_.ab (l,())=some (l9 l,()):=by
 have h1:=vT h
 have Y:=xo h
 refine ag (k:=0) fun k _=>(g_.aa k _).trans ?_
 unfold g_.p
 simp only[ue l.1 (by omega),ue l.2.1 (by omega),Option.bind_some]
 rw[if_pos (cD (by unfold l9 at Y;rw[List.length_append] at Y;omega))]
 rfl
theorem Ku (d:List UInt8) (hd:d.length<=1048576):dw.ab (d,())=some (d,()):=pv d (by omega)
theorem Ek {l:Log} (h:oW l=0):ip.ab (l,())=some (l9 l,()):=by
 have h1:=vT h
 refine ag (k:=0) fun k _=>(ip.aa k _).trans ?_
 unfold ip.p
 simp only[Ku l.1 (by omega),Option.bind_some]
 rw[if_pos (cD (by omega)),uf _ (by rw[List.length_append];omega)]
 rw[Jf h1.2.1]
 rfl
theorem xp {α:Type} [DecidableEq α]:∀ {a b:List α},a.length=b.length->gd (fun x y=>decide (x=y)) a b=decide (a=b)
 | [],[],_=>by simp[gd]
 | x::a,y::b,h=>by
  have ih:=xp (a:=a) (b:=b) (by simpa using h)
  unfold gd at ih ⊢
  simp only[List.zip_cons_cons,List.all_cons,ih]
  by_cases h1:x=y <;> by_cases Y:a=b <;> simp[h1,Y]
 | [],_::_,h=>by cases h
 | _::_,[],h=>by cases h
theorem El (a b:List (List UInt8)) (hl:a.length<=1000):fd.ab (a,b,())=some (decide (a=b),()):=by
 refine ag (k:=1002) fun k hk=>(fd.aa k _).trans ?_
 unfold fd.p
 by_cases hlen:a.length=b.length
 rotate_left
 ·have e1:¬ ((a.length:Int)=(b.length:Int)):=by omega
  have e2:¬ a=b:=fun h=>hlen (by rw[h])
  simp only[e1,e2,decide_false,Bool.not_false,cond_true]
 have e1:((a.length:Int)=(b.length:Int)):=by omega
 simp only[e1,decide_true,Bool.not_true,cond_false]
 have:=ge (B:=fun self v=>fd.B0 k self (fun z=>fd.Q0 k (a,b,()) z) (a,b,()) v) (xs:=a) (ys:=b) (fun x y=>decide (x=y)) hlen (by rw[ah];omega)
  (fun i hx hy self=>by
   show fd.b0 _ _ _ _=_
   unfold fd.b0
   have aj:(i:Int) < (a.length:Int):=by omega
   simp only[aj,decide_true,cond_true,Int.natCast_nonneg,if_true,Int.toNat_natCast,List.getElem?_eq_getElem hx,List.getElem?_eq_getElem hy,Option.bind_some]
   by_cases h:a[i]=b[i] <;> simp[h]) (fun self=>by
   show fd.b0 _ _ _ _=_
   unfold fd.b0
   rw[decide_eq_false (Int.lt_irrefl _),cond_false]
   rfl) k (by omega)
 refine this.trans ?_
 rw[xp hlen]
theorem Em (a b:List (List UInt8)) (hl:a.length<=1000) (ha:∀ x ∈ a,x.length<=100000):jb.ab (a,b,())=some (decide (a=b),()):=by
 refine ag (k:=0) fun k _=>(jb.aa k _).trans ?_
 unfold jb.p
 have:∀ f:Nat×Int,bF.ab (a,b,f,())=some (decide (a=b),()):=fun f=>by
  refine ag (k:=1002) fun k hk=>(bF.aa k _).trans ?_
  unfold bF.p
  by_cases hlen:a.length=b.length
  rotate_left
  ·have e1:¬ ((a.length:Int)=(b.length:Int)):=by omega
   have e2:¬ a=b:=fun h=>hlen (by rw[h])
   simp only[e1,e2,decide_false,Bool.not_false,cond_true]
  have e1:((a.length:Int)=(b.length:Int)):=by omega
  simp only[e1,decide_true,Bool.not_true,cond_false]
  have:=ge (B:=fun self v=>bF.B0 k self (fun z=>bF.Q0 k (a,b,f,()) z) (a,b,f,()) v) (xs:=a) (ys:=b) (fun x y=>decide (x=y)) hlen (by rw[ah];omega)
   (fun i hx hy self=>by
    show bF.b0 _ _ _ _=_
    unfold bF.b0
    have aj:(i:Int) < (a.length:Int):=by omega
    simp only[aj,decide_true,cond_true,Int.natCast_nonneg,if_true,Int.toNat_natCast,List.getElem?_eq_getElem hx,List.getElem?_eq_getElem hy,Option.bind_some,Dc _ _ (ha _ (List.getElem_mem hx))]
    by_cases h:a[i]=b[i] <;> simp[h]) (fun self=>by
    show bF.b0 _ _ _ _=_
    unfold bF.b0
    rw[decide_eq_false (Int.lt_irrefl _),cond_false]
    rfl) k (by omega)
  refine this.trans ?_
  rw[xp hlen]
 rw[this]
 rfl
theorem Dq {s:fN} (h:jU s.2.1=0):iz.ab (s,())=some (kB s.2.1,()):=by
 have hr:=qu h
 refine ag (k:=0) fun k _=>(iz.aa k _).trans ?_
 unfold iz.p
 rw[wB s.2.1 (fun p hp=>by rw[(hr.1.2 p hp).len,ah];omega)]
 simp only[Option.bind_some]
 rw[wC _ (by have:=vH (sN h);omega)]
 rfl
theorem Dr {d:List UInt8} (h:d.length<=64):List.length (cR d).1.2.2.2.2.1.2.2.2.1<=64:=by
 unfold cR
 split
 ·exact Nat.zero_le _
 ·split
  ·exact Nat.zero_le _
  ·show (d.drop 6).length<=64
   rw[List.length_drop]
   omega
theorem Ds {p:List UInt8} (s:Nat) (h:p.length<=64):(ep p s).length<=64:=by
 unfold ep
 rw[List.length_take,List.length_drop]
 omega
theorem Kv {ps:fS} (h:mW ps) (a b:Int):List.length (iA ps a b).1.2.2.2.2.1.2.2.2.1<=64:=by
 unfold iA
 cases hp:ps[a.toNat]? with
 | none=>exact Nat.zero_le _
 | some p=>
  have hm:=h.2 p (List.mem_of_getElem? hp)
  simp only
  split
  ·exact Dr (Ds _ (by rw[hm.len];omega))
  ·exact Nat.zero_le _
theorem Mn {ps:fS} (h:jU ps=0):∀ r ∈ kB ps,List.length r.2.2.2.1<=64:=fun r hr=>by
 have hv:=qu h
 rw[C7 (sN h),(GG _).mem_iff,List.mem_map] at hr
 obtain ⟨x,hx,rfl⟩:=hr
 unfold iU at hx
 rw[List.mem_flatMap] at hx
 obtain ⟨y,hy,hx⟩:=hx
 unfold kX at hx
 split at hx
 ·cases hx
 ·rw[List.mem_singleton] at hx
  subst hx
  unfold qt
  split
  ·exact Kv hv.1 _ _
  ·obtain ⟨P,p,t,h1,Y,h3,rfl⟩:=rz.1 hy
   exact Dr (Ds _ (by rw[(hv.1.2 p (List.mem_of_getElem? h1)).len];omega))
theorem Mo {ps:fS} (h:jU ps=0):∀ r ∈ kB ps,rl r:=fun r hr=>by
 have:=Mn h r hr
 unfold rl
 rw[ah]
 omega
theorem xq {ps:fS} (h:jU ps=0):(kB ps).length<=192:=by
 unfold kB
 rw[List.length_map]
 exact vH (sN h)
def Az (s:fN):Prop:=LD s.2.2.1/\(∀ p ∈ (s.2.1:fS),p.length<=maxLen)/\wF s.2.2.2.1
theorem Jg {s:fN} (h:Az s) (hv:jU s.2.1=0):Do (kB s.2.1,s.2.2.2.1,s.2.2.2.2.1,()):=
 ⟨by have:=xq hv;show (kB s.2.1).length<=1048576;omega,Mo hv,h.2.2⟩
def G_ (s:fN):Int:=if decide (0 < List.length s.2.1)||(decide (0 < List.length s.2.2.2.1)||decide (0 < List.length s.2.2.1.2.1)) then 1 else if cA s.2.2.2.2.1 1 100 then 0 else 3
def LG (s:fN):Int:=if jU s.2.1=0 then
        if mY (kB s.2.1,s.2.2.2.1,s.2.2.2.2.1,())=0 then
         if (nI (l9 s.2.2.1)).2.1=0/\(nI (l9 s.2.2.1)).1=s.2.1 then 0 else 8
        else mY (kB s.2.1,s.2.2.2.1,s.2.2.2.2.1,())
   else jU s.2.1
def oZ (s:fN):Int:=if oW s.2.2.1=0 then (bif s.1 then LG s else G_ s) else oW s.2.2.1
theorem Fc (s:fN) (A:Option (Bool×Unit)) (h:A=some (cA s.2.2.2.2.1 1 100,())) :
  (bif decide ((0:Int) < (List.length s.2.1:Int)) then (some ((1:Int),())) else bif decide ((0:Int) < (List.length s.2.2.2.1:Int)) then (some ((1:Int),())) else bif decide ((0:Int) < (List.length s.2.2.1.2.1:Int)) then (some ((1:Int),())) else A.bind fun r3=>bif !r3.1 then (some ((3:Int),())) else some ((0:Int),()))=some (G_ s,()):=by
 have e:∀ n:Nat,decide ((0:Int) < (n:Int))=decide (0 < n):=fun n=>by rw[decide_eq_decide];omega
 rw[h,e,e,e]
 unfold G_
 cases decide (0 < List.length s.2.1) <;> cases decide (0 < List.length s.2.2.2.1) <;> cases decide (0 < List.length s.2.2.1.2.1) <;> try rfl
 simp only[Option.bind_some]
 cases cA s.2.2.2.2.1 1 100 <;> rfl
theorem Dt {s:fN} (h:Az s):iy.ab (s,())=some (oZ s,()):=by
 refine ag (k:=0) fun k _=>(iy.aa k _).trans ?_
 unfold iy.p oZ
 simp only[GS _ h.1,Option.bind_some]
 by_cases h0:oW s.2.2.1=0
 rotate_left
 ·simp only[h0,decide_false,Bool.not_false,cond_true,if_false]
 simp only[h0,decide_true,Bool.not_true,cond_false,if_true]
 cases hu:s.1 with
 | false=>exact Fc s _ (lL _ _ _)
 | true=>
  simp only[Bool.not_true,cond_false,cond_true]
  unfold LG
  rw[wB s.2.1 h.2.1]
  simp only[Option.bind_some]
  by_cases h1:jU s.2.1=0
  rotate_left
  ·simp only[h1,decide_false,Bool.not_false,cond_true,if_false]
  simp only[h1,decide_true,Bool.not_true,cond_false,if_true]
  rw[wC _ (by have:=vH (sN h1);omega)]
  simp only[Option.bind_some]
  have hp:=vR _ (Jg h h1)
  unfold kB at hp ⊢
  rw[hp]
  simp only[Option.bind_some]
  generalize mY ((rZ s.2.1).map (·.1),s.2.2.2.1,s.2.2.2.2.1,())=c
  by_cases Y:c=0
  rotate_left
  ·simp only[Y,decide_false,Bool.not_false,cond_true,if_false]
  simp only[Y,decide_true,Bool.not_true,cond_false,if_true,Ej h0,Option.bind_some,Eb _ (show (l9 s.2.2.1).length<=maxLen by have:=xo h0;rw[ah];omega)]
  by_cases h3:(nI (l9 s.2.2.1)).2.1=0
  rotate_left
  ·simp only[h3,decide_false,Bool.not_false,cond_true,false_and,if_false]
  have hg:=yX _ h3
  simp only[h3,decide_true,Bool.not_true,cond_false,true_and,Em _ s.2.1 (show List.length (nI (l9 s.2.2.1)).1<=1000 by have:=hg.1;omega) (fun x hx=>by have:=hg.2 x hx;omega),Option.bind_some]
  by_cases h4:(nI (l9 s.2.2.1)).1=s.2.1
  ·simp only[h4,decide_true,Bool.not_true,cond_false,if_true]
  ·simp only[h4,decide_false,Bool.not_false,cond_true,if_false]
theorem zG {s:fN} (h:Az s):jI.ab (s,())=some (oZ s,()):=by
 refine ag (k:=0) fun k _=>(jI.aa k _).trans ?_
 unfold jI.p oZ
 simp only[GQ _ h.1,Option.bind_some]
 by_cases h0:oW s.2.2.1=0
 rotate_left
 ·simp only[h0,decide_false,Bool.not_false,cond_true,if_false]
 simp only[h0,decide_true,Bool.not_true,cond_false,if_true]
 cases hu:s.1 with
 | false=>exact Fc s _ (iQ _ _ _)
 | true=>
  simp only[Bool.not_true,cond_false,cond_true]
  unfold LG
  rw[D2 s.2.1 h.2.1]
  simp only[Option.bind_some]
  by_cases h1:jU s.2.1=0
  rotate_left
  ·simp only[h1,decide_false,Bool.not_false,cond_true,if_false]
  simp only[h1,decide_true,Bool.not_true,cond_false,if_true]
  rw[uC h1]
  simp only[Option.bind_some]
  rw[vS _ (Jg h h1)]
  simp only[Option.bind_some]
  generalize mY (kB s.2.1,s.2.2.2.1,s.2.2.2.2.1,())=c
  by_cases Y:c=0
  rotate_left
  ·simp only[Y,decide_false,Bool.not_false,cond_true,if_false]
  simp only[Y,decide_true,Bool.not_true,cond_false,if_true,Ek h0,Option.bind_some,Ea _ (show (l9 s.2.2.1).length<=maxLen by have:=xo h0;rw[ah];omega)]
  by_cases h3:(nI (l9 s.2.2.1)).2.1=0
  rotate_left
  ·simp only[h3,decide_false,Bool.not_false,cond_true,false_and,if_false]
  have hg:=yX _ h3
  simp only[h3,decide_true,Bool.not_true,cond_false,true_and,El _ s.2.1 (show List.length (nI (l9 s.2.2.1)).1<=1000 by have:=hg.1;omega),Option.bind_some]
  by_cases h4:(nI (l9 s.2.2.1)).1=s.2.1
  ·simp only[h4,decide_true,Bool.not_true,cond_false,if_true]
  ·simp only[h4,decide_false,Bool.not_false,cond_true,if_false]
end OT
set_option linter.unusedVariables false
set_option linter.unusedSimpArgs false
set_option linter.unusedSectionVars false
namespace OT
open Go
theorem Kw {s:fN} (hv:lH co s) (hz:zz co s<=1048576):Az s:=by
 obtain ⟨u,ps,l,xs,n,⟨⟩⟩:=s
 obtain ⟨h1,Y,h3,h4,h5,_⟩:=hv
 replace hz:0+(zz (.U (.U u8)) ps+(zz eS l+(zz (.U aX) xs+(0+0))))<=1048576:=hz
 have RB:zz eS l=zz (.U u8) l.1+(zz (.U u8) l.2.1+0):=rfl
 have BS:List.length l.1<=zz (.U u8) l.1:=gx (e:=u8) l.1
 have n7:List.length l.2.1<=zz (.U u8) l.2.1:=gx (e:=u8) l.2.1
 refine ⟨⟨?_,?_⟩,fun p hp=>?_,?_⟩
 ·show List.length l.1<=1048576;omega
 ·show List.length l.2.1<=1048576;omega
 ·have a1:zz (.U u8) p+1<=zz (.U (.U u8)) ps:=mg (e:=.U u8) hp
  have a2:List.length p<=zz (.U u8) p:=gx (e:=u8) p
  rw[ah];omega
 ·have a3:zz dI (([]:List Row),xs,n,())<=1048576:=by
   show (0+0)+(zz (.U aX) xs+(0+0))<=1048576
   omega
  exact (Dp (p:=(([]:List Row),xs,n,())) ⟨⟨Nat.zero_le _,fun x hx=>by cases hx⟩,h4,h5,trivial⟩ a3).2.2
theorem y6 {s:fN} (h:oZ s=0) (hu:s.1=true):jU s.2.1=0/\oW s.2.2.1=0:=by
 unfold oZ at h
 split at h
 ·rename_i h0
  rw[hu,cond_true] at h
  unfold LG at h
  split at h
  ·exact ⟨by assumption,h0⟩
  ·rename_i h1;exact absurd h h1
 ·rename_i h0;exact absurd h h0
end OT
set_option linter.unusedVariables false
set_option linter.unusedSimpArgs false
set_option linter.unusedSectionVars false
namespace OT
open Go
def k8 {α:Type} (e:α->α->Bool) (xs ys:List α):Bool:=decide (xs.length=ys.length)&&gd e xs ys
theorem Jh {α:Type} (e:α->α->Bool) (x y:α) (xs ys:List α):gd e (x::xs) (y::ys)=(e x y&&gd e xs ys):=by
 unfold gd
 simp only[List.zip_cons_cons,List.all_cons]
def sR {α O:Type} (e:α->α->Bool) (ys:List α) (bad:O) (i:Nat) (x:α):Sum O Unit:=match ys[i]? with
 | some y=>if e x y then .inr () else .inl bad
 | none=>.inl bad
theorem xr {α O:Type} (e:α->α->Bool) (bad fin:O) (ys:List α):∀ (xs pre post:List α),ys=pre++post->xs.length=post.length->aU (fun i (_:Unit) x=>sR e ys bad i x) (fun _=>fin) pre.length xs ()=if gd e xs post then fin else bad
 | [],pre,post,_,hl=>by
  have:post=[]:=List.eq_nil_of_length_eq_zero hl.symm
  subst this
  simp[aU,gd]
 | x::xs,pre,[],_,hl=>by cases hl
 | x::xs,pre,y::post,h,hl=>by
  have hx:ys[pre.length]?=some y:=by rw[h,List.getElem?_append_right (Nat.le_refl _)];simp
  simp only[aU,sR,hx,Jh]
  cases he:e x y with
  | false=>rfl
  | true=>
   have ih:=xr e bad fin ys xs (pre++[y]) post (by rw[h,List.append_assoc];rfl) (by simpa using hl)
   rw[List.length_append,List.length_cons,List.length_nil] at ih
   simp only[if_true,Bool.true_and]
   exact ih
def pX (x y:Row):Bool:=Ty.eq aw x y
def vU (x y:Change):Bool:=Ty.eq au x y
def rC (x y:Key):Bool:=Ty.eq aF x y
theorem Ha (xs ys:List Row) (hx:xs.length<=maxLen):cY.ab (xs,ys,())=some (k8 pX xs ys,()):=by
 refine ag (k:=xs.length+1) fun k hk=>(cY.aa k _).trans ?_
 unfold cY.p k8
 by_cases hl:xs.length=ys.length
 rotate_left
 ·have Y:¬ ((xs.length:Int)=(ys.length:Int)):=by omega
  simp only[hl,Y,decide_false,Bool.not_false,cond_true,Bool.false_and]
 have Y:((xs.length:Int)=(ys.length:Int)):=by omega
 simp only[hl,Y,decide_true,Bool.not_true,cond_false,Bool.true_and]
 exact ge (B:=fun self v=>cY.B0 0 self (fun z=>cY.Q0 0 (xs,ys,()) z) (xs,ys,()) v) pX hl hx (fun i hi hj self=>by
   show cY.b0 _ _ _ _=_
   unfold cY.b0
   have aj:(i:Int) < (xs.length:Int):=by omega
   simp only[aj,decide_true,cond_true,Int.natCast_nonneg,if_true,Int.toNat_natCast,List.getElem?_eq_getElem hi,List.getElem?_eq_getElem hj,Option.bind_some]
   show (bif !pX xs[i] ys[i] then _ else _)=_
   cases h:pX xs[i] ys[i] <;> simp) (fun self=>by
   show cY.b0 _ _ _ _=_
   unfold cY.b0
   rw[decide_eq_false (Int.lt_irrefl _),cond_false]
   rfl) k (by omega)
theorem En (xs ys:List Row) (hx:xs.length<=maxLen):fh.ab (xs,ys,())=some (k8 pX xs ys,()):=by
 refine ag (k:=xs.length+1) fun k hk=>(fh.aa k _).trans ?_
 unfold fh.p k8
 by_cases hl:xs.length=ys.length
 rotate_left
 ·have Y:¬ ((xs.length:Int)=(ys.length:Int)):=by omega
  simp only[hl,Y,decide_false,Bool.not_false,cond_true,Bool.false_and]
 have Y:((xs.length:Int)=(ys.length:Int)):=by omega
 simp only[hl,Y,decide_true,Bool.not_true,cond_false,Bool.true_and]
 exact ge (B:=fun self v=>fh.B0 0 self (fun z=>fh.Q0 0 (xs,ys,()) z) (xs,ys,()) v) pX hl hx (fun i hi hj self=>by
   show fh.b0 _ _ _ _=_
   unfold fh.b0
   have aj:(i:Int) < (xs.length:Int):=by omega
   simp only[aj,decide_true,cond_true,Int.natCast_nonneg,if_true,Int.toNat_natCast,List.getElem?_eq_getElem hi,List.getElem?_eq_getElem hj,Option.bind_some]
   show (bif !pX xs[i] ys[i] then _ else _)=_
   cases h:pX xs[i] ys[i] <;> simp) (fun self=>by
   show fh.b0 _ _ _ _=_
   unfold fh.b0
   rw[decide_eq_false (Int.lt_irrefl _),cond_false]
   rfl) k (by omega)
theorem AN (xs ys:List Change) (hx:xs.length<=maxLen):cb.ab (xs,ys,())=some (k8 vU xs ys,()):=by
 refine ag (k:=xs.length+1) fun k hk=>(cb.aa k _).trans ?_
 unfold cb.p k8
 by_cases hl:xs.length=ys.length
 rotate_left
 ·have Y:¬ ((xs.length:Int)=(ys.length:Int)):=by omega
  simp only[hl,Y,decide_false,Bool.not_false,cond_true,Bool.false_and]
 have Y:((xs.length:Int)=(ys.length:Int)):=by omega
 simp only[hl,Y,decide_true,Bool.not_true,cond_false,Bool.true_and]
 exact ge (B:=fun self v=>cb.B0 0 self (fun z=>cb.Q0 0 (xs,ys,()) z) (xs,ys,()) v) vU hl hx (fun i hi hj self=>by
   show cb.b0 _ _ _ _=_
   unfold cb.b0
   have aj:(i:Int) < (xs.length:Int):=by omega
   simp only[aj,decide_true,cond_true,Int.natCast_nonneg,if_true,Int.toNat_natCast,List.getElem?_eq_getElem hi,List.getElem?_eq_getElem hj,Option.bind_some]
   show (bif !vU xs[i] ys[i] then _ else _)=_
   cases h:vU xs[i] ys[i] <;> simp) (fun self=>by
   show cb.b0 _ _ _ _=_
   unfold cb.b0
   rw[decide_eq_false (Int.lt_irrefl _),cond_false]
   rfl) k (by omega)
theorem zH (xs ys:List Change) (hx:xs.length<=maxLen):du.ab (xs,ys,())=some (k8 vU xs ys,()):=by
 refine ag (k:=xs.length+1) fun k hk=>(du.aa k _).trans ?_
 unfold du.p k8
 by_cases hl:xs.length=ys.length
 rotate_left
 ·have Y:¬ ((xs.length:Int)=(ys.length:Int)):=by omega
  simp only[hl,Y,decide_false,Bool.not_false,cond_true,Bool.false_and]
 have Y:((xs.length:Int)=(ys.length:Int)):=by omega
 simp only[hl,Y,decide_true,Bool.not_true,cond_false,Bool.true_and]
 exact ge (B:=fun self v=>du.B0 0 self (fun z=>du.Q0 0 (xs,ys,()) z) (xs,ys,()) v) vU hl hx (fun i hi hj self=>by
   show du.b0 _ _ _ _=_
   unfold du.b0
   have aj:(i:Int) < (xs.length:Int):=by omega
   simp only[aj,decide_true,cond_true,Int.natCast_nonneg,if_true,Int.toNat_natCast,List.getElem?_eq_getElem hi,List.getElem?_eq_getElem hj,Option.bind_some]
   show (bif !vU xs[i] ys[i] then _ else _)=_
   cases h:vU xs[i] ys[i] <;> simp) (fun self=>by
   show du.b0 _ _ _ _=_
   unfold du.b0
   rw[decide_eq_false (Int.lt_irrefl _),cond_false]
   rfl) k (by omega)
theorem Hb (xs ys:List Key) (hx:xs.length<=maxLen):cZ.ab (xs,ys,())=some (k8 rC xs ys,()):=by
 refine ag (k:=xs.length+1) fun k hk=>(cZ.aa k _).trans ?_
 unfold cZ.p k8
 by_cases hl:xs.length=ys.length
 rotate_left
 ·have Y:¬ ((xs.length:Int)=(ys.length:Int)):=by omega
  simp only[hl,Y,decide_false,Bool.not_false,cond_true,Bool.false_and]
 have Y:((xs.length:Int)=(ys.length:Int)):=by omega
 simp only[hl,Y,decide_true,Bool.not_true,cond_false,Bool.true_and]
 exact ge (B:=fun self v=>cZ.B0 0 self (fun z=>cZ.Q0 0 (xs,ys,()) z) (xs,ys,()) v) rC hl hx (fun i hi hj self=>by
   show cZ.b0 _ _ _ _=_
   unfold cZ.b0
   have aj:(i:Int) < (xs.length:Int):=by omega
   simp only[aj,decide_true,cond_true,Int.natCast_nonneg,if_true,Int.toNat_natCast,List.getElem?_eq_getElem hi,List.getElem?_eq_getElem hj,Option.bind_some]
   show (bif !rC xs[i] ys[i] then _ else _)=_
   cases h:rC xs[i] ys[i] <;> simp) (fun self=>by
   show cZ.b0 _ _ _ _=_
   unfold cZ.b0
   rw[decide_eq_false (Int.lt_irrefl _),cond_false]
   rfl) k (by omega)
def rD (x y:Int):Bool:=decide (x=y)
theorem Hc (xs ys:List Int) (hx:xs.length<=maxLen):ct.ab (xs,ys,())=some (k8 rD xs ys,()):=by
 refine ag (k:=xs.length+1) fun k hk=>(ct.aa k _).trans ?_
 unfold ct.p k8
 by_cases hl:xs.length=ys.length
 rotate_left
 ·have Y:¬ ((xs.length:Int)=(ys.length:Int)):=by omega
  simp only[hl,Y,decide_false,Bool.not_false,cond_true,Bool.false_and]
 have Y:((xs.length:Int)=(ys.length:Int)):=by omega
 simp only[hl,Y,decide_true,Bool.not_true,cond_false,Bool.true_and]
 exact ge (B:=fun self v=>ct.B0 0 self (fun z=>ct.Q0 0 (xs,ys,()) z) (xs,ys,()) v) rD hl hx (fun i hi hj self=>by
   show ct.b0 _ _ _ _=_
   unfold ct.b0
   have aj:(i:Int) < (xs.length:Int):=by omega
   simp only[aj,decide_true,cond_true,Int.natCast_nonneg,if_true,Int.toNat_natCast,List.getElem?_eq_getElem hi,List.getElem?_eq_getElem hj,Option.bind_some]
   show (bif !rD xs[i] ys[i] then _ else _)=_
   cases h:rD xs[i] ys[i] <;> simp) (fun self=>by
   show ct.b0 _ _ _ _=_
   unfold ct.b0
   rw[decide_eq_false (Int.lt_irrefl _),cond_false]
   rfl) k (by omega)
def qb (x y:Tx):Bool:=decide (x.1=y.1)&&(k8 vU x.2.1 y.2.1&&(k8 rD x.2.2.1 y.2.2.1&&k8 rC x.2.2.2.1 y.2.2.2.1))
def LH (x:Tx):Prop:=List.length x.2.1<=maxLen/\List.length x.2.2.1<=maxLen/\List.length x.2.2.2.1<=maxLen
theorem Ji (x y:Tx) (h:LH x):jc.ab (x,y,())=some (qb x y,()):=by
 refine ag (k:=0) fun k hk=>(jc.aa k _).trans ?_
 unfold jc.p qb
 rw[AN _ _ h.1,Hc _ _ h.2.1,Hb _ _ h.2.2]
 simp only[Option.bind_some]
 cases decide (x.1=y.1) <;> cases k8 vU x.2.1 y.2.1 <;> cases k8 rD x.2.2.1 y.2.2.1 <;> rfl
theorem Jj (k:Nat) (x y:Tx) (h:List.length x.2.2.2.1<=maxLen) (hl:List.length x.2.2.2.1=List.length y.2.2.2.1) (hk:List.length x.2.2.2.1 < k):dv.r1 k (x,y,()) 0=some (gd rC x.2.2.2.1 y.2.2.2.1,()):=
 ge (B:=fun self v=>dv.B1 0 self (fun z=>dv.Q1 0 (x,y,()) z) (x,y,()) v) (xs:=x.2.2.2.1) (ys:=y.2.2.2.1) rC hl h (fun i hi hj self=>by
   show dv.b1 _ _ _ _=_
   unfold dv.b1
   have aj:(i:Int) < (List.length x.2.2.2.1:Int):=by omega
   simp only[aj,decide_true,cond_true,Int.natCast_nonneg,if_true,Int.toNat_natCast,List.getElem?_eq_getElem hi,List.getElem?_eq_getElem hj,Option.bind_some]
   show (bif !rC _ _ then _ else _)=_
   generalize rC _ _=b
   cases b <;> simp) (fun self=>by
   show dv.b1 _ _ _ _=_
   unfold dv.b1
   rw[decide_eq_false (Int.lt_irrefl _),cond_false]
   rfl) k hk
theorem Jk (x y:Tx) (h:LH x):dv.ab (x,y,())=some (qb x y,()):=by
 obtain ⟨h1,Y,h3⟩:=h
 refine ag (k:=List.length x.2.2.1+List.length x.2.2.2.1+1) fun k hk=>(dv.aa k _).trans ?_
 unfold dv.p qb
 rw[zH _ _ h1]
 simp only[Option.bind_some]
 cases Nd:decide (x.1=y.1) with
 | false=>rfl
 | true=>
 cases hc:k8 vU x.2.1 y.2.1 with
 | false=>rfl
 | true=>
 simp only[Bool.not_true,cond_false,Bool.true_and]
 unfold k8
 by_cases hl:List.length x.2.2.1=List.length y.2.2.1
 rotate_left
 ·have e2:¬ ((List.length x.2.2.1:Int)=(List.length y.2.2.1:Int)):=by omega
  simp only[hl,e2,decide_false,Bool.not_false,cond_true,Bool.false_and]
 have e2:((List.length x.2.2.1:Int)=(List.length y.2.2.1:Int)):=by omega
 by_cases hm:List.length x.2.2.2.1=List.length y.2.2.2.1
 rotate_left
 ·have e3:¬ ((List.length x.2.2.2.1:Int)=(List.length y.2.2.2.1:Int)):=by omega
  simp only[hl,hm,e2,e3,decide_true,decide_false,Bool.not_true,Bool.not_false,cond_true,cond_false,Bool.false_and,Bool.and_false]
 have e3:((List.length x.2.2.2.1:Int)=(List.length y.2.2.2.1:Int)):=by omega
 simp only[hl,hm,e2,e3,decide_true,Bool.not_true,cond_false,Bool.true_and]
 have:=br (B:=fun self v=>dv.B0 k self (fun z=>dv.Q0 k (x,y,()) z) (x,y,()) v) x.2.2.1 (fun (_:Unit) (i:Int)=>i) (fun i (_:Unit) a=>sR rD y.2.2.1 (false,()) i a) (fun _=>(gd rC x.2.2.2.1 y.2.2.2.1,())) (fun _ _=>True) Y
  (fun i hi s self _=>by
   show dv.b0 _ _ _ _=_
   unfold dv.b0
   have aj:(i:Int) < (List.length x.2.2.1:Int):=by omega
   have hj:i < List.length y.2.2.1:=by omega
   simp only[aj,decide_true,cond_true,Int.natCast_nonneg,if_true,Int.toNat_natCast,List.getElem?_eq_getElem hi,List.getElem?_eq_getElem hj,Option.bind_some,sR]
   rw[show decide (x.2.2.1[i]=y.2.2.1[i])=rD x.2.2.1[i] y.2.2.1[i] from rfl]
   generalize rD _ _=b
   cases b <;> rfl) (fun _ _ _ _ _ _=>trivial) (fun s self _=>by
   show dv.b0 _ _ _ _=_
   unfold dv.b0
   rw[decide_eq_false (Int.lt_irrefl _),cond_false]
   exact Jj k x y h3 hm (by omega)) () trivial k (by omega)
 have h4:=xr rD ((false,()):Bool×Unit) (gd rC x.2.2.2.1 y.2.2.2.1,()) y.2.2.1 x.2.2.1 [] y.2.2.1 rfl hl
 rw[List.length_nil] at h4
 rw[h4] at this
 refine this.trans ?_
 cases gd rD x.2.2.1 y.2.2.1 <;> rfl
theorem AA {s:fN} (h:Az s):∀ x ∈ (s.2.2.2.1:List Tx),LH x:=fun x hx=>by
 have:=h.2.2.2 x hx
 obtain ⟨h1,Y,h3,_⟩:=this
 refine ⟨?_,?_,?_⟩ <;> rw[ah] <;> omega
theorem Hd (xs ys:List Tx) (hx:xs.length<=maxLen) (h:∀ x ∈ xs,LH x):kq.ab (xs,ys,())=some (k8 qb xs ys,()):=by
 refine ag (k:=0) fun k _=>(kq.aa k _).trans ?_
 unfold kq.p
 have:∀ f:Nat×Int,cc.ab (xs,ys,f,())=some (k8 qb xs ys,()):=fun f=>by
  refine ag (k:=xs.length+1) fun k hk=>(cc.aa k _).trans ?_
  unfold cc.p k8
  by_cases hl:xs.length=ys.length
  rotate_left
  ·have Y:¬ ((xs.length:Int)=(ys.length:Int)):=by omega
   simp only[hl,Y,decide_false,Bool.not_false,cond_true,Bool.false_and]
  have Y:((xs.length:Int)=(ys.length:Int)):=by omega
  simp only[hl,Y,decide_true,Bool.not_true,cond_false,Bool.true_and]
  exact ge (B:=fun self v=>cc.B0 0 self (fun z=>cc.Q0 0 (xs,ys,f,()) z) (xs,ys,f,()) v) qb hl hx (fun i hi hj self=>by
    show cc.b0 _ _ _ _=_
    unfold cc.b0
    have aj:(i:Int) < (xs.length:Int):=by omega
    simp only[aj,decide_true,cond_true,Int.natCast_nonneg,if_true,Int.toNat_natCast,List.getElem?_eq_getElem hi,List.getElem?_eq_getElem hj,Option.bind_some,Ji _ _ (h _ (List.getElem_mem hi))]
    cases h:qb xs[i] ys[i] <;> simp[h]) (fun self=>by
    show cc.b0 _ _ _ _=_
    unfold cc.b0
    rw[decide_eq_false (Int.lt_irrefl _),cond_false]
    rfl) k (by omega)
 rw[this]
 rfl
def y7 (s:fN) (p:Plain):Bool:=
 decide (oZ s=0)&&(decide (mY p=0)&&(s.1&&(decide (s.2.2.2.2.1=p.2.2.1)&&(k8 qb s.2.2.2.1 p.2.1&&k8 pX (kB s.2.1) p.1))))
theorem Du {s:fN} {p:Plain} (hs:Az s) (hp:Do p):jd.ab (s,p,())=some (y7 s p,()):=by
 refine ag (k:=0) fun k _=>(jd.aa k _).trans ?_
 unfold jd.p y7
 rw[Dt hs,vR p hp]
 simp only[Option.bind_some]
 by_cases h0:oZ s=0
 rotate_left
 ·simp only[h0,decide_false,Bool.not_false,cond_true,Bool.false_and]
 by_cases h1:mY p=0
 rotate_left
 ·simp only[h0,h1,decide_false,decide_true,Bool.not_false,Bool.not_true,cond_true,cond_false,Bool.false_and,Bool.and_false]
 simp only[h0,h1,decide_true,Bool.not_true,cond_false,Bool.true_and]
 cases hu:s.1 with
 | false=>rfl
 | true=>
  have hv:=(y6 h0 hu).1
  simp only[Bool.not_true,cond_false,Bool.true_and]
  rw[Dq hv]
  simp only[Option.bind_some]
  rw[Ha _ _ (by have:=xq hv;rw[ah];omega),Hd _ _ (by have:=hs.2.2.1;rw[ah];omega) (AA hs)]
  simp only[Option.bind_some]
  cases k8 pX (kB s.2.1) p.1 <;> cases k8 qb s.2.2.2.1 p.2.1 <;> cases decide (s.2.2.2.2.1=p.2.2.1) <;> rfl
theorem Dv {s:fN} {p:Plain} (hs:Az s) (hp:Do p):cX.ab (s,p,())=some (y7 s p,()):=by
 have Nz:List.length s.2.2.2.1<=1048576:=hs.2.2.1
 refine ag (k:=1048600) fun k hk=>(cX.aa k _).trans ?_
 unfold cX.p y7
 rw[zG hs,vS p hp]
 simp only[Option.bind_some]
 by_cases h0:oZ s=0
 rotate_left
 ·simp only[h0,decide_false,Bool.not_false,cond_true,Bool.false_and]
 by_cases h1:mY p=0
 rotate_left
 ·simp only[h0,h1,decide_false,decide_true,Bool.not_false,Bool.not_true,cond_true,cond_false,Bool.false_and,Bool.and_false]
 simp only[h0,h1,decide_true,Bool.not_true,cond_false,Bool.true_and]
 cases hu:s.1 with
 | false=>rfl
 | true=>
  have hv:=(y6 h0 hu).1
  simp only[Bool.not_true,cond_false,Bool.true_and]
  cases hn:decide (s.2.2.2.2.1=p.2.2.1) with
  | false=>rfl
  | true=>
  simp only[Bool.not_true,cond_false,Bool.true_and]
  have e0:k8 qb s.2.2.2.1 p.2.1=(decide (List.length s.2.2.2.1=List.length p.2.1)&&gd qb s.2.2.2.1 p.2.1):=rfl
  rw[e0]
  by_cases hl:List.length s.2.2.2.1=List.length p.2.1
  rotate_left
  ·have e2:¬ ((List.length s.2.2.2.1:Int)=(List.length p.2.1:Int)):=by omega
   simp only[hl,e2,decide_false,Bool.not_false,cond_true,Bool.false_and]
  have e2:((List.length s.2.2.2.1:Int)=(List.length p.2.1:Int)):=by omega
  simp only[hl,e2,decide_true,Bool.not_true,cond_false,Bool.true_and]
  have:=br (B:=fun self v=>cX.B0 k self (fun z=>cX.Q0 k (s,p,()) z) (s,p,()) v) s.2.2.2.1 (fun (_:Unit) (i:Int)=>i) (fun i (_:Unit) a=>sR qb p.2.1 (false,()) i a) (fun _=>(k8 pX (kB s.2.1) p.1,())) (fun _ _=>True) (by rw[ah];omega)
   (fun i hi u self _=>by
    show cX.b0 _ _ _ _=_
    unfold cX.b0
    have aj:(i:Int) < (List.length s.2.2.2.1:Int):=by omega
    have hj:i < List.length p.2.1:=by omega
    simp only[aj,decide_true,cond_true,Int.natCast_nonneg,if_true,Int.toNat_natCast,List.getElem?_eq_getElem hi,List.getElem?_eq_getElem hj,Option.bind_some,sR,Jk _ _ (AA hs _ (List.getElem_mem hi))]
    generalize qb _ _=b
    cases b <;> rfl) (fun _ _ _ _ _ _=>trivial) (fun u self _=>by
    show cX.b0 _ _ _ _=_
    unfold cX.b0
    rw[decide_eq_false (Int.lt_irrefl _),cond_false]
    show cX.q0 _ _=_
    unfold cX.q0
    rw[uC hv]
    simp only[Option.bind_some]
    rw[En _ _ (by have:=xq hv;rw[ah];omega)]
    rfl) () trivial k (by omega)
  have h4:=xr qb ((false,()):Bool×Unit) (k8 pX (kB s.2.1) p.1,()) p.2.1 s.2.2.2.1 [] p.2.1 rfl hl
  rw[List.length_nil] at h4
  rw[h4] at this
  refine this.trans ?_
  cases gd qb s.2.2.2.1 p.2.1 <;> rfl
theorem zI (v:bK.Arg) (hv:In bK.ps v):bK.ab v=some (true,()):=by
 obtain ⟨s,p,⟨⟩⟩:=v
 obtain ⟨Oa,Ob,_⟩:=hv
 refine ag (k:=0) fun k _=>(bK.aa k _).trans ?_
 show bK.p _=_
 unfold bK.p
 simp only[Gt s 1048576 Oa (show (0:Int)<=1048576 by omega) (by omega),Option.bind_some]
 by_cases ur:((zz co s:Nat):Int)<=1048576
 rotate_left
 ·have:bH (1048576) (zz co s)=-1:=if_neg ur
  simp only[this]
  rfl
 have e1:bH (1048576) (zz co s)=1048576 - ((zz co s:Nat):Int):=if_pos ur
 have n1:¬ (1048576 - ((zz co s:Nat):Int) < 0):=by omega
 simp only[e1,n1,decide_false,cond_false,Gx p _ Ob (show (0:Int)<=1048576 - ((zz co s:Nat):Int) by omega) (by omega),Option.bind_some]
 by_cases vd:((zz dI p:Nat):Int)<=1048576 - ((zz co s:Nat):Int)
 rotate_left
 ·have:bH (1048576 - ((zz co s:Nat):Int)) (zz dI p)=-1:=if_neg vd
  simp only[this]
  rfl
 have e2:bH (1048576 - ((zz co s:Nat):Int)) (zz dI p)=1048576 - ((zz co s:Nat):Int) - ((zz dI p:Nat):Int):=if_pos vd
 have n2:¬ (1048576 - ((zz co s:Nat):Int) - ((zz dI p:Nat):Int) < 0):=by omega
 have h1:Az s:=Kw Oa (by omega)
 have Y:Do p:=Dp (p:=p) Ob (by omega)
 simp only[e2,n2,decide_false,cond_false,Gu s (by omega),Gy p (by omega),Dv h1 Y,Du h1 Y,CK s (by omega),CL p (by omega),Option.bind_some,beq_self_eq_true,Bool.not_true,decide_true,cond_true]
end OT
namespace Go.Proofs.YtledflocbohofaaGreat.sameStory
open Go Go.ChangeShapes Go.WideShapes Go.ChangeAt Go.RowKit
theorem own:ownKnob Tryz.prog.godebug=none:=by kernel_rfl
theorem laidOut:laidOutB Tryz.prog=true:=by kernel_rfl
theorem FZ:∀ v,OT.In OT.bK.ps v->∃ u,OT.bK.ab v=some (true,u):=fun v hv=>⟨(),OT.zI v hv⟩
theorem Dw {H:Type} {enc:TypeId×Value->H} {P:Program} {w:World} {base:Nat} {sp:Nat->Bool} {held:Bool}:∀ (ts:List TypeId) (vs:List Value) (ds:List (DataW H)) (ps:List MemPlace),DataW.TrodAll enc P w base sp held ts vs ds ps->ds.length=ts.length
 | [],[],[],_,_=>rfl
 | _::ts,_::vs,_::ds,_,⟨_,q,_,h,_⟩=>congrArg (·+1) (Dw ts vs ds q h)
 | [],_::_,_,_,h=>h.elim
 | [],[],_::_,_,h=>h.elim
 | _::_,[],_,_,h=>h.elim
 | _::_,_::_,[],_,h=>h.elim
set_option maxRecDepth 100000 in
theorem lifted (os:Os) (started:os.Started) (H:Type) (enc:TypeId×Value->H) :
  ReturnsInHanded {} Tryz.checked os 4 .any (Rows.fnExactSameStorySpec.pre6 enc Tryz.prog Tryz.f4 Rows.fnExactSameStoryRow.domain false) (Rows.fnExactSameStorySpec.post enc Tryz.prog Tryz.f4 false true false false):=by
 refine returnsInHanded_of_change (C:=Tryz.checked) own started (by kernel_rfl) Tryz.func4
  (ChangeSpec.witness6 (enc:=enc) (C:=Tryz.checked) false ⟨#[],#[.agg #[.bool false,.slice none 0 0,.slice none 0 0,.slice none 0 0,.slice none 0 0,.int .i64 0],.agg #[.slice none 0 0,.slice none 0 0,.int .i64 0]],[]⟩ 8 (by kernel_rfl) (by kernel_rfl) (by kernel_rfl) (by kernel_rfl)) ?_
 intro W base args ds gs before O6 hW Tr _
 have BK:∀ (j:Nat) t v,Tryz.f4.params[j]?=some t->args[j]?=some v->Value.okWide Tryz.prog W .any base t v:=O6
 have Qb:=hW
 obtain ⟨p,q,zW,hV,rfl,TQ,lG⟩:=hW
 have hA:DataW.TrodAll enc Tryz.prog W 0 (fun _=>true) true Tryz.f4.params.toList args.toList ds p:=zW
 obtain ⟨rfl,rfl⟩:=trodVars_none hV
 simp only[List.append_nil] at Qb
 have hl:OT.rO Tryz.prog OT.bK.ps Tryz.f4.params.toList=true:=by kernel_rfl
 have hc:=OT.Iq (enc:=enc) (cap:=false) (ps:=OT.bK.ps) (Fn:=OT.bK.ab) OT.bK.ok.1 FZ hl hA (b0:=base) (fun j t v ht hv=>BK j t v (by simpa using ht) (by simpa using hv))
 simp only[Array.toArray_toList] at hc
 refine hc.mono fun e W' ⟨he,hb⟩=>?_
 refine ⟨_,he,OT.JQ (C:=Tryz.checked) laidOut rfl hl (by kernel_rfl) Tryz.underlying4 rfl Qb hA ?_ hb⟩
 have hlen:ds.length=2:=Dw _ _ _ _ hA
 match ds,hlen with
 | [d1,d2],_=>rfl
set_option maxHeartbeats 8000000 in
theorem closed:joinedFacts Tryz.prog 4 Tryz.f4 Rows.fnExactSameStorySpec Rows.fnExactSameStoryRow=true:=by
 unfold joinedFacts
 simp only[Bool.and_eq_true]
 repeat' apply And.intro
 all_goals (as_aux_lemma=>kernel_rfl)
theorem lc:Rows.fnExactSameStoryRow.holds Tryz.pinned (OpenSpec.ofChange Rows.fnExactSameStorySpec):=
 OpenClaim.holds_of_wide 4 Tryz.f4 rfl rfl rfl rfl rfl rfl rfl ⟨rfl,rfl,rfl,rfl,rfl⟩ rfl rfl rfl rfl rfl (by kernel_rfl) Tryz.func4 closed
  (of_decide_eq_true (by kernel_rfl)) (by unfold Func.isWrapper;first | (rw[if_pos (by decide +kernel)];kernel_rfl) | (rw[if_neg (by decide +kernel)];exact ⟨rfl,rfl⟩))
  (fun os started H enc _=>lifted os started H enc)
theorem proved:Rows.FnExactSameStorySaid:=lc
#print axioms proved
end Go.Proofs.YtledflocbohofaaGreat.sameStory
