/- FnExactRowsOf: the row; no conditions. -/
import Derived.Test.YtledflocbohofaaGreatSg
import Derived.Test.YtledflocbohofaaGreatRows
set_option linter.unusedVariables false
set_option linter.unusedSimpArgs false
namespace OT
open Go
theorem sW {d:List UInt8} {r:aM} {n:Nat} (h:k_ d=some (r,n)):7<=n/\n<=d.length/\ma r=0:=by
 unfold k_ at h
 split at h
 ·cases h
 ·rename_i hc
  split at h
  ·cases h
  ·split at h
   ·rename_i hh
    injection h with h
    injection h with h1 Y
    subst h1
    omega
   ·cases h
theorem Jf:k_ []=none:=rfl
def eu:Nat->List UInt8->List aM×Nat
 | 0,_=>([],0)
 | k+1,d=>match k_ d with
  | none=>([],0)
  | some (r,n)=>(r::(eu k (d.drop n)).1,n+(eu k (d.drop n)).2)
theorem mo:∀ (k k':Nat) (d:List UInt8),d.length < k->d.length < k'->eu k d=eu k' d
 | 0,_,_,h,_=>by omega
 | _+1,0,_,_,h=>by omega
 | k+1,k'+1,d,h,h'=>by
  simp only[eu]
  cases hr:k_ d with
  | none=>rfl
  | some q=>
   obtain ⟨r,n⟩:=q
   have hn:=sW hr
   have:(d.drop n).length=d.length - n:=List.length_drop
   simp only
   rw[mo k k' (d.drop n) (by omega) (by omega)]
def mf (d:List UInt8):List aM×Nat:=eu (d.length+1) d
theorem uk (d:List UInt8) (hd:d.length<=1048576):fi.ab (d,())=some ((mf d).1,((mf d).2:Int),()):=by
 refine ag (k:=1048578) fun k hk=>(fi.aa k _).trans ?_
 have key:∀ (m a:Nat) (acc:List aM),d.length - a=m->a<=d.length->acc.length<=a->∀ j,m < j ->
   ak (fun self v=>fi.B0 k self (d,()) v) j (acc,(a:Int))=some (acc++(eu (m+1) (d.drop a)).1,((a+(eu (m+1) (d.drop a)).2:Nat):Int),()):=by
  intro m
  induction m using Nat.strongRecOn with
  | ind m ih=>
  intro a acc hm ha Ry j hj
  cases j with
  | zero=>omega
  | succ j=>
   show fi.b0 _ _ _=_
   unfold fi.b0
   have dM:(0:Int)<=(a:Int)/\(a:Int)<=(d.length:Int):=by omega
   simp only[dM,and_self,if_true,Int.toNat_natCast,List.take_length]
   rw[Ei _ (by simp;omega)]
   simp only[Option.bind_some,eu]
   cases hr:k_ (d.drop a) with
   | none=>simp only[decide_true,cond_true,List.append_nil,Nat.add_zero];try rfl
   | some q=>
    obtain ⟨r,n⟩:=q
    have hn:=sW hr
    have hl:(d.drop a).length=d.length - a:=List.length_drop
    have h0:¬ ((n:Int)=0):=by omega
    have hc:acc.length+[r].length<=bg:=cD (by simp only[List.length_cons,List.length_nil];omega)
    have ew:ae ((a:Int)+(n:Int))=((a+n:Nat):Int):=by rw[aJ (by omega)];omega
    simp only[h0,decide_false,cond_false,hc,if_true,ew]
    have:=ih (d.length - (a+n)) (by omega) (a+n) (acc++[r]) rfl (by omega) (by simp;omega) j (by omega)
    refine Eq.trans this ?_
    have rS:(d.drop a).drop n=d.drop (a+n):=by rw[List.drop_drop]
    have oh:(d.drop (a+n)).length=d.length - (a+n):=List.length_drop
    rw[rS,mo m (d.length - (a+n)+1) (d.drop (a+n)) (by omega) (by omega)]
    simp only[List.append_assoc,List.cons_append,List.nil_append,Nat.add_assoc]
 have:=key d.length 0 [] rfl (by omega) (Nat.le_refl _) k (by omega)
 simp only[List.drop_zero,List.nil_append,Nat.zero_add] at this
 exact this
theorem ul (d:List UInt8) (hd:d.length<=1048576):dv.ab (d,())=some ((mf d).1,((mf d).2:Int),()):=by
 refine ag (k:=1048578) fun k hk=>(dv.aa k _).trans ?_
 have key:∀ (m a:Nat) (acc:List aM),d.length - a=m->a<=d.length->acc.length<=a->∀ j,m < j ->
   ak (fun self v=>dv.B0 k self (fun z=>dv.Q0 k (d,()) z) (d,()) v) j (acc,(a:Int))=some (acc++(eu (m+1) (d.drop a)).1,((a+(eu (m+1) (d.drop a)).2:Nat):Int),()):=by
  intro m
  induction m using Nat.strongRecOn with
  | ind m ih=>
  intro a acc hm ha Ry j hj
  cases j with
  | zero=>omega
  | succ j=>
   show dv.b0 _ _ (d,()) _=_
   unfold dv.b0
   by_cases aj:a < d.length
   rotate_left
   ·have h1:¬ (a:Int) < (d.length:Int):=by omega
    have Y:d.drop a=[]:=List.drop_of_length_le (by omega)
    simp only[h1,decide_false,cond_false,dv.Q0,dv.q0,Y,eu,Jf,List.append_nil,Nat.add_zero]
    try rfl
   have nS:(a:Int) < (d.length:Int):=by omega
   have dM:(0:Int)<=(a:Int)/\(a:Int)<=(d.length:Int):=by omega
   simp only[nS,decide_true,cond_true,dM,and_self,if_true,Int.toNat_natCast,List.take_length]
   rw[Ej _ (by simp;omega)]
   simp only[Option.bind_some,eu]
   cases hr:k_ (d.drop a) with
   | none=>
    have h5:¬ ((5:Int)=0):=by omega
    simp only[h5,decide_false,Bool.not_false,cond_true,List.append_nil,Nat.add_zero,dv.Q0,dv.q0];try rfl
   | some q=>
    obtain ⟨r,n⟩:=q
    have hn:=sW hr
    have hl:(d.drop a).length=d.length - a:=List.length_drop
    have hc:acc.length+[r].length<=bg:=cD (by simp only[List.length_cons,List.length_nil];omega)
    have ew:ae ((a:Int)+(n:Int))=((a+n:Nat):Int):=by rw[aJ (by omega)];omega
    simp only[decide_true,Bool.not_true,cond_false,hc,if_true,ew]
    have:=ih (d.length - (a+n)) (by omega) (a+n) (acc++[r]) rfl (by omega) (by simp;omega) j (by omega)
    refine Eq.trans this ?_
    have rS:(d.drop a).drop n=d.drop (a+n):=by rw[List.drop_drop]
    have oh:(d.drop (a+n)).length=d.length - (a+n):=List.length_drop
    rw[rS,mo m (d.length - (a+n)+1) (d.drop (a+n)) (by omega) (by omega)]
    simp only[List.append_assoc,List.cons_append,List.nil_append,Nat.add_assoc]
 have:=key d.length 0 [] rfl (by omega) (Nat.le_refl _) k (by omega)
 simp only[List.drop_zero,List.nil_append,Nat.zero_add] at this
 exact this
def LW (l:Log):Prop:=List.length l.1<=1048576/\List.length l.2.1<=1048576
def lc (d:List UInt8):Bool:=decide ((mf d).2=d.length)
def o7 (l:Log):Int:=if 16000 < List.length l.1+List.length l.2.1 then 2 else if lc l.1&&lc l.2.1 then 0 else 5
theorem Ay (d:List UInt8):decide (((mf d).2:Int)=(d.length:Int))=lc d:=by
 unfold lc
 by_cases h:(mf d).2=d.length
 ·simp[h]
 ·have:¬ ((mf d).2:Int)=(d.length:Int):=by omega
  simp[h,this]
theorem G5 (l:Log) (h:LW l):jr.ab (l,())=some (o7 l,()):=by
 refine ag (k:=0) fun k _=>(jr.aa k _).trans ?_
 show jr.p _=_
 unfold jr.p o7
 obtain ⟨h1,Y⟩:=h
 have ew:ae ((List.length l.1:Int)+(List.length l.2.1:Int))=((List.length l.1+List.length l.2.1:Nat):Int):=by rw[aJ (by omega)];omega
 simp only[ew,ul _ h1,ul _ Y,Option.bind_some,Ay]
 by_cases hc:16000 < List.length l.1+List.length l.2.1
 ·have:(16000:Int) < ((List.length l.1+List.length l.2.1:Nat):Int):=by omega
  simp only[this,hc,decide_true,cond_true,if_true]
  try rfl
 ·have:¬ (16000:Int) < ((List.length l.1+List.length l.2.1:Nat):Int):=by omega
  simp only[this,hc,decide_false,cond_false,if_false]
  cases lc l.1 <;> cases lc l.2.1 <;> rfl
theorem size_eq (l:Log) (h:LW l):iM.ab (l,())=some (((List.length l.1+List.length l.2.1:Nat):Int),()):=by
 refine ag (k:=0) fun k _=>(iM.aa k _).trans ?_
 show iM.p _=_
 unfold iM.p
 obtain ⟨h1,Y⟩:=h
 have ew:ae ((List.length l.1:Int)+(List.length l.2.1:Int))=((List.length l.1+List.length l.2.1:Nat):Int):=by rw[aJ (by omega)];omega
 rw[ew]
 try rfl
theorem G6 (l:Log) (h:LW l):c_.ab (l,())=some (o7 l,()):=by
 refine ag (k:=5) fun k hk=>(c_.aa k _).trans ?_
 unfold c_.p o7
 rw[size_eq l h]
 have hl:∀ x ∈ [l.1,l.2.1],List.length x<=1048576:=by
  intro x hx
  simp only[List.mem_cons,List.not_mem_nil,or_false] at hx
  rcases hx with e | e <;> subst e
  ·exact h.1
  ·exact h.2
 have:=bC (B:=fun self v=>c_.B0 0 self (fun z=>c_.Q0 0 (l,()) z) (l,()) v) [l.1,l.2.1] (fun (_:Unit) (i:Int)=>i) (fun _ _ x=>if lc x then .inr () else .inl (5,())) (fun _=>(0,())) (fun _ _=>True) (by rw[ah];simp)
  (fun i hi s self hI=>by
   show c_.b0 _ _ _ _=_
   unfold c_.b0
   have aj:(i:Int) < ([l.1,l.2.1].length:Int):=by omega
   have dM:(0:Int)<=(i:Int)/\(i:Int) < ([l.1,l.2.1].length:Int):=by omega
   simp only[aj,dM,and_self,decide_true,cond_true,if_true,Int.toNat_natCast,List.getElem?_eq_getElem hi,Option.bind_some]
   have hx:=hl [l.1,l.2.1][i] (List.getElem_mem hi)
   generalize [l.1,l.2.1][i]=x at hx
   rw[uk x hx]
   simp only[Option.bind_some,Ay]
   cases lc x <;> rfl)
  (fun _ _ _ _ _ _=>trivial) (fun s self _=>by
   show c_.b0 _ _ _ _=_
   unfold c_.b0
   simp[c_.Q0,c_.q0]) () trivial k (by simp only[List.length_cons,List.length_nil];omega)
 rw[kO lc (5,()) (fun _=>(0,()))] at this
 have this:c_.r0 k (l,()) 0=_:=this
 simp only[Option.bind_some,this]
 by_cases hc:16000 < List.length l.1+List.length l.2.1
 ·have:(16000:Int) < ((List.length l.1+List.length l.2.1:Nat):Int):=by omega
  simp only[this,hc,decide_true,cond_true,if_true]
 ·have:¬ (16000:Int) < ((List.length l.1+List.length l.2.1:Nat):Int):=by omega
  simp only[this,hc,decide_false,cond_false,if_false,List.all_cons,List.all_nil,Bool.and_true]
  cases lc l.1 <;> cases lc l.2.1 <;> rfl
end OT
set_option linter.unusedVariables false
set_option linter.unusedSimpArgs false
namespace OT
open Go
theorem G7:fj.ab ((0:UInt8),())=some (tW,()):=by
 refine ag (k:=66) fun k hk=>(fj.aa k _).trans ?_
 unfold fj.p
 have:=bC (B:=fun self v=>fj.B0 0 self (fun z=>fj.Q0 0 ((0:UInt8),()) z) ((0:UInt8),()) v) (List.replicate 64 (0:UInt8)) (fun (s:List UInt8) (i:Int)=>(s,i)) (fun _ s _=>.inr s) (fun s=>(tW,())) (fun _ s=>s=List.replicate 64 (0:UInt8)) (by rw[ah];simp)
  (fun i hi s self hI=>by
   show fj.b0 _ _ _ _=_
   unfold fj.b0
   subst hI
   simp only[List.length_replicate] at hi ⊢
   have aj:(i:Int) < ((64:Nat):Int):=by omega
   have dM:(0:Int)<=(i:Int)/\(i:Int) < ((64:Nat):Int):=by omega
   have hg:(List.replicate 64 (0:UInt8))[i]?=some 0:=(List.getElem?_replicate (n:=64) (i:=i) (a:=(0:UInt8))).trans (if_pos hi)
   have hs:(List.replicate 64 (0:UInt8)).set i 0=List.replicate 64 (0:UInt8):=List.set_replicate_self
   simp only[aj,dM,and_self,decide_true,cond_true,if_true,Int.toNat_natCast,hg,Option.bind_some,hs])
  (fun i hi s s' hI hs=>by injection hs with hs;rw[<-hs,hI]) (fun s self hI=>by
   show fj.b0 _ _ _ _=_
   unfold fj.b0
   subst hI
   simp only[List.length_replicate,Int.lt_irrefl,decide_false,cond_false]
   rfl) (List.replicate 64 (0:UInt8)) rfl k (by simp;omega)
 rw[ei (g:=fun s _=>s)] at this
 have hc:(0:Int)<=64/\(64:Int)<=64/\(64:Int)<=(bg:Int):=⟨by omega,by omega,by simp only[bg];omega⟩
 rw[if_pos hc]
 exact this
theorem G8:gx.ab ((0:UInt8),())=some (tW,()):=by
 refine ag (k:=66) fun k hk=>(gx.aa k _).trans ?_
 unfold gx.p
 have:=bC (B:=fun self v=>gx.B0 0 self (fun z=>gx.Q0 0 ((0:UInt8),()) z) ((0:UInt8),()) v) (List.replicate 64 (0:UInt8)) (fun (s:List UInt8) (i:Int)=>(s,i)) (fun _ s _=>.inr s) (fun s=>(tW,())) (fun _ s=>s=List.replicate 64 (0:UInt8)) (by rw[ah];simp)
  (fun i hi s self hI=>by
   show gx.b0 _ _ _ _=_
   unfold gx.b0
   subst hI
   simp only[List.length_replicate] at hi ⊢
   have aj:(i:Int) < (64:Int):=by omega
   have dM:(0:Int)<=(i:Int)/\(i:Int) < ((64:Nat):Int):=by omega
   have hg:(List.replicate 64 (0:UInt8))[i]?=some 0:=(List.getElem?_replicate (n:=64) (i:=i) (a:=(0:UInt8))).trans (if_pos hi)
   have hs:(List.replicate 64 (0:UInt8)).set i 0=List.replicate 64 (0:UInt8):=List.set_replicate_self
   simp only[aj,dM,and_self,decide_true,cond_true,if_true,Int.toNat_natCast,hg,Option.bind_some,hs])
  (fun i hi s s' hI hs=>by injection hs with hs;rw[<-hs,hI]) (fun s self hI=>by
   show gx.b0 _ _ _ _=_
   unfold gx.b0
   subst hI
   have:¬ (((64:Nat):Int) < 64):=by omega
   simp only[List.length_replicate,this,decide_false,cond_false]
   rfl) (List.replicate 64 (0:UInt8)) rfl k (by simp;omega)
 rw[ei (g:=fun s _=>s)] at this
 have hc:(0:Int)<=64/\(64:Int)<=64/\(64:Int)<=(bg:Int):=⟨by omega,by omega,by simp only[bg];omega⟩
 rw[if_pos hc]
 exact this
end OT
set_option linter.unusedVariables false
set_option linter.unusedSimpArgs false
namespace OT
open Go
def G9 (p:List UInt8) (r:cE):List UInt8:=lh p r.1.toNat (min (List.length r.2.1) (p.length - r.1.toNat)) r.2.1
def yY (p:List UInt8) (rs:List cE):List UInt8:=rs.foldl G9 p
theorem xr {p:List UInt8} {r:cE} (h:r.1.toNat<=p.length):(G9 p r).length=p.length:=ww _ _ (by omega) (by omega)
theorem yZ:∀ (rs:List cE) (p:List UInt8),p.length=64->(∀ r ∈ rs,0<=r.1/\r.1<=63)->(yY p rs).length=64
 | [],p,h,_=>h
 | r::rs,p,h,hr=>by
  have:=hr r (by simp)
  exact yZ rs _ (by rw[xr (by omega)];exact h) (fun x hx=>hr x (by simp[hx]))
theorem zL (p:List UInt8) (rs:List cE) (hp:p.length=64) (hl:rs.length<=64) (hr:∀ r ∈ rs,0<=r.1/\r.1<=63):eF.ab (p,rs,())=some (yY p rs,()):=by
 refine ag (k:=66) fun k hk=>(eF.aa k _).trans ?_
 unfold eF.p
 rw[uC _ (by show p.length<=_;omega)]
 have:=bC (B:=fun self v=>eF.B0 0 self (fun z=>eF.Q0 0 (p,rs,()) z) (p,rs,()) v) rs (fun (s:List UInt8) (i:Int)=>(s,i)) (fun _ s r=>.inr (G9 s r)) (fun s=>(s,())) (fun _ s=>s.length=64) (by rw[ah];omega)
  (fun i hi s self hI=>by
   show eF.b0 _ _ _ _=_
   unfold eF.b0
   have aj:(i:Int) < (rs.length:Int):=by omega
   have hx:=hr rs[i] (List.getElem_mem hi)
   have dM:(0:Int)<=(rs[i]).1/\(rs[i]).1<=(s.length:Int):=by omega
   simp only[aj,decide_true,cond_true,Int.natCast_nonneg,if_true,Int.toNat_natCast,List.getElem?_eq_getElem hi,Option.bind_some,dM,and_self]
   rfl)
  (fun i hi s s' hI hs=>by
   injection hs with hs
   have hx:=hr rs[i] (List.getElem_mem hi)
   rw[<-hs,xr (by omega)];exact hI) (fun s self hI=>by
   show eF.b0 _ _ _ _=_
   unfold eF.b0
   simp only[Int.lt_irrefl,decide_false,cond_false]
   rfl) p hp k (by omega)
 rw[ei] at this
 exact this
theorem zM (p:List UInt8) (rs:List cE) (hp:p.length=64) (hl:rs.length<=64) (hr:∀ r ∈ rs,0<=r.1/\r.1<=63):eC.ab (p,rs,())=some (yY p rs,()):=by
 refine ag (k:=66) fun k hk=>(eC.aa k _).trans ?_
 unfold eC.p
 rw[pD _ (by show p.length<=_;omega)]
 have:=bC (B:=fun self v=>eC.B0 0 self (fun z=>eC.Q0 0 (p,rs,()) z) (p,rs,()) v) rs (fun (s:List UInt8) (i:Int)=>(s,i)) (fun _ s r=>.inr (G9 s r)) (fun s=>(s,())) (fun _ s=>s.length=64) (by rw[ah];omega)
  (fun i hi s self hI=>by
   show eC.b0 _ _ _ _=_
   unfold eC.b0
   have aj:(i:Int) < (rs.length:Int):=by omega
   have hx:=hr rs[i] (List.getElem_mem hi)
   have dM:(0:Int)<=(rs[i]).1/\(rs[i]).1<=(s.length:Int):=by omega
   simp only[aj,decide_true,cond_true,Int.natCast_nonneg,if_true,Int.toNat_natCast,List.getElem?_eq_getElem hi,Option.bind_some,dM,and_self]
   rfl)
  (fun i hi s s' hI hs=>by
   injection hs with hs
   have hx:=hr rs[i] (List.getElem_mem hi)
   rw[<-hs,xr (by omega)];exact hI) (fun s self hI=>by
   show eC.b0 _ _ _ _=_
   unfold eC.b0
   simp only[Int.lt_irrefl,decide_false,cond_false]
   rfl) p hp k (by omega)
 rw[ei] at this
 exact this
theorem KF (ps:gc) (h:ps.length<=12):fB.ab (ps,())=some (ps,()):=by
 refine ag (k:=0) fun k _=>(fB.aa k _).trans ?_
 show fB.p _=_
 unfold fB.p
 refine E2 (fun e=>by rw[show ps=[] from e]) ?_
 have:([]:List (List UInt8)).length+ps.length<=bg:=cD (by simp only[List.length_nil];omega)
 rw[if_pos this,List.nil_append]
def xt (q:gc) (r:aM):gc:=q.set r.2.2.1.toNat (yY (q.getD r.2.2.1.toNat []) r.2.2.2.1)
def iX (ps:gc) (r:aM):Sum Int gc:=
 if ma r=0 then (if cz r.1 2 4 then (if (ps.length:Int) < r.2.2.1 then .inl 1 else .inr (xt (if r.2.2.1=(ps.length:Int) then ps++[tW] else ps) r)) else .inr ps) else .inl (ma r)
theorem vS {ps:gc} {r:aM} {c:Int} (h:iX ps r=.inl c):c≠0:=by
 unfold iX at h
 split at h
 ·split at h
  ·split at h
   ·injection h with h;subst h;decide
   ·cases h
  ·cases h
 ·rename_i hr
  injection h with h;subst h;exact hr
theorem Az {q:gc} {r:aM} (hq:gp q) (hr:ma r=0) (hp:r.2.2.1.toNat < q.length):gp (xt q r):=by
 have hg:=oA hr
 refine ⟨by simp[xt];exact hq.1,fun p hm=>?_⟩
 rcases List.mem_or_eq_of_mem_set hm with h | h
 ·exact hq.2 p h
 ·subst h
  have hx:q.getD r.2.2.1.toNat []=q[r.2.2.1.toNat]:=by simp[hp]
  rw[hx]
  exact yZ _ _ (hq.2 _ (List.getElem_mem hp)) (fun x hx=>by have:=hg.2.2.2.2.2.2.2 x hx;omega)
theorem um {ps mp:gc} {r:aM} (hp:gp ps) (h:iX ps r=.inr mp):gp mp:=by
 unfold iX at h
 split at h
 ·rename_i hr
  have hg:=oA hr
  split at h
  ·split at h
   ·cases h
   ·rename_i hl
    injection h with h
    subst h
    split
    ·rename_i he
     refine Az ⟨by simp;omega,fun p hm=>?_⟩ hr (by simp;omega)
     rcases List.mem_append.1 hm with hm | hm
     ·exact hp.2 p hm
     ·simp only[List.mem_singleton] at hm;subst hm;exact xj
    ·rename_i he
     exact Az hp hr (by omega)
  ·injection h with h;subst h;exact hp
 ·cases h
theorem y5 (ps:gc) (r:aM) (hp:gp ps) (hr:ma r=0):gM.ab (ps,r,())=some (match iX ps r with | .inl c=>(([]:gc),c,()) | .inr mp=>(mp,(0:Int),())):=by
 refine ag (k:=0) fun k _=>(gM.aa k _).trans ?_
 show gM.p _=_
 have hg:=oA hr
 unfold gM.p iX
 simp only[Dh,hr,if_true,Option.bind_some]
 cases ht:cz r.1 2 4 with
 | false=>rfl
 | true=>
  simp only[Bool.not_true,cond_false,if_true]
  by_cases hl:(ps.length:Int) < r.2.2.1
  ·simp only[hl,decide_true,cond_true,if_true]
  have BE:¬ r.2.2.1=12:=by omega
  simp only[hl,BE,decide_false,cond_false,if_false,KF ps hp.1,Option.bind_some]
  have key:∀ q:gc,gp q->r.2.2.1.toNat < q.length->(if 0<=r.2.2.1/\r.2.2.1 < (q.length:Int) then ((q[r.2.2.1.toNat]?).bind fun N_=>(eF.ab (N_,r.2.2.2.1,())).bind fun Aj=>if 0<=r.2.2.1/\r.2.2.1 < (q.length:Int) then ((q[r.2.2.1.toNat]?).bind fun Tl=>some (q.set r.2.2.1.toNat Aj.1,(0:Int),())) else none) else none:Option gM.Out)=some (xt q r,(0:Int),()):=fun q hq aj=>by
   have hc:0<=r.2.2.1/\r.2.2.1 < (q.length:Int):=by omega
   simp only[hc,and_self,if_true,List.getElem?_eq_getElem aj,Option.bind_some]
   rw[zL _ _ (hq.2 _ (List.getElem_mem aj)) hg.2.2.2.2.2.2.1 (fun x hx=>by have:=hg.2.2.2.2.2.2.2 x hx;omega)]
   have hx:q.getD r.2.2.1.toNat []=q[r.2.2.1.toNat]:=by simp[aj]
   unfold xt
   rw[hx]
   rfl
  by_cases he:r.2.2.1=(ps.length:Int)
  ·have yr:ps.length+[tW].length<=bg:=cD (by have:=hp.1;simp only[List.length_cons,List.length_nil];omega)
   rw[if_pos he]
   simp only[he,decide_true,cond_true,G7,Option.bind_some,yr,if_true]
   rw[<-he]
   refine key _ ⟨by simp;omega,fun p hm=>?_⟩ (by simp;omega)
   rcases List.mem_append.1 hm with hm | hm
   ·exact hp.2 p hm
   ·simp only[List.mem_singleton] at hm;subst hm;exact xj
  ·rw[if_neg he]
   simp only[he,decide_false,cond_false]
   exact key ps hp (by omega)
theorem Ek (c:Int):jl.ab (c,())=some ((c,([]:List cE),([]:List (List UInt8)),()),()):=by
 refine ag (k:=0) fun k _=>(jl.aa k _).trans ?_
 rfl
theorem AU (ps:gc) (r:aM) (hp:gp ps):bL.ab (ps,r,())=some (match iX ps r with | .inl c=>((c,([]:List cE),([]:gc),()),()) | .inr mp=>(((0:Int),([]:List cE),mp,()),())):=by
 refine ag (k:=14) fun k hk=>(bL.aa k _).trans ?_
 unfold bL.p
 have BE:¬ (12:Int) < (ps.length:Int):=by have:=hp.1;omega
 simp only[BE,decide_false,cond_false]
 have main:bL.Q0 0 (ps,r,()) ()=some (match iX ps r with | .inl c=>((c,([]:List cE),([]:gc),()),()) | .inr mp=>(((0:Int),([]:List cE),mp,()),())):=by
  show bL.q0 _ _=_
  unfold bL.q0 iX
  simp only[yV,Ek,AS ps hp,vO,Option.bind_some]
  by_cases hr:ma r=0
  rotate_left
  ·simp only[hr,decide_false,Bool.not_false,cond_true,if_false]
  have hg:=oA hr
  simp only[hr,decide_true,Bool.not_true,cond_false,if_true]
  cases ht:cz r.1 2 4 with
  | false=>rfl
  | true=>
   simp only[Bool.not_true,cond_false,if_true]
   by_cases hl:(ps.length:Int) < r.2.2.1
   ·simp only[hl,decide_true,cond_true,if_true]
   have BE:¬ r.2.2.1=12:=by omega
   simp only[hl,BE,decide_false,cond_false,if_false]
   have key:∀ q:gc,gp q->r.2.2.1.toNat < q.length->(if 0<=r.2.2.1/\r.2.2.1 < (q.length:Int) then ((q[r.2.2.1.toNat]?).bind fun zE=>(q[r.2.2.1.toNat]?).bind fun J6=>(eC.ab (J6,r.2.2.2.1,())).bind fun J7=>if 0<=r.2.2.1/\r.2.2.1 < (q.length:Int) then ((q[r.2.2.1.toNat]?).bind fun Rh=>some (((0:Int),([]:List cE),q.set r.2.2.1.toNat J7.1,()),())) else none) else none:Option bL.Out)=some (((0:Int),([]:List cE),xt q r,()),()):=fun q hq aj=>by
    have hc:0<=r.2.2.1/\r.2.2.1 < (q.length:Int):=by omega
    simp only[hc,and_self,if_true,List.getElem?_eq_getElem aj,Option.bind_some]
    rw[zM _ _ (hq.2 _ (List.getElem_mem aj)) hg.2.2.2.2.2.2.1 (fun x hx=>by have:=hg.2.2.2.2.2.2.2 x hx;omega)]
    have hx:q.getD r.2.2.1.toNat []=q[r.2.2.1.toNat]:=by simp[aj]
    unfold xt
    rw[hx]
    rfl
   by_cases he:r.2.2.1=(ps.length:Int)
   ·have yr:ps.length+[tW].length<=bg:=cD (by have:=hp.1;simp only[List.length_cons,List.length_nil];omega)
    rw[if_pos he]
    simp only[he,decide_true,cond_true,G8,Option.bind_some,yr,if_true]
    rw[<-he]
    refine key _ ⟨by simp;omega,fun p hm=>?_⟩ (by simp;omega)
    rcases List.mem_append.1 hm with hm | hm
    ·exact hp.2 p hm
    ·simp only[List.mem_singleton] at hm;subst hm;exact xj
   ·rw[if_neg he]
    simp only[he,decide_false,cond_false]
    exact key ps hp (by omega)
 have:=bC (B:=fun self v=>bL.B0 0 self (fun z=>bL.Q0 0 (ps,r,()) z) (ps,r,()) v) ps (fun (s:Unit) (i:Int)=>i) (fun _ s x=>.inr s) (fun s=>(match iX ps r with | .inl c=>((c,([]:List cE),([]:gc),()),()) | .inr mp=>(((0:Int),([]:List cE),mp,()),()))) (fun i s=>True) (by have:=hp.1;rw[ah];omega)
  (fun i hi s self hI=>by
   show bL.b0 _ _ _ _=_
   unfold bL.b0
   have aj:(i:Int) < (ps.length:Int):=by omega
   have hx:((ps[i].length:Nat):Int)=64:=by have:=hp.2 ps[i] (List.getElem_mem hi);omega
   simp only[aj,decide_true,cond_true,Int.natCast_nonneg,if_true,Int.toNat_natCast,List.getElem?_eq_getElem hi,Option.bind_some,hx,Bool.not_true,cond_false])
  (fun _ _ _ _ _ _=>trivial) (fun s self hI=>by
   show bL.b0 _ _ _ _=_
   unfold bL.b0
   simp only[Int.lt_irrefl,decide_false,cond_false]
   exact main) () trivial k (by have:=hp.1;omega)
 rw[ei (g:=fun s _=>s)] at this
 exact this
def nP (xs:List aM):gc×Int×Unit:=aV (fun _ ps r=>match iX ps r with | .inl c=>.inl (([]:gc),c,()) | .inr mp=>.inr mp) (fun ps=>(ps,(0:Int),())) 0 xs []
theorem y6 (xs:List aM):(nP xs).2.1=0->gp (nP xs).1:=by
 have main:∀ (xs:List aM) (i:Nat) (ps:gc),gp ps->(aV (fun _ ps r=>match iX ps r with | .inl c=>.inl (([]:gc),c,()) | .inr mp=>.inr mp) (fun ps=>(ps,(0:Int),())) i xs ps).2.1=0->gp (aV (fun _ ps r=>match iX ps r with | .inl c=>.inl (([]:gc),c,()) | .inr mp=>.inr mp) (fun ps=>(ps,(0:Int),())) i xs ps).1:=by
  intro xs
  induction xs with
  | nil=>intro i ps h _;exact h
  | cons x xs ih=>
   intro i ps h
   simp only[aV]
   cases hs:iX ps x with
   | inl c=>intro h0;exact absurd h0 (vS hs)
   | inr mp=>exact ih _ _ (um h hs)
 exact main xs 0 [] ⟨by simp,fun _ h=>by cases h⟩
theorem El (xs:List aM) (hx:xs.length<=maxLen):fN.ab (xs,())=some (nP xs):=by
 refine ag (k:=xs.length+1) fun k hk=>(fN.aa k _).trans ?_
 exact bC (B:=fun self v=>fN.B0 0 self (fun z=>fN.Q0 0 (xs,()) z) (xs,()) v) xs (fun (s:gc) (i:Int)=>(s,i)) (fun _ ps r=>match iX ps r with | .inl c=>.inl (([]:gc),c,()) | .inr mp=>.inr mp) (fun ps=>(ps,(0:Int),())) (fun _ s=>gp s) hx
  (fun i hi s self hI=>by
   show fN.b0 _ _ _ _=_
   unfold fN.b0
   have aj:(i:Int) < (xs.length:Int):=by omega
   simp only[aj,decide_true,cond_true,Int.natCast_nonneg,if_true,Int.toNat_natCast,List.getElem?_eq_getElem hi,Option.bind_some,AU s _ hI]
   cases hs:iX s xs[i] with
   | inl c=>
    have:=vS hs
    simp only[this,decide_false,Bool.not_false,cond_true]
   | inr mp=>simp only[decide_true,Bool.not_true,cond_false])
  (fun i hi s s' hI hs=>by
   cases h:iX s xs[i] with
   | inl c=>rw[h] at hs;cases hs
   | inr mp=>rw[h] at hs;injection hs with hs;subst hs;exact um hI h) (fun s self hI=>by
   show fN.b0 _ _ _ _=_
   unfold fN.b0
   simp only[Int.lt_irrefl,decide_false,cond_false]
   rfl) [] ⟨by simp,fun _ h=>by cases h⟩ k (by omega)
theorem Em (xs:List aM) (hx:xs.length<=maxLen):iP.ab (xs,())=some (nP xs):=by
 refine ag (k:=xs.length+1) fun k hk=>(iP.aa k _).trans ?_
 exact bC (B:=fun self v=>iP.B0 0 self (fun z=>iP.Q0 0 (xs,()) z) (xs,()) v) xs (fun (s:gc) (i:Int)=>(s,i)) (fun _ ps r=>match iX ps r with | .inl c=>.inl (([]:gc),c,()) | .inr mp=>.inr mp) (fun ps=>(ps,(0:Int),())) (fun _ s=>gp s) hx
  (fun i hi s self hI=>by
   show iP.b0 _ _ _ _=_
   unfold iP.b0
   have aj:(i:Int) < (xs.length:Int):=by omega
   simp only[aj,decide_true,cond_true,Int.natCast_nonneg,if_true,Int.toNat_natCast,List.getElem?_eq_getElem hi,Option.bind_some,yW]
   by_cases hr:ma xs[i]=0
   ·simp only[hr,decide_true,Bool.not_true,cond_false,y5 s _ hI hr,Option.bind_some]
    cases hs:iX s xs[i] with
    | inl c=>
     have:=vS hs
     simp only[this,decide_false,Bool.not_false,cond_true]
    | inr mp=>simp only[decide_true,Bool.not_true,cond_false]
   ·have hs:iX s xs[i]=.inl (ma xs[i]):=by unfold iX;rw[if_neg hr]
    simp only[hr,decide_false,Bool.not_false,cond_true,hs])
  (fun i hi s s' hI hs=>by
   cases h:iX s xs[i] with
   | inl c=>rw[h] at hs;cases hs
   | inr mp=>rw[h] at hs;injection hs with hs;subst hs;exact um hI h) (fun s self hI=>by
   show iP.b0 _ _ _ _=_
   unfold iP.b0
   simp only[Int.lt_irrefl,decide_false,cond_false]
   rfl) [] ⟨by simp,fun _ h=>by cases h⟩ k (by omega)
end OT
set_option linter.unusedVariables false
set_option linter.unusedSimpArgs false
namespace OT
open Go
def pe (x:Tx):Int:=if rZ x=0 then mn x else rZ x
theorem AA {α:Type} (c:Nat->α->Int):∀ (xs:List α) (i:Nat),aV (fun i (_:Unit) y=>if c i y=0 then .inr () else .inl (c i y,())) (fun _=>((0:Int),())) i xs ()=(aV (fun i (_:Unit) y=>if c i y=0 then .inr () else .inl (c i y)) (fun _=>(0:Int)) i xs (),())
 | [],_=>rfl
 | y::ys,i=>by simp only[aV];by_cases h0:c i y=0 <;> simp[h0,AA c ys (i+1)]
theorem qF {α:Type} (c:Nat->α->Int) (E:Option (Int×Unit)):∀ (xs:List α) (i:Nat),aV (fun i (_:Unit) y=>if c i y=0 then .inr () else .inl (some (c i y,()))) (fun _=>E) i xs () =
  if aV (fun i (_:Unit) y=>if c i y=0 then .inr () else .inl (c i y)) (fun _=>(0:Int)) i xs ()=0 then E else some (aV (fun i (_:Unit) y=>if c i y=0 then .inr () else .inl (c i y)) (fun _=>(0:Int)) i xs (),())
 | [],_=>rfl
 | y::ys,i=>by simp only[aV];by_cases h0:c i y=0 <;> simp[h0,qF c E ys (i+1)]
theorem wH {α:Type} (c:α->Int):∀ (xs:List α) (i:Nat),aV (fun _ (_:Unit) y=>if c y=0 then .inr () else .inl (c y)) (fun _=>(0:Int)) i xs ()=hU c xs
 | [],_=>rfl
 | y::ys,i=>by simp only[aV,hU];by_cases h0:c y=0 <;> simp[h0,wH c ys (i+1)]
theorem G_ (x:Tx) (h:tl x):be.ab (x,())=some (pe x,()):=by
 obtain ⟨h1,Y,h3,h4⟩:=h
 refine ag (k:=1048577) fun k hk=>(be.aa k _).trans ?_
 have Ha:List.length x.2.2.2.1<=12->be.r2 k (x,()) (0:Int)=some (oW x.2.2.2.1,()):=fun hl=>by
  have:=bC (B:=fun self v=>be.B2 k self (fun z=>be.Q2 k (x,()) z) (x,()) v) x.2.2.2.1 (fun (_:Unit) (i:Int)=>i) (fun i _ y=>if jT x.2.2.2.1 i y=0 then .inr () else .inl (jT x.2.2.2.1 i y,())) (fun _=>(0,())) (fun _ _=>True) (by rw[ah];omega)
   (fun i hi s self _=>by
    show be.b2 _ _ _ _=_
    unfold be.b2 jT
    have aj:(i:Int) < (List.length x.2.2.2.1:Int):=by omega
    have dM:(0:Int)<=(i:Int)/\(i:Int)<=(List.length x.2.2.2.1:Int):=by omega
    simp only[aj,dM,and_self,decide_true,cond_true,Int.natCast_nonneg,if_true,Int.toNat_natCast,List.getElem?_eq_getElem hi,Option.bind_some,Kl,List.drop_zero]
    rw[contains_eq _ _ (by rw[ah];simp;omega)]
    cases pE (x.2.2.2.1)[i] <;> cases dc (x.2.2.2.1.take i) (x.2.2.2.1)[i] <;> rfl)
   (fun _ _ _ _ _ _=>trivial) (fun s self _=>by
    show be.b2 _ _ _ _=_
    unfold be.b2
    simp only[Int.lt_irrefl,decide_false,cond_false]
    rfl) () trivial k (by omega)
  rw[AA (jT x.2.2.2.1)] at this
  exact this
 have second:List.length x.2.2.1<=8->List.length x.2.2.2.1<=12->be.r1 k (x,()) ((0:Int),(0:Int))=some (if yH (List.length x.2.1:Int) 0 x.2.2.1 then oW x.2.2.2.1 else 3,()):=fun hm hl=>by
  have:=bF (B:=fun self v=>be.B1 k self (fun z=>be.Q1 k (x,()) z) (x,()) v) x.2.2.1 (fun (last:Int) (i:Int)=>(last,i)) (fun _ last m=>if cz m last (List.length x.2.1:Int) then .inr m else .inl (some ((3:Int),()))) (fun _=>some (oW x.2.2.2.1,())) (fun _ _=>True) (by rw[ah];omega)
   (fun i hi last self _=>by
    show be.b1 _ _ _ _=_
    unfold be.b1
    have aj:(i:Int) < (List.length x.2.2.1:Int):=by omega
    simp only[aj,decide_true,cond_true,Int.natCast_nonneg,if_true,Int.toNat_natCast,List.getElem?_eq_getElem hi,Option.bind_some,lQ]
    show (bif !cz (x.2.2.1)[i] last (List.length x.2.1:Int) then _ else _)=_
    cases cz (x.2.2.1)[i] last (List.length x.2.1:Int) <;> rfl)
   (fun _ _ _ _ _ _=>trivial) (fun last self _=>by
    show be.b1 _ _ _ _=_
    unfold be.b1
    simp only[Int.lt_irrefl,decide_false,cond_false]
    exact Ha hl) 0 trivial k (by omega)
  rw[CY] at this
  refine Eq.trans this ?_
  unfold yH
  cases aV (fun _ last m=>if cz m last (List.length x.2.1:Int) then .inr m else .inl false) (fun _=>true) 0 x.2.2.1 0 <;> rfl
 have after:be.Q0 k (x,()) ()=some (mn x,()):=by
  show be.q0 _ _ _=_
  unfold be.q0 mn
  by_cases hm:8 < List.length x.2.2.1
  ·have:(8:Int) < (List.length x.2.2.1:Int):=by omega
   simp only[this,hm,decide_true,cond_true,Bool.true_or,if_true]
   try rfl
  have wA:¬ (8:Int) < (List.length x.2.2.1:Int):=by omega
  by_cases gv:12 < List.length x.2.2.2.1
  ·have:(12:Int) < (List.length x.2.2.2.1:Int):=by omega
   simp only[this,hm,wA,gv,decide_true,decide_false,cond_true,cond_false,Bool.false_or,if_true]
   try rfl
  have sJ:¬ (12:Int) < (List.length x.2.2.2.1:Int):=by omega
  simp only[hm,wA,sJ,gv,decide_false,cond_false,Bool.or_self,Bool.false_eq_true,if_false]
  exact second (by omega) (by omega)
 have:=bF (B:=fun self v=>be.B0 k self (fun z=>be.Q0 k (x,()) z) (x,()) v) x.2.1 (fun (_:Unit) (i:Int)=>i) (fun _ _ c=>if pF x.2.2.2.1 c=0 then .inr () else .inl (some (pF x.2.2.2.1 c,()))) (fun _=>some (mn x,())) (fun _ _=>True) (by rw[ah];omega)
  (fun i hi s self _=>by
   show be.b0 _ _ _ _=_
   unfold be.b0
   have aj:(i:Int) < (List.length x.2.1:Int):=by omega
   simp only[aj,decide_true,cond_true,Int.natCast_nonneg,if_true,Int.toNat_natCast,List.getElem?_eq_getElem hi,Option.bind_some,IJ _ (h4 _ (List.getElem_mem hi)),MC]
   rw[contains_eq _ _ (by rw[ah];omega)]
   unfold pF
   by_cases hc:yC (x.2.1)[i]=0
   ·simp only[hc,decide_true,Bool.not_true,cond_false,if_true,Option.bind_some]
    cases dc x.2.2.2.1 (sP (x.2.1)[i]) <;> rfl
   ·simp only[hc,decide_false,Bool.not_false,cond_true,if_false])
  (fun _ _ _ _ _ _=>trivial) (fun s self _=>by
   show be.b0 _ _ _ _=_
   unfold be.b0
   simp only[Int.lt_irrefl,decide_false,cond_false]
   exact after) () trivial k (by omega)
 rw[qF (fun _=>pF x.2.2.2.1),wH] at this
 refine Eq.trans this ?_
 unfold pe rZ
 split <;> rfl
def jU (xs:List Tx) (k:Key):Int:=match xs with
 | []=>0
 | x::xs=>if dc x.2.2.2.1 k then x.1 else jU xs k
def wI (xs:List Tx):Prop:=xs.length<=1048576/\∀ x ∈ xs,tl x
theorem AB (k:Key):∀ (xs:List Tx) (i:Nat),aV (fun _ (_:Unit) x=>if dc x.2.2.2.1 k then .inl (x.1,()) else .inr ()) (fun _=>((0:Int),())) i xs ()=(jU xs k,())
 | [],_=>rfl
 | x::xs,i=>by simp only[aV,jU];cases dc x.2.2.2.1 k <;> simp[AB k xs (i+1)]
theorem KG {x:Tx} (h:tl x):List.length x.2.2.2.1<=maxLen:=by rw[ah];have:=h.2.2.1;omega
theorem En (xs:List Tx) (k0:Key) (h:wI xs):fM.ab (xs,k0,())=some (jU xs k0,()):=by
 obtain ⟨h1,Y⟩:=h
 refine ag (k:=xs.length+1) fun k hk=>(fM.aa k _).trans ?_
 have:=bC (B:=fun self v=>fM.B0 0 self (fun z=>fM.Q0 0 (xs,k0,()) z) (xs,k0,()) v) xs (fun (_:Unit) (i:Int)=>i) (fun _ _ x=>if dc x.2.2.2.1 k0 then .inl (x.1,()) else .inr ()) (fun _=>(0,())) (fun _ _=>True) (by rw[ah];omega)
  (fun i hi s self _=>by
   show fM.b0 _ _ _ _=_
   unfold fM.b0
   have aj:(i:Int) < (xs.length:Int):=by omega
   simp only[aj,decide_true,cond_true,Int.natCast_nonneg,if_true,Int.toNat_natCast,List.getElem?_eq_getElem hi,Option.bind_some,CX _ _ (KG (Y _ (List.getElem_mem hi)))]
   cases dc (xs[i]).2.2.2.1 k0 <;> rfl)
  (fun _ _ _ _ _ _=>trivial) (fun s self _=>by
   show fM.b0 _ _ _ _=_
   unfold fM.b0
   simp only[Int.lt_irrefl,decide_false,cond_false]
   rfl) () trivial k (by omega)
 rw[AB] at this
 exact this
def qf (xs:List Tx):Int:=xs.foldl (fun n x=>n+(List.length x.2.1:Int)) 0
theorem Dn (xs:List Tx) (h:wI xs):e8.ab (xs,())=some (qf xs,()):=by
 obtain ⟨h1,Y⟩:=h
 refine ag (k:=xs.length+1) fun k hk=>(e8.aa k _).trans ?_
 have:=bC (B:=fun self v=>e8.B0 0 self (fun z=>e8.Q0 0 (xs,()) z) (xs,()) v) xs (fun (n:Int) (i:Int)=>(n,i)) (fun _ n x=>.inr (n+(List.length x.2.1:Int))) (fun n=>(n,())) (fun i n=>0<=n/\n<=1048576*(i:Int)) (by rw[ah];omega)
  (fun i hi n self hI=>by
   show e8.b0 _ _ _ _=_
   unfold e8.b0
   have aj:(i:Int) < (xs.length:Int):=by omega
   have hx:=(Y _ (List.getElem_mem hi)).1
   simp only[aj,decide_true,cond_true,Int.natCast_nonneg,if_true,Int.toNat_natCast,List.getElem?_eq_getElem hi,Option.bind_some]
   rw[aJ (n:=n+_) (by omega)])
  (fun i hi n n' hI hs=>by
   injection hs with hs
   have hx:=(Y _ (List.getElem_mem hi)).1
   omega) (fun s self _=>by
   show e8.b0 _ _ _ _=_
   unfold e8.b0
   simp only[Int.lt_irrefl,decide_false,cond_false]
   rfl) 0 (by omega) k (by omega)
 rw[ei] at this
 exact this
theorem Do (xs:List Tx) (h:wI xs):gu.ab (xs,())=some (qf xs,()):=by
 obtain ⟨h1,Y⟩:=h
 refine ag (k:=xs.length+1) fun k hk=>(gu.aa k _).trans ?_
 have:=bC (B:=fun self v=>gu.B0 0 self (fun z=>gu.Q0 0 (xs,()) z) (xs,()) v) xs (fun (n:Int) (i:Int)=>(n,i)) (fun _ n x=>.inr (n+(List.length x.2.1:Int))) (fun n=>(n,())) (fun i n=>0<=n/\n<=1048576*(i:Int)) (by rw[ah];omega)
  (fun i hi n self hI=>by
   show gu.b0 _ _ _ _=_
   unfold gu.b0
   have aj:(i:Int) < (xs.length:Int):=by omega
   have hx:=(Y _ (List.getElem_mem hi)).1
   simp only[aj,decide_true,cond_true,Int.natCast_nonneg,if_true,Int.toNat_natCast,List.getElem?_eq_getElem hi,Option.bind_some]
   rw[aJ (n:=n+_) (by omega)])
  (fun i hi n n' hI hs=>by
   injection hs with hs
   have hx:=(Y _ (List.getElem_mem hi)).1
   omega) (fun s self _=>by
   show gu.b0 _ _ _ _=_
   unfold gu.b0
   simp only[Int.lt_irrefl,decide_false,cond_false]
   rfl) 0 (by omega) k (by omega)
 rw[ei] at this
 exact this
def ne (xs:List Tx) (i:Nat) (x:Tx):Int:=if cz x.1 1 99 then (if 0 < i then (match xs[i - 1]? with
    | some y=>if x.1<=y.1 then 1 else pe x
    | none=>1) else pe x) else 3
def sh (xs:List Tx):Int:=aV (fun i (_:Unit) x=>if ne xs i x=0 then .inr () else .inl (ne xs i x)) (fun _=>(0:Int)) 0 xs ()
def flatK (xs:List Tx):List Key:=xs.flatMap fun x=>x.2.2.2.1
def sX (xs:List Tx):Bool:=decide (flatK xs).Nodup
def sA (xs:List Tx):Int:=if 4 < xs.length then 2 else if sh xs=0 then (if sX xs then (if 12 < qf xs then 2 else 0) else 7) else sh xs
theorem si (xs:List Tx) (h:sh xs=0):∀ i (hi:i < xs.length),ne xs i xs[i]=0:=by
 have main:∀ (ys:List Tx) (j:Nat),(aV (fun i (_:Unit) x=>if ne xs i x=0 then .inr () else .inl (ne xs i x)) (fun _=>(0:Int)) j ys ())=0->∀ i (hi:i < ys.length),ne xs (j+i) ys[i]=0:=by
  intro ys
  induction ys with
  | nil=>intro j _ i hi;simp at hi
  | cons y ys ih=>
   intro j hf i hi
   simp only[aV] at hf
   by_cases h0:ne xs j y=0
   ·rw[if_pos h0] at hf
    cases i with
    | zero=>simpa using h0
    | succ i=>
     have:=ih (j+1) hf i (by simpa using hi)
     rw[show j+(i+1)=j+1+i by omega]
     simpa using this
   ·rw[if_neg h0] at hf
    exact absurd hf h0
 intro i hi
 have:=main xs 0 h i hi
 rwa [Nat.zero_add] at this
theorem un {xs:List Tx} {i:Nat} {x:Tx} (h:ne xs i x=0):1<=x.1/\pe x=0/\∀ y,0 < i->xs[i - 1]?=some y->y.1 < x.1:=by
 unfold ne at h
 split at h
 ·rename_i hb
  simp only[cz,Bool.and_eq_true,decide_eq_true_eq] at hb
  split at h
  ·rename_i h0
   split at h
   ·rename_i y hy
    split at h
    ·cases h
    ·exact ⟨hb.1,h,fun z _ hz=>by rw[hy] at hz;injection hz with hz;subst hz;omega⟩
   ·cases h
  ·exact ⟨hb.1,h,fun y h0=>by omega⟩
 ·cases h
theorem Jg {xs:List Tx} (h:sh xs=0):xs.Pairwise fun x y=>x.1 < y.1:=by
 rw[List.pairwise_iff_getElem]
 intro i j hi hj iZ
 have key:∀ d (hd:i+d+1 < xs.length),(xs[i]).1 < (xs[i+d+1]).1:=by
  intro d
  induction d with
  | zero=>
   intro hd
   exact (un (si xs h (i+1) hd)).2.2 xs[i] (by omega) (by simp[hi])
  | succ d ih=>
   intro hd
   have h1:=ih (by omega)
   have Y:=(un (si xs h (i+d+1+1) hd)).2.2 xs[i+d+1] (by omega) (by rw[Nat.add_sub_cancel];exact List.getElem?_eq_getElem (by omega))
   exact Int.lt_trans h1 Y
 have:=key (j - i - 1) (by omega)
 have e:i+(j - i - 1)+1=j:=by omega
 simpa only [e] using this
theorem Eo {ks:List Key} (h:oW ks=0):ks.Nodup:=by
 have main:∀ (ys:List Key) (j:Nat),(aV (fun i (_:Unit) k=>if jT ks i k=0 then .inr () else .inl (jT ks i k)) (fun _=>(0:Int)) j ys ())=0->∀ i (hi:i < ys.length),jT ks (j+i) ys[i]=0:=by
  intro ys
  induction ys with
  | nil=>intro j _ i hi;simp at hi
  | cons y ys ih=>
   intro j hf i hi
   simp only[aV] at hf
   by_cases h0:jT ks j y=0
   ·rw[if_pos h0] at hf
    cases i with
    | zero=>simpa using h0
    | succ i=>
     have:=ih (j+1) hf i (by simpa using hi)
     rw[show j+(i+1)=j+1+i by omega]
     simpa using this
   ·rw[if_neg h0] at hf
    exact absurd hf h0
 rw[List.nodup_iff_pairwise_ne,List.pairwise_iff_getElem]
 intro i j hi hj iZ e
 have h1:=main ks 0 h j hj
 rw[Nat.zero_add] at h1
 unfold jT at h1
 split at h1
 ·split at h1
  ·cases h1
  ·rename_i hn
   refine hn (ky.2 ?_)
   rw[<-e]
   exact List.mem_take_iff_getElem.2 ⟨i,by omega,rfl⟩
 ·cases h1
theorem KH {x:Tx} (h:pe x=0):(x.2.2.2.1:List Key).Nodup:=by
 unfold pe at h
 split at h
 ·unfold mn at h
  split at h
  ·cases h
  ·split at h
   ·exact Eo h
   ·cases h
 ·rename_i hn;exact absurd h hn
end OT
set_option linter.unusedVariables false
set_option linter.unusedSimpArgs false
namespace OT
open Go
def rJ (xs:List Tx):Bool:=xs.all fun x=>x.2.2.2.1.all fun k=>decide (jU xs k=x.1)
theorem KI {xs:List Tx} (hr:xs.Pairwise fun x y=>x.1 < y.1) (hn:∀ x ∈ xs,(x.2.2.2.1:List Key).Nodup):rJ xs=sX xs:=by
 have main:∀ (xs:List Tx),(xs.Pairwise fun x y=>x.1 < y.1)->(∀ x ∈ xs,(x.2.2.2.1:List Key).Nodup)->((∀ x ∈ xs,∀ k ∈ (x.2.2.2.1:List Key),jU xs k=x.1)↔(flatK xs).Nodup):=by
  intro xs
  induction xs with
  | nil=>intro _ _;simp[flatK]
  | cons x xs ih=>
   intro hr hn
   obtain ⟨h1,Y⟩:=List.pairwise_cons.1 hr
   have ih:=ih Y (fun y hy=>hn y (by simp[hy]))
   have Aq:flatK (x::xs)=x.2.2.2.1++flatK xs:=by simp[flatK]
   rw[Aq,List.nodup_append]
   constructor
   ·intro ja
    have hd:∀ y ∈ xs,∀ k ∈ (y.2.2.2.1:List Key),k ∉ (x.2.2.2.1:List Key):=fun y hy k hk hx=>by
     have e1:=ja y (by simp[hy]) k hk
     simp only[jU,ky.2 hx,if_true] at e1
     have:=h1 y hy
     omega
    refine ⟨hn x (by simp),ih.1 fun y hy k hk=>?_,fun a ha b hb e=>?_⟩
    ·have e1:=ja y (by simp[hy]) k hk
     have:dc x.2.2.2.1 k=false:=by
      cases hh:dc x.2.2.2.1 k with
      | false=>rfl
      | true=>exact absurd (ky.1 hh) (hd y hy k hk)
     simp only[jU,this,Bool.false_eq_true,if_false] at e1
     exact e1
    ·subst e
     obtain ⟨y,hy,hk⟩:=List.mem_flatMap.1 hb
     exact hd y hy a hk ha
   ·rintro ⟨g1,g2,g3⟩ y hy k hk
    rcases List.mem_cons.1 hy with e | e
    ·subst e
     simp only[jU,ky.2 hk,if_true]
    ·have TD:k ∈ flatK xs:=List.mem_flatMap.2 ⟨y,e,hk⟩
     have:dc x.2.2.2.1 k=false:=by
      cases hh:dc x.2.2.2.1 k with
      | false=>rfl
      | true=>exact absurd rfl (g3 k (ky.1 hh) k TD)
     simp only[jU,this,Bool.false_eq_true,if_false]
     exact ih.2 g2 y e k hk
 have hm:=main xs hr hn
 unfold rJ sX
 rw[Bool.eq_iff_iff]
 simp only[List.all_eq_true,decide_eq_true_eq]
 exact hm
theorem Dp (xs:List Tx) (h:wI xs):bP.ab (xs,())=some (rJ xs,()):=by
 have ht:=h
 obtain ⟨h1,Y⟩:=h
 refine ag (k:=1048577) fun k hk=>(bP.aa k _).trans ?_
 have inner:∀ (self:((List Tx)×Int)->Option bP.Out) (e0:Unit->Option bP.Out) (i:Nat) (hi:i < xs.length),bP.r1 k self e0 (xs,()) xs (i:Int) (0:Int)=if (xs[i]).2.2.2.1.any (fun y=>!decide (jU xs y=(xs[i]).1)) then some (false,()) else self (xs,ae ((i:Int)+1)):=fun self e0 i hi=>by
  have TE:=Y _ (List.getElem_mem hi)
  have LX:=TE.2.2.1
  have:=bF (B:=fun ca v=>bP.B1 k ca (fun z=>bP.Q0 k self e0 (xs,()) xs (i:Int) z) (xs,()) xs (i:Int) v) (xs[i]).2.2.2.1 (fun (_:Unit) (j:Int)=>j) (fun _ _ y=>if !decide (jU xs y=(xs[i]).1) then .inl (some (false,())) else .inr ()) (fun _=>self (xs,ae ((i:Int)+1))) (fun _ _=>True) (by rw[ah];omega)
   (fun j hj s ca _=>by
    show bP.b1 _ _ _ _ _ _=_
    unfold bP.b1
    have aj:(j:Int) < (List.length (xs[i]).2.2.2.1:Int):=by omega
    simp only[Int.natCast_nonneg,if_true,Int.toNat_natCast,List.getElem?_eq_getElem hi,Option.bind_some,aj,decide_true,cond_true,List.getElem?_eq_getElem hj,En xs _ ht]
    cases decide (jU xs ((xs[i]).2.2.2.1)[j]=(xs[i]).1) <;> rfl)
   (fun _ _ _ _ _ _=>trivial) (fun s ca _=>by
    show bP.b1 _ _ _ _ _ _=_
    unfold bP.b1
    simp only[Int.natCast_nonneg,if_true,Int.toNat_natCast,List.getElem?_eq_getElem hi,Option.bind_some,Int.lt_irrefl,decide_false,cond_false]
    rfl) () trivial k (by omega)
  rw[pt] at this
  exact this
 have:=bC (B:=fun self v=>bP.B0 k self (fun z=>bP.Q1 k (xs,()) z) (xs,()) v) xs (fun (_:Unit) (i:Int)=>(xs,i)) (fun _ _ x=>if x.2.2.2.1.all (fun y=>decide (jU xs y=x.1)) then .inr () else .inl (false,())) (fun _=>(true,())) (fun _ _=>True) (by rw[ah];omega)
  (fun i hi s self _=>by
   show bP.b0 _ _ _ _ _=_
   unfold bP.b0
   have aj:(i:Int) < (xs.length:Int):=by omega
   simp only[aj,decide_true,cond_true]
   rw[inner self _ i hi]
   have:(xs[i]).2.2.2.1.any (fun y=>!decide (jU xs y=(xs[i]).1))=!(xs[i]).2.2.2.1.all (fun y=>decide (jU xs y=(xs[i]).1)):=by rw[List.not_all_eq_any_not]
   rw[this]
   cases (xs[i]).2.2.2.1.all (fun y=>decide (jU xs y=(xs[i]).1)) <;> rfl)
  (fun _ _ _ _ _ _=>trivial) (fun s self _=>by
   show bP.b0 _ _ _ _ _=_
   unfold bP.b0
   simp only[Int.lt_irrefl,decide_false,cond_false]
   rfl) () trivial k (by omega)
 rw[kO (fun (x:Tx)=>x.2.2.2.1.all (fun y=>decide (jU xs y=x.1))) (false,()) (fun _=>(true,()))] at this
 refine Eq.trans this ?_
 unfold rJ
 cases xs.all fun x=>x.2.2.2.1.all (fun y=>decide (jU xs y=x.1)) <;> rfl
def cv (S:List Key):List (Key×Bool):=S.map fun k=>(k,true)
theorem Ep {α:Type} (k:Ty) (e:k.den×α) (m:List (k.den×α)) (x:k.den):dr k (e::m) x=if k.eq x e.1 then some e.2 else dr k m x:=by
 unfold dr
 rw[List.find?_cons]
 cases k.eq x e.1 <;> rfl
theorem Hb {α:Type} (k:Ty) (m:List (k.den×α)) (x:k.den) (y:α) (h:∀ e ∈ m,k.eq x e.1=false):gG k m x y=m++[(x,y)]:=by
 have:m.findIdx? (fun e=>k.eq x e.1)=none:=by
  rw[List.findIdx?_eq_none_iff]
  intro e he
  exact h e he
 unfold gG
 rw[this]
theorem wJ (S:List Key) (k:Key):dr aE (cv S) k=if dc S k then some true else none:=by
 induction S with
 | nil=>rfl
 | cons s S ih=>
  refine (Ep aE (s,true) (cv S) k).trans ?_
  have hk:aE.eq k (s,true).1=decide (k=s):=tZ k s
  rw[hk]
  have hc:dc (s::S) k=(decide (s=k)||dc S k):=rfl
  rw[hc]
  by_cases h:k=s
  ·have Y:s=k:=h.symm
   simp[Y]
  ·have Y:¬ s=k:=fun e=>h e.symm
   simp only[h,Y,decide_false,Bool.false_or,Bool.false_eq_true,if_false]
   exact ih
theorem KJ (S:List Key) (k:Key):qQ (dr aE (cv S) k) false=dc S k:=by
 refine Eq.trans (congrArg (fun o=>qQ o false) (wJ S k)) ?_
 cases dc S k <;> rfl
theorem Dq {S:List Key} {k:Key} (h:dc S k=false):gG aE (cv S) k true=cv (S++[k]):=by
 refine (Hb aE (cv S) k true fun e he=>?_).trans ?_
 ·obtain ⟨s,hs,rfl⟩:=List.mem_map.1 he
  have hk:aE.eq k (s,true).1=decide (k=s):=tZ k s
  rw[hk]
  simp only[dc,List.any_eq_false,decide_eq_true_eq] at h
  have:=h s hs
  simp only[decide_eq_false_iff_not]
  exact fun e=>this e.symm
 ·simp only[cv,List.map_append,List.map_cons,List.map_nil]
  rfl
def getM (m:List (Key×Bool)) (k:Key):Bool:=qQ (dr aE m k) false
def lp (m:List (Key×Bool)) (k:Key):List (Key×Bool):=gG aE m k true
def lz:List (Key×Bool)->List Key->Option (List (Key×Bool))
 | m,[]=>some m
 | m,k::ks=>if getM m k then none else lz (lp m k) ks
theorem wK:∀ (m:List (Key×Bool)) (a b:List Key),lz m (a++b)=(lz m a).bind fun m'=>lz m' b
 | m,[],b=>rfl
 | m,k::a,b=>by
  simp only[List.cons_append,lz]
  split
  ·rfl
  ·exact wK _ a b
theorem AC:∀ (ks S:List Key),S.Nodup->lz (cv S) ks=if (S++ks).Nodup then some (cv (S++ks)) else none
 | [],S,h=>by simp[lz,h]
 | k::ks,S,h=>by
  have hg:getM (cv S) k=dc S k:=KJ S k
  simp only[lz,hg]
  cases hh:dc S k with
  | true=>
   have:¬ (S++k::ks).Nodup:=fun hn=>by
    rw[List.nodup_append] at hn
    exact hn.2.2 k (ky.1 hh) k (by simp) rfl
   simp[this]
  | false=>
   have hk:k ∉ S:=fun hm=>by rw[ky.2 hm] at hh;cases hh
   simp only[Bool.false_eq_true,if_false]
   have hp:lp (cv S) k=cv (S++[k]):=Dq hh
   rw[hp,AC ks (S++[k]) (by rw[List.nodup_append];exact ⟨h,by simp,fun a ha b hb e=>by simp at hb;subst hb;subst e;exact hk ha⟩)]
   simp only[List.append_assoc,List.cons_append,List.nil_append]
theorem AD {O:Type} (bad:Option O) (E:List (Key×Bool)->Option O):∀ (ks:List Key) (i:Nat) (m:List (Key×Bool)),aV (fun _ m k=>if getM m k then .inl bad else .inr (lp m k)) E i ks m=match lz m ks with | none=>bad | some m'=>E m'
 | [],_,_=>rfl
 | k::ks,i,m=>by
  simp only[aV,lz]
  by_cases h:getM m k=true
  ·simp[h]
  ·simp only[h,if_false]
   exact AD bad E ks _ _
theorem y7 {O:Type} (bad:Option O) (E:Option O):∀ (xs:List Tx) (i:Nat) (m:List (Key×Bool)),aV (fun _ m x=>match lz m x.2.2.2.1 with | none=>.inl bad | some m'=>.inr m') (fun _=>E) i xs m=match lz m (flatK xs) with | none=>bad | some _=>E
 | [],_,_=>rfl
 | x::xs,i,m=>by
  have Aq:flatK (x::xs)=x.2.2.2.1++flatK xs:=by simp[flatK]
  rw[Aq,wK]
  simp only[aV]
  cases h:lz m x.2.2.2.1 with
  | none=>rfl
  | some m'=>
   simp only[Option.bind_some]
   exact y7 bad E xs _ _
theorem Hc (xs:List Tx) (h:wI xs):aW.ab (xs,())=some (sA xs,()):=by
 have ht:=h
 obtain ⟨h1,Y⟩:=h
 refine ag (k:=1048577) fun k hk=>(aW.aa k _).trans ?_
 unfold aW.p sA
 by_cases h4:4 < xs.length
 ·have:(4:Int) < (xs.length:Int):=by omega
  simp only[this,h4,decide_true,cond_true,if_true]
  (try rfl)
 have OB:¬ (4:Int) < (xs.length:Int):=by omega
 simp only[h4,OB,decide_false,cond_false,if_false]
 have last:aW.Q2 k (xs,()) xs=some (if 12 < qf xs then 2 else 0,()):=by
  show aW.q2 _ _=_
  unfold aW.q2
  simp only[Do xs ht,Option.bind_some]
  by_cases hc:12 < qf xs <;> simp[hc]
 have inner:∀ (self:((List Tx)×(List (Key×Bool))×(List Tx)×Int×Int)->Option aW.Out) (e2:List Tx->Option aW.Out) (i:Nat) (hi:i < xs.length) (m:List (Key×Bool)),aW.r2 k self e2 (xs,()) xs xs (xs.length:Int) (i:Int) (xs[i]).2.2.2.1 (List.length (xs[i]).2.2.2.1:Int) (m,(0:Int))=match lz m (xs[i]).2.2.2.1 with | none=>some ((7:Int),()) | some m'=>self (xs,m',xs,(xs.length:Int),ae ((i:Int)+1)):=fun self e2 i hi m=>by
  have LX:=(Y _ (List.getElem_mem hi)).2.2.1
  have:=bF (B:=fun ca v=>aW.B2 k ca (fun z=>aW.Q1 k self e2 (xs,()) xs xs (xs.length:Int) (i:Int) (xs[i]).2.2.2.1 (List.length (xs[i]).2.2.2.1:Int) z) (xs,()) xs xs (xs.length:Int) (i:Int) (xs[i]).2.2.2.1 (List.length (xs[i]).2.2.2.1:Int) v) (xs[i]).2.2.2.1 (fun (m:List (Key×Bool)) (j:Int)=>(m,j)) (fun _ m y=>if getM m y then .inl (some ((7:Int),())) else .inr (lp m y)) (fun m=>self (xs,m,xs,(xs.length:Int),ae ((i:Int)+1))) (fun _ _=>True) (by rw[ah];omega)
   (fun j hj s ca _=>by
    show aW.b2 _ _ _ _ _ _ _ _ _ _=_
    unfold aW.b2
    have aj:(j:Int) < (List.length (xs[i]).2.2.2.1:Int):=by omega
    simp only[aj,decide_true,cond_true,Int.natCast_nonneg,if_true,Int.toNat_natCast,List.getElem?_eq_getElem hj,Option.bind_some]
    show (bif getM s ((xs[i]).2.2.2.1)[j] then some ((7:Int),()) else ca (lp s ((xs[i]).2.2.2.1)[j],ae ((j:Int)+1)))=_
    cases getM s ((xs[i]).2.2.2.1)[j] <;> rfl)
   (fun _ _ _ _ _ _=>trivial) (fun s ca _=>by
    show aW.b2 _ _ _ _ _ _ _ _ _ _=_
    unfold aW.b2
    simp only[Int.lt_irrefl,decide_false,cond_false]
    rfl) m trivial k (by omega)
  rw[AD] at this
  exact this
 have apart:aW.Q0 k (xs,()) ()=some (if sX xs then (if 12 < qf xs then 2 else 0) else 7,()):=by
  have:=bF (B:=fun self v=>aW.B1 k self (fun z=>aW.Q2 k (xs,()) z) (xs,()) v) xs (fun (m:List (Key×Bool)) (i:Int)=>(xs,m,xs,(xs.length:Int),i)) (fun _ m x=>match lz m x.2.2.2.1 with | none=>.inl (some ((7:Int),())) | some m'=>.inr m') (fun _=>some (if 12 < qf xs then 2 else 0,())) (fun _ _=>True) (by rw[ah];omega)
   (fun i hi m self _=>by
    show aW.b1 _ _ _ _ _=_
    unfold aW.b1
    have aj:(i:Int) < (xs.length:Int):=by omega
    simp only[aj,decide_true,cond_true,Int.natCast_nonneg,if_true,Int.toNat_natCast,List.getElem?_eq_getElem hi,Option.bind_some]
    rw[inner self _ i hi m]
    cases lz m (xs[i]).2.2.2.1 <;> rfl)
   (fun _ _ _ _ _ _=>trivial) (fun s self _=>by
    show aW.b1 _ _ _ _ _=_
    unfold aW.b1
    simp only[Int.lt_irrefl,decide_false,cond_false]
    exact last) (cv []) trivial k (by omega)
  rw[y7,AC _ _ List.nodup_nil] at this
  refine Eq.trans this ?_
  unfold sX
  simp only[List.nil_append]
  by_cases hn:(flatK xs).Nodup <;> simp[hn]
 have:=bF (B:=fun self v=>aW.B0 k self (fun z=>aW.Q0 k (xs,()) z) (xs,()) v) xs (fun (_:Unit) (i:Int)=>i) (fun i _ x=>if ne xs i x=0 then .inr () else .inl (some (ne xs i x,()))) (fun _=>some (if sX xs then (if 12 < qf xs then 2 else 0) else 7,())) (fun _ _=>True) (by rw[ah];omega)
  (fun i hi s self _=>by
   show aW.b0 _ _ _ _=_
   unfold aW.b0 ne
   have aj:(i:Int) < (xs.length:Int):=by omega
   simp only[aj,decide_true,cond_true,Int.natCast_nonneg,if_true,Int.toNat_natCast,List.getElem?_eq_getElem hi,Option.bind_some,E3,G_ _ (Y _ (List.getElem_mem hi))]
   show (bif !cz (xs[i]).1 1 99 then _ else _)=_
   cases cz (xs[i]).1 1 99 with
   | false=>rfl
   | true=>
    simp only[Bool.not_true,cond_false,if_true]
    by_cases h0:i=0
    ·subst h0
     have hz:¬ (0:Int) < ((0:Nat):Int):=by omega
     simp only[hz,decide_false,cond_false,Nat.lt_irrefl,if_false]
     by_cases hc:pe xs[0]=0
     ·simp only[hc,decide_true,Bool.not_true,cond_false,if_true]
     ·simp only[hc,decide_false,Bool.not_false,cond_true,if_false]
    ·have yI:i - 1 < xs.length:=by omega
     have hp:(0:Int) < (i:Int):=by omega
     have OC:0 < i:=by omega
     simp only[hp,OC,decide_true,cond_true,yF (show 0 < i by omega) (by rw[ah];omega),Int.natCast_nonneg,if_true,Int.toNat_natCast,List.getElem?_eq_getElem yI,Option.bind_some]
     by_cases hle:(xs[i]).1<=(xs[i - 1]).1
     ·simp only[hle,decide_true,cond_true,if_true]
      rfl
     ·simp only[hle,decide_false,cond_false,if_false]
      by_cases hc:pe xs[i]=0
      ·simp only[hc,decide_true,Bool.not_true,cond_false,if_true]
      ·simp only[hc,decide_false,Bool.not_false,cond_true,if_false])
  (fun _ _ _ _ _ _=>trivial) (fun s self _=>by
   show aW.b0 _ _ _ _=_
   unfold aW.b0
   simp only[Int.lt_irrefl,decide_false,cond_false]
   exact apart) () trivial k (by omega)
 rw[qF (ne xs)] at this
 refine Eq.trans this ?_
 unfold sh
 split <;> rfl
theorem Hd (xs:List Tx) (h:wI xs):c8.ab (xs,())=some (sA xs,()):=by
 have ht:=h
 obtain ⟨h1,Y⟩:=h
 refine ag (k:=1048577) fun k hk=>(c8.aa k _).trans ?_
 unfold c8.p sA
 by_cases h4:4 < xs.length
 ·have:(4:Int) < (xs.length:Int):=by omega
  simp only[this,h4,decide_true,cond_true,if_true]
  (try rfl)
 have OB:¬ (4:Int) < (xs.length:Int):=by omega
 simp only[h4,OB,decide_false,cond_false,if_false]
 have last:c8.Q0 k (xs,()) ()=some (if rJ xs then (if 12 < qf xs then 2 else 0) else 7,()):=by
  show c8.q0 _ _=_
  unfold c8.q0
  simp only[Dp xs ht,Dn xs ht,Option.bind_some]
  cases rJ xs with
  | false=>rfl
  | true=>by_cases hc:12 < qf xs <;> simp[hc]
 have:=bF (B:=fun self v=>c8.B0 k self (fun z=>c8.Q0 k (xs,()) z) (xs,()) v) xs (fun (_:Unit) (i:Int)=>i) (fun i _ x=>if ne xs i x=0 then .inr () else .inl (some (ne xs i x,()))) (fun _=>some (if rJ xs then (if 12 < qf xs then 2 else 0) else 7,())) (fun _ _=>True) (by rw[ah];omega)
  (fun i hi s self _=>by
   show c8.b0 _ _ _ _=_
   unfold c8.b0 ne
   have aj:(i:Int) < (xs.length:Int):=by omega
   simp only[aj,decide_true,cond_true,Int.natCast_nonneg,if_true,Int.toNat_natCast,List.getElem?_eq_getElem hi,Option.bind_some,iR,D8 _ (Y _ (List.getElem_mem hi)),CZ _ (Y _ (List.getElem_mem hi))]
   have hj:(bif !decide (rZ xs[i]=0) then some (rZ xs[i],()) else bif !decide (mn xs[i]=0) then some (mn xs[i],()) else self (ae ((i:Int)+1)))=match (generalizing:=false) (if pe xs[i]=0 then .inr () else .inl (some (pe xs[i],())):Sum (Option (Int×Unit)) Unit) with | .inl o=>o | .inr _=>self (ae ((i:Int)+1)):=by
    unfold pe
    by_cases hu:rZ xs[i]=0
    ·simp only[hu,decide_true,Bool.not_true,cond_false,if_true]
     by_cases hm:mn xs[i]=0
     ·simp only[hm,decide_true,Bool.not_true,cond_false,if_true]
     ·simp only[hm,decide_false,Bool.not_false,cond_true,if_false]
    ·simp only[hu,decide_false,Bool.not_false,cond_true,if_false]
   show (bif !cz (xs[i]).1 1 99 then _ else _)=_
   cases cz (xs[i]).1 1 99 with
   | false=>rfl
   | true=>
    simp only[Bool.not_true,cond_false,if_true]
    by_cases h0:i=0
    ·subst h0
     have hz:¬ (0:Int) < ((0:Nat):Int):=by omega
     simp only[hz,decide_false,cond_false,Nat.lt_irrefl,if_false]
     refine hj.trans ?_
     by_cases hc:pe xs[0]=0 <;> simp only[hc,if_true,if_false]
    ·have yI:i - 1 < xs.length:=by omega
     have hp:(0:Int) < (i:Int):=by omega
     have OC:0 < i:=by omega
     simp only[hp,OC,decide_true,cond_true,yF (show 0 < i by omega) (by rw[ah];omega),Int.natCast_nonneg,if_true,Int.toNat_natCast,List.getElem?_eq_getElem yI,Option.bind_some]
     by_cases hle:(xs[i]).1<=(xs[i - 1]).1
     ·simp only[hle,decide_true,cond_true,if_true]
      rfl
     ·simp only[hle,decide_false,cond_false,if_false]
      refine hj.trans ?_
      by_cases hc:pe xs[i]=0 <;> simp only[hc,if_true,if_false])
  (fun _ _ _ _ _ _=>trivial) (fun s self _=>by
   show c8.b0 _ _ _ _=_
   unfold c8.b0
   simp only[Int.lt_irrefl,decide_false,cond_false]
   exact last) () trivial k (by omega)
 rw[qF (ne xs)] at this
 refine Eq.trans this ?_
 show (if sh xs=0 then _ else some (sh xs,()))=_
 by_cases he:sh xs=0
 ·rw[if_pos he,if_pos he,KI (Jg he) (fun x hx=>by
   obtain ⟨i,hi,rfl⟩:=List.mem_iff_getElem.1 hx
   exact KH (un (si xs he i hi)).2.1)]
 ·rw[if_neg he,if_neg he]
end OT
set_option linter.unusedVariables false
set_option linter.unusedSimpArgs false
namespace OT
open Go
def dd (S:List Key) (ks:List Key):List Key:=ks.foldl (fun S k=>if dc S k then S else S++[k]) S
def mF (rows:List Row):List Key:=rows.map fun r=>(r.1,r.2.1,())
def o8 (rows:List Row) (xs:List Tx):List Key:=mF rows++flatK xs
theorem Er {α:Type} (k:Ty) (m:List (k.den×α)) (x:k.den) (y:α) {i:Nat} (h:m.findIdx? (fun e=>k.eq x e.1)=some i):gG k m x y=m.set i (x,y):=by
 unfold gG
 rw[h]
theorem Jh {S:List Key} {k:Key} (h:dc S k=true):lp (cv S) k=cv S:=by
 have key:∀ (S:List Key) (i:Nat),(cv S).findIdx? (fun e=>Ty.eq aE k e.1)=some i->(cv S)[i]?=some (k,true):=by
  intro S i hi
  have h1:=List.findIdx?_eq_some_iff_findIdx_eq.1 hi
  have aj:i < (cv S).length:=h1.1
  have Y:(cv S).findIdx (fun e=>Ty.eq aE k e.1) < (cv S).length:=by rw[h1.2];exact aj
  have h3:=List.findIdx_getElem (xs:=cv S) (p:=fun e=>Ty.eq aE k e.1) (w:=Y)
  simp only[h1.2] at h3
  have h4:Ty.eq aE k (cv S)[i].1=decide (k=(cv S)[i].1):=tZ k _
  have h3:Ty.eq aE k (cv S)[i].1=true:=h3
  rw[h4,decide_eq_true_eq] at h3
  rw[List.getElem?_eq_getElem aj]
  have h5:(cv S)[i]=((cv S)[i].1,true):=by simp[cv]
  rw[h5,<- h3]
 show gG aE (cv S) k true=cv S
 cases hf:(cv S).findIdx? (fun e=>Ty.eq aE k e.1) with
 | none=>
  exfalso
  have h1:dr aE (cv S) k=none:=by
   unfold dr
   have Y:=List.findIdx?_eq_none_iff.1 hf
   have:(cv S).find? (fun e=>Ty.eq aE k e.1)=none:=List.find?_eq_none.2 fun e he=>by rw[Y e he];simp
   exact congrArg _ this
  have Y:=wJ S k
  rw[h] at Y
  exact absurd (h1.symm.trans Y) (by simp)
 | some i=>
  have h1:=key S i hf
  have aj:=(List.getElem?_eq_some_iff.1 h1).1
  refine (Er aE (cv S) k true hf).trans ?_
  show (cv S).set i (k,true)=cv S
  have:(cv S)[i]=(k,true):=(List.getElem?_eq_some_iff.1 h1).2
  rw[<-this]
  exact List.set_getElem_self aj
theorem KK (S:List Key) (k:Key):lp (cv S) k=cv (if dc S k then S else S++[k]):=by
 cases h:dc S k with
 | true=>simp only[if_true];exact Jh h
 | false=>simp only[Bool.false_eq_true,if_false];exact Dq h
theorem Fo:∀ (ks S:List Key),ks.foldl lp (cv S)=cv (dd S ks)
 | [],S=>rfl
 | k::ks,S=>by
  rw[List.foldl_cons,KK,Fo ks]
  rfl
theorem Ji (S a b:List Key):dd S (a++b)=dd (dd S a) b:=List.foldl_append
theorem Jj:∀ (ks S:List Key),S.length<=(dd S ks).length
 | [],S=>Nat.le_refl _
 | x::ks,S=>by
  refine Nat.le_trans ?_ (Jj ks (if dc S x then S else S++[x]))
  split
  ·exact Nat.le_refl _
  ·simp
theorem Dr:∀ (ks S:List Key),(S++ks).Nodup->dd S ks=S++ks
 | [],S,_=>by simp[dd]
 | x::ks,S,h=>by
  have hx:dc S x=false:=by
   cases hh:dc S x with
   | false=>rfl
   | true=>
    rw[List.nodup_append] at h
    exact absurd rfl (h.2.2 x (ky.1 hh) x (by simp))
  show dd (if dc S x then S else S++[x]) ks=_
  rw[hx]
  simp only[Bool.false_eq_true,if_false]
  rw[Dr ks (S++[x]) (by simpa using h)]
  simp
theorem Es {rows:List Row} (h:up rows):(mF rows).Nodup:=by
 unfold mF
 rw[List.nodup_iff_pairwise_ne,List.pairwise_map]
 refine h.imp fun {a b} QG e=>?_
 have:rk a=rk b:=by
  simp only[Prod.mk.injEq,and_true] at e
  exact Prod.ext e.1 e.2
 rw[this,m9] at QG
 cases QG
theorem AE {rows:List Row} {xs:List Tx} (h:up rows):rows.length<=(dd [] (o8 rows xs)).length:=by
 unfold o8
 rw[Ji,Dr (mF rows) [] (by simpa using Es h)]
 refine Nat.le_trans ?_ (Jj _ _)
 simp[mF]
def vT:List Key->List Key->Nat
 | _,[]=>0
 | S,k::ks=>(if dc S k then 0 else 1)+vT (S++[k]) ks
theorem zN:∀ (ks S T:List Key),(∀ k,k ∈ S↔k ∈ T)->(dd S ks).length=S.length+vT T ks
 | [],S,T,_=>rfl
 | x::ks,S,T,h=>by
  have hx:dc S x=dc T x:=by rw[Bool.eq_iff_iff,ky,ky];exact h x
  show (dd (if dc S x then S else S++[x]) ks).length=_
  simp only[vT,<- hx]
  cases hh:dc S x with
  | true=>
   simp only[if_true]
   rw[zN ks S (T++[x]) fun k=>?_]
   ·omega
   ·simp only[List.mem_append,List.mem_singleton,<- h k]
    constructor
    ·exact .inl
    ·rintro (h1 | h1)
     ·exact h1
     ·subst h1;exact ky.1 hh
  | false=>
   simp only[Bool.false_eq_true,if_false]
   rw[zN ks (S++[x]) (T++[x]) fun k=>by simp only[List.mem_append,h k]]
   simp only[List.length_append,List.length_cons,List.length_nil]
   omega
def pH (rows:List Row) (xs:List Tx):Nat:=(dd [] (o8 rows xs)).length
theorem Jk (rows:List Row) (xs:List Tx) (hr:rows.length<=1048576) (h:wI xs):bE.ab (rows,xs,())=some (cv (dd [] (o8 rows xs)),()):=by
 obtain ⟨h1,Y⟩:=h
 refine ag (k:=1048577) fun k hk=>(bE.aa k _).trans ?_
 have inner:∀ (self:((List (Key×Bool))×(List Tx)×Int×Int)->Option bE.Out) (e2:(List (Key×Bool))->Option bE.Out) (i:Nat) (hi:i < xs.length) (m:List (Key×Bool)),bE.r2 k self e2 (rows,xs,()) xs (xs.length:Int) (i:Int) (xs[i]).2.2.2.1 (List.length (xs[i]).2.2.2.1:Int) (m,(0:Int))=self ((xs[i]).2.2.2.1.foldl lp m,xs,(xs.length:Int),ae ((i:Int)+1)):=fun self e2 i hi m=>by
  have LX:=(Y _ (List.getElem_mem hi)).2.2.1
  have:=bF (B:=fun ca v=>bE.B2 k ca (fun z=>bE.Q1 k self e2 (rows,xs,()) xs (xs.length:Int) (i:Int) (xs[i]).2.2.2.1 (List.length (xs[i]).2.2.2.1:Int) z) (rows,xs,()) xs (xs.length:Int) (i:Int) (xs[i]).2.2.2.1 (List.length (xs[i]).2.2.2.1:Int) v) (xs[i]).2.2.2.1 (fun (m:List (Key×Bool)) (j:Int)=>(m,j)) (fun _ m y=>.inr (lp m y)) (fun m=>self (m,xs,(xs.length:Int),ae ((i:Int)+1))) (fun _ _=>True) (by rw[ah];omega)
   (fun j hj s ca _=>by
    show bE.b2 _ _ _ _ _ _ _ _ _=_
    unfold bE.b2
    have aj:(j:Int) < (List.length (xs[i]).2.2.2.1:Int):=by omega
    simp only[aj,decide_true,cond_true,Int.natCast_nonneg,if_true,Int.toNat_natCast,List.getElem?_eq_getElem hj,Option.bind_some]
    rfl)
   (fun _ _ _ _ _ _=>trivial) (fun s ca _=>by
    show bE.b2 _ _ _ _ _ _ _ _ _=_
    unfold bE.b2
    simp only[Int.lt_irrefl,decide_false,cond_false]
    rfl) m trivial k (by omega)
  rw[ei (g:=lp)] at this
  exact this
 have second:∀ m,bE.r1 k (rows,xs,()) (m,xs,(xs.length:Int),(0:Int))=some ((flatK xs).foldl lp m,()):=fun m=>by
  have:=bC (B:=fun self v=>bE.B1 k self (fun z=>bE.Q2 k (rows,xs,()) z) (rows,xs,()) v) xs (fun (m:List (Key×Bool)) (i:Int)=>(m,xs,(xs.length:Int),i)) (fun _ m x=>.inr (x.2.2.2.1.foldl lp m)) (fun m=>(m,())) (fun _ _=>True) (by rw[ah];omega)
   (fun i hi m self _=>by
    show bE.b1 _ _ _ _ _=_
    unfold bE.b1
    have aj:(i:Int) < (xs.length:Int):=by omega
    simp only[aj,decide_true,cond_true,Int.natCast_nonneg,if_true,Int.toNat_natCast,List.getElem?_eq_getElem hi,Option.bind_some]
    exact inner self _ i hi m)
   (fun _ _ _ _ _ _=>trivial) (fun s self _=>by
    show bE.b1 _ _ _ _ _=_
    unfold bE.b1
    simp only[Int.lt_irrefl,decide_false,cond_false]
    rfl) m trivial k (by omega)
  rw[ei (g:=fun m (x:Tx)=>x.2.2.2.1.foldl lp m)] at this
  refine Eq.trans this ?_
  have:∀ (xs:List Tx) (m:List (Key×Bool)),xs.foldl (fun m (x:Tx)=>x.2.2.2.1.foldl lp m) m=(flatK xs).foldl lp m:=by
   intro xs
   induction xs with
   | nil=>intro m;rfl
   | cons x xs ih=>intro m;rw[List.foldl_cons,ih];simp[flatK,List.foldl_append]
  rw[this]
 have:=bF (B:=fun self v=>bE.B0 k self (fun z=>bE.Q0 k (rows,xs,()) z) (rows,xs,()) v) rows (fun (m:List (Key×Bool)) (i:Int)=>(m,i)) (fun _ m r=>.inr (lp m (r.1,r.2.1,()))) (fun m=>some ((flatK xs).foldl lp m,())) (fun _ _=>True) (by rw[ah];omega)
  (fun i hi m self _=>by
   show bE.b0 _ _ _ _=_
   unfold bE.b0
   have aj:(i:Int) < (rows.length:Int):=by omega
   simp only[aj,decide_true,cond_true,Int.natCast_nonneg,if_true,Int.toNat_natCast,List.getElem?_eq_getElem hi,Option.bind_some]
   rfl)
  (fun _ _ _ _ _ _=>trivial) (fun s self _=>by
   show bE.b0 _ _ _ _=_
   unfold bE.b0
   simp only[Int.lt_irrefl,decide_false,cond_false]
   exact second s) (cv []) trivial k (by omega)
 rw[ei (g:=fun m (r:Row)=>lp m (r.1,r.2.1,()))] at this
 refine Eq.trans this ?_
 have e1:rows.foldl (fun m (r:Row)=>lp m (r.1,r.2.1,())) (cv [])=(mF rows).foldl lp (cv []):=by unfold mF;rw[List.foldl_map]
 rw[e1,<- List.foldl_append]
 exact congrArg (fun m=>some (m,())) (Fo (o8 rows xs) [])
theorem wL {O:Type} (x:Key) (E:Bool->Option O):∀ (ys:List Key) (j:Nat) (b:Bool),aV (fun _ b y=>if b then .inr (!decide (y=x)) else .inl (E false)) E j ys b=if b then E (!dc ys x) else E false
 | [],_,b=>by cases b <;> rfl
 | y::ys,j,b=>by
  cases b with
  | false=>simp[aV]
  | true=>
   simp only[aV,if_true]
   rw[wL x E ys]
   have:dc (y::ys) x=(decide (y=x)||dc ys x):=rfl
   rw[this]
   cases decide (y=x) <;> simp
theorem Ds {O:Type} (all:List Key) (E:Int->O):∀ (ys pre:List Key) (n:Int),all=pre++ys->aV (fun i n x=>.inr (if dc (all.take i) x then n else n+1)) E pre.length ys n=E (n+(vT pre ys:Int))
 | [],pre,n,_=>by simp[aV,vT]
 | y::ys,pre,n,h=>by
  simp only[aV]
  have ht:all.take pre.length=pre:=by rw[h];simp
  rw[ht]
  have:=Ds all E ys (pre++[y]) (if dc pre y then n else n+1) (by rw[h];simp)
  rw[List.length_append] at this
  refine Eq.trans this ?_
  congr 1
  simp only[vT]
  cases dc pre y <;> simp <;> omega
def AF (k:Key):List Key:=if k.2.1=0 then [] else [k]
def He (rows:List Row) (xs:List Tx) (k:Key):Nat:=(dd [] (o8 rows xs++AF k)).length
theorem Dt (rows:List Row) (xs:List Tx) (kk:Key) (hr:rows.length<=1048576) (hx:xs.length<=1000) (h:∀ x ∈ xs,List.length x.2.2.2.1<=1000):aO.ab (rows,xs,kk,())=some ((He rows xs kk:Int),()):=by
 refine ag (k:=3000000) fun k hk=>(aO.aa k _).trans ?_
 have Aq:(flatK xs).length<=1000*xs.length:=by
  clear hx
  induction xs with
  | nil=>simp[flatK]
  | cons x xs ih=>
   have h1:=h x (by simp)
   have Y:=ih fun y hy=>h y (by simp[hy])
   have:flatK (x::xs)=x.2.2.2.1++flatK xs:=by simp[flatK]
   rw[this,List.length_append,List.length_cons]
   omega
 have Ha:∀ all:List Key,all.length<=2100000->aO.r2 k (rows,xs,kk,()) (all,(0:Int),(0:Int))=some ((vT [] all:Int),()):=fun all ja=>by
  have inner:∀ (self:((List Key)×Int×Int)->Option aO.Out) (e4:Int->Option aO.Out) (i:Nat) (hi:i < all.length) (n:Int),aO.r3 k self e4 (rows,xs,kk,()) all n (i:Int) (true,(0:Int))=if dc (all.take i) all[i] then self (all,n,ae ((i:Int)+1)) else self (all,ae (n+1),ae ((i:Int)+1)):=fun self e4 i hi n=>by
   have eo:(all.take i).length=i:=by simp;omega
   have:=bF (B:=fun ca v=>aO.B3 k ca (fun z=>aO.Q2 k self e4 (rows,xs,kk,()) all n (i:Int) z) (rows,xs,kk,()) all n (i:Int) v) (all.take i) (fun (b:Bool) (j:Int)=>(b,j)) (fun _ b y=>if b then .inr (!decide (y=all[i])) else .inl (if false then self (all,ae (n+1),ae ((i:Int)+1)) else self (all,n,ae ((i:Int)+1)))) (fun b=>if b then self (all,ae (n+1),ae ((i:Int)+1)) else self (all,n,ae ((i:Int)+1))) (fun _ _=>True) (by rw[ah];omega)
    (fun j hj b ca _=>by
     show aO.b3 _ _ _ _ _ _ _=_
     unfold aO.b3
     rw[eo] at hj
     have aj:(j:Int) < (i:Int):=by omega
     have EZ:j < all.length:=by omega
     have c1:(0:Int)<=(j:Int)/\(j:Int) < (all.length:Int):=by omega
     have c2:(0:Int)<=(i:Int)/\(i:Int) < (all.length:Int):=by omega
     simp only[aj,c1,c2,and_self,decide_true,cond_true,if_true,Int.toNat_natCast,List.getElem?_eq_getElem EZ,List.getElem?_eq_getElem hi,Option.bind_some,tZ,List.getElem_take]
     cases b <;> rfl)
    (fun _ _ _ _ _ _=>trivial) (fun b ca _=>by
     show aO.b3 _ _ _ _ _ _ _=_
     unfold aO.b3
     simp only[eo,Int.lt_irrefl,decide_false,cond_false]
     cases b <;> rfl) true trivial k (by omega)
   have e:=wL all[i] (fun b=>if b then self (all,ae (n+1),ae ((i:Int)+1)) else self (all,n,ae ((i:Int)+1))) (all.take i) 0 true
   refine (Eq.trans this e).trans ?_
   cases dc (all.take i) all[i] <;> rfl
  have:=bC (B:=fun self v=>aO.B2 k self (fun z=>aO.Q3 k (rows,xs,kk,()) z) (rows,xs,kk,()) v) all (fun (n:Int) (i:Int)=>(all,n,i)) (fun i n x=>.inr (if dc (all.take i) x then n else n+1)) (fun n=>(n,())) (fun i n=>0<=n/\n<=(i:Int)) (by rw[ah];omega)
   (fun i hi n self hI=>by
    show aO.b2 _ _ _ _ _=_
    unfold aO.b2
    have aj:(i:Int) < (all.length:Int):=by omega
    simp only[aj,decide_true,cond_true]
    rw[inner self _ i hi n,aJ (n:=n+1) (by omega)]
    cases dc (all.take i) all[i] <;> rfl)
   (fun i hi n n' hI hs=>by
    injection hs with hs
    rw[<-hs]
    split <;> omega) (fun s self _=>by
    show aO.b2 _ _ _ _ _=_
    unfold aO.b2
    simp only[Int.lt_irrefl,decide_false,cond_false]
    rfl) 0 (by omega) k (by omega)
  have e:=Ds all (fun n=>(n,())) all [] 0 rfl
  refine (Eq.trans this (congrArg some e)).trans ?_
  rw[Int.zero_add]
 have second:aO.r1 k (rows,xs,kk,()) (mF rows,(0:Int))=some ((vT [] (o8 rows xs++AF kk):Int),()):=by
  have ol:(mF rows).length=rows.length:=by simp[mF]
  have:=bF (B:=fun self v=>aO.B1 k self (fun z=>aO.Q1 k (rows,xs,kk,()) z) (rows,xs,kk,()) v) xs (fun (s:List Key) (i:Int)=>(s,i)) (fun _ s x=>.inr (s++x.2.2.2.1)) (fun s=>aO.r2 k (rows,xs,kk,()) (s++AF kk,(0:Int),(0:Int))) (fun i s=>s.length<=1048576+1000*i) (by rw[ah];omega)
   (fun i hi s self hI=>by
    show aO.b1 _ _ _ _=_
    unfold aO.b1
    have aj:(i:Int) < (xs.length:Int):=by omega
    have LX:=h _ (List.getElem_mem hi)
    have hc:s.length+List.length (xs[i]).2.2.2.1<=bg:=cD (by omega)
    simp only[aj,decide_true,cond_true,Int.natCast_nonneg,if_true,Int.toNat_natCast,List.getElem?_eq_getElem hi,Option.bind_some,hc])
   (fun i hi s s' hI hs=>by
    injection hs with hs
    have LX:=h _ (List.getElem_mem hi)
    rw[<-hs,List.length_append];omega) (fun s self hI=>by
    show aO.b1 _ _ _ _=_
    unfold aO.b1
    simp only[Int.lt_irrefl,decide_false,cond_false]
    show aO.q1 _ _ _=_
    unfold aO.q1 AF
    have hc:s.length+[kk].length<=bg:=cD (by simp only[List.length_cons,List.length_nil];omega)
    by_cases h0:kk.2.1=0
    ·simp only[h0,decide_true,Bool.not_true,cond_false,if_true,List.append_nil]
    ·simp only[h0,decide_false,Bool.not_false,cond_true,if_false,hc,if_true]) (mF rows) (by omega) k (by omega)
  rw[ei (g:=fun s (x:Tx)=>s++x.2.2.2.1)] at this
  refine Eq.trans this ?_
  have e:∀ (xs:List Tx) (s:List Key),xs.foldl (fun s (x:Tx)=>s++x.2.2.2.1) s=s++flatK xs:=by
   intro xs
   induction xs with
   | nil=>intro s;simp[flatK]
   | cons x xs ih=>intro s;rw[List.foldl_cons,ih];simp[flatK]
  rw[e]
  have hex:(AF kk).length<=1:=by unfold AF;split <;> simp
  exact Ha _ (by rw[List.length_append,List.length_append,ol];omega)
 have:=bF (B:=fun self v=>aO.B0 k self (fun z=>aO.Q0 k (rows,xs,kk,()) z) (rows,xs,kk,()) v) rows (fun (s:List Key) (i:Int)=>(s,i)) (fun _ s r=>.inr (s++[(r.1,r.2.1,())])) (fun s=>aO.r1 k (rows,xs,kk,()) (s,(0:Int))) (fun i s=>s.length=i) (by rw[ah];omega)
  (fun i hi s self hI=>by
   show aO.b0 _ _ _ _=_
   unfold aO.b0
   have aj:(i:Int) < (rows.length:Int):=by omega
   have hc:s.length+[((rows[i]).1,(rows[i]).2.1,())].length<=bg:=cD (by simp only[List.length_cons,List.length_nil];omega)
   simp only[aj,decide_true,cond_true,Int.natCast_nonneg,if_true,Int.toNat_natCast,List.getElem?_eq_getElem hi,Option.bind_some]
   rw[if_pos hc])
  (fun i hi s s' hI hs=>by injection hs with hs;rw[<-hs];simp[hI]) (fun s self _=>by
   show aO.b0 _ _ _ _=_
   unfold aO.b0
   simp only[Int.lt_irrefl,decide_false,cond_false]
   rfl) [] rfl k (by omega)
 rw[ei (g:=fun s (r:Row)=>s++[(r.1,r.2.1,())])] at this
 have e:∀ (rows:List Row) (s:List Key),rows.foldl (fun s (r:Row)=>s++[(r.1,r.2.1,())]) s=s++mF rows:=by
  intro rows
  induction rows with
  | nil=>intro s;simp[mF]
  | cons r rows ih=>intro s;rw[List.foldl_cons,ih];simp[mF]
 rw[e,List.nil_append,second] at this
 refine Eq.trans this ?_
 have:=zN (o8 rows xs++AF kk) [] [] (fun _=>Iff.rfl)
 simp only[List.length_nil,Nat.zero_add] at this
 unfold He
 rw[this]
theorem Et (rows:List Row) (xs:List Tx) (hr:rows.length<=1048576) (hx:xs.length<=1000) (h:∀ x ∈ xs,List.length x.2.2.2.1<=1000):aO.ab (rows,xs,((0:Int),(0:Int),()),())=some ((pH rows xs:Int),()):=by
 rw[Dt rows xs _ hr hx h]
 unfold He AF
 simp only[if_true,List.append_nil]
 rfl
theorem Jl {ks:List Key} (h:oW ks=0):∀ k ∈ ks,pE k=true:=by
 have main:∀ (ys:List Key) (j:Nat),(aV (fun i (_:Unit) k=>if jT ks i k=0 then .inr () else .inl (jT ks i k)) (fun _=>(0:Int)) j ys ())=0->∀ y ∈ ys,pE y=true:=by
  intro ys
  induction ys with
  | nil=>intro j _ y hy;cases hy
  | cons y ys ih=>
   intro j hf z hz
   simp only[aV] at hf
   by_cases h0:jT ks j y=0
   ·rw[if_pos h0] at hf
    rcases List.mem_cons.1 hz with rfl | hz
    ·unfold jT at h0
     split at h0
     ·assumption
     ·cases h0
    ·exact ih (j+1) hf z hz
   ·rw[if_neg h0] at hf
    exact absurd hf h0
 exact main ks 0 h
structure Hf (xs:List Tx):Prop where
 len:xs.length<=4
 ch:∀ x ∈ xs,∀ c ∈ (x.2.1:List Change),mE c=0
 Pz:∀ x ∈ xs,List.length x.2.2.2.1<=12
 Hg:∀ x ∈ xs,List.length x.2.1<=12
 keys:∀ x ∈ xs,∀ k ∈ (x.2.2.2.1:List Key),pE k=true
theorem wM {α:Type} {c:α->Int}:∀ {xs:List α},hU c xs=0->∀ x ∈ xs,c x=0
 | [],_,_,h=>by cases h
 | y::ys,h,x,hx=>by
  simp only[hU] at h
  split at h
  ·rcases List.mem_cons.1 hx with e | e
   ·subst e;assumption
   ·exact wM h x e
  ·rename_i hn;exact absurd h hn
theorem Fq:∀ (xs:List Tx) (n:Int),0<=n->n<=xs.foldl (fun n x=>n+(List.length x.2.1:Int)) n/\∀ x ∈ xs,(List.length x.2.1:Int)<=xs.foldl (fun n x=>n+(List.length x.2.1:Int)) n
 | [],n,h=>⟨Int.le_refl _,fun x hx=>by cases hx⟩
 | y::ys,n,h=>by
  obtain ⟨h1,Y⟩:=Fq ys (n+(List.length y.2.1:Int)) (by omega)
  simp only[List.foldl_cons]
  refine ⟨by omega,fun x hx=>?_⟩
  rcases List.mem_cons.1 hx with e | e
  ·subst e;omega
  ·exact Y x e
theorem Jm {xs:List Tx} (h:sA xs=0):Hf xs:=by
 unfold sA at h
 split at h
 ·cases h
 ·rename_i hl
  split at h
  ·rename_i he
   split at h
   ·split at h
    ·cases h
    ·rename_i hc
     have each:∀ x ∈ xs,pe x=0:=fun x hx=>by
      obtain ⟨i,hi,rfl⟩:=List.mem_iff_getElem.1 hx
      exact (un (si xs he i hi)).2.1
     refine ⟨by omega,fun x hx c Qh=>?_,fun x hx=>?_,fun x hx=>?_,fun x hx=>?_⟩
     ·have h1:=each x hx
      unfold pe at h1
      split at h1
      ·rename_i hu
       have Y:=wM hu c Qh
       unfold pF at Y
       split at Y
       ·rename_i hs
        unfold yC at hs
        split at hs
        ·assumption
        ·rename_i hn;exact absurd hs hn
       ·rename_i hn;exact absurd Y hn
      ·rename_i hn;exact absurd h1 hn
     ·have h1:=each x hx
      unfold pe at h1
      split at h1
      ·unfold mn at h1
       split at h1
       ·cases h1
       ·rename_i hm
        simp only[Bool.or_eq_true,decide_eq_true_eq,not_or] at hm
        omega
      ·rename_i hn;exact absurd h1 hn
     ·have:=(Fq xs 0 (Int.le_refl _)).2 x hx
      unfold qf at hc
      omega
     ·have h1:=each x hx
      unfold pe at h1
      split at h1
      ·unfold mn at h1
       split at h1
       ·cases h1
       ·split at h1
        ·exact Jl h1
        ·cases h1
      ·rename_i hn;exact absurd h1 hn
   ·cases h
  ·rename_i hn;exact absurd h hn
end OT
set_option linter.unusedVariables false
set_option linter.unusedSimpArgs false
namespace OT
open Go
def vU (c:Change):Change:=(c.2.2.1,c.2.2.2.1,c.1,c.2.1,())
def iB (cs:List Change):List Change:=cs.reverse.map vU
theorem wr (cs:List Change):(iB cs).length=cs.length:=by simp[iB]
theorem Fs {cs:List Change} {c:Change} (h:c ∈ iB cs):∃ d ∈ cs,c=vU d:=by
 unfold iB at h
 obtain ⟨d,h1,Y⟩:=List.mem_map.1 h
 exact ⟨d,List.mem_reverse.1 h1,Y.symm⟩
theorem Du (a b:Row):sameKey a b=sameKey b a:=by
 rw[ua,ua]
 by_cases h:rk a=rk b
 ·simp[h]
 ·have:¬ rk b=rk a:=fun e=>h e.symm
  simp[h,this]
theorem MH {c:Change} (h:mE c=0):mE (vU c)=0:=by
 obtain ⟨a,ra,b,rb,⟨⟩⟩:=c
 unfold mE at h ⊢
 simp only[vU]
 have hk:=Du ra rb
 cases a <;> cases b
 ·exact h
 ·simp at h ⊢
  by_cases hr:gW rb=0
  ·exact fun _=>hr
  ·simp[hr] at h
 ·simp at h ⊢
  by_cases hr:gW ra=0
  ·exact hr
  ·simp[hr] at h
 ·simp only[hk] at h
  by_cases hs:sameKey rb ra=true
  ·by_cases hr:gW ra=0
   ·by_cases hb:gW rb=0
    ·simp[hs,hr,hb] at h ⊢
     try omega
    ·simp[hs,hr,hb] at h ⊢
   ·by_cases hb:gW rb=0
    ·simp[hs,hr,hb] at h ⊢
    ·simp[hs,hr,hb] at h ⊢
  ·simp[hs] at h
theorem vV (cs:List Change) (hl:cs.length<=1048576) {O:Type} {B:((List Change×Int)->Option O)->(List Change×Int)->Option O} {E:List Change->Option O}
  (dM:∀ (m:Nat) (hm:m < cs.length) acc self,acc.length<=1048576->B self (acc,(m:Int))=self (acc++[vU cs[m]],ae ((m:Int) - 1))) (iT:∀ acc self,B self (acc,(-1:Int))=E acc) :
  ∀ k,cs.length < k->ak B k ([],ae ((cs.length:Int) - 1))=E (iB cs):=by
 have main:∀ (m:Nat) (acc:List Change),m<=cs.length->acc.length+m<=cs.length->∀ k,m < k->ak B k (acc,(m:Int) - 1)=E (acc++(cs.take m).reverse.map vU):=by
  intro m
  induction m with
  | zero=>
   intro acc _ _ k hk
   cases k with
   | zero=>omega
   | succ k=>
    show B (ak B k) _=_
    have:((0:Nat):Int) - 1=-1:=by omega
    rw[this,iT]
    simp
  | succ m ih=>
   intro acc hm ha k hk
   cases k with
   | zero=>omega
   | succ k=>
    show B (ak B k) _=_
    have e:((m+1:Nat):Int) - 1=(m:Int):=by omega
    rw[e,dM m (by omega) acc _ (by omega),aJ (by omega),ih _ (by omega) (by simp;omega) k (by omega),List.take_succ_eq_append_getElem (by omega),List.reverse_append,List.map_append,List.append_assoc]
    rfl
 intro k hk
 have:=main cs.length [] (Nat.le_refl _) (by simp) k hk
 rw[aJ (by omega)]
 simpa [iB] using this
theorem Hh (cs:List Change) (hl:cs.length<=1048576):dT.ab (cs,())=some (iB cs,()):=by
 refine ag (k:=cs.length+1) fun k hk=>(dT.aa k _).trans ?_
 refine vV cs hl (B:=fun self v=>dT.B0 0 self (fun z=>dT.Q0 0 (cs,()) z) (cs,()) v) (E:=fun z=>some (z,())) (fun m hm acc self ha=>?_) (fun acc self=>?_) k (by omega)
 ·show dT.b0 _ _ _ _=_
  unfold dT.b0
  have hc:acc.length+[vU cs[m]].length<=bg:=cD (by simp only[List.length_cons,List.length_nil];omega)
  simp only[Int.natCast_nonneg,decide_true,cond_true,if_true,Int.toNat_natCast,List.getElem?_eq_getElem hm,Option.bind_some]
  exact if_pos hc
 ·show dT.b0 _ _ _ _=_
  unfold dT.b0
  rfl
theorem Hj (cs:List Change) (hl:cs.length<=1048576):fO.ab (cs,())=some (iB cs,()):=by
 refine ag (k:=cs.length+1) fun k hk=>(fO.aa k _).trans ?_
 refine vV cs hl (B:=fun self v=>fO.B0 0 self (fun z=>fO.Q0 0 (cs,()) z) (cs,()) v) (E:=fun z=>some (z,())) (fun m hm acc self ha=>?_) (fun acc self=>?_) k (by omega)
 ·show fO.b0 _ _ _ _=_
  unfold fO.b0
  have hc:acc.length+[vU cs[m]].length<=bg:=cD (by simp only[List.length_cons,List.length_nil];omega)
  simp only[Int.natCast_nonneg,decide_true,cond_true,if_true,Int.toNat_natCast,List.getElem?_eq_getElem hm,Option.bind_some]
  exact if_pos hc
 ·show fO.b0 _ _ _ _=_
  unfold fO.b0
  rfl
def fG:List Row->List Change->Option (List Row)
 | s,[]=>some s
 | s,c::cs=>if nO s c then fG (l8 s c) cs else none
theorem back_append:∀ (a b:List Change) (s:List Row),fG s (a++b)=(fG s a).bind fun t=>fG t b
 | [],b,s=>rfl
 | c::a,b,s=>by
  simp only[List.cons_append,fG]
  split
  ·exact back_append a b _
  ·rfl
theorem AG {O:Type} (bad:O) (fin:List Row->O):∀ (cs:List Change) (i:Nat) (s:List Row),aV (fun _ s c=>if nO s c then .inr (l8 s c) else .inl bad) fin i cs s=match fG s cs with | some t=>fin t | none=>bad
 | [],_,_=>rfl
 | c::cs,i,s=>by
  simp only[aV,fG]
  by_cases h:nO s c=true
  ·simp only[h,if_true];exact AG bad fin cs _ _
  ·simp[h]
theorem vW:∀ (cs:List Change) (s t:List Row),Good s->(∀ c ∈ cs,mE c=0)->fG s cs=some t->Good t/\t.length<=s.length+cs.length
 | [],s,t,h,_,hb=>by injection hb with hb;subst hb;exact ⟨h,by simp⟩
 | c::cs,s,t,h,hc,hb=>by
  simp only[fG] at hb
  split at hb
  ·have h1:=vW cs (l8 s c) t (sc h (hc c (by simp))) (fun d hd=>hc d (by simp[hd])) hb
   have Y:=ue s c
   exact ⟨h1.1,by simp only[List.length_cons];omega⟩
  ·cases hb
theorem Dv {O α:Type} {f:Nat->Unit->α->Sum O Unit} {fin:Unit->O}:∀ (xs:List α) (j:Nat),(∀ i (hi:i < xs.length),f (j+i) () xs[i]=.inr ())->aV f fin j xs ()=fin ()
 | [],_,_=>rfl
 | x::xs,j,h=>by
  have h0:=h 0 (by simp)
  simp only[Nat.add_zero,List.getElem_cons_zero] at h0
  simp only[aV,h0]
  exact Dv xs (j+1) fun i hi=>by
   have:=h (i+1) (by simp;omega)
   rw[show j+1+i=j+(i+1) by omega]
   simpa using this
theorem Hk {xs:List Row} (h:Good xs) (hl:xs.length<=60):l9 xs=0:=by
 unfold l9
 rw[if_neg (by omega),Dv xs 0 fun i hi=>?_]
 unfold ln
 rw[if_pos (h.ok _ (List.getElem_mem hi)),Nat.zero_add]
 by_cases h0:0 < i
 ·rw[if_pos h0,List.getElem?_eq_getElem (show i - 1 < xs.length by omega)]
  have hu:=h.up
  unfold up at hu
  rw[List.pairwise_iff_getElem] at hu
  have:=hu (i - 1) i (by omega) hi (by omega)
  simp only[this,if_true]
 ·rw[if_neg h0]
theorem Hl {s:List Row} {cs:List Change} (h:Good s) (hc:∀ c ∈ cs,mE c=0) (hl:s.length+cs.length<=60):yM s cs=match fG s cs with | some t=>((0:Int),t,()) | none=>((8:Int),([]:List Row),()):=by
 unfold yM
 rw[if_pos (Hk h (by omega))]
 have main:∀ (cs:List Change) (s:List Row) (i:Nat),Good s->(∀ c ∈ cs,mE c=0)->s.length+cs.length<=60->(aV m_ rH i cs s).1=match fG s cs with | some t=>((0:Int),t,()) | none=>((8:Int),([]:List Row),()):=by
  intro cs
  induction cs with
  | nil=>
   intro s i h _ hl
   simp only[aV,rH,fG]
   rw[if_neg (by simp at hl;omega)]
  | cons c cs ih=>
   intro s i h hc hl
   simp only[aV,m_,fG,hc c (by simp),if_true]
   by_cases hf:nO s c=true
   ·simp only[hf,if_true]
    have:=ue s c
    exact ih _ _ (sc h (hc c (by simp))) (fun d hd=>hc d (by simp[hd])) (by simp at hl;omega)
   ·simp[hf]
 exact main cs s 0 h hc hl
def o9 (xs:List Tx):List Change:=xs.flatMap fun x=>iB x.2.1
theorem uo {O:Type} (bad:O) (fin:List Row->O):∀ (xs:List Tx) (i:Nat) (s:List Row),aV (fun _ s x=>match fG s (iB x.2.1) with | some t=>.inr t | none=>.inl bad) fin i xs s=match fG s (o9 xs) with | some t=>fin t | none=>bad
 | [],_,_=>rfl
 | x::xs,i,s=>by
  have hb:o9 (x::xs)=iB x.2.1++o9 xs:=by simp[o9]
  rw[hb,back_append]
  simp only[aV]
  cases fG s (iB x.2.1) with
  | none=>rfl
  | some t=>simp only[Option.bind_some];exact uo bad fin xs _ _
theorem y8 {cs:List Change} (h:∀ c ∈ cs,mE c=0):∀ c ∈ iB cs,mE c=0:=fun c hc=>by
 obtain ⟨d,h1,rfl⟩:=Fs hc
 exact MH (h d h1)
theorem OD {cs:List Change} (h:∀ c ∈ cs,cl c):∀ c ∈ iB cs,cl c:=fun c hc=>by
 obtain ⟨d,h1,rfl⟩:=Fs hc
 exact ⟨(h d h1).2,(h d h1).1⟩
theorem MI {s:List Row} (h:Good s):∀ x ∈ s,rl x:=fun x hx=>by
 have:=I1 (h.ok x hx)
 unfold rl
 rw[ah]
 omega
theorem Dw (s:List Row) (cs:List Change) (h:Good s) (hc:∀ c ∈ cs,mE c=0) (hl:s.length+cs.length<=1000):fd.ab (s,cs,())=some (match fG s (iB cs) with | some t=>(t,true,()) | none=>(([]:List Row),false,())):=by
 refine ag (k:=1001) fun k hk=>(fd.aa k _).trans ?_
 unfold fd.p
 rw[Hh cs (by omega)]
 simp only[Option.bind_some]
 have hlen:=wr cs
 have LY:=y8 hc
 have:=bC (B:=fun self v=>fd.B0 0 self (fun z=>fd.Q0 0 (s,cs,()) (iB cs) z) (s,cs,()) (iB cs) v) (iB cs) (fun (s:List Row) (i:Int)=>(s,i)) (fun _ s c=>if nO s c then .inr (l8 s c) else .inl (([]:List Row),false,())) (fun s=>(s,true,())) (fun i t=>Good t/\t.length<=s.length+i) (by rw[ah];omega)
  (fun i hi t self hI=>by
   show fd.b0 _ _ _ _ _=_
   unfold fd.b0
   have aj:(i:Int) < ((iB cs).length:Int):=by omega
   have dM:(0:Int)<=(i:Int)/\(i:Int) < ((iB cs).length:Int):=by omega
   simp only[aj,dM,and_self,decide_true,cond_true,if_true,Int.toNat_natCast,List.getElem?_eq_getElem hi,Option.bind_some]
   rw[IW t _ hI.1.up (by omega) (E6 (LY _ (List.getElem_mem hi))).1]
   cases nO t (iB cs)[i] <;> rfl)
  (fun i hi t t' hI hs=>by
   split at hs
   ·injection hs with hs
    subst hs
    have:=ue t (iB cs)[i]
    exact ⟨sc hI.1 (LY _ (List.getElem_mem hi)),by omega⟩
   ·cases hs) (fun t self _=>by
   show fd.b0 _ _ _ _ _=_
   unfold fd.b0
   simp only[Int.lt_irrefl,decide_false,cond_false]
   rfl) s ⟨h,by omega⟩ k (by omega)
 rw[AG] at this
 refine Eq.trans this ?_
 cases fG s (iB cs) <;> rfl
theorem Eu (rows:List Row) (xs:List Tx) (h:Good rows) (hl:rows.length<=12) (hx:Hf xs):ff.ab (rows,xs,())=some (match fG rows (o9 xs) with | some t=>(t,true,()) | none=>(([]:List Row),false,())):=by
 refine ag (k:=10) fun k hk=>(ff.aa k _).trans ?_
 unfold ff.p
 have hc:([]:List Row).length+rows.length<=bg:=cD (by simp only[List.length_nil];omega)
 rw[if_pos hc,List.nil_append]
 have TF:=hx.len
 have:=bC (B:=fun self v=>ff.B0 0 self (fun z=>ff.Q0 0 (rows,xs,()) z) (rows,xs,()) v) xs (fun (s:List Row) (i:Int)=>(s,i)) (fun _ s x=>match fG s (iB x.2.1) with | some t=>.inr t | none=>.inl (([]:List Row),false,())) (fun s=>(s,true,())) (fun i t=>Good t/\t.length<=12+12*i) (by rw[ah];omega)
  (fun i hi t self hI=>by
   show ff.b0 _ _ _ _=_
   unfold ff.b0
   have aj:(i:Int) < (xs.length:Int):=by omega
   have hu:=hx.Hg _ (List.getElem_mem hi)
   simp only[aj,decide_true,cond_true,Int.natCast_nonneg,if_true,Int.toNat_natCast,List.getElem?_eq_getElem hi,Option.bind_some]
   rw[Dw t _ hI.1 (hx.ch _ (List.getElem_mem hi)) (by omega)]
   cases fG t (iB (xs[i]).2.1) <;> rfl)
  (fun i hi t t' hI hs=>by
   have hu:=hx.Hg _ (List.getElem_mem hi)
   cases hb:fG t (iB (xs[i]).2.1) with
   | none=>rw[hb] at hs;cases hs
   | some q=>
    rw[hb] at hs
    injection hs with hs
    subst hs
    have:=vW _ _ _ hI.1 (y8 (hx.ch _ (List.getElem_mem hi))) hb
    rw[wr] at this
    exact ⟨this.1,by omega⟩) (fun t self _=>by
   show ff.b0 _ _ _ _=_
   unfold ff.b0
   simp only[Int.lt_irrefl,decide_false,cond_false]
   rfl) rows ⟨h,by omega⟩ k (by omega)
 rw[uo] at this
 refine Eq.trans this ?_
 cases fG rows (o9 xs) <;> rfl
theorem Dx (rows:List Row) (xs:List Tx) (h:Good rows) (hl:rows.length<=12) (hx:Hf xs) (ht:wI xs):cZ.ab (rows,xs,())=some (match fG rows (o9 xs) with | some t=>(t,(0:Int),()) | none=>(([]:List Row),(8:Int),())):=by
 refine ag (k:=10) fun k hk=>(cZ.aa k _).trans ?_
 unfold cZ.p
 have TF:=hx.len
 have:=bC (B:=fun self v=>cZ.B0 0 self (fun z=>cZ.Q0 0 (rows,xs,()) z) (rows,xs,()) v) xs (fun (s:List Row) (i:Int)=>(s,i)) (fun _ s x=>match fG s (iB x.2.1) with | some t=>.inr t | none=>.inl (([]:List Row),(8:Int),())) (fun s=>(s,(0:Int),())) (fun i t=>Good t/\t.length<=12+12*i) (by rw[ah];omega)
  (fun i hi t self hI=>by
   show cZ.b0 _ _ _ _=_
   unfold cZ.b0
   have aj:(i:Int) < (xs.length:Int):=by omega
   have hu:=hx.Hg _ (List.getElem_mem hi)
   have LY:=y8 (hx.ch _ (List.getElem_mem hi))
   have QH:=ht.2 _ (List.getElem_mem hi)
   simp only[aj,decide_true,cond_true,Int.natCast_nonneg,if_true,Int.toNat_natCast,List.getElem?_eq_getElem hi,Option.bind_some]
   rw[Hj _ QH.1]
   simp only[Option.bind_some]
   have Lh:=wr (xs[i]).2.1
   rw[C6 t _ (by rw[ah];omega) (MI hI.1) (by omega) (OD QH.2.2.2),Hl hI.1 LY (by omega)]
   cases fG t (iB (xs[i]).2.1) <;> rfl)
  (fun i hi t t' hI hs=>by
   have hu:=hx.Hg _ (List.getElem_mem hi)
   cases hb:fG t (iB (xs[i]).2.1) with
   | none=>rw[hb] at hs;cases hs
   | some q=>
    rw[hb] at hs
    injection hs with hs
    subst hs
    have:=vW _ _ _ hI.1 (y8 (hx.ch _ (List.getElem_mem hi))) hb
    rw[wr] at this
    exact ⟨this.1,by omega⟩) (fun t self hI=>by
   show cZ.b0 _ _ _ _=_
   unfold cZ.b0
   simp only[Int.lt_irrefl,decide_false,cond_false,cZ.Q0,cZ.q0]
   rw[wC t (by omega)]
   rfl) rows ⟨h,by omega⟩ k (by omega)
 rw[uo] at this
 refine Eq.trans this ?_
 cases fG rows (o9 xs) <;> rfl
def y9 (n:Int) (xs:List Tx):Bool:=match xs[xs.length - 1]? with
 | some x=>decide (n<=x.1)
 | none=>false
def pV (p:Plain):Int:=
 if l9 p.1=0 then
  if sA p.2.1=0 then
   if cz p.2.2.1 1 100&&!y9 p.2.2.1 p.2.1 then
    if 12 < pH p.1 p.2.1 then 2 else (match fG p.1 (o9 p.2.1) with | some _=>0 | none=>8)
   else 3
  else sA p.2.1
 else l9 p.1
def LZ (p:Plain):Prop:=List.length p.1<=1048576/\(∀ x ∈ (p.1:List Row),rl x)/\wI p.2.1
theorem Ft {O:Type} (n:Int) (xs:List Tx) (hl:xs.length<=1048576) (bad j:Option O) :
  (bif decide ((0:Int) < (xs.length:Int)) then (if 0<=ae ((xs.length:Int) - (1:Int)) then ((xs[(ae ((xs.length:Int) - (1:Int))).toNat]?).bind fun x5=>bif decide (n<=x5.1) then bad else j) else none) else j)=if y9 n xs then bad else j:=by
 unfold y9
 by_cases h:0 < xs.length
 ·have h1:(0:Int) < (xs.length:Int):=by omega
  have Y:ae ((xs.length:Int) - 1)=((xs.length - 1:Nat):Int):=by rw[aJ (by omega)];omega
  have h3:xs.length - 1 < xs.length:=by omega
  simp only[h1,Y,decide_true,cond_true,Int.natCast_nonneg,if_true,Int.toNat_natCast,List.getElem?_eq_getElem h3,Option.bind_some]
  cases decide (n<=(xs[xs.length - 1]).1) <;> rfl
 ·have h0:xs=[]:=List.eq_nil_of_length_eq_zero (by omega)
  subst h0
  rfl
theorem Dy (p:Plain) (h:LZ p):gF.ab (p,())=some (pV p,()):=by
 obtain ⟨rows,xs,n,⟨⟩⟩:=p
 obtain ⟨h1,Y,h3⟩:=h
 simp only at h1 Y h3
 refine ag (k:=0) fun k _=>(gF.aa k _).trans ?_
 show gF.p _=_
 unfold gF.p pV
 simp only[wB rows (by rw[ah];omega) Y,Hc xs h3,lQ,Jk rows xs h1 h3,Option.bind_some]
 by_cases hr:l9 rows=0
 rotate_left
 ·simp only[hr,decide_false,Bool.not_false,cond_true,if_false]
 by_cases ht:sA xs=0
 rotate_left
 ·simp only[hr,ht,decide_true,decide_false,Bool.not_true,Bool.not_false,cond_true,cond_false,if_true,if_false]
 obtain ⟨hg,_⟩:=ud hr
 have az:=Jm ht
 simp only[hr,ht,decide_true,Bool.not_true,cond_false,if_true]
 have dM:(decide ((1:Int)<=n)&&decide (n<=100))=cz n 1 100:=rfl
 rw[dM]
 cases cz n 1 100 with
 | false=>rfl
 | true=>
  simp only[Bool.not_true,cond_false,Bool.true_and]
  rw[Ft n xs h3.1]
  cases y9 n xs with
  | true=>rfl
  | false=>
   simp only[Bool.not_false,Bool.false_eq_true,if_false,if_true]
   have hlen:(cv (dd [] (o8 rows xs))).length=pH rows xs:=by simp[cv,pH]
   by_cases pz:12 < pH rows xs
   ·have:(12:Int) < ((cv (dd [] (o8 rows xs))).length:Int):=by rw[hlen];omega
    simp only[this,pz,decide_true,cond_true,if_true]
   ·have:¬ (12:Int) < ((cv (dd [] (o8 rows xs))).length:Int):=by rw[hlen];omega
    have ol:rows.length<=12:=by
     have:=AE (xs:=xs) hg.up
     unfold pH at pz
     omega
    simp only[this,pz,decide_false,cond_false,if_false,Dx rows xs hg ol az h3,Option.bind_some]
    cases fG rows (o9 xs) <;> rfl
theorem Dz (p:Plain) (h:LZ p):iK.ab (p,())=some (pV p,()):=by
 obtain ⟨rows,xs,n,⟨⟩⟩:=p
 obtain ⟨h1,Y,h3⟩:=h
 simp only at h1 Y h3
 refine ag (k:=0) fun k _=>(iK.aa k _).trans ?_
 show iK.p _=_
 unfold iK.p pV
 simp only[Eb rows (by rw[ah];omega) Y,Hd xs h3,iR,Option.bind_some]
 by_cases hr:l9 rows=0
 rotate_left
 ·simp only[hr,decide_false,Bool.not_false,cond_true,if_false]
 by_cases ht:sA xs=0
 rotate_left
 ·simp only[hr,ht,decide_true,decide_false,Bool.not_true,Bool.not_false,cond_true,cond_false,if_true,if_false]
 obtain ⟨hg,_⟩:=ud hr
 have az:=Jm ht
 have OE:=Et rows xs h1 (by have:=az.len;omega) (fun x hx=>by have:=az.Pz x hx;omega)
 simp only[hr,ht,decide_true,Bool.not_true,cond_false,if_true,OE,Option.bind_some]
 have dM:(decide ((1:Int)<=n)&&decide (n<=100))=cz n 1 100:=rfl
 rw[dM]
 cases cz n 1 100 with
 | false=>rfl
 | true=>
  simp only[Bool.not_true,cond_false,Bool.true_and]
  rw[Ft n xs h3.1]
  cases y9 n xs with
  | true=>rfl
  | false=>
   simp only[Bool.not_false,Bool.false_eq_true,if_false,if_true]
   by_cases pz:12 < pH rows xs
   ·have:(12:Int) < (pH rows xs:Int):=by omega
    simp only[this,pz,decide_true,cond_true,if_true]
   ·have:¬ (12:Int) < (pH rows xs:Int):=by omega
    have ol:rows.length<=12:=by
     have:=AE (xs:=xs) hg.up
     unfold pH at pz
     omega
    simp only[this,pz,decide_false,cond_false,if_false,Eu rows xs hg ol az,Option.bind_some]
    cases fG rows (o9 xs) <;> rfl
theorem KL {p:Plain} (hv:mB sM p) (hz:zz sM p<=1048576):LZ p:=by
 obtain ⟨rows,xs,n,⟨⟩⟩:=p
 obtain ⟨hr,hx,_⟩:=hv
 replace hz:zz (.U aA) rows+(zz (.U aY) xs+(0+0))<=1048576:=hz
 refine ⟨Nat.le_trans (eS (e:=aA) rows) (by omega),fun x hm=>GO (hr.2 x hm),Nat.le_trans (eS (e:=aY) xs) (by omega),fun x hm=>?_⟩
 have h1:zz aY x+1<=zz (.U aY) xs:=mX (e:=aY) hm
 have Y:zz aY x=0+(zz (.U ap) x.2.1+(zz (.U i64) x.2.2.1+(zz (.U aE) x.2.2.2.1+0))):=rfl
 have h3:List.length x.2.1<=zz (.U ap) x.2.1:=eS (e:=ap) x.2.1
 have h4:List.length x.2.2.1<=zz (.U i64) x.2.2.1:=eS (e:=i64) x.2.2.1
 have h5:List.length x.2.2.2.1<=zz (.U aE) x.2.2.2.1:=eS (e:=aE) x.2.2.2.1
 exact ⟨by omega,by omega,by omega,fun c hc=>Pu ((hx.2 x hm).2.1.2 c hc)⟩
end OT
set_option linter.unusedVariables false
set_option linter.unusedSimpArgs false
namespace OT
open Go
end OT
set_option linter.unusedVariables false
set_option linter.unusedSimpArgs false
set_option linter.unusedSectionVars false
namespace OT
open Go
theorem sY {a b:List UInt8} {i:Nat} (h:i < a.length):aR (a++b) i=aR a i:=by
 unfold aR
 simp only[List.getD_eq_getElem?_getD]
 rw[List.getElem?_append_left h]
theorem Jn {a b:List UInt8} {q:aM×Nat} (h:k_ a=some q):k_ (a++b)=some q:=by
 have h0:=h
 unfold k_ at h
 split at h
 ·cases h
 ·rename_i hc
  have l0:7<=a.length:=by omega
  have l1:aR a 0<=a.length:=by omega
  unfold k_
  have e0:aR (a++b) 0=aR a 0:=sY (by omega)
  have e1:aR (a++b) 1=aR a 1:=sY (by omega)
  have e2:aR (a++b) 2=aR a 2:=sY (by omega)
  have e3:aR (a++b) 3=aR a 3:=sY (by omega)
  have e4:aR (a++b) 4=aR a 4:=sY (by omega)
  rw[e0,e1,e2,e3,e4,List.take_append_of_le_length l1,if_neg (by rw[List.length_append];omega)]
  exact h
theorem wN (b:List UInt8):∀ (k:Nat) (a:List UInt8),a.length < k->(eu k a).2=a.length->eu (k+b.length) (a++b)=((eu k a).1++(mf b).1,a.length+(mf b).2)
 | 0,_,h,_=>by omega
 | k+1,a,hk,h=>by
  cases hr:k_ a with
  | none=>
   simp only[eu,hr] at h
   have:a=[]:=List.eq_nil_of_length_eq_zero h.symm
   subst this
   rw[List.nil_append,mo (k+1+b.length) (b.length+1) b (by omega) (by omega)]
   simp[eu,hr,mf]
  | some q=>
   obtain ⟨r,n⟩:=q
   have hn:=sW hr
   have hd:(a.drop n).length=a.length - n:=List.length_drop
   simp only[eu,hr] at h
   have ih:=wN b k (a.drop n) (by omega) (by omega)
   have e:k+1+b.length=(k+b.length)+1:=by omega
   rw[e]
   simp only[eu,hr,Jn hr,List.drop_append_of_le_length hn.2.1,ih,List.cons_append]
   rw[hd]
   congr 1
   omega
theorem Jo {a b:List UInt8} (h:lc a=true):mf (a++b)=((mf a).1++(mf b).1,a.length+(mf b).2):=by
 have:=wN b (a.length+1) a (by omega) (of_decide_eq_true h)
 unfold mf
 rw[List.length_append,mo (a.length+b.length+1) (a.length+1+b.length) _ (by rw[List.length_append];omega) (by rw[List.length_append];omega)]
 exact this
def mg (l:Log):List aM:=(mf l.1).1++(mf l.2.1).1
theorem rK:∀ (k:Nat) (d:List UInt8),(eu k d).1.length<=d.length
 | 0,d=>Nat.zero_le _
 | k+1,d=>by
  simp only[eu]
  cases hr:k_ d with
  | none=>exact Nat.zero_le _
  | some q=>
   obtain ⟨r,n⟩:=q
   have hn:=sW hr
   have hd:(d.drop n).length=d.length - n:=List.length_drop
   have:=rK k (d.drop n)
   simp only[List.length_cons]
   omega
theorem vX {l:Log} (h:o7 l=0):List.length l.1+List.length l.2.1<=16000/\lc l.1=true/\lc l.2.1=true:=by
 unfold o7 at h
 split at h
 ·cases h
 ·split at h
  ·rename_i a b
   rw[Bool.and_eq_true] at b
   exact ⟨by omega,b.1,b.2⟩
  ·cases h
theorem xu {l:Log} (h:o7 l=0):(mg l).length<=16000:=by
 have h1:=vX h
 unfold mg
 rw[List.length_append]
 have a:=rK (List.length l.1+1) l.1
 have b:=rK (List.length l.2.1+1) l.2.1
 unfold mf
 omega
theorem Ev {l:Log} (h:o7 l=0):gV.ab (l,())=some (mg l,()):=by
 have h1:=vX h
 have Y:=xu h
 refine ag (k:=0) fun k _=>(gV.aa k _).trans ?_
 unfold gV.p
 simp only[uk l.1 (by omega),uk l.2.1 (by omega),Option.bind_some]
 rw[if_pos (cD (by unfold mg at Y;rw[List.length_append] at Y;omega))]
 rfl
theorem KM (d:List UInt8) (hd:d.length<=1048576):du.ab (d,())=some (d,()):=pD d (by omega)
theorem Ew {l:Log} (h:o7 l=0):ip.ab (l,())=some (mg l,()):=by
 have h1:=vX h
 refine ag (k:=0) fun k _=>(ip.aa k _).trans ?_
 unfold ip.p
 simp only[KM l.1 (by omega),Option.bind_some]
 rw[if_pos (cD (by omega)),ul _ (by rw[List.length_append];omega)]
 rw[Jo h1.2.1]
 rfl
theorem xv {α:Type} [DecidableEq α]:∀ {a b:List α},a.length=b.length->kq (fun x y=>decide (x=y)) a b=decide (a=b)
 | [],[],_=>by simp[kq]
 | x::a,y::b,h=>by
  have ih:=xv (a:=a) (b:=b) (by simpa using h)
  unfold kq at ih ⊢
  simp only[List.zip_cons_cons,List.all_cons,ih]
  by_cases h1:x=y <;> by_cases Y:a=b <;> simp[h1,Y]
 | [],_::_,h=>by cases h
 | _::_,[],h=>by cases h
theorem Ey (a b:List (List UInt8)) (hl:a.length<=1000):fh.ab (a,b,())=some (decide (a=b),()):=by
 refine ag (k:=1002) fun k hk=>(fh.aa k _).trans ?_
 unfold fh.p
 by_cases hlen:a.length=b.length
 rotate_left
 ·have e1:¬ ((a.length:Int)=(b.length:Int)):=by omega
  have e2:¬ a=b:=fun h=>hlen (by rw[h])
  simp only[e1,e2,decide_false,Bool.not_false,cond_true]
 have e1:((a.length:Int)=(b.length:Int)):=by omega
 simp only[e1,decide_true,Bool.not_true,cond_false]
 have:=lW (B:=fun self v=>fh.B0 k self (fun z=>fh.Q0 k (a,b,()) z) (a,b,()) v) (xs:=a) (ys:=b) (fun x y=>decide (x=y)) hlen (by rw[ah];omega)
  (fun i hx hy self=>by
   show fh.b0 _ _ _ _=_
   unfold fh.b0
   have aj:(i:Int) < (a.length:Int):=by omega
   simp only[aj,decide_true,cond_true,Int.natCast_nonneg,if_true,Int.toNat_natCast,List.getElem?_eq_getElem hx,List.getElem?_eq_getElem hy,Option.bind_some]
   by_cases h:a[i]=b[i] <;> simp[h]) (fun self=>by
   show fh.b0 _ _ _ _=_
   unfold fh.b0
   rw[decide_eq_false (Int.lt_irrefl _),cond_false]
   rfl) k (by omega)
 refine this.trans ?_
 rw[xv hlen]
theorem Ez (a b:List (List UInt8)) (hl:a.length<=1000) (ha:∀ x ∈ a,x.length<=100000):jd.ab (a,b,())=some (decide (a=b),()):=by
 refine ag (k:=0) fun k _=>(jd.aa k _).trans ?_
 unfold jd.p
 have:∀ f:Nat×Int,bG.ab (a,b,f,())=some (decide (a=b),()):=fun f=>by
  refine ag (k:=1002) fun k hk=>(bG.aa k _).trans ?_
  unfold bG.p
  by_cases hlen:a.length=b.length
  rotate_left
  ·have e1:¬ ((a.length:Int)=(b.length:Int)):=by omega
   have e2:¬ a=b:=fun h=>hlen (by rw[h])
   simp only[e1,e2,decide_false,Bool.not_false,cond_true]
  have e1:((a.length:Int)=(b.length:Int)):=by omega
  simp only[e1,decide_true,Bool.not_true,cond_false]
  have:=lW (B:=fun self v=>bG.B0 k self (fun z=>bG.Q0 k (a,b,f,()) z) (a,b,f,()) v) (xs:=a) (ys:=b) (fun x y=>decide (x=y)) hlen (by rw[ah];omega)
   (fun i hx hy self=>by
    show bG.b0 _ _ _ _=_
    unfold bG.b0
    have aj:(i:Int) < (a.length:Int):=by omega
    simp only[aj,decide_true,cond_true,Int.natCast_nonneg,if_true,Int.toNat_natCast,List.getElem?_eq_getElem hx,List.getElem?_eq_getElem hy,Option.bind_some,Dm _ _ (ha _ (List.getElem_mem hx))]
    by_cases h:a[i]=b[i] <;> simp[h]) (fun self=>by
    show bG.b0 _ _ _ _=_
    unfold bG.b0
    rw[decide_eq_false (Int.lt_irrefl _),cond_false]
    rfl) k (by omega)
  refine this.trans ?_
  rw[xv hlen]
 rw[this]
 rfl
theorem DA {s:eP} (h:jF s.2.1=0):iz.ab (s,())=some (jG s.2.1,()):=by
 have hr:=qD h
 refine ag (k:=0) fun k _=>(iz.aa k _).trans ?_
 unfold iz.p
 rw[wE s.2.1 (fun p hp=>by rw[(hr.1.2 p hp).len,ah];omega)]
 simp only[Option.bind_some]
 rw[wF _ (by have:=vN (sV h);omega)]
 rfl
theorem DB {d:List UInt8} (h:d.length<=64):List.length (cU d).1.2.2.2.2.1.2.2.2.1<=64:=by
 unfold cU
 split
 ·exact Nat.zero_le _
 ·split
  ·exact Nat.zero_le _
  ·show (d.drop 6).length<=64
   rw[List.length_drop]
   omega
theorem DC {p:List UInt8} (s:Nat) (h:p.length<=64):(ep p s).length<=64:=by
 unfold ep
 rw[List.length_take,List.length_drop]
 omega
theorem KN {ps:fP} (h:nc ps) (a b:Int):List.length (iA ps a b).1.2.2.2.2.1.2.2.2.1<=64:=by
 unfold iA
 cases hp:ps[a.toNat]? with
 | none=>exact Nat.zero_le _
 | some p=>
  have hm:=h.2 p (List.mem_of_getElem? hp)
  simp only
  split
  ·exact DB (DC _ (by rw[hm.len];omega))
  ·exact Nat.zero_le _
theorem Fu {ps:fP} (h:jF ps=0):∀ r ∈ jG ps,List.length r.2.2.2.1<=64:=fun r hr=>by
 have hv:=qD h
 rw[Dg (sV h),(GV _).mem_iff,List.mem_map] at hr
 obtain ⟨x,hx,rfl⟩:=hr
 unfold iW at hx
 rw[List.mem_flatMap] at hx
 obtain ⟨y,hy,hx⟩:=hx
 unfold k9 at hx
 split at hx
 ·cases hx
 ·rw[List.mem_singleton] at hx
  subst hx
  unfold qC
  split
  ·exact KN hv.1 _ _
  ·obtain ⟨P,p,t,h1,Y,h3,rfl⟩:=rI.1 hy
   exact DB (DC _ (by rw[(hv.1.2 p (List.mem_of_getElem? h1)).len];omega))
theorem MJ {ps:fP} (h:jF ps=0):∀ r ∈ jG ps,rl r:=fun r hr=>by
 have:=Fu h r hr
 unfold rl
 rw[ah]
 omega
theorem DD {ps:fP} (h:jF ps=0):(jG ps).length<=192:=by
 unfold jG
 rw[List.length_map]
 exact vN (sV h)
def DE (s:eP):Prop:=LW s.2.2.1/\(∀ p ∈ (s.2.1:fP),p.length<=maxLen)/\wI s.2.2.2.1
theorem Jp {s:eP} (h:DE s) (hv:jF s.2.1=0):LZ (jG s.2.1,s.2.2.2.1,s.2.2.2.2.1,()):=
 ⟨by have:=DD hv;show (jG s.2.1).length<=1048576;omega,MJ hv,h.2.2⟩
def Hm (s:eP):Int:=if decide (0 < List.length s.2.1)||(decide (0 < List.length s.2.2.2.1)||decide (0 < List.length s.2.2.1.2.1)) then 1 else if cz s.2.2.2.2.1 1 100 then 0 else 3
def L1 (s:eP):Int:=if jF s.2.1=0 then
        if pV (jG s.2.1,s.2.2.2.1,s.2.2.2.2.1,())=0 then
         if (nP (mg s.2.2.1)).2.1=0/\(nP (mg s.2.2.1)).1=s.2.1 then 0 else 8
        else pV (jG s.2.1,s.2.2.2.1,s.2.2.2.2.1,())
   else jF s.2.1
def nJ (s:eP):Int:=if o7 s.2.2.1=0 then (bif s.1 then L1 s else Hm s) else o7 s.2.2.1
theorem Fx (s:eP) (A:Option (Bool×Unit)) (h:A=some (cz s.2.2.2.2.1 1 100,())) :
  (bif decide ((0:Int) < (List.length s.2.1:Int)) then (some ((1:Int),())) else bif decide ((0:Int) < (List.length s.2.2.2.1:Int)) then (some ((1:Int),())) else bif decide ((0:Int) < (List.length s.2.2.1.2.1:Int)) then (some ((1:Int),())) else A.bind fun r3=>bif !r3.1 then (some ((3:Int),())) else some ((0:Int),()))=some (Hm s,()):=by
 have e:∀ n:Nat,decide ((0:Int) < (n:Int))=decide (0 < n):=fun n=>by rw[decide_eq_decide];omega
 rw[h,e,e,e]
 unfold Hm
 cases decide (0 < List.length s.2.1) <;> cases decide (0 < List.length s.2.2.2.1) <;> cases decide (0 < List.length s.2.2.1.2.1) <;> try rfl
 simp only[Option.bind_some]
 cases cz s.2.2.2.2.1 1 100 <;> rfl
theorem DF {s:eP} (h:DE s):iy.ab (s,())=some (nJ s,()):=by
 refine ag (k:=0) fun k _=>(iy.aa k _).trans ?_
 unfold iy.p nJ
 simp only[G6 _ h.1,Option.bind_some]
 by_cases h0:o7 s.2.2.1=0
 rotate_left
 ·simp only[h0,decide_false,Bool.not_false,cond_true,if_false]
 simp only[h0,decide_true,Bool.not_true,cond_false,if_true]
 cases hu:s.1 with
 | false=>exact Fx s _ (lQ _ _ _)
 | true=>
  simp only[Bool.not_true,cond_false,cond_true]
  unfold L1
  rw[wE s.2.1 h.2.1]
  simp only[Option.bind_some]
  by_cases h1:jF s.2.1=0
  rotate_left
  ·simp only[h1,decide_false,Bool.not_false,cond_true,if_false]
  simp only[h1,decide_true,Bool.not_true,cond_false,if_true]
  rw[wF _ (by have:=vN (sV h1);omega)]
  simp only[Option.bind_some]
  have hp:=Dy _ (Jp h h1)
  unfold jG at hp ⊢
  rw[hp]
  simp only[Option.bind_some]
  generalize pV ((se s.2.1).map (·.1),s.2.2.2.1,s.2.2.2.2.1,())=c
  by_cases Y:c=0
  rotate_left
  ·simp only[Y,decide_false,Bool.not_false,cond_true,if_false]
  simp only[Y,decide_true,Bool.not_true,cond_false,if_true,Ev h0,Option.bind_some,Em _ (show (mg s.2.2.1).length<=maxLen by have:=xu h0;rw[ah];omega)]
  by_cases h3:(nP (mg s.2.2.1)).2.1=0
  rotate_left
  ·simp only[h3,decide_false,Bool.not_false,cond_true,false_and,if_false]
  have hg:=y6 _ h3
  simp only[h3,decide_true,Bool.not_true,cond_false,true_and,Ez _ s.2.1 (show List.length (nP (mg s.2.2.1)).1<=1000 by have:=hg.1;omega) (fun x hx=>by have:=hg.2 x hx;omega),Option.bind_some]
  by_cases h4:(nP (mg s.2.2.1)).1=s.2.1
  ·simp only[h4,decide_true,Bool.not_true,cond_false,if_true]
  ·simp only[h4,decide_false,Bool.not_false,cond_true,if_false]
theorem zO {s:eP} (h:DE s):jK.ab (s,())=some (nJ s,()):=by
 refine ag (k:=0) fun k _=>(jK.aa k _).trans ?_
 unfold jK.p nJ
 simp only[G5 _ h.1,Option.bind_some]
 by_cases h0:o7 s.2.2.1=0
 rotate_left
 ·simp only[h0,decide_false,Bool.not_false,cond_true,if_false]
 simp only[h0,decide_true,Bool.not_true,cond_false,if_true]
 cases hu:s.1 with
 | false=>exact Fx s _ (iR _ _ _)
 | true=>
  simp only[Bool.not_true,cond_false,cond_true]
  unfold L1
  rw[Ec s.2.1 h.2.1]
  simp only[Option.bind_some]
  by_cases h1:jF s.2.1=0
  rotate_left
  ·simp only[h1,decide_false,Bool.not_false,cond_true,if_false]
  simp only[h1,decide_true,Bool.not_true,cond_false,if_true]
  rw[uJ h1]
  simp only[Option.bind_some]
  rw[Dz _ (Jp h h1)]
  simp only[Option.bind_some]
  generalize pV (jG s.2.1,s.2.2.2.1,s.2.2.2.2.1,())=c
  by_cases Y:c=0
  rotate_left
  ·simp only[Y,decide_false,Bool.not_false,cond_true,if_false]
  simp only[Y,decide_true,Bool.not_true,cond_false,if_true,Ew h0,Option.bind_some,El _ (show (mg s.2.2.1).length<=maxLen by have:=xu h0;rw[ah];omega)]
  by_cases h3:(nP (mg s.2.2.1)).2.1=0
  rotate_left
  ·simp only[h3,decide_false,Bool.not_false,cond_true,false_and,if_false]
  have hg:=y6 _ h3
  simp only[h3,decide_true,Bool.not_true,cond_false,true_and,Ey _ s.2.1 (show List.length (nP (mg s.2.2.1)).1<=1000 by have:=hg.1;omega),Option.bind_some]
  by_cases h4:(nP (mg s.2.2.1)).1=s.2.1
  ·simp only[h4,decide_true,Bool.not_true,cond_false,if_true]
  ·simp only[h4,decide_false,Bool.not_false,cond_true,if_false]
end OT
set_option linter.unusedVariables false
set_option linter.unusedSimpArgs false
set_option linter.unusedSectionVars false
namespace OT
open Go
theorem KO {s:eP} (hv:mB cM s) (hz:zz cM s<=1048576):DE s:=by
 obtain ⟨u,ps,l,xs,n,⟨⟩⟩:=s
 obtain ⟨h1,Y,h3,h4,h5,_⟩:=hv
 replace hz:0+(zz (.U (.U u8)) ps+(zz dP l+(zz (.U aY) xs+(0+0))))<=1048576:=hz
 have Sa:zz dP l=zz (.U u8) l.1+(zz (.U u8) l.2.1+0):=rfl
 have BZ:List.length l.1<=zz (.U u8) l.1:=eS (e:=u8) l.1
 have oh:List.length l.2.1<=zz (.U u8) l.2.1:=eS (e:=u8) l.2.1
 refine ⟨⟨?_,?_⟩,fun p hp=>?_,?_⟩
 ·show List.length l.1<=1048576;omega
 ·show List.length l.2.1<=1048576;omega
 ·have a1:zz (.U u8) p+1<=zz (.U (.U u8)) ps:=mX (e:=.U u8) hp
  have a2:List.length p<=zz (.U u8) p:=eS (e:=u8) p
  rw[ah];omega
 ·have a3:zz sM (([]:List Row),xs,n,())<=1048576:=by
   show (0+0)+(zz (.U aY) xs+(0+0))<=1048576
   omega
  exact (KL (p:=(([]:List Row),xs,n,())) ⟨⟨Nat.zero_le _,fun x hx=>by cases hx⟩,h4,h5,trivial⟩ a3).2.2
theorem uq {s:eP} (h:nJ s=0) (hu:s.1=true):jF s.2.1=0/\o7 s.2.2.1=0:=by
 unfold nJ at h
 split at h
 ·rename_i h0
  rw[hu,cond_true] at h
  unfold L1 at h
  split at h
  ·exact ⟨by assumption,h0⟩
  ·rename_i h1;exact absurd h h1
 ·rename_i h0;exact absurd h h0
def pW (s:eP):fC:=if nJ s=0 then (if s.1 then ((0:Int),jG s.2.1,()) else ((8:Int),([]:List Row),())) else (nJ s,([]:List Row),())
theorem AV {s:eP} (h:DE s):lm.ab (s,())=some (pW s,()):=by
 refine ag (k:=0) fun k _=>(lm.aa k _).trans ?_
 unfold lm.p pW
 rw[zO h]
 simp only[Option.bind_some]
 by_cases h0:nJ s=0
 rotate_left
 ·simp only[h0,decide_false,Bool.not_false,cond_true,if_false]
 simp only[h0,decide_true,Bool.not_true,cond_false,if_true]
 cases hu:s.1 with
 | false=>rfl
 | true=>
  simp only[Bool.not_true,cond_false,if_true]
  rw[uJ (uq h0 hu).1]
  rfl
theorem AW {s:eP} (h:DE s):kb.ab (s,())=some (pW s,()):=by
 refine ag (k:=0) fun k _=>(kb.aa k _).trans ?_
 unfold kb.p pW
 rw[DF h]
 simp only[Option.bind_some]
 by_cases h0:nJ s=0
 rotate_left
 ·simp only[h0,decide_false,Bool.not_false,cond_true,if_false]
 simp only[h0,decide_true,Bool.not_true,cond_false,if_true]
 cases hu:s.1 with
 | false=>rfl
 | true=>
  simp only[Bool.not_true,cond_false,if_true]
  rw[DA (uq h0 hu).1]
  rfl
theorem Fy {α:Type} {f:α->Nat} {c:Nat}:∀ {xs:List α},(∀ x ∈ xs,f x<=c)->eL f xs<=c*xs.length
 | [],_=>Nat.zero_le _
 | x::xs,h=>by
  have h1:=h x List.mem_cons_self
  have Y:=Fy (xs:=xs) fun y hy=>h y (List.mem_cons_of_mem _ hy)
  simp only[eL,List.length_cons,Nat.mul_add,Nat.mul_one]
  omega
theorem Hn {ps:fP} (h:jF ps=0):zz (.U aA) (jG ps)<=20000:=by
 have h1:=DD h
 have Y:eL (zz aA) (jG ps)<=64*(jG ps).length:=Fy fun r hr=>by
  have:zz aA r=0+(0+(0+(List.length r.2.2.2.1+0))):=rfl
  have:=Fu h r hr
  omega
 show (jG ps).length+eL (zz aA) (jG ps)<=20000
 omega
theorem DG (s:eP):zz cA (pW s)<=20000:=by
 have hz:∀ (c:Int) (rs:List Row),zz cA (c,rs,())=zz (.U aA) rs:=fun c rs=>by
  show 0+(zz (.U aA) rs+0)=_
  omega
 unfold pW
 split
 ·rename_i h0
  split
  ·rename_i hu
   exact Nat.le_trans (Nat.le_of_eq (hz _ _)) (Hn (uq h0 hu).1)
  ·exact Nat.zero_le _
 ·exact Nat.zero_le _
theorem EA (v:cr.Arg) (hv:Ix cr.ps v):cr.ab v=some (true,()):=by
 obtain ⟨s,⟨⟩⟩:=v
 obtain ⟨OF,_⟩:=hv
 refine ag (k:=0) fun k _=>(cr.aa k _).trans ?_
 show cr.p _=_
 unfold cr.p
 simp only[GG s 1048576 OF (show (0:Int)<=1048576 by omega) (by omega),Option.bind_some]
 by_cases uA:((zz cM s:Nat):Int)<=1048576
 rotate_left
 ·have:cm (1048576) (zz cM s)=-1:=if_neg uA
  simp only[this]
  rfl
 have e1:cm (1048576) (zz cM s)=1048576 - ((zz cM s:Nat):Int):=if_pos uA
 have n1:¬ (1048576 - ((zz cM s:Nat):Int) < 0):=by omega
 have h1:DE s:=KO OF (by omega)
 have hR:=DG s
 have hB:lI=4611686018427387904:=rfl
 obtain ⟨k',y,a1,a2,a3,a4⟩:=CV (pW s) 1 (by omega) (by omega)
 obtain ⟨l1,w1,b1,c1,d1⟩:=MB s 1 (by omega) (by omega)
 simp only[e1,n1,decide_false,cond_false,GH s (by omega),AV h1,AW h1,wt (pW s) (by omega),a1,a2,show ¬ k' < 0 by omega,CU s (by omega),b1,show ¬ l1 < 0 by omega,Option.bind_some,Bool.not_true,decide_true,cond_true]
end OT
namespace Go.Proofs.YtledflocbohofaaGreat.rowsOf
open Go Go.ChangeShapes Go.WideShapes Go.ChangeAt Go.RowKit
theorem own:ownKnob Tryz.prog.godebug=none:=by kernel_rfl
theorem laidOut:laidOutB Tryz.prog=true:=by kernel_rfl
theorem Gg:∀ v,OT.Ix OT.cr.ps v->∃ u,OT.cr.ab v=some (true,u):=fun v hv=>⟨(),OT.EA v hv⟩
theorem DH {H:Type} {enc:TypeId×Value->H} {P:Program} {w:World} {base:Nat} {sp:Nat->Bool} {held:Bool}:∀ (ts:List TypeId) (vs:List Value) (ds:List (DataW H)) (ps:List MemPlace),DataW.TrodAll enc P w base sp held ts vs ds ps->ds.length=ts.length
 | [],[],[],_,_=>rfl
 | _::ts,_::vs,_::ds,_,⟨_,q,_,h,_⟩=>congrArg (·+1) (DH ts vs ds q h)
 | [],_::_,_,_,h=>h.elim
 | [],[],_::_,_,h=>h.elim
 | _::_,[],_,_,h=>h.elim
 | _::_,_::_,[],_,h=>h.elim
set_option maxRecDepth 100000 in
theorem lifted (os:Os) (started:os.Started) (H:Type) (enc:TypeId×Value->H) :
  ReturnsInHanded {} Tryz.checked os 5 .any (Rows.fnExactRowsOfSpec.pre6 enc Tryz.prog Tryz.f5 Rows.fnExactRowsOfRow.domain false) (Rows.fnExactRowsOfSpec.post enc Tryz.prog Tryz.f5 false true false false):=by
 refine returnsInHanded_of_change (C:=Tryz.checked) own started (by kernel_rfl) Tryz.func5
  (ChangeSpec.witness6 (enc:=enc) (C:=Tryz.checked) false ⟨#[],#[.agg #[.bool false,.slice none 0 0,.slice none 0 0,.slice none 0 0,.slice none 0 0,.int .i64 0]],[]⟩ 8 (by kernel_rfl) (by kernel_rfl) (by kernel_rfl) (by kernel_rfl)) ?_
 intro W base args ds gs before PA hW TX _
 have BR:∀ (j:Nat) t v,Tryz.f5.params[j]?=some t->args[j]?=some v->Value.okWide Tryz.prog W .any base t v:=PA
 have QI:=hW
 obtain ⟨p,q,z8,hV,rfl,Un,lM⟩:=hW
 have hA:DataW.TrodAll enc Tryz.prog W 0 (fun _=>true) true Tryz.f5.params.toList args.toList ds p:=z8
 obtain ⟨rfl,rfl⟩:=trodVars_none hV
 simp only[List.append_nil] at QI
 have hl:OT.rV Tryz.prog OT.cr.ps Tryz.f5.params.toList=true:=by kernel_rfl
 have hc:=OT.Iz (enc:=enc) (cap:=false) (ps:=OT.cr.ps) (Fn:=OT.cr.ab) OT.cr.ok.1 Gg hl hA (b0:=base) (fun j t v ht hv=>BR j t v (by simpa using ht) (by simpa using hv))
 simp only[Array.toArray_toList] at hc
 refine hc.mono fun e W' ⟨he,hb⟩=>?_
 refine ⟨_,he,OT.JV (C:=Tryz.checked) laidOut rfl hl (by kernel_rfl) Tryz.underlying4 rfl QI hA ?_ hb⟩
 have hlen:ds.length=1:=DH _ _ _ _ hA
 match ds,hlen with
 | [d1],_=>rfl
set_option maxHeartbeats 8000000 in
theorem closed:joinedFacts Tryz.prog 5 Tryz.f5 Rows.fnExactRowsOfSpec Rows.fnExactRowsOfRow=true:=by
 unfold joinedFacts
 simp only[Bool.and_eq_true]
 repeat' apply And.intro
 all_goals (as_aux_lemma=>kernel_rfl)
theorem lh:Rows.fnExactRowsOfRow.holds Tryz.pinned (OpenSpec.ofChange Rows.fnExactRowsOfSpec):=
 OpenClaim.holds_of_wide 5 Tryz.f5 rfl rfl rfl rfl rfl rfl rfl ⟨rfl,rfl,rfl,rfl,rfl⟩ rfl rfl rfl rfl rfl (by kernel_rfl) Tryz.func5 closed
  (of_decide_eq_true (by kernel_rfl)) (by unfold Func.isWrapper;first | (rw[if_pos (by decide +kernel)];kernel_rfl) | (rw[if_neg (by decide +kernel)];exact ⟨rfl,rfl⟩))
  (fun os started H enc _=>lifted os started H enc)
theorem proved:Rows.FnExactRowsOfSaid:=lh
#print axioms proved
end Go.Proofs.YtledflocbohofaaGreat.rowsOf
