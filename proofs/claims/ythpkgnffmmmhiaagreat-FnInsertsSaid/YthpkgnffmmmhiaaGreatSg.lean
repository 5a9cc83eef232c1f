/- FnInserts: the row; no conditions. -/
import Derived.Test.YthpkgnffmmmhiaaGreatSf
import Derived.Test.YthpkgnffmmmhiaaGreatRows
set_option linter.unusedVariables false
set_option linter.unusedSimpArgs false
set_option linter.unusedSectionVars false
namespace OT
open Go
theorem nodup_fm {α β:Type} {g:α->Option β}:∀ {l:List α},l.Nodup->((l.filterMap g).Nodup↔∀ x ∈ l,∀ y ∈ l,∀ b,g x=some b->g y=some b->x=y)
 | [],_=>by simp
 | z::l,h=>by
  rw[List.nodup_cons] at h
  have ih:=nodup_fm (g:=g) h.2
  cases hz:g z with
  | none=>
   rw[List.filterMap_cons_none hz,ih]
   constructor
   ·intro hh x hx y hy b h1 h2
    rcases List.mem_cons.1 hx with e1 | hx
    ·rw[e1,hz] at h1;cases h1
    ·rcases List.mem_cons.1 hy with e2 | hy
     ·rw[e2,hz] at h2;cases h2
     ·exact hh x hx y hy b h1 h2
   ·intro hh x hx y hy
    exact hh x (List.mem_cons_of_mem _ hx) y (List.mem_cons_of_mem _ hy)
  | some c=>
   rw[List.filterMap_cons_some hz,List.nodup_cons,ih,List.mem_filterMap]
   constructor
   ·rintro ⟨hn,hh⟩ x hx y hy b h1 h2
    rcases List.mem_cons.1 hx with e1 | hx
    ·rcases List.mem_cons.1 hy with e2 | hy
     ·rw[e1,e2]
     ·rw[e1,hz] at h1
      exact absurd ⟨y,hy,h2.trans h1.symm⟩ hn
    ·rcases List.mem_cons.1 hy with e2 | hy
     ·rw[e2,hz] at h2
      exact absurd ⟨x,hx,h1.trans h2.symm⟩ hn
     ·exact hh x hx y hy b h1 h2
   ·intro hh
    refine ⟨?_,fun x hx y hy=>hh x (List.mem_cons_of_mem _ hx) y (List.mem_cons_of_mem _ hy)⟩
    rintro ⟨y,hy,h2⟩
    have:=hh z List.mem_cons_self y (List.mem_cons_of_mem _ hy) c hz h2
    exact h.1 (this ▸ hy)
abbrev Cells2:Type:=Nat->Nat->List UInt8
def flagC (d:List UInt8):Int:=(cellF d).1.2.1
def tpC (d:List UInt8):Nat:=(cellF d).1.2.2.1.toNat
def tsC (d:List UInt8):Nat:=(cellF d).1.2.2.2.1.toNat
def rowD (d:List UInt8):Row:=(cellF d).1.2.2.2.2.1
def rowAt (f:Cells2) (P s:Nat):Row:=if flagC (f P s)=1 then rowD (f (tpC (f P s)) (tsC (f P s))) else rowD (f P s)
structure Stands (f:Cells2):Prop where
 read:∀ P s,f P s≠[]->(cellF (f P s)).2=true
 stub:∀ P s,f P s≠[]->flagC (f P s)=1->f (tpC (f P s)) (tsC (f P s))≠[]/\flagC (f (tpC (f P s)) (tsC (f P s)))=2
 tgt:∀ P s Q t,f P s≠[]->f Q t≠[]->flagC (f P s)=1->flagC (f Q t)=1->tpC (f P s)=tpC (f Q t)->tsC (f P s)=tsC (f Q t)->P=Q/\s=t
 key:∀ P s Q t,f P s≠[]->f Q t≠[]->flagC (f P s)≠2->flagC (f Q t)≠2->rk (rowAt f P s)=rk (rowAt f Q t)->P=Q/\s=t
def rowIn (f:Cells2) (r:Row):Prop:=∃ P s,f P s≠[]/\flagC (f P s)≠2/\rowAt f P s=r
def spotAt (ps:Pgs) (P s:Nat):L6Spot:=((P:Int),(s:Int),(cellF (cAt ps P s)).1,())
theorem spot_iff {ps:Pgs} (h:rightP ps) {x:L6Spot}:x ∈ spotsF ps↔∃ P s,cAt ps P s≠[]/\x=spotAt ps P s:=by
 rw[spot_mem]
 constructor
 ·rintro ⟨P,p,s,h1,h2,h3,rfl⟩
  have hP:P < ps.length:=by
   rcases Nat.lt_or_ge P ps.length with g | g
   ·exact g
   ·rw[List.getElem?_eq_none g] at h1;cases h1
  have hp:pgAt ps P=p:=by unfold pgAt;rw[List.getD_eq_getElem?_getD,h1];rfl
  have e:cAt ps P s=cellP p s:=by unfold cAt cellOf;rw[hp,if_pos h2]
  refine ⟨P,s,fun h0=>h3 ?_,by unfold spotAt;rw[e]⟩
  have:=(cellOf_nil (pgAt_ok h hP) (i:=s) (by rw[hp];exact h2)).1 h0
  rw[hp] at this
  exact this
 ·rintro ⟨P,s,h1,rfl⟩
  obtain ⟨a1,a2,a3⟩:=cAt_in h h1
  refine ⟨P,pgAt ps P,s,pgAt_get a1,a2,a3,?_⟩
  unfold spotAt cAt cellOf
  rw[if_pos a2]
theorem spots_nodup (ps:Pgs):(spotsF ps).Nodup:=by
 have h1:∀ (P:Nat) (p:List UInt8),(spotsPg P p).Pairwise (fun x y=>x.2.1 < y.2.1)/\∀ x ∈ spotsPg P p,x.1=(P:Int):=by
  intro P p
  have key:∀ n,((List.range n).flatMap (spot1 P p)).Pairwise (fun x y=>x.2.1 < y.2.1)/\∀ x ∈ (List.range n).flatMap (spot1 P p),x.1=(P:Int)/\x.2.1 < (n:Int):=by
   intro n
   induction n with
   | zero=>exact ⟨List.Pairwise.nil,fun x hx=>by cases hx⟩
   | succ n ih=>
    rw[List.range_succ,List.flatMap_append]
    have hs:∀ x ∈ ([n]:List Nat).flatMap (spot1 P p),x.1=(P:Int)/\x.2.1=(n:Int):=fun x hx=>by
     rw[List.flatMap_cons,List.flatMap_nil,List.append_nil] at hx
     unfold spot1 at hx
     split at hx
     ·cases hx
     ·rw[List.mem_singleton.1 hx];exact ⟨rfl,rfl⟩
    constructor
    ·rw[List.pairwise_append]
     refine ⟨ih.1,?_,fun x hx y hy=>?_⟩
     ·rw[List.flatMap_cons,List.flatMap_nil,List.append_nil]
      unfold spot1
      split
      ·exact List.Pairwise.nil
      ·exact List.pairwise_singleton _ _
     ·have:=(ih.2 x hx).2
      have:=(hs y hy).2
      omega
    ·intro x hx
     rcases List.mem_append.1 hx with hx | hx
     ·have:=ih.2 x hx
      exact ⟨this.1,by have:=this.2;omega⟩
     ·have:=hs x hx
      exact ⟨this.1,by have:=this.2;omega⟩
  exact ⟨(key (pn p)).1,fun x hx=>((key (pn p)).2 x hx).1⟩
 have main:∀ (xs:Pgs) (i:Nat),(goI spotsPg i xs).Nodup/\∀ x ∈ goI spotsPg i xs,(i:Int)<=x.1:=by
  intro xs
  induction xs with
  | nil=>intro i;exact ⟨List.Pairwise.nil,fun x hx=>by cases hx⟩
  | cons p xs ih=>
   intro i
   obtain ⟨a1,a2⟩:=h1 i p
   obtain ⟨b1,b2⟩:=ih (i+1)
   refine ⟨?_,fun x hx=>?_⟩
   ·unfold goI
    rw[List.nodup_append]
    refine ⟨a1.imp fun {x y} hlt he=>by rw[he] at hlt;omega,b1,fun x hx y hy he=>?_⟩
    have:=a2 x hx
    have:=b2 y hy
    rw[<-he] at this
    omega
   ·unfold goI at hx
    rcases List.mem_append.1 hx with hx | hx
    ·rw[a2 x hx];omega
    ·have:=b2 x hx;omega
 exact (main ps 0).1
theorem seen_key (ps:Pgs):(seenF ps).map (fun x=>rk (sRow x))=(spotsF ps).filterMap (fun x=>if sFlag x=2 then none else some (rk (sRow (seen1 ps x)))):=by
 unfold seenF
 generalize spotsF ps=l
 induction l with
 | nil=>rfl
 | cons x l ih=>
  rw[List.flatMap_cons,List.map_append,ih]
  unfold seenX
  by_cases h:sFlag x=2
  ·rw[if_pos h,List.filterMap_cons_none (by simp only[if_pos h])]
   rfl
  ·rw[if_neg h,List.filterMap_cons_some (b:=rk (sRow (seen1 ps x))) (by simp only[if_neg h])]
   rfl
theorem tp_nat (d:List UInt8):(cellF d).1.2.2.1=(tpC d:Int)/\(cellF d).1.2.2.2.1=(tsC d:Int):=by
 obtain ⟨h1,h2⟩:=cellF_nonneg d
 unfold tpC tsC
 omega
theorem cellG_nil {ps:Pgs} (h:rightP ps) (P s:Nat):cellG ps (P:Int) (s:Int)=if cAt ps P s=[] then (cell0,false) else cellF (cAt ps P s):=by
 unfold cellG
 rw[Int.toNat_natCast,Int.toNat_natCast]
 by_cases hc:cAt ps P s=[]
 ·rw[if_pos hc]
  cases hg:ps[P]? with
  | none=>rfl
  | some p=>
   simp only
   have hp:pgAt ps P=p:=by unfold pgAt;rw[List.getD_eq_getElem?_getD,hg];rfl
   have hP:P < ps.length:=by
    rcases Nat.lt_or_ge P ps.length with g | g
    ·exact g
    ·rw[List.getElem?_eq_none g] at hg;cases hg
   rw[if_neg]
   rintro ⟨a1,a2⟩
   refine a2 ?_
   have:=(cellOf_nil (pgAt_ok h hP) (i:=s) (by rw[hp];exact a1)).1 hc
   rw[hp] at this
   exact this
 ·rw[if_neg hc]
  obtain ⟨a1,a2,a3⟩:=cAt_in h hc
  rw[pgAt_get a1]
  simp only
  rw[if_pos ⟨a2,a3⟩]
  unfold cAt cellOf
  rw[if_pos a2]
theorem seen1_row {ps:Pgs} (h:rightP ps) (P s:Nat) (hst:flagC (cAt ps P s)=1->cAt ps (tpC (cAt ps P s)) (tsC (cAt ps P s))≠[]):sRow (seen1 ps (spotAt ps P s))=rowAt (cAt ps) P s:=by
 unfold seen1 rowAt
 have e1:sFlag (spotAt ps P s)=flagC (cAt ps P s):=rfl
 rw[e1]
 by_cases hf:flagC (cAt ps P s)=1
 ·rw[if_pos hf,if_pos hf]
  obtain ⟨t1,t2⟩:=tp_nat (cAt ps P s)
  have e2:sTp (spotAt ps P s)=(tpC (cAt ps P s):Int):=t1
  have e3:sTs (spotAt ps P s)=(tsC (cAt ps P s):Int):=t2
  rw[e2,e3,cellG_nil h,if_neg (hst hf)]
  rfl
 ·rw[if_neg hf,if_neg hf]
  rfl
theorem firstF_zero {α:Type} {c:α->Int}:∀ {xs:List α},(∀ x ∈ xs,c x=0)->firstF c xs=0
 | [],_=>rfl
 | x::xs,h=>by
  unfold firstF
  rw[if_pos (h x List.mem_cons_self)]
  exact firstF_zero fun y hy=>h y (List.mem_cons_of_mem _ hy)
theorem stubOk_iff {ps:Pgs} (h:rightP ps) (P s:Nat) (hr:∀ Q t,cAt ps Q t≠[]->(cellF (cAt ps Q t)).2=true):stubOk ps (spotAt ps P s)=true↔(flagC (cAt ps P s)=1->cAt ps (tpC (cAt ps P s)) (tsC (cAt ps P s))≠[]/\flagC (cAt ps (tpC (cAt ps P s)) (tsC (cAt ps P s)))=2):=by
 unfold stubOk
 have e1:sFlag (spotAt ps P s)=flagC (cAt ps P s):=rfl
 obtain ⟨t1,t2⟩:=tp_nat (cAt ps P s)
 have e2:sTp (spotAt ps P s)=(tpC (cAt ps P s):Int):=t1
 have e3:sTs (spotAt ps P s)=(tsC (cAt ps P s):Int):=t2
 rw[e1,e2,e3,cellG_nil h]
 by_cases hf:flagC (cAt ps P s)=1
 ·by_cases hc:cAt ps (tpC (cAt ps P s)) (tsC (cAt ps P s))=[]
  ·simp[hf,hc]
  ·simp only[hf,hc,decide_true,Bool.not_true,Bool.false_or,if_false,hr _ _ hc,Bool.true_and,decide_eq_true_eq,true_implies,ne_eq,not_false_eq_true,true_and]
   exact Iff.rfl
 ·simp[hf]
theorem view_iff {ps:Pgs}:viewC ps=0↔rightP ps/\Stands (cAt ps):=by
 constructor
 ·intro hv
  have V:=view_ok hv
  have hr:=V.right
  have hread:∀ P s,cAt ps P s≠[]->(cellF (cAt ps P s)).2=true:=fun P s hc=>by
   obtain ⟨a1,a2,a3⟩:=cAt_in hr hc
   have:=V.cells.2 _ (pgAt_mem a1) s a2 a3
   unfold cAt cellOf
   rw[if_pos a2]
   exact this
  have hstub:∀ P s,cAt ps P s≠[]->flagC (cAt ps P s)=1->cAt ps (tpC (cAt ps P s)) (tsC (cAt ps P s))≠[]/\flagC (cAt ps (tpC (cAt ps P s)) (tsC (cAt ps P s)))=2:=fun P s hc=>
   (stubOk_iff hr P s hread).1 (List.all_eq_true.1 V.stubs _ ((spot_iff hr).2 ⟨P,s,hc,rfl⟩))
  refine ⟨hr,hread,hstub,fun P s Q t h1 h2 f1 f2 e1 e2=>?_,fun P s Q t h1 h2 f1 f2 e=>?_⟩
  ·have:=(nodup_fm (spots_nodup ps)).1 V.tgts _ ((spot_iff hr).2 ⟨P,s,h1,rfl⟩) _ ((spot_iff hr).2 ⟨Q,t,h2,rfl⟩) ((tpC (cAt ps P s):Int),(tsC (cAt ps P s):Int))
    (by unfold sTgt;rw[if_pos (show sFlag (spotAt ps P s)=1 from f1)];show some ((cellF (cAt ps P s)).1.2.2.1,(cellF (cAt ps P s)).1.2.2.2.1)=_;rw[(tp_nat _).1,(tp_nat _).2])
    (by unfold sTgt;rw[if_pos (show sFlag (spotAt ps Q t)=1 from f2)];show some ((cellF (cAt ps Q t)).1.2.2.1,(cellF (cAt ps Q t)).1.2.2.2.1)=_;rw[(tp_nat _).1,(tp_nat _).2,e1,e2])
   have g1:((P:Int))=(Q:Int):=congrArg (fun x:L6Spot=>x.1) this
   have g2:((s:Int))=(t:Int):=congrArg (fun x:L6Spot=>x.2.1) this
   omega
  ·have hk:=V.keys
   rw[seen_key] at hk
   have:=(nodup_fm (spots_nodup ps)).1 hk _ ((spot_iff hr).2 ⟨P,s,h1,rfl⟩) _ ((spot_iff hr).2 ⟨Q,t,h2,rfl⟩) (rk (rowAt (cAt ps) P s))
    (by rw[if_neg (show ¬ sFlag (spotAt ps P s)=2 from f1),seen1_row hr P s fun hf=>(hstub P s h1 hf).1])
    (by rw[if_neg (show ¬ sFlag (spotAt ps Q t)=2 from f2),seen1_row hr Q t fun hf=>(hstub Q t h2 hf).1,e])
   have g1:((P:Int))=(Q:Int):=congrArg (fun x:L6Spot=>x.1) this
   have g2:((s:Int))=(t:Int):=congrArg (fun x:L6Spot=>x.2.1) this
   omega
 ·rintro ⟨hr,S⟩
  have hf:firstF pgC ps=0:=firstF_zero fun p hp=>by
   obtain ⟨P,hP,he⟩:=List.getElem_of_mem hp
   have hpg:pgAt ps P=p:=by unfold pgAt;rw[List.getD_eq_getElem?_getD,List.getElem?_eq_getElem hP,he];rfl
   have hok:=hr.2 p hp
   unfold pgC
   rw[if_pos (pageF_iff.2 hok),if_pos]
   refine List.all_eq_true.2 fun s hs=>?_
   have hs:=List.mem_range.1 hs
   unfold okCell
   by_cases hz:psz p s=0
   ·rw[decide_eq_true hz];rfl
   ·have hc:cAt ps P s≠[]:=fun h0=>hz (by
     unfold cAt at h0
     rw[hpg] at h0
     exact (cellOf_nil hok hs).1 h0)
    have:=S.read P s hc
    unfold cAt cellOf at this
    rw[hpg,if_pos hs] at this
    rw[this,Bool.or_true]
  have hl:¬ 12 < ps.length:=by have:=hr.1;omega
  unfold viewC
  rw[if_neg hl,if_pos hf]
  unfold lookC
  rw[if_pos,if_pos,if_pos]
  ·rw[seen_key]
   refine (nodup_fm (spots_nodup ps)).2 fun x hx y hy b h1 h2=>?_
   obtain ⟨P,s,c1,rfl⟩:=(spot_iff hr).1 hx
   obtain ⟨Q,t,c2,rfl⟩:=(spot_iff hr).1 hy
   split at h1
   ·cases h1
   ·rename_i f1
    split at h2
    ·cases h2
    ·rename_i f2
     rw[seen1_row hr P s fun hf=>(S.stub P s c1 hf).1] at h1
     rw[seen1_row hr Q t fun hf=>(S.stub Q t c2 hf).1] at h2
     obtain ⟨rfl,rfl⟩:=S.key P s Q t c1 c2 f1 f2 (by injection h1 with h1;injection h2 with h2;rw[h1,h2])
     rfl
  ·refine (nodup_fm (spots_nodup ps)).2 fun x hx y hy b h1 h2=>?_
   obtain ⟨P,s,c1,rfl⟩:=(spot_iff hr).1 hx
   obtain ⟨Q,t,c2,rfl⟩:=(spot_iff hr).1 hy
   unfold sTgt at h1 h2
   split at h1
   ·rename_i f1
    split at h2
    ·rename_i f2
     injection h1 with h1
     injection h2 with h2
     have h3:=h1.trans h2.symm
     injection h3 with h3 h4
     obtain ⟨rfl,rfl⟩:=S.tgt P s Q t c1 c2 f1 f2 (congrArg Int.toNat h3) (congrArg Int.toNat h4)
     rfl
    ·cases h2
   ·cases h1
  ·refine List.all_eq_true.2 fun x hx=>?_
   obtain ⟨P,s,c1,rfl⟩:=(spot_iff hr).1 hx
   exact (stubOk_iff hr P s S.read).2 (S.stub P s c1)
theorem rows_iff {ps:Pgs} (hv:viewC ps=0) (r:Row):r ∈ rowsV ps↔rowIn (cAt ps) r:=by
 have V:=view_ok hv
 have hr:=V.right
 have S:=(view_iff.1 hv).2
 rw[rowsV_eq V,(sortR_perm _).mem_iff,List.mem_map]
 constructor
 ·rintro ⟨x,hx,rfl⟩
  unfold seenF at hx
  obtain ⟨y,hy,hxy⟩:=List.mem_flatMap.1 hx
  obtain ⟨P,s,c1,rfl⟩:=(spot_iff hr).1 hy
  unfold seenX at hxy
  split at hxy
  ·cases hxy
  ·rename_i f1
   rw[List.mem_singleton.1 hxy,seen1_row hr P s fun hf=>(S.stub P s c1 hf).1]
   exact ⟨P,s,c1,f1,rfl⟩
 ·rintro ⟨P,s,c1,f1,rfl⟩
  refine ⟨seen1 ps (spotAt ps P s),?_,seen1_row hr P s fun hf=>(S.stub P s c1 hf).1⟩
  unfold seenF
  refine List.mem_flatMap.2 ⟨_,(spot_iff hr).2 ⟨P,s,c1,rfl⟩,?_⟩
  unfold seenX
  rw[if_neg (show ¬ sFlag (spotAt ps P s)=2 from f1)]
  exact List.mem_singleton.2 rfl
end OT
set_option linter.unusedVariables false
set_option linter.unusedSimpArgs false
set_option linter.unusedSectionVars false
namespace OT
open Go
def upd (f:Cells2) (P s:Nat) (c:List UInt8):Cells2:=fun Q t=>if Q=P/\t=s then c else f Q t
theorem upd_at (f:Cells2) (P s:Nat) (c:List UInt8):upd f P s c P s=c:=if_pos ⟨rfl,rfl⟩
theorem upd_off {f:Cells2} {P s:Nat} {c:List UInt8} {Q t:Nat} (h:¬ (Q=P/\t=s)):upd f P s c Q t=f Q t:=if_neg h
def lone (f:Cells2) (A B:Nat):Prop:=∀ Q t,f Q t≠[]->flagC (f Q t)=1->¬ (tpC (f Q t)=A/\tsC (f Q t)=B)
theorem row_same {f g:Cells2} {Q u:Nat} (h1:g Q u=f Q u) (h2:flagC (f Q u)=1->g (tpC (f Q u)) (tsC (f Q u))=f (tpC (f Q u)) (tsC (f Q u))):rowAt g Q u=rowAt f Q u:=by
 unfold rowAt
 rw[h1]
 split
 ·rename_i hf;rw[h2 hf]
 ·rfl
section
variable {f:Cells2} (S:Stands f)
include S
theorem add_moved {P t:Nat} {c:List UInt8} (h0:f P t=[]) (hc:(cellF c).2=true) (h2:flagC c=2):Stands (upd f P t c)/\(∀ r,rowIn (upd f P t c) r↔rowIn f r)/\lone (upd f P t c) P t:=by
 have off:∀ {Q u},f Q u≠[]->upd f P t c Q u=f Q u:=fun {Q u} hq=>upd_off fun ⟨e1,e2⟩=>hq (by rw[e1,e2];exact h0)
 have of1:∀ {Q u},flagC (upd f P t c Q u)≠2->upd f P t c Q u=f Q u:=fun {Q u} hq=>upd_off fun ⟨e1,e2⟩=>hq (by rw[e1,e2,upd_at];exact h2)
 have row:∀ {Q u},f Q u≠[]->rowAt (upd f P t c) Q u=rowAt f Q u:=fun {Q u} hq=>row_same (off hq) fun hf=>off (S.stub Q u hq hf).1
 refine ⟨⟨fun Q u hq=>?_,fun Q u hq hf=>?_,fun Q u R v hq hr f1 f2 e1 e2=>?_,fun Q u R v hq hr f1 f2 e=>?_⟩,fun r=>?_,fun Q u hq hf hh=>?_⟩
 ·by_cases he:Q=P/\u=t
  ·rw[he.1,he.2,upd_at];exact hc
  ·rw[upd_off he] at hq ⊢;exact S.read Q u hq
 ·have e:=of1 (Q:=Q) (u:=u) (by rw[hf];decide)
  rw[e] at hq hf ⊢
  obtain ⟨a1,a2⟩:=S.stub Q u hq hf
  rw[off a1]
  exact ⟨a1,a2⟩
 ·have g1:=of1 (Q:=Q) (u:=u) (by rw[f1];decide)
  have g2:=of1 (Q:=R) (u:=v) (by rw[f2];decide)
  rw[g1] at hq f1 e1 e2
  rw[g2] at hr f2 e1 e2
  exact S.tgt Q u R v hq hr f1 f2 e1 e2
 ·have g1:=of1 f1
  have g2:=of1 f2
  rw[g1] at hq f1
  rw[g2] at hr f2
  rw[row hq,row hr] at e
  exact S.key Q u R v hq hr f1 f2 e
 ·constructor
  ·rintro ⟨Q,u,hq,f1,e⟩
   rw[of1 f1] at hq f1
   rw[row hq] at e
   exact ⟨Q,u,hq,f1,e⟩
  ·rintro ⟨Q,u,hq,f1,e⟩
   exact ⟨Q,u,by rw[off hq];exact hq,by rw[off hq];exact f1,by rw[row hq];exact e⟩
 ·have e:=of1 (Q:=Q) (u:=u) (by rw[hf];decide)
  rw[e] at hq hf hh
  have:=(S.stub Q u hq hf).1
  rw[hh.1,hh.2] at this
  exact this h0
theorem drop_moved {A B:Nat} (h2:flagC (f A B)=2) (hl:lone f A B):Stands (upd f A B [])/\(∀ r,rowIn (upd f A B []) r↔rowIn f r):=by
 have ne:∀ {Q u},upd f A B [] Q u≠[]->¬ (Q=A/\u=B):=fun {Q u} hq he=>hq (by rw[he.1,he.2,upd_at])
 have tg:∀ {Q u},f Q u≠[]->flagC (f Q u)=1->upd f A B [] (tpC (f Q u)) (tsC (f Q u))=f (tpC (f Q u)) (tsC (f Q u)):=fun {Q u} hq hf=>upd_off (hl Q u hq hf)
 refine ⟨⟨fun Q u hq=>?_,fun Q u hq hf=>?_,fun Q u R v hq hr f1 f2 e1 e2=>?_,fun Q u R v hq hr f1 f2 e=>?_⟩,fun r=>?_⟩
 ·have:=ne hq
  rw[upd_off this] at hq ⊢
  exact S.read Q u hq
 ·have:=ne hq
  rw[upd_off this] at hq hf ⊢
  rw[tg hq hf]
  exact S.stub Q u hq hf
 ·have n1:=ne hq
  have n2:=ne hr
  rw[upd_off n1] at hq f1 e1 e2
  rw[upd_off n2] at hr f2 e1 e2
  exact S.tgt Q u R v hq hr f1 f2 e1 e2
 ·have n1:=ne hq
  have n2:=ne hr
  have g1:=upd_off (f:=f) (c:=[]) n1
  have g2:=upd_off (f:=f) (c:=[]) n2
  rw[g1] at hq f1
  rw[g2] at hr f2
  rw[row_same g1 (tg hq),row_same g2 (tg hr)] at e
  exact S.key Q u R v hq hr f1 f2 e
 ·constructor
  ·rintro ⟨Q,u,hq,f1,e⟩
   have g1:=upd_off (f:=f) (c:=[]) (ne hq)
   rw[g1] at hq f1
   rw[row_same g1 (tg hq)] at e
   exact ⟨Q,u,hq,f1,e⟩
  ·rintro ⟨Q,u,hq,f1,e⟩
   have g1:upd f A B [] Q u=f Q u:=upd_off fun he=>f1 (by rw[he.1,he.2];exact h2)
   exact ⟨Q,u,by rw[g1];exact hq,by rw[g1];exact f1,by rw[row_same g1 (tg hq)];exact e⟩
theorem drop_seen {P s:Nat} (h0:f P s≠[]) (h2:flagC (f P s)≠2):Stands (upd f P s [])/\(∀ r,rowIn (upd f P s []) r↔rowIn f r/\rk r≠rk (rowAt f P s))/\(flagC (f P s)=1->lone (upd f P s []) (tpC (f P s)) (tsC (f P s))):=by
 have ne:∀ {Q u},upd f P s [] Q u≠[]->¬ (Q=P/\u=s):=fun {Q u} hq he=>hq (by rw[he.1,he.2,upd_at])
 have tg:∀ {Q u},f Q u≠[]->flagC (f Q u)=1->upd f P s [] (tpC (f Q u)) (tsC (f Q u))=f (tpC (f Q u)) (tsC (f Q u)):=fun {Q u} hq hf=>upd_off fun he=>h2 (by
  have:=(S.stub Q u hq hf).2
  rw[he.1,he.2] at this
  exact this)
 refine ⟨⟨fun Q u hq=>?_,fun Q u hq hf=>?_,fun Q u R v hq hr f1 f2 e1 e2=>?_,fun Q u R v hq hr f1 f2 e=>?_⟩,fun r=>?_,fun h1 Q u hq hf hh=>?_⟩
 ·have:=ne hq
  rw[upd_off this] at hq ⊢
  exact S.read Q u hq
 ·have:=ne hq
  rw[upd_off this] at hq hf ⊢
  rw[tg hq hf]
  exact S.stub Q u hq hf
 ·have n1:=ne hq
  have n2:=ne hr
  rw[upd_off n1] at hq f1 e1 e2
  rw[upd_off n2] at hr f2 e1 e2
  exact S.tgt Q u R v hq hr f1 f2 e1 e2
 ·have g1:=upd_off (f:=f) (c:=[]) (ne hq)
  have g2:=upd_off (f:=f) (c:=[]) (ne hr)
  rw[g1] at hq f1
  rw[g2] at hr f2
  rw[row_same g1 (tg hq),row_same g2 (tg hr)] at e
  exact S.key Q u R v hq hr f1 f2 e
 ·constructor
  ·rintro ⟨Q,u,hq,f1,e⟩
   have n1:=ne hq
   have g1:=upd_off (f:=f) (c:=[]) n1
   rw[g1] at hq f1
   rw[row_same g1 (tg hq)] at e
   refine ⟨⟨Q,u,hq,f1,e⟩,fun hk=>n1 ?_⟩
   rw[<-e] at hk
   exact S.key Q u P s hq h0 f1 h2 hk
  ·rintro ⟨⟨Q,u,hq,f1,e⟩,hk⟩
   have g1:upd f P s [] Q u=f Q u:=upd_off fun he=>hk (by rw[<-e,he.1,he.2])
   exact ⟨Q,u,by rw[g1];exact hq,by rw[g1];exact f1,by rw[row_same g1 (tg hq)];exact e⟩
 ·have n1:=ne hq
  rw[upd_off n1] at hq hf hh
  exact n1 (S.tgt Q u P s hq h0 hf h1 hh.1 hh.2)
theorem put_seen {P s:Nat} {c:List UInt8} {r:Row} (h0:f P s=[]) (hc:(cellF c).2=true) (hn:c≠[]) (hr:(flagC c=0/\rowD c=r)\/(flagC c=1/\f (tpC c) (tsC c)≠[]/\flagC (f (tpC c) (tsC c))=2/\lone f (tpC c) (tsC c)/\rowD (f (tpC c) (tsC c))=r)) (hk:∀ r',rowIn f r'->rk r'≠rk r):Stands (upd f P s c)/\(∀ r',rowIn (upd f P s c) r'↔rowIn f r'\/r'=r):=by
 have off:∀ {Q u},f Q u≠[]->upd f P s c Q u=f Q u:=fun {Q u} hq=>upd_off fun ⟨e1,e2⟩=>hq (by rw[e1,e2];exact h0)
 have row:∀ {Q u},f Q u≠[]->rowAt (upd f P s c) Q u=rowAt f Q u:=fun {Q u} hq=>row_same (off hq) fun hf=>off (S.stub Q u hq hf).1
 have h2:flagC c≠2:=by rcases hr with ⟨h,_⟩ | ⟨h,_⟩ <;> rw[h] <;> decide
 have rowc:rowAt (upd f P s c) P s=r:=by
  unfold rowAt
  rw[upd_at]
  rcases hr with ⟨h,h'⟩ | ⟨h,h3,_,_,h6⟩
  ·rw[h,if_neg (by decide),h']
  ·rw[h,if_pos rfl,off h3,h6]
 have cut:∀ {Q u},upd f P s c Q u≠[]->(Q=P/\u=s)\/(f Q u≠[]/\upd f P s c Q u=f Q u):=fun {Q u} hq=>by
  by_cases he:Q=P/\u=s
  ·exact .inl he
  ·rw[upd_off he] at hq ⊢;exact .inr ⟨hq,rfl⟩
 refine ⟨⟨fun Q u hq=>?_,fun Q u hq hf=>?_,fun Q u R v hq hv f1 f2 e1 e2=>?_,fun Q u R v hq hv f1 f2 e=>?_⟩,fun r'=>?_⟩
 ·rcases cut hq with ⟨rfl,rfl⟩ | ⟨a,e⟩
  ·rw[upd_at];exact hc
  ·rw[e];exact S.read Q u a
 ·rcases cut hq with ⟨rfl,rfl⟩ | ⟨a,e⟩
  ·rw[upd_at] at hf ⊢
   rcases hr with ⟨h,_⟩ | ⟨h,h3,h4,_,_⟩
   ·rw[h] at hf;cases hf
   ·rw[off h3];exact ⟨h3,h4⟩
  ·rw[e] at hf ⊢
   obtain ⟨b1,b2⟩:=S.stub Q u a hf
   rw[off b1]
   exact ⟨b1,b2⟩
 ·rcases cut hq with ⟨rfl,rfl⟩ | ⟨a,g1⟩
  ·rcases cut hv with ⟨rfl,rfl⟩ | ⟨b,g2⟩
   ·exact ⟨rfl,rfl⟩
   ·rw[upd_at] at f1 e1 e2
    rw[g2] at f2 e1 e2
    rcases hr with ⟨h,_⟩ | ⟨h,_,_,h5,_⟩
    ·rw[h] at f1;cases f1
    ·exact absurd ⟨e1.symm,e2.symm⟩ (h5 R v b f2)
  ·rcases cut hv with ⟨rfl,rfl⟩ | ⟨b,g2⟩
   ·rw[upd_at] at f2 e1 e2
    rw[g1] at f1 e1 e2
    rcases hr with ⟨h,_⟩ | ⟨h,_,_,h5,_⟩
    ·rw[h] at f2;cases f2
    ·exact absurd ⟨e1,e2⟩ (h5 Q u a f1)
   ·rw[g1] at f1 e1 e2
    rw[g2] at f2 e1 e2
    exact S.tgt Q u R v a b f1 f2 e1 e2
 ·rcases cut hq with ⟨rfl,rfl⟩ | ⟨a,g1⟩
  ·rcases cut hv with ⟨rfl,rfl⟩ | ⟨b,g2⟩
   ·exact ⟨rfl,rfl⟩
   ·rw[g2] at f2
    rw[rowc,row b] at e
    exact absurd e.symm (hk _ ⟨R,v,b,f2,rfl⟩)
  ·rcases cut hv with ⟨rfl,rfl⟩ | ⟨b,g2⟩
   ·rw[g1] at f1
    rw[rowc,row a] at e
    exact absurd e (hk _ ⟨Q,u,a,f1,rfl⟩)
   ·rw[g1] at f1
    rw[g2] at f2
    rw[row a,row b] at e
    exact S.key Q u R v a b f1 f2 e
 ·constructor
  ·rintro ⟨Q,u,hq,f1,e⟩
   rcases cut hq with ⟨rfl,rfl⟩ | ⟨a,g1⟩
   ·rw[rowc] at e;exact .inr e.symm
   ·rw[g1] at f1
    rw[row a] at e
    exact .inl ⟨Q,u,a,f1,e⟩
  ·rintro (⟨Q,u,hq,f1,e⟩ | rfl)
   ·exact ⟨Q,u,by rw[off hq];exact hq,by rw[off hq];exact f1,by rw[row hq];exact e⟩
   ·exact ⟨P,s,by rw[upd_at];exact hn,by rw[upd_at];exact h2,rowc⟩
end
theorem u8_int {n:Int} (h:0<=n) (h2:n < 256):((UInt8.ofInt n).toNat:Int)=n:=by
 have:n=((n.toNat:Nat):Int):=by omega
 rw[this,u8_of,ofNat_toNat (by omega)]
theorem cellB_read {n:Nat} (hn:n=0\/n=2) {r:Row} (hr:rowF r=0):cellF (cellB n r)=(((0:Int),(n:Int),(0:Int),(0:Int),r,()),true):=by
 obtain ⟨h1,h2,h3,h4⟩:=rowF_ok hr
 have h5:=textB_len h4
 have hl:(cellB n r).length=6+List.length r.2.2.2.1:=by unfold cellB;rw[List.length_append];rfl
 have b0:pb (cellB n r) 0=n:=by
  show (UInt8.ofNat n).toNat=n
  exact ofNat_toNat (by omega)
 have b1:(pb (cellB n r) 1:Int)=r.1:=by
  show ((UInt8.ofInt r.1).toNat:Int)=r.1
  exact u8_int (by omega) (by omega)
 have b2:(pb (cellB n r) 2:Int)=r.2.1:=by
  show ((UInt8.ofInt r.2.1).toNat:Int)=r.2.1
  exact u8_int (by omega) (by omega)
 have b3:(pb (cellB n r) 3:Int)=r.2.2.1 / 256:=by
  show ((UInt8.ofInt (r.2.2.1 / 256)).toNat:Int)=_
  exact u8_int (by omega) (by omega)
 have b4:(pb (cellB n r) 4:Int)=r.2.2.1 % 256:=by
  show ((UInt8.ofInt (r.2.2.1 % 256)).toNat:Int)=_
  exact u8_int (by omega) (by omega)
 have b5:(pb (cellB n r) 5:Int)=(List.length r.2.2.2.1:Int):=by
  show ((UInt8.ofInt (List.length r.2.2.2.1:Int)).toNat:Int)=_
  exact u8_int (by omega) (by omega)
 have hd:(cellB n r).drop 6=r.2.2.2.1:=rfl
 have hrow:rowB (cellB n r)=r:=by
  unfold rowB
  rw[b1,b2,b3,b4,hd]
  obtain ⟨t,k,v,x,u⟩:=r
  show (t,k,v / 256*256+v % 256,x,())=(t,k,v,x,u)
  rw[show v / 256*256+v % 256=v by omega]
 unfold cellF
 rw[if_neg (by omega),if_neg (by omega),b0,hrow,decide_eq_true hr]
theorem stubB_read {P t:Nat} (hP:P<=11) (ht:t<=15):cellF (stubB P t)=(((0:Int),(1:Int),(P:Int),(t:Int),row0,()),true):=by
 have b1:pb (stubB P t) 1=P:=by
  show (UInt8.ofNat P).toNat=P
  exact ofNat_toNat (by omega)
 have b2:pb (stubB P t) 2=t:=by
  show (UInt8.ofNat t).toNat=t
  exact ofNat_toNat (by omega)
 unfold cellF
 rw[if_pos ⟨rfl,rfl⟩,b1,b2,decide_eq_true hP,decide_eq_true ht]
 rfl
theorem stub_bytes {d:List UInt8} (h:(cellF d).2=true) (h1:flagC d=1):d=stubB (tpC d) (tsC d)/\tpC d<=11/\tsC d<=15:=by
 unfold flagC at h1
 unfold tpC tsC
 unfold cellF at h h1 ⊢
 split at h
 ·rename_i hc
  rw[if_pos hc]
  simp only[Bool.and_eq_true,decide_eq_true_eq] at h
  refine ⟨?_,by simpa using h.1,by simpa using h.2⟩
  refine pb_ext (by rw[hc.1];rfl) fun j hj=>?_
  rw[hc.1] at hj
  have e1:=pb_lt d 1
  have e2:=pb_lt d 2
  match j,hj with
  | 0,_=>rw[hc.2];rfl
  | 1,_=>show _=(UInt8.ofNat _).toNat;rw[ofNat_toNat (by simpa using e1)];simp
  | 2,_=>show _=(UInt8.ofNat _).toNat;rw[ofNat_toNat (by simpa using e2)];simp
 ·rename_i hc
  rw[if_neg hc] at h1
  split at h
  ·cases h
  ·rename_i hc2
   rw[if_neg hc2] at h1
   have:((pb d 0:Nat):Int)=1:=by simpa using h1
   omega
end OT
set_option linter.unusedVariables false
set_option linter.unusedSimpArgs false
set_option linter.unusedSectionVars false
namespace OT
open Go
def startW (ps:Pgs):L7Work:=(ps,([]:List Edit),())
theorem start_ok {ps:Pgs} (h:rightP ps):okW (startW ps) 0:=⟨h,Nat.le_refl _,fun e he=>by cases he⟩
theorem gp_of {ps:Pgs} (h:rightP ps):gp ps:=⟨h.1,fun p hp=>(h.2 p hp).len⟩
theorem specStart_eq {ps:Pgs} (h:rightP ps):spec_l7Start.sem (ps,())=some (startW ps,()):=by
 refine lift_eq (k:=0) fun k _=>(spec_l7Start.raw_eq k _).trans ?_
 show spec_l7Start.p _=_
 unfold spec_l7Start.p
 rw[specCopies_eq ps (gp_of h)]
 rfl
theorem implStart_eq {ps:Pgs} (h:rightP ps):impl_deskOf.sem (ps,())=some (startW ps,()):=by
 refine lift_eq (k:=0) fun k _=>(impl_deskOf.raw_eq k _).trans ?_
 show impl_deskOf.p _=_
 unfold impl_deskOf.p
 rw[implCopies_eq ps (gp_of h)]
 rfl
def badE (k:Int):EditsResult:=(k,([]:List Edit),([]:List (List UInt8)),())
def doneE (ok:Bool) (w:L7Work):EditsResult:=if ok then ((0:Int),w.2.1,w.1,()) else badE 9
theorem specBadE_eq (k:Int):spec_l7Bad.sem (k,())=some (badE k,()):=lift_eq (k:=0) fun q _=>(spec_l7Bad.raw_eq q _).trans rfl
theorem specDoneE_eq (w:L7Work):spec_l7Done.sem (w,())=some (doneE true w,()):=lift_eq (k:=0) fun q _=>(spec_l7Done.raw_eq q _).trans rfl
theorem implResE_eq (w:L7Work):impl_desk_result.sem (w,())=some (doneE true w,()):=lift_eq (k:=0) fun q _=>(impl_desk_result.raw_eq q _).trans rfl
theorem implDoneE_eq (w:L7Work) (ok:Bool):impl_desk_done.sem (w,ok,())=some (doneE ok w,()):=by
 refine lift_eq (k:=0) fun k _=>(impl_desk_done.raw_eq k _).trans ?_
 show impl_desk_done.p _=_
 unfold impl_desk_done.p
 rw[implResE_eq]
 cases ok <;> rfl
def insW (w:L7Work) (r:Row):Option (Nat×Nat)×L7Work:=placeW w (-1) (cellB 0 r)
theorem insW_ok {w:L7Work} {n:Nat} (h:okW w n) {r:Row} (hr:rowF r=0):placeR w n 25 (cellB 0 r) (insW w r):=
 placeW_ok h (cellB_len hr).1 (by have:=(cellB_len (f:=0) hr).2;omega) _
theorem implIns_eq {w:L7Work} {n:Nat} (h:okW w n) (hn:n<=800) {r:Row} (hr:rowF r=0):impl_desk_insert.sem (w,r,())=some ((insW w r).1.isSome,(insW w r).2,()):=by
 refine lift_eq (k:=0) fun k _=>(impl_desk_insert.raw_eq k _).trans ?_
 show impl_desk_insert.p _=_
 unfold impl_desk_insert.p
 have e:impl_cell.sem ((0:Int),r,())=some (cellB 0 r,()):=implCell_eq (f:=0) hr
 simp only[e,Option.bind_some,implPlace_eq h hn (cellB_len hr).1 (show (cellB 0 r).length<=20 by have:=(cellB_len (f:=0) hr).2;omega)]
 unfold placeOut insW
 cases (placeW w (-1) (cellB 0 r)).1 <;> rfl
theorem specIns_eq {ps:Pgs} (h:rightP ps) {r:Row} (hr:rowF r=0):spec_l7Insert.sem (ps,r,())=some (doneE (insW (startW ps) r).1.isSome (insW (startW ps) r).2,()):=by
 refine lift_eq (k:=0) fun k _=>(spec_l7Insert.raw_eq k _).trans ?_
 show spec_l7Insert.p _=_
 unfold spec_l7Insert.p
 have e:spec_l1Cell.sem ((0:Int),r,())=some (cellB 0 r,()):=specCell_eq (f:=0) hr
 simp only[e,specStart_eq h,Option.bind_some,specPlace_eq (start_ok h) (by omega) (cellB_len hr).1 (show (cellB 0 r).length<=20 by have:=(cellB_len (f:=0) hr).2;omega),specBadE_eq,specDoneE_eq]
 unfold placeOut insW
 cases (placeW (startW ps) (-1) (cellB 0 r)).1 <;> rfl
def updW (w:L7Work) (P s A B:Nat) (mv:Bool) (r:Row):Bool×L7Work:=
 if (setIn w A B (cellB (bif mv then 2 else 0) r)).1=true then (true,(setIn w A B (cellB (bif mv then 2 else 0) r)).2)
 else match (placeW (setIn w A B (cellB (bif mv then 2 else 0) r)).2 (A:Int) (cellB 2 r)).1 with
  | none=>(false,(placeW (setIn w A B (cellB (bif mv then 2 else 0) r)).2 (A:Int) (cellB 2 r)).2)
  | some a=>(true,bif mv then dropIn (setIn (placeW (setIn w A B (cellB (bif mv then 2 else 0) r)).2 (A:Int) (cellB 2 r)).2 P s (stubB a.1 a.2)).2 A B else (setIn (placeW (setIn w A B (cellB (bif mv then 2 else 0) r)).2 (A:Int) (cellB 2 r)).2 P s (stubB a.1 a.2)).2)
theorem cellB_ne {f:Nat} {r:Row}:cellB f r≠[]:=by unfold cellB;simp
theorem stubB_len (P t:Nat):(stubB P t).length=3:=rfl
theorem keep_at {w:L7Work} {n m:Nat} {c:List UInt8} {r:Option (Nat×Nat)×L7Work} (R:placeR w n m c r) {Q t:Nat} (h:cAt w.1 Q t≠[]) (hc:c≠[]):cAt r.2.1 Q t≠[]:=by
 cases hr:r.1 with
 | none=>rw[(R.no hr).2];exact h
 | some a=>
  rw[(R.yes a.1 a.2 hr).2.2.2]
  split
  ·exact hc
  ·exact h
theorem keep_set {w:L7Work} {n P s:Nat} {c:List UInt8} {r:Bool×L7Work} (R:setInR w n P s c r) {Q t:Nat} (h:cAt w.1 Q t≠[]) (hc:c≠[]):cAt r.2.1 Q t≠[]:=by
 cases hr:r.1 with
 | false=>rw[R.no hr];exact h
 | true=>
  rw[R.yes hr]
  split
  ·exact hc
  ·exact h
section
variable {w:L7Work} {n:Nat} (h:okW w n) (hn:n<=400) {P s A B:Nat} (h1:cAt w.1 P s≠[]) (h2:cAt w.1 A B≠[]) (mv:Bool) {r:Row} (hr:rowF r=0)
include h hn h1 h2 hr
theorem updW_ok:okW (updW w P s A B mv r).2 (n+40):=by
 have R1:=setIn_ok h h2 (cellB_len (f:=bif mv then 2 else 0) hr).1
 have R2:=placeW_ok R1.ok (cellB_len (f:=2) hr).1 (by have:=(cellB_len (f:=2) hr).2;omega) (A:Int)
 unfold updW
 split
 ·exact R1.ok.mono (by omega)
 ·split
  ·exact R2.ok.mono (by omega)
  ·rename_i a ha
   have k1:=keep_at R2 (keep_set R1 h1 cellB_ne) cellB_ne
   have k2:=keep_at R2 (keep_set R1 h2 cellB_ne) cellB_ne
   have R3:=setIn_ok R2.ok k1 (c:=stubB a.1 a.2) (by rw[stubB_len];omega)
   cases mv with
   | false=>exact R3.ok.mono (by omega)
   | true=>
    have k3:=keep_set R3 k2 (by unfold stubB;simp)
    exact (dropIn_ok R3.ok k3).1.mono (by omega)
theorem specMove_eq (x:L6Spot) (x3:x.2.2.1.2.2.1=(A:Int)) (x4:x.2.2.1.2.2.2.1=(B:Int)) (x1:x.1=(P:Int)) (x2:x.2.1=(s:Int)):spec_l7Move.sem (w,x,r,())=some ((updW w P s A B true r).1,(updW w P s A B true r).2,()):=by
 refine lift_eq (k:=0) fun k _=>(spec_l7Move.raw_eq k _).trans ?_
 show spec_l7Move.p _=_
 unfold spec_l7Move.p
 have l20:∀ f,(cellB f r).length<=20:=fun f=>by have:=(cellB_len (f:=f) hr).2;omega
 have l1:∀ f,1<=(cellB f r).length:=fun f=>(cellB_len (f:=f) hr).1
 have R1:=setIn_ok h h2 (l1 2)
 have R2:=placeW_ok R1.ok (l1 2) (l20 2) (A:Int)
 have e2:spec_l1Cell.sem ((2:Int),r,())=some (cellB 2 r,()):=specCell_eq (f:=2) hr
 unfold updW
 simp only[e2,x1,x2,x3,x4,Option.bind_some,specSetIn_eq h (by omega) h2 (l1 2) (l20 2),cond_true]
 cases hb:(setIn w A B (cellB 2 r)).1 with
 | true=>simp only[cond_true,if_true]
 | false=>
  simp only[cond_false,Bool.false_eq_true,if_false,specPlace_eq R1.ok (show n+2<=800 by omega) (l1 2) (l20 2),Option.bind_some]
  unfold placeOut
  cases hg:(placeW (setIn w A B (cellB 2 r)).2 (A:Int) (cellB 2 r)).1 with
  | none=>rfl
  | some a=>
   have k1:=keep_at R2 (keep_set R1 h1 cellB_ne) cellB_ne
   have k2:=keep_at R2 (keep_set R1 h2 cellB_ne) cellB_ne
   have l3:1<=(stubB a.1 a.2).length:=by rw[stubB_len];omega
   have R3:=setIn_ok R2.ok k1 l3
   have k3:=keep_set R3 k2 (by unfold stubB;simp)
   simp only[Bool.not_true,cond_false,specStub_eq,Option.bind_some,specSetIn_eq R2.ok (show n+2+25<=900 by omega) k1 l3 (show (stubB a.1 a.2).length<=20 by rw[stubB_len];omega),specDropIn_eq R3.ok (show n+2+25+2<=900 by omega) k3]
end
def updX (ps:Pgs) (x:L6Spot) (r:Row):EditsResult:=
 if Ty.eq tRow (sRow x) r=true then doneE true (startW ps) else
  doneE (updW (startW ps) x.1.toNat x.2.1.toNat (if sFlag x=1 then sTp x else x.1).toNat (if sFlag x=1 then sTs x else x.2.1).toNat (decide (sFlag x=1)) r).1 (updW (startW ps) x.1.toNat x.2.1.toNat (if sFlag x=1 then sTp x else x.1).toNat (if sFlag x=1 then sTs x else x.2.1).toNat (decide (sFlag x=1)) r).2
theorem specUpd_eq {ps:Pgs} (h:viewR ps) {x:L6Spot} (hx:x ∈ seenF ps) {r:Row} (hr:rowF r=0):spec_l7Update.sem (ps,x,r,())=some (updX ps x r,()):=by
 obtain ⟨P,s,x1,x2,c1,c2,c3⟩:=found_at h hx
 have ho:=start_ok h.right
 refine lift_eq (k:=0) fun k _=>(spec_l7Update.raw_eq k _).trans ?_
 show spec_l7Update.p _=_
 unfold spec_l7Update.p updX
 simp only[specStart_eq h.right,specDoneE_eq,specBadE_eq,Option.bind_some]
 show (bif Ty.eq tRow (sRow x) r then _ else _)=_
 cases Ty.eq tRow (sRow x) r with
 | true=>rfl
 | false=>
  simp only[cond_false,Bool.false_eq_true,if_false]
  show (bif decide (sFlag x=1) then _ else _)=_
  by_cases hf:sFlag x=1
  ·obtain ⟨Q,t,x3,x4,c4,c5⟩:=c2 hf
   rw[decide_eq_true hf,cond_true,specMove_eq ho (by omega) c1 c4 hr x x3 x4 x1 x2]
   simp only[if_pos hf,x1,x2,x3,x4,Int.toNat_natCast,Option.bind_some]
   cases (updW (startW ps) P s Q t true r).1 <;> rfl
  ·rw[decide_eq_false hf,cond_false]
   simp only[if_neg hf,x1,x2,Int.toNat_natCast]
   have l20:∀ f,(cellB f r).length<=20:=fun f=>by have:=(cellB_len (f:=f) hr).2;omega
   have l1:∀ f,1<=(cellB f r).length:=fun f=>(cellB_len (f:=f) hr).1
   have R1:=setIn_ok ho c1 (l1 0)
   have R2:=placeW_ok R1.ok (l1 2) (l20 2) (P:Int)
   have e0:spec_l1Cell.sem ((0:Int),r,())=some (cellB 0 r,()):=specCell_eq (f:=0) hr
   have e2:spec_l1Cell.sem ((2:Int),r,())=some (cellB 2 r,()):=specCell_eq (f:=2) hr
   unfold updW
   simp only[e0,e2,Option.bind_some,specSetIn_eq ho (by omega) c1 (l1 0) (l20 0),cond_false]
   cases hb:(setIn (startW ps) P s (cellB 0 r)).1 with
   | true=>rfl
   | false=>
    simp only[cond_false,Bool.false_eq_true,if_false,specPlace_eq R1.ok (show 0+2<=800 by omega) (l1 2) (l20 2),Option.bind_some]
    unfold placeOut
    cases hg:(placeW (setIn (startW ps) P s (cellB 0 r)).2 (P:Int) (cellB 2 r)).1 with
    | none=>rfl
    | some a=>
     have k1:=keep_at R2 (keep_set R1 c1 cellB_ne) cellB_ne
     have l3:1<=(stubB a.1 a.2).length:=by rw[stubB_len];omega
     simp only[Bool.not_true,cond_false,specStub_eq,Option.bind_some,specSetIn_eq R2.ok (show 0+2+25<=900 by omega) k1 l3 (show (stubB a.1 a.2).length<=20 by rw[stubB_len];omega)]
def delX (ps:Pgs) (x:L6Spot):EditsResult:=doneE true (if sFlag x=1 then dropIn (dropIn (startW ps) x.1.toNat x.2.1.toNat) (sTp x).toNat (sTs x).toNat else dropIn (startW ps) x.1.toNat x.2.1.toNat)
theorem del_at {ps:Pgs} (h:viewR ps) {x:L6Spot} (hx:x ∈ seenF ps):∃ P s:Nat,x.1=(P:Int)/\x.2.1=(s:Int)/\cAt ps P s≠[]/\(sFlag x=1->∃ Q t:Nat,sTp x=(Q:Int)/\sTs x=(t:Int)/\cAt (dropIn (startW ps) P s).1 Q t≠[]):=by
 obtain ⟨P,s,x1,x2,c1,c2,c3⟩:=found_at h hx
 refine ⟨P,s,x1,x2,c1,fun hf=>?_⟩
 obtain ⟨Q,t,x3,x4,c4,c5⟩:=c2 hf
 refine ⟨Q,t,x3,x4,?_⟩
 rw[(dropIn_ok (start_ok h.right) c1).2.2,if_neg]
 ·exact c4
 ·rintro ⟨rfl,rfl⟩
  rw[c5] at c3
  rw[hf] at c3
  cases c3
theorem specDel_eq {ps:Pgs} (h:viewR ps) {x:L6Spot} (hx:x ∈ seenF ps):spec_l7Delete.sem (ps,x,())=some (delX ps x,()):=by
 obtain ⟨P,s,x1,x2,c1,c2⟩:=del_at h hx
 have ho:=start_ok h.right
 have hd:=(dropIn_ok ho c1).1
 refine lift_eq (k:=0) fun k _=>(spec_l7Delete.raw_eq k _).trans ?_
 show spec_l7Delete.p _=_
 unfold spec_l7Delete.p delX
 simp only[specStart_eq h.right,specDoneE_eq,Option.bind_some,x1,x2,specDropIn_eq ho (by omega) c1,Int.toNat_natCast]
 show (bif decide (sFlag x=1) then _ else _)=_
 by_cases hf:sFlag x=1
 ·obtain ⟨Q,t,x3,x4,c4⟩:=c2 hf
  rw[decide_eq_true hf,cond_true,if_pos hf]
  have e3:x.2.2.1.2.2.1=(Q:Int):=x3
  have e4:x.2.2.1.2.2.2.1=(t:Int):=x4
  simp only[x3,x4,e3,e4,Int.toNat_natCast,specDropIn_eq hd (by omega) c4,Option.bind_some]
 ·rw[decide_eq_false hf,cond_false,if_neg hf]
end OT
set_option linter.unusedVariables false
set_option linter.unusedSimpArgs false
set_option linter.unusedSectionVars false
namespace OT
open Go
def dropC (f:Cells2) (P s:Nat):Cells2:=if flagC (f P s)=1 then upd (upd f P s []) (tpC (f P s)) (tsC (f P s)) [] else upd f P s []
theorem drop_row {f:Cells2} (S:Stands f) {P s:Nat} (h0:f P s≠[]) (h2:flagC (f P s)≠2):Stands (dropC f P s)/\(∀ r,rowIn (dropC f P s) r↔rowIn f r/\rk r≠rk (rowAt f P s)):=by
 obtain ⟨S1,r1,l1⟩:=drop_seen S h0 h2
 unfold dropC
 split
 ·rename_i hf
  obtain ⟨a1,a2⟩:=S.stub P s h0 hf
  have ne:¬ (tpC (f P s)=P/\tsC (f P s)=s):=fun he=>by
   rw[he.1,he.2] at a2;exact h2 a2
  obtain ⟨S2,r2⟩:=drop_moved S1 (A:=tpC (f P s)) (B:=tsC (f P s)) (by rw[upd_off ne];exact a2) (l1 hf)
  exact ⟨S2,fun r=>by rw[r2,r1]⟩
 ·exact ⟨S1,r1⟩
theorem drop_same (f:Cells2) (P s:Nat):dropC f P s P s=[]:=by
 unfold dropC
 split
 ·unfold upd
  split
  ·rfl
  ·rw[if_pos ⟨rfl,rfl⟩]
 ·exact upd_at _ _ _ _
theorem drop_nil {f:Cells2} {P s Q t:Nat} (h:f Q t=[]):dropC f P s Q t=[]:=by
 have one:∀ (g:Cells2) (A B:Nat),g Q t=[]->upd g A B [] Q t=[]:=fun g A B hg=>by
  by_cases he:Q=A/\t=B
  ·rw[he.1,he.2,upd_at]
  ·rw[upd_off he];exact hg
 unfold dropC
 split
 ·exact one _ _ _ (one _ _ _ h)
 ·exact one _ _ _ h
theorem flag_cell {n:Nat} (hn:n=0\/n=2) {r:Row} (hr:rowF r=0):(cellF (cellB n r)).2=true/\flagC (cellB n r)=n/\rowD (cellB n r)=r:=by
 unfold flagC rowD
 rw[cellB_read hn hr]
 exact ⟨rfl,rfl,rfl⟩
theorem add_near {h:Cells2} (S:Stands h) {P s:Nat} (h0:h P s=[]) {r:Row} (hr:rowF r=0) (hk:∀ r',rowIn h r'->rk r'≠rk r):Stands (upd h P s (cellB 0 r))/\(∀ r',rowIn (upd h P s (cellB 0 r)) r'↔rowIn h r'\/r'=r):=by
 obtain ⟨c1,c2,c3⟩:=flag_cell (n:=0) (.inl rfl) hr
 exact put_seen S h0 c1 cellB_ne (.inl ⟨c2,c3⟩) hk
theorem add_far {h:Cells2} (S:Stands h) {P s X Y:Nat} (h0:h P s=[]) (h1:h X Y=[]) (hne:¬ (X=P/\Y=s)) (hX:X<=11) (hY:Y<=15) {r:Row} (hr:rowF r=0) (hk:∀ r',rowIn h r'->rk r'≠rk r):Stands (upd (upd h X Y (cellB 2 r)) P s (stubB X Y))/\(∀ r',rowIn (upd (upd h X Y (cellB 2 r)) P s (stubB X Y)) r'↔rowIn h r'\/r'=r):=by
 obtain ⟨c1,c2,c3⟩:=flag_cell (n:=2) (.inr rfl) hr
 obtain ⟨S1,r1,l1⟩:=add_moved S h1 c1 c2
 have hs:=stubB_read hX hY
 have e1:flagC (stubB X Y)=1:=by unfold flagC;rw[hs]
 have e2:tpC (stubB X Y)=X:=by unfold tpC;rw[hs];rfl
 have e3:tsC (stubB X Y)=Y:=by unfold tsC;rw[hs];rfl
 have:=put_seen S1 (P:=P) (s:=s) (c:=stubB X Y) (r:=r) (by rw[upd_off (fun he=>hne ⟨he.1.symm,he.2.symm⟩)];exact h0) (by rw[hs]) (by unfold stubB;simp)
  (.inr ⟨e1,by rw[e2,e3,upd_at];exact cellB_ne,by rw[e2,e3,upd_at];exact c2,by rw[e2,e3];exact l1,by rw[e2,e3,upd_at];exact c3⟩) (fun r' hr'=>hk r' ((r1 r').1 hr'))
 exact ⟨this.1,fun r'=>by rw[this.2,r1]⟩
theorem cells_ext {ps:Pgs} {g:Cells2} (h:∀ Q t,cAt ps Q t=g Q t):cAt ps=g:=funext fun Q=>funext fun t=>h Q t
theorem seen_at {ps:Pgs} (hv:viewC ps=0) {x:L6Spot} (hx:x ∈ seenF ps):∃ P s:Nat,cAt ps P s≠[]/\flagC (cAt ps P s)≠2/\x.1=(P:Int)/\x.2.1=(s:Int)/\sFlag x=flagC (cAt ps P s)/\sTp x=(tpC (cAt ps P s):Int)/\sTs x=(tsC (cAt ps P s):Int)/\sRow x=rowAt (cAt ps) P s:=by
 have V:=view_ok hv
 have S:=(view_iff.1 hv).2
 unfold seenF at hx
 obtain ⟨y,hy,hxy⟩:=List.mem_flatMap.1 hx
 obtain ⟨P,s,c1,rfl⟩:=(spot_iff V.right).1 hy
 unfold seenX at hxy
 split at hxy
 ·cases hxy
 ·rename_i f1
  have hx1:=List.mem_singleton.1 hxy
  have e:=seen1_row V.right P s fun hf=>(S.stub P s c1 hf).1
  obtain ⟨t1,t2⟩:=tp_nat (cAt ps P s)
  refine ⟨P,s,c1,f1,?_⟩
  rw[hx1]
  refine ⟨?_,?_,?_,?_,?_,e⟩
  all_goals (unfold seen1;split)
  all_goals first | rfl | exact t1 | exact t2
theorem set_fits {w:L7Work} {n P s:Nat} (h:okW w n) (hat:cAt w.1 P s≠[]) {c:List UInt8} (hc:c.length<=(cAt w.1 P s).length):(setIn w P s c).1=true:=by
 obtain ⟨hP,hs,hz⟩:=cAt_in h.pages hat
 have hp:=pgAt_ok h.pages hP
 have hl:(cAt w.1 P s).length=psz (pgAt w.1 P) s:=by
  unfold cAt cellOf
  rw[if_pos hs,cellP_len hp hs]
 have h0:setF (pgAt w.1 P) s c=0:=by unfold setF;rw[if_pos (by omega)]
 unfold setIn
 rw[if_neg (by rw[h0];decide),if_pos h0]
theorem cell_long {d:List UInt8} (h:(cellF d).2=true):3<=d.length:=by
 unfold cellF at h
 split at h
 ·rename_i hc;omega
 ·split at h
  ·cases h
  ·rename_i hc;omega
theorem ins_view {ps:Pgs} (hv:viewC ps=0) {r:Row} (hr:rowF r=0) (hk:∀ r' ∈ rowsV ps,rk r'≠rk r) {a:Nat×Nat} (ha:(insW (startW ps) r).1=some a):viewC (insW (startW ps) r).2.1=0/\∀ r',r' ∈ rowsV (insW (startW ps) r).2.1↔r' ∈ rowsV ps\/r'=r:=by
 obtain ⟨hR,S⟩:=view_iff.1 hv
 have R:=insW_ok (start_ok hR) hr
 obtain ⟨y1,y2,y3,y4⟩:=R.yes a.1 a.2 ha
 have e:cAt (insW (startW ps) r).2.1=upd (cAt ps) a.1 a.2 (cellB 0 r):=cells_ext y4
 obtain ⟨S1,r1⟩:=add_near S y3 hr fun r' h'=>hk r' ((rows_iff hv r').2 h')
 have hv':viewC (insW (startW ps) r).2.1=0:=view_iff.2 ⟨R.ok.pages,by rw[e];exact S1⟩
 exact ⟨hv',fun r'=>by rw[rows_iff hv',rows_iff hv,e,r1]⟩
section
variable {ps:Pgs} (hv:viewC ps=0) {P s:Nat} (c1:cAt ps P s≠[]) (c2:flagC (cAt ps P s)≠2)
include hv c1 c2
theorem upd_cells {r:Row} (hr:rowF r=0) (mv:Bool) {A B:Nat} (hm:if mv then flagC (cAt ps P s)=1/\A=tpC (cAt ps P s)/\B=tsC (cAt ps P s) else flagC (cAt ps P s)≠1/\A=P/\B=s) (hyes:(updW (startW ps) P s A B mv r).1=true) :
  ∃ g:Cells2,cAt (updW (startW ps) P s A B mv r).2.1=g/\(g=upd (dropC (cAt ps) P s) P s (cellB 0 r)\/∃ X Y,dropC (cAt ps) P s X Y=[]/\¬ (X=P/\Y=s)/\X<=11/\Y<=15/\g=upd (upd (dropC (cAt ps) P s) X Y (cellB 2 r)) P s (stubB X Y)):=by
 obtain ⟨hR,S⟩:=view_iff.1 hv
 have ho:=start_ok hR
 have l20:∀ f,(cellB f r).length<=20:=fun f=>by have:=(cellB_len (f:=f) hr).2;omega
 have l1:∀ f,1<=(cellB f r).length:=fun f=>(cellB_len (f:=f) hr).1
 have hAB:cAt ps A B≠[]/\(mv=true->flagC (cAt ps A B)=2/\¬ (A=P/\B=s)/\cAt ps P s=stubB A B/\A<=11/\B<=15):=by
  cases mv with
  | false=>obtain ⟨m1,m2,m3⟩:=hm;rw[m2,m3];exact ⟨c1,fun h=>by cases h⟩
  | true=>
   obtain ⟨m1,m2,m3⟩:=hm
   obtain ⟨a1,a2⟩:=S.stub P s c1 m1
   obtain ⟨b1,b2,b3⟩:=stub_bytes (S.read P s c1) m1
   rw[m2,m3]
   exact ⟨a1,fun _=>⟨a2,fun he=>c2 (by rw[he.1,he.2] at a2;exact a2),b1,b2,b3⟩⟩
 obtain ⟨cAB,hmv⟩:=hAB
 have hd:∀ Q t,dropC (cAt ps) P s Q t=if (Q=P/\t=s)\/(mv=true/\Q=A/\t=B) then [] else cAt ps Q t:=by
  intro Q t
  unfold dropC upd
  cases mv with
  | false=>
   obtain ⟨m1,m2,m3⟩:=hm
   rw[if_neg m1]
   by_cases h:Q=P/\t=s
   ·rw[if_pos h,if_pos (.inl h)]
   ·rw[if_neg h,if_neg (fun hh=>by rcases hh with hh | hh;exact h hh;cases hh.1)]
  | true=>
   obtain ⟨m1,m2,m3⟩:=hm
   rw[if_pos m1,<- m2,<- m3]
   by_cases h2:Q=A/\t=B
   ·rw[if_pos h2,if_pos (.inr ⟨rfl,h2⟩)]
   ·rw[if_neg h2]
    by_cases h:Q=P/\t=s
    ·rw[if_pos h,if_pos (.inl h)]
    ·rw[if_neg h,if_neg (fun hh=>by rcases hh with hh | hh;exact h hh;exact h2 hh.2)]
 have R1:=setIn_ok ho (P:=A) (s:=B) cAB (l1 (bif mv then 2 else 0))
 have R2:=placeW_ok R1.ok (l1 2) (l20 2) (A:Int)
 refine ⟨_,rfl,?_⟩
 unfold updW at hyes ⊢
 split at hyes
 ·rename_i hb
  rw[if_pos hb]
  have e:=R1.yes hb
  cases mv with
  | false=>
   left
   obtain ⟨m1,m2,m3⟩:=hm
   refine cells_ext fun Q t=>?_
   rw[e Q t]
   unfold upd
   rw[m2,m3,hd]
   by_cases h:Q=P/\t=s
   ·rw[if_pos h,if_pos h];rfl
   ·rw[if_neg h,if_neg h,if_neg (fun hh=>by rcases hh with hh | hh;exact h hh;cases hh.1)]
    rfl
  | true=>
   right
   obtain ⟨m4,m5,m6,m7,m8⟩:=hmv rfl
   refine ⟨A,B,by rw[hd,if_pos (.inr ⟨rfl,rfl,rfl⟩)],m5,m7,m8,cells_ext fun Q t=>?_⟩
   rw[e Q t]
   unfold upd
   rw[hd]
   by_cases h:Q=P/\t=s
   ·rw[if_pos h,if_neg (fun hh=>m5 ⟨hh.1.symm.trans h.1,hh.2.symm.trans h.2⟩),h.1,h.2]
    exact m6
   ·rw[if_neg h]
    by_cases h2:Q=A/\t=B
    ·rw[if_pos h2,if_pos h2];rfl
    ·rw[if_neg h2,if_neg h2,if_neg (fun hh=>by rcases hh with hh | hh;exact h hh;exact h2 hh.2)]
     rfl
 ·rename_i hb
  rw[if_neg hb]
  have hbf:(setIn (startW ps) A B (cellB (bif mv then 2 else 0) r)).1=false:=by simpa using hb
  have e:=R1.no hbf
  cases hg:(placeW (setIn (startW ps) A B (cellB (bif mv then 2 else 0) r)).2 (A:Int) (cellB 2 r)).1 with
  | none=>rw[hg] at hyes;cases hyes
  | some a=>
   obtain ⟨y1,y2,y3,y4⟩:=R2.yes a.1 a.2 hg
   rw[e] at y3
   have y3':cAt ps a.1 a.2=[]:=y3
   have k1:=keep_at R2 (keep_set R1 (Q:=P) (t:=s) c1 cellB_ne) cellB_ne
   have k2:=keep_at R2 (keep_set R1 (Q:=A) (t:=B) cAB cellB_ne) cellB_ne
   have n1:¬ (a.1=P/\a.2=s):=fun he=>c1 (by rw[<-he.1,<- he.2];exact y3')
   have n2:¬ (a.1=A/\a.2=B):=fun he=>cAB (by rw[<-he.1,<- he.2];exact y3')
   have R3:=setIn_ok R2.ok k1 (c:=stubB a.1 a.2) (by rw[stubB_len];omega)
   have hcell:cAt (placeW (setIn (startW ps) A B (cellB (bif mv then 2 else 0) r)).2 (A:Int) (cellB 2 r)).2.1 P s=cAt ps P s:=by
    rw[y4,if_neg (fun he=>n1 ⟨he.1.symm,he.2.symm⟩),e];rfl
   have hst:=set_fits R2.ok k1 (c:=stubB a.1 a.2) (by rw[hcell,stubB_len];exact cell_long (S.read P s c1))
   have e3:=R3.yes hst
   right
   refine ⟨a.1,a.2,drop_nil y3',n1,by omega,by omega,cells_ext fun Q t=>?_⟩
   have base:∀ Q t,cAt (setIn (placeW (setIn (startW ps) A B (cellB (bif mv then 2 else 0) r)).2 (A:Int) (cellB 2 r)).2 P s (stubB a.1 a.2)).2.1 Q t=if Q=P/\t=s then stubB a.1 a.2 else if Q=a.1/\t=a.2 then cellB 2 r else cAt ps Q t:=fun Q t=>by
    rw[e3,y4,e];rfl
   simp only
   unfold upd
   rw[hd]
   cases mv with
   | false=>
    show cAt (setIn _ P s (stubB a.1 a.2)).2.1 Q t=_
    rw[base]
    by_cases h:Q=P/\t=s
    ·rw[if_pos h,if_pos h]
    ·rw[if_neg h,if_neg h]
     by_cases h2:Q=a.1/\t=a.2
     ·rw[if_pos h2,if_pos h2]
     ·rw[if_neg h2,if_neg h2,if_neg (fun hh=>by rcases hh with hh | hh;exact h hh;cases hh.1)]
   | true=>
    obtain ⟨m4,m5,m6,m7,m8⟩:=hmv rfl
    have k3:=keep_set R3 k2 (by unfold stubB;simp)
    show cAt (dropIn (setIn _ P s (stubB a.1 a.2)).2 A B).1 Q t=_
    rw[(dropIn_ok R3.ok k3).2.2,base]
    by_cases hAB2:Q=A/\t=B
    ·rw[if_pos hAB2,if_neg (fun hh=>m5 ⟨hAB2.1.symm.trans hh.1,hAB2.2.symm.trans hh.2⟩),if_neg (fun hh=>n2 ⟨hh.1.symm.trans hAB2.1,hh.2.symm.trans hAB2.2⟩),if_pos (.inr ⟨rfl,hAB2⟩)]
    ·rw[if_neg hAB2]
     by_cases h:Q=P/\t=s
     ·rw[if_pos h,if_pos h]
     ·rw[if_neg h,if_neg h]
      by_cases h2:Q=a.1/\t=a.2
      ·rw[if_pos h2,if_pos h2]
      ·rw[if_neg h2,if_neg h2,if_neg (fun hh=>by rcases hh with hh | hh;exact h hh;exact hAB2 hh.2)]
theorem upd_view {r:Row} (hr:rowF r=0) (hk:rk (rowAt (cAt ps) P s)=rk r) (mv:Bool) {A B:Nat} (hm:if mv then flagC (cAt ps P s)=1/\A=tpC (cAt ps P s)/\B=tsC (cAt ps P s) else flagC (cAt ps P s)≠1/\A=P/\B=s) (hok:rightP (updW (startW ps) P s A B mv r).2.1) (hyes:(updW (startW ps) P s A B mv r).1=true) :
  viewC (updW (startW ps) P s A B mv r).2.1=0/\∀ r',r' ∈ rowsV (updW (startW ps) P s A B mv r).2.1↔(r' ∈ rowsV ps/\rk r'≠rk r)\/r'=r:=by
 obtain ⟨hR,S⟩:=view_iff.1 hv
 obtain ⟨S1,r1⟩:=drop_row S c1 c2
 rw[hk] at r1
 have hno:∀ r',rowIn (dropC (cAt ps) P s) r'->rk r'≠rk r:=fun r' h'=>((r1 r').1 h').2
 obtain ⟨g,hg,hcase⟩:=upd_cells hv c1 c2 hr mv hm hyes
 have fin:Stands g/\∀ r',rowIn g r'↔rowIn (dropC (cAt ps) P s) r'\/r'=r:=by
  rcases hcase with rfl | ⟨X,Y,x1,x2,x3,x4,rfl⟩
  ·exact add_near S1 (drop_same _ _ _) hr hno
  ·exact add_far S1 (drop_same _ _ _) x1 x2 x3 x4 hr hno
 have hv':viewC (updW (startW ps) P s A B mv r).2.1=0:=view_iff.2 ⟨hok,by rw[hg];exact fin.1⟩
 exact ⟨hv',fun r'=>by rw[rows_iff hv',rows_iff hv,hg,fin.2,r1]⟩
end
theorem row_eq {a b:Row} (h:Ty.eq tRow a b=true):a=b:=by
 have e:Ty.eq tRow a b=(decide (a.1=b.1)&&(decide (a.2.1=b.2.1)&&(decide (a.2.2.1=b.2.2.1)&&(decide (a.2.2.2.1=b.2.2.2.1)&&true)))):=rfl
 rw[e] at h
 simp only[Bool.and_eq_true,decide_eq_true_eq,and_true] at h
 obtain ⟨a1,a2,a3,a4,⟨⟩⟩:=a
 obtain ⟨b1,b2,b3,b4,⟨⟩⟩:=b
 obtain ⟨h1,h2,h3,h4⟩:=h
 simp only at h1 h2 h3 h4
 rw[h1,h2,h3,h4]
theorem nodup_of {xs:List Row} (h:(xs.map rk).Nodup):xs.Nodup:=List.Pairwise.of_map rk (fun a b h he=>h (congrArg rk he)) h
theorem del_view {ps:Pgs} (hv:viewC ps=0) {x:L6Spot} (hx:x ∈ seenF ps):∃ w:L7Work,delX ps x=doneE true w/\okW w 2/\viewC w.1=0/\∀ r',r' ∈ rowsV w.1↔r' ∈ rowsV ps/\rk r'≠rk (sRow x):=by
 obtain ⟨hR,S⟩:=view_iff.1 hv
 obtain ⟨P,s,c1,c2,x1,x2,x3,x4,x5,x6⟩:=seen_at hv hx
 have ho:=start_ok hR
 obtain ⟨d1,d2,d3⟩:=dropIn_ok ho c1
 obtain ⟨S1,r1⟩:=drop_row S c1 c2
 unfold delX
 rw[x1,x2,x4,x5,Int.toNat_natCast,Int.toNat_natCast,Int.toNat_natCast,Int.toNat_natCast,x3,x6]
 by_cases hf:flagC (cAt ps P s)=1
 ·rw[if_pos hf]
  obtain ⟨a1,a2⟩:=S.stub P s c1 hf
  have ne:¬ (tpC (cAt ps P s)=P/\tsC (cAt ps P s)=s):=fun he=>by
   rw[he.1,he.2] at a2;exact c2 a2
  have k1:cAt (dropIn (startW ps) P s).1 (tpC (cAt ps P s)) (tsC (cAt ps P s))≠[]:=by rw[d3,if_neg ne];exact a1
  obtain ⟨e1,e2,e3⟩:=dropIn_ok d1 k1
  have e:cAt (dropIn (dropIn (startW ps) P s) (tpC (cAt ps P s)) (tsC (cAt ps P s))).1=dropC (cAt ps) P s:=cells_ext fun Q t=>by
   rw[e3,d3]
   unfold dropC
   rw[if_pos hf]
   rfl
  have hv':=view_iff.2 ⟨e1.pages,by rw[e];exact S1⟩
  exact ⟨_,rfl,e1.mono (by omega),hv',fun r'=>by rw[rows_iff hv',rows_iff hv,e,r1]⟩
 ·rw[if_neg hf]
  have e:cAt (dropIn (startW ps) P s).1=dropC (cAt ps) P s:=cells_ext fun Q t=>by
   rw[d3]
   unfold dropC
   rw[if_neg hf]
   rfl
  have hv':=view_iff.2 ⟨d1.pages,by rw[e];exact S1⟩
  exact ⟨_,rfl,d1.mono (by omega),hv',fun r'=>by rw[rows_iff hv',rows_iff hv,e,r1]⟩
theorem updX_view {ps:Pgs} (hv:viewC ps=0) {x:L6Spot} (hx:x ∈ seenF ps) {r:Row} (hr:rowF r=0) (hk:rk (sRow x)=rk r):updX ps x r=badE 9\/∃ w:L7Work,updX ps x r=doneE true w/\okW w 40/\viewC w.1=0/\∀ r',r' ∈ rowsV w.1↔(r' ∈ rowsV ps/\rk r'≠rk r)\/r'=r:=by
 obtain ⟨hR,S⟩:=view_iff.1 hv
 obtain ⟨P,s,c1,c2,x1,x2,x3,x4,x5,x6⟩:=seen_at hv hx
 have ho:=start_ok hR
 have V:=view_ok hv
 unfold updX
 by_cases he:Ty.eq tRow (sRow x) r=true
 ·rw[if_pos he]
  right
  have her:sRow x=r:=by
   exact row_eq he
  refine ⟨startW ps,rfl,ho.mono (by omega),hv,fun r'=>?_⟩
  have hin:r ∈ rowsV ps:=by
   rw[rowsV_eq V,(sortR_perm _).mem_iff]
   exact List.mem_map.2 ⟨x,hx,her⟩
  constructor
  ·intro h
   by_cases hk2:rk r'=rk r
   ·right
    have hn:=up_nodup (rowsV_up V)
    exact nodup_inj hn h hin hk2
   ·exact .inl ⟨h,hk2⟩
  ·rintro (h | rfl)
   ·exact h.1
   ·exact hin
 ·rw[if_neg he]
  by_cases hf:flagC (cAt ps P s)=1
  ·obtain ⟨a1,a2⟩:=S.stub P s c1 hf
   have hm:if (true:Bool) then flagC (cAt ps P s)=1/\tpC (cAt ps P s)=tpC (cAt ps P s)/\tsC (cAt ps P s)=tsC (cAt ps P s) else flagC (cAt ps P s)≠1/\tpC (cAt ps P s)=P/\tsC (cAt ps P s)=s:=⟨hf,rfl,rfl⟩
   rw[x3,if_pos hf,if_pos hf,x1,x2,x4,x5,decide_eq_true hf,Int.toNat_natCast,Int.toNat_natCast,Int.toNat_natCast,Int.toNat_natCast]
   have hok:=updW_ok ho (by omega) c1 a1 true hr
   cases hy:(updW (startW ps) P s (tpC (cAt ps P s)) (tsC (cAt ps P s)) true r).1 with
   | false=>exact .inl rfl
   | true=>
    right
    obtain ⟨v1,v2⟩:=upd_view hv c1 c2 hr (by rw[<-x6];exact hk) true hm hok.pages hy
    exact ⟨_,rfl,hok.mono (by omega),v1,v2⟩
  ·have hm:if (false:Bool) then flagC (cAt ps P s)=1/\P=tpC (cAt ps P s)/\s=tsC (cAt ps P s) else flagC (cAt ps P s)≠1/\P=P/\s=s:=⟨hf,rfl,rfl⟩
   rw[x3,if_neg hf,if_neg hf,x1,x2,decide_eq_false hf,Int.toNat_natCast,Int.toNat_natCast]
   have hok:=updW_ok ho (by omega) c1 c1 false hr
   cases hy:(updW (startW ps) P s P s false r).1 with
   | false=>exact .inl rfl
   | true=>
    right
    obtain ⟨v1,v2⟩:=upd_view hv c1 c2 hr (by rw[<-x6];exact hk) false hm hok.pages hy
    exact ⟨_,rfl,hok.mono (by omega),v1,v2⟩
theorem up_same {xs ys:List Row} (hx:up xs) (hy:up ys) (h:∀ r,r ∈ xs↔r ∈ ys):xs=ys:=by
 have n1:xs.Nodup:=nodup_of (up_nodup hx)
 have n2:ys.Nodup:=nodup_of (up_nodup hy)
 exact up_unique ((List.perm_ext_iff_of_nodup n1 n2).2 h) hx hy
end OT
set_option linter.unusedVariables false
set_option linter.unusedSimpArgs false
set_option linter.unusedSectionVars false
namespace OT
open Go
def insE (ps:Pgs) (r:Row):EditsResult:=
 if viewC ps=0 then (if rowF r=0 then (match findS ps r.1 r.2.1 with | some _=>badE 6 | none=>doneE (insW (startW ps) r).1.isSome (insW (startW ps) r).2) else badE (rowF r)) else badE (viewC ps)
section
variable {ps:Pgs} (hp:∀ p ∈ ps,p.length<=maxLen)
include hp
theorem specInsE_eq {r:Row} (hr:List.length r.2.2.2.1<=maxLen):spec_InsertEdits.sem (ps,r,())=some (insE ps r,()):=by
 refine lift_eq (k:=0) fun k _=>(spec_InsertEdits.raw_eq k _).trans ?_
 show spec_InsertEdits.p _=_
 unfold spec_InsertEdits.p insE
 rw[specView_eq ps hp]
 simp only[Option.bind_some,specBadE_eq,specRow_eq r hr]
 by_cases hv:viewC ps=0
 ·rw[if_pos hv,decide_eq_true hv,Bool.not_true,cond_false]
  by_cases hf:rowF r=0
  ·rw[if_pos hf,decide_eq_true hf,Bool.not_true,cond_false,specFind_eq ps (view_ok hv).right,specIns_eq (view_ok hv).right hf]
   cases findS ps r.1 r.2.1 <;> rfl
  ·rw[if_neg hf,decide_eq_false hf,Bool.not_false,cond_true]
 ·rw[if_neg hv,decide_eq_false hv,Bool.not_false,cond_true]
theorem implInsE_eq {r:Row} (hr:List.length r.2.2.2.1<=maxLen):impl_InsertEdits.sem (ps,r,())=some (insE ps r,()):=by
 refine lift_eq (k:=0) fun k _=>(impl_InsertEdits.raw_eq k _).trans ?_
 show impl_InsertEdits.p _=_
 unfold impl_InsertEdits.p insE
 rw[implView_eq ps hp]
 simp only[Option.bind_some,implRow_eq r hr]
 by_cases hv:viewC ps=0
 ·rw[if_pos hv,decide_eq_true hv,cond_true]
  by_cases hf:rowF r=0
  ·have hr:=(view_ok hv).right
   rw[if_pos hf,decide_eq_true hf,Bool.not_true,cond_false,implFind_eq _ (by have:=viewL_len (view_ok hv);omega),find_same (view_ok hv),implStart_eq hr]
   cases findS ps r.1 r.2.1 with
   | some x=>rfl
   | none=>
    simp only[Option.map_none,Option.bind_some,cond_false,implIns_eq (start_ok hr) (show 0<=800 by omega) hf,implDoneE_eq]
  ·rw[if_neg hf,decide_eq_false hf,Bool.not_false,cond_true]
   rfl
 ·rw[if_neg hv,decide_eq_false hv,cond_false,Bool.not_false,cond_true]
  rfl
end
end OT
set_option linter.unusedVariables false
set_option linter.unusedSimpArgs false
set_option linter.unusedSectionVars false
namespace OT
open Go
theorem fnd_at {xs:List Row} {k:Int×Int} (hu:up xs) {i:Nat} (hi:i < xs.length) (hk:rk xs[i]=k):fnd xs k=true/\pos xs k=i:=by
 have h1:¬ i < pos xs k:=fun hlt=>by
  have:=pos_lt xs k i hi hlt
  rw[hk,befB_irr] at this
  cases this
 have hp:pos xs k < xs.length:=by omega
 have h2:pos xs k=i:=by
  by_cases he:pos xs k=i
  ·exact he
  ·have h3:=List.pairwise_iff_getElem.1 hu (pos xs k) i hp hi (by omega)
   have h4:=up_not xs k (pos xs k) hp hu (Nat.le_refl _)
   rw[hk] at h3
   rw[h3] at h4
   cases h4
 refine ⟨?_,h2⟩
 unfold fnd
 rw[h2,List.getElem?_eq_getElem hi]
 simpa using hk
theorem doneE_zero {ok:Bool} {w:L7Work} (h:(doneE ok w).1=0):ok=true/\doneE ok w=((0:Int),w.2.1,w.1,()):=by
 unfold doneE at h ⊢
 cases ok with
 | true=>exact ⟨rfl,rfl⟩
 | false=>exact absurd h (show ¬ (9:Int)=0 by decide)
theorem insE_view {ps:Pgs} (hv:viewC ps=0) {r:Row} (hr:rowF r=0) (hn:findS ps r.1 r.2.1=none) (h0:(doneE (insW (startW ps) r).1.isSome (insW (startW ps) r).2).1=0):viewC (insW (startW ps) r).2.1=0/\∀ r',r' ∈ rowsV (insW (startW ps) r).2.1↔r' ∈ rowsV ps\/r'=r:=by
 have V:=view_ok hv
 obtain ⟨ha,_⟩:=doneE_zero h0
 obtain ⟨a,ha⟩:=Option.isSome_iff_exists.1 ha
 refine ins_view hv hr (fun r' hr' he=>?_) ha
 have hf:=find_rows V r.1 r.2.1
 rw[hn] at hf
 simp only at hf
 obtain ⟨i,hi,hx⟩:=List.getElem_of_mem hr'
 have:=(fnd_at (rowsV_up V) hi (k:=(r.1,r.2.1)) (by rw[hx];exact he)).1
 rw[hf] at this
 cases this
end OT
set_option linter.unusedVariables false
set_option linter.unusedSimpArgs false
set_option linter.unusedSectionVars false
namespace OT
open Go
def applyE (ps:Pgs) (e:Edit):Pgs:=if e.1.toNat=ps.length then ps++[e.2.1] else ps.set e.1.toNat e.2.1
def atE (ps:Pgs) (es:List Edit):Pgs:=es.foldl applyE ps
theorem atE_app (ps:Pgs) (es:List Edit) (e:Edit):atE ps (es++[e])=applyE (atE ps es) e:=by
 unfold atE
 rw[List.foldl_append];rfl
def okEd (ps:Pgs) (e:Edit):Prop:=List.length e.2.1=64/\0<=e.1/\e.1<=(ps.length:Int)/\e.1 < 12
def okEds:Pgs->List Edit->Prop
 | _,[]=>True
 | ps,e::es=>okEd ps e/\okEds (applyE ps e) es
theorem okEds_app {ps:Pgs}:∀ {es:List Edit} {e:Edit},okEds ps es->okEd (atE ps es) e->okEds ps (es++[e])
 | [],e,_,h=>⟨h,trivial⟩
 | x::es,e,h,h2=>⟨h.1,okEds_app (ps:=applyE ps x) h.2 h2⟩
theorem okEd_of {ps:Pgs} {P:Nat} {b:List UInt8} (h:rightP (applyE ps ((P:Int),b,()))) (hP:P<=ps.length):okEd ps ((P:Int),b,()):=by
 have hm:b ∈ applyE ps ((P:Int),b,())/\P < (applyE ps ((P:Int),b,())).length:=by
  unfold applyE
  show b ∈ (if ((P:Int)).toNat=ps.length then ps++[b] else ps.set ((P:Int)).toNat b)/\P < (if ((P:Int)).toNat=ps.length then ps++[b] else ps.set ((P:Int)).toNat b).length
  rw[Int.toNat_natCast]
  split
  ·rename_i h1
   rw[List.length_append]
   exact ⟨List.mem_append.2 (.inr (List.mem_singleton.2 rfl)),by simp only[List.length_cons,List.length_nil];omega⟩
  ·rename_i h1
   rw[List.length_set]
   exact ⟨List.mem_set (by omega) _,by omega⟩
 have h12:=h.1
 exact ⟨(h.2 b hm.1).len,by show (0:Int)<=(P:Int);omega,by show (P:Int)<=_;omega,by show (P:Int) < 12;omega⟩
def wayB (ps:Pgs) (es:List Edit) (B:Nat->List Row):Prop:=∀ j,j<=es.length->viewC (atE ps (es.take j))=0/\rowsV (atE ps (es.take j))=B j
structure NotYet (ps:Pgs) (w:L7Work) (B0:List Row):Prop where
 at_:atE ps w.2.1=w.1
 ed:okEds ps w.2.1
 way:wayB ps w.2.1 fun _=>B0
structure Turned2 (ps:Pgs) (w:L7Work) (B0 B1:List Row):Prop where
 at_:atE ps w.2.1=w.1
 ed:okEds ps w.2.1
 way:∃ m,m<=List.length w.2.1/\wayB ps w.2.1 fun j=>if j < m then B0 else B1
theorem way_more {ps:Pgs} {es:List Edit} {B:Nat->List Row} (h:wayB ps es B) {e:Edit} (h1:viewC (atE ps (es++[e]))=0) (h2:rowsV (atE ps (es++[e]))=B (es.length+1)):wayB ps (es++[e]) B:=fun j hj=>by
 rw[List.length_append,List.length_cons,List.length_nil] at hj
 by_cases hl:j<=es.length
 ·rw[List.take_append_of_le_length hl]
  exact h j hl
 ·have:j=es.length+1:=by omega
  rw[this,List.take_of_length_le (by rw[List.length_append];exact Nat.le_refl _)]
  exact ⟨h1,h2⟩
theorem turn_cases {w:L7Work} {P:Nat} (hP:P<=List.length w.1) (b:List UInt8):turnW w P b=w\/((turnW w P b).2.1=w.2.1++[((P:Int),b,())]/\(turnW w P b).1=applyE w.1 ((P:Int),b,())):=by
 unfold turnW applyE
 by_cases h:P=List.length w.1
 ·right
  rw[if_pos h]
  refine ⟨rfl,?_⟩
  show w.1++[b]=if ((P:Int)).toNat=List.length w.1 then w.1++[b] else _
  rw[Int.toNat_natCast,if_pos h]
 ·rw[if_neg h]
  split
  ·exact .inl rfl
  ·right
   refine ⟨rfl,?_⟩
   show List.set w.1 P b=if ((P:Int)).toNat=List.length w.1 then _ else List.set w.1 ((P:Int)).toNat b
   rw[Int.toNat_natCast,if_neg h]
theorem notyet_stay {ps:Pgs} {w:L7Work} {B0:List Row} (h:NotYet ps w B0) {P:Nat} (hP:P<=List.length w.1) {b:List UInt8} (h1:viewC (turnW w P b).1=0) (h2:rowsV (turnW w P b).1=B0):NotYet ps (turnW w P b) B0:=by
 rcases turn_cases hP b with e | ⟨e1,e2⟩
 ·rw[e];exact h
 ·have ha:atE ps (turnW w P b).2.1=(turnW w P b).1:=by rw[e1,atE_app,h.at_,e2]
  have hed:okEds ps (turnW w P b).2.1:=by rw[e1];exact okEds_app h.ed (by rw[h.at_];exact okEd_of (by rw[<-e2];exact (view_iff.1 h1).1) hP)
  refine ⟨ha,hed,?_⟩
  rw[e1] at ha ⊢
  exact way_more h.way (by rw[ha];exact h1) (by rw[ha];exact h2)
theorem notyet_turn {ps:Pgs} {w:L7Work} {B0 B1:List Row} (h:NotYet ps w B0) {P:Nat} (hP:P<=List.length w.1) {b:List UInt8} (h1:viewC (turnW w P b).1=0) (h2:rowsV (turnW w P b).1=B1):Turned2 ps (turnW w P b) B0 B1:=by
 rcases turn_cases hP b with e | ⟨e1,e2⟩
 ·rw[e] at h1 h2 ⊢
  refine ⟨h.at_,h.ed,List.length w.2.1,Nat.le_refl _,fun j hj=>?_⟩
  obtain ⟨a1,a2⟩:=h.way j hj
  refine ⟨a1,?_⟩
  show rowsV (atE ps (w.2.1.take j))=if j < List.length w.2.1 then B0 else B1
  by_cases hl:j < List.length w.2.1
  ·rw[if_pos hl];exact a2
  ·rw[if_neg hl,List.take_of_length_le (by omega),h.at_];exact h2
 ·have ha:atE ps (turnW w P b).2.1=(turnW w P b).1:=by rw[e1,atE_app,h.at_,e2]
  have hed:okEds ps (turnW w P b).2.1:=by rw[e1];exact okEds_app h.ed (by rw[h.at_];exact okEd_of (by rw[<-e2];exact (view_iff.1 h1).1) hP)
  refine ⟨ha,hed,List.length w.2.1+1,by rw[e1,List.length_append];exact Nat.le_refl _,?_⟩
  rw[e1] at ha ⊢
  refine way_more (fun j hj=>?_) (by rw[ha];exact h1) (by
   show _=if List.length w.2.1+1 < List.length w.2.1+1 then B0 else B1
   rw[ha,if_neg (Nat.lt_irrefl _)];exact h2)
  show _/\_=if j < List.length w.2.1+1 then B0 else B1
  rw[if_pos (by omega)]
  exact h.way j hj
theorem same_view {ps qs:Pgs} (hv:viewC ps=0) (hq:rightP qs) (h:∀ Q t,cAt qs Q t=cAt ps Q t):viewC qs=0/\rowsV qs=rowsV ps:=by
 have e:cAt qs=cAt ps:=cells_ext h
 have hv':viewC qs=0:=view_iff.2 ⟨hq,by rw[e];exact (view_iff.1 hv).2⟩
 exact ⟨hv',up_same (rowsV_up (view_ok hv')) (rowsV_up (view_ok hv)) fun r=>by rw[rows_iff hv',rows_iff hv,e]⟩
theorem notyet_start {ps:Pgs} (hv:viewC ps=0):NotYet ps (startW ps) (rowsV ps):=⟨rfl,trivial,fun j hj=>by
 have:j=0:=by have:j<=0:=hj;omega
 subst this
 exact ⟨hv,rfl⟩⟩
theorem notyet_view {ps:Pgs} {w:L7Work} {B0:List Row} (h:NotYet ps w B0):viewC w.1=0/\rowsV w.1=B0:=by
 have:=h.way _ (Nat.le_refl _)
 rw[List.take_length,h.at_] at this
 exact this
theorem notyet_comp {ps:Pgs} {w:L7Work} {n:Nat} {B0:List Row} (h:NotYet ps w B0) (ho:okW w n) {P:Nat} (hP:P < List.length w.1):NotYet ps (compW w P) B0:=by
 obtain ⟨v1,v2⟩:=notyet_view h
 obtain ⟨s1,s2⟩:=same_view v1 (compW_ok ho hP).pages (compW_cells ho hP)
 exact notyet_stay h (Nat.le_of_lt hP) s1 (s2.trans v2)
theorem putIn_way {ps:Pgs} {w:L7Work} {n:Nat} {B0 B1:List Row} (h:NotYet ps w B0) (ho:okW w n) {P:Nat} (hP:P < List.length w.1) {c:List UInt8} (hno:(putIn w P c).1=none->True) (hyes:∀ t,(putIn w P c).1=some t->viewC (putIn w P c).2.1=0/\rowsV (putIn w P c).2.1=B1) :
  ((putIn w P c).1=none->NotYet ps (putIn w P c).2 B0)/\(∀ t,(putIn w P c).1=some t->Turned2 ps (putIn w P c).2 B0 B1/\(B1=B0->NotYet ps (putIn w P c).2 B0)):=by
 have hc:=notyet_comp h ho hP
 have hl:=compW_len hP
 unfold putIn at hyes ⊢
 split
 ·rename_i h8
  rw[if_pos h8] at hyes
  split
  ·rename_i h0
   rw[if_pos h0] at hyes
   obtain ⟨a1,a2⟩:=hyes _ rfl
   refine ⟨fun hh=>(by cases hh),fun t ht=>⟨notyet_turn hc (by omega) a1 a2,fun he=>notyet_stay hc (by omega) a1 (a2.trans he)⟩⟩
  ·exact ⟨fun _=>hc,fun t ht=>by cases ht⟩
 ·rename_i h8
  rw[if_neg h8] at hyes
  split
  ·rename_i h0
   rw[if_pos h0] at hyes
   obtain ⟨a1,a2⟩:=hyes _ rfl
   refine ⟨fun hh=>(by cases hh),fun t ht=>⟨notyet_turn h (Nat.le_of_lt hP) a1 a2,fun he=>notyet_stay h (Nat.le_of_lt hP) a1 (a2.trans he)⟩⟩
  ·exact ⟨fun _=>h,fun t ht=>by cases ht⟩
def placeQ (f:Cells2) (c:List UInt8) (B1:List Row):Prop:=∀ (P t:Nat) (q:Pgs),rightP q->f P t=[]->cAt q=upd f P t c->P < 12->t < 16->viewC q=0/\rowsV q=B1
def wayR (ps:Pgs) (B0 B1:List Row) (r:Option (Nat×Nat)×L7Work):Prop:=(r.1=none->NotYet ps r.2 B0)/\(∀ a,r.1=some a->Turned2 ps r.2 B0 B1/\(B1=B0->NotYet ps r.2 B0))
theorem placeGo_way {ps:Pgs} {B0 B1:List Row} {c:List UInt8} (hc:1<=c.length) (no:Int):∀ (l:List Nat) (w:L7Work) (n:Nat),NotYet ps w B0->okW w n->(∀ P ∈ l,P < List.length w.1)->placeQ (cAt w.1) c B1->wayR ps B0 B1 (placeGo c no l w)
 | [],w,n,h,_,_,_=>⟨fun _=>h,fun a ha=>by cases ha⟩
 | P::l,w,n,h,ho,hl,hq=>by
  unfold placeGo
  split
  ·exact placeGo_way hc no l w n h ho (fun Q hQ=>hl Q (List.mem_cons_of_mem _ hQ)) hq
  ·have hP:=hl P List.mem_cons_self
   have R:=putIn_ok ho hP hc
   obtain ⟨y1,y2⟩:=putIn_way (B1:=B1) h ho hP (c:=c) (fun _=>trivial) fun t ht=>by
    obtain ⟨a1,a2,a3⟩:=R.yes t ht
    exact hq P t _ R.ok.pages a2 (cells_ext a3) (by have:=ho.pages.1;omega) a1
   split
   ·rename_i t ht
    exact ⟨fun hh=>(by cases hh),fun a _=>y2 t ht⟩
   ·rename_i ht
    have e:cAt (putIn w P c).2.1=cAt w.1:=cells_ext (R.no ht)
    exact placeGo_way hc no l (putIn w P c).2 (n+2) (y1 ht) R.ok (fun Q hQ=>by rw[R.len];exact hl Q (List.mem_cons_of_mem _ hQ)) (by rw[e];exact hq)
theorem placeW_way {ps:Pgs} {w:L7Work} {n:Nat} {B0 B1:List Row} (h:NotYet ps w B0) (ho:okW w n) {c:List UInt8} (hc1:1<=c.length) (hc:c.length<=20) (no:Int) (hq:placeQ (cAt w.1) c B1):wayR ps B0 B1 (placeW w no c):=by
 have hR:=placeW_ok ho hc1 hc no
 have G:=placeGo_way hc1 no (List.range (List.length w.1)) w n h ho (fun P hP=>List.mem_range.1 hP) hq
 have R:=placeGo_ok hc1 no (List.range (List.length w.1)) w n ho fun P hP=>List.mem_range.1 hP
 unfold placeW at hR ⊢
 split
 ·exact G
 ·rename_i h0
  obtain ⟨a1,a2⟩:=R.no h0
  rw[h0] at hR
  simp only at hR
  split
  ·exact ⟨fun _=>G.1 h0,fun a ha=>by cases ha⟩
  ·rename_i hlt
   rw[if_neg hlt] at hR
   obtain ⟨b1,b2,b3,b4⟩:=hR.yes _ _ rfl
   obtain ⟨v1,v2⟩:=hq _ _ _ hR.ok.pages b3 (cells_ext b4) b1 b2
   have N:=G.1 h0
   exact ⟨fun hh=>(by cases hh),fun a _=>⟨notyet_turn N (by omega) v1 v2,fun he=>notyet_stay N (by omega) v1 (v2.trans he)⟩⟩
theorem ins_way {ps:Pgs} (hv:viewC ps=0) {r:Row} (hr:rowF r=0) (hk:∀ r' ∈ rowsV ps,rk r'≠rk r) {a:Nat×Nat} (ha:(insW (startW ps) r).1=some a):Turned2 ps (insW (startW ps) r).2 (rowsV ps) (rowsV (insW (startW ps) r).2.1):=by
 obtain ⟨hR,S⟩:=view_iff.1 hv
 obtain ⟨v1,v2⟩:=ins_view hv hr hk ha
 refine ((placeW_way (notyet_start hv) (start_ok hR) (cellB_len hr).1 (by have:=(cellB_len (f:=0) hr).2;omega) (-1) ?_).2 a ha).1
 intro P t q hq h0 e _ _
 obtain ⟨S1,r1⟩:=add_near S h0 hr fun r' h'=>hk r' ((rows_iff hv r').2 h')
 have hvq:viewC q=0:=view_iff.2 ⟨hq,by rw[e];exact S1⟩
 refine ⟨hvq,up_same (rowsV_up (view_ok hvq)) (rowsV_up (view_ok v1)) fun r'=>?_⟩
 rw[rows_iff hvq,e,show cAt (startW ps).1=cAt ps from rfl,r1,v2,rows_iff hv]
end OT
set_option linter.unusedVariables false
set_option linter.unusedSimpArgs false
set_option linter.unusedSectionVars false
namespace OT
open Go
theorem implRowsIn_eq (ps:Pgs) (hp:∀ p ∈ ps,p.length<=maxLen):impl_RowsIn.sem (ps,())=some (if viewC ps=0 then ((0:Int),rowsV ps,()) else (viewC ps,([]:List Row),()),()):=by
 refine lift_eq (k:=0) fun k _=>(impl_RowsIn.raw_eq k _).trans ?_
 show impl_RowsIn.p _=_
 unfold impl_RowsIn.p
 rw[implView_eq ps hp]
 simp only[Option.bind_some]
 by_cases hv:viewC ps=0
 ·rw[if_pos hv,decide_eq_true hv,Bool.not_true,cond_false,seenRows_eq _ (by have:=viewL_len (view_ok hv);omega)]
  rfl
 ·rw[if_neg hv,decide_eq_false hv,Bool.not_false,cond_true]
theorem implFindRow_eq {ps:Pgs} (hp:∀ p ∈ ps,p.length<=maxLen) (hv:viewC ps=0) {r:Row} (hr:rowF r=0) (hm:r ∈ rowsV ps):∃ P s:Int,impl_FindRow.sem (ps,r.1,r.2.1,())=some (((0:Int),P,s,r,()),()):=by
 have V:=view_ok hv
 obtain ⟨h1,h2,h3,h4⟩:=rowF_ok hr
 have hfr:=find_rows V r.1 r.2.1
 obtain ⟨i,hi,he⟩:=List.getElem_of_mem hm
 obtain ⟨f1,f2⟩:=fnd_at (rowsV_up V) hi (k:=(r.1,r.2.1)) (by rw[he];rfl)
 cases hx:findS ps r.1 r.2.1 with
 | none=>
  rw[hx] at hfr
  simp only at hfr
  rw[hfr] at f1
  cases f1
 | some x=>
  rw[hx] at hfr
  obtain ⟨_,g2,_,_⟩:=hfr
  have hxr:sRow x=r:=by
   rw[f2,List.getElem?_eq_getElem hi,he] at g2
   injection g2 with g2
   exact g2.symm
  refine ⟨(convS x).2.1,(convS x).2.2.1,?_⟩
  refine lift_eq (k:=0) fun k _=>(impl_FindRow.raw_eq k _).trans ?_
  show impl_FindRow.p _=_
  unfold impl_FindRow.p
  rw[implView_eq ps hp]
  simp only[Option.bind_some]
  have hkey:impl_isKey.sem (r.1,r.2.1,())=some (true,()):=by
   refine lift_eq (k:=0) fun k _=>(impl_isKey.raw_eq k _).trans ?_
   show impl_isKey.p _=_
   unfold impl_isKey.p
   simp only[implIn_eq,Option.bind_some]
   rw[decide_eq_true h1.1,decide_eq_true h1.2,decide_eq_true h2.1,decide_eq_true h2.2]
   rfl
  rw[decide_eq_true hv,Bool.not_true,cond_false,hkey,Option.bind_some,implFind_eq _ (by have:=viewL_len V;omega),find_same V,hx]
  show some (((0:Int),(convS x).2.1,(convS x).2.2.1,sRow x,()),())=_
  rw[hxr]
theorem okEds_at:∀ {es:List Edit} {ps:Pgs},okEds ps es->∀ i (hi:i < es.length),okEd (atE ps (es.take i)) es[i]
 | e::es,ps,h,0,_=>h.1
 | e::es,ps,h,i+1,hi=>okEds_at (ps:=applyE ps e) h.2 i (by simpa using hi)
theorem applyE_len {ps:Pgs} {e:Edit} (h:okEd ps e):(applyE ps e).length=if e.1.toNat=ps.length then ps.length+1 else ps.length:=by
 unfold applyE
 split
 ·rw[List.length_append];rfl
 ·rw[List.length_set]
theorem ownEdits_eq (es:List Edit) (hl:es.length<=1000) (h:∀ e ∈ es,List.length e.2.1=64):impl_ownEdits.sem (es,())=some (es,()):=by
 refine lift_eq (k:=1100) fun k hk=>(impl_ownEdits.raw_eq k _).trans ?_
 have:=for_loop (B:=fun self v=>impl_ownEdits.B0 k self (fun z=>impl_ownEdits.Q0 k (es,()) z) (es,()) v) es (fun (s:List Edit) (i:Int)=>(s,i)) (fun _ s x=>.inr (s++[x])) (fun s=>(s,())) (fun i s=>s.length=i) (by rw[maxLen_val];omega)
  (fun i hi s self hs=>by
   show impl_ownEdits.b0 _ _ _ _=_
   unfold impl_ownEdits.b0
   have hlt:(i:Int) < (es.length:Int):=by omega
   have h64:=h _ (List.getElem_mem hi)
   rw[decide_eq_true hlt,cond_true,if_pos (Int.natCast_nonneg i)]
   simp only[Int.toNat_natCast,List.getElem?_eq_getElem hi,Option.bind_some]
   rw[implCopied_eq _ (by omega)]
   simp only[Option.bind_some]
   rw[if_pos (cap_ok (by simp only[List.length_cons,List.length_nil];omega))])
  (fun i hi s s' hs hf=>by injection hf with hf;subst hf;simp[hs]) (fun s self _=>by
   show impl_ownEdits.b0 _ _ _ _=_
   unfold impl_ownEdits.b0
   rw[decide_eq_false (Int.lt_irrefl _),cond_false]
   rfl) [] rfl k (by omega)
 rw[forI_fold (g:=fun (s:List Edit) (x:Edit)=>s++[x]),fold_self,List.nil_append] at this
 exact this
theorem implApplyE_eq {ps:Pgs} (hg:gp ps) {es:List Edit} (hl:es.length<=1000) (he:okEds ps es):impl_ApplyEdits.sem (ps,es,())=some (((0:Int),es,atE ps es,()),()):=by
 have h64:∀ e ∈ es,List.length e.2.1=64:=fun e hm=>by
  obtain ⟨i,hi,rfl⟩:=List.getElem_of_mem hm
  exact (okEds_at he i hi).1
 refine lift_eq (k:=1100) fun k hk=>(impl_ApplyEdits.raw_eq k _).trans ?_
 unfold impl_ApplyEdits.p
 have h12:¬ (12:Int) < (ps.length:Int):=by have:=hg.1;omega
 rw[decide_eq_false h12,cond_false,implCopies_eq ps hg,Option.bind_some]
 have:=for_loop (B:=fun self v=>impl_ApplyEdits.B0 k self (fun z=>impl_ApplyEdits.Q0 k (ps,es,()) z) (ps,es,()) v) es (fun (s:Pgs) (i:Int)=>(s,i)) (fun _ s x=>.inr (applyE s x)) (fun s=>(((0:Int),es,s,()),())) (fun i s=>s=atE ps (es.take i)/\s.length<=12) (by rw[maxLen_val];omega)
  (fun i hi s self ⟨hs,hs12⟩=>by
   show impl_ApplyEdits.b0 _ _ _ _=_
   unfold impl_ApplyEdits.b0
   have hlt:(i:Int) < (es.length:Int):=by omega
   obtain ⟨o1,o2,o3,o4⟩:=okEds_at he i hi
   rw[<-hs] at o3
   have n64:((List.length (es[i]).2.1:Nat):Int)=64:=by omega
   have n12:¬ (es[i]).1=12:=by omega
   rw[decide_eq_true hlt,cond_true,if_pos (Int.natCast_nonneg i)]
   simp only[Int.toNat_natCast,List.getElem?_eq_getElem hi,Option.bind_some,implIn_eq]
   rw[decide_eq_true n64,Bool.not_true,cond_false,decide_eq_true o2,decide_eq_true o3,Bool.and_self,Bool.not_true,cond_false,decide_eq_false n12,cond_false]
   simp only[implCopied_eq (es[i]).2.1 (by omega),Option.bind_some]
   unfold applyE
   by_cases hq:(es[i]).1=(s.length:Int)
   ·have hn:(es[i]).1.toNat=s.length:=by omega
    rw[decide_eq_true hq,cond_true,if_pos (cap_ok (by simp only[List.length_cons,List.length_nil];omega)),if_pos hn]
    have g:0<=(es[i]).1/\(es[i]).1 < ((s++[([]:List UInt8)]).length:Int):=by
     rw[List.length_append];simp only[List.length_cons,List.length_nil];omega
    rw[if_pos g,hn,List.getElem?_append_right (Nat.le_refl _),Nat.sub_self]
    show self ((s++[([]:List UInt8)]).set s.length (es[i]).2.1,_)=_
    rw[List.set_append_right _ _ (Nat.le_refl _),Nat.sub_self]
    rfl
   ·have hn:¬ (es[i]).1.toNat=s.length:=by omega
    have g:0<=(es[i]).1/\(es[i]).1 < (s.length:Int):=by omega
    rw[decide_eq_false hq,cond_false,if_pos g,if_neg hn,List.getElem?_eq_getElem (show (es[i]).1.toNat < s.length by omega)]
    rfl)
  (fun i hi s s' ⟨hs,hs12⟩ hf=>by
   injection hf with hf
   subst hf
   have o:=okEds_at he i hi
   rw[<-hs] at o
   refine ⟨?_,?_⟩
   ·rw[List.take_succ_eq_append_getElem hi,atE_app,hs]
   ·rw[applyE_len o]
    obtain ⟨o1,o2,o3,o4⟩:=o
    split <;> omega)
  (fun s self _=>by
   show impl_ApplyEdits.b0 _ _ _ _=_
   unfold impl_ApplyEdits.b0
   show (bif decide ((List.length es:Int) < (List.length es:Int)) then _ else _)=_
   rw[decide_eq_false (Int.lt_irrefl _),cond_false]
   show impl_ApplyEdits.q0 _ _=_
   unfold impl_ApplyEdits.q0
   rw[ownEdits_eq es hl h64]
   rfl) ps ⟨rfl,hg.1⟩ k (by omega)
 rw[forI_fold (g:=applyE)] at this
 exact this
end OT
set_option linter.unusedVariables false
set_option linter.unusedSimpArgs false
set_option linter.unusedSectionVars false
namespace OT
open Go
theorem row_dec (x y:Row):Ty.eq tRow x y=decide (x=y):=by
 cases h:Ty.eq tRow x y with
 | true=>rw[row_eq h];simp
 | false=>
  have:¬ x=y:=fun he=>by
   subst he
   have e:Ty.eq tRow x x=(decide (x.1=x.1)&&(decide (x.2.1=x.2.1)&&(decide (x.2.2.1=x.2.2.1)&&(decide (x.2.2.2.1=x.2.2.2.1)&&true)))):=rfl
   rw[e] at h
   simp at h
  rw[decide_eq_false this]
def sameAt {α:Type} [DecidableEq α] (ys:List α) (i:Nat) (x:α):Bool:=match ys[i]? with | some y=>decide (x=y) | none=>true
theorem sameAt_get {α:Type} [DecidableEq α] {ys:List α} {i:Nat} (h:i < ys.length) (x:α):sameAt ys i x=decide (x=ys[i]):=by unfold sameAt;rw[List.getElem?_eq_getElem h]
theorem forI_same {α:Type} [DecidableEq α] (ys:List α):∀ (l:List α) (j:Nat),j+l.length=ys.length->forI (fun i (_:Unit) x=>if sameAt ys i x then .inr () else .inl (false,())) (fun _=>(true,())) j l ()=(decide (l=ys.drop j),())
 | [],j,h=>by
  have:ys.drop j=[]:=List.drop_eq_nil_of_le (by simpa using Nat.le_of_eq h.symm)
  simp[forI,this]
 | x::l,j,h=>by
  have hj:j < ys.length:=by simp only[List.length_cons] at h;omega
  have hd:ys.drop j=ys[j]::ys.drop (j+1):=(List.drop_eq_getElem_cons hj)
  simp only[forI,sameAt_get hj]
  by_cases hx:x=ys[j]
  ·rw[if_pos (by simpa using hx)]
   have:=forI_same ys l (j+1) (by simp only[List.length_cons] at h;omega)
   refine this.trans ?_
   rw[hd,hx]
   congr 1
   exact decide_eq_decide.2 ⟨fun h=>by rw[h],fun h=>by injection h⟩
  ·rw[if_neg (by simpa using hx),hd]
   have hne:¬ x::l=ys[j]::ys.drop (j+1):=fun h=>hx (by injection h)
   rw[decide_eq_false hne]
theorem lwRows_eq (xs ys:List Row) (h:xs.length<=1000):laws_lwRows.sem (xs,ys,())=some (decide (xs=ys),()):=by
 refine lift_eq (k:=1100) fun k hk=>(laws_lwRows.raw_eq k _).trans ?_
 unfold laws_lwRows.p
 by_cases hl:xs.length=ys.length
 rotate_left
 ·have hl':¬ ((xs.length:Int)=(ys.length:Int)):=by omega
  have hne:¬ xs=ys:=fun he=>hl (by rw[he])
  rw[decide_eq_false hl',Bool.not_false,cond_true,decide_eq_false hne]
 have hl':(xs.length:Int)=(ys.length:Int):=by omega
 rw[decide_eq_true hl',Bool.not_true,cond_false]
 have:=for_loop (B:=fun self v=>laws_lwRows.B0 k self (fun z=>laws_lwRows.Q0 k (xs,ys,()) z) (xs,ys,()) v) xs (fun (_:Unit) (i:Int)=>i) (fun i _ x=>if sameAt ys i x then .inr () else .inl (false,())) (fun _=>(true,())) (fun _ _=>True) (by rw[maxLen_val];omega)
  (fun i hi s self _=>by
   show laws_lwRows.b0 _ _ _ _=_
   unfold laws_lwRows.b0
   have hlt:(i:Int) < (xs.length:Int):=by omega
   rw[decide_eq_true hlt,cond_true,if_pos (Int.natCast_nonneg i)]
   simp only[Int.toNat_natCast,List.getElem?_eq_getElem hi,List.getElem?_eq_getElem (show i < ys.length by omega),Option.bind_some,row_dec]
   rw[if_pos (Int.natCast_nonneg i)]
   rw[sameAt_get (show i < ys.length by omega)]
   by_cases hx:xs[i]=ys[i]'(by omega)
   ·rw[decide_eq_true hx];rfl
   ·rw[decide_eq_false hx];rfl)
  (fun _ _ _ _ _ _=>trivial) (fun s self _=>by
   show laws_lwRows.b0 _ _ _ _=_
   unfold laws_lwRows.b0
   rw[decide_eq_false (Int.lt_irrefl _),cond_false]
   rfl) () trivial k (by omega)
 rw[forI_same ys xs 0 (by omega)] at this
 exact this
theorem lwPages_eq (xs ys:Pgs) (h:xs.length<=1000):laws_lwPages.sem (xs,ys,())=some (decide (xs=ys),()):=by
 have hs:∀ a b:List UInt8,laws_lwSame.sem (a,b,())=some (decide (a=b),()):=fun a b=>lift_eq (k:=0) fun k _=>(laws_lwSame.raw_eq k _).trans rfl
 refine lift_eq (k:=1100) fun k hk=>(laws_lwPages.raw_eq k _).trans ?_
 unfold laws_lwPages.p
 by_cases hl:xs.length=ys.length
 rotate_left
 ·have hl':¬ ((xs.length:Int)=(ys.length:Int)):=by omega
  have hne:¬ xs=ys:=fun he=>hl (by rw[he])
  rw[decide_eq_false hl',Bool.not_false,cond_true,decide_eq_false hne]
 have hl':(xs.length:Int)=(ys.length:Int):=by omega
 rw[decide_eq_true hl',Bool.not_true,cond_false]
 have:=for_loop (B:=fun self v=>laws_lwPages.B0 k self (fun z=>laws_lwPages.Q0 k (xs,ys,()) z) (xs,ys,()) v) xs (fun (_:Unit) (i:Int)=>i) (fun i _ x=>if sameAt ys i x then .inr () else .inl (false,())) (fun _=>(true,())) (fun _ _=>True) (by rw[maxLen_val];omega)
  (fun i hi s self _=>by
   show laws_lwPages.b0 _ _ _ _=_
   unfold laws_lwPages.b0
   have hlt:(i:Int) < (xs.length:Int):=by omega
   rw[decide_eq_true hlt,cond_true,if_pos (Int.natCast_nonneg i)]
   simp only[Int.toNat_natCast,List.getElem?_eq_getElem hi,List.getElem?_eq_getElem (show i < ys.length by omega),Option.bind_some,hs]
   rw[if_pos (Int.natCast_nonneg i)]
   rw[sameAt_get (show i < ys.length by omega)]
   by_cases hx:xs[i]=ys[i]'(by omega)
   ·rw[decide_eq_true hx];rfl
   ·rw[decide_eq_false hx];rfl)
  (fun _ _ _ _ _ _=>trivial) (fun s self _=>by
   show laws_lwPages.b0 _ _ _ _=_
   unfold laws_lwPages.b0
   rw[decide_eq_false (Int.lt_irrefl _),cond_false]
   rfl) () trivial k (by omega)
 rw[forI_same ys xs 0 (by omega)] at this
 exact this
theorem lwBut_eq (xs:List Row) (t k:Int) (h:xs.length<=1000):laws_lwBut.sem (xs,t,k,())=some (xs.filter (fun r=>!decide (rk r=(t,k))),()):=by
 refine lift_eq (k:=1100) fun q hq=>(laws_lwBut.raw_eq q _).trans ?_
 have:=for_loop (B:=fun self v=>laws_lwBut.B0 q self (fun z=>laws_lwBut.Q0 q (xs,t,k,()) z) (xs,t,k,()) v) xs (fun (s:List Row) (i:Int)=>(s,i)) (fun _ s x=>.inr (if !decide (rk x=(t,k)) then s++[x] else s)) (fun s=>(s,())) (fun i s=>s.length<=i) (by rw[maxLen_val];omega)
  (fun i hi s self hs=>by
   show laws_lwBut.b0 _ _ _ _=_
   unfold laws_lwBut.b0
   have hlt:(i:Int) < (xs.length:Int):=by omega
   have hc:s.length+[xs[i]].length<=CAP:=cap_ok (by simp only[List.length_cons,List.length_nil];omega)
   rw[decide_eq_true hlt,cond_true,if_pos (Int.natCast_nonneg i),rk_dec]
   simp only[Int.toNat_natCast,List.getElem?_eq_getElem hi,Option.bind_some,if_pos (Int.natCast_nonneg i),if_pos hc]
   cases decide (xs[i].1=t) <;> cases decide (xs[i].2.1=k) <;> rfl)
  (fun i hi s s' hs hf=>by
   injection hf with hf;subst hf
   split
   ·rw[List.length_append];simp only[List.length_cons,List.length_nil];omega
   ·omega) (fun s self _=>by
   show laws_lwBut.b0 _ _ _ _=_
   unfold laws_lwBut.b0
   rw[decide_eq_false (Int.lt_irrefl _),cond_false]
   rfl) [] (by simp) q (by omega)
 rw[forI_fold (g:=fun (s:List Row) (x:Row)=>if !decide (rk x=(t,k)) then s++[x] else s)] at this
 refine this.trans ?_
 have hm:∀ (l s:List Row),l.foldl (fun s x=>if !decide (rk x=(t,k)) then s++[x] else s) s=s++l.filter (fun r=>!decide (rk r=(t,k))):=by
  intro l
  induction l with
  | nil=>intro s;simp
  | cons x l ih=>
   intro s
   rw[List.foldl_cons,ih,List.filter_cons]
   split <;> simp
 rw[hm,List.nil_append]
end OT
set_option linter.unusedVariables false
set_option linter.unusedSimpArgs false
set_option linter.unusedSectionVars false
namespace OT
open Go
theorem lwWay_true {ps:Pgs} {w:L7Work} {n:Nat} {B1:List Row} (T:Turned2 ps w (rowsV ps) B1) (ok:okW w n) (hn:n<=1000):laws_lwWay.sem (ps,((0:Int),w.2.1,w.1,()),rowsV ps,B1,())=some (true,()):=by
 obtain ⟨m,hm,W⟩:=T.way
 have hel:=ok.el
 have hlen:∀ j,j<=List.length w.2.1->rightP (atE ps (w.2.1.take j))/\(rowsV (atE ps (w.2.1.take j))).length<=1000:=fun j hj=>by
  obtain ⟨v,_⟩:=W j hj
  refine ⟨(view_iff.1 v).1,?_⟩
  have:=viewL_len (view_ok v)
  unfold rowsV
  rw[List.length_map];omega
 refine lift_eq (k:=1100) fun k hk=>(laws_lwWay.raw_eq k _).trans ?_
 have:=range_loop (B:=fun self v=>laws_lwWay.B0 k self (fun z=>laws_lwWay.Q0 k (ps,((0:Int),w.2.1,w.1,()),rowsV ps,B1,()) z) (ps,((0:Int),w.2.1,w.1,()),rowsV ps,B1,()) v) (List.length w.2.1) (fun (s:Pgs×Bool) (i:Int)=>(s.1,s.2,i)) (fun x _=>.inr (atE ps (w.2.1.take (x+1)),decide (rowsV (atE ps (w.2.1.take (x+1)))=B1))) (fun _=>some (true,())) (fun i s=>s=(atE ps (w.2.1.take i),decide (0 < i)&&decide (rowsV (atE ps (w.2.1.take i))=B1))) (by omega)
  (fun i hi s self hs=>by
   subst hs
   show laws_lwWay.b0 _ _ _ _=_
   unfold laws_lwWay.b0
   have hlt:(i:Int) < (List.length w.2.1:Int):=by omega
   have hw:w64 ((i:Int)+1)=((i+1:Nat):Int):=by rw[w64_in (by omega)];omega
   have g:(0:Int)<=(i:Int)/\(i:Int)<=((i+1:Nat):Int)/\((i+1:Nat):Int)<=(List.length w.2.1:Int):=by omega
   have hpiece:(w.2.1.take (i+1)).drop i=[w.2.1[i]]:=by
    rw[List.take_succ_eq_append_getElem hi,List.drop_append_of_le_length (by rw[List.length_take];omega),List.drop_take]
    simp
   obtain ⟨r1,r2⟩:=hlen i (by omega)
   obtain ⟨r3,r4⟩:=hlen (i+1) (by omega)
   have hstep:atE (atE ps (w.2.1.take i)) [w.2.1[i]]=atE ps (w.2.1.take (i+1)):=by
    rw[List.take_succ_eq_append_getElem hi,atE_app];rfl
   have hed:okEds (atE ps (w.2.1.take i)) [w.2.1[i]]:=⟨okEds_at T.ed i hi,trivial⟩
   obtain ⟨v,b⟩:=W (i+1) (by omega)
   have hpl:∀ p ∈ atE ps (w.2.1.take (i+1)),p.length<=maxLen:=fun p hp=>by rw[(r3.2 p hp).len,maxLen_val];omega
   rw[decide_eq_true hlt,cond_true,hw,if_pos g]
   simp only[Int.toNat_natCast,hpiece]
   rw[implApplyE_eq (gp_of r1) (by simp) hed,hstep]
   simp only[Option.bind_some,decide_true,Bool.not_true,cond_false]
   rw[implRowsIn_eq _ hpl,if_pos v]
   simp only[Option.bind_some,decide_true,Bool.not_true,cond_false]
   rw[lwRows_eq _ _ r4,Option.bind_some]
   by_cases hnow:rowsV (atE ps (w.2.1.take (i+1)))=B1
   ·rw[decide_eq_true hnow]
    rfl
   ·have hlt2:i+1 < m:=by
     rcases Nat.lt_or_ge (i+1) m with h | h
     ·exact h
     ·exfalso
      have b':rowsV (atE ps (w.2.1.take (i+1)))=if i+1 < m then rowsV ps else B1:=b
      rw[if_neg (by omega)] at b'
      exact hnow b'
    have hb:rowsV (atE ps (w.2.1.take (i+1)))=rowsV ps:=by
     have b':rowsV (atE ps (w.2.1.take (i+1)))=if i+1 < m then rowsV ps else B1:=b
     rw[if_pos hlt2] at b'
     exact b'
    have hprev:¬ rowsV (atE ps (w.2.1.take i))=B1:=fun he=>by
     have b0:rowsV (atE ps (w.2.1.take i))=if i < m then rowsV ps else B1:=(W i (by omega)).2
     rw[if_pos (by omega)] at b0
     exact hnow (hb.trans (b0.symm.trans he))
    rw[decide_eq_false hnow,decide_eq_false hprev,Bool.and_false]
    simp only[Bool.not_false,cond_true,cond_false]
    rw[lwRows_eq _ _ r4,hb]
    simp only[Option.bind_some,decide_true,Bool.not_true,cond_false])
  (fun i hi s s' hs hf=>by
   injection hf with hf
   subst hf
   rw[decide_eq_true (show 0 < i+1 by omega),Bool.true_and])
  (fun s self hs=>by
   subst hs
   show laws_lwWay.b0 _ _ _ _=_
   unfold laws_lwWay.b0
   show (bif decide ((List.length w.2.1:Int) < (List.length w.2.1:Int)) then _ else _)=_
   rw[decide_eq_false (Int.lt_irrefl _),cond_false]
   show laws_lwWay.q0 _ _=_
   unfold laws_lwWay.q0
   have hat:atE ps (w.2.1.take (List.length w.2.1))=w.1:=by rw[List.take_length,T.at_]
   obtain ⟨r1,r2⟩:=hlen _ (Nat.le_refl (List.length w.2.1))
   have b:rowsV (atE ps (w.2.1.take (List.length w.2.1)))=if List.length w.2.1 < m then rowsV ps else B1:=(W _ (Nat.le_refl _)).2
   rw[if_neg (by omega)] at b
   dsimp only
   rw[lwPages_eq (atE ps (w.2.1.take (List.length w.2.1))) w.1 (by have:=r1.1;omega)]
   simp only[hat,decide_true,Option.bind_some,cond_true]
   rw[hat] at b
   rw[decide_eq_true b,Bool.and_true]
   by_cases h0:0 < List.length w.2.1
   ·rw[decide_eq_true h0];rfl
   ·rw[decide_eq_false h0,cond_false]
    have hz:=W 0 (Nat.zero_le _)
    have b0:rowsV (atE ps (w.2.1.take 0))=if 0 < m then rowsV ps else B1:=hz.2
    rw[if_neg (by omega)] at b0
    have b1:rowsV ps=B1:=b0
    have:=(hlen 0 (Nat.zero_le _)).2
    have hl:(rowsV ps).length<=1000:=this
    rw[lwRows_eq _ _ hl,decide_eq_true b1]
    rfl) (ps,false) rfl k (by omega)
 refine this.trans ?_
 have hf:∀ (l:List Nat) (i:Nat) (s:Pgs×Bool),forI (fun _ (_:Pgs×Bool) x=>.inr (atE ps (w.2.1.take (x+1)),decide (rowsV (atE ps (w.2.1.take (x+1)))=B1))) (fun _=>(some (true,()):Option laws_lwWay.Out)) i l s=some (true,()):=by
  intro l
  induction l with
  | nil=>intro i s;rfl
  | cons x l ih=>intro i s;exact ih (i+1) _
 exact hf _ _ _
end OT
set_option linter.unusedVariables false
set_option linter.unusedSimpArgs false
set_option linter.unusedSectionVars false
namespace OT
open Go
theorem up_filter {xs:List Row} (h:up xs) (p:Row->Bool):up (xs.filter p):=List.Pairwise.filter p h
theorem ins_facts {ps:Pgs} {r:Row} (h0:(insE ps r).1=0):viewC ps=0/\rowF r=0/\∃ w:L7Work,insE ps r=((0:Int),w.2.1,w.1,())/\okW w 40/\Turned2 ps w (rowsV ps) (rowsV w.1)/\viewC w.1=0/\r ∈ rowsV w.1/\(rowsV w.1).filter (fun x=>!decide (rk x=(r.1,r.2.1)))=rowsV ps:=by
 unfold insE at h0 ⊢
 by_cases hv:viewC ps=0
 rotate_left
 ·rw[if_neg hv] at h0;exact absurd h0 hv
 rw[if_pos hv] at h0 ⊢
 by_cases hr:rowF r=0
 rotate_left
 ·rw[if_neg hr] at h0;exact absurd h0 hr
 rw[if_pos hr] at h0 ⊢
 refine ⟨hv,hr,?_⟩
 have V:=view_ok hv
 cases hx:findS ps r.1 r.2.1 with
 | some x=>rw[hx] at h0;exact absurd h0 (show ¬ (6:Int)=0 by decide)
 | none=>
  rw[hx] at h0
  simp only at h0 ⊢
  obtain ⟨ha,he⟩:=doneE_zero h0
  obtain ⟨a,ha⟩:=Option.isSome_iff_exists.1 ha
  obtain ⟨v1,v2⟩:=insE_view hv hr hx h0
  have hf:=find_rows V r.1 r.2.1
  rw[hx] at hf
  simp only at hf
  have hk:∀ r' ∈ rowsV ps,rk r'≠rk r:=fun r' hr' hh=>by
   obtain ⟨i,hi,hx2⟩:=List.getElem_of_mem hr'
   have:=(fnd_at (rowsV_up V) hi (k:=(r.1,r.2.1)) (by rw[hx2];exact hh)).1
   rw[hf] at this
   cases this
  refine ⟨(insW (startW ps) r).2,he,(insW_ok (start_ok V.right) hr).ok.mono (by omega),ins_way hv hr hk ha,v1,(v2 r).2 (.inr rfl),?_⟩
  refine up_same (up_filter (rowsV_up (view_ok v1)) _) (rowsV_up V) fun r'=>?_
  rw[List.mem_filter,v2]
  constructor
  ·rintro ⟨h | h,hn⟩
   ·exact h
   ·rw[h] at hn
    simp[rk] at hn
  ·intro h
   refine ⟨.inl h,?_⟩
   have:=hk r' h
   simp only[Bool.not_eq_true',decide_eq_false_iff_not]
   exact this
end OT
set_option linter.unusedVariables false
set_option linter.unusedSimpArgs false
set_option linter.unusedSectionVars false
namespace OT
open Go
def srcOk (s:L1Src) (b:Int):Prop:=List.length s.1<=1048576/\0<=s.2.1/\s.2.1<=b
theorem srcOk.mono {s:L1Src} {a b:Int} (h:srcOk s a) (hb:a<=b):srcOk s b:=⟨h.1,h.2.1,Int.le_trans h.2.2 hb⟩
theorem tmod_in {v n:Int} (hv:0<=v) (hn:1<=n):0<=v.tmod n/\v.tmod n < n:=by
 rw[Int.tmod_eq_emod_of_nonneg hv]
 exact ⟨Int.emod_nonneg _ (by omega),Int.emod_lt_of_pos _ (by omega)⟩
theorem next_ok {s:L1Src} {b n:Int} (h:srcOk s b) (hb:b<=1000000) (hn:1<=n) (hn2:n<=1000000):∃ v t,spec_l1Next.sem (s,n,())=some (v,t,())/\0<=v/\v < n/\srcOk t (b+1):=by
 obtain ⟨c,a,⟨⟩⟩:=s
 obtain ⟨hc,ha,hab⟩:=h
 replace hc:c.length<=1048576:=hc
 replace ha:0<=a:=ha
 replace hab:a<=b:=hab
 have h1:w64 (a+1)=a+1:=w64_in (by omega)
 have h2:w64 (a+1 - 1)=a:=by rw[w64_in (by omega)];omega
 suffices hs:∃ v,(0<=v/\v < n)/\spec_l1Next.p ((c,a,()),n,())=some (v,(c,a+1,()),()) by
  obtain ⟨v,hv,hp⟩:=hs
  exact ⟨v,(c,a+1,()),lift_eq (k:=0) fun k _=>(spec_l1Next.raw_eq k _).trans hp,hv.1,hv.2,hc,by show 0<=a+1;omega,by show a+1<=b+1;omega⟩
 unfold spec_l1Next.p
 have n1:¬ n < 1:=by omega
 have n0:¬ n=0:=by omega
 simp only[n1,n0,h1,h2,decide_false,cond_false,if_false]
 by_cases hl:c.length=0
 ·have e:(c.length:Int)=0:=by omega
  simp only[e,decide_true,cond_true]
  exact ⟨_,tmod_in (by rw[w64_in (by omega)];omega) hn,rfl⟩
 have e:¬ (c.length:Int)=0:=by omega
 have q0:=tmod_in (v:=a) (n:=(c.length:Int)) ha (by omega)
 have q1:=tmod_in (v:=a+1) (n:=(c.length:Int)) (by omega) (by omega)
 have i0:(a.tmod (c.length:Int)).toNat < c.length:=by omega
 have i1:((a+1).tmod (c.length:Int)).toNat < c.length:=by omega
 simp only[e,decide_false,cond_false,if_false,q0.1,q1.1,if_true,List.getElem?_eq_getElem i0,List.getElem?_eq_getElem i1,Option.bind_some]
 have hd:0<=a.tdiv (c.length:Int)/\a.tdiv (c.length:Int)<=a:=by
  rw[Int.tdiv_eq_ediv_of_nonneg ha]
  exact ⟨Int.ediv_nonneg ha (by omega),Int.ediv_le_self _ ha⟩
 have b0:(c[(a.tmod (c.length:Int)).toNat]).toNat < 256:=UInt8.toNat_lt _
 have b1:(c[((a+1).tmod (c.length:Int)).toNat]).toNat < 256:=UInt8.toNat_lt _
 generalize (c[(a.tmod (c.length:Int)).toNat]).toNat=x at b0 ⊢
 generalize (c[((a+1).tmod (c.length:Int)).toNat]).toNat=y at b1 ⊢
 generalize a.tdiv (c.length:Int)=d at hd ⊢
 have w1:w64 (x:Int)=(x:Int):=w64_in (by omega)
 have w0:w64 d=d:=w64_in (by omega)
 have w2:w64 (d*37)=d*37:=w64_in (by omega)
 have w3:w64 ((x:Int)+d*37)=(x:Int)+d*37:=w64_in (by omega)
 by_cases h200:200 < n
 ·simp only[h200,decide_true,cond_true,w0,w1,w2,w3]
  have w4:w64 (((x:Int)+d*37)*251)=((x:Int)+d*37)*251:=w64_in (by omega)
  have w5:w64 (y:Int)=(y:Int):=w64_in (by omega)
  have w6:w64 ((y:Int)*13)=(y:Int)*13:=w64_in (by omega)
  have w7:w64 (((x:Int)+d*37)*251+(y:Int)*13)=((x:Int)+d*37)*251+(y:Int)*13:=w64_in (by omega)
  have w8:w64 (((x:Int)+d*37)*251+(y:Int)*13+a)=((x:Int)+d*37)*251+(y:Int)*13+a:=w64_in (by omega)
  simp only[w4,w5,w6,w7,w8]
  exact ⟨_,tmod_in (by omega) hn,rfl⟩
 ·simp only[h200,decide_false,cond_false,w0,w1,w2,w3]
  exact ⟨_,tmod_in (by omega) hn,rfl⟩
theorem chance_ok {s:L1Src} {b n:Int} (h:srcOk s b) (hb:b<=1000000) (hn:1<=n) (hn2:n<=1000000):∃ v t,spec_l1Chance.sem (s,n,())=some (v,t,())/\srcOk t (b+1):=by
 obtain ⟨v,t,h1,_,_,h2⟩:=next_ok h hb hn hn2
 refine ⟨decide (v=0),t,lift_eq (k:=0) fun k _=>(spec_l1Chance.raw_eq k _).trans ?_,h2⟩
 unfold spec_l1Chance.p
 rw[h1]
 rfl
theorem pick_ok {s:L1Src} {b:Int} (h:srcOk s b) (hb:b<=1000000) (l:List Int) (hn:1<=l.length) (hn2:l.length<=1000000):∃ v t,spec_l1Pick.sem (s,l,())=some (v,t,())/\v ∈ l/\srcOk t (b+1):=by
 obtain ⟨v,t,h1,h2,h3,h4⟩:=next_ok (n:=(l.length:Int)) h hb (by omega) (by omega)
 have hi:v.toNat < l.length:=by omega
 refine ⟨l[v.toNat],t,lift_eq (k:=0) fun k _=>(spec_l1Pick.raw_eq k _).trans ?_,List.getElem_mem hi,h4⟩
 unfold spec_l1Pick.p
 rw[h1]
 simp only[Option.bind_some,h2,if_true,List.getElem?_eq_getElem hi]
theorem in_list {α:Type} (l:List α) {v:Int} (h:0<=v/\v < (l.length:Int)):∃ x,l[v.toNat]?=some x/\x ∈ l:=by
 have hi:v.toNat < l.length:=by omega
 exact ⟨l[v.toNat],List.getElem?_eq_getElem hi,List.getElem_mem hi⟩
theorem drawRow_ok {s:L1Src} {b:Int} (h:srcOk s b) (hb:b<=900000):∃ r t,spec_l1Draw.sem (s,())=some (r,t,())/\rowF r=0/\srcOk t (b+5):=by
 obtain ⟨v1,t1,e1,a1,c1,s1⟩:=next_ok (n:=3) h (by omega) (by omega) (by omega)
 obtain ⟨v2,t2,e2,a2,c2,s2⟩:=next_ok (n:=6) s1 (by omega) (by omega) (by omega)
 obtain ⟨v3,t3,e3,a3,c3,s3⟩:=next_ok (n:=9) s2 (by omega) (by omega) (by omega)
 obtain ⟨v4,t4,e4,m4,s4⟩:=pick_ok s3 (by omega) [v3,(300:Int),(999:Int)] (by simp) (by simp)
 obtain ⟨v5,t5,e5,a5,c5,s5⟩:=next_ok (n:=4) s4 (by omega) (by omega) (by omega)
 obtain ⟨x,hx,mx⟩:=in_list [([]:List UInt8),([97]:List UInt8),([97,98,99]:List UInt8),([97,98,99,100,101,102,103,104]:List UInt8)] (v:=v5) ⟨a5,by simpa using c5⟩
 have w1:w64 (1+v2)=1+v2:=w64_in (by omega)
 refine ⟨(v1,1+v2,v4,x,()),t5,lift_eq (k:=0) fun k _=>(spec_l1Draw.raw_eq k _).trans ?_,?_,s5.mono (by omega)⟩
 ·unfold spec_l1Draw.p
  rw[e1]
  simp only[Option.bind_some,e2,e3,e4,e5,w1,hx]
  rw[if_pos ⟨a5,by simpa using c5⟩]
 ·have hv4:0<=v4/\v4<=999:=by
   simp only[List.mem_cons,List.not_mem_nil,or_false] at m4
   omega
  have hx2:textB x=true:=by
   simp only[List.mem_cons,List.not_mem_nil,or_false] at mx
   rcases mx with rfl | rfl | rfl | rfl <;> decide
  unfold rowF inB
  have i1:v1<=3:=by omega
  have i2:(1:Int)<=1+v2:=by omega
  have i3:1+v2<=99:=by omega
  simp only[a1,i1,i2,i3,hv4.1,hv4.2,hx2,decide_true,Bool.and_self,if_true]
theorem row_small {r:Row} (h:rowF r=0):List.length r.2.2.2.1<=8:=textB_len (rowF_ok h).2.2.2
theorem bentRow_ok {s:L1Src} {b:Int} (h:srcOk s b) (hb:b<=800000):∃ r t,spec_l1Bent.sem (s,())=some (r,t,())/\List.length r.2.2.2.1<=9/\srcOk t (b+7):=by
 obtain ⟨r,t1,e1,hr,s1⟩:=drawRow_ok h (by omega)
 have hs:=row_small hr
 obtain ⟨v,t2,e2,a2,c2,s2⟩:=next_ok (n:=12) s1 (by omega) (by omega) (by omega)
 suffices hp:∃ r' t',spec_l1Bent.p (s,())=some (r',t',())/\List.length r'.2.2.2.1<=9/\srcOk t' (b+7) by
  obtain ⟨r',t',p1,p2,p3⟩:=hp
  exact ⟨r',t',lift_eq (k:=0) fun k _=>(spec_l1Bent.raw_eq k _).trans p1,p2,p3⟩
 unfold spec_l1Bent.p
 rw[e1]
 simp only[Option.bind_some,e2]
 by_cases h0:v=0
 ·obtain ⟨u,t3,e3,_,s3⟩:=pick_ok s2 (by omega) [(-1:Int),(3:Int),(4:Int)] (by simp) (by simp)
  simp only[h0,decide_true,cond_true,e3,Option.bind_some]
  exact ⟨_,_,rfl,by show List.length r.2.2.2.1<=9;omega,s3.mono (by omega)⟩
 by_cases h1:v=1
 ·obtain ⟨u,t3,e3,_,s3⟩:=pick_ok s2 (by omega) [(0:Int),(99:Int),(100:Int)] (by simp) (by simp)
  simp only[h1,show ¬ (1:Int)=0 by omega,decide_true,decide_false,cond_true,cond_false,e3,Option.bind_some]
  exact ⟨_,_,rfl,by show List.length r.2.2.2.1<=9;omega,s3.mono (by omega)⟩
 by_cases h2:v=2
 ·obtain ⟨u,t3,e3,_,s3⟩:=pick_ok s2 (by omega) [(-1:Int),(1000:Int)] (by simp) (by simp)
  simp only[h2,show ¬ (2:Int)=0 by omega,show ¬ (2:Int)=1 by omega,decide_true,decide_false,cond_true,cond_false,e3,Option.bind_some]
  exact ⟨_,_,rfl,by show List.length r.2.2.2.1<=9;omega,s3.mono (by omega)⟩
 by_cases h3:v=3
 ·obtain ⟨u,t3,e3,a3,c3,s3⟩:=next_ok (n:=3) s2 (by omega) (by omega) (by omega)
  obtain ⟨x,hx,mx⟩:=in_list [([65]:List UInt8),([97,98,99,100,101,102,103,104,105]:List UInt8),([97,32,98]:List UInt8)] (v:=u) ⟨a3,by simpa using c3⟩
  simp only[h3,show ¬ (3:Int)=0 by omega,show ¬ (3:Int)=1 by omega,show ¬ (3:Int)=2 by omega,decide_true,decide_false,cond_true,cond_false,e3,Option.bind_some]
  rw[if_pos ⟨a3,by simpa using c3⟩,hx]
  refine ⟨_,_,rfl,?_,s3.mono (by omega)⟩
  show List.length x<=9
  simp only[List.mem_cons,List.not_mem_nil,or_false] at mx
  rcases mx with rfl | rfl | rfl <;> decide
 simp only[h0,h1,h2,h3,decide_false,cond_false]
 exact ⟨_,_,rfl,by omega,s2.mono (by omega)⟩
theorem down_w {m:Nat} (h:m<=1000):w64 (((m+1:Nat):Int) - 1)=(m:Int):=by rw[w64_in (by omega)];omega
theorem down_ex {X O V:Type} (M:Int) {B:(V->Option O)->V->Option O} (enc:L1Src->X->Int->V) (I:Int->X->Prop) (d:Int) (hd:0<=d) (fin:L1Src->X->O)
  (hin:∀ (n:Nat) (s:L1Src) (x:X) (b:Int),n<=1000->srcOk s b->b<=M->I b x->∃ s' x',srcOk s' (b+d)/\I (b+d) x'/\∀ self,B self (enc s x ((n+1:Nat):Int))=self (enc s' x' (n:Int)))
  (hout:∀ (s:L1Src) (x:X) (b:Int),srcOk s b->I b x->∀ self,B self (enc s x 0)=some (fin s x)) :
  ∀ (n:Nat) (s:L1Src) (x:X) (b:Int),n<=1000->srcOk s b->I b x->b+d*n<=M->∃ s' x',srcOk s' (b+d*n)/\I (b+d*n) x'/\∀ k,n < k->rawIter B k (enc s x (n:Int))=some (fin s' x')
 | 0,s,x,b,_,hs,hI,_=>⟨s,x,by simpa using hs,by simpa using hI,fun k hk=>by
   obtain ⟨j,rfl⟩:∃ j,k=j+1:=⟨k - 1,by omega⟩
   rw[rawIter_succ]
   exact hout s x b hs hI _⟩
 | n+1,s,x,b,hn,hs,hI,hb=>by
  have hm:d*((n+1:Nat):Int)=d+d*(n:Int):=by rw[Int.natCast_succ,Int.mul_add,Int.mul_one,Int.add_comm]
  have hp:0<=d*(n:Int):=Int.mul_nonneg hd (by omega)
  obtain ⟨s1,x1,a1,a2,a3⟩:=hin n s x b (by omega) hs (by omega) hI
  obtain ⟨s2,x2,c1,c2,c3⟩:=down_ex M enc I d hd fin hin hout n s1 x1 (b+d) (by omega) a1 a2 (by omega)
  have e:b+d*((n+1:Nat):Int)=b+d+d*(n:Int):=by omega
  refine ⟨s2,x2,e ▸ c1,e ▸ c2,fun k hk=>?_⟩
  obtain ⟨j,rfl⟩:∃ j,k=j+1:=⟨k - 1,by omega⟩
  rw[rawIter_succ,a3]
  exact c3 j (by omega)
theorem some_ok {s:L1Src} {b:Int} (h:srcOk s b) (hb:b<=799000) (n:Nat) (hn:n<=100):∃ l t,spec_l1Some.sem (s,(n:Int),())=some (l,t,())/\l.length=n/\srcOk t (b+n):=by
 have:=down_ex 800000 (B:=fun w v=>spec_l1Some.b0 w (spec_l1Some.q0 (s,(n:Int),())) (s,(n:Int),()) v) (fun s (l:List UInt8) i=>(s,i,l)) (fun c l=>0<=b/\(l.length:Int)=c - b) 1 (by omega) (fun s l=>(l,s,()))
  (fun m s x c hm hs hc hI=>by
   obtain ⟨v,t,e1,a1,c1,s1⟩:=next_ok (n:=256) hs (by omega) (by omega) (by omega)
   refine ⟨t,x++[UInt8.ofInt v],s1,⟨hI.1,by have:=hI.2;rw[List.length_append];simp only[List.length_cons,List.length_nil];omega⟩,fun self=>?_⟩
   unfold spec_l1Some.b0
   have hlt:(0:Int) < ((m+1:Nat):Int):=by omega
   have hw:w64 (((m+1:Nat):Int) - 1)=(m:Int):=down_w hm
   simp only[hlt,decide_true,cond_true,e1,Option.bind_some,hw]
   rw[if_pos (cap_ok (by have:=hI.1;have:=hI.2;simp only[List.length_cons,List.length_nil];omega))])
  (fun s x c _ _ self=>by
   unfold spec_l1Some.b0
   rw[decide_eq_false (Int.lt_irrefl _),cond_false]
   rfl) n s [] b (by omega) h ⟨by have:=h.2;omega,by simp⟩ (by omega)
 obtain ⟨t,l,a1,a2,a3⟩:=this
 have a2:=a2.2
 refine ⟨l,t,lift_eq (k:=n+1) fun k hk=>(spec_l1Some.raw_eq k _).trans ?_,by omega,a1.mono (by omega)⟩
 exact a3 k (by omega)
theorem put1_len (xs:List Row) (r:Row):(put1 xs r).length=xs.length+1:=by
 unfold put1
 simp only[List.length_append,List.length_take,List.length_drop,List.length_cons,List.length_nil]
 omega
theorem at_neg {x:List Row} {r:Row} (hu:up x) (hf:atI x (r.1,r.2.1) < 0):∀ y ∈ x,rk y≠rk r:=fun y hy he=>by
 obtain ⟨i,hi,hx⟩:=List.getElem_of_mem hy
 have:=(fnd_at hu hi (k:=(r.1,r.2.1)) (by rw[hx];exact he)).1
 unfold atI at hf
 rw[this] at hf
 simp only[if_true] at hf
 omega
theorem drawRows_ok {s:L1Src} {b:Int} (h:srcOk s b) (hb:b<=500000):∃ xs t,spec_l6DrawRows.sem (s,())=some (xs,t,())/\xs.length<=6/\(∀ r ∈ xs,rowF r=0)/\srcOk t (b+100):=by
 have hb0:0<=b:=Int.le_trans h.2.1 h.2.2
 obtain ⟨v,t1,e1,a1,c1,s1⟩:=next_ok (n:=7) h (by omega) (by omega) (by omega)
 have:=down_ex 700000 (B:=fun w v=>spec_l6DrawRows.b0 w (spec_l6DrawRows.q0 (s,())) (s,()) v) (fun s (l:List Row) i=>(s,l,i)) (fun c l=>up l/\(∀ r ∈ l,rowF r=0)/\5*(l.length:Int)<=c - b - 1) 5 (by omega) (fun s l=>(l,s,()))
  (fun m s x c hm hs hc hI=>by
   obtain ⟨r,t,e1,hr,s1⟩:=drawRow_ok hs (by omega)
   have hlt:(0:Int) < ((m+1:Nat):Int):=by omega
   have hs2:=hs.2
   have hA:=specAt_eq x r.1 r.2.1 hI.1 (by omega)
   have hP:=specPut_eq x r (by omega)
   by_cases hf:atI x (r.1,r.2.1) < 0
   ·refine ⟨t,put1 x r,s1,⟨up_put1 hI.1 (at_neg hI.1 hf),?_,by rw[put1_len];omega⟩,fun self=>?_⟩
    ·intro y hy
     rcases List.mem_cons.1 ((put1_perm x r).mem_iff.1 hy) with h1 | h1
     ·rw[h1];exact hr
     ·exact hI.2.1 y h1
    ·unfold spec_l6DrawRows.b0
     simp only[hlt,decide_true,cond_true,e1,Option.bind_some,down_w hm,hA,hP,hf]
   ·refine ⟨t,x,s1,⟨hI.1,hI.2.1,by omega⟩,fun self=>?_⟩
    unfold spec_l6DrawRows.b0
    simp only[hlt,decide_true,cond_true,e1,Option.bind_some,down_w hm,hA,hf,decide_false,cond_false])
  (fun s x c _ _ self=>by
   unfold spec_l6DrawRows.b0
   rw[decide_eq_false (Int.lt_irrefl _),cond_false]
   rfl) v.toNat t1 [] (b+1) (by omega) s1 ⟨List.Pairwise.nil,fun _ h=>(by cases h),by simp only[List.length_nil];omega⟩ (by omega)
 obtain ⟨t,l,a1',a2,a3⟩:=this
 have hv:((v.toNat:Nat):Int)=v:=by omega
 rw[hv] at a3 a1' a2
 refine ⟨l,t,lift_eq (k:=8) fun k hk=>(spec_l6DrawRows.raw_eq k _).trans ?_,by have:=a2.2.2;omega,a2.2.1,a1'.mono (by omega)⟩
 unfold spec_l6DrawRows.p
 rw[e1]
 exact a3 k (by omega)
def newB (b:UInt8):List UInt8:=((List.replicate 64 b).set 0 0).set 1 64
theorem newB_eq (v:Int) (h:v=0\/v=7):∃ p,spec_l2New.sem (UInt8.ofInt v,())=some (p,())/\PageOk p:=by
 rcases h with rfl | rfl
 ·refine ⟨newF,?_,by rw[new_same];exact newPg_ok.1⟩
  exact specNew_eq
 ·refine ⟨newB 7,lift_eq (k:=66) fun k hk=>?_,pageF_iff.1 (by decide +kernel)⟩
  obtain ⟨j,rfl⟩:∃ j,k=j+66:=⟨k - 66,by omega⟩
  exact (spec_l2New.raw_eq _ _).trans (by kernel_rfl)
theorem drawRight_ok {s:L1Src} {b:Int} (h:srcOk s b) (hb:b<=400000):∃ p t,spec_l2Right.sem (s,())=some (p,t,())/\PageOk p/\srcOk t (b+500):=by
 obtain ⟨v0,t0,e0,m0,s0⟩:=pick_ok h (by omega) [(0:Int),(0:Int),(7:Int)] (by simp) (by simp)
 obtain ⟨p0,e1,hp0⟩:=newB_eq v0 (by simp only[List.mem_cons,List.not_mem_nil,or_false] at m0;omega)
 obtain ⟨v,t1,e2,a2,c2,s1⟩:=next_ok (n:=14) s0 (by omega) (by omega) (by omega)
 have:=down_ex 700000 (B:=fun w v=>spec_l2Right.b0 w (spec_l2Right.q0 (s,())) (s,()) v) (fun s (l:List UInt8) i=>(s,l,i)) (fun _ l=>PageOk l) 20 (by omega) (fun s l=>(l,s,()))
  (fun m s x c hm hs hc hI=>by
   have hlt:(0:Int) < ((m+1:Nat):Int):=by omega
   obtain ⟨v1,t1,e1,a1,c1,s1⟩:=next_ok (n:=14) hs (by omega) (by omega) (by omega)
   have hw:w64 (1+v1)=((v1.toNat+1:Nat):Int):=by rw[w64_in (by omega)];omega
   obtain ⟨l,t2,e2,hl,s2⟩:=some_ok s1 (by omega) (v1.toNat+1) (by omega)
   obtain ⟨v3,t3,e3,a3,c3,s3⟩:=next_ok (n:=5) s2 (by omega) (by omega) (by omega)
   by_cases h0:v3=0
   ·obtain ⟨v4,t4,e4,a4,c4,s4⟩:=next_ok (n:=6) s3 (by omega) (by omega) (by omega)
    have e5:=specHas_eq hI v4.toNat
    rw[show ((v4.toNat:Nat):Int)=v4 by omega] at e5
    by_cases hh:v4.toNat < pn x/\psz x v4.toNat≠0
    ·have e6:=specDrop_eq hI hh.1
     rw[show ((v4.toNat:Nat):Int)=v4 by omega] at e6
     refine ⟨t4,dropQ x v4.toNat,s4.mono (by omega),(dropQ_ok hI hh.1).1,fun self=>?_⟩
     unfold spec_l2Right.b0
     simp only[hlt,decide_true,cond_true,e1,e2,e3,e4,e5,e6,Option.bind_some,down_w hm,hw,h0,hh.1,hh.2,decide_false,Bool.not_false,Bool.and_self]
    ·refine ⟨t4,x,s4.mono (by omega),hI,fun self=>?_⟩
     have e7:(decide (v4.toNat < pn x)&&!decide (psz x v4.toNat=0))=false:=by
      by_cases q1:v4.toNat < pn x
      ·have q2:psz x v4.toNat=0:=Decidable.byContradiction fun q=>hh ⟨q1,q⟩
       simp[q2]
      ·simp[q1]
     unfold spec_l2Right.b0
     simp only[hlt,decide_true,cond_true,e1,e2,e3,e4,e5,e7,Option.bind_some,down_w hm,hw,h0,cond_false]
   by_cases h1:v3=1
   ·obtain ⟨v4,t4,e4,a4,c4,s4⟩:=next_ok (n:=6) s3 (by omega) (by omega) (by omega)
    have e5:=specHas_eq hI v4.toNat
    rw[show ((v4.toNat:Nat):Int)=v4 by omega] at e5
    have n10:¬ (1:Int)=0:=by omega
    by_cases hh:v4.toNat < pn x/\psz x v4.toNat≠0
    ·have e6:=specSet_eq hI l (by omega) (by omega) hh.1 hh.2
     rw[show ((v4.toNat:Nat):Int)=v4 by omega] at e6
     by_cases hz:setF x v4.toNat l=0
     ·refine ⟨t4,setQ x v4.toNat l,s4.mono (by omega),(setQ_ok hI hh.1 hh.2 (by omega) hz).1,fun self=>?_⟩
      unfold spec_l2Right.b0
      simp only[hlt,decide_true,cond_true,e1,e2,e3,e4,e5,e6,Option.bind_some,down_w hm,hw,h1,n10,hh.1,hh.2,decide_false,Bool.not_false,Bool.and_self,cond_false,hz,if_true]
     ·refine ⟨t4,x,s4.mono (by omega),hI,fun self=>?_⟩
      unfold spec_l2Right.b0
      simp only[hlt,decide_true,cond_true,e1,e2,e3,e4,e5,e6,Option.bind_some,down_w hm,hw,h1,n10,hh.1,hh.2,decide_false,Bool.not_false,Bool.and_self,cond_false,hz,if_false]
    ·refine ⟨t4,x,s4.mono (by omega),hI,fun self=>?_⟩
     have e7:(decide (v4.toNat < pn x)&&!decide (psz x v4.toNat=0))=false:=by
      by_cases q1:v4.toNat < pn x
      ·have q2:psz x v4.toNat=0:=Decidable.byContradiction fun q=>hh ⟨q1,q⟩
       simp[q2]
      ·simp[q1]
     unfold spec_l2Right.b0
     simp only[hlt,decide_true,cond_true,e1,e2,e3,e4,e5,e7,Option.bind_some,down_w hm,hw,h1,n10,decide_false,cond_false]
   by_cases h2:v3=2
   ·obtain ⟨v4,t4,e4,s4⟩:=chance_ok (n:=3) s3 (by omega) (by omega) (by omega)
    have n20:¬ (2:Int)=0:=by omega
    have n21:¬ (2:Int)=1:=by omega
    cases v4 with
    | true=>
     refine ⟨t4,compQ x,s4.mono (by omega),(compQ_ok hI).1,fun self=>?_⟩
     unfold spec_l2Right.b0
     simp only[hlt,decide_true,cond_true,e1,e2,e3,e4,specComp_eq hI,Option.bind_some,down_w hm,hw,h2,n20,n21,decide_false,cond_false]
    | false=>
     refine ⟨t4,x,s4.mono (by omega),hI,fun self=>?_⟩
     unfold spec_l2Right.b0
     simp only[hlt,decide_true,cond_true,e1,e2,e3,e4,Option.bind_some,down_w hm,hw,h2,n20,n21,decide_false,cond_false]
   have e6:=gPut_eq hI l (by omega) (by omega)
   by_cases hz:putF x l=0
   ·refine ⟨t3,putQ x l,s3.mono (by omega),(putQ_ok hI (by omega) hz).1,fun self=>?_⟩
    unfold spec_l2Right.b0
    simp only[hlt,decide_true,cond_true,e1,e2,e3,e6,Option.bind_some,down_w hm,hw,h0,h1,h2,decide_false,cond_false,hz,if_true]
   ·refine ⟨t3,x,s3.mono (by omega),hI,fun self=>?_⟩
    unfold spec_l2Right.b0
    simp only[hlt,decide_true,cond_true,e1,e2,e3,e6,Option.bind_some,down_w hm,hw,h0,h1,h2,decide_false,cond_false,hz,if_false])
  (fun s x c _ _ self=>by
   unfold spec_l2Right.b0
   rw[decide_eq_false (Int.lt_irrefl _),cond_false]
   rfl) v.toNat t1 p0 (b+2) (by omega) (s1.mono (by omega)) hp0 (by omega)
 obtain ⟨t,l,a1',a2',a3'⟩:=this
 have hv:((v.toNat:Nat):Int)=v:=by omega
 rw[hv] at a3' a1'
 refine ⟨l,t,lift_eq (k:=16) fun k hk=>(spec_l2Right.raw_eq k _).trans ?_,a2',a1'.mono (by omega)⟩
 unfold spec_l2Right.p
 rw[e0]
 simp only[Option.bind_some,e1,e2]
 exact a3' k (by omega)
theorem bentPage_ok {s:L1Src} {b:Int} (h:srcOk s b) (hb:b<=400000):∃ p t,spec_l2Bent.sem (s,())=some (p,t,())/\p.length<=64/\srcOk t (b+600):=by
 obtain ⟨p,t1,e1,hp,s1⟩:=drawRight_ok h hb
 obtain ⟨v,t2,e2,a2,c2,s2⟩:=next_ok (n:=12) s1 (by omega) (by omega) (by omega)
 have hl:=hp.len
 suffices hq:∃ r' t',spec_l2Bent.p (s,())=some (r',t',())/\r'.length<=64/\srcOk t' (b+600) by
  obtain ⟨r',t',p1,p2,p3⟩:=hq
  exact ⟨r',t',lift_eq (k:=0) fun k _=>(spec_l2Bent.raw_eq k _).trans p1,p2,p3⟩
 unfold spec_l2Bent.p
 rw[e1]
 simp only[Option.bind_some,e2]
 by_cases h0:v=0
 ·simp only[h0,decide_true,cond_true]
  rw[if_pos ⟨by omega,by omega⟩]
  exact ⟨_,_,rfl,by rw[List.length_drop,List.length_take];omega,s2.mono (by omega)⟩
 by_cases h1:v=1
 ·obtain ⟨v3,t3,e3,a3,c3,s3⟩:=next_ok (n:=12) s2 (by omega) (by omega) (by omega)
  obtain ⟨v4,t4,e4,a4,c4,s4⟩:=next_ok (n:=70) s3 (by omega) (by omega) (by omega)
  simp only[h1,show ¬ (1:Int)=0 by omega,decide_true,decide_false,cond_true,cond_false,e3,e4,Option.bind_some]
  rw[if_pos ⟨a3,by omega⟩,List.getElem?_eq_getElem (show v3.toNat < p.length by omega)]
  exact ⟨_,_,rfl,by rw[List.length_set];omega,s4.mono (by omega)⟩
 simp only[h0,h1,decide_false,cond_false]
 exact ⟨_,_,rfl,by omega,s2.mono (by omega)⟩
theorem up_ex {X O V:Type} {B:(V->Option O)->V->Option O} (enc:L1Src->X->Int->V) (I:X->Prop) (d:Int) (hd:0<=d) (fin:L1Src->X->O) (N:Nat) (hN:N<=1000)
  (hin:∀ (i:Nat) (s:L1Src) (x:X) (b:Int),i < N->srcOk s b->b<=700000->I x->∃ s' x',srcOk s' (b+d)/\I x'/\∀ self,B self (enc s x (i:Int))=self (enc s' x' ((i+1:Nat):Int)))
  (hout:∀ (s:L1Src) (x:X) (b:Int),srcOk s b->I x->∀ self,B self (enc s x (N:Int))=some (fin s x)) :
  ∀ (m i:Nat) (s:L1Src) (x:X) (b:Int),i+m=N->srcOk s b->I x->b+d*m<=700000->∃ s' x',srcOk s' (b+d*m)/\I x'/\∀ k,m < k->rawIter B k (enc s x (i:Int))=some (fin s' x')
 | 0,i,s,x,b,hi,hs,hI,_=>⟨s,x,by simpa using hs,hI,fun k hk=>by
   obtain ⟨j,rfl⟩:∃ j,k=j+1:=⟨k - 1,by omega⟩
   rw[rawIter_succ,show i=N by omega]
   exact hout s x b hs hI _⟩
 | m+1,i,s,x,b,hi,hs,hI,hb=>by
  have hm:d*((m+1:Nat):Int)=d+d*(m:Int):=by rw[Int.natCast_succ,Int.mul_add,Int.mul_one,Int.add_comm]
  have hp:0<=d*(m:Int):=Int.mul_nonneg hd (by omega)
  obtain ⟨s1,x1,a1,a2,a3⟩:=hin i s x b (by omega) hs (by omega) hI
  obtain ⟨s2,x2,c1,c2,c3⟩:=up_ex enc I d hd fin N hN hin hout m (i+1) s1 x1 (b+d) (by omega) a1 a2 (by omega)
  have e:b+d*((m+1:Nat):Int)=b+d+d*(m:Int):=by omega
  refine ⟨s2,x2,e ▸ c1,c2,fun k hk=>?_⟩
  obtain ⟨j,rfl⟩:∃ j,k=j+1:=⟨k - 1,by omega⟩
  rw[rawIter_succ,a3]
  exact c3 j (by omega)
theorem up_w {m:Nat} (h:m<=1000):w64 ((m:Int)+1)=((m+1:Nat):Int):=by rw[w64_in (by omega)];omega
theorem put_ok2 {p c:List UInt8} (hp:PageOk p) (h1:1<=c.length) (h2:c.length<=20):∃ q n k,spec_l2Put.sem (p,c,())=some (q,n,k,())/\(k=0->PageOk q/\∃ m:Nat,n=(m:Int)):=by
 refine ⟨_,_,_,gPut_eq hp c h1 h2,fun h=>?_⟩
 rw[if_pos h,if_pos h]
 exact ⟨(putQ_ok hp h1 h).1,_,rfl⟩
def twoP (x:Pgs):Prop:=∃ p q:List UInt8,x=[p,q]/\PageOk p/\PageOk q
theorem pages6_ok {s:L1Src} {b:Int} (h:srcOk s b) (hb:b<=300000):∃ x t,spec_l6Pages.sem (s,())=some (x,t,())/\twoP x/\srcOk t (b+200):=by
 obtain ⟨rs,t1,e1,hl,hr,s1⟩:=drawRows_ok h (by omega)
 have:=up_ex (B:=fun w v=>spec_l6Pages.b0 w (spec_l6Pages.q0 (s,()) rs) (s,()) rs v) (fun s (l:Pgs) i=>(s,l,i)) twoP 10 (by omega) (fun s l=>(l,s,())) rs.length (by omega)
  (fun i s x c hi hs hc hI=>by
   obtain ⟨p,q,rfl,hp,hq⟩:=hI
   have c0:(0:Int)<=0/\(0:Int) < ((0+1+1:Nat):Int):=by omega
   have c1:(0:Int)<=1/\(1:Int) < ((0+1+1:Nat):Int):=by omega
   have hlt:(i:Int) < (rs.length:Int):=by omega
   have hin:(0:Int)<=(i:Int)/\(i:Int) < (rs.length:Int):=⟨by omega,hlt⟩
   have hri:=hr _ (List.getElem_mem hi)
   obtain ⟨v1,t1,e1,s1⟩:=chance_ok (n:=3) hs (by omega) (by omega) (by omega)
   cases v1 with
   | true=>
    have e2:spec_l1Cell.sem ((2:Int),rs[i],())=some (cellB 2 rs[i],()):=specCell_eq (f:=2) hri
    have hcl:=cellB_len (f:=2) hri
    obtain ⟨Q,n,k,e3,k3⟩:=put_ok2 hq hcl.1 (by omega:(cellB 2 rs[i]).length<=20)
    by_cases hk:k=0
    ·obtain ⟨hQ,m,rfl⟩:=k3 hk
     have e4:spec_l1Stub.sem ((1:Int),(m:Int),())=some (stubB 1 m,()):=specStub_eq 1 m
     obtain ⟨P,n2,k2,e5,k5⟩:=put_ok2 hp (show 1<=(stubB 1 m).length by unfold stubB;simp) (show (stubB 1 m).length<=20 by unfold stubB;simp)
     by_cases hk2:k2=0
     ·refine ⟨t1,[P,Q],s1.mono (by omega),⟨P,Q,rfl,(k5 hk2).1,hQ⟩,fun self=>?_⟩
      unfold spec_l6Pages.b0
      simp only[hlt,hin,and_self,decide_true,cond_true,e1,e2,e3,e4,e5,hk,hk2,Option.bind_some,up_w (show i<=1000 by omega),Int.toNat_natCast,List.getElem?_eq_getElem hi,List.length_cons,List.length_nil,List.set_cons_succ,List.set_cons_zero,List.getElem?_cons_succ,List.getElem?_cons_zero,if_true]
      simp only[c0,c1,and_self,if_true]
     ·refine ⟨t1,[p,q],s1.mono (by omega),⟨p,q,rfl,hp,hq⟩,fun self=>?_⟩
      unfold spec_l6Pages.b0
      simp only[hlt,hin,and_self,decide_true,cond_true,e1,e2,e3,e4,e5,hk,hk2,Option.bind_some,up_w (show i<=1000 by omega),Int.toNat_natCast,List.getElem?_eq_getElem hi,List.length_cons,List.length_nil,List.set_cons_succ,List.set_cons_zero,List.getElem?_cons_succ,List.getElem?_cons_zero,if_true,decide_false,cond_false]
      simp only[c0,c1,and_self,if_true]
    ·refine ⟨t1,[p,q],s1.mono (by omega),⟨p,q,rfl,hp,hq⟩,fun self=>?_⟩
     unfold spec_l6Pages.b0
     simp only[hlt,hin,and_self,decide_true,cond_true,e1,e2,e3,hk,Option.bind_some,up_w (show i<=1000 by omega),Int.toNat_natCast,List.getElem?_eq_getElem hi,List.length_cons,List.length_nil,List.getElem?_cons_succ,List.getElem?_cons_zero,if_true,decide_false,cond_false]
     simp only[c0,c1,and_self,if_true]
   | false=>
    obtain ⟨v2,t2,e6,a2,c2,s2⟩:=next_ok (n:=2) s1 (by omega) (by omega) (by omega)
    have e2:spec_l1Cell.sem ((0:Int),rs[i],())=some (cellB 0 rs[i],()):=specCell_eq (f:=0) hri
    have hcl:=cellB_len (f:=0) hri
    obtain ⟨z,w,hz,hzp,hset⟩:∃ z:List UInt8,∃ w:List UInt8->Pgs,([p,q]:Pgs)[v2.toNat]?=some z/\PageOk z/\∀ Q,([p,q]:Pgs).set v2.toNat Q=w Q/\(PageOk Q->twoP (w Q)):=by
     have hv:v2.toNat=0\/v2.toNat=1:=by omega
     rcases hv with h0 | h0
     ·rw[h0]
      exact ⟨p,fun Q=>[Q,q],rfl,hp,fun Q=>⟨rfl,fun h=>⟨Q,q,rfl,h,hq⟩⟩⟩
     ·rw[h0]
      exact ⟨q,fun Q=>[p,Q],rfl,hq,fun Q=>⟨rfl,fun h=>⟨p,Q,rfl,hp,h⟩⟩⟩
    have c2':(0:Int)<=v2/\v2 < (List.length ([p,q]:Pgs):Int):=⟨a2,c2⟩
    obtain ⟨Q,n,k,e3,k3⟩:=put_ok2 hzp hcl.1 (by omega:(cellB 0 rs[i]).length<=20)
    by_cases hk:k=0
    ·refine ⟨t2,w Q,s2.mono (by omega),(hset Q).2 (k3 hk).1,fun self=>?_⟩
     have hd:decide (k=0)=true:=decide_eq_true hk
     unfold spec_l6Pages.b0
     rw[decide_eq_true hlt,cond_true,e1]
     simp only[Option.bind_some,cond_false]
     rw[e6]
     simp only[Option.bind_some]
     rw[if_pos c2',hz]
     simp only[Option.bind_some]
     rw[if_pos hin,Int.toNat_natCast,List.getElem?_eq_getElem hi]
     simp only[Option.bind_some]
     rw[e2]
     simp only[Option.bind_some]
     rw[e3]
     simp only[Option.bind_some]
     rw[hd,cond_true,(hset Q).1,up_w (show i<=1000 by omega),if_pos c2']
    ·refine ⟨t2,[p,q],s2.mono (by omega),⟨p,q,rfl,hp,hq⟩,fun self=>?_⟩
     have hd:decide (k=0)=false:=decide_eq_false hk
     unfold spec_l6Pages.b0
     rw[decide_eq_true hlt,cond_true,e1]
     simp only[Option.bind_some,cond_false]
     rw[e6]
     simp only[Option.bind_some]
     rw[if_pos c2',hz]
     simp only[Option.bind_some]
     rw[if_pos hin,Int.toNat_natCast,List.getElem?_eq_getElem hi]
     simp only[Option.bind_some]
     rw[e2]
     simp only[Option.bind_some]
     rw[e3]
     simp only[Option.bind_some]
     rw[hd,cond_false,up_w (show i<=1000 by omega)])
  (fun s x c _ _ self=>by
   unfold spec_l6Pages.b0
   rw[decide_eq_false (Int.lt_irrefl _),cond_false]
   rfl) rs.length 0 t1 [newF,newF] (b+100) (by omega) s1 ⟨_,_,rfl,by rw[new_same];exact newPg_ok.1,by rw[new_same];exact newPg_ok.1⟩ (by omega)
 obtain ⟨t,x,a1,a2,a3⟩:=this
 refine ⟨x,t,lift_eq (k:=rs.length+1) fun k hk=>(spec_l6Pages.raw_eq k _).trans ?_,a2,a1.mono (by omega)⟩
 unfold spec_l6Pages.p
 rw[specNew_eq]
 simp only[Option.bind_some,e1]
 exact a3 k (by omega)
def smallP (x:Pgs):Prop:=∀ p ∈ x,List.length p<=64
theorem two_small {x:Pgs} (h:twoP x):smallP x:=by
 obtain ⟨p,q,rfl,hp,hq⟩:=h
 intro y hy
 simp only[List.mem_cons,List.not_mem_nil,or_false] at hy
 rcases hy with rfl | rfl
 ·exact Nat.le_of_eq hp.len
 ·exact Nat.le_of_eq hq.len
theorem two_of {p q:List UInt8} (hp:p.length<=64) (hq:q.length<=64):smallP [p,q]:=by
 intro y hy
 simp only[List.mem_cons,List.not_mem_nil,or_false] at hy
 rcases hy with rfl | rfl <;> assumption
theorem bent6_ok {s:L1Src} {b:Int} (h:srcOk s b) (hb:b<=200000):∃ x t,spec_l6Bent.sem (s,())=some (x,t,())/\smallP x/\srcOk t (b+1000):=by
 obtain ⟨x,t1,e1,hx,s1⟩:=pages6_ok h (by omega)
 have hsm:=two_small hx
 obtain ⟨p,q,rfl,hp,hq⟩:=hx
 obtain ⟨v,t2,e2,a2,c2,s2⟩:=next_ok (n:=14) s1 (by omega) (by omega) (by omega)
 have lp:=hp.len
 have lq:=hq.len
 suffices hQ:∃ r' t',spec_l6Bent.p (s,())=some (r',t',())/\smallP r'/\srcOk t' (b+1000) by
  obtain ⟨r',t',p1,p2,p3⟩:=hQ
  exact ⟨r',t',lift_eq (k:=0) fun k _=>(spec_l6Bent.raw_eq k _).trans p1,p2,p3⟩
 unfold spec_l6Bent.p
 rw[e1]
 simp only[Option.bind_some,e2]
 by_cases h0:v=0
 ·obtain ⟨w,t3,e3,hw,s3⟩:=bentPage_ok s2 (by omega)
  simp only[h0,decide_true,cond_true,e3,Option.bind_some]
  exact ⟨[w,q],_,rfl,two_of hw (by omega),s3.mono (by omega)⟩
 by_cases h1:v=1
 ·simp only[h1,show ¬ (1:Int)=0 by omega,decide_true,decide_false,cond_true,cond_false]
  rw[if_pos ⟨by omega,by omega,by simp only[CAP];omega⟩]
  refine ⟨_,_,rfl,fun y hy=>?_,s2.mono (by omega)⟩
  rw[(List.mem_replicate.1 hy).2]
  exact Nat.zero_le _
 by_cases h2:v=2
 ·obtain ⟨v3,t3,e3,a3,c3,s3⟩:=next_ok (n:=2) s2 (by omega) (by omega) (by omega)
  obtain ⟨v4,t4,e4,a4,c4,s4⟩:=next_ok (n:=3) s3 (by omega) (by omega) (by omega)
  have e5:spec_l1Stub.sem (v3,v4,())=some (stubB v3.toNat v4.toNat,()):=by
   have:=specStub_eq v3.toNat v4.toNat
   rw[show ((v3.toNat:Nat):Int)=v3 by omega,show ((v4.toNat:Nat):Int)=v4 by omega] at this
   exact this
  obtain ⟨Q,n,k,e6,k6⟩:=put_ok2 hp (show 1<=(stubB v3.toNat v4.toNat).length by unfold stubB;simp) (show (stubB v3.toNat v4.toNat).length<=20 by unfold stubB;simp)
  simp only[h2,show ¬ (2:Int)=0 by omega,show ¬ (2:Int)=1 by omega,decide_true,decide_false,cond_true,cond_false,e3,e4,e5,e6,Option.bind_some,List.getElem?_cons_zero,List.length_cons,List.length_nil]
  by_cases hk:k=0
  ·simp only[hk,decide_true,cond_true]
   exact ⟨[Q,q],_,rfl,two_of (Nat.le_of_eq (k6 hk).1.len) (by omega),s4.mono (by omega)⟩
  ·simp only[hk,decide_false,cond_false]
   exact ⟨[p,q],_,rfl,hsm,s4.mono (by omega)⟩
 by_cases h3:v=3
 ·obtain ⟨r,t3,e3,hr,s3⟩:=drawRow_ok s2 (by omega)
  have e5:spec_l1Cell.sem ((0:Int),r,())=some (cellB 0 r,()):=specCell_eq (f:=0) hr
  have hcl:=cellB_len (f:=0) hr
  obtain ⟨Q,n,k,e6,k6⟩:=put_ok2 hq hcl.1 (by omega:(cellB 0 r).length<=20)
  simp only[h3,show ¬ (3:Int)=0 by omega,show ¬ (3:Int)=1 by omega,show ¬ (3:Int)=2 by omega,decide_true,decide_false,cond_true,cond_false,e3,e5,e6,Option.bind_some,List.getElem?_cons_zero,List.getElem?_cons_succ,List.length_cons,List.length_nil]
  by_cases hk:k=0
  ·simp only[hk,decide_true,cond_true]
   exact ⟨[p,Q],_,rfl,two_of (by omega) (Nat.le_of_eq (k6 hk).1.len),s3.mono (by omega)⟩
  ·simp only[hk,decide_false,cond_false]
   exact ⟨[p,q],_,rfl,hsm,s3.mono (by omega)⟩
 simp only[h0,h1,h2,h3,decide_false,cond_false]
 exact ⟨_,_,rfl,hsm,s2.mono (by omega)⟩
theorem find_in {ps:Pgs} {t k:Int} {x:L6Spot} (h:findS ps t k=some x):x ∈ seenF ps/\rk (sRow x)=(t,k):=by
 unfold findS at h
 exact ⟨List.mem_of_find?_eq_some h,of_decide_eq_true (List.find?_some (p:=fun x=>decide (rk (sRow x)=(t,k))) h)⟩
theorem view_nil:viewC []=0:=by decide +kernel
theorem pages7_ok {s:L1Src} {b:Int} (h:srcOk s b) (hb:b<=300000):∃ x t,spec_l7Pages.sem (s,())=some (x,t,())/\viewC x=0/\srcOk t (b+200):=by
 obtain ⟨v,t1,e1,a1,c1,s1⟩:=next_ok (n:=16) h (by omega) (by omega) (by omega)
 have:=down_ex 700000 (B:=fun w v=>spec_l7Pages.b0 w (spec_l7Pages.q0 (s,())) (s,()) v) (fun s (l:Pgs) i=>(s,l,i)) (fun _ l=>viewC l=0) 7 (by omega) (fun s l=>(l,s,()))
  (fun m s x c hm hs hc hI=>by
   have hlt:(0:Int) < ((m+1:Nat):Int):=by omega
   have V:=view_ok hI
   obtain ⟨r,t1,e1,hr,s1⟩:=drawRow_ok hs (by omega)
   have e2:=specFind_eq x V.right r.1 r.2.1
   cases hf:findS x r.1 r.2.1 with
   | none=>
    rw[hf] at e2
    have e3:=specIns_eq V.right hr
    by_cases h0:(doneE (insW (startW x) r).1.isSome (insW (startW x) r).2).1=0
    ·have hv:=insE_view hI hr hf h0
     have hd:=(doneE_zero h0).2
     refine ⟨t1,(insW (startW x) r).2.1,s1.mono (by omega),hv.1,fun self=>?_⟩
     unfold spec_l7Pages.b0
     rw[hd] at e3
     simp only[hlt,decide_true,cond_true,e1,e2,e3,Option.bind_some,down_w hm,Bool.not_false]
    ·refine ⟨t1,x,s1.mono (by omega),hI,fun self=>?_⟩
     unfold spec_l7Pages.b0
     simp only[hlt,decide_true,cond_true,e1,e2,e3,Option.bind_some,down_w hm,Bool.not_false,h0,decide_false,cond_false]
   | some y=>
    rw[hf] at e2
    obtain ⟨hy,hk⟩:=find_in hf
    obtain ⟨v4,t4,e4,s4⟩:=chance_ok (n:=4) s1 (by omega) (by omega) (by omega)
    cases v4 with
    | true=>
     obtain ⟨w,d1,_,d2,_⟩:=del_view hI hy
     have e5:=specDel_eq V hy
     rw[d1] at e5
     refine ⟨t4,w.1,s4.mono (by omega),d2,fun self=>?_⟩
     unfold spec_l7Pages.b0
     simp only[hlt,decide_true,cond_true,e1,e2,e4,e5,Option.bind_some,down_w hm,Bool.not_true,cond_false,doneE,if_true]
    | false=>
     have e5:=specUpd_eq V hy hr
     rcases updX_view hI hy hr hk with d1 | ⟨w,d1,_,d2,_⟩
     ·rw[d1] at e5
      refine ⟨t4,x,s4.mono (by omega),hI,fun self=>?_⟩
      unfold spec_l7Pages.b0
      simp only[hlt,decide_true,cond_true,e1,e2,e4,e5,Option.bind_some,down_w hm,Bool.not_true,cond_false,badE]
      rfl
     ·rw[d1] at e5
      refine ⟨t4,w.1,s4.mono (by omega),d2,fun self=>?_⟩
      unfold spec_l7Pages.b0
      simp only[hlt,decide_true,cond_true,e1,e2,e4,e5,Option.bind_some,down_w hm,Bool.not_true,cond_false,doneE,if_true])
  (fun s x c _ _ self=>by
   unfold spec_l7Pages.b0
   rw[decide_eq_false (Int.lt_irrefl _),cond_false]
   rfl) v.toNat t1 [] (b+1) (by omega) s1 view_nil (by omega)
 obtain ⟨t,l,a1',a2',a3'⟩:=this
 have hv:((v.toNat:Nat):Int)=v:=by omega
 rw[hv] at a3' a1'
 refine ⟨l,t,lift_eq (k:=18) fun k hk=>(spec_l7Pages.raw_eq k _).trans ?_,a2',a1'.mono (by omega)⟩
 unfold spec_l7Pages.p
 rw[e1]
 exact a3' k (by omega)
theorem bent7_ok {s:L1Src} {b:Int} (h:srcOk s b) (hb:b<=100000):∃ x t,spec_l7Bent.sem (s,())=some (x,t,())/\smallP x/\srcOk t (b+2000):=by
 obtain ⟨v,t1,e1,s1⟩:=chance_ok (n:=6) h (by omega) (by omega) (by omega)
 cases v with
 | true=>
  obtain ⟨x,t2,e2,hx,s2⟩:=bent6_ok s1 (by omega)
  refine ⟨x,t2,lift_eq (k:=0) fun k _=>(spec_l7Bent.raw_eq k _).trans ?_,hx,s2.mono (by omega)⟩
  unfold spec_l7Bent.p
  rw[e1]
  simp only[Option.bind_some,cond_true,e2]
 | false=>
  obtain ⟨x,t2,e2,hx,s2⟩:=pages7_ok s1 (by omega)
  refine ⟨x,t2,lift_eq (k:=0) fun k _=>(spec_l7Bent.raw_eq k _).trans ?_,fun p hp=>Nat.le_of_eq ((view_right hx).1.2 p hp).len,s2.mono (by omega)⟩
  unfold spec_l7Bent.p
  rw[e1]
  simp only[Option.bind_some,cond_false,e2]
theorem drawIns_ok (c:List UInt8) (h:c.length<=1048576):∃ x r,spec_DrawInsertEdits.sem (c,())=some (x,r,())/\smallP x/\List.length r.2.2.2.1<=9:=by
 have h0:srcOk (c,(0:Int),()) 0:=⟨h,Int.le_refl 0,Int.le_refl 0⟩
 have e0:spec_l1Source.sem (c,())=some ((c,(0:Int),()),()):=lift_eq (k:=0) fun k _=>(spec_l1Source.raw_eq k _).trans rfl
 obtain ⟨x,t,e1,hx,s1⟩:=bent7_ok h0 (by omega)
 obtain ⟨r,t2,e2,hr,s2⟩:=bentRow_ok s1 (by omega)
 refine ⟨x,r,lift_eq (k:=0) fun k _=>(spec_DrawInsertEdits.raw_eq k _).trans ?_,hx,hr⟩
 unfold spec_DrawInsertEdits.p
 rw[e0]
 simp only[Option.bind_some,e1,e2]
end OT
set_option linter.unusedVariables false
set_option linter.unusedSimpArgs false
set_option linter.unusedSectionVars false
namespace OT
open Go
theorem lwBig_eq (c:List UInt8):laws_lwBig.sem (c,())=some (decide ((1048576:Int) < (c.length:Int)),()):=lift_eq (k:=0) fun k _=>(laws_lwBig.raw_eq k _).trans rfl
theorem small_max {x:Pgs} (h:smallP x):∀ p ∈ x,List.length p<=maxLen:=fun p hp=>by
 have:=h p hp
 rw[maxLen_val]
 omega
theorem right_max {x:Pgs} (h:viewC x=0):∀ p ∈ x,List.length p<=maxLen:=fun p hp=>by
 rw[((view_right h).1.2 p hp).len,maxLen_val]
 omega
theorem rowsV_len {ps:Pgs} (h:viewC ps=0):(rowsV ps).length<=1000:=by
 have:=viewL_len (view_ok h)
 unfold rowsV
 rw[List.length_map]
 omega
theorem rowE_self (x:Row):Ty.eq tRow x x=true:=by rw[row_dec,decide_eq_true rfl]
theorem inserts_true (v:laws_FnInserts.Arg) (hv:okA laws_FnInserts.ps v):laws_FnInserts.sem v=some (true,()):=by
 obtain ⟨c,⟨⟩⟩:=v
 refine lift_eq (k:=0) fun k _=>(laws_FnInserts.raw_eq k _).trans ?_
 show laws_FnInserts.p _=_
 unfold laws_FnInserts.p
 rw[lwBig_eq]
 simp only[Option.bind_some]
 by_cases hl:(1048576:Int) < (c.length:Int)
 ·rw[decide_eq_true hl,cond_true]
 rw[decide_eq_false hl,cond_false]
 obtain ⟨ps,r,e1,hs,hr9⟩:=drawIns_ok c (by omega)
 have hP:=small_max hs
 have hrl:List.length r.2.2.2.1<=maxLen:=by rw[maxLen_val];omega
 have hI:=implInsE_eq hP hrl
 have hS:=specInsE_eq hP hrl
 rw[e1]
 simp only[Option.bind_some]
 rw[hI,hS]
 simp only[Option.bind_some]
 by_cases h0:(insE ps r).1=0
 rotate_left
 ·rw[decide_eq_false h0,Bool.not_false,cond_true,decide_true]
 rw[decide_eq_true h0,Bool.not_true,cond_false]
 obtain ⟨hv0,hr,w,hw,ok,T,v1,hm,hf⟩:=ins_facts h0
 have hP1:=right_max v1
 have hB:=implRowsIn_eq ps hP
 rw[if_pos hv0] at hB
 have hA:=implRowsIn_eq w.1 hP1
 rw[if_pos v1] at hA
 obtain ⟨P,s,hF⟩:=implFindRow_eq hP1 v1 hr hm
 rw[hB,hw]
 simp only[Option.bind_some]
 rw[hA,hF]
 simp only[Option.bind_some]
 rw[decide_true,cond_true,cond_true,rowE_self,cond_true,lwBut_eq _ _ _ (rowsV_len v1)]
 simp only[Option.bind_some]
 rw[hf,lwRows_eq _ _ (rowsV_len hv0)]
 simp only[Option.bind_some]
 rw[decide_true,cond_true,lwWay_true T ok (by omega)]
 simp only[Option.bind_some]
 rw[cond_true]
end OT
namespace Go.Proofs.YthpkgnffmmmhiaaGreat.inserts
open Go Go.ChangeShapes Go.WideShapes Go.ChangeAt Go.RowKit
theorem own:ownKnob Tryz.prog.godebug=none:=by kernel_rfl
theorem laidOut:laidOutB Tryz.prog=true:=by kernel_rfl
theorem htrue:∀ v,OT.okA OT.laws_FnInserts.ps v->∃ u,OT.laws_FnInserts.sem v=some (true,u):=fun v hv=>⟨(),OT.inserts_true v hv⟩
theorem trod_len {H:Type} {enc:TypeId×Value->H} {P:Program} {w:World} {base:Nat} {sp:Nat->Bool} {held:Bool}:∀ (ts:List TypeId) (vs:List Value) (ds:List (DataW H)) (ps:List MemPlace),DataW.TrodAll enc P w base sp held ts vs ds ps->ds.length=ts.length
 | [],[],[],_,_=>rfl
 | _::ts,_::vs,_::ds,_,⟨_,q,_,h,_⟩=>congrArg (·+1) (trod_len ts vs ds q h)
 | [],_::_,_,_,h=>h.elim
 | [],[],_::_,_,h=>h.elim
 | _::_,[],_,_,h=>h.elim
 | _::_,_::_,[],_,h=>h.elim
set_option maxRecDepth 100000 in
theorem lifted (os:Os) (started:os.Started) (H:Type) (enc:TypeId×Value->H) :
  ReturnsInHanded {} Tryz.checked os 3 .any (Rows.fnInsertsSpec.pre6 enc Tryz.prog Tryz.f3 Rows.fnInsertsRow.domain false) (Rows.fnInsertsSpec.post enc Tryz.prog Tryz.f3 false true false false):=by
 refine returnsInHanded_of_change (C:=Tryz.checked) own started (by kernel_rfl) Tryz.func3
  (ChangeSpec.witness6 (enc:=enc) (C:=Tryz.checked) false ⟨#[],#[.slice none 0 0],[]⟩ 8 (by kernel_rfl) (by kernel_rfl) (by kernel_rfl) (by kernel_rfl)) ?_
 intro W base args ds gs before hval0 hW hcnd _
 have hval:∀ (j:Nat) t v,Tryz.f3.params[j]?=some t->args[j]?=some v->Value.okWide Tryz.prog W .any base t v:=hval0
 have hW':=hW
 obtain ⟨p,q,hA0,hV,rfl,hfz,hnd⟩:=hW
 have hA:DataW.TrodAll enc Tryz.prog W 0 (fun _=>true) true Tryz.f3.params.toList args.toList ds p:=hA0
 obtain ⟨rfl,rfl⟩:=trodVars_none hV
 simp only[List.append_nil] at hW'
 have hl:OT.roLay Tryz.prog OT.laws_FnInserts.ps Tryz.f3.params.toList=true:=by kernel_rfl
 have hc:=OT.law_calls (enc:=enc) (cap:=false) (ps:=OT.laws_FnInserts.ps) (Fn:=OT.laws_FnInserts.sem) OT.laws_FnInserts.ok.1 htrue hl hA (b0:=base) (fun j t v ht hv=>hval j t v (by simpa using ht) (by simpa using hv))
 simp only[Array.toArray_toList] at hc
 refine hc.mono fun e W' ⟨he,hb⟩=>?_
 refine ⟨_,he,OT.law_post (C:=Tryz.checked) laidOut rfl hl (by kernel_rfl) Tryz.underlying4 rfl hW' hA ?_ hb⟩
 have hlen:ds.length=1:=trod_len _ _ _ _ hA
 match ds,hlen with
 | [d1],_=>rfl
set_option maxHeartbeats 8000000 in
theorem closed:joinedFacts Tryz.prog 3 Tryz.f3 Rows.fnInsertsSpec Rows.fnInsertsRow=true:=by
 unfold joinedFacts
 simp only[Bool.and_eq_true]
 repeat' apply And.intro
 all_goals (as_aux_lemma=>kernel_rfl)
theorem over:Rows.fnInsertsRow.holds Tryz.pinned (OpenSpec.ofChange Rows.fnInsertsSpec):=
 OpenClaim.holds_of_wide 3 Tryz.f3 rfl rfl rfl rfl rfl rfl rfl ⟨rfl,rfl,rfl,rfl,rfl⟩ rfl rfl rfl rfl rfl (by kernel_rfl) Tryz.func3 closed
  (of_decide_eq_true (by kernel_rfl)) (by unfold Func.isWrapper;first | (rw[if_pos (by decide +kernel)];kernel_rfl) | (rw[if_neg (by decide +kernel)];exact ⟨rfl,rfl⟩))
  (fun os started H enc _=>lifted os started H enc)
theorem proved:Rows.FnInsertsSaid:=over
#print axioms proved
end Go.Proofs.YthpkgnffmmmhiaaGreat.inserts
