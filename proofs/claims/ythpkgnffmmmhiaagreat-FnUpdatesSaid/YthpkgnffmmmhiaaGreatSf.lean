/- The proof's parts, merged: The view of pages as the reference has it.. No conditions but those that each states. -/
import Derived.Test.YthpkgnffmmmhiaaGreatSe
set_option linter.unusedVariables false
set_option linter.unusedSimpArgs false
namespace OT
open Go
abbrev Pgs:Type:=List (List UInt8)
def goI {α β:Type} (g:Nat->α->List β):Nat->List α->List β
 | _,[]=>[]
 | i,x::xs=>g i x++goI g (i+1) xs
theorem forI_appI {O α β:Type} (g:Nat->α->List β) (fin:List β->O):∀ (xs:List α) (i:Nat) (s:List β),forI (fun i s x=>.inr (s++g i x)) fin i xs s=fin (s++goI g i xs)
 | [],_,s=>by simp[forI,goI]
 | x::xs,i,s=>by simp only[forI,goI];rw[forI_appI g fin xs (i+1)];simp[List.append_assoc]
theorem goI_len {α β:Type} {g:Nat->α->List β} {n:Nat}:∀ (xs:List α) (i:Nat),(∀ i x,x ∈ xs->(g i x).length<=n)->(goI g i xs).length<=n*xs.length
 | [],_,_=>by simp[goI]
 | x::xs,i,h=>by
  have h1:=h i x List.mem_cons_self
  have h2:=goI_len xs (i+1) fun i y hy=>h i y (List.mem_cons_of_mem _ hy)
  simp only[goI,List.length_append,List.length_cons,Nat.mul_add]
  omega
theorem goI_mem {α β:Type} {g:Nat->α->List β} {y:β}:∀ {xs:List α} {i:Nat},y ∈ goI g i xs↔∃ (j:Nat) (x:α),xs[j]?=some x/\y ∈ g (i+j) x
 | [],i=>by simp[goI]
 | x::xs,i=>by
  simp only[goI,List.mem_append,goI_mem (xs:=xs)]
  constructor
  ·rintro (h | ⟨j,z,h1,h2⟩)
   ·exact ⟨0,x,rfl,h⟩
   ·exact ⟨j+1,z,h1,by rw[show i+(j+1)=i+1+j by omega];exact h2⟩
  ·rintro ⟨j,z,h1,h2⟩
   cases j with
   | zero=>injection h1 with h1;subst h1;exact .inl h2
   | succ j=>exact .inr ⟨j,z,h1,by rw[show i+1+j=i+(j+1) by omega];exact h2⟩
def sFlag (x:L6Spot):Int:=x.2.2.1.2.1
def sTp (x:L6Spot):Int:=x.2.2.1.2.2.1
def sTs (x:L6Spot):Int:=x.2.2.1.2.2.2.1
def sRow (x:L6Spot):Row:=x.2.2.1.2.2.2.2.1
def spot1 (P:Nat) (p:List UInt8) (s:Nat):List L6Spot:=if psz p s=0 then [] else [((P:Int),(s:Int),(cellF (cellP p s)).1,())]
def spotsPg (P:Nat) (p:List UInt8):List L6Spot:=(List.range (pn p)).flatMap (spot1 P p)
def spotsF (ps:Pgs):List L6Spot:=goI spotsPg 0 ps
def cellG (ps:Pgs) (a b:Int):CellResult×Bool:=match ps[a.toNat]? with
 | some p=>if b.toNat < pn p/\psz p b.toNat≠0 then cellF (cellP p b.toNat) else (cell0,false)
 | none=>(cell0,false)
def okCell (p:List UInt8) (s:Nat):Bool:=decide (psz p s=0)||(cellF (cellP p s)).2
def pgC (p:List UInt8):Int:=if pageF p=0 then (if (List.range (pn p)).all (okCell p) then 0 else 5) else pageF p
def stubOk (ps:Pgs) (x:L6Spot):Bool:=!decide (sFlag x=1)||((cellG ps (sTp x) (sTs x)).2&&decide ((cellG ps (sTp x) (sTs x)).1.2.1=2))
def sTgt (x:L6Spot):Option (Int×Int):=if sFlag x=1 then some (sTp x,sTs x) else none
def withRow (x:L6Spot) (r:Row):L6Spot:=(x.1,x.2.1,(x.2.2.1.1,x.2.2.1.2.1,x.2.2.1.2.2.1,x.2.2.1.2.2.2.1,r,x.2.2.1.2.2.2.2.2),x.2.2.2)
def seen1 (ps:Pgs) (x:L6Spot):L6Spot:=if sFlag x=1 then withRow x (cellG ps (sTp x) (sTs x)).1.2.2.2.2.1 else x
def seenX (ps:Pgs) (x:L6Spot):List L6Spot:=if sFlag x=2 then [] else [seen1 ps x]
def seenF (ps:Pgs):List L6Spot:=(spotsF ps).flatMap (seenX ps)
def lookC (ps:Pgs):Int:=
 if (spotsF ps).all (stubOk ps) then
  if ((spotsF ps).filterMap sTgt).Nodup then (if ((seenF ps).map fun x=>rk (sRow x)).Nodup then 0 else 8) else 6
 else 4
def viewC (ps:Pgs):Int:=if 12 < ps.length then 2 else if firstF pgC ps=0 then lookC ps else firstF pgC ps
def rightP (ps:Pgs):Prop:=ps.length<=12/\∀ p ∈ ps,PageOk p
theorem pgC_ok {p:List UInt8} (h:pgC p=0):PageOk p/\∀ s,s < pn p->psz p s≠0->(cellF (cellP p s)).2=true:=by
 unfold pgC at h
 split at h
 ·rename_i h1
  split at h
  ·rename_i h2
   refine ⟨pageF_iff.1 h1,fun s hs hz=>?_⟩
   have:=List.all_eq_true.1 h2 s (List.mem_range.2 hs)
   simpa [okCell,hz] using this
  ·cases h
 ·rename_i h1;exact absurd h h1
theorem firstF_all {α:Type} {c:α->Int}:∀ {xs:List α},firstF c xs=0->∀ x ∈ xs,c x=0
 | [],_,_,hx=>by cases hx
 | y::xs,h,x,hx=>by
  simp only[firstF] at h
  split at h
  ·rename_i hy
   rcases List.mem_cons.1 hx with rfl | hx
   ·exact hy
   ·exact firstF_all h x hx
  ·rename_i hy;exact absurd h hy
theorem view_right {ps:Pgs} (h:viewC ps=0):rightP ps/\firstF pgC ps=0/\lookC ps=0:=by
 unfold viewC at h
 split at h
 ·cases h
 ·rename_i h1
  split at h
  ·rename_i h2
   exact ⟨⟨by omega,fun p hp=>(pgC_ok (firstF_all h2 p hp)).1⟩,h2,h⟩
  ·rename_i h2;exact absurd h h2
theorem spotsPg_len {p:List UInt8} (h:PageOk p) (P:Nat):(spotsPg P p).length<=16:=by
 have:∀ n,((List.range n).flatMap (spot1 P p)).length<=n:=by
  intro n
  induction n with
  | zero=>simp
  | succ n ih=>
   rw[List.range_succ,List.flatMap_append,List.length_append]
   have:(([n]:List Nat).flatMap (spot1 P p)).length<=1:=by
    simp only[List.flatMap_cons,List.flatMap_nil,List.append_nil,spot1]
    split <;> simp
   omega
 have h1:=this (pn p)
 have h2:=h.n
 unfold spotsPg;omega
theorem spots_len {ps:Pgs} (h:rightP ps):(spotsF ps).length<=192:=by
 have:=goI_len (g:=spotsPg) (n:=16) ps 0 fun i p hp=>spotsPg_len (h.2 p hp) i
 unfold spotsF;have:=h.1;omega
theorem seen_len {ps:Pgs} (h:rightP ps):(seenF ps).length<=192:=by
 have:∀ xs:List L6Spot,(xs.flatMap (seenX ps)).length<=xs.length:=by
  intro xs
  induction xs with
  | nil=>simp
  | cons x xs ih=>
   have:(seenX ps x).length<=1:=by unfold seenX;split <;> simp
   simp only[List.flatMap_cons,List.length_append,List.length_cons];omega
 have h1:=this (spotsF ps)
 have h2:=spots_len h
 unfold seenF;omega
theorem cellF_nonneg (d:List UInt8):0<=(cellF d).1.2.2.1/\0<=(cellF d).1.2.2.2.1:=by
 unfold cellF
 split
 ·exact ⟨Int.natCast_nonneg _,Int.natCast_nonneg _⟩
 ·split
  ·exact ⟨Int.le_refl _,Int.le_refl _⟩
  ·exact ⟨Int.le_refl _,Int.le_refl _⟩
theorem spot_mem {ps:Pgs} {x:L6Spot}:x ∈ spotsF ps↔∃ (P:Nat) (p:List UInt8) (s:Nat),ps[P]?=some p/\s < pn p/\psz p s≠0/\x=((P:Int),(s:Int),(cellF (cellP p s)).1,()):=by
 unfold spotsF
 rw[goI_mem]
 constructor
 ·rintro ⟨j,p,h1,h2⟩
  obtain ⟨s,h3,h4⟩:=List.mem_flatMap.1 h2
  unfold spot1 at h4
  split at h4
  ·cases h4
  ·rename_i hz
   rw[List.mem_singleton] at h4
   rw[Nat.zero_add] at h4
   exact ⟨j,p,s,h1,List.mem_range.1 h3,hz,h4⟩
 ·rintro ⟨P,p,s,h1,h2,h3,rfl⟩
  refine ⟨P,p,h1,List.mem_flatMap.2 ⟨s,List.mem_range.2 h2,?_⟩⟩
  unfold spot1
  rw[if_neg h3,Nat.zero_add]
  exact List.mem_singleton.2 rfl
theorem spot_nonneg {ps:Pgs} {x:L6Spot} (h:x ∈ spotsF ps):0<=sTp x/\0<=sTs x:=by
 obtain ⟨P,p,s,_,_,_,rfl⟩:=spot_mem.1 h
 exact cellF_nonneg _
theorem specSpots_eq (ps:Pgs) (h:rightP ps):spec_l6Spots.sem (ps,())=some (spotsF ps,()):=by
 obtain ⟨hl,hp⟩:=h
 refine lift_eq (k:=100) fun k hk=>(spec_l6Spots.raw_eq k _).trans ?_
 have inner:∀ (self:(Pgs×(List L6Spot)×Int)->Option spec_l6Spots.Out) (e0:(List L6Spot)->Option spec_l6Spots.Out) (i:Nat) (hi:i < ps.length) (s:List L6Spot),s.length<=1000->spec_l6Spots.r1 k self e0 (ps,()) ps (i:Int) (s,(0:Int))=self (ps,s++spotsPg i ps[i],w64 ((i:Int)+1)):=fun self e0 i hi s0 hs0=>by
  have hok:=hp _ (List.getElem_mem hi)
  have hn:=hok.n
  have hlen:=hok.len
  have:=range_loop (B:=fun self' v=>spec_l6Spots.B1 k self' (fun z=>spec_l6Spots.Q0 k self e0 (ps,()) ps (i:Int) z) (ps,()) ps (i:Int) v) (pn ps[i]) (fun (s:List L6Spot) (j:Int)=>(s,j)) (fun j s=>.inr (s++spot1 i ps[i] j)) (fun s=>self (ps,s,w64 ((i:Int)+1))) (fun j s=>s.length<=1000+j) (by omega)
   (fun j hj s self' hI=>by
    show spec_l6Spots.b1 _ _ _ _ _ _=_
    unfold spec_l6Spots.b1 spot1
    have hlt:(j:Int) < (pn ps[i]:Int):=by omega
    simp only[Int.natCast_nonneg,if_true,Int.toNat_natCast,List.getElem?_eq_getElem hi,Option.bind_some,pCount_eq hlen,hlt,decide_true,cond_true,pSize_eq hlen (show j < 16 by omega)]
    by_cases hz:psz ps[i] j=0
    ·have:¬ ((0:Int) < (psz ps[i] j:Int)):=by omega
     rw[decide_eq_false this]
     simp only[cond_false,hz,if_true,List.append_nil]
    ·have:((0:Int) < (psz ps[i] j:Int)):=by omega
     rw[decide_eq_true this]
     simp only[cond_true,specCellAt_eq hok hj,specRead1_eq _ (Nat.le_trans (cellP_small hok hj) (by omega)),Option.bind_some,hz,if_false]
     rw[if_pos (cap_ok (by simp only[List.length_cons,List.length_nil];omega))])
   (fun j hj s s' hI hf=>by
    injection hf with hf
    subst hf
    have:(spot1 i ps[i] j).length<=1:=by unfold spot1;split <;> simp
    rw[List.length_append];omega) (fun s self' hI=>by
    show spec_l6Spots.b1 _ _ _ _ _ _=_
    unfold spec_l6Spots.b1
    simp only[Int.natCast_nonneg,if_true,Int.toNat_natCast,List.getElem?_eq_getElem hi,Option.bind_some,pCount_eq hlen,Int.lt_irrefl,decide_false,cond_false]
    rfl) s0 (by omega) k (by omega)
  rw[forI_app (spot1 i ps[i])] at this
  exact this
 have:=for_loopE (B:=fun self v=>spec_l6Spots.B0 k self (fun z=>spec_l6Spots.Q1 k (ps,()) z) (ps,()) v) ps (fun (s:List L6Spot) (i:Int)=>(ps,s,i)) (fun i s p=>.inr (s++spotsPg i p)) (fun s=>some (s,())) (fun i s=>s.length<=16*i) (by rw[maxLen_val];omega)
  (fun i hi s self hI=>by
   show spec_l6Spots.b0 _ _ _ _ _=_
   unfold spec_l6Spots.b0
   have hlt:(i:Int) < (ps.length:Int):=by omega
   simp only[hlt,decide_true,cond_true,inner self _ i hi s (by omega)])
  (fun i hi s s' hI hf=>by
   injection hf with hf
   subst hf
   have:=spotsPg_len (hp _ (List.getElem_mem hi)) i
   rw[List.length_append];omega) (fun s self _=>by
   show spec_l6Spots.b0 _ _ _ _ _=_
   unfold spec_l6Spots.b0
   simp only[Int.lt_irrefl,decide_false,cond_false]
   rfl) [] (by simp) k (by omega)
 rw[forI_appI] at this
 exact this
theorem specCells_eq (ps:Pgs) (hl:ps.length<=12) (hp:∀ p ∈ ps,p.length<=maxLen):spec_l6Cells.sem (ps,())=some (firstF pgC ps,()):=by
 refine lift_eq (k:=100) fun k hk=>(spec_l6Cells.raw_eq k _).trans ?_
 have inner:∀ (self:(Pgs×Int)->Option spec_l6Cells.Out) (e0:Unit->Option spec_l6Cells.Out) (i:Nat) (hi:i < ps.length),PageOk ps[i]->spec_l6Cells.r1 k self e0 (ps,()) ps (i:Int) (0:Int)=if (List.range (pn ps[i])).all (okCell ps[i]) then self (ps,w64 ((i:Int)+1)) else some ((5:Int),()):=fun self e0 i hi hok=>by
  have hn:=hok.n
  have hlen:=hok.len
  have:=range_loop (B:=fun self' v=>spec_l6Cells.B1 k self' (fun z=>spec_l6Cells.Q0 k self e0 (ps,()) ps (i:Int) z) (ps,()) ps (i:Int) v) (pn ps[i]) (fun (_:Unit) (j:Int)=>j) (fun j _=>if okCell ps[i] j then .inr () else .inl (some ((5:Int),()))) (fun s=>self (ps,w64 ((i:Int)+1))) (fun _ _=>True) (by omega)
   (fun j hj s self' hI=>by
    show spec_l6Cells.b1 _ _ _ _ _ _=_
    unfold spec_l6Cells.b1 okCell
    have hlt:(j:Int) < (pn ps[i]:Int):=by omega
    simp only[Int.natCast_nonneg,if_true,Int.toNat_natCast,List.getElem?_eq_getElem hi,Option.bind_some,pCount_eq hlen,hlt,decide_true,cond_true,pSize_eq hlen (show j < 16 by omega)]
    by_cases hz:psz ps[i] j=0
    ·have:¬ ((0:Int) < (psz ps[i] j:Int)):=by omega
     rw[decide_eq_false this]
     simp only[cond_false,hz,decide_true,Bool.true_or,if_true]
    ·have:((0:Int) < (psz ps[i] j:Int)):=by omega
     rw[decide_eq_true this]
     simp only[cond_true,specCellAt_eq hok hj,specRead1_eq _ (Nat.le_trans (cellP_small hok hj) (by omega)),Option.bind_some,hz,decide_false,Bool.false_or]
     cases (cellF (cellP ps[i] j)).2 <;> rfl)
   (fun _ _ _ _ _ _=>trivial) (fun s self' hI=>by
    show spec_l6Cells.b1 _ _ _ _ _ _=_
    unfold spec_l6Cells.b1
    simp only[Int.natCast_nonneg,if_true,Int.toNat_natCast,List.getElem?_eq_getElem hi,Option.bind_some,pCount_eq hlen,Int.lt_irrefl,decide_false,cond_false]
    rfl) () trivial k (by omega)
  rw[forI_checkN] at this
  exact this
 have:=for_loopE (B:=fun self v=>spec_l6Cells.B0 k self (fun z=>spec_l6Cells.Q1 k (ps,()) z) (ps,()) v) ps (fun (_:Unit) (i:Int)=>(ps,i)) (fun i _ p=>if pgC p=0 then .inr () else .inl (some (pgC p,()))) (fun _=>some ((0:Int),())) (fun _ _=>True) (by rw[maxLen_val];omega)
  (fun i hi s self hI=>by
   show spec_l6Cells.b0 _ _ _ _ _=_
   unfold spec_l6Cells.b0 pgC
   have hlt:(i:Int) < (ps.length:Int):=by omega
   simp only[hlt,decide_true,cond_true,Int.natCast_nonneg,if_true,Int.toNat_natCast,List.getElem?_eq_getElem hi,Option.bind_some,specPage_eq _ (hp _ (List.getElem_mem hi))]
   by_cases h0:pageF ps[i]=0
   ·rw[decide_eq_true h0]
    simp only[Bool.not_true,cond_false,inner self _ i hi (pageF_iff.1 h0),h0,if_true]
    by_cases hc:(List.range (pn ps[i])).all (okCell ps[i])=true
    ·simp only[hc,if_true]
    ·simp only[hc,Bool.false_eq_true,if_false]
     rfl
   ·rw[decide_eq_false h0]
    simp only[Bool.not_false,cond_true,h0,if_false])
  (fun _ _ _ _ _ _=>trivial) (fun s self _=>by
   show spec_l6Cells.b0 _ _ _ _ _=_
   unfold spec_l6Cells.b0
   simp only[Int.lt_irrefl,decide_false,cond_false]
   rfl) () trivial k (by omega)
 rw[forI_first pgC (fun c=>some (c,())) (fun _=>some ((0:Int),()))] at this
 refine Eq.trans this ?_
 split
 ·rename_i h;rw[h]
 ·rfl
theorem specCell6_eq (ps:Pgs) (h:rightP ps) (a b:Int) (ha:0<=a) (hb:0<=b):spec_l6Cell.sem (ps,a,b,())=some ((cellG ps a b).1,(cellG ps a b).2,()):=by
 obtain ⟨hl,hp⟩:=h
 obtain ⟨a,rfl⟩:=Int.eq_ofNat_of_zero_le ha
 obtain ⟨b,rfl⟩:=Int.eq_ofNat_of_zero_le hb
 refine lift_eq (k:=0) fun k hk=>(spec_l6Cell.raw_eq k _).trans ?_
 show spec_l6Cell.p _=_
 unfold spec_l6Cell.p cellG
 have hw:w64 ((ps.length:Int) - 1)=(ps.length:Int) - 1:=w64_in (by omega)
 have h0:decide ((0:Int)<=(a:Int))=true:=decide_eq_true (by omega)
 have h1:decide ((a:Int)<=(ps.length:Int) - 1)=decide (a < ps.length):=by rw[decide_eq_decide];omega
 simp only[specIn_eq,hw,h0,h1,Option.bind_some,Bool.true_and,Int.toNat_natCast]
 by_cases hal:a < ps.length
 rotate_left
 ·rw[decide_eq_false hal,List.getElem?_eq_none (by omega)]
  rfl
 rw[decide_eq_true hal]
 have hok:=hp _ (List.getElem_mem hal)
 simp only[Bool.not_true,cond_false,Int.natCast_nonneg,if_true,List.getElem?_eq_getElem hal,Option.bind_some,specHas_eq hok]
 by_cases hc:b < pn ps[a]/\psz ps[a] b≠0
 ·rw[decide_eq_true hc.1,decide_eq_false hc.2,if_pos hc]
  simp only[Bool.not_false,Bool.and_self,Bool.not_true,cond_false,specCellAt_eq hok hc.1,specRead1_eq _ (Nat.le_trans (cellP_small hok hc.1) (by omega)),Option.bind_some]
 ·rw[if_neg hc]
  have:(decide (b < pn ps[a])&&!decide (psz ps[a] b=0))=false:=by
   rw[Bool.and_eq_false_iff]
   by_cases h2:b < pn ps[a]
   ·right
    have:psz ps[a] b=0:=by
     by_cases h3:psz ps[a] b=0
     ·exact h3
     ·exact absurd ⟨h2,h3⟩ hc
    rw[decide_eq_true this];rfl
   ·left;exact decide_eq_false h2
  rw[this]
  rfl
theorem specStubs_eq (ps:Pgs) (h:rightP ps):spec_l6Stubs.sem (spotsF ps,ps,())=some (if (spotsF ps).all (stubOk ps) then (if ((spotsF ps).filterMap sTgt).Nodup then 0 else 6) else 4,()):=by
 have hsl:=spots_len h
 have hnn:∀ x ∈ spotsF ps,0<=sTp x/\0<=sTs x:=fun x hx=>spot_nonneg hx
 generalize spotsF ps=xs at hsl hnn ⊢
 refine lift_eq (k:=300) fun k hk=>(spec_l6Stubs.raw_eq k _).trans ?_
 have inner:∀ (self:(List L6Spot×Int)->Option spec_l6Stubs.Out) (e2:Unit->Option spec_l6Stubs.Out) (i:Nat) (hi:i < xs.length),spec_l6Stubs.r2 k self e2 (xs,ps,()) xs (i:Int) (0:Int)=if (xs.take i).any (fun y=>decide (sFlag xs[i]=1)&&(decide (sFlag y=1)&&(decide (sTp xs[i]=sTp y)&&decide (sTs xs[i]=sTs y)))) then some ((6:Int),()) else self (xs,w64 ((i:Int)+1)):=fun self e2 i hi=>by
  have hti:(xs.take i).length=i:=by rw[List.length_take];omega
  have:=for_loopE (B:=fun self' v=>spec_l6Stubs.B2 k self' (fun z=>spec_l6Stubs.Q1 k self e2 (xs,ps,()) xs (i:Int) z) (xs,ps,()) xs (i:Int) v) (xs.take i) (fun (_:Unit) (j:Int)=>j) (fun _ _ y=>if decide (sFlag xs[i]=1)&&(decide (sFlag y=1)&&(decide (sTp xs[i]=sTp y)&&decide (sTs xs[i]=sTs y))) then .inl (some ((6:Int),())) else .inr ()) (fun _=>self (xs,w64 ((i:Int)+1))) (fun _ _=>True) (by rw[maxLen_val];omega)
   (fun j hj s self' _=>by
    have hji:j < i:=by omega
    have hj2:j < xs.length:=by omega
    show spec_l6Stubs.b2 _ _ _ _ _ _=_
    unfold spec_l6Stubs.b2
    have hlt:(j:Int) < (i:Int):=by omega
    have hg:(xs.take i)[j]=xs[j]:=List.getElem_take
    rw[hg]
    simp only[hlt,decide_true,cond_true,Int.natCast_nonneg,if_true,Int.toNat_natCast,List.getElem?_eq_getElem hi,List.getElem?_eq_getElem hj2,Option.bind_some]
    show (bif decide (sFlag xs[i]=1) then bif decide (sFlag xs[j]=1) then bif decide (sTp xs[i]=sTp xs[j]) then bif decide (sTs xs[i]=sTs xs[j]) then _ else _ else _ else _ else _)=_
    cases decide (sFlag xs[i]=1) <;> cases decide (sFlag xs[j]=1) <;> cases decide (sTp xs[i]=sTp xs[j]) <;> cases decide (sTs xs[i]=sTs xs[j]) <;> rfl)
   (fun _ _ _ _ _ _=>trivial) (fun s self' _=>by
    rw[hti]
    show spec_l6Stubs.b2 _ _ _ _ _ _=_
    unfold spec_l6Stubs.b2
    simp only[Int.lt_irrefl,decide_false,cond_false]
    rfl) () trivial k (by omega)
  rw[forI_any] at this
  exact this
 have second:spec_l6Stubs.r1 k (xs,ps,()) (xs,(0:Int))=if (xs.filterMap sTgt).Nodup then some ((0:Int),()) else some ((6:Int),()):=by
  have:=for_loopE (B:=fun self v=>spec_l6Stubs.B1 k self (fun z=>spec_l6Stubs.Q2 k (xs,ps,()) z) (xs,ps,()) v) xs (fun (_:Unit) (i:Int)=>(xs,i)) (fun i _ x=>if (xs.take i).any (fun y=>decide (sFlag x=1)&&(decide (sFlag y=1)&&(decide (sTp x=sTp y)&&decide (sTs x=sTs y)))) then .inl (some ((6:Int),())) else .inr ()) (fun _=>some ((0:Int),())) (fun _ _=>True) (by rw[maxLen_val];omega)
   (fun i hi s self _=>by
    show spec_l6Stubs.b1 _ _ _ _ _=_
    unfold spec_l6Stubs.b1
    have hlt:(i:Int) < (xs.length:Int):=by omega
    simp only[hlt,decide_true,cond_true,inner self _ i hi]
    split <;> rfl)
   (fun _ _ _ _ _ _=>trivial) (fun s self _=>by
    show spec_l6Stubs.b1 _ _ _ _ _=_
    unfold spec_l6Stubs.b1
    simp only[Int.lt_irrefl,decide_false,cond_false]
    rfl) () trivial k (by omega)
  rw[forI_dup0 sTgt (some ((6:Int),())) (fun _=>some ((0:Int),())) (fun x y=>decide (sFlag x=1)&&(decide (sFlag y=1)&&(decide (sTp x=sTp y)&&decide (sTs x=sTs y)))) (fun x y=>?_) xs] at this
  ·exact this
  ·unfold sTgt
   simp only[Bool.and_eq_true,decide_eq_true_eq]
   constructor
   ·rintro ⟨h1,h2,h3,h4⟩
    exact ⟨(sTp x,sTs x),by rw[if_pos h1],by rw[if_pos h2,h3,h4]⟩
   ·rintro ⟨b,h1,h2⟩
    by_cases c1:sFlag x=1
    ·by_cases c2:sFlag y=1
     ·rw[if_pos c1] at h1
      rw[if_pos c2] at h2
      injection h1 with h1
      injection h2 with h2
      rw[<-h2] at h1
      injection h1 with h3 h4
      exact ⟨c1,c2,h3,h4⟩
     ·rw[if_neg c2] at h2;cases h2
    ·rw[if_neg c1] at h1;cases h1
 have:=for_loopE (B:=fun self v=>spec_l6Stubs.B0 k self (fun z=>spec_l6Stubs.Q0 k (xs,ps,()) z) (xs,ps,()) v) xs (fun (_:Unit) (i:Int)=>i) (fun i _ x=>if stubOk ps x then .inr () else .inl (some ((4:Int),()))) (fun _=>spec_l6Stubs.r1 k (xs,ps,()) (xs,(0:Int))) (fun _ _=>True) (by rw[maxLen_val];omega)
  (fun i hi s self _=>by
   show spec_l6Stubs.b0 _ _ _ _=_
   unfold spec_l6Stubs.b0 stubOk
   have hlt:(i:Int) < (xs.length:Int):=by omega
   obtain ⟨g1,g2⟩:=hnn _ (List.getElem_mem hi)
   have hcc:spec_l6Cell.sem (ps,(xs[i]).2.2.1.2.2.1,(xs[i]).2.2.1.2.2.2.1,())=some ((cellG ps (sTp xs[i]) (sTs xs[i])).1,(cellG ps (sTp xs[i]) (sTs xs[i])).2,()):=specCell6_eq ps h _ _ g1 g2
   simp only[hlt,decide_true,cond_true,Int.natCast_nonneg,if_true,Int.toNat_natCast,List.getElem?_eq_getElem hi,Option.bind_some,hcc]
   show (bif !decide (sFlag xs[i]=1) then _ else _)=_
   cases decide (sFlag xs[i]=1) <;> cases (cellG ps (sTp xs[i]) (sTs xs[i])).2 <;> cases decide ((cellG ps (sTp xs[i]) (sTs xs[i])).1.2.1=2) <;> rfl)
  (fun _ _ _ _ _ _=>trivial) (fun s self _=>by
   show spec_l6Stubs.b0 _ _ _ _=_
   unfold spec_l6Stubs.b0
   simp only[Int.lt_irrefl,decide_false,cond_false]
   rfl) () trivial k (by omega)
 rw[forI_check (stubOk ps) (some ((4:Int),())) (fun _=>spec_l6Stubs.r1 k (xs,ps,()) (xs,(0:Int)))] at this
 refine Eq.trans this ?_
 rw[second]
 split
 ·split <;> rfl
 ·rfl
theorem specSeen_eq (ps:Pgs) (h:rightP ps):spec_l6Seen.sem (ps,())=some (seenF ps,()):=by
 refine lift_eq (k:=300) fun k hk=>(spec_l6Seen.raw_eq k _).trans ?_
 unfold spec_l6Seen.p
 rw[specSpots_eq ps h]
 simp only[Option.bind_some]
 have hsl:=spots_len h
 have hnn:∀ x ∈ spotsF ps,0<=sTp x/\0<=sTs x:=fun x hx=>spot_nonneg hx
 unfold seenF
 generalize spotsF ps=xs at hsl hnn ⊢
 have:=for_loopE (B:=fun self v=>spec_l6Seen.B0 k self (fun z=>spec_l6Seen.Q0 k (ps,()) xs z) (ps,()) xs v) xs (fun (s:List L6Spot) (i:Int)=>(s,i)) (fun i s x=>.inr (s++seenX ps x)) (fun s=>some (s,())) (fun i s=>s.length<=i) (by rw[maxLen_val];omega)
  (fun i hi s self hI=>by
   show spec_l6Seen.b0 _ _ _ _ _=_
   unfold spec_l6Seen.b0 seenX
   have hlt:(i:Int) < (xs.length:Int):=by omega
   obtain ⟨g1,g2⟩:=hnn _ (List.getElem_mem hi)
   have hcc:spec_l6Cell.sem (ps,(xs[i]).2.2.1.2.2.1,(xs[i]).2.2.1.2.2.2.1,())=some ((cellG ps (sTp xs[i]) (sTs xs[i])).1,(cellG ps (sTp xs[i]) (sTs xs[i])).2,()):=specCell6_eq ps h _ _ g1 g2
   have hcap:∀ y:L6Spot,s.length+[y].length<=CAP:=fun y=>cap_ok (by simp only[List.length_cons,List.length_nil];omega)
   simp only[hlt,decide_true,cond_true,Int.natCast_nonneg,and_self,if_true,Int.toNat_natCast,List.getElem?_eq_getElem hi,Option.bind_some,hcc,hcap]
   show (bif decide (sFlag xs[i]=2) then _ else bif decide (sFlag xs[i]=1) then _ else _)=_
   unfold seen1
   by_cases c2:sFlag xs[i]=2
   ·simp only[c2,decide_true,cond_true,if_true,List.append_nil]
   ·by_cases c1:sFlag xs[i]=1
    ·simp only[c1,c2,decide_true,decide_false,cond_true,cond_false,if_true,if_false]
     rfl
    ·simp only[c1,c2,decide_false,cond_false,if_false])
  (fun i hi s s' hI hf=>by
   injection hf with hf
   subst hf
   have:(seenX ps xs[i]).length<=1:=by unfold seenX;split <;> simp
   rw[List.length_append];omega) (fun s self _=>by
   show spec_l6Seen.b0 _ _ _ _ _=_
   unfold spec_l6Seen.b0
   simp only[Int.lt_irrefl,decide_false,cond_false]
   rfl) [] (by simp) k (by omega)
 rw[forI_app (seenX ps)] at this
 exact this
def sKey (x:L6Spot):Option (Int×Int):=some (rk (sRow x))
theorem specView_eq (ps:Pgs) (hp:∀ p ∈ ps,p.length<=maxLen):spec_l6Fault.sem (ps,())=some (viewC ps,()):=by
 refine lift_eq (k:=300) fun k hk=>(spec_l6Fault.raw_eq k _).trans ?_
 unfold spec_l6Fault.p viewC
 by_cases hl:12 < ps.length
 ·have:(12:Int) < (ps.length:Int):=by omega
  simp only[this,decide_true,cond_true,hl,if_true]
 have hl':¬ ((12:Int) < (ps.length:Int)):=by omega
 simp only[hl',decide_false,cond_false,hl,if_false,specCells_eq ps (by omega) hp,Option.bind_some]
 by_cases hc:firstF pgC ps=0
 rotate_left
 ·simp only[hc,decide_false,Bool.not_false,cond_true,if_false]
 have h:rightP ps:=⟨by omega,fun p hp=>(pgC_ok (firstF_all hc p hp)).1⟩
 simp only[hc,decide_true,Bool.not_true,cond_false,if_true,specSpots_eq ps h,specStubs_eq ps h,specSeen_eq ps h,Option.bind_some]
 unfold lookC
 by_cases h1:(spotsF ps).all (stubOk ps)=true
 rotate_left
 ·simp only[h1,Bool.false_eq_true,if_false]
  rfl
 by_cases h2:((spotsF ps).filterMap sTgt).Nodup
 rotate_left
 ·simp only[h1,h2,if_true,if_false]
  rfl
 simp only[h1,h2,if_true,decide_true,Bool.not_true,cond_false]
 have hsl:=seen_len h
 generalize seenF ps=xs at hsl ⊢
 have inner:∀ (self:(List L6Spot×Int)->Option spec_l6Fault.Out) (e0:Unit->Option spec_l6Fault.Out) (i:Nat) (hi:i < xs.length),spec_l6Fault.r1 k self e0 (ps,()) xs (i:Int) (0:Int)=if (xs.take i).any (fun y=>decide ((sRow xs[i]).1=(sRow y).1)&&decide ((sRow xs[i]).2.1=(sRow y).2.1)) then some ((8:Int),()) else self (xs,w64 ((i:Int)+1)):=fun self e0 i hi=>by
  have hti:(xs.take i).length=i:=by rw[List.length_take];omega
  have:=for_loopE (B:=fun self' v=>spec_l6Fault.B1 k self' (fun z=>spec_l6Fault.Q0 k self e0 (ps,()) xs (i:Int) z) (ps,()) xs (i:Int) v) (xs.take i) (fun (_:Unit) (j:Int)=>j) (fun _ _ y=>if decide ((sRow xs[i]).1=(sRow y).1)&&decide ((sRow xs[i]).2.1=(sRow y).2.1) then .inl (some ((8:Int),())) else .inr ()) (fun _=>self (xs,w64 ((i:Int)+1))) (fun _ _=>True) (by rw[maxLen_val];omega)
   (fun j hj s self' _=>by
    have hji:j < i:=by omega
    have hj2:j < xs.length:=by omega
    show spec_l6Fault.b1 _ _ _ _ _ _=_
    unfold spec_l6Fault.b1
    have hlt:(j:Int) < (i:Int):=by omega
    have hlt1:(i:Int) < (xs.length:Int):=by omega
    have hlt2:(j:Int) < (xs.length:Int):=by omega
    have hg:(xs.take i)[j]=xs[j]:=List.getElem_take
    rw[hg]
    simp only[hlt,hlt1,hlt2,decide_true,cond_true,Int.natCast_nonneg,and_self,if_true,Int.toNat_natCast,List.getElem?_eq_getElem hi,List.getElem?_eq_getElem hj2,Option.bind_some]
    show (bif decide ((sRow xs[i]).1=(sRow xs[j]).1) then bif decide ((sRow xs[i]).2.1=(sRow xs[j]).2.1) then _ else _ else _)=_
    cases decide ((sRow xs[i]).1=(sRow xs[j]).1) <;> cases decide ((sRow xs[i]).2.1=(sRow xs[j]).2.1) <;> rfl)
   (fun _ _ _ _ _ _=>trivial) (fun s self' _=>by
    rw[hti]
    show spec_l6Fault.b1 _ _ _ _ _ _=_
    unfold spec_l6Fault.b1
    simp only[Int.lt_irrefl,decide_false,cond_false]
    rfl) () trivial k (by omega)
  rw[forI_any] at this
  exact this
 have:=for_loopE (B:=fun self v=>spec_l6Fault.B0 k self (fun z=>spec_l6Fault.Q1 k (ps,()) z) (ps,()) v) xs (fun (_:Unit) (i:Int)=>(xs,i)) (fun i _ x=>if (xs.take i).any (fun y=>decide ((sRow x).1=(sRow y).1)&&decide ((sRow x).2.1=(sRow y).2.1)) then .inl (some ((8:Int),())) else .inr ()) (fun _=>some ((0:Int),())) (fun _ _=>True) (by rw[maxLen_val];omega)
  (fun i hi s self _=>by
   show spec_l6Fault.b0 _ _ _ _ _=_
   unfold spec_l6Fault.b0
   have hlt:(i:Int) < (xs.length:Int):=by omega
   simp only[hlt,decide_true,cond_true,inner self _ i hi]
   split <;> rfl)
  (fun _ _ _ _ _ _=>trivial) (fun s self _=>by
   show spec_l6Fault.b0 _ _ _ _ _=_
   unfold spec_l6Fault.b0
   simp only[Int.lt_irrefl,decide_false,cond_false]
   rfl) () trivial k (by omega)
 rw[forI_dup0 sKey (some ((8:Int),())) (fun _=>some ((0:Int),())) (fun x y=>decide ((sRow x).1=(sRow y).1)&&decide ((sRow x).2.1=(sRow y).2.1)) (fun x y=>?_) xs] at this
 ·refine Eq.trans this ?_
  have:xs.filterMap sKey=xs.map fun x=>rk (sRow x):=by
   unfold sKey
   rw[<-List.filterMap_eq_map]
   rfl
  rw[this]
  split <;> rfl
 ·unfold sKey rk
  simp only[Bool.and_eq_true,decide_eq_true_eq]
  constructor
  ·rintro ⟨h1,h2⟩;exact ⟨_,rfl,by rw[h1,h2]⟩
  ·rintro ⟨b,h1,h2⟩
   injection h1 with h1
   injection h2 with h2
   rw[<-h2] at h1
   injection h1 with h3 h4
   exact ⟨h3,h4⟩
end OT
set_option linter.unusedVariables false
set_option linter.unusedSimpArgs false
namespace OT
open Go Go.Sort
abbrev tK2:Ty:=.arr 2 i64
theorem key2_eq (a b c d:Int):Ty.eq tK2 [a,b] [c,d]=(decide (a=c)&&decide (b=d)):=by
 show ([(a,c),(b,d)]:List (Int×Int)).all (fun p=>Ty.eq i64 p.1 p.2)=_
 simp only[List.all_cons,List.all_nil,Bool.and_true]
 rfl
theorem key2_lay (a b:Int):((List.replicate 2 (0:Int)).set 0 a).set 1 b=[a,b]:=rfl
theorem mapPut_fresh {α:Type} (k:Ty) (m:List (k.den×α)) (x:k.den) (y:α) (h:∀ e ∈ m,k.eq x e.1=false):mapPut k m x y=m++[(x,y)]:=by
 have:m.findIdx? (fun e=>k.eq x e.1)=none:=by
  rw[List.findIdx?_eq_none_iff]
  exact h
 unfold mapPut
 rw[this]
def rowsOf1 (x:L6Spot):List Seen:=if sFlag x=0 then [(sRow x,x.1,x.2.1,false,x.1,x.2.1,())] else []
def stubOf1 (x:L6Spot):List Seen:=if sFlag x=1 then [(row0,x.1,x.2.1,true,sTp x,sTs x,())] else []
def movOf1 (x:L6Spot):List (List Int×Row):=if sFlag x=2 then [([x.1,x.2.1],sRow x)] else []
theorem cellF_flag (d:List UInt8):(cellF d).2=true->(cellF d).1.1=0/\((cellF d).1.2.1=0\/(cellF d).1.2.1=1\/(cellF d).1.2.1=2):=by
 unfold cellF
 split
 ·intro _;exact ⟨rfl,.inr (.inl rfl)⟩
 ·split
  ·intro h;cases h
  ·rename_i h
   intro _
   refine ⟨rfl,?_⟩
   show ((pb d 0:Int)=0\/(pb d 0:Int)=1\/(pb d 0:Int)=2)
   omega
def cellsOk (ps:Pgs):Prop:=rightP ps/\∀ p ∈ ps,∀ s,s < pn p->psz p s≠0->(cellF (cellP p s)).2=true
theorem cells_of {ps:Pgs} (hl:ps.length<=12) (h:firstF pgC ps=0):cellsOk ps:=
 ⟨⟨hl,fun p hp=>(pgC_ok (firstF_all h p hp)).1⟩,fun p hp=>(pgC_ok (firstF_all h p hp)).2⟩
theorem spot_flag {ps:Pgs} (h:cellsOk ps) {x:L6Spot} (hx:x ∈ spotsF ps):sFlag x=0\/sFlag x=1\/sFlag x=2:=by
 obtain ⟨P,p,s,h1,h2,h3,rfl⟩:=spot_mem.1 hx
 exact (cellF_flag _ (h.2 p (List.mem_of_getElem? h1) s h2 h3)).2
theorem gather_len (S:List L6Spot):(S.flatMap rowsOf1).length<=S.length/\(S.flatMap stubOf1).length<=S.length:=by
 induction S with
 | nil=>exact ⟨Nat.le_refl _,Nat.le_refl _⟩
 | cons x S ih=>
  have h1:(rowsOf1 x).length<=1:=by unfold rowsOf1;split <;> simp
  have h2:(stubOf1 x).length<=1:=by unfold stubOf1;split <;> simp
  simp only[List.flatMap_cons,List.length_append,List.length_cons]
  omega
theorem mov_get {ps:Pgs} (h:cellsOk ps) (a b:Int) (ha:0<=a) (hb:0<=b):mapGet tK2 ((spotsF ps).flatMap movOf1) [a,b]=if (cellG ps a b).2&&decide ((cellG ps a b).1.2.1=2) then some (cellG ps a b).1.2.2.2.2.1 else none:=by
 obtain ⟨a,rfl⟩:=Int.eq_ofNat_of_zero_le ha
 obtain ⟨b,rfl⟩:=Int.eq_ofNat_of_zero_le hb
 unfold mapGet
 have at_:∀ x ∈ spotsF ps,x.1=(a:Int)->x.2.1=(b:Int)->cellG ps (a:Int) (b:Int)=(x.2.2.1,true):=fun x hx e1 e2=>by
  obtain ⟨P,p,s,h1,h2,h3,rfl⟩:=spot_mem.1 hx
  have e1:(P:Int)=(a:Int):=e1
  have e2:(s:Int)=(b:Int):=e2
  have e1:P=a:=by omega
  have e2:s=b:=by omega
  subst e1;subst e2
  unfold cellG
  simp only[Int.toNat_natCast,h1]
  rw[if_pos ⟨h2,h3⟩]
  have:=h.2 p (List.mem_of_getElem? h1) s h2 h3
  rw[<-this]
 cases hf:((spotsF ps).flatMap movOf1).find? (fun e=>Ty.eq tK2 [(a:Int),(b:Int)] e.1) with
 | some e=>
  have hm:=List.mem_of_find?_eq_some hf
  have hp:=List.find?_some hf
  obtain ⟨x,hx,hxe⟩:=List.mem_flatMap.1 hm
  unfold movOf1 at hxe
  split at hxe
  ·rename_i h2
   rw[List.mem_singleton] at hxe
   subst hxe
   rw[key2_eq,Bool.and_eq_true,decide_eq_true_eq,decide_eq_true_eq] at hp
   have hg:=at_ x hx hp.1.symm hp.2.symm
   rw[hg]
   have:(x.2.2.1).2.1=2:=h2
   simp only[this,decide_true,Bool.and_self,if_true,Option.map_some]
   rfl
  ·cases hxe
 | none=>
  rw[if_neg]
  ·rfl
  ·intro hc
   rw[Bool.and_eq_true,decide_eq_true_eq] at hc
   obtain ⟨c1,c2⟩:=hc
   have:∃ x ∈ spotsF ps,x.1=(a:Int)/\x.2.1=(b:Int)/\sFlag x=2:=by
    unfold cellG at c1 c2
    simp only[Int.toNat_natCast] at c1 c2
    cases hpa:ps[a]? with
    | none=>rw[hpa] at c1;cases c1
    | some p=>
     rw[hpa] at c1 c2
     simp only at c1 c2
     by_cases hc:b < pn p/\psz p b≠0
     ·rw[if_pos hc] at c2
      exact ⟨_,spot_mem.2 ⟨a,p,b,hpa,hc.1,hc.2,rfl⟩,rfl,rfl,c2⟩
     ·rw[if_neg hc] at c1;cases c1
   obtain ⟨x,hx,e1,e2,e3⟩:=this
   have hm:([x.1,x.2.1],sRow x) ∈ (spotsF ps).flatMap movOf1:=List.mem_flatMap.2 ⟨x,hx,by unfold movOf1;rw[if_pos e3];exact List.mem_singleton.2 rfl⟩
   have:=List.find?_eq_none.1 hf _ hm
   rw[key2_eq,e1,e2] at this
   simp at this
def convS (x:L6Spot):Seen:=(sRow x,x.1,x.2.1,decide (sFlag x=1),(if sFlag x=1 then sTp x else x.1),(if sFlag x=1 then sTs x else x.2.1),())
def fillS (ps:Pgs) (y:Seen):Seen:=(orZ (mapGet tK2 ((spotsF ps).flatMap movOf1) [y.2.2.2.2.1,y.2.2.2.2.2.1]) row0,y.2)
def listV (ps:Pgs):List Seen:=(spotsF ps).flatMap rowsOf1++((spotsF ps).flatMap stubOf1).map (fillS ps)
theorem listV_perm {ps:Pgs} (h:cellsOk ps) (hs:(spotsF ps).all (stubOk ps)=true):(listV ps).Perm ((seenF ps).map convS):=by
 unfold listV seenF
 have hall:=List.all_eq_true.1 hs
 have hfl:∀ x ∈ spotsF ps,sFlag x=0\/sFlag x=1\/sFlag x=2:=fun x hx=>spot_flag h hx
 have hnn:∀ x ∈ spotsF ps,0<=sTp x/\0<=sTs x:=fun x hx=>spot_nonneg hx
 have key:∀ S:List L6Spot,(∀ x ∈ S,x ∈ spotsF ps)->(S.flatMap rowsOf1++(S.flatMap stubOf1).map (fillS ps)).Perm ((S.flatMap (seenX ps)).map convS):=by
  intro S
  induction S with
  | nil=>intro _;exact List.Perm.refl _
  | cons x S ih=>
   intro hS
   have ih:=ih fun y hy=>hS y (List.mem_cons_of_mem _ hy)
   have hx:=hS x List.mem_cons_self
   simp only[List.flatMap_cons,List.map_append]
   rcases hfl x hx with h0 | h1 | h2
   ·have e1:rowsOf1 x=[convS (seen1 ps x)]:=by
     unfold rowsOf1 convS seen1
     have n1:¬ sFlag x=1:=by omega
     rw[if_pos h0,if_neg n1,if_neg n1,if_neg n1,decide_eq_false n1]
    have e2:stubOf1 x=[]:=by unfold stubOf1;rw[if_neg (by omega)]
    have e3:seenX ps x=[seen1 ps x]:=by unfold seenX;rw[if_neg (by omega)]
    rw[e1,e2,e3]
    simp only[List.map_nil,List.nil_append,List.map_cons,List.cons_append]
    exact List.Perm.cons _ ih
   ·have e1:rowsOf1 x=[]:=by unfold rowsOf1;rw[if_neg (by omega)]
    have e3:seenX ps x=[seen1 ps x]:=by unfold seenX;rw[if_neg (by omega)]
    have e2:(stubOf1 x).map (fillS ps)=[convS (seen1 ps x)]:=by
     unfold stubOf1
     rw[if_pos h1]
     simp only[List.map_cons,List.map_nil]
     obtain ⟨g1,g2⟩:=hnn x hx
     have hst:=hall x hx
     unfold stubOk at hst
     rw[decide_eq_true h1] at hst
     simp only[Bool.not_true,Bool.false_or] at hst
     have hg:=mov_get h (sTp x) (sTs x) g1 g2
     rw[if_pos hst] at hg
     unfold fillS
     simp only[hg,orZ]
     unfold seen1
     rw[if_pos h1]
     have hfl1:sFlag (withRow x (cellG ps (sTp x) (sTs x)).1.2.2.2.2.1)=1:=h1
     unfold convS
     rw[if_pos hfl1,if_pos hfl1,decide_eq_true hfl1]
     rfl
    rw[e1,e2,e3]
    simp only[List.nil_append,List.map_cons,List.map_nil,List.cons_append]
    exact (List.perm_middle).trans (List.Perm.cons _ ih)
   ·have e1:rowsOf1 x=[]:=by unfold rowsOf1;rw[if_neg (by omega)]
    have e2:stubOf1 x=[]:=by unfold stubOf1;rw[if_neg (by omega)]
    have e3:seenX ps x=[]:=by unfold seenX;rw[if_pos h2]
    rw[e1,e2,e3]
    simpa using ih
 exact key (spotsF ps) fun x hx=>hx
def ltS (x y:Seen):Bool:=befB (rk x.1) (rk y.1)
def cfS (x y:Seen):Int:=if befB (x.1.1,x.1.2.1) (y.1.1,y.1.2.1) then -1 else if befB (y.1.1,y.1.2.1) (x.1.1,x.1.2.1) then 1 else 0
theorem cfS_lt:Go.Proofs.ltOf cfS=ltS:=by
 funext x y
 exact ord_lt x.1 y.1
theorem look1_eq (x y:Seen):impl_look_1.sem (x,y,())=some (cfS x y,()):=by
 refine lift_eq (k:=0) fun k hk=>(impl_look_1.raw_eq k _).trans ?_
 show impl_look_1.p _=_
 unfold impl_look_1.p
 rw[order_eq]
 rfl
theorem swoS:SWO ltS where
 irrefl x:=befB_irr _
 trans x y z h1 h2:=befB_trans h1 h2
 ntrans x y z h1 h2:=by
  cases h3:ltS x z with
  | false=>rfl
  | true=>
   unfold ltS at h1 h2 h3
   cases h4:befB (rk y.1) (rk x.1) with
   | true=>
    have:=befB_trans h4 h3
    rw[this] at h2;cases h2
   | false=>
    have:=befB_tri h1 h4
    rw[this] at h3
    rw[h3] at h2;cases h2
def putS (xs:List Seen) (x:Seen):List Seen:=xs.take (pos (xs.map (·.1)) (rk x.1))++[x]++xs.drop (pos (xs.map (·.1)) (rk x.1))
def sortS (l:List Seen):List Seen:=l.foldl putS []
theorem putS_map (xs:List Seen) (x:Seen):(putS xs x).map (·.1)=put1 (xs.map (·.1)) x.1:=by
 unfold putS put1
 simp only[List.map_append,List.map_take,List.map_drop,List.map_cons,List.map_nil]
theorem putS_perm (xs:List Seen) (x:Seen):(putS xs x).Perm (x::xs):=by
 unfold putS
 rw[List.append_assoc]
 have:=List.perm_middle (a:=x) (l₁:=xs.take (pos (xs.map (·.1)) (rk x.1))) (l₂:=xs.drop (pos (xs.map (·.1)) (rk x.1)))
 rw[List.take_append_drop] at this
 exact this
theorem sortS_map (l:List Seen):(sortS l).map (·.1)=sortR (l.map (·.1)):=by
 have main:∀ (l acc:List Seen),(l.foldl putS acc).map (·.1)=(l.map (·.1)).foldl put1 (acc.map (·.1)):=by
  intro l
  induction l with
  | nil=>intro acc;rfl
  | cons x l ih=>intro acc;simp only[List.foldl_cons,List.map_cons,ih,putS_map]
 exact main l []
theorem sortS_perm (l:List Seen):(sortS l).Perm l:=by
 have main:∀ (l acc:List Seen),(l.foldl putS acc).Perm (l++acc):=by
  intro l
  induction l with
  | nil=>intro acc;exact List.Perm.refl _
  | cons x l ih=>
   intro acc
   exact (ih (putS acc x)).trans (((List.Perm.refl l).append (putS_perm acc x)).trans List.perm_middle)
 have:=main l []
 rw[List.append_nil] at this
 exact this
def upS (xs:List Seen):Prop:=xs.Pairwise fun x y=>ltS x y=true
theorem upS_iff {xs:List Seen}:upS xs↔up (xs.map (·.1)):=by
 unfold upS up
 rw[List.pairwise_map]
 rfl
theorem sortS_unique {l r:List Seen} (hp:r.Perm l) (hr:upS r) (hn:(l.map fun x=>rk x.1).Nodup):r=sortS l:=by
 refine sorted_unique (lt:=fun x y=>ltS x y=true) (fun a b h=>befB_not h) r (sortS l) (hp.trans (sortS_perm l).symm) hr (upS_iff.2 ?_)
 rw[sortS_map]
 refine sortR_up ?_
 rw[List.map_map]
 exact hn
theorem upS_nodup {r:List Seen} (h:upS r):(r.map fun x=>rk x.1).Nodup:=by
 have:=up_nodup (upS_iff.1 h)
 rw[List.map_map] at this
 exact this
def adjB:List Seen->Bool
 | x::y::l=>ltS x y&&adjB (y::l)
 | _=>true
theorem adj_up:∀ (l:List Seen),adjB l=true->upS l
 | [],_=>List.Pairwise.nil
 | [x],_=>List.pairwise_singleton _ _
 | x::y::l,h=>by
  simp only[adjB,Bool.and_eq_true] at h
  have ih:=adj_up (y::l) h.2
  refine List.pairwise_cons.2 ⟨fun z hz=>?_,ih⟩
  rcases List.mem_cons.1 hz with rfl | hz
  ·exact h.1
  ·exact befB_trans h.1 ((List.pairwise_cons.1 ih).1 z hz)
theorem up_adjB:∀ (l:List Seen),upS l->adjB l=true
 | [],_=>rfl
 | [x],_=>rfl
 | x::y::l,h=>by
  obtain ⟨h1,h2⟩:=List.pairwise_cons.1 h
  simp only[adjB,Bool.and_eq_true]
  exact ⟨h1 y List.mem_cons_self,up_adjB (y::l) h2⟩
theorem sorted_up {r:List Seen} (h:r.Pairwise fun x y=>ltS y x=false) (hn:(r.map fun x=>rk x.1).Nodup):upS r:=by
 unfold upS
 have h2:r.Pairwise fun x y=>rk x.1≠rk y.1:=by
  unfold List.Nodup at hn
  rw[List.pairwise_map] at hn
  exact hn
 refine (h.and h2).imp fun {x y} ⟨g1,g2⟩=>?_
 cases h3:ltS x y with
 | true=>rfl
 | false=>exact absurd (befB_tri h3 g1) g2
end OT
set_option linter.unusedVariables false
set_option linter.unusedSimpArgs false
namespace OT
open Go Go.Sort
theorem sort_sem (z:List Seen) (hl:z.length<=1000):∃ r:List Seen,(∀ f:Nat×Int,slices_SortFunc_seen.sem (z,f,())=some (r,()))/\r.Perm z/\r.Pairwise fun x y=>ltS y x=false:=by
 have hs:SWO (Go.Proofs.ltOf cfS):=by rw[cfS_lt];exact swoS
 have h1:=sortF_eq (e:=tSeen) (cs:=impl_look_1.sem) (cf:=cfS) (fun x y=>look1_eq x y) hs z (cap_ok (Nat.le_trans hl (by omega)))
 have h2:=pdq_spec (α:=tSeen.den) (lt:=Go.Proofs.ltOf cfS) hs z
 refine ⟨_,fun f=>?_,h2.1,?_⟩
 ·show (sortF tSeen impl_look_1.sem z).map (fun r=>(r,()))=_
  rw[h1]
  rfl
 ·exact h2.2.imp fun {x y} (h:Go.Proofs.ltOf (α:=Seen) cfS y x=false)=>by rw[cfS_lt] at h;exact h
theorem forI_adj {O:Type} (r:List Seen) (bad e:O):∀ (l pre:List Seen) (x:Seen),r=pre++x::l->forI (fun i (_:Unit) y=>if (match r[i]? with | some z=>ltS z y | none=>true) then .inr () else .inl bad) (fun _=>e) pre.length l ()=if adjB (x::l) then e else bad
 | [],pre,x,_=>by simp[forI,adjB]
 | y::l,pre,x,h=>by
  have hx:r[pre.length]?=some x:=by rw[h,List.getElem?_append_right (Nat.le_refl _)];simp
  simp only[forI,hx,adjB]
  by_cases hc:ltS x y=true
  rotate_left
  ·have hc':ltS x y=false:=by simpa using hc
   simp only[hc',Bool.false_eq_true,if_false,Bool.false_and]
  ·simp only[hc,if_true,Bool.true_and]
   have:=forI_adj r bad e l (pre++[x]) y (by rw[h];simp)
   rw[List.length_append] at this
   exact this
theorem adj_walk (ps:Pgs) (k:Nat) (hk:300<=k) (r:List Seen) (hl:r.length<=192):rawIter (fun self v=>impl_look.B4 k self (fun z=>impl_look.Q4 k (ps,()) r z) (ps,()) r v) k 1=if adjB r then some (r,(0:Int),()) else some (([]:List Seen),(8:Int),()):=by
 have:=for_loopE (B:=fun self v=>impl_look.B4 k self (fun z=>impl_look.Q4 k (ps,()) r z) (ps,()) r v) (r.drop 1) (fun (_:Unit) (i:Int)=>i+1) (fun i _ y=>if (match r[i]? with | some z=>ltS z y | none=>true) then .inr () else .inl (some (([]:List Seen),(8:Int),()))) (fun _=>some (r,(0:Int),())) (fun _ _=>True) (by rw[maxLen_val,List.length_drop];omega)
  (fun i hi s self _=>by
   rw[List.length_drop] at hi
   show impl_look.b4 _ _ _ _ _=_
   unfold impl_look.b4
   have hlt:(i:Int)+1 < (r.length:Int):=by omega
   have hlt2:(i:Int) < (r.length:Int):=by omega
   have hnn:(0:Int)<=(i:Int)+1:=by omega
   have hw1:w64 ((i:Int)+1 - 1)=(i:Int):=by rw[w64_in (by omega)];omega
   have hw2:w64 ((i:Int)+1+1)=w64 ((i:Int)+1)+1:=by rw[w64_in (by omega),w64_in (by omega)]
   have htn:((i:Int)+1).toNat=i+1:=by omega
   have hg:(r.drop 1)[i]'(by rw[List.length_drop];omega)=r[i+1]'(by omega):=by rw[List.getElem_drop];congr 1;omega
   rw[hg]
   simp only[hlt,hlt2,hnn,hw1,hw2,htn,decide_true,cond_true,Int.natCast_nonneg,and_self,if_true,Int.toNat_natCast,List.getElem?_eq_getElem (show i < r.length by omega),List.getElem?_eq_getElem (show i+1 < r.length by omega),Option.bind_some,isBefore_eq]
   show (bif !ltS r[i] (r[i+1]'(by omega)) then _ else _)=_
   cases ltS r[i] (r[i+1]'(by omega)) <;> rfl)
  (fun _ _ _ _ _ _=>trivial) (fun s self _=>by
   rw[List.length_drop]
   show impl_look.b4 _ _ _ _ _=_
   unfold impl_look.b4
   have hlt:¬ (((r.length - 1:Nat):Int)+1 < (r.length:Int)):=by omega
   simp only[hlt,decide_false,cond_false]
   rfl) () trivial k (by rw[List.length_drop];omega)
 refine Eq.trans this ?_
 cases r with
 | nil=>rfl
 | cons x l=>
  exact forI_adj (x::l) _ _ l [] x rfl
def viewL (ps:Pgs):List Seen:=if viewC ps=0 then sortS ((seenF ps).map convS) else []
def lookL (ps:Pgs):List Seen:=if lookC ps=0 then sortS ((seenF ps).map convS) else []
def keyS2 (y:Seen):Option (Int×Int):=some (y.2.2.2.2.1,y.2.2.2.2.2.1)
def toldE (y:Seen):List Int×Bool:=([y.2.2.2.2.1,y.2.2.2.2.2.1],true)
theorem told_get (T:List Seen) (a b:Int):orZ (mapGet tK2 (T.map toldE) [a,b]) false=T.any fun y=>decide (a=y.2.2.2.2.1)&&decide (b=y.2.2.2.2.2.1):=by
 induction T with
 | nil=>rfl
 | cons y T ih=>
  have hk:Ty.eq tK2 [a,b] (toldE y).1=(decide (a=y.2.2.2.2.1)&&decide (b=y.2.2.2.2.2.1)):=key2_eq _ _ _ _
  unfold mapGet at ih ⊢
  rw[List.map_cons,List.find?_cons,List.any_cons,hk]
  cases (decide (a=y.2.2.2.2.1)&&decide (b=y.2.2.2.2.2.1)) with
  | true=>rfl
  | false=>simpa using ih
theorem tgt_keys (S:List L6Spot):(S.flatMap stubOf1).filterMap keyS2=S.filterMap sTgt:=by
 induction S with
 | nil=>rfl
 | cons x S ih=>
  rw[List.flatMap_cons,List.filterMap_append,ih]
  unfold stubOf1
  by_cases h:sFlag x=1
  ·rw[if_pos h]
   have:sTgt x=some (sTp x,sTs x):=by unfold sTgt;rw[if_pos h]
   simp[List.filterMap_cons,this,keyS2]
  ·rw[if_neg h]
   have:sTgt x=none:=by unfold sTgt;rw[if_neg h]
   simp[List.filterMap_cons,this]
theorem implLook_eq (ps:Pgs) (h:cellsOk ps):impl_look.sem (ps,())=some (lookL ps,lookC ps,()):=by
 obtain ⟨hl,hp⟩:=h.1
 have hsl:=spots_len h.1
 refine lift_eq (k:=300) fun k hk=>(impl_look.raw_eq k _).trans ?_
 have inner:∀ (self:(List Seen×List Seen×List (List Int×Row)×Pgs×Int×Int)->Option impl_look.Out) (e0:(List Seen×List Seen×List (List Int×Row))->Option impl_look.Out) (i:Nat) (hi:i < ps.length) (S:List L6Spot),S.length<=16*i->(∀ x ∈ S,x.1 < (i:Int)) ->
   impl_look.r1 k self e0 (ps,()) (i:Int) ps[i] ps (ps.length:Int) (pn ps[i]:Int) (S.flatMap rowsOf1,S.flatMap stubOf1,S.flatMap movOf1,(0:Int))=self ((S++spotsPg i ps[i]).flatMap rowsOf1,(S++spotsPg i ps[i]).flatMap stubOf1,(S++spotsPg i ps[i]).flatMap movOf1,ps,(ps.length:Int),w64 ((i:Int)+1)):=fun self e0 i hi S0 hS0 hfr=>by
  have hok:=hp _ (List.getElem_mem hi)
  have hn:=hok.n
  have hlen:=hok.len
  have hcell:=h.2 _ (List.getElem_mem hi)
  have:=range_loop (B:=fun self' v=>impl_look.B1 k self' (fun z=>impl_look.Q0 k self e0 (ps,()) (i:Int) ps[i] ps (ps.length:Int) (pn ps[i]:Int) z) (ps,()) (i:Int) ps[i] ps (ps.length:Int) (pn ps[i]:Int) v) (pn ps[i]) (fun (S:List L6Spot) (j:Int)=>(S.flatMap rowsOf1,S.flatMap stubOf1,S.flatMap movOf1,j)) (fun j S=>.inr (S++spot1 i ps[i] j)) (fun S=>self (S.flatMap rowsOf1,S.flatMap stubOf1,S.flatMap movOf1,ps,(ps.length:Int),w64 ((i:Int)+1))) (fun j S=>S.length<=16*i+j/\∀ x ∈ S,x.1 < (i:Int)\/(x.1=(i:Int)/\x.2.1 < (j:Int))) (by omega)
   (fun j hj S self' ⟨hI1,hI2⟩=>by
    show impl_look.b1 _ _ _ _ _ _ _ _ _=_
    unfold impl_look.b1 spot1
    have hlt:(j:Int) < (pn ps[i]:Int):=by omega
    simp only[hlt,decide_true,cond_true,implHas_eq hok,hj,Bool.true_and,Option.bind_some]
    by_cases hz:psz ps[i] j=0
    ·simp only[hz,decide_true,Bool.not_true,Bool.not_false,cond_true,if_true,List.append_nil]
    ·have hc2:=hcell j hj hz
     obtain ⟨f1,f2⟩:=cellF_flag _ hc2
     obtain ⟨l1,l2⟩:=gather_len S
     have hcap:∀ (T:List Seen) (y:Seen),T.length<=S.length->T.length+[y].length<=CAP:=fun T y hT=>cap_ok (by simp only[List.length_cons,List.length_nil];omega)
     simp only[hz,decide_false,Bool.not_false,Bool.not_true,cond_false,implCellAt_eq hok hj,implUnpack_eq _ (Nat.le_trans (cellP_small hok hj) (by omega)),hc2,if_true,if_false,Option.bind_some,f1,decide_true,hcap _ _ l1,hcap _ _ l2,key2_lay]
     obtain ⟨x,hx⟩:∃ x:L6Spot,x=((i:Int),(j:Int),(cellF (cellP ps[i] j)).1,()):=⟨_,rfl⟩
     have hxf:sFlag x=(cellF (cellP ps[i] j)).1.2.1:=by rw[hx];rfl
     rw[<-hx]
     simp only[List.flatMap_append,List.flatMap_cons,List.flatMap_nil,List.append_nil]
     rcases f2 with g | g | g
     ·have e1:rowsOf1 x=[((cellF (cellP ps[i] j)).1.2.2.2.2.1,(i:Int),(j:Int),false,(i:Int),(j:Int),())]:=by unfold rowsOf1;rw[if_pos (hxf.trans g),hx];rfl
      have e2:stubOf1 x=[]:=by unfold stubOf1;rw[if_neg (by omega)]
      have e3:movOf1 x=[]:=by unfold movOf1;rw[if_neg (by omega)]
      rw[e1,e2,e3]
      simp only[g,decide_true,cond_true,List.append_nil,List.length_cons,List.length_nil,Nat.zero_lt_succ,List.length_replicate,List.length_set,if_true]
     ·have e1:rowsOf1 x=[]:=by unfold rowsOf1;rw[if_neg (by omega)]
      have e2:stubOf1 x=[(row0,(i:Int),(j:Int),true,(cellF (cellP ps[i] j)).1.2.2.1,(cellF (cellP ps[i] j)).1.2.2.2.1,())]:=by unfold stubOf1;rw[if_pos (hxf.trans g),hx];rfl
      have e3:movOf1 x=[]:=by unfold movOf1;rw[if_neg (by omega)]
      rw[e1,e2,e3]
      have n1:¬ ((1:Int)=0):=by decide
      have n2:¬ ((1:Int)=2):=by decide
      simp only[g,n1,n2,decide_false,cond_false,List.append_nil,List.length_cons,List.length_nil,Nat.zero_lt_succ,List.length_replicate,List.length_set,if_true]
     ·have e1:rowsOf1 x=[]:=by unfold rowsOf1;rw[if_neg (by omega)]
      have e2:stubOf1 x=[]:=by unfold stubOf1;rw[if_neg (by omega)]
      have e3:movOf1 x=[([(i:Int),(j:Int)],(cellF (cellP ps[i] j)).1.2.2.2.2.1)]:=by unfold movOf1;rw[if_pos (hxf.trans g),hx];rfl
      rw[e1,e2,e3]
      have n1:¬ ((2:Int)=0):=by decide
      have hput:mapPut tK2 (S.flatMap movOf1) [(i:Int),(j:Int)] (cellF (cellP ps[i] j)).1.2.2.2.2.1=S.flatMap movOf1++[([(i:Int),(j:Int)],(cellF (cellP ps[i] j)).1.2.2.2.2.1)]:=mapPut_fresh tK2 _ _ _ fun e he=>by
       obtain ⟨y,hy,hye⟩:=List.mem_flatMap.1 he
       unfold movOf1 at hye
       split at hye
       ·rw[List.mem_singleton] at hye
        subst hye
        rw[key2_eq]
        rcases hI2 y hy with c | ⟨c,d⟩
        ·rw[decide_eq_false (show ¬ (i:Int)=y.1 by omega)];rfl
        ·rw[decide_eq_false (show ¬ (j:Int)=y.2.1 by omega),Bool.and_false]
       ·cases hye
      simp only[g,n1,decide_false,decide_true,cond_false,cond_true,hput,List.append_nil,List.length_cons,List.length_nil,Nat.zero_lt_succ,List.length_replicate,List.length_set,if_true]
      rfl)
   (fun j hj S S' ⟨hI1,hI2⟩ hf=>by
    injection hf with hf
    subst hf
    have:(spot1 i ps[i] j).length<=1:=by unfold spot1;split <;> simp
    refine ⟨by rw[List.length_append];omega,fun x hx=>?_⟩
    rcases List.mem_append.1 hx with hx | hx
    ·rcases hI2 x hx with c | ⟨c,d⟩
     ·exact .inl c
     ·exact .inr ⟨c,by omega⟩
    ·unfold spot1 at hx
     split at hx
     ·cases hx
     ·rw[List.mem_singleton] at hx
      subst hx
      exact .inr ⟨rfl,by show (j:Int) < ((j+1:Nat):Int);omega⟩) (fun S self' hI=>by
    show impl_look.b1 _ _ _ _ _ _ _ _ _=_
    unfold impl_look.b1
    simp only[Int.lt_irrefl,decide_false,cond_false]
    rfl) S0 ⟨by omega,fun x hx=>.inl (hfr x hx)⟩ k (by omega)
  rw[forI_app (spot1 i ps[i])] at this
  exact this
 have outer:impl_look.r0 k (ps,()) (([]:List Seen),([]:List Seen),([]:List (List Int×Row)),ps,(ps.length:Int),(0:Int))=impl_look.Q1 k (ps,()) ((spotsF ps).flatMap rowsOf1,(spotsF ps).flatMap stubOf1,(spotsF ps).flatMap movOf1):=by
  have:=for_loopE (B:=fun self v=>impl_look.B0 k self (fun z=>impl_look.Q1 k (ps,()) z) (ps,()) v) ps (fun (S:List L6Spot) (i:Int)=>(S.flatMap rowsOf1,S.flatMap stubOf1,S.flatMap movOf1,ps,(ps.length:Int),i)) (fun i S p=>.inr (S++spotsPg i p)) (fun S=>impl_look.Q1 k (ps,()) (S.flatMap rowsOf1,S.flatMap stubOf1,S.flatMap movOf1)) (fun i S=>S.length<=16*i/\∀ x ∈ S,x.1 < (i:Int)) (by rw[maxLen_val];omega)
   (fun i hi S self ⟨hI1,hI2⟩=>by
    show impl_look.b0 _ _ _ _ _=_
    unfold impl_look.b0
    have hlt:(i:Int) < (ps.length:Int):=by omega
    have hlen:=(hp _ (List.getElem_mem hi)).len
    simp only[hlt,decide_true,cond_true,Int.natCast_nonneg,if_true,Int.toNat_natCast,List.getElem?_eq_getElem hi,Option.bind_some,pSlots_eq hlen,inner self _ i hi S hI1 hI2])
   (fun i hi S S' ⟨hI1,hI2⟩ hf=>by
    injection hf with hf
    subst hf
    have:=spotsPg_len (hp _ (List.getElem_mem hi)) i
    refine ⟨by rw[List.length_append];omega,fun x hx=>?_⟩
    rcases List.mem_append.1 hx with hx | hx
    ·have:=hI2 x hx;omega
    ·obtain ⟨s,_,hs⟩:=List.mem_flatMap.1 hx
     unfold spot1 at hs
     split at hs
     ·cases hs
     ·rw[List.mem_singleton] at hs
      subst hs
      show (i:Int) < ((i+1:Nat):Int)
      omega) (fun S self hI=>by
    show impl_look.b0 _ _ _ _ _=_
    unfold impl_look.b0
    simp only[Int.lt_irrefl,decide_false,cond_false]) [] ⟨by simp,fun x hx=>by cases hx⟩ k (by omega)
  rw[forI_appI] at this
  exact this
 show impl_look.r0 k (ps,()) (([]:List Seen),([]:List Seen),([]:List (List Int×Row)),ps,(ps.length:Int),(0:Int))=_
 rw[outer]
 show impl_look.q1 _ _ _=_
 unfold impl_look.q1
 obtain ⟨gl1,gl2⟩:=gather_len (spotsF ps)
 have hT:∀ y ∈ (spotsF ps).flatMap stubOf1,∃ x ∈ spotsF ps,sFlag x=1/\y=(row0,x.1,x.2.1,true,sTp x,sTs x,()):=fun y hy=>by
  obtain ⟨x,hx,hxy⟩:=List.mem_flatMap.1 hy
  unfold stubOf1 at hxy
  split at hxy
  ·rename_i hf
   exact ⟨x,hx,hf,List.mem_singleton.1 hxy⟩
  ·cases hxy
 have l2w:impl_look.r2 k (ps,()) ((spotsF ps).flatMap rowsOf1) ((spotsF ps).flatMap stubOf1) ((spotsF ps).flatMap movOf1) (((spotsF ps).flatMap stubOf1).length:Int) (0:Int)=if (spotsF ps).all (stubOk ps) then impl_look.Q2 k (ps,()) ((spotsF ps).flatMap rowsOf1) ((spotsF ps).flatMap stubOf1) ((spotsF ps).flatMap movOf1) (((spotsF ps).flatMap stubOf1).length:Int) () else some (([]:List Seen),(4:Int),()):=by
  obtain ⟨T,hTd⟩:∃ T,T=(spotsF ps).flatMap stubOf1:=⟨_,rfl⟩
  obtain ⟨M,hM⟩:∃ M,M=(spotsF ps).flatMap movOf1:=⟨_,rfl⟩
  rw[<-hTd,<- hM]
  have hTl:T.length<=192:=by rw[hTd];omega
  have:=for_loopE (B:=fun self v=>impl_look.B2 k self (fun z=>impl_look.Q2 k (ps,()) ((spotsF ps).flatMap rowsOf1) T M (T.length:Int) z) (ps,()) ((spotsF ps).flatMap rowsOf1) T M (T.length:Int) v) T (fun (_:Unit) (i:Int)=>i) (fun i _ y=>if (mapGet tK2 M [y.2.2.2.2.1,y.2.2.2.2.2.1]).isSome then .inr () else .inl (some (([]:List Seen),(4:Int),()))) (fun _=>impl_look.Q2 k (ps,()) ((spotsF ps).flatMap rowsOf1) T M (T.length:Int) ()) (fun _ _=>True) (by rw[maxLen_val];omega)
   (fun i hi s self _=>by
    show impl_look.b2 _ _ _ _ _ _ _ _=_
    unfold impl_look.b2
    have hlt:(i:Int) < (T.length:Int):=by omega
    simp only[hlt,decide_true,cond_true,Int.natCast_nonneg,and_self,if_true,Int.toNat_natCast,List.getElem?_eq_getElem hi,Option.bind_some,key2_lay,List.length_replicate,List.length_set,show (0:Nat) < 2 by omega,show (1:Nat) < 2 by omega]
    cases (mapGet tK2 M [(T[i]).2.2.2.2.1,(T[i]).2.2.2.2.2.1]).isSome <;> rfl)
   (fun _ _ _ _ _ _=>trivial) (fun s self _=>by
    show impl_look.b2 _ _ _ _ _ _ _ _=_
    unfold impl_look.b2
    simp only[Int.lt_irrefl,decide_false,cond_false]) () trivial k (by omega)
  rw[forI_check (fun y:Seen=>(mapGet tK2 M [y.2.2.2.2.1,y.2.2.2.2.2.1]).isSome) (some (([]:List Seen),(4:Int),())) (fun _=>impl_look.Q2 k (ps,()) ((spotsF ps).flatMap rowsOf1) T M (T.length:Int) ())] at this
  refine Eq.trans this ?_
  have hb:T.all (fun y:Seen=>(mapGet tK2 M [y.2.2.2.2.1,y.2.2.2.2.2.1]).isSome)=(spotsF ps).all (stubOk ps):=by
   have hone:∀ x ∈ spotsF ps,sFlag x=1->(mapGet tK2 M [sTp x,sTs x]).isSome=stubOk ps x:=fun x hx hf=>by
    obtain ⟨g1,g2⟩:=spot_nonneg hx
    rw[hM,mov_get h _ _ g1 g2]
    unfold stubOk
    rw[decide_eq_true hf]
    cases ((cellG ps (sTp x) (sTs x)).2&&decide ((cellG ps (sTp x) (sTs x)).1.2.1=2)) <;> rfl
   rw[Bool.eq_iff_iff,List.all_eq_true,List.all_eq_true]
   constructor
   ·intro hall x hx
    by_cases hf:sFlag x=1
    ·rw[<-hone x hx hf]
     have hy:(row0,x.1,x.2.1,true,sTp x,sTs x,()) ∈ T:=by
      rw[hTd]
      exact List.mem_flatMap.2 ⟨x,hx,by unfold stubOf1;rw[if_pos hf];exact List.mem_singleton.2 rfl⟩
     exact hall _ hy
    ·unfold stubOk;rw[decide_eq_false hf];rfl
   ·intro hall y hy
    obtain ⟨x,hx,hf,e⟩:=hT y (hTd ▸ hy)
    subst e
    exact (hone x hx hf).trans (hall x hx)
  rw[hb]
 rw[l2w]
 unfold lookL lookC
 by_cases hst:(spotsF ps).all (stubOk ps)=true
 rotate_left
 ·simp only[hst,Bool.false_eq_true,if_false]
  rfl
 simp only[hst,if_true]
 show impl_look.q2 _ _ _ _ _ _ _=_
 unfold impl_look.q2
 have l3w:impl_look.r3 k (ps,()) ((spotsF ps).flatMap rowsOf1) ((spotsF ps).flatMap stubOf1) ((spotsF ps).flatMap movOf1) (((spotsF ps).flatMap stubOf1).length:Int) ((spotsF ps).flatMap stubOf1) ((spotsF ps).flatMap movOf1) (((spotsF ps).flatMap stubOf1).length:Int) ((spotsF ps).flatMap rowsOf1,([]:List (List Int×Bool)),(0:Int))=if ((spotsF ps).filterMap sTgt).Nodup then impl_look.Q3 k (ps,()) ((spotsF ps).flatMap stubOf1) ((spotsF ps).flatMap movOf1) (((spotsF ps).flatMap stubOf1).length:Int) (listV ps) else some (([]:List Seen),(6:Int),()):=by
  have hkeys:=tgt_keys (spotsF ps)
  unfold listV
  obtain ⟨T,hTd⟩:∃ T,T=(spotsF ps).flatMap stubOf1:=⟨_,rfl⟩
  obtain ⟨M,hM⟩:∃ M,M=(spotsF ps).flatMap movOf1:=⟨_,rfl⟩
  obtain ⟨L,hL⟩:∃ L,L=(spotsF ps).flatMap rowsOf1:=⟨_,rfl⟩
  have hfill:∀ y:Seen,fillS ps y=(orZ (mapGet tK2 M [y.2.2.2.2.1,y.2.2.2.2.2.1]) row0,y.2):=fun y=>by unfold fillS;rw[hM]
  rw[<-hTd,<- hM,<- hL]
  rw[<-hTd] at hkeys
  have hTl:T.length<=192:=by rw[hTd];omega
  have hLl:L.length<=192:=by rw[hL];omega
  have:=for_loopE (B:=fun self v=>impl_look.B3 k self (fun z=>impl_look.Q3 k (ps,()) T M (T.length:Int) z) (ps,()) T M (T.length:Int) v) T (fun (_:Unit) (i:Int)=>(L++(T.take i.toNat).map (fillS ps),(T.take i.toNat).map toldE,i)) (fun i _ y=>if (T.take i).any (fun z=>decide (y.2.2.2.2.1=z.2.2.2.2.1)&&decide (y.2.2.2.2.2.1=z.2.2.2.2.2.1)) then .inl (some (([]:List Seen),(6:Int),())) else .inr ()) (fun _=>impl_look.Q3 k (ps,()) T M (T.length:Int) (L++T.map (fillS ps))) (fun _ _=>True) (by rw[maxLen_val];omega)
   (fun i hi s self _=>by
    show impl_look.b3 _ _ _ _ _ _ _=_
    unfold impl_look.b3
    have hlt:(i:Int) < (T.length:Int):=by omega
    have hcap:∀ y:Seen,(L++(T.take i).map (fillS ps)).length+[y].length<=CAP:=fun y=>cap_ok (by simp only[List.length_append,List.length_map,List.length_take,List.length_cons,List.length_nil];omega)
    have hw:(w64 ((i:Int)+1)).toNat=i+1:=by rw[w64_in (by omega)];omega
    have htk:T.take (i+1)=T.take i++[T[i]]:=List.take_succ_eq_append_getElem hi
    simp only[hlt,decide_true,cond_true,Int.natCast_nonneg,and_self,if_true,Int.toNat_natCast,List.getElem?_eq_getElem hi,Option.bind_some,key2_lay,List.length_replicate,List.length_set,show (0:Nat) < 2 by omega,show (1:Nat) < 2 by omega,told_get,hcap,hw,htk,List.map_append,List.map_cons,List.map_nil]
    have htg:=told_get (T.take i) (T[i]).2.2.2.2.1 (T[i]).2.2.2.2.2.1
    refine Eq.trans (congrArg (fun b:Bool=>bif b then (some (([]:List Seen),(6:Int),()):Option impl_look.Out) else self (L++(T.take i).map (fillS ps)++[(orZ (mapGet tK2 M [(T[i]).2.2.2.2.1,(T[i]).2.2.2.2.2.1]) ((0:Int),(0:Int),(0:Int),([]:List UInt8),()),(T[i]).2)],mapPut tK2 ((T.take i).map toldE) [(T[i]).2.2.2.2.1,(T[i]).2.2.2.2.2.1] true,w64 ((i:Int)+1))) htg) ?_
    cases hc:(T.take i).any (fun z=>decide ((T[i]).2.2.2.2.1=z.2.2.2.2.1)&&decide ((T[i]).2.2.2.2.2.1=z.2.2.2.2.2.1)) with
    | true=>rfl
    | false=>
     simp only[cond_false,Bool.false_eq_true,if_false]
     have hput:mapPut tK2 ((T.take i).map toldE) [(T[i]).2.2.2.2.1,(T[i]).2.2.2.2.2.1] true=(T.take i).map toldE++[toldE T[i]]:=mapPut_fresh tK2 _ _ _ fun e he=>by
      obtain ⟨z,hz,rfl⟩:=List.mem_map.1 he
      have h1:=List.any_eq_false.1 hc z hz
      have:Ty.eq tK2 [(T[i]).2.2.2.2.1,(T[i]).2.2.2.2.2.1] (toldE z).1=_:=key2_eq _ _ _ _
      rw[this]
      simpa using h1
     rw[hput,hfill,List.append_assoc])
   (fun _ _ _ _ _ _=>trivial) (fun s self _=>by
    show impl_look.b3 _ _ _ _ _ _ _=_
    unfold impl_look.b3
    simp only[Int.lt_irrefl,decide_false,cond_false,Int.toNat_natCast,List.take_length]) () trivial k (by omega)
  rw[forI_dup0 keyS2 (some (([]:List Seen),(6:Int),())) (fun _=>impl_look.Q3 k (ps,()) T M (T.length:Int) (L++T.map (fillS ps))) (fun y z=>decide (y.2.2.2.2.1=z.2.2.2.2.1)&&decide (y.2.2.2.2.2.1=z.2.2.2.2.2.1)) (fun y z=>?_) T,hkeys] at this
  ·simp only[Int.toNat_zero,List.take_zero,List.map_nil,List.append_nil] at this
   exact this
  ·unfold keyS2
   simp only[Bool.and_eq_true,decide_eq_true_eq]
   constructor
   ·rintro ⟨h1,h2⟩;exact ⟨_,rfl,by rw[h1,h2]⟩
   ·rintro ⟨b,h1,h2⟩
    injection h1 with h1
    injection h2 with h2
    rw[<-h2] at h1
    injection h1 with h3 h4
    exact ⟨h3,h4⟩
 rw[l3w]
 by_cases htk:((spotsF ps).filterMap sTgt).Nodup
 rotate_left
 ·simp only[htk,if_false]
  rfl
 simp only[htk,if_true]
 show impl_look.q3 _ _ _ _ _ _=_
 unfold impl_look.q3
 have hperm:=listV_perm h hst
 have hvl:(listV ps).length<=192:=by
  have:=hperm.length_eq
  rw[List.length_map] at this
  have:=seen_len h.1
  omega
 obtain ⟨r,hr1,hr2,hr3⟩:=sort_sem (listV ps) (by omega)
 rw[hr1]
 simp only[Option.bind_some]
 have hrl:r.length<=192:=by have:=hr2.length_eq;omega
 have hrp:=hr2.trans hperm
 have hkn:(r.map fun x=>rk x.1).Nodup↔((seenF ps).map fun x=>rk (sRow x)).Nodup:=by
  have h1:(r.map fun x=>rk x.1).Perm (((seenF ps).map convS).map fun x=>rk x.1):=hrp.map _
  rw[h1.nodup_iff,List.map_map]
  exact Iff.rfl
 refine (adj_walk ps k hk r hrl).trans ?_
 by_cases hnd:((seenF ps).map fun x=>rk (sRow x)).Nodup
 ·have hup:=sorted_up hr3 (hkn.2 hnd)
  have hun:=sortS_unique hrp hup (by rw[List.map_map];exact hnd)
  simp only[hnd,if_true,up_adjB r hup]
  rw[hun]
 ·have:¬ adjB r=true:=fun ha=>hnd (hkn.1 (upS_nodup (adj_up r ha)))
  simp only[hnd,this,if_false]
  rfl
theorem implView_eq (ps:Pgs) (hp:∀ p ∈ ps,p.length<=maxLen):impl_view.sem (ps,())=some (viewL ps,viewC ps,()):=by
 refine lift_eq (k:=300) fun k hk=>(impl_view.raw_eq k _).trans ?_
 unfold impl_view.p viewL viewC
 by_cases hl:12 < ps.length
 ·have:(12:Int) < (ps.length:Int):=by omega
  simp only[this,decide_true,cond_true,hl,if_true]
  rfl
 have hl':¬ ((12:Int) < (ps.length:Int)):=by omega
 simp only[hl',decide_false,cond_false,hl,if_false]
 have inner:∀ (self:(Pgs×Pgs×Int×Int)->Option impl_view.Out) (e0:Pgs->Option impl_view.Out) (i:Nat) (hi:i < ps.length),PageOk ps[i]->impl_view.r1 k self e0 (ps,()) ps ps[i] ps (ps.length:Int) (i:Int) (pn ps[i]:Int) (0:Int)=if (List.range (pn ps[i])).all (okCell ps[i]) then self (ps,ps,(ps.length:Int),w64 ((i:Int)+1)) else some (([]:List Seen),(5:Int),()):=fun self e0 i hi hok=>by
  have hn:=hok.n
  have hlen:=hok.len
  have:=range_loop (B:=fun self' v=>impl_view.B1 k self' (fun z=>impl_view.Q0 k self e0 (ps,()) ps ps[i] ps (ps.length:Int) (i:Int) (pn ps[i]:Int) z) (ps,()) ps ps[i] ps (ps.length:Int) (i:Int) (pn ps[i]:Int) v) (pn ps[i]) (fun (_:Unit) (j:Int)=>j) (fun j _=>if okCell ps[i] j then .inr () else .inl (some (([]:List Seen),(5:Int),()))) (fun _=>self (ps,ps,(ps.length:Int),w64 ((i:Int)+1))) (fun _ _=>True) (by omega)
   (fun j hj s self' hI=>by
    show impl_view.b1 _ _ _ _ _ _ _ _ _ _=_
    unfold impl_view.b1 okCell
    have hlt:(j:Int) < (pn ps[i]:Int):=by omega
    simp only[hlt,decide_true,cond_true,implHas_eq hok,hj,Bool.true_and,Option.bind_some]
    by_cases hz:psz ps[i] j=0
    ·simp only[hz,decide_true,Bool.not_true,cond_false,Bool.true_or,if_true]
    ·simp only[hz,decide_false,Bool.not_false,cond_true,implCellAt_eq hok hj,implUnpack_eq _ (Nat.le_trans (cellP_small hok hj) (by omega)),Option.bind_some,Bool.false_or]
     cases hc:(cellF (cellP ps[i] j)).2 with
     | true=>
      have:=(cellF_flag _ hc).1
      simp only[if_true,this,decide_true,Bool.not_true,cond_false]
     | false=>rfl)
   (fun _ _ _ _ _ _=>trivial) (fun s self' hI=>by
    show impl_view.b1 _ _ _ _ _ _ _ _ _ _=_
    unfold impl_view.b1
    simp only[Int.lt_irrefl,decide_false,cond_false]
    rfl) () trivial k (by omega)
  rw[forI_checkN] at this
  exact this
 have outer:impl_view.r0 k (ps,()) (ps,ps,(ps.length:Int),(0:Int))=if firstF pgC ps=0 then impl_view.Q1 k (ps,()) ps else some (([]:List Seen),firstF pgC ps,()):=by
  have:=for_loopE (B:=fun self v=>impl_view.B0 k self (fun z=>impl_view.Q1 k (ps,()) z) (ps,()) v) ps (fun (_:Unit) (i:Int)=>(ps,ps,(ps.length:Int),i)) (fun i _ p=>if pgC p=0 then .inr () else .inl (some (([]:List Seen),pgC p,()))) (fun _=>impl_view.Q1 k (ps,()) ps) (fun _ _=>True) (by rw[maxLen_val];omega)
   (fun i hi s self hI=>by
    show impl_view.b0 _ _ _ _ _=_
    unfold impl_view.b0 pgC
    have hlt:(i:Int) < (ps.length:Int):=by omega
    simp only[hlt,decide_true,cond_true,Int.natCast_nonneg,if_true,Int.toNat_natCast,List.getElem?_eq_getElem hi,Option.bind_some,implPage_eq _ (hp _ (List.getElem_mem hi))]
    by_cases h0:pageF ps[i]=0
    ·have hok:=pageF_iff.1 h0
     rw[decide_eq_true h0]
     simp only[Bool.not_true,cond_false,pSlots_eq hok.len,Option.bind_some,inner self _ i hi hok,h0,if_true]
     by_cases hc:(List.range (pn ps[i])).all (okCell ps[i])=true
     ·simp only[hc,if_true]
     ·simp only[hc,Bool.false_eq_true,if_false]
      rfl
    ·rw[decide_eq_false h0]
     simp only[Bool.not_false,cond_true,h0,if_false])
   (fun _ _ _ _ _ _=>trivial) (fun s self _=>by
    show impl_view.b0 _ _ _ _ _=_
    unfold impl_view.b0
    simp only[Int.lt_irrefl,decide_false,cond_false]) () trivial k (by omega)
  rw[forI_first pgC (fun c=>some (([]:List Seen),c,())) (fun _=>impl_view.Q1 k (ps,()) ps)] at this
  exact this
 rw[outer]
 by_cases hc:firstF pgC ps=0
 ·simp only[hc,if_true]
  show impl_view.q1 _ _=_
  unfold impl_view.q1
  rw[implLook_eq ps (cells_of (by omega) hc)]
  rfl
 ·simp only[hc,if_false]
end OT
set_option linter.unusedVariables false
set_option linter.unusedSimpArgs false
set_option linter.unusedSectionVars false
namespace OT
open Go
structure viewR (ps:Pgs):Prop where
 right:rightP ps
 cells:cellsOk ps
 stubs:(spotsF ps).all (stubOk ps)=true
 tgts:((spotsF ps).filterMap sTgt).Nodup
 keys:((seenF ps).map fun x=>rk (sRow x)).Nodup
 list:viewL ps=sortS ((seenF ps).map convS)
theorem view_ok {ps:Pgs} (h:viewC ps=0):viewR ps:=by
 obtain ⟨h1,h2,h3⟩:=view_right h
 have hc:=cells_of h1.1 h2
 unfold lookC at h3
 split at h3
 ·rename_i a1
  split at h3
  ·rename_i a2
   split at h3
   ·rename_i a3
    exact ⟨h1,hc,a1,a2,a3,by unfold viewL;rw[if_pos h]⟩
   ·cases h3
  ·cases h3
 ·cases h3
theorem viewL_perm {ps:Pgs} (h:viewR ps):(viewL ps).Perm ((seenF ps).map convS):=by rw[h.list];exact sortS_perm _
theorem viewL_len {ps:Pgs} (h:viewR ps):(viewL ps).length<=192:=by
 have:=(viewL_perm h).length_eq
 rw[List.length_map] at this
 have:=seen_len h.right
 omega
def rowsV (ps:Pgs):List Row:=(viewL ps).map (·.1)
theorem rowsV_eq {ps:Pgs} (h:viewR ps):rowsV ps=sortR ((seenF ps).map sRow):=by
 unfold rowsV
 rw[h.list,sortS_map,List.map_map]
 rfl
theorem rowsV_up {ps:Pgs} (h:viewR ps):up (rowsV ps):=by
 rw[rowsV_eq h]
 refine sortR_up ?_
 rw[List.map_map]
 exact h.keys
theorem seenRows_eq (l:List Seen) (hl:l.length<=1000):impl_plain.sem (l,())=some (l.map (·.1),()):=by
 refine lift_eq (k:=1100) fun q hq=>(impl_plain.raw_eq q _).trans ?_
 have:=for_loop (B:=fun self v=>impl_plain.B0 q self (fun z=>impl_plain.Q0 q (l,()) z) (l,()) v) l (fun (s:List Row) (i:Int)=>(s,i)) (fun _ s x=>.inr (s++[x.1])) (fun s=>(s,())) (fun i s=>s.length=i) (by rw[maxLen_val];omega)
  (fun i hi s self hs=>by
   show impl_plain.b0 _ _ _ _=_
   unfold impl_plain.b0
   have hlt:(i:Int) < (l.length:Int):=by omega
   rw[decide_eq_true hlt,cond_true,if_pos (Int.natCast_nonneg i)]
   simp only[Int.toNat_natCast,List.getElem?_eq_getElem hi,Option.bind_some]
   rw[if_pos (cap_ok (by simp only[List.length_cons,List.length_nil];omega))])
  (fun i hi s s' hs hf=>by injection hf with hf;subst hf;simp[hs]) (fun s self _=>by
   show impl_plain.b0 _ _ _ _=_
   unfold impl_plain.b0
   rw[decide_eq_false (Int.lt_irrefl _),cond_false]
   rfl) [] rfl q (by omega)
 rw[forI_fold (g:=fun (s:List Row) (x:Seen)=>s++[x.1])] at this
 refine this.trans ?_
 have hm:∀ (xs:List Seen) (s:List Row),xs.foldl (fun s x=>s++[x.1]) s=s++xs.map (·.1):=by
  intro xs
  induction xs with
  | nil=>intro s;simp
  | cons x xs ih=>intro s;rw[List.foldl_cons,ih];simp
 rw[hm,List.nil_append]
theorem specRowsIn_eq {ps:Pgs} (h:viewC ps=0):spec_l6RowsIn.sem (ps,())=some (rowsV ps,()):=by
 have hr:=view_right h
 have hl:=seen_len hr.1
 refine lift_eq (k:=300) fun k hk=>(spec_l6RowsIn.raw_eq k _).trans ?_
 unfold spec_l6RowsIn.p
 rw[specSeen_eq ps hr.1]
 simp only[Option.bind_some]
 have:=for_loop (B:=fun self v=>spec_l6RowsIn.B0 k self (fun z=>spec_l6RowsIn.Q0 k (ps,()) (seenF ps) z) (ps,()) (seenF ps) v) (seenF ps) (fun (s:List Row) (i:Int)=>(s,i)) (fun _ s x=>.inr (put1 s (sRow x))) (fun s=>(s,())) (fun i s=>s.length<=i) (by rw[maxLen_val];omega)
  (fun i hi s self hs=>by
   show spec_l6RowsIn.b0 _ _ _ _ _=_
   unfold spec_l6RowsIn.b0
   have hlt:(i:Int) < ((seenF ps).length:Int):=by omega
   rw[decide_eq_true hlt,cond_true,if_pos ⟨Int.natCast_nonneg i,hlt⟩]
   simp only[Int.toNat_natCast,List.getElem?_eq_getElem hi,Option.bind_some]
   rw[specPut_eq _ _ (by omega)]
   rfl)
  (fun i hi s s' hs hf=>by
   injection hf with hf
   subst hf
   unfold put1
   simp only[List.length_append,List.length_take,List.length_drop,List.length_cons,List.length_nil]
   omega) (fun s self _=>by
   show spec_l6RowsIn.b0 _ _ _ _ _=_
   unfold spec_l6RowsIn.b0
   rw[decide_eq_false (Int.lt_irrefl _),cond_false]
   rfl) [] (Nat.le_refl 0) k (by omega)
 rw[forI_fold (g:=fun (s:List Row) (x:L6Spot)=>put1 s (sRow x))] at this
 refine this.trans ?_
 rw[rowsV_eq (view_ok h)]
 unfold sortR
 rw[List.foldl_map]
end OT
set_option linter.unusedVariables false
set_option linter.unusedSimpArgs false
set_option linter.unusedSectionVars false
namespace OT
open Go
theorem set_same {p:List UInt8} {i n:Nat} (h:pb p i=n) (hn:n < 256):p.set i (UInt8.ofNat n)=p:=by
 refine pb_ext (by rw[List.length_set]) fun j hj=>?_
 rw[pb_set]
 split
 ·rename_i h1
  rw[ofNat_toNat hn,<- h,h1.1]
 ·rfl
theorem u8_of (n:Nat):UInt8.ofInt ((n:Nat):Int)=UInt8.ofNat n:=by
 refine UInt8.toNat_inj.1 ?_
 rw[UInt8.toNat_ofNat']
 simp only[UInt8.ofInt]
 rw[UInt8.toNat_ofNat']
 omega
theorem forI_empty {O:Type} (p:List UInt8) (g:Nat->O):∀ (m a i:Nat),forI (fun _ (_:Unit) (x:Nat)=>if psz p x=0 then .inl (g x) else .inr ()) (fun _=>g (a+m)) i (List.range' a m) ()=g (emptyG p m a)
 | 0,a,i=>rfl
 | m+1,a,i=>by
  rw[List.range'_succ]
  simp only[forI,emptyG]
  by_cases h:psz p a=0
  ·simp only[h,if_true]
  ·simp only[h,if_false]
   have:=forI_empty p g m (a+1) (i+1)
   rw[show a+1+m=a+(m+1) by omega] at this
   exact this
theorem sumZ_fold (p:List UInt8) (b:Int):∀ n,(List.range n).foldl (fun s x=>s - (psz p x:Int)) b=b - (sumZ p n:Int)
 | 0=>by simp[sumZ]
 | n+1=>by rw[List.range_succ,List.foldl_append,sumZ_fold p b n];simp only[List.foldl_cons,List.foldl_nil,sumZ];omega
theorem sumZ_le (p:List UInt8):∀ n,sumZ p n<=256*n
 | 0=>by simp[sumZ]
 | n+1=>by have:=sumZ_le p n;have:=pb_lt p (3+2*n);simp only[sumZ];unfold psz;omega
section
variable {p:List UInt8} (hp:PageOk p)
include hp
theorem specEmpty_eq:spec_l2Empty.sem (p,())=some ((emptyF p:Int),()):=by
 have hn:=hp.n
 refine lift_eq (k:=100) fun k hk=>(spec_l2Empty.raw_eq k _).trans ?_
 have:=range_loop (B:=fun self v=>spec_l2Empty.B0 k self (fun z=>spec_l2Empty.Q0 k (p,()) z) (p,()) v) (pn p) (fun (_:Unit) (i:Int)=>i) (fun x _=>if psz p x=0 then .inl (some ((x:Int),())) else .inr ()) (fun _=>some ((pn p:Int),())) (fun _ _=>True) (by omega)
  (fun i hi s self _=>by
   show spec_l2Empty.b0 _ _ _ _=_
   unfold spec_l2Empty.b0
   have hlt:(i:Int) < (pn p:Int):=by omega
   simp only[pCount_eq hp.len,Option.bind_some,hlt,decide_true,cond_true,pSize_eq hp.len (show i < 16 by omega)]
   by_cases hz:psz p i=0
   ·simp only[hz,Int.natCast_zero,decide_true,cond_true,if_true]
   ·have:¬ ((psz p i:Int)=0):=by omega
    simp only[hz,this,decide_false,cond_false,if_false])
  (fun _ _ _ _ _ _=>trivial) (fun s self _=>by
   show spec_l2Empty.b0 _ _ _ _=_
   unfold spec_l2Empty.b0
   simp only[pCount_eq hp.len,Option.bind_some,Int.lt_irrefl,decide_false,cond_false]
   show spec_l2Empty.q0 _ _=_
   unfold spec_l2Empty.q0
   simp only[pCount_eq hp.len,Option.bind_some]) () trivial k (by omega)
 refine this.trans ?_
 rw[List.range_eq_range']
 have h2:=forI_empty p (fun n=>(some ((n:Int),()):Option spec_l2Empty.Out)) (pn p) 0 0
 simp only[Nat.zero_add] at h2
 exact h2
theorem specFree_eq:spec_l2Free.sem (p,())=some (freeF p,()):=by
 have hn:=hp.n
 have hw:w64 ((62:Int) - w64 ((2:Int)*(pn p:Int)))=62 - 2*(pn p:Int):=by rw[w64_in (n:=(2:Int)*(pn p:Int)) (by omega),w64_in (by omega)]
 refine lift_eq (k:=100) fun k hk=>(spec_l2Free.raw_eq k _).trans ?_
 unfold spec_l2Free.p
 simp only[pCount_eq hp.len,Option.bind_some,hw]
 have:=range_loop (B:=fun self v=>spec_l2Free.B0 k self (fun z=>spec_l2Free.Q0 k (p,()) z) (p,()) v) (pn p) (fun (s:Int) (i:Int)=>(s,i)) (fun x s=>.inr (s - (psz p x:Int))) (fun s=>some (s,())) (fun i s=>s=62 - 2*(pn p:Int) - (sumZ p i:Int)) (by omega)
  (fun i hi s self hs=>by
   show spec_l2Free.b0 _ _ _ _=_
   unfold spec_l2Free.b0
   have hlt:(i:Int) < (pn p:Int):=by omega
   have h1:=pb_lt p (3+2*i)
   have h2:=sumZ_le p i
   have h3:psz p i < 256:=h1
   simp only[pCount_eq hp.len,Option.bind_some,hlt,decide_true,cond_true,pSize_eq hp.len (show i < 16 by omega)]
   rw[w64_in (n:=s - (psz p i:Int)) (by omega)])
  (fun i hi s s' hs hf=>by injection hf with hf;simp only[sumZ];omega) (fun s self _=>by
   show spec_l2Free.b0 _ _ _ _=_
   unfold spec_l2Free.b0
   simp only[pCount_eq hp.len,Option.bind_some,Int.lt_irrefl,decide_false,cond_false]
   rfl) (62 - 2*(pn p:Int)) (by simp[sumZ]) k (by omega)
 rw[forI_fold (g:=fun s x=>s - (psz p x:Int)),sumZ_fold] at this
 exact this
theorem implFree_eq:impl_freeIn.sem (p,())=some (freeF p,()):=by
 have hn:=hp.n
 have hw:w64 ((62:Int) - w64 ((2:Int)*(pn p:Int)))=62 - 2*(pn p:Int):=by rw[w64_in (n:=(2:Int)*(pn p:Int)) (by omega),w64_in (by omega)]
 refine lift_eq (k:=100) fun k hk=>(impl_freeIn.raw_eq k _).trans ?_
 unfold impl_freeIn.p
 simp only[pSlots_eq hp.len,Option.bind_some,hw]
 have:=range_loop (B:=fun self v=>impl_freeIn.B0 k self (fun z=>impl_freeIn.Q0 k (p,()) (pn p:Int) z) (p,()) (pn p:Int) v) (pn p) (fun (s:Int) (i:Int)=>(s,i)) (fun x s=>.inr (s - (psz p x:Int))) (fun s=>some (s,())) (fun i s=>s=62 - 2*(pn p:Int) - (sumZ p i:Int)) (by omega)
  (fun i hi s self hs=>by
   show impl_freeIn.b0 _ _ _ _ _=_
   unfold impl_freeIn.b0
   have hlt:(i:Int) < (pn p:Int):=by omega
   have h1:=pb_lt p (3+2*i)
   have h2:=sumZ_le p i
   have h3:psz p i < 256:=h1
   simp only[Option.bind_some,hlt,decide_true,cond_true,pSpot_eq hp.len (show i < 16 by omega)]
   rw[w64_in (n:=s - (psz p i:Int)) (by omega)])
  (fun i hi s s' hs hf=>by injection hf with hf;simp only[sumZ];omega) (fun s self _=>by
   show impl_freeIn.b0 _ _ _ _ _=_
   unfold impl_freeIn.b0
   simp only[Option.bind_some,Int.lt_irrefl,decide_false,cond_false]
   rfl) (62 - 2*(pn p:Int)) (by simp[sumZ]) k (by omega)
 rw[forI_fold (g:=fun s x=>s - (psz p x:Int)),sumZ_fold] at this
 exact this
end
theorem specStand_eq {p c:List UInt8} {s a:Nat} (hp:p.length=64) (hs:s < 16) (h:a+c.length<=64):spec_l2Stand.sem (p,(s:Int),(a:Int),c,())=some (stand p s a c,()):=by
 refine lift_eq (k:=0) fun k _=>(spec_l2Stand.raw_eq k _).trans ?_
 show spec_l2Stand.p _=_
 unfold spec_l2Stand.p stand
 have h1:(0:Int)<=(a:Int)/\(a:Int)<=(p.length:Int):=by omega
 have hm:min c.length (p.length - a)=c.length:=by omega
 have hl:(over p a c.length c).length=64:=by rw[over_length _ _ (by omega) (Nat.le_refl _),hp]
 have i2:(0:Int)<=((2+2*s:Nat):Int)/\((2+2*s:Nat):Int) < ((64:Nat):Int):=by omega
 have i3:(0:Int)<=((3+2*s:Nat):Int)/\((3+2*s:Nat):Int) < ((64:Nat):Int):=by omega
 simp only[h1,and_self,if_true,Int.toNat_natCast,hm,ix2 (show s < 1000 by omega),ix3 (show s < 1000 by omega),List.length_set,hl,i2,i3,u8_of]
 rw[read_pb (by omega),read_pb (by rw[List.length_set];omega)]
theorem implWrite_eq {p c:List UInt8} {s a:Nat} (hp:p.length=64) (hs:s < 16) (h:a+c.length<=64):impl_write.sem (p,(s:Int),(a:Int),c,())=some (stand p s a c,()):=by
 refine lift_eq (k:=0) fun k _=>(impl_write.raw_eq k _).trans ?_
 show impl_write.p _=_
 unfold impl_write.p stand
 have h1:(0:Int)<=(a:Int)/\(a:Int)<=(p.length:Int):=by omega
 have hm:min c.length (p.length - a)=c.length:=by omega
 have hl:(over p a c.length c).length=64:=by rw[over_length _ _ (by omega) (Nat.le_refl _),hp]
 have i2:(0:Int)<=((2+2*s:Nat):Int)/\((2+2*s:Nat):Int) < ((64:Nat):Int):=by omega
 have i3:(0:Int)<=((3+2*s:Nat):Int)/\((3+2*s:Nat):Int) < ((64:Nat):Int):=by omega
 simp only[implCopied_eq p (by omega),Option.bind_some,h1,and_self,if_true,Int.toNat_natCast,hm,ix2 (show s < 1000 by omega),ix3 (show s < 1000 by omega),List.length_set,hl,i2,i3,u8_of]
 rw[read_pb (by omega),read_pb (by rw[List.length_set];omega)]
section
variable {p:List UInt8} (hp:PageOk p) (c:List UInt8) (hc1:1<=c.length) (hc:c.length<=20)
include hp hc1 hc
theorem gPut_key:∀ m:Nat,moreF p=m->m<=1->¬ (emptyF p=pn p/\16<=pn p)->emptyF p < 16->∀ (d:Int),d=2*(m:Int)->∀ (e:Int),e=((pn p+m:Nat):Int) ->
   (bif decide (freeF p < w64 ((c.length:Int)+d)) then (some (([]:List UInt8),(0:Int),(9:Int),()):Option spec_l2Put.Out) else
    bif decide (w64 ((plo p:Int) - (c.length:Int)) < w64 ((2:Int)+w64 ((2:Int)*e))) then some (([]:List UInt8),(0:Int),(8:Int),()) else
     if 0<=(0:Int)/\(0:Int) < (p.length:Int) then ((p[0]?).bind fun x18=>if 0<=(1:Int)/\(1:Int) < ((p.set 0 (UInt8.ofInt e)).length:Int) then (((p.set 0 (UInt8.ofInt e))[1]?).bind fun x19=>(spec_l2Stand.sem ((p.set 0 (UInt8.ofInt e)).set 1 (UInt8.ofInt (w64 ((plo p:Int) - (c.length:Int)))),(emptyF p:Int),w64 ((plo p:Int) - (c.length:Int)),c,())).bind fun r21=>some (r21.1,(emptyF p:Int),(0:Int),())) else none) else none) =
    some (if putF p c=0 then putQ p c else [],if putF p c=0 then (emptyF p:Int) else 0,putF p c,()):=by
 intro m hm hm1 hno he d hd e hee
 have hn:=hp.n
 have hlo:=hp.lo
 have hhi:=hp.hi
 obtain ⟨e1,e2,e3⟩:=emptyF_spec p
 obtain ⟨f1,f2⟩:=free_ok hp
 subst hd;subst hee
 unfold putF
 rw[if_neg hno,hm]
 have w1:w64 ((c.length:Int)+2*(m:Int))=(c.length:Int)+2*(m:Int):=w64_in (by omega)
 rw[w1]
 by_cases c1:freeF p < (c.length:Int)+2*(m:Int)
 ·simp only[c1,decide_true,cond_true,if_true,show ¬ ((9:Int)=0) by decide,if_false]
 have w2:w64 ((plo p:Int) - (c.length:Int))=(plo p:Int) - (c.length:Int):=w64_in (by omega)
 have w3:w64 ((2:Int)+w64 ((2:Int)*((pn p+m:Nat):Int)))=((2+2*(pn p+m):Nat):Int):=ix2 (by omega)
 simp only[c1,decide_false,cond_false,if_false,w2,w3]
 by_cases c2:plo p < 2+2*(pn p+m)+c.length
 ·have:(plo p:Int) - (c.length:Int) < ((2+2*(pn p+m):Nat):Int):=by omega
  simp only[c2,this,decide_true,cond_true,if_true,show ¬ ((8:Int)=0) by decide,if_false]
 have n2:¬ ((plo p:Int) - (c.length:Int) < ((2+2*(pn p+m):Nat):Int)):=by omega
 have hl:=hp.len
 have g1:(0:Int)<=0/\(0:Int) < (p.length:Int):=by omega
 have g2:(0:Int)<=1/\(1:Int) < (p.length:Int):=by omega
 have w4:(plo p:Int) - (c.length:Int)=((plo p - c.length:Nat):Int):=by omega
 have n4:¬ (((plo p - c.length:Nat):Int) < ((2+2*(pn p+m):Nat):Int)):=by omega
 simp only[c2,n4,decide_false,cond_false,if_false,g1,g2,and_self,if_true,List.length_set,w4,u8_of]
 rw[read_pb (by omega),read_pb (by rw[List.length_set];omega)]
 rw[specStand_eq (by rw[List.length_set,List.length_set];omega) he (by omega)]
 simp only[Option.bind_some]
 have:stand ((p.set 0 (UInt8.ofNat (pn p+m))).set 1 (UInt8.ofNat (plo p - c.length))) (emptyF p) (plo p - c.length) c=putQ p c:=by
  unfold putQ
  rw[hm]
  have hl1:(stand p (emptyF p) (plo p - c.length) c).length=64:=stand_len hl _ (by omega)
  refine pb_ext ?_ fun j hj=>?_
  ·rw[stand_len (by rw[List.length_set,List.length_set];omega) _ (by omega),List.length_set,List.length_set,hl1]
  rw[stand_pb (by rw[List.length_set,List.length_set];omega) (by omega) he,pb_set,pb_set,pb_set,pb_set,stand_pb hl (by omega) he]
  simp only[List.length_set,hl,hl1]
  have o1:2+2*emptyF p<=plo p - c.length:=by
   unfold moreF at hm
   split at hm <;> omega
  by_cases j0:j=0
  ·subst j0
   rw[if_neg (by omega),if_neg (by omega),if_neg (by omega),if_neg (by omega),if_pos ⟨rfl,by omega⟩,if_neg (by omega),if_pos ⟨rfl,by omega⟩]
  ·by_cases j1:j=1
   ·subst j1
    rw[if_neg (by omega),if_neg (by omega),if_neg (by omega),if_pos ⟨rfl,by omega⟩,if_pos ⟨rfl,by omega⟩]
   ·have k0:¬ (0=j/\0 < 64):=by omega
    have k1:¬ (1=j/\1 < 64):=by omega
    simp only[k0,k1,if_false]
 rw[this]
theorem gPut_eq:spec_l2Put.sem (p,c,())=some (if putF p c=0 then putQ p c else [],if putF p c=0 then (emptyF p:Int) else 0,putF p c,()):=by
 have hn:=hp.n
 have hlo:=hp.lo
 have hhi:=hp.hi
 obtain ⟨e1,e2,e3⟩:=emptyF_spec p
 refine lift_eq (k:=0) fun k _=>(spec_l2Put.raw_eq k _).trans ?_
 show spec_l2Put.p _=_
 unfold spec_l2Put.p
 obtain ⟨f1,f2⟩:=free_ok hp
 simp only[specEmpty_eq hp,pCount_eq hp.len,specFree_eq hp,pLow_eq hp.len,specCopy_eq p (by have:=hp.len;omega),Option.bind_some]
 by_cases he:emptyF p=pn p
 ·have he':(emptyF p:Int)=(pn p:Int):=by omega
  rw[decide_eq_true he',cond_true]
  by_cases h16:16<=pn p
  ·have h16':(16:Int)<=(pn p:Int):=by omega
   have:putF p c=2:=by unfold putF;rw[if_pos ⟨he,h16⟩]
   simp only[h16',decide_true,cond_true,this,show ¬ ((2:Int)=0) by decide,if_false]
  ·have h16':¬ (16:Int)<=(pn p:Int):=by omega
   simp only[h16',decide_false,cond_false]
   have hw:w64 ((pn p:Int)+1)=((pn p+1:Nat):Int):=by rw[w64_in (by omega)];omega
   have:=gPut_key hp c hc1 hc 1 (by unfold moreF;rw[if_pos he]) (by omega) (fun h=>h16 h.2) (by omega) 2 (by omega) (w64 ((pn p:Int)+1)) hw
   exact this
 ·have he':¬ ((emptyF p:Int)=(pn p:Int)):=by omega
  simp only[he',decide_false,cond_false]
  exact gPut_key hp c hc1 hc 0 (by unfold moreF;rw[if_neg he]) (by omega) (fun h=>he h.1) (by omega) 0 (by omega) (pn p:Int) (by omega)
end
end OT
set_option linter.unusedVariables false
set_option linter.unusedSimpArgs false
set_option linter.unusedSectionVars false
namespace OT
open Go
section
variable {p:List UInt8} (hp:PageOk p) (c:List UInt8) (hc1:1<=c.length) (hc:c.length<=20)
include hp hc1 hc
theorem cellFault_eq:impl_cellFault.sem (p,c,())=some ((0:Int),()):=by
 refine lift_eq (k:=0) fun k _=>(impl_cellFault.raw_eq k _).trans ?_
 show impl_cellFault.p _=_
 unfold impl_cellFault.p
 rw[implPage_eq p (by rw[hp.len,maxLen_val];omega),pageF_iff.2 hp]
 have n1:¬ ((c.length:Int) < 1):=by omega
 have n2:¬ ((20:Int) < (c.length:Int)):=by omega
 simp only[Option.bind_some,n1,n2,decide_false,decide_true,Bool.not_true,cond_false]
theorem implPut_eq:impl_PutSlot.sem (p,c,())=some ((putF p c,if putF p c=0 then (emptyF p:Int) else 0,if putF p c=0 then putQ p c else [],()),()):=by
 have hn:=hp.n
 have hlo:=hp.lo
 have hhi:=hp.hi
 have hl:=hp.len
 obtain ⟨e1,e2,e3⟩:=emptyF_spec p
 obtain ⟨f1,f2⟩:=free_ok hp
 refine lift_eq (k:=100) fun k hk=>(impl_PutSlot.raw_eq k _).trans ?_
 unfold impl_PutSlot.p
 simp only[cellFault_eq hp c hc1 hc,pSlots_eq hp.len,Option.bind_some,decide_true,Bool.not_true,cond_false]
 have:=range_loop (B:=fun self v=>impl_PutSlot.B0 k self (fun z=>impl_PutSlot.Q0 k (p,c,()) (pn p:Int) z) (p,c,()) (pn p:Int) v) (pn p) (fun (_:Unit) (i:Int)=>i) (fun x _=>if psz p x=0 then .inl (impl_PutSlot.Q0 k (p,c,()) (pn p:Int) (x:Int)) else .inr ()) (fun _=>impl_PutSlot.Q0 k (p,c,()) (pn p:Int) (pn p:Int)) (fun _ _=>True) (by omega)
  (fun i hi s self _=>by
   show impl_PutSlot.b0 _ _ _ _ _=_
   unfold impl_PutSlot.b0
   have hlt:(i:Int) < (pn p:Int):=by omega
   simp only[hlt,decide_true,cond_true,ix3 (show i < 1000 by omega),Int.natCast_nonneg,if_true,Int.toNat_natCast,read_pb (show 3+2*i < p.length by omega),(pb_get (show 3+2*i < p.length by omega)).2]
   show (bif !decide ((psz p i:Int)=0) then _ else _)=_
   by_cases hz:psz p i=0
   ·simp only[hz,Int.natCast_zero,decide_true,Bool.not_true,cond_false,if_true]
   ·have:¬ ((psz p i:Int)=0):=by omega
    simp only[hz,this,decide_false,Bool.not_false,cond_true,if_false])
  (fun _ _ _ _ _ _=>trivial) (fun s self _=>by
   show impl_PutSlot.b0 _ _ _ _ _=_
   unfold impl_PutSlot.b0
   simp only[Int.lt_irrefl,decide_false,cond_false]) () trivial k (by omega)
 refine this.trans ?_
 rw[List.range_eq_range']
 have h2:=forI_empty p (fun n=>impl_PutSlot.Q0 k (p,c,()) (pn p:Int) (n:Int)) (pn p) 0 0
 simp only[Nat.zero_add] at h2
 refine h2.trans ?_
 show impl_PutSlot.q0 _ _ (emptyF p:Int)=_
 unfold impl_PutSlot.q0
 simp only[implFree_eq hp,Option.bind_some,read_pb (show 1 < p.length by omega),(pb_get (show 1 < p.length by omega)).2,wpb]
 show (bif decide ((emptyF p:Int)=(pn p:Int)) then _ else _)=_
 have key:∀ m:Nat,moreF p=m->m<=1->¬ (emptyF p=pn p/\16<=pn p)->emptyF p < 16->∀ (d:Int),d=2*(m:Int) ->
   (bif decide (freeF p < w64 ((c.length:Int)+d)) then (some (((9:Int),(0:Int),([]:List UInt8),()),()):Option impl_PutSlot.Out) else
    bif decide (w64 ((plo p:Int) - (w64 ((w64 ((2:Int)+(w64 ((2:Int)*(pn p:Int)))))+d))) < (c.length:Int)) then some (((8:Int),(0:Int),([]:List UInt8),()),()) else
     (impl_write.sem (p,(emptyF p:Int),w64 ((plo p:Int) - (c.length:Int)),c,())).bind fun r619=>if 0<=(0:Int)/\(0:Int) < (r619.1.length:Int) then ((r619.1[0]?).bind fun x620=>let y621:=r619.1.set 0 (UInt8.ofInt (w64 ((pn p:Int)+(w64 (d.tdiv (2:Int))))));if 0<=(1:Int)/\(1:Int) < (y621.length:Int) then ((y621[1]?).bind fun x622=>let y623:=y621.set 1 (UInt8.ofInt (w64 ((plo p:Int) - (c.length:Int))));some (((0:Int),(emptyF p:Int),y623,()),())) else none) else none) =
    some ((putF p c,if putF p c=0 then (emptyF p:Int) else 0,if putF p c=0 then putQ p c else [],()),()):=by
  intro m hm hm1 hno he d hd
  subst hd
  unfold putF
  rw[if_neg hno,hm]
  have w1:w64 ((c.length:Int)+2*(m:Int))=(c.length:Int)+2*(m:Int):=w64_in (by omega)
  rw[w1]
  by_cases c1:freeF p < (c.length:Int)+2*(m:Int)
  ·simp only[c1,decide_true,cond_true,if_true,show ¬ ((9:Int)=0) by decide,if_false]
  have w2:w64 ((plo p:Int) - (c.length:Int))=(plo p:Int) - (c.length:Int):=w64_in (by omega)
  have w3:w64 ((plo p:Int) - (w64 ((w64 ((2:Int)+w64 ((2:Int)*(pn p:Int))))+2*(m:Int))))=(plo p:Int) - ((2+2*(pn p+m):Nat):Int):=by
   rw[ix2 (show pn p < 1000 by omega),w64_in (n:=((2+2*pn p:Nat):Int)+2*(m:Int)) (by omega),w64_in (by omega)]
   omega
  have w5:w64 ((pn p:Int)+w64 ((2*(m:Int)).tdiv 2))=((pn p+m:Nat):Int):=by
   have:(2*(m:Int)).tdiv 2=(m:Int):=by rw[Int.tdiv_eq_ediv_of_nonneg (by omega)];omega
   rw[this,w64_in (n:=(m:Int)) (by omega),w64_in (by omega)]
   omega
  simp only[c1,decide_false,cond_false,if_false,w2,w3,w5]
  by_cases c2:plo p < 2+2*(pn p+m)+c.length
  ·have:(plo p:Int) - ((2+2*(pn p+m):Nat):Int) < (c.length:Int):=by omega
   simp only[c2,this,decide_true,cond_true,if_true,show ¬ ((8:Int)=0) by decide,if_false]
  have n2:¬ ((plo p:Int) - ((2+2*(pn p+m):Nat):Int) < (c.length:Int)):=by omega
  have w4:(plo p:Int) - (c.length:Int)=((plo p - c.length:Nat):Int):=by omega
  have hl1:(stand p (emptyF p) (plo p - c.length) c).length=64:=stand_len hl _ (by omega)
  have g1:(0:Int)<=0/\(0:Int) < ((64:Nat):Int):=by omega
  have g2:(0:Int)<=1/\(1:Int) < ((64:Nat):Int):=by omega
  simp only[c2,n2,decide_false,cond_false,if_false,w4,implWrite_eq hl he (show plo p - c.length+c.length<=64 by omega),Option.bind_some,List.length_set,hl1,g1,g2,and_self,if_true,u8_of]
  rw[read_pb (by omega),read_pb (by rw[List.length_set];omega)]
  unfold putQ
  rw[hm]
 by_cases he:emptyF p=pn p
 ·have he':(emptyF p:Int)=(pn p:Int):=by omega
  rw[decide_eq_true he',cond_true]
  by_cases h16:pn p=16
  ·have h16':(pn p:Int)=16:=by omega
   have:putF p c=2:=by unfold putF;rw[if_pos ⟨he,by omega⟩]
   rw[decide_eq_true h16',cond_true,this,if_neg (by decide),if_neg (by decide)]
  ·have h16':¬ (pn p:Int)=16:=by omega
   rw[decide_eq_false h16',cond_false]
   have:=key 1 (by unfold moreF;rw[if_pos he]) (by omega) (fun h=>h16 (by omega)) (by omega) 2 (by omega)
   exact this
 ·have he':¬ ((emptyF p:Int)=(pn p:Int)):=by omega
  simp only[he',decide_false,cond_false]
  exact key 0 (by unfold moreF;rw[if_neg he]) (by omega) (fun h=>he h.1) (by omega) 0 (by omega)
variable {s:Nat} (hs:s < pn p) (hz:psz p s≠0)
include hs hz
theorem specSet_eq:spec_l2Set.sem (p,(s:Int),c,())=some (if setF p s c=0 then setQ p s c else [],setF p s c,()):=by
 have hn:=hp.n
 have hlo:=hp.lo
 have hhi:=hp.hi
 have hl:=hp.len
 obtain ⟨f1,f2⟩:=free_ok hp
 obtain ⟨s1,s2⟩:=hp.slot s hs hz
 refine lift_eq (k:=0) fun k _=>(spec_l2Set.raw_eq k _).trans ?_
 show spec_l2Set.p _=_
 unfold spec_l2Set.p setF setQ
 simp only[pSize_eq hl (show s < 16 by omega),specCopy_eq p (by omega),pPlace_eq hl (show s < 16 by omega),specFree_eq hp,pLow_eq hl,pCount_eq hl,Option.bind_some]
 by_cases c1:c.length<=psz p s
 ·have c1':(c.length:Int)<=(psz p s:Int):=by omega
  have w1:w64 ((w64 ((pat p s:Int)+(psz p s:Int))) - (c.length:Int))=((pat p s+psz p s - c.length:Nat):Int):=by
   rw[w64_in (n:=(pat p s:Int)+(psz p s:Int)) (by omega),w64_in (by omega)];omega
  simp only[c1,c1',decide_true,cond_true,if_true,w1,specStand_eq hl (show s < 16 by omega) (show pat p s+psz p s - c.length+c.length<=64 by omega),Option.bind_some]
 have c1':¬ (c.length:Int)<=(psz p s:Int):=by omega
 have w2:w64 (freeF p+(psz p s:Int))=freeF p+(psz p s:Int):=w64_in (by omega)
 simp only[c1,c1',decide_false,cond_false,if_false,w2]
 by_cases c2:freeF p+(psz p s:Int) < (c.length:Int)
 ·simp only[c2,decide_true,cond_true,if_true,show ¬ ((9:Int)=0) by decide,if_false]
 have w3:w64 ((plo p:Int) - (c.length:Int))=(plo p:Int) - (c.length:Int):=w64_in (by omega)
 simp only[c2,decide_false,cond_false,if_false,w3,ix2 (show pn p < 1000 by omega)]
 by_cases c3:plo p < 2+2*pn p+c.length
 ·have:(plo p:Int) - (c.length:Int) < ((2+2*pn p:Nat):Int):=by omega
  simp only[c3,this,decide_true,cond_true,if_true,show ¬ ((8:Int)=0) by decide,if_false]
 have n3:¬ ((plo p:Int) - (c.length:Int) < ((2+2*pn p:Nat):Int)):=by omega
 have w4:(plo p:Int) - (c.length:Int)=((plo p - c.length:Nat):Int):=by omega
 have n4:¬ (((plo p - c.length:Nat):Int) < ((2+2*pn p:Nat):Int)):=by omega
 have g2:(0:Int)<=1/\(1:Int) < (p.length:Int):=by omega
 simp only[c3,n4,decide_false,cond_false,if_false,w4,g2,and_self,if_true,u8_of]
 rw[read_pb (by omega),specStand_eq (by rw[List.length_set];omega) (by omega) (by omega)]
 simp only[Option.bind_some]
 have:stand (p.set 1 (UInt8.ofNat (plo p - c.length))) s (plo p - c.length) c=(stand p s (plo p - c.length) c).set 1 (UInt8.ofNat (plo p - c.length)):=by
  have hl1:(stand p s (plo p - c.length) c).length=64:=stand_len hl _ (by omega)
  refine pb_ext ?_ fun j hj=>?_
  ·rw[stand_len (by rw[List.length_set];omega) _ (by omega),List.length_set,hl1]
  rw[stand_pb (by rw[List.length_set];omega) (by omega) (by omega),pb_set,pb_set,stand_pb hl (by omega) (by omega),hl1,hl]
  by_cases j1:j=1
  ·subst j1
   rw[if_neg (by omega),if_neg (by omega),if_neg (by omega),if_pos ⟨rfl,by omega⟩,if_pos ⟨rfl,by omega⟩]
  ·have k1:¬ (1=j/\1 < 64):=by omega
   simp only[k1,if_false]
 rw[this]
theorem implSet_eq:impl_SetSlot.sem (p,(s:Int),c,())=some ((setF p s c,if setF p s c=0 then (s:Int) else 0,if setF p s c=0 then setQ p s c else [],()),()):=by
 have hn:=hp.n
 have hlo:=hp.lo
 have hhi:=hp.hi
 have hl:=hp.len
 obtain ⟨f1,f2⟩:=free_ok hp
 obtain ⟨s1,s2⟩:=hp.slot s hs hz
 refine lift_eq (k:=0) fun k _=>(impl_SetSlot.raw_eq k _).trans ?_
 show impl_SetSlot.p _=_
 unfold impl_SetSlot.p setF setQ
 have hhas:(decide (s < pn p)&&!decide (psz p s=0))=true:=by simp[hs,hz]
 simp only[cellFault_eq hp c hc1 hc,implHas_eq hp s,hhas,pSpot_eq hl (show s < 16 by omega),implFree_eq hp,pSlots_eq hl,Option.bind_some,decide_true,Bool.not_true,cond_false,read_pb (show 1 < p.length by omega),(pb_get (show 1 < p.length by omega)).2,wpb]
 by_cases c1:c.length<=psz p s
 ·have c1':(c.length:Int)<=(psz p s:Int):=by omega
  have w1:w64 ((w64 ((pat p s:Int)+(psz p s:Int))) - (c.length:Int))=((pat p s+psz p s - c.length:Nat):Int):=by
   rw[w64_in (n:=(pat p s:Int)+(psz p s:Int)) (by omega),w64_in (by omega)];omega
  simp only[c1,c1',decide_true,cond_true,if_true,w1,implWrite_eq hl (show s < 16 by omega) (show pat p s+psz p s - c.length+c.length<=64 by omega),Option.bind_some]
 have c1':¬ (c.length:Int)<=(psz p s:Int):=by omega
 have w2:w64 (freeF p+(psz p s:Int))=freeF p+(psz p s:Int):=w64_in (by omega)
 simp only[c1,c1',decide_false,cond_false,if_false,w2]
 by_cases c2:freeF p+(psz p s:Int) < (c.length:Int)
 ·simp only[c2,decide_true,cond_true,if_true,show ¬ ((9:Int)=0) by decide,if_false]
 have e1:pb p 1=plo p:=rfl
 have w3:w64 ((plo p:Int) - (c.length:Int))=(plo p:Int) - (c.length:Int):=w64_in (by omega)
 have w5:w64 ((plo p:Int) - ((2+2*pn p:Nat):Int))=(plo p:Int) - ((2+2*pn p:Nat):Int):=w64_in (by omega)
 simp only[c2,decide_false,cond_false,if_false,e1,w3,ix2 (show pn p < 1000 by omega),w5]
 by_cases c3:plo p < 2+2*pn p+c.length
 ·have:(plo p:Int) - ((2+2*pn p:Nat):Int) < (c.length:Int):=by omega
  simp only[c3,this,decide_true,cond_true,if_true,show ¬ ((8:Int)=0) by decide,if_false]
 have n3:¬ ((plo p:Int) - ((2+2*pn p:Nat):Int) < (c.length:Int)):=by omega
 have w4:(plo p:Int) - (c.length:Int)=((plo p - c.length:Nat):Int):=by omega
 have hl1:(stand p s (plo p - c.length) c).length=64:=stand_len hl _ (by omega)
 have g2:(0:Int)<=1/\(1:Int) < ((64:Nat):Int):=by omega
 simp only[c3,n3,decide_false,cond_false,if_false,w4,implWrite_eq hl (show s < 16 by omega) (show plo p - c.length+c.length<=64 by omega),Option.bind_some,hl1,g2,and_self,if_true,u8_of]
 rw[read_pb (by omega)]
end
def trimQ (v:List UInt8):List UInt8:=v.set 0 (UInt8.ofNat (trimN v (pn v)))
theorem trimN_same {v w:List UInt8} (h:∀ i,psz v i=psz w i):∀ m,trimN v m=trimN w m
 | 0=>rfl
 | m+1=>by simp only[trimN,h,trimN_same h m]
theorem trim_step {v:List UInt8} (hl:v.length=64) (h0:0 < pn v) (hz:psz v (pn v - 1)=0):trimQ (v.set 0 (UInt8.ofNat (pn v - 1)))=trimQ v/\pn (v.set 0 (UInt8.ofNat (pn v - 1)))=pn v - 1:=by
 have hlt:pn v < 256:=pb_lt v 0
 have hpn:pn (v.set 0 (UInt8.ofNat (pn v - 1)))=pn v - 1:=by
  show pb _ 0=_
  rw[pb_set,if_pos ⟨rfl,by omega⟩,ofNat_toNat (by omega)]
 refine ⟨?_,hpn⟩
 have hs:∀ i,psz (v.set 0 (UInt8.ofNat (pn v - 1))) i=psz v i:=fun i=>by
  show pb _ _=pb _ _
  rw[pb_set,if_neg (by omega)]
 unfold trimQ
 rw[hpn,trimN_same hs,List.set_set]
 obtain ⟨n,hn⟩:∃ n,pn v=n+1:=⟨pn v - 1,by omega⟩
 rw[hn] at hz ⊢
 simp only[trimN,Nat.add_sub_cancel] at hz ⊢
 rw[if_pos hz]
theorem trim_stop {v:List UInt8} (h:pn v=0\/psz v (pn v - 1)≠0):trimQ v=v:=by
 unfold trimQ
 refine set_same ?_ ?_
 ·show pn v=_
  rcases h with h | h
  ·rw[h];rfl
  ·by_cases h0:pn v=0
   ·rw[h0];rfl
   obtain ⟨n,hn⟩:∃ n,pn v=n+1:=⟨pn v - 1,by omega⟩
   rw[hn] at h ⊢
   simp only[trimN,Nat.add_sub_cancel] at h ⊢
   rw[if_neg h]
 ·have:=(trimN_spec v (pn v)).1
  have hlt:pn v < 256:=pb_lt v 0
  omega
theorem u8_pred {v:List UInt8} (hl:v.length=64) (h0:0 < pn v):UInt8.ofInt ((((v[0]'(by omega)).toNat:Nat):Int) - 1)=UInt8.ofNat (pn v - 1):=by
 have h1:(v[0]'(by omega)).toNat=pn v:=(pb_get (show 0 < v.length by omega)).2
 rw[h1]
 have:((pn v:Nat):Int) - 1=((pn v - 1:Nat):Int):=by omega
 rw[this]
 exact u8_of _
section
variable {p:List UInt8} (hp:PageOk p) {s:Nat} (hs:s < pn p)
include hp hs
theorem drop0_len:(drop0 p s).length=64:=by unfold drop0;rw[List.length_set,List.length_set,hp.len]
theorem drop0_pn:pn (drop0 p s)=pn p:=by
 show pb _ 0=pb _ 0
 unfold drop0
 rw[pb_set,if_neg (by omega),pb_set,if_neg (by omega)]
theorem dropQ_trim:dropQ p s=trimQ (drop0 p s):=by unfold dropQ trimQ;rw[drop0_pn hp hs]
theorem specDrop_eq:spec_l2Drop.sem (p,(s:Int),())=some (dropQ p s,()):=by
 have hn:=hp.n
 have hl:=hp.len
 refine lift_eq (k:=100) fun k hk=>(spec_l2Drop.raw_eq k _).trans ?_
 unfold spec_l2Drop.p
 have i2:(0:Int)<=((2+2*s:Nat):Int)/\((2+2*s:Nat):Int) < (p.length:Int):=by omega
 have i3:(0:Int)<=((3+2*s:Nat):Int)/\((3+2*s:Nat):Int) < (p.length:Int):=by omega
 simp only[specCopy_eq p (by omega),Option.bind_some,ix2 (show s < 1000 by omega),ix3 (show s < 1000 by omega),i2,i3,and_self,if_true,Int.toNat_natCast,List.length_set]
 rw[read_pb (by omega),read_pb (by rw[List.length_set];omega),dropQ_trim hp hs]
 have hd:=drop0_pn hp hs
 refine rawIter_eq (fun v=>(trimQ v,())) (fun v=>v.length=64/\pn v<=16) pn (fun v ⟨hv,hvn⟩ self=>?_) k (drop0 p s) ⟨drop0_len hp hs,by omega⟩ (by omega)
 show spec_l2Drop.b0 _ _ _ _=_\/∃ v',spec_l2Drop.b0 _ _ _ _=_/\_
 unfold spec_l2Drop.b0
 have g:(0:Int)<=0/\(0:Int) < (v.length:Int):=by omega
 have e0:((v[0]'(by omega)).toNat:Nat)=pn v:=(pb_get (show 0 < v.length by omega)).2
 simp only[g,and_self,if_true,read_pb (show 0 < v.length by omega)]
 by_cases h0:pn v=0
 ·left
  have:¬ ((0:Int) < (((v[0]'(by omega)).toNat:Nat):Int)):=by rw[e0];omega
  rw[decide_eq_false this,trim_stop (Or.inl h0)]
  rfl
 have h1:(0:Int) < (((v[0]'(by omega)).toNat:Nat):Int):=by rw[e0];omega
 have hw:w64 ((w64 (((v[0]'(by omega)).toNat:Nat):Int)) - 1)=((pn v - 1:Nat):Int):=by
  rw[e0,w64_in (n:=((pn v:Nat):Int)) (by omega),w64_in (by omega)];omega
 rw[decide_eq_true h1,hw,pSize_eq hv (show pn v - 1 < 16 by omega)]
 simp only[Option.bind_some,cond_true]
 by_cases hz:psz v (pn v - 1)=0
 ·right
  obtain ⟨t1,t2⟩:=trim_step hv (by omega) hz
  refine ⟨v.set 0 (UInt8.ofNat (pn v - 1)),?_,by rw[t1],⟨by rw[List.length_set,hv],by omega⟩,by omega⟩
  simp only[hz,Int.natCast_zero,decide_true,cond_true]
  rw[u8_pred hv (by omega)]
 ·left
  have:¬ ((psz v (pn v - 1):Int)=0):=by omega
  rw[decide_eq_false this,trim_stop (Or.inr hz)]
  rfl
theorem implDrop_eq (hz:psz p s≠0):impl_DropSlot.sem (p,(s:Int),())=some (((0:Int),(s:Int),dropQ p s,()),()):=by
 have hn:=hp.n
 have hl:=hp.len
 refine lift_eq (k:=100) fun k hk=>(impl_DropSlot.raw_eq k _).trans ?_
 unfold impl_DropSlot.p
 have i2:(0:Int)<=((2+2*s:Nat):Int)/\((2+2*s:Nat):Int) < (p.length:Int):=by omega
 have i3:(0:Int)<=((3+2*s:Nat):Int)/\((3+2*s:Nat):Int) < (p.length:Int):=by omega
 have hhas:(decide (s < pn p)&&!decide (psz p s=0))=true:=by simp[hs,hz]
 rw[implPage_eq p (by rw[hp.len,maxLen_val];omega),pageF_iff.2 hp]
 simp only[implCopied_eq p (by omega),implHas_eq hp s,hhas,Option.bind_some,decide_true,Bool.not_true,cond_false,ix2 (show s < 1000 by omega),ix3 (show s < 1000 by omega),i2,i3,and_self,if_true,Int.toNat_natCast,List.length_set]
 rw[read_pb (by omega),read_pb (by rw[List.length_set];omega),dropQ_trim hp hs]
 have hd:=drop0_pn hp hs
 refine rawIter_eq (fun v=>(((0:Int),(s:Int),trimQ v,()),())) (fun v=>v.length=64/\pn v<=16) pn (fun v ⟨hv,hvn⟩ self=>?_) k (drop0 p s) ⟨drop0_len hp hs,by omega⟩ (by omega)
 show impl_DropSlot.b0 _ _ _ _=_\/∃ v',impl_DropSlot.b0 _ _ _ _=_/\_
 unfold impl_DropSlot.b0
 have g:(0:Int)<=0/\(0:Int) < (v.length:Int):=by omega
 have e0:((v[0]'(by omega)).toNat:Nat)=pn v:=(pb_get (show 0 < v.length by omega)).2
 simp only[g,and_self,if_true,read_pb (show 0 < v.length by omega)]
 by_cases h0:pn v=0
 ·left
  have:¬ ((0:Int) < (((v[0]'(by omega)).toNat:Nat):Int)):=by rw[e0];omega
  rw[decide_eq_false this,trim_stop (Or.inl h0)]
  rfl
 have h1:(0:Int) < (((v[0]'(by omega)).toNat:Nat):Int):=by rw[e0];omega
 have hw:w64 ((w64 ((2:Int)*(w64 (((v[0]'(by omega)).toNat:Nat):Int))))+1)=((3+2*(pn v - 1):Nat):Int):=by
  rw[e0,w64_in (n:=((pn v:Nat):Int)) (by omega),w64_in (n:=(2:Int)*(pn v:Int)) (by omega),w64_in (by omega)];omega
 have g3:(0:Int)<=((3+2*(pn v - 1):Nat):Int)/\((3+2*(pn v - 1):Nat):Int) < (v.length:Int):=by omega
 rw[decide_eq_true h1,hw]
 simp only[g3,and_self,if_true,Int.toNat_natCast,read_pb (show 3+2*(pn v - 1) < v.length by omega),(pb_get (show 3+2*(pn v - 1) < v.length by omega)).2,cond_true]
 show (bif decide ((psz v (pn v - 1):Int)=0) then _ else _)=_\/∃ v',(bif decide ((psz v (pn v - 1):Int)=0) then _ else _)=_/\_
 by_cases hz:psz v (pn v - 1)=0
 ·right
  obtain ⟨t1,t2⟩:=trim_step hv (by omega) hz
  refine ⟨v.set 0 (UInt8.ofNat (pn v - 1)),?_,by rw[t1],⟨by rw[List.length_set,hv],by omega⟩,by omega⟩
  simp only[hz,Int.natCast_zero,decide_true,cond_true]
  rw[u8_pred hv (by omega)]
 ·left
  have:¬ ((psz v (pn v - 1):Int)=0):=by omega
  rw[decide_eq_false this,trim_stop (Or.inr hz)]
  rfl
end
end OT
set_option linter.unusedVariables false
set_option linter.unusedSimpArgs false
set_option linter.unusedSectionVars false
namespace OT
open Go
theorem pb_app (a b:List UInt8) (j:Nat):pb (a++b) j=if j < a.length then pb a j else pb b (j - a.length):=by
 unfold pb
 simp only[List.getD_eq_getElem?_getD]
 split
 ·rename_i h;rw[List.getElem?_append_left h]
 ·rename_i h;rw[List.getElem?_append_right (by omega)]
theorem pb_zero (n j:Nat):pb (List.replicate n (0:UInt8)) j=0:=by
 unfold pb
 simp only[List.getD_eq_getElem?_getD,List.getElem?_replicate]
 split <;> rfl
section
variable {p:List UInt8} (hp:PageOk p)
include hp
theorem comp0_eq:over (List.replicate 64 (0:UInt8)) 0 (min ((p.take (2+2*pn p)).drop 0).length (List.replicate 64 (0:UInt8)).length) ((p.take (2+2*pn p)).drop 0)=comp0 p:=by
 have hn:=hp.n
 have hl:=hp.len
 have ht:(p.take (2+2*pn p)).length=2+2*pn p:=by rw[List.length_take];omega
 rw[List.drop_zero,List.length_replicate,show min (p.take (2+2*pn p)).length 64=(p.take (2+2*pn p)).length by omega]
 refine pb_ext ?_ fun j hj=>?_
 ·rw[over_length _ _ (by rw[List.length_replicate];omega) (Nat.le_refl _)]
  unfold comp0
  rw[List.length_append,List.length_replicate,List.length_replicate];omega
 ·rw[pb_over (by rw[List.length_replicate];omega)]
  unfold comp0
  rw[pb_app,ht,pb_zero,pb_zero]
  by_cases h:j < 2+2*pn p
  ·rw[if_pos ⟨by omega,by omega⟩,if_pos h,Nat.sub_zero]
  ·rw[if_neg (by omega),if_neg h]
theorem comp_at {k:Nat} (hk:k < pn p) (hz:psz p k≠0):(compL p k).1.length=64/\psz p k<=(compL p k).2/\(compL p k).2<=64/\psz (compL p k).1 k=psz p k/\2+2*pn p<=(compL p k).2 - psz p k:=by
 have I:=comp_inv hp k (by omega)
 have hroom:=sum_room hp
 have hm:=sumZ_mono p (show k+1<=pn p from hk)
 have hlo:=hp.lo
 have ha:=I.a
 simp only[sumZ] at hm
 exact ⟨I.len,by omega,by omega,I.sz k hk,by omega⟩
theorem comp_end:(compL p (pn p)).1.length=64/\(compL p (pn p)).2<=64:=by
 have I:=comp_inv hp (pn p) (Nat.le_refl _)
 have ha:=I.a
 exact ⟨I.len,by omega⟩
theorem specComp_eq:spec_l2Compact.sem (p,())=some (compQ p,()):=by
 have hn:=hp.n
 have hl:=hp.len
 refine lift_eq (k:=100) fun k hk=>(spec_l2Compact.raw_eq k _).trans ?_
 unfold spec_l2Compact.p
 have g1:(0:Int)<=64/\(64:Int)<=64/\(64:Int)<=(CAP:Int):=by unfold CAP;omega
 have g2:(0:Int)<=((2+2*pn p:Nat):Int)/\((2+2*pn p:Nat):Int)<=(p.length:Int):=by omega
 simp only[pCount_eq hl,Option.bind_some,ix2 (show pn p < 1000 by omega),g1,g2,and_self,if_true,Int.toNat_natCast]
 rw[comp0_eq hp]
 have:=range_loop (B:=fun self v=>spec_l2Compact.B0 k self (fun z=>spec_l2Compact.Q0 k (p,()) (pn p:Int) z) (p,()) (pn p:Int) v) (pn p) (fun (s:List UInt8×Nat) (i:Int)=>(s.1,(s.2:Int),i)) (fun x s=>.inr (compS p s x)) (fun s=>some (s.1.set 1 (UInt8.ofNat s.2),())) (fun i s=>s=compL p i) (by omega)
  (fun i hi s self hs=>by
   subst hs
   show spec_l2Compact.b0 _ _ _ _ _=_
   unfold spec_l2Compact.b0 compS
   have hlt:(i:Int) < (pn p:Int):=by omega
   simp only[hlt,decide_true,cond_true,pSize_eq hl (show i < 16 by omega),Option.bind_some]
   by_cases hz:psz p i=0
   ·simp only[hz,Int.natCast_zero,decide_true,cond_true,if_true]
   ·have hz':¬ ((psz p i:Int)=0):=by omega
    obtain ⟨c1,c2,c3,c4,c5⟩:=comp_at hp hi hz
    have hcl:=cellP_len hp hi
    have hw:w64 (((compL p i).2:Int) - (psz p i:Int))=(((compL p i).2 - psz p i:Nat):Int):=by rw[w64_in (by omega)];omega
    simp only[hz,hz',decide_false,cond_false,if_false,specCellAt_eq hp hi,Option.bind_some,hcl,hw,specStand_eq c1 (show i < 16 by omega) (show (compL p i).2 - psz p i+(cellP p i).length<=64 by omega)])
  (fun i hi s s' hs hf=>by injection hf with hf;subst hf;rw[hs,compL_succ]) (fun s self hs=>by
   subst hs
   obtain ⟨c1,c2⟩:=comp_end hp
   show spec_l2Compact.b0 _ _ _ _ _=_
   unfold spec_l2Compact.b0
   simp only[Int.lt_irrefl,decide_false,cond_false]
   show spec_l2Compact.q0 _ _ _=_
   unfold spec_l2Compact.q0
   have g:(0:Int)<=1/\(1:Int) < ((compL p (pn p)).1.length:Int):=by omega
   simp only[g,and_self,if_true,u8_of]
   rw[read_pb (by omega)]) (comp0 p,64) rfl k (by omega)
 rw[forI_fold (g:=fun s x=>compS p s x)] at this
 exact this
theorem implComp_eq:impl_CompactPage.sem (p,())=some (((0:Int),(0:Int),compQ p,()),()):=by
 have hn:=hp.n
 have hl:=hp.len
 refine lift_eq (k:=100) fun k hk=>(impl_CompactPage.raw_eq k _).trans ?_
 unfold impl_CompactPage.p
 have g1:(0:Int)<=64/\(64:Int)<=64/\(64:Int)<=(CAP:Int):=by unfold CAP;omega
 have g2:(0:Int)<=((2+2*pn p:Nat):Int)/\((2+2*pn p:Nat):Int)<=(p.length:Int):=by omega
 rw[implPage_eq p (by rw[hp.len,maxLen_val];omega),pageF_iff.2 hp]
 simp only[pSlots_eq hl,Option.bind_some,decide_true,Bool.not_true,cond_false,ix2 (show pn p < 1000 by omega),g1,g2,and_self,if_true,Int.toNat_natCast]
 rw[comp0_eq hp]
 have:=range_loop (B:=fun self v=>impl_CompactPage.B0 k self (fun z=>impl_CompactPage.Q0 k (p,()) (pn p:Int) z) (p,()) (pn p:Int) v) (pn p) (fun (s:List UInt8×Nat) (i:Int)=>(s.1,(s.2:Int),i)) (fun x s=>.inr (compS p s x)) (fun s=>some (((0:Int),(0:Int),s.1.set 1 (UInt8.ofNat s.2),()),())) (fun i s=>s=compL p i) (by omega)
  (fun i hi s self hs=>by
   subst hs
   show impl_CompactPage.b0 _ _ _ _ _=_
   unfold impl_CompactPage.b0 compS
   have hlt:(i:Int) < (pn p:Int):=by omega
   simp only[hlt,decide_true,cond_true,implHas_eq hp i,Option.bind_some]
   by_cases hz:psz p i=0
   ·simp only[hz,decide_true,Bool.not_true,Bool.and_false,Bool.not_false,cond_true,if_true]
   ·obtain ⟨c1,c2,c3,c4,c5⟩:=comp_at hp hi hz
    have hcl:=cellP_len hp hi
    have hw:w64 (((compL p i).2:Int) - (psz p i:Int))=(((compL p i).2 - psz p i:Nat):Int):=by rw[w64_in (by omega)];omega
    have hhas:(decide (i < pn p)&&!decide (psz p i=0))=true:=by simp[hi,hz]
    have g3:(0:Int)<=(((compL p i).2 - psz p i:Nat):Int)/\(((compL p i).2 - psz p i:Nat):Int)<=((compL p i).1.length:Int):=by omega
    have hm:min (psz p i) ((compL p i).1.length - ((compL p i).2 - psz p i))=psz p i:=by omega
    have hol:(over (compL p i).1 ((compL p i).2 - psz p i) (psz p i) (cellP p i)).length=64:=by rw[over_length _ _ (by omega) (by omega),c1]
    have g4:(0:Int)<=((2+2*i:Nat):Int)/\((2+2*i:Nat):Int) < ((64:Nat):Int):=by omega
    rw[hhas]
    simp only[Bool.not_true,cond_false,if_neg hz,implCellAt_eq hp hi,Option.bind_some,hcl,hw,g3,and_self,if_true,Int.toNat_natCast,hm,ix2 (show i < 1000 by omega),hol,g4,u8_of]
    rw[read_pb (by omega)]
    have hst:stand (compL p i).1 i ((compL p i).2 - psz p i) (cellP p i)=(over (compL p i).1 ((compL p i).2 - psz p i) (psz p i) (cellP p i)).set (2+2*i) (UInt8.ofNat ((compL p i).2 - psz p i)):=by
     unfold stand
     rw[hcl]
     refine set_same ?_ (by omega)
     rw[pb_set,if_neg (by omega),<- hcl,pb_over (by omega),if_neg (by omega),hcl]
     exact c4
    rw[hst])
  (fun i hi s s' hs hf=>by injection hf with hf;subst hf;rw[hs,compL_succ]) (fun s self hs=>by
   subst hs
   obtain ⟨c1,c2⟩:=comp_end hp
   show impl_CompactPage.b0 _ _ _ _ _=_
   unfold impl_CompactPage.b0
   simp only[Int.lt_irrefl,decide_false,cond_false]
   show impl_CompactPage.q0 _ _ _=_
   unfold impl_CompactPage.q0
   have g:(0:Int)<=1/\(1:Int) < ((compL p (pn p)).1.length:Int):=by omega
   simp only[g,and_self,if_true,u8_of]
   rw[read_pb (by omega)]) (comp0 p,64) rfl k (by omega)
 rw[forI_fold (g:=fun s x=>compS p s x)] at this
 exact this
end
end OT
set_option linter.unusedVariables false
set_option linter.unusedSimpArgs false
namespace OT
open Go
theorem implNew_eq:impl_newPage.sem ((0:UInt8),())=some (newF,()):=by
 refine lift_eq (k:=66) fun k hk=>(impl_newPage.raw_eq k _).trans ?_
 unfold impl_newPage.p
 have:=for_loop (B:=fun self v=>impl_newPage.B0 0 self (fun z=>impl_newPage.Q0 0 ((0:UInt8),()) z) ((0:UInt8),()) v) (List.replicate 64 (0:UInt8)) (fun (s:List UInt8) (i:Int)=>(s,i)) (fun _ s _=>.inr s) (fun s=>(newF,())) (fun _ s=>s=List.replicate 64 (0:UInt8)) (by rw[maxLen_val];simp)
  (fun i hi s self hI=>by
   show impl_newPage.b0 _ _ _ _=_
   unfold impl_newPage.b0
   subst hI
   simp only[List.length_replicate] at hi ⊢
   have hlt:(i:Int) < ((64:Nat):Int):=by omega
   have hin:(0:Int)<=(i:Int)/\(i:Int) < ((64:Nat):Int):=by omega
   have hg:(List.replicate 64 (0:UInt8))[i]?=some 0:=(List.getElem?_replicate (n:=64) (i:=i) (a:=(0:UInt8))).trans (if_pos hi)
   have hs:(List.replicate 64 (0:UInt8)).set i 0=List.replicate 64 (0:UInt8):=List.set_replicate_self
   simp only[hlt,hin,and_self,decide_true,cond_true,if_true,Int.toNat_natCast,hg,Option.bind_some,hs])
  (fun i hi s s' hI hs=>by injection hs with hs;rw[<-hs,hI]) (fun s self hI=>by
   show impl_newPage.b0 _ _ _ _=_
   unfold impl_newPage.b0
   subst hI
   simp only[List.length_replicate,Int.lt_irrefl,decide_false,cond_false]
   rfl) (List.replicate 64 (0:UInt8)) rfl k (by simp;omega)
 rw[forI_fold (g:=fun s _=>s)] at this
 have hc:(0:Int)<=64/\(64:Int)<=64/\(64:Int)<=(CAP:Int):=⟨by omega,by omega,by simp only[CAP];omega⟩
 rw[if_pos hc]
 exact this
theorem specNew_eq:spec_l2New.sem ((0:UInt8),())=some (newF,()):=by
 refine lift_eq (k:=66) fun k hk=>(spec_l2New.raw_eq k _).trans ?_
 unfold spec_l2New.p
 have:=for_loop (B:=fun self v=>spec_l2New.B0 0 self (fun z=>spec_l2New.Q0 0 ((0:UInt8),()) z) ((0:UInt8),()) v) (List.replicate 64 (0:UInt8)) (fun (s:List UInt8) (i:Int)=>(s,i)) (fun _ s _=>.inr s) (fun s=>(newF,())) (fun _ s=>s=List.replicate 64 (0:UInt8)) (by rw[maxLen_val];simp)
  (fun i hi s self hI=>by
   show spec_l2New.b0 _ _ _ _=_
   unfold spec_l2New.b0
   subst hI
   simp only[List.length_replicate] at hi ⊢
   have hlt:(i:Int) < (64:Int):=by omega
   have hin:(0:Int)<=(i:Int)/\(i:Int) < ((64:Nat):Int):=by omega
   have hg:(List.replicate 64 (0:UInt8))[i]?=some 0:=(List.getElem?_replicate (n:=64) (i:=i) (a:=(0:UInt8))).trans (if_pos hi)
   have hs:(List.replicate 64 (0:UInt8)).set i 0=List.replicate 64 (0:UInt8):=List.set_replicate_self
   simp only[hlt,hin,and_self,decide_true,cond_true,if_true,Int.toNat_natCast,hg,Option.bind_some,hs])
  (fun i hi s s' hI hs=>by injection hs with hs;rw[<-hs,hI]) (fun s self hI=>by
   show spec_l2New.b0 _ _ _ _=_
   unfold spec_l2New.b0
   subst hI
   have:¬ (((64:Nat):Int) < 64):=by omega
   simp only[List.length_replicate,this,decide_false,cond_false]
   rfl) (List.replicate 64 (0:UInt8)) rfl k (by simp;omega)
 rw[forI_fold (g:=fun s _=>s)] at this
 have hc:(0:Int)<=64/\(64:Int)<=64/\(64:Int)<=(CAP:Int):=⟨by omega,by omega,by simp only[CAP];omega⟩
 rw[if_pos hc]
 exact this
end OT
set_option linter.unusedVariables false
set_option linter.unusedSimpArgs false
set_option linter.unusedSectionVars false
namespace OT
open Go
def pgAt (ps:Pgs) (P:Nat):List UInt8:=ps.getD P []
theorem pgAt_get {ps:Pgs} {P:Nat} (h:P < ps.length):ps[P]?=some (pgAt ps P):=by
 unfold pgAt
 rw[List.getD_eq_getElem?_getD,List.getElem?_eq_getElem h];rfl
theorem pgAt_mem {ps:Pgs} {P:Nat} (h:P < ps.length):pgAt ps P ∈ ps:=List.mem_of_getElem? (pgAt_get h)
theorem pgAt_ok {ps:Pgs} (h:rightP ps) {P:Nat} (hP:P < ps.length):PageOk (pgAt ps P):=h.2 _ (pgAt_mem hP)
theorem pgAt_set (ps:Pgs) (P Q:Nat) (b:List UInt8):pgAt (ps.set P b) Q=if P=Q/\P < ps.length then b else pgAt ps Q:=by
 unfold pgAt
 simp only[List.getD_eq_getElem?_getD,List.getElem?_set]
 by_cases h:P=Q
 ·subst h
  by_cases h2:P < ps.length
  ·simp[h2]
  ·simp[h2,List.getElem?_eq_none (Nat.le_of_not_lt h2)]
 ·simp[h]
theorem pgAt_app (ps:Pgs) (Q:Nat) (b:List UInt8):pgAt (ps++[b]) Q=if Q=ps.length then b else pgAt ps Q:=by
 unfold pgAt
 simp only[List.getD_eq_getElem?_getD]
 by_cases h:Q < ps.length
 ·rw[List.getElem?_append_left h,if_neg (by omega)]
 ·rw[List.getElem?_append_right (by omega),List.getElem?_eq_none (show ps.length<=Q by omega)]
  by_cases h2:Q=ps.length
  ·subst h2;simp
  ·rw[if_neg h2,List.getElem?_eq_none (by simp;omega)]
def cAt (ps:Pgs) (P s:Nat):List UInt8:=cellOf (pgAt ps P) s
theorem cAt_far {ps:Pgs} {P s:Nat} (h:ps.length<=P):cAt ps P s=[]:=by
 have:pgAt ps P=[]:=by unfold pgAt;rw[List.getD_eq_getElem?_getD,List.getElem?_eq_none h];rfl
 unfold cAt
 rw[this]
 rfl
theorem cAt_in {ps:Pgs} (h:rightP ps) {P s:Nat} (hc:cAt ps P s≠[]):P < ps.length/\s < pn (pgAt ps P)/\psz (pgAt ps P) s≠0:=by
 have hP:P < ps.length:=by
  rcases Nat.lt_or_ge P ps.length with h1 | h1
  ·exact h1
  ·exact absurd (cAt_far h1) hc
 have hs:s < pn (pgAt ps P):=by
  rcases Nat.lt_or_ge s (pn (pgAt ps P)) with h1 | h1
  ·exact h1
  ·refine absurd ?_ hc
   unfold cAt cellOf
   rw[if_neg (by omega)]
 exact ⟨hP,hs,fun hz=>hc ((cellOf_nil (pgAt_ok h hP) hs).2 hz)⟩
def turnW (w:L7Work) (P:Nat) (b:List UInt8):L7Work:=
 if P=List.length w.1 then (w.1++[b],w.2.1++[((P:Int),b,())],())
 else if pgAt w.1 P=b then w else (List.set w.1 P b,w.2.1++[((P:Int),b,())],())
structure okW (w:L7Work) (n:Nat):Prop where
 pages:rightP w.1
 el:List.length w.2.1<=n
 eb:∀ e ∈ (w.2.1:List Edit),List.length e.2.1=64
theorem okW.mono {w:L7Work} {n m:Nat} (h:okW w n) (hm:n<=m):okW w m:=⟨h.pages,by have:=h.el;omega,h.eb⟩
theorem turn_pages {w:L7Work} {P:Nat} (hP:P < List.length w.1) (b:List UInt8):(turnW w P b).1=List.set w.1 P b:=by
 unfold turnW
 rw[if_neg (by omega)]
 split
 ·rename_i h
  refine List.ext_getElem? fun i=>?_
  rw[List.getElem?_set]
  split
  ·rename_i h2
   rw[<-h2,pgAt_get hP,h]
  ·rfl
 ·rfl
theorem turn_new (w:L7Work) (b:List UInt8):(turnW w (List.length w.1) b).1=w.1++[b]:=by
 unfold turnW
 rw[if_pos rfl]
theorem turn_ok {w:L7Work} {n P:Nat} (h:okW w n) {b:List UInt8} (hb:PageOk b) (hP:P<=List.length w.1) (h12:P < 12):okW (turnW w P b) (n+1):=by
 have hl:=h.el
 have he:∀ e ∈ ((w.2.1++[((P:Int),b,())]):List Edit),List.length e.2.1=64:=fun e he=>by
  rcases List.mem_append.1 he with he | he
  ·exact h.eb e he
  ·rw[List.mem_singleton.1 he];exact hb.len
 unfold turnW
 split
 ·rename_i h1
  refine ⟨⟨?_,fun p hp=>?_⟩,?_,he⟩
  ·rw[List.length_append];simp only[List.length_cons,List.length_nil];omega
  ·rcases List.mem_append.1 hp with hp | hp
   ·exact h.pages.2 p hp
   ·rw[List.mem_singleton.1 hp];exact hb
  ·rw[List.length_append];simp only[List.length_cons,List.length_nil];omega
 ·split
  ·exact h.mono (by omega)
  ·refine ⟨⟨?_,fun p hp=>?_⟩,?_,he⟩
   ·rw[List.length_set];exact h.pages.1
   ·rcases List.mem_or_eq_of_mem_set hp with hp | hp
    ·exact h.pages.2 p hp
    ·rw[hp];exact hb
   ·rw[List.length_append];simp only[List.length_cons,List.length_nil];omega
theorem turn_cells {w:L7Work} {P:Nat} (hP:P < List.length w.1) (b:List UInt8) (Q s:Nat):cAt (turnW w P b).1 Q s=if Q=P then cellOf b s else cAt w.1 Q s:=by
 rw[turn_pages hP]
 unfold cAt
 rw[pgAt_set]
 by_cases h:Q=P
 ·rw[if_pos ⟨h.symm,hP⟩,if_pos h]
 ·rw[if_neg (fun hh=>h hh.1.symm),if_neg h]
theorem specTurn_eq {w:L7Work} {n P:Nat} (h:okW w n) (hn:n<=1000) {b:List UInt8} (hb:b.length=64) (hP:P<=List.length w.1):spec_l7Turn.sem (w,(P:Int),b,())=some (turnW w P b,()):=by
 refine lift_eq (k:=0) fun k _=>(spec_l7Turn.raw_eq k _).trans ?_
 show spec_l7Turn.p _=_
 unfold spec_l7Turn.p turnW
 have hl:=h.pages.1
 have he:=h.el
 simp only[specCopy_eq b (by omega),Option.bind_some]
 by_cases hp:P=List.length w.1
 ·subst hp
  rw[decide_eq_true rfl,cond_true,if_pos rfl,if_pos (cap_ok (by simp only[List.length_cons,List.length_nil];omega)),if_pos (cap_ok (by simp only[List.length_cons,List.length_nil];omega))]
 ·have hp':¬ ((P:Int)=(List.length w.1:Int)):=by omega
  have hlt:P < List.length w.1:=by omega
  have g:(0:Int)<=(P:Int)/\(P:Int) < (List.length w.1:Int):=by omega
  rw[decide_eq_false hp',cond_false,if_neg hp,if_pos g]
  simp only[Int.toNat_natCast,pgAt_get hlt,Option.bind_some]
  by_cases hq:pgAt w.1 P=b
  ·rw[decide_eq_true hq,cond_true,if_pos hq]
  ·rw[decide_eq_false hq,cond_false,if_neg hq,if_pos g,if_pos (cap_ok (by simp only[List.length_cons,List.length_nil];omega))]
theorem implTurn_eq {w:L7Work} {n P:Nat} (h:okW w n) (hn:n<=1000) {b:List UInt8} (hb:b.length=64) (hP:P<=List.length w.1):impl_desk_edit.sem (w,(P:Int),b,())=some (turnW w P b,()):=by
 refine lift_eq (k:=0) fun k _=>(impl_desk_edit.raw_eq k _).trans ?_
 show impl_desk_edit.p _=_
 unfold impl_desk_edit.p turnW
 have hl:=h.pages.1
 have he:=h.el
 simp only[implCopied_eq b (by omega),Option.bind_some]
 by_cases hp:P=List.length w.1
 ·subst hp
  rw[decide_eq_true rfl,cond_true,if_pos rfl,if_pos (cap_ok (by simp only[List.length_cons,List.length_nil];omega)),if_pos (cap_ok (by simp only[List.length_cons,List.length_nil];omega))]
 ·have hp':¬ ((P:Int)=(List.length w.1:Int)):=by omega
  have hlt:P < List.length w.1:=by omega
  have g:(0:Int)<=(P:Int)/\(P:Int) < (List.length w.1:Int):=by omega
  rw[decide_eq_false hp',cond_false,if_neg hp,if_pos g]
  simp only[Int.toNat_natCast,pgAt_get hlt,Option.bind_some]
  by_cases hq:pgAt w.1 P=b
  ·rw[decide_eq_true hq,cond_true,if_pos hq]
  ·rw[decide_eq_false hq,cond_false,if_neg hq,if_pos g,if_pos (cap_ok (by simp only[List.length_cons,List.length_nil];omega))]
def compW (w:L7Work) (P:Nat):L7Work:=turnW w P (compQ (pgAt w.1 P))
theorem compW_at {w:L7Work} {P:Nat} (hP:P < List.length w.1):pgAt (compW w P).1 P=compQ (pgAt w.1 P):=by
 unfold compW
 rw[turn_pages hP,pgAt_set,if_pos ⟨rfl,hP⟩]
theorem compW_len {w:L7Work} {P:Nat} (hP:P < List.length w.1):List.length (compW w P).1=List.length w.1:=by
 unfold compW
 rw[turn_pages hP,List.length_set]
theorem compW_ok {w:L7Work} {n P:Nat} (h:okW w n) (hP:P < List.length w.1):okW (compW w P) (n+1):=
 turn_ok h (compQ_ok (pgAt_ok h.pages hP)).1 (by omega) (by have:=h.pages.1;omega)
theorem compW_cells {w:L7Work} {n P:Nat} (h:okW w n) (hP:P < List.length w.1) (Q s:Nat):cAt (compW w P).1 Q s=cAt w.1 Q s:=by
 unfold compW
 rw[turn_cells hP]
 split
 ·rename_i hq
  subst hq
  exact (compQ_ok (pgAt_ok h.pages hP)).2.1 s
 ·rfl
theorem implCompW_eq {w:L7Work} {n P:Nat} (h:okW w n) (hn:n<=1000) (hP:P < List.length w.1):impl_desk_compact.sem (w,(P:Int),())=some (compW w P,()):=by
 refine lift_eq (k:=0) fun k _=>(impl_desk_compact.raw_eq k _).trans ?_
 show impl_desk_compact.p _=_
 unfold impl_desk_compact.p compW
 have hp:=pgAt_ok h.pages hP
 have g:(0:Int)<=(P:Int)/\(P:Int) < (List.length w.1:Int):=by omega
 rw[if_pos g]
 simp only[Int.toNat_natCast,pgAt_get hP,Option.bind_some,implComp_eq hp,implTurn_eq h hn (compQ_ok hp).1.len (Nat.le_of_lt hP)]
def putIn (w:L7Work) (P:Nat) (c:List UInt8):Option Nat×L7Work:=
 if putF (pgAt w.1 P) c=8 then
  if putF (compQ (pgAt w.1 P)) c=0 then (some (emptyF (compQ (pgAt w.1 P))),turnW (compW w P) P (putQ (compQ (pgAt w.1 P)) c)) else (none,compW w P)
 else if putF (pgAt w.1 P) c=0 then (some (emptyF (pgAt w.1 P)),turnW w P (putQ (pgAt w.1 P) c)) else (none,w)
structure putInR (w:L7Work) (n P:Nat) (c:List UInt8) (r:Option Nat×L7Work):Prop where
 ok:okW r.2 (n+2)
 len:List.length r.2.1=List.length w.1
 no:r.1=none->∀ Q s,cAt r.2.1 Q s=cAt w.1 Q s
 yes:∀ t,r.1=some t->t < 16/\cAt w.1 P t=[]/\∀ Q s,cAt r.2.1 Q s=if Q=P/\s=t then c else cAt w.1 Q s
theorem emptyF_lt {p c:List UInt8} (h:PageOk p) (hc:putF p c=0):emptyF p < 16:=by
 have:=(emptyF_spec p).1
 have:=h.n
 unfold putF at hc
 split at hc
 ·cases hc
 ·omega
theorem putIn_ok {w:L7Work} {n P:Nat} (h:okW w n) (hP:P < List.length w.1) {c:List UInt8} (hc:1<=c.length):putInR w n P c (putIn w P c):=by
 have hp:=pgAt_ok h.pages hP
 have h12:=h.pages.1
 unfold putIn
 split
 ·obtain ⟨q1,q2,q3⟩:=compQ_ok hp
  have hw:=compW_ok h hP
  have hl:=compW_len hP
  split
  ·rename_i h0
   obtain ⟨r1,r2,r3⟩:=putQ_ok q1 hc h0
   have hP':P < List.length (compW w P).1:=by omega
   refine ⟨turn_ok hw r1 (by omega) (by omega),?_,fun hh=>(by cases hh),fun t ht=>?_⟩
   ·rw[turn_pages hP',List.length_set,hl]
   ·injection ht with ht
    subst ht
    refine ⟨emptyF_lt q1 h0,?_,fun Q s=>?_⟩
    ·show cellOf (pgAt w.1 P) _=[]
     rw[<-q2];exact r3
    ·rw[turn_cells hP',r2,compW_cells h hP]
     by_cases hq:Q=P
     ·subst hq
      by_cases hs:s=emptyF (compQ (pgAt w.1 Q))
      ·rw[if_pos rfl,if_pos hs,if_pos ⟨rfl,hs⟩]
      ·rw[if_pos rfl,if_neg hs,if_neg (fun hh=>hs hh.2),q2]
       rfl
     ·rw[if_neg hq,if_neg (fun hh=>hq hh.1)]
  ·exact ⟨hw.mono (by omega),hl,fun _=>compW_cells h hP,fun t ht=>by cases ht⟩
 ·split
  ·rename_i h0
   obtain ⟨r1,r2,r3⟩:=putQ_ok hp hc h0
   refine ⟨(turn_ok h r1 (by omega) (by omega)).mono (by omega),?_,fun hh=>(by cases hh),fun t ht=>?_⟩
   ·rw[turn_pages hP,List.length_set]
   ·injection ht with ht
    subst ht
    refine ⟨emptyF_lt hp h0,r3,fun Q s=>?_⟩
    rw[turn_cells hP,r2]
    by_cases hq:Q=P
    ·subst hq
     by_cases hs:s=emptyF (pgAt w.1 Q)
     ·rw[if_pos rfl,if_pos hs,if_pos ⟨rfl,hs⟩]
     ·rw[if_pos rfl,if_neg hs,if_neg (fun hh=>hs hh.2)]
      rfl
    ·rw[if_neg hq,if_neg (fun hh=>hq hh.1)]
  ·exact ⟨h.mono (by omega),rfl,fun _ _ _=>rfl,fun t ht=>by cases ht⟩
def putOut (r:Option Nat×L7Work):Int×Bool×L7Work×Unit:=match r.1 with
 | some t=>((t:Int),true,r.2,())
 | none=>((0:Int),false,r.2,())
theorem specPutIn_eq {w:L7Work} {n P:Nat} (h:okW w n) (hn:n<=900) (hP:P < List.length w.1) {c:List UInt8} (hc1:1<=c.length) (hc:c.length<=20):spec_l7PutIn.sem (w,(P:Int),c,())=some (putOut (putIn w P c)):=by
 refine lift_eq (k:=0) fun k _=>(spec_l7PutIn.raw_eq k _).trans ?_
 show spec_l7PutIn.p _=_
 unfold spec_l7PutIn.p putIn
 have hp:=pgAt_ok h.pages hP
 obtain ⟨q1,q2,q3⟩:=compQ_ok hp
 have hw:=compW_ok h hP
 have hl:=compW_len hP
 have g:(0:Int)<=(P:Int)/\(P:Int) < (List.length w.1:Int):=by omega
 have g2:(0:Int)<=(P:Int)/\(P:Int) < (List.length (compW w P).1:Int):=by omega
 have ec:turnW w P (compQ (pgAt w.1 P))=compW w P:=rfl
 rw[if_pos g]
 simp only[Int.toNat_natCast,pgAt_get hP,Option.bind_some,gPut_eq hp c hc1 hc,specComp_eq hp,specTurn_eq h (by omega) q1.len (Nat.le_of_lt hP),ec,pgAt_get (show P < List.length (compW w P).1 by omega),compW_at hP,gPut_eq q1 c hc1 hc]
 by_cases h8:putF (pgAt w.1 P) c=8
 ·rw[decide_eq_true h8,cond_true,if_pos h8,if_pos g,if_pos g2]
  by_cases h0:putF (compQ (pgAt w.1 P)) c=0
  ·rw[decide_eq_true h0,if_pos h0,if_pos h0,if_pos h0,Bool.not_true,cond_false,specTurn_eq hw (by omega) (putQ_ok q1 hc1 h0).1.len (by omega)]
   rfl
  ·rw[decide_eq_false h0,Bool.not_false,cond_true,if_neg h0]
   rfl
 ·rw[decide_eq_false h8,cond_false,if_neg h8]
  by_cases h0:putF (pgAt w.1 P) c=0
  ·rw[decide_eq_true h0,if_pos h0,if_pos h0,if_pos h0,Bool.not_true,cond_false,specTurn_eq h (by omega) (putQ_ok hp hc1 h0).1.len (by omega)]
   rfl
  ·rw[decide_eq_false h0,Bool.not_false,cond_true,if_neg h0]
   rfl
def setIn (w:L7Work) (P s:Nat) (c:List UInt8):Bool×L7Work:=
 if setF (pgAt w.1 P) s c=8 then
  if setF (compQ (pgAt w.1 P)) s c=0 then (true,turnW (compW w P) P (setQ (compQ (pgAt w.1 P)) s c)) else (false,compW w P)
 else if setF (pgAt w.1 P) s c=0 then (true,turnW w P (setQ (pgAt w.1 P) s c)) else (false,w)
theorem comp_slot {p:List UInt8} (h:PageOk p) {s:Nat} (hs:s < pn p) (hz:psz p s≠0):s < pn (compQ p)/\psz (compQ p) s≠0:=by
 obtain ⟨q1,q2,q3⟩:=compQ_ok h
 refine ⟨by omega,fun h0=>hz ?_⟩
 rw[<-cellOf_nil h hs,<- q2,cellOf_nil q1 (by omega)]
 exact h0
structure setInR (w:L7Work) (n P s:Nat) (c:List UInt8) (r:Bool×L7Work):Prop where
 ok:okW r.2 (n+2)
 len:List.length r.2.1=List.length w.1
 no:r.1=false->∀ Q t,cAt r.2.1 Q t=cAt w.1 Q t
 yes:r.1=true->∀ Q t,cAt r.2.1 Q t=if Q=P/\t=s then c else cAt w.1 Q t
theorem setIn_ok {w:L7Work} {n P s:Nat} (h:okW w n) (hat:cAt w.1 P s≠[]) {c:List UInt8} (hc:1<=c.length):setInR w n P s c (setIn w P s c):=by
 obtain ⟨hP,hs,hz⟩:=cAt_in h.pages hat
 have hp:=pgAt_ok h.pages hP
 have h12:=h.pages.1
 unfold setIn
 split
 ·obtain ⟨q1,q2,q3⟩:=compQ_ok hp
  obtain ⟨z1,z2⟩:=comp_slot hp hs hz
  have hw:=compW_ok h hP
  have hl:=compW_len hP
  split
  ·rename_i h0
   obtain ⟨r1,r2⟩:=setQ_ok q1 z1 z2 hc h0
   have hP':P < List.length (compW w P).1:=by omega
   refine ⟨turn_ok hw r1 (by omega) (by omega),?_,fun hh=>(by cases hh),fun _ Q t=>?_⟩
   ·rw[turn_pages hP',List.length_set,hl]
   ·rw[turn_cells hP',r2,compW_cells h hP]
    by_cases hq:Q=P
    ·subst hq
     by_cases ht:t=s
     ·rw[if_pos rfl,if_pos ht,if_pos ⟨rfl,ht⟩]
     ·rw[if_pos rfl,if_neg ht,if_neg (fun hh=>ht hh.2),q2]
      rfl
    ·rw[if_neg hq,if_neg (fun hh=>hq hh.1)]
  ·exact ⟨hw.mono (by omega),hl,fun _=>compW_cells h hP,fun ht=>by cases ht⟩
 ·split
  ·rename_i h0
   obtain ⟨r1,r2⟩:=setQ_ok hp hs hz hc h0
   refine ⟨(turn_ok h r1 (by omega) (by omega)).mono (by omega),?_,fun hh=>(by cases hh),fun _ Q t=>?_⟩
   ·rw[turn_pages hP,List.length_set]
   ·rw[turn_cells hP,r2]
    by_cases hq:Q=P
    ·subst hq
     by_cases ht:t=s
     ·rw[if_pos rfl,if_pos ht,if_pos ⟨rfl,ht⟩]
     ·rw[if_pos rfl,if_neg ht,if_neg (fun hh=>ht hh.2)]
      rfl
    ·rw[if_neg hq,if_neg (fun hh=>hq hh.1)]
  ·exact ⟨h.mono (by omega),rfl,fun _ _ _=>rfl,fun ht=>by cases ht⟩
theorem specSetIn_eq {w:L7Work} {n P s:Nat} (h:okW w n) (hn:n<=900) (hat:cAt w.1 P s≠[]) {c:List UInt8} (hc1:1<=c.length) (hc:c.length<=20):spec_l7Set.sem (w,(P:Int),(s:Int),c,())=some ((setIn w P s c).1,(setIn w P s c).2,()):=by
 refine lift_eq (k:=0) fun k _=>(spec_l7Set.raw_eq k _).trans ?_
 show spec_l7Set.p _=_
 unfold spec_l7Set.p setIn
 obtain ⟨hP,hs,hz⟩:=cAt_in h.pages hat
 have hp:=pgAt_ok h.pages hP
 obtain ⟨q1,q2,q3⟩:=compQ_ok hp
 obtain ⟨z1,z2⟩:=comp_slot hp hs hz
 have hw:=compW_ok h hP
 have hl:=compW_len hP
 have g:(0:Int)<=(P:Int)/\(P:Int) < (List.length w.1:Int):=by omega
 have g2:(0:Int)<=(P:Int)/\(P:Int) < (List.length (compW w P).1:Int):=by omega
 have ec:turnW w P (compQ (pgAt w.1 P))=compW w P:=rfl
 rw[if_pos g]
 simp only[Int.toNat_natCast,pgAt_get hP,Option.bind_some,specSet_eq hp c hc1 hc hs hz,specComp_eq hp,specTurn_eq h (by omega) q1.len (Nat.le_of_lt hP),ec,pgAt_get (show P < List.length (compW w P).1 by omega),compW_at hP,specSet_eq q1 c hc1 hc z1 z2]
 by_cases h8:setF (pgAt w.1 P) s c=8
 ·rw[decide_eq_true h8,cond_true,if_pos h8,if_pos g,if_pos g2]
  by_cases h0:setF (compQ (pgAt w.1 P)) s c=0
  ·rw[decide_eq_true h0,if_pos h0,if_pos h0,Bool.not_true,cond_false,specTurn_eq hw (by omega) (setQ_ok q1 z1 z2 hc1 h0).1.len (by omega)]
   rfl
  ·rw[decide_eq_false h0,Bool.not_false,cond_true,if_neg h0]
 ·rw[decide_eq_false h8,cond_false,if_neg h8]
  by_cases h0:setF (pgAt w.1 P) s c=0
  ·rw[decide_eq_true h0,if_pos h0,if_pos h0,Bool.not_true,cond_false,specTurn_eq h (by omega) (setQ_ok hp hs hz hc1 h0).1.len (by omega)]
   rfl
  ·rw[decide_eq_false h0,Bool.not_false,cond_true,if_neg h0]
theorem implSetIn_eq {w:L7Work} {n P s:Nat} (h:okW w n) (hn:n<=900) (hat:cAt w.1 P s≠[]) {c:List UInt8} (hc1:1<=c.length) (hc:c.length<=20):impl_desk_turn.sem (w,(P:Int),(s:Int),c,())=some ((setIn w P s c).1,(setIn w P s c).2,()):=by
 refine lift_eq (k:=0) fun k _=>(impl_desk_turn.raw_eq k _).trans ?_
 show impl_desk_turn.p _=_
 unfold impl_desk_turn.p setIn
 obtain ⟨hP,hs,hz⟩:=cAt_in h.pages hat
 have hp:=pgAt_ok h.pages hP
 obtain ⟨q1,q2,q3⟩:=compQ_ok hp
 obtain ⟨z1,z2⟩:=comp_slot hp hs hz
 have hw:=compW_ok h hP
 have hl:=compW_len hP
 have g:(0:Int)<=(P:Int)/\(P:Int) < (List.length w.1:Int):=by omega
 have g2:(0:Int)<=(P:Int)/\(P:Int) < (List.length (compW w P).1:Int):=by omega
 rw[if_pos g]
 simp only[Int.toNat_natCast,pgAt_get hP,Option.bind_some,implSet_eq hp c hc1 hc hs hz,implCompW_eq h (by omega) hP,pgAt_get (show P < List.length (compW w P).1 by omega),compW_at hP,implSet_eq q1 c hc1 hc z1 z2]
 by_cases h8:setF (pgAt w.1 P) s c=8
 ·rw[decide_eq_true h8,cond_true,if_pos h8,if_pos g2]
  by_cases h0:setF (compQ (pgAt w.1 P)) s c=0
  ·rw[decide_eq_true h0,if_pos h0,if_pos h0,Bool.not_true,cond_false,implTurn_eq hw (by omega) (setQ_ok q1 z1 z2 hc1 h0).1.len (by omega)]
   rfl
  ·rw[decide_eq_false h0,Bool.not_false,cond_true,if_neg h0]
 ·rw[decide_eq_false h8,cond_false,if_neg h8]
  by_cases h0:setF (pgAt w.1 P) s c=0
  ·rw[decide_eq_true h0,if_pos h0,if_pos h0,Bool.not_true,cond_false,implTurn_eq h (by omega) (setQ_ok hp hs hz hc1 h0).1.len (by omega)]
   rfl
  ·rw[decide_eq_false h0,Bool.not_false,cond_true,if_neg h0]
def dropIn (w:L7Work) (P s:Nat):L7Work:=turnW w P (dropQ (pgAt w.1 P) s)
theorem dropIn_ok {w:L7Work} {n P s:Nat} (h:okW w n) (hat:cAt w.1 P s≠[]):okW (dropIn w P s) (n+1)/\List.length (dropIn w P s).1=List.length w.1/\∀ Q t,cAt (dropIn w P s).1 Q t=if Q=P/\t=s then [] else cAt w.1 Q t:=by
 obtain ⟨hP,hs,hz⟩:=cAt_in h.pages hat
 have hp:=pgAt_ok h.pages hP
 have h12:=h.pages.1
 obtain ⟨r1,r2⟩:=dropQ_ok hp hs
 refine ⟨turn_ok h r1 (by omega) (by omega),?_,fun Q t=>?_⟩
 ·unfold dropIn;rw[turn_pages hP,List.length_set]
 ·unfold dropIn
  rw[turn_cells hP,r2]
  by_cases hq:Q=P
  ·subst hq
   by_cases ht:t=s
   ·rw[if_pos rfl,if_pos ht,if_pos ⟨rfl,ht⟩]
   ·rw[if_pos rfl,if_neg ht,if_neg (fun hh=>ht hh.2)]
    rfl
  ·rw[if_neg hq,if_neg (fun hh=>hq hh.1)]
theorem specDropIn_eq {w:L7Work} {n P s:Nat} (h:okW w n) (hn:n<=900) (hat:cAt w.1 P s≠[]):spec_l7Drop.sem (w,(P:Int),(s:Int),())=some (dropIn w P s,()):=by
 refine lift_eq (k:=0) fun k _=>(spec_l7Drop.raw_eq k _).trans ?_
 show spec_l7Drop.p _=_
 unfold spec_l7Drop.p dropIn
 obtain ⟨hP,hs,hz⟩:=cAt_in h.pages hat
 have hp:=pgAt_ok h.pages hP
 have g:(0:Int)<=(P:Int)/\(P:Int) < (List.length w.1:Int):=by omega
 rw[if_pos g]
 simp only[Int.toNat_natCast,pgAt_get hP,Option.bind_some,specDrop_eq hp hs,specTurn_eq h (by omega) (dropQ_ok hp hs).1.len (Nat.le_of_lt hP)]
theorem implDropIn_eq {w:L7Work} {n P s:Nat} (h:okW w n) (hn:n<=900) (hat:cAt w.1 P s≠[]):impl_desk_drop.sem (w,(P:Int),(s:Int),())=some (dropIn w P s,()):=by
 refine lift_eq (k:=0) fun k _=>(impl_desk_drop.raw_eq k _).trans ?_
 show impl_desk_drop.p _=_
 unfold impl_desk_drop.p dropIn
 obtain ⟨hP,hs,hz⟩:=cAt_in h.pages hat
 have hp:=pgAt_ok h.pages hP
 have g:(0:Int)<=(P:Int)/\(P:Int) < (List.length w.1:Int):=by omega
 rw[if_pos g]
 simp only[Int.toNat_natCast,pgAt_get hP,Option.bind_some,implDrop_eq hp hs hz,implTurn_eq h (by omega) (dropQ_ok hp hs).1.len (Nat.le_of_lt hP)]
end OT
set_option linter.unusedVariables false
set_option linter.unusedSimpArgs false
set_option linter.unusedSectionVars false
namespace OT
open Go
theorem nodup_inj {α β:Type} {f:α->β}:∀ {l:List α},(l.map f).Nodup->∀ {x y:α},x ∈ l->y ∈ l->f x=f y->x=y
 | z::l,h,x,y,hx,hy,he=>by
  rw[List.map_cons,List.nodup_cons] at h
  rcases List.mem_cons.1 hx with hx1 | hx1
  ·rcases List.mem_cons.1 hy with hy1 | hy1
   ·rw[hx1,hy1]
   ·rw[hx1] at he
    exact absurd (he ▸ List.mem_map_of_mem hy1) h.1
  ·rcases List.mem_cons.1 hy with hy1 | hy1
   ·rw[hy1] at he
    exact absurd (he ▸ List.mem_map_of_mem hx1) h.1
   ·exact nodup_inj h.2 hx1 hy1 he
theorem find_perm {α β K:Type} [DecidableEq K] {l:List α} {l':List β} {g:α->β} {ka:α->K} {kb:β->K} (hk:∀ x,kb (g x)=ka x) (hp:l'.Perm (l.map g)) (hn:(l.map ka).Nodup) (k:K):l'.find? (fun y=>decide (kb y=k))=(l.find? (fun x=>decide (ka x=k))).map g:=by
 cases h:l.find? (fun x=>decide (ka x=k)) with
 | none=>
  rw[List.find?_eq_none] at h
  show _=none
  rw[List.find?_eq_none]
  intro y hy
  obtain ⟨x,hx,rfl⟩:=List.mem_map.1 (hp.mem_iff.1 hy)
  rw[hk]
  exact h x hx
 | some x=>
  have hx:=List.mem_of_find?_eq_some h
  have hxk:ka x=k:=by have:=List.find?_some h;simpa using this
  show _=some (g x)
  cases h2:l'.find? (fun y=>decide (kb y=k)) with
  | none=>
   rw[List.find?_eq_none] at h2
   have:=h2 (g x) (hp.mem_iff.2 (List.mem_map_of_mem hx))
   rw[hk,hxk] at this
   simp at this
  | some y=>
   have hy:=List.mem_of_find?_eq_some h2
   have hyk:kb y=k:=by have:=List.find?_some h2;simpa using this
   obtain ⟨z,hz,rfl⟩:=List.mem_map.1 (hp.mem_iff.1 hy)
   rw[hk] at hyk
   rw[nodup_inj hn hz hx (hyk.trans hxk.symm)]
theorem forI_find {α O:Type} (p:α->Bool) (g:α->O) (e:O):∀ (xs:List α) (i:Nat),forI (fun _ (_:Unit) x=>if p x then .inl (g x) else .inr ()) (fun _=>e) i xs ()=match xs.find? p with | some x=>g x | none=>e
 | [],_=>rfl
 | x::xs,i=>by
  simp only[forI,List.find?_cons]
  cases h:p x with
  | true=>simp only[if_true]
  | false=>simp only[Bool.false_eq_true,if_false];exact forI_find p g e xs (i+1)
abbrev spot0:L6Spot:=((0:Int),(0:Int),((0:Int),(0:Int),(0:Int),(0:Int),row0,()),())
abbrev seen0:Seen:=(row0,(0:Int),(0:Int),false,(0:Int),(0:Int),())
def findS (ps:Pgs) (t k:Int):Option L6Spot:=(seenF ps).find? (fun x=>decide (rk (sRow x)=(t,k)))
def findL (l:List Seen) (t k:Int):Option Seen:=l.find? (fun y=>decide (rk y.1=(t,k)))
theorem rk_dec (r:Row) (t k:Int):decide (rk r=(t,k))=(decide (r.1=t)&&decide (r.2.1=k)):=by
 unfold rk
 by_cases h1:r.1=t <;> by_cases h2:r.2.1=k <;> simp[h1,h2]
theorem specFind_eq (ps:Pgs) (h:rightP ps) (t k:Int):spec_l6Find.sem (ps,t,k,())=some (match findS ps t k with | some x=>(x,true,()) | none=>(spot0,false,())):=by
 refine lift_eq (k:=300) fun q hq=>(spec_l6Find.raw_eq q _).trans ?_
 unfold spec_l6Find.p
 rw[specSeen_eq ps h]
 simp only[Option.bind_some]
 have hsl:=seen_len h
 unfold findS
 generalize seenF ps=xs at hsl ⊢
 have:=for_loop (B:=fun self v=>spec_l6Find.B0 q self (fun z=>spec_l6Find.Q0 q (ps,t,k,()) xs z) (ps,t,k,()) xs v) xs (fun (_:Unit) (i:Int)=>i) (fun _ _ x=>if decide (rk (sRow x)=(t,k)) then .inl (x,true,()) else .inr ()) (fun _=>((spot0,false,()):L6Spot×Bool×Unit)) (fun _ _=>True) (by rw[maxLen_val];omega)
  (fun i hi s self _=>by
   show spec_l6Find.b0 _ _ _ _ _=_
   unfold spec_l6Find.b0
   have hlt:(i:Int) < (xs.length:Int):=by omega
   have g:(0:Int)<=(i:Int)/\(i:Int) < (xs.length:Int):=by omega
   rw[decide_eq_true hlt,cond_true,if_pos g,rk_dec]
   simp only[Int.toNat_natCast,List.getElem?_eq_getElem hi,Option.bind_some,if_pos g]
   show (bif decide ((sRow xs[i]).1=t) then (bif decide ((sRow xs[i]).2.1=k) then _ else _) else _)=_
   cases decide ((sRow xs[i]).1=t) <;> cases decide ((sRow xs[i]).2.1=k) <;> rfl)
  (fun _ _ _ _ _ _=>trivial) (fun s self _=>by
   show spec_l6Find.b0 _ _ _ _ _=_
   unfold spec_l6Find.b0
   rw[decide_eq_false (Int.lt_irrefl _),cond_false]
   rfl) () trivial q (by omega)
 rw[forI_find] at this
 refine this.trans (congrArg some ?_)
 cases List.find? (fun x=>decide (rk (sRow x)=(t,k))) xs <;> rfl
theorem implFind_eq (l:List Seen) (hl:l.length<=1000) (t k:Int):impl_find.sem (l,t,k,())=some (match findL l t k with | some x=>(x,true,()) | none=>(seen0,false,())):=by
 refine lift_eq (k:=1100) fun q hq=>(impl_find.raw_eq q _).trans ?_
 unfold findL
 have:=for_loop (B:=fun self v=>impl_find.B0 q self (fun z=>impl_find.Q0 q (l,t,k,()) z) (l,t,k,()) v) l (fun (_:Unit) (i:Int)=>i) (fun _ _ x=>if decide (rk x.1=(t,k)) then .inl (x,true,()) else .inr ()) (fun _=>((seen0,false,()):Seen×Bool×Unit)) (fun _ _=>True) (by rw[maxLen_val];omega)
  (fun i hi s self _=>by
   show impl_find.b0 _ _ _ _=_
   unfold impl_find.b0
   have hlt:(i:Int) < (l.length:Int):=by omega
   have g:(0:Int)<=(i:Int):=by omega
   rw[decide_eq_true hlt,cond_true,if_pos g,rk_dec]
   simp only[Int.toNat_natCast,List.getElem?_eq_getElem hi,Option.bind_some]
   show (bif decide (l[i].1.1=t) then (bif decide (l[i].1.2.1=k) then _ else _) else _)=_
   cases decide (l[i].1.1=t) <;> cases decide (l[i].1.2.1=k) <;> rfl)
  (fun _ _ _ _ _ _=>trivial) (fun s self _=>by
   show impl_find.b0 _ _ _ _=_
   unfold impl_find.b0
   rw[decide_eq_false (Int.lt_irrefl _),cond_false]
   rfl) () trivial q (by omega)
 rw[forI_find] at this
 refine this.trans (congrArg some ?_)
 cases List.find? (fun x:Seen=>decide (rk x.1=(t,k))) l <;> rfl
theorem find_same {ps:Pgs} (h:viewR ps) (t k:Int):findL (viewL ps) t k=(findS ps t k).map convS:=
 find_perm (g:=convS) (ka:=fun x=>rk (sRow x)) (kb:=fun y=>rk y.1) (fun _=>rfl) (viewL_perm h) h.keys (t,k)
theorem cellG_at {ps:Pgs} {a b:Int} (h:(cellG ps a b).2=true):cAt ps a.toNat b.toNat≠[]/\(rightP ps->(cellG ps a b)=cellF (cAt ps a.toNat b.toNat)):=by
 unfold cellG at h ⊢
 cases hg:ps[a.toNat]? with
 | none=>rw[hg] at h;cases h
 | some p=>
  rw[hg] at h
  simp only at h ⊢
  split at h
  ·rename_i hc
   have hp:pgAt ps a.toNat=p:=by unfold pgAt;rw[List.getD_eq_getElem?_getD,hg];rfl
   have e:cAt ps a.toNat b.toNat=cellP p b.toNat:=by unfold cAt cellOf;rw[hp,if_pos hc.1]
   rw[e,if_pos hc]
   refine ⟨fun h0=>?_,fun _=>rfl⟩
   rw[h0] at h
   exact absurd h (by decide)
  ·cases h
theorem found_at {ps:Pgs} (h:viewR ps) {x:L6Spot} (hx:x ∈ seenF ps):∃ P s:Nat,x.1=(P:Int)/\x.2.1=(s:Int)/\cAt ps P s≠[]/\(sFlag x=1->∃ Q t:Nat,sTp x=(Q:Int)/\sTs x=(t:Int)/\cAt ps Q t≠[]/\(cellF (cAt ps Q t)).1.2.1=2)/\(cellF (cAt ps P s)).1.2.1=sFlag x:=by
 unfold seenF at hx
 obtain ⟨y,hy,hxy⟩:=List.mem_flatMap.1 hx
 obtain ⟨n1,n2⟩:=spot_nonneg hy
 have hst:=List.all_eq_true.1 h.stubs y hy
 obtain ⟨P,p,s,h1,h2,h3,h4⟩:=spot_mem.1 hy
 unfold seenX at hxy
 split at hxy
 ·cases hxy
 ·have hx1:=List.mem_singleton.1 hxy
  have hP:P < ps.length:=by
   rcases Nat.lt_or_ge P ps.length with g | g
   ·exact g
   ·rw[List.getElem?_eq_none g] at h1;cases h1
  have hp:pgAt ps P=p:=by unfold pgAt;rw[List.getD_eq_getElem?_getD,h1];rfl
  have hpo:=pgAt_ok h.right hP
  rw[hp] at hpo
  have hc:cAt ps P s≠[]:=by
   unfold cAt
   rw[hp]
   exact fun h0=>h3 ((cellOf_nil hpo h2).1 h0)
  have e1:x.1=y.1/\x.2.1=y.2.1/\sFlag x=sFlag y/\sTp x=sTp y/\sTs x=sTs y:=by
   rw[hx1]
   unfold seen1
   split <;> exact ⟨rfl,rfl,rfl,rfl,rfl⟩
  have e2:y.1=(P:Int)/\y.2.1=(s:Int):=by rw[h4];exact ⟨rfl,rfl⟩
  have e3:cAt ps P s=cellP p s:=by unfold cAt cellOf;rw[hp,if_pos h2]
  refine ⟨P,s,by rw[e1.1,e2.1],by rw[e1.2.1,e2.2],hc,fun hf=>?_,by rw[e1.2.2.1,e3,h4];rfl⟩
  rw[e1.2.2.1] at hf
  unfold stubOk at hst
  rw[decide_eq_true hf,Bool.not_true,Bool.false_or,Bool.and_eq_true] at hst
  obtain ⟨c1,c2⟩:=cellG_at hst.1
  refine ⟨(sTp y).toNat,(sTs y).toNat,by rw[e1.2.2.2.1];omega,by rw[e1.2.2.2.2];omega,c1,?_⟩
  rw[<-c2 h.right]
  simpa using hst.2
theorem find_rows {ps:Pgs} (h:viewR ps) (t k:Int):(match findS ps t k with
  | some x=>fnd (rowsV ps) (t,k)=true/\(rowsV ps)[pos (rowsV ps) (t,k)]?=some (sRow x)/\x ∈ seenF ps/\rk (sRow x)=(t,k)
  | none=>fnd (rowsV ps) (t,k)=false):=by
 have hmem:∀ r,r ∈ rowsV ps↔∃ x ∈ seenF ps,sRow x=r:=fun r=>by
  rw[rowsV_eq h,(sortR_perm _).mem_iff,List.mem_map]
 cases hf:findS ps t k with
 | none=>
  simp only
  unfold findS at hf
  rw[List.find?_eq_none] at hf
  cases hb:fnd (rowsV ps) (t,k) with
  | false=>rfl
  | true=>
   obtain ⟨y,hy,hyk⟩:=fnd_mem hb
   obtain ⟨x,hx,rfl⟩:=(hmem y).1 hy
   have:=hf x hx
   rw[hyk] at this
   simp at this
 | some x=>
  simp only
  unfold findS at hf
  have hx:=List.mem_of_find?_eq_some hf
  have hxk:rk (sRow x)=(t,k):=by have:=List.find?_some hf;simpa using this
  have hb:fnd (rowsV ps) (t,k)=true:=by
   cases hb:fnd (rowsV ps) (t,k) with
   | true=>rfl
   | false=>
    exfalso
    have hm:=(hmem (sRow x)).2 ⟨x,hx,rfl⟩
    obtain ⟨i,hi,he⟩:=List.getElem_of_mem hm
    have hu:=rowsV_up h
    have hnb:¬ i < pos (rowsV ps) (t,k):=fun hlt=>by
     have:=pos_lt (rowsV ps) (t,k) i hi hlt
     rw[he,hxk,befB_irr] at this
     cases this
    have hpl:pos (rowsV ps) (t,k) < (rowsV ps).length:=by omega
    unfold fnd at hb
    rw[List.getElem?_eq_getElem hpl] at hb
    simp only[decide_eq_false_iff_not] at hb
    by_cases hpi:pos (rowsV ps) (t,k)=i
    ·refine hb ?_
     have:(rowsV ps)[pos (rowsV ps) (t,k)]=(rowsV ps)[i]:=by congr
     rw[this,he,hxk]
    ·have h1:=up_not (rowsV ps) (t,k) (pos (rowsV ps) (t,k)) hpl hu (Nat.le_refl _)
     have h2:=List.pairwise_iff_getElem.1 hu (pos (rowsV ps) (t,k)) i hpl hi (by omega)
     rw[he,hxk] at h2
     rw[h2] at h1
     cases h1
  refine ⟨hb,?_,hx,hxk⟩
  obtain ⟨hp,hk⟩:=fnd_lt hb
  rw[List.getElem?_eq_getElem hp]
  congr 1
  obtain ⟨y,hy,he⟩:=(hmem _).1 (List.getElem_mem hp)
  have:y=x:=nodup_inj h.keys hy hx (by show rk (sRow y)=rk (sRow x);rw[he,hk,hxk])
  rw[<-he,this]
end OT
set_option linter.unusedVariables false
set_option linter.unusedSimpArgs false
set_option linter.unusedSectionVars false
namespace OT
open Go
def cellB (f:Nat) (r:Row):List UInt8:=[UInt8.ofNat f,UInt8.ofInt r.1,UInt8.ofInt r.2.1,UInt8.ofInt (r.2.2.1 / 256),UInt8.ofInt (r.2.2.1 % 256),UInt8.ofInt (List.length r.2.2.2.1:Int)]++r.2.2.2.1
theorem rowF_ok {r:Row} (h:rowF r=0):(0<=r.1/\r.1<=3)/\(1<=r.2.1/\r.2.1<=99)/\(0<=r.2.2.1/\r.2.2.1<=999)/\textB r.2.2.2.1=true:=by
 unfold rowF at h
 split at h
 ·rename_i h1
  split at h
  ·rename_i h2
   unfold inB at h1
   simp only[Bool.and_eq_true,decide_eq_true_eq] at h1
   exact ⟨h1.1,h1.2.1,h1.2.2,h2⟩
  ·cases h
 ·cases h
theorem textB_len {s:List UInt8} (h:textB s=true):s.length<=8:=by
 unfold textB at h
 simp only[Bool.and_eq_true,decide_eq_true_eq] at h
 exact h.2
theorem cellB_len {f:Nat} {r:Row} (h:rowF r=0):1<=(cellB f r).length/\(cellB f r).length<=14:=by
 have h1:=textB_len (rowF_ok h).2.2.2
 have:(cellB f r).length=6+List.length r.2.2.2.1:=by
  unfold cellB
  rw[List.length_append];rfl
 omega
theorem u8_mod (n:Int):UInt8.ofInt (n % 256)=UInt8.ofInt n:=by
 simp only[UInt8.ofInt,Int.emod_emod_of_dvd n (show (256:Int) ∣ 256 from Int.dvd_refl _)]
 simp
theorem specCell_eq {f:Nat} {r:Row} (h:rowF r=0):spec_l1Cell.sem ((f:Int),r,())=some (cellB f r,()):=by
 obtain ⟨_,_,h3,h4⟩:=rowF_ok h
 have h1:=textB_len h4
 refine lift_eq (k:=0) fun k _=>(spec_l1Cell.raw_eq k _).trans ?_
 show spec_l1Cell.p _=_
 unfold spec_l1Cell.p cellB
 have d1:w64 (r.2.2.1.tdiv 256)=r.2.2.1 / 256:=by
  rw[Int.tdiv_eq_ediv_of_nonneg h3.1,w64_in (by omega)]
 have d2:r.2.2.1.tmod 256=r.2.2.1 % 256:=Int.tmod_eq_emod_of_nonneg h3.1
 rw[if_pos (cap_ok (show List.length r.2.2.2.1<=_ by omega)),if_pos (cap_ok (by simp only[List.length_cons,List.length_nil];omega))]
 simp only[d1,d2,u8_of]
theorem implCell_eq {f:Nat} {r:Row} (h:rowF r=0):impl_cell.sem ((f:Int),r,())=some (cellB f r,()):=by
 obtain ⟨_,_,h3,h4⟩:=rowF_ok h
 have h1:=textB_len h4
 refine lift_eq (k:=0) fun k _=>(impl_cell.raw_eq k _).trans ?_
 show impl_cell.p _=_
 unfold impl_cell.p cellB
 have d1:r.2.2.1.fdiv (2 ^ 8)=r.2.2.1 / 256:=Int.fdiv_eq_ediv_of_nonneg _ (by omega)
 rw[if_pos (cap_ok (by simp only[List.length_cons,List.length_nil];omega))]
 simp only[d1,u8_mod,u8_of]
def stubB (P t:Nat):List UInt8:=[(1:UInt8),UInt8.ofNat P,UInt8.ofNat t]
theorem specStub_eq (P t:Nat):spec_l1Stub.sem ((P:Int),(t:Int),())=some (stubB P t,()):=by
 refine lift_eq (k:=0) fun k _=>(spec_l1Stub.raw_eq k _).trans ?_
 show spec_l1Stub.p _=_
 unfold spec_l1Stub.p stubB
 simp only[u8_of]
theorem implStub_eq (P t:Nat):impl_stub.sem ((P:Int),(t:Int),())=some (stubB P t,()):=by
 refine lift_eq (k:=0) fun k _=>(impl_stub.raw_eq k _).trans ?_
 show impl_stub.p _=_
 unfold impl_stub.p stubB
 simp only[u8_of]
def placeGo (c:List UInt8) (no:Int):List Nat->L7Work->Option (Nat×Nat)×L7Work
 | [],w=>(none,w)
 | P::l,w=>if (P:Int)=no then placeGo c no l w else match (putIn w P c).1 with
  | some t=>(some (P,t),(putIn w P c).2)
  | none=>placeGo c no l (putIn w P c).2
def placeW (w:L7Work) (no:Int) (c:List UInt8):Option (Nat×Nat)×L7Work:=
 match (placeGo c no (List.range (List.length w.1)) w).1 with
 | some a=>placeGo c no (List.range (List.length w.1)) w
 | none=>if 12<=List.length w.1 then (none,(placeGo c no (List.range (List.length w.1)) w).2) else (some (List.length w.1,0),turnW (placeGo c no (List.range (List.length w.1)) w).2 (List.length w.1) (putQ newPg c))
structure placeR (w:L7Work) (n m:Nat) (c:List UInt8) (r:Option (Nat×Nat)×L7Work):Prop where
 ok:okW r.2 (n+m)
 no:r.1=none->List.length r.2.1=List.length w.1/\∀ Q s,cAt r.2.1 Q s=cAt w.1 Q s
 yes:∀ P t,r.1=some (P,t)->P < 12/\t < 16/\cAt w.1 P t=[]/\∀ Q s,cAt r.2.1 Q s=if Q=P/\s=t then c else cAt w.1 Q s
theorem placeGo_ok {c:List UInt8} (hc:1<=c.length) (no:Int):∀ (l:List Nat) (w:L7Work) (n:Nat),okW w n->(∀ P ∈ l,P < List.length w.1)->placeR w n (2*l.length) c (placeGo c no l w)
 | [],w,n,h,_=>⟨h.mono (by omega),fun _=>⟨rfl,fun _ _=>rfl⟩,fun P t ht=>by cases ht⟩
 | P::l,w,n,h,hl=>by
  unfold placeGo
  split
  ·have:=placeGo_ok hc no l w n h fun Q hQ=>hl Q (List.mem_cons_of_mem _ hQ)
   exact ⟨this.ok.mono (by simp only[List.length_cons];omega),this.no,this.yes⟩
  ·have hP:=hl P List.mem_cons_self
   have R:=putIn_ok h hP hc
   split
   ·rename_i t ht
    obtain ⟨y1,y2,y3⟩:=R.yes t ht
    refine ⟨R.ok.mono (by simp only[List.length_cons];omega),fun hh=>(by cases hh),fun P' t' hh=>?_⟩
    injection hh with hh
    injection hh with h1 h2
    subst h1;subst h2
    exact ⟨by have:=h.pages.1;omega,y1,y2,y3⟩
   ·rename_i ht
    have e:=R.no ht
    have:=placeGo_ok hc no l (putIn w P c).2 (n+2) R.ok fun Q hQ=>by rw[R.len];exact hl Q (List.mem_cons_of_mem _ hQ)
    refine ⟨this.ok.mono (by simp only[List.length_cons];omega),fun hh=>?_,fun P' t' hh=>?_⟩
    ·obtain ⟨a1,a2⟩:=this.no hh
     exact ⟨by rw[a1,R.len],fun Q s=>by rw[a2,e]⟩
    ·obtain ⟨a1,a2,a3,a4⟩:=this.yes P' t' hh
     exact ⟨a1,a2,by rw[<-e];exact a3,fun Q s=>by rw[a4,e]⟩
theorem new_put {c:List UInt8} (hc1:1<=c.length) (hc:c.length<=20):putF newPg c=0/\emptyF newPg=0/\PageOk (putQ newPg c)/\∀ s,cellOf (putQ newPg c) s=if s=0 then c else []:=by
 have e0:emptyF newPg=0:=by decide +kernel
 have hn:pn newPg=0:=by decide +kernel
 have hl:plo newPg=64:=by decide +kernel
 have hf:freeF newPg=62:=by decide +kernel
 have h0:putF newPg c=0:=by
  unfold putF moreF
  rw[e0,hn,hl,hf,if_pos rfl,if_neg (by omega),if_neg (by omega),if_neg (by omega)]
 obtain ⟨r1,r2,r3⟩:=putQ_ok newPg_ok.1 hc1 h0
 refine ⟨h0,e0,r1,fun s=>?_⟩
 rw[r2,e0,newPg_ok.2]
theorem placeW_ok {w:L7Work} {n:Nat} (h:okW w n) {c:List UInt8} (hc1:1<=c.length) (hc:c.length<=20) (no:Int):placeR w n 25 c (placeW w no c):=by
 have R:=placeGo_ok hc1 no (List.range (List.length w.1)) w n h fun P hP=>List.mem_range.1 hP
 have h12:=h.pages.1
 rw[List.length_range] at R
 unfold placeW
 split
 ·exact ⟨R.ok.mono (by omega),R.no,R.yes⟩
 ·rename_i h0
  obtain ⟨a1,a2⟩:=R.no h0
  split
  ·exact ⟨R.ok.mono (by omega),fun _=>⟨a1,a2⟩,fun P t ht=>by cases ht⟩
  ·rename_i hlt
   obtain ⟨n1,n2,n3,n4⟩:=new_put hc1 hc
   have hk:=turn_ok R.ok n3 (P:=List.length w.1) (by omega) (by omega)
   refine ⟨hk.mono (by omega),fun hh=>(by cases hh),fun P t ht=>?_⟩
   injection ht with ht
   injection ht with t1 t2
   subst t1;subst t2
   refine ⟨by omega,by omega,cAt_far (Nat.le_refl _),fun Q s=>?_⟩
   have e:=turn_new (placeGo c no (List.range (List.length w.1)) w).2 (putQ newPg c)
   rw[a1] at e
   show cAt (turnW (placeGo c no (List.range (List.length w.1)) w).2 (List.length w.1) (putQ newPg c)).1 Q s=_
   rw[e]
   unfold cAt
   rw[pgAt_app,a1]
   by_cases hq:Q=List.length w.1
   ·rw[if_pos hq,n4]
    by_cases hs:s=0
    ·rw[if_pos hs,if_pos ⟨hq,hs⟩]
    ·rw[if_neg hs,if_neg (fun hh=>hs hh.2)]
     subst hq
     exact (cAt_far (Nat.le_refl _)).symm
   ·rw[if_neg hq,if_neg (fun hh=>hq hh.1)]
    exact a2 Q s
def placeOut (r:Option (Nat×Nat)×L7Work):Int×Int×Bool×L7Work×Unit:=match r.1 with
 | some a=>((a.1:Int),(a.2:Int),true,r.2,())
 | none=>((0:Int),(0:Int),false,r.2,())
def placeF (c:List UInt8) (no:Int) (P:Nat) (w:L7Work):Sum (Option (Int×Int×Bool×L7Work×Unit)) L7Work:=
 if (P:Int)=no then .inr w else match (putIn w P c).1 with
  | some t=>.inl (some ((P:Int),(t:Int),true,(putIn w P c).2,()))
  | none=>.inr (putIn w P c).2
theorem forI_place {c:List UInt8} {no:Int} {fin:L7Work->Option (Int×Int×Bool×L7Work×Unit)}:∀ (l:List Nat) (i:Nat) (w:L7Work),forI (fun _ s x=>placeF c no x s) fin i l w=match (placeGo c no l w).1 with
  | some a=>some ((a.1:Int),(a.2:Int),true,(placeGo c no l w).2,())
  | none=>fin (placeGo c no l w).2
 | [],i,w=>rfl
 | P::l,i,w=>by
  simp only[forI,placeF,placeGo]
  by_cases hn:(P:Int)=no
  ·rw[if_pos hn,if_pos hn]
   exact forI_place l (i+1) w
  ·rw[if_neg hn,if_neg hn]
   cases (putIn w P c).1 with
   | some t=>rfl
   | none=>exact forI_place l (i+1) _
theorem new_same:newF=newPg:=rfl
theorem specPlace_eq {w:L7Work} {n:Nat} (h:okW w n) (hn:n<=800) {c:List UInt8} (hc1:1<=c.length) (hc:c.length<=20) (no:Int):spec_l7Place.sem (w,no,c,())=some (placeOut (placeW w no c)):=by
 have h12:=h.pages.1
 refine lift_eq (k:=100) fun k hk=>(spec_l7Place.raw_eq k _).trans ?_
 obtain ⟨n1,n2,n3,n4⟩:=new_put hc1 hc
 have:=range_loop (B:=fun self v=>spec_l7Place.B0 k self (fun z=>spec_l7Place.Q0 k (w,no,c,()) z) (w,no,c,()) v) (List.length w.1) (fun (s:L7Work) (i:Int)=>(s,i)) (placeF c no) (fun s=>spec_l7Place.Q0 k (w,no,c,()) s) (fun i s=>okW s (n+2*i)/\List.length s.1=List.length w.1) (by omega)
  (fun i hi s self ⟨hs,hsl⟩=>by
   show spec_l7Place.b0 _ _ _ _=_
   unfold spec_l7Place.b0 placeF
   have hlt:(i:Int) < (List.length s.1:Int):=by omega
   rw[decide_eq_true hlt,cond_true]
   by_cases hno:(i:Int)=no
   ·rw[decide_eq_true hno,cond_true,if_pos hno]
   ·rw[decide_eq_false hno,cond_false,if_neg hno,specPutIn_eq hs (by omega) (by omega) hc1 hc]
    unfold putOut
    cases (putIn s i c).1 with
    | some t=>rfl
    | none=>rfl)
  (fun i hi s s' ⟨hs,hsl⟩ hf=>by
   unfold placeF at hf
   have R:=putIn_ok hs (show i < List.length s.1 by omega) hc1
   split at hf
   ·injection hf with hf
    subst hf
    exact ⟨hs.mono (by omega),hsl⟩
   ·split at hf
    ·cases hf
    ·injection hf with hf
     subst hf
     exact ⟨R.ok.mono (by omega),by rw[R.len,hsl]⟩)
  (fun s self ⟨hs,hsl⟩=>by
   show spec_l7Place.b0 _ _ _ _=_
   unfold spec_l7Place.b0
   rw[hsl,decide_eq_false (Int.lt_irrefl _),cond_false]) w ⟨h,rfl⟩ k (by omega)
 refine this.trans ?_
 rw[forI_place]
 unfold placeW placeOut
 have R:=placeGo_ok hc1 no (List.range (List.length w.1)) w n h fun P hP=>List.mem_range.1 hP
 rw[List.length_range] at R
 cases hg:(placeGo c no (List.range (List.length w.1)) w).1 with
 | some a=>simp only[hg]
 | none=>
  obtain ⟨a1,a2⟩:=R.no hg
  simp only
  show spec_l7Place.q0 _ _=_
  unfold spec_l7Place.q0
  rw[a1]
  by_cases hl:12<=List.length w.1
  ·have:(12:Int)<=(List.length w.1:Int):=by omega
   rw[decide_eq_true this,cond_true,if_pos hl]
  ·have:¬ (12:Int)<=(List.length w.1:Int):=by omega
   rw[decide_eq_false this,cond_false,if_neg hl,specNew_eq]
   simp only[Option.bind_some,new_same,gPut_eq newPg_ok.1 c hc1 hc,n1,n2,if_true,specTurn_eq R.ok (by omega) n3.len (show List.length w.1<=List.length (placeGo c no (List.range (List.length w.1)) w).2.1 by omega)]
   have e:List.length (turnW (placeGo c no (List.range (List.length w.1)) w).2 (List.length w.1) (putQ newPg c)).1=List.length w.1+1:=by
    have:=turn_new (placeGo c no (List.range (List.length w.1)) w).2 (putQ newPg c)
    rw[a1] at this
    rw[this,List.length_append,a1];rfl
   rw[e,w64_in (by omega)]
   have:((List.length w.1+1:Nat):Int) - 1=(List.length w.1:Int):=by omega
   rw[this]
theorem implPlace_eq {w:L7Work} {n:Nat} (h:okW w n) (hn:n<=800) {c:List UInt8} (hc1:1<=c.length) (hc:c.length<=20) (no:Int):impl_desk_place.sem (w,c,no,())=some (placeOut (placeW w no c)):=by
 have h12:=h.pages.1
 refine lift_eq (k:=100) fun k hk=>(impl_desk_place.raw_eq k _).trans ?_
 obtain ⟨n1,n2,n3,n4⟩:=new_put hc1 hc
 have:=range_loop (B:=fun self v=>impl_desk_place.B0 k self (fun z=>impl_desk_place.Q0 k (w,c,no,()) z) (w,c,no,()) v) (List.length w.1) (fun (s:L7Work) (i:Int)=>(s,i)) (placeF c no) (fun s=>impl_desk_place.Q0 k (w,c,no,()) s) (fun i s=>okW s (n+2*i)/\List.length s.1=List.length w.1) (by omega)
  (fun i hi s self ⟨hs,hsl⟩=>by
   show impl_desk_place.b0 _ _ _ _=_
   unfold impl_desk_place.b0 placeF
   have hlt:(i:Int) < (List.length w.1:Int):=by omega
   rw[decide_eq_true hlt,cond_true]
   by_cases hno:(i:Int)=no
   ·rw[decide_eq_true hno,cond_true,if_pos hno]
   ·rw[decide_eq_false hno,cond_false,if_neg hno]
    have hP:i < List.length s.1:=by omega
    have hp:=pgAt_ok hs.pages hP
    obtain ⟨q1,q2,q3⟩:=compQ_ok hp
    have hw:=compW_ok hs hP
    have hl:=compW_len hP
    have g:(0:Int)<=(i:Int)/\(i:Int) < (List.length s.1:Int):=by omega
    have g2:(0:Int)<=(i:Int)/\(i:Int) < (List.length (compW s i).1:Int):=by omega
    rw[if_pos g]
    unfold putIn
    simp only[Int.toNat_natCast,pgAt_get hP,Option.bind_some,implPut_eq hp c hc1 hc,implCompW_eq hs (by omega) hP,pgAt_get (show i < List.length (compW s i).1 by omega),compW_at hP,implPut_eq q1 c hc1 hc]
    by_cases h8:putF (pgAt s.1 i) c=8
    ·rw[decide_eq_true h8,cond_true,if_pos h8,if_pos g2]
     by_cases h0:putF (compQ (pgAt s.1 i)) c=0
     ·rw[decide_eq_true h0,cond_true,if_pos h0,if_pos h0,if_pos h0,implTurn_eq hw (by omega) (putQ_ok q1 hc1 h0).1.len (by omega)]
      rfl
     ·rw[decide_eq_false h0,cond_false,if_neg h0]
    ·rw[decide_eq_false h8,cond_false,if_neg h8]
     by_cases h0:putF (pgAt s.1 i) c=0
     ·rw[decide_eq_true h0,cond_true,if_pos h0,if_pos h0,if_pos h0,implTurn_eq hs (by omega) (putQ_ok hp hc1 h0).1.len (by omega)]
      rfl
     ·rw[decide_eq_false h0,cond_false,if_neg h0])
  (fun i hi s s' ⟨hs,hsl⟩ hf=>by
   unfold placeF at hf
   have R:=putIn_ok hs (show i < List.length s.1 by omega) hc1
   split at hf
   ·injection hf with hf
    subst hf
    exact ⟨hs.mono (by omega),hsl⟩
   ·split at hf
    ·cases hf
    ·injection hf with hf
     subst hf
     exact ⟨R.ok.mono (by omega),by rw[R.len,hsl]⟩)
  (fun s self ⟨hs,hsl⟩=>by
   show impl_desk_place.b0 _ _ _ _=_
   unfold impl_desk_place.b0
   show (bif decide ((List.length w.1:Int) < (List.length w.1:Int)) then _ else _)=_
   rw[decide_eq_false (Int.lt_irrefl _),cond_false]) w ⟨h,rfl⟩ k (by omega)
 refine this.trans ?_
 rw[forI_place]
 unfold placeW placeOut
 have R:=placeGo_ok hc1 no (List.range (List.length w.1)) w n h fun P hP=>List.mem_range.1 hP
 rw[List.length_range] at R
 cases hg:(placeGo c no (List.range (List.length w.1)) w).1 with
 | some a=>simp only[hg]
 | none=>
  obtain ⟨a1,a2⟩:=R.no hg
  simp only
  show impl_desk_place.q0 _ _=_
  unfold impl_desk_place.q0
  rw[a1]
  by_cases hl:12<=List.length w.1
  ·have:(List.length w.1:Int)=12:=by omega
   rw[decide_eq_true this,cond_true,if_pos hl]
  ·have:¬ (List.length w.1:Int)=12:=by omega
   rw[decide_eq_false this,cond_false,if_neg hl,implNew_eq]
   simp only[Option.bind_some,new_same,implPut_eq newPg_ok.1 c hc1 hc,n1,n2,if_true,implTurn_eq R.ok (by omega) n3.len (show List.length w.1<=List.length (placeGo c no (List.range (List.length w.1)) w).2.1 by omega)]
   have e:List.length (turnW (placeGo c no (List.range (List.length w.1)) w).2 (List.length w.1) (putQ newPg c)).1=List.length w.1+1:=by
    have:=turn_new (placeGo c no (List.range (List.length w.1)) w).2 (putQ newPg c)
    rw[a1] at this
    rw[this,List.length_append,a1];rfl
   rw[e,w64_in (by omega)]
   have:((List.length w.1+1:Nat):Int) - 1=(List.length w.1:Int):=by omega
   rw[this]
end OT
set_option linter.unusedVariables false
set_option linter.unusedSimpArgs false
set_option linter.unusedSectionVars false
namespace OT
open Go
theorem nodup_fm {α β:Type} {g:α->Option β}:∀ {l:List α},l.Nodup->((l.filterMap g).Nodup↔∀ x ∈ l,∀ y ∈ l,∀ b,g x=some b->g y=some b->x=y)
 | [],_=>by simp
 | z::l,h=>by
  rw[List.nodup_cons] at h
  have ih:=nodup_fm (g:=g) h.2
  cases hz:g z with
  | none=>
   rw[List.filterMap_cons_none hz,ih]
   constructor
   ·intro hh x hx y hy b h1 h2
    rcases List.mem_cons.1 hx with e1 | hx
    ·rw[e1,hz] at h1;cases h1
    ·rcases List.mem_cons.1 hy with e2 | hy
     ·rw[e2,hz] at h2;cases h2
     ·exact hh x hx y hy b h1 h2
   ·intro hh x hx y hy
    exact hh x (List.mem_cons_of_mem _ hx) y (List.mem_cons_of_mem _ hy)
  | some c=>
   rw[List.filterMap_cons_some hz,List.nodup_cons,ih,List.mem_filterMap]
   constructor
   ·rintro ⟨hn,hh⟩ x hx y hy b h1 h2
    rcases List.mem_cons.1 hx with e1 | hx
    ·rcases List.mem_cons.1 hy with e2 | hy
     ·rw[e1,e2]
     ·rw[e1,hz] at h1
      exact absurd ⟨y,hy,h2.trans h1.symm⟩ hn
    ·rcases List.mem_cons.1 hy with e2 | hy
     ·rw[e2,hz] at h2
      exact absurd ⟨x,hx,h1.trans h2.symm⟩ hn
     ·exact hh x hx y hy b h1 h2
   ·intro hh
    refine ⟨?_,fun x hx y hy=>hh x (List.mem_cons_of_mem _ hx) y (List.mem_cons_of_mem _ hy)⟩
    rintro ⟨y,hy,h2⟩
    have:=hh z List.mem_cons_self y (List.mem_cons_of_mem _ hy) c hz h2
    exact h.1 (this ▸ hy)
abbrev Cells2:Type:=Nat->Nat->List UInt8
def flagC (d:List UInt8):Int:=(cellF d).1.2.1
def tpC (d:List UInt8):Nat:=(cellF d).1.2.2.1.toNat
def tsC (d:List UInt8):Nat:=(cellF d).1.2.2.2.1.toNat
def rowD (d:List UInt8):Row:=(cellF d).1.2.2.2.2.1
def rowAt (f:Cells2) (P s:Nat):Row:=if flagC (f P s)=1 then rowD (f (tpC (f P s)) (tsC (f P s))) else rowD (f P s)
structure Stands (f:Cells2):Prop where
 read:∀ P s,f P s≠[]->(cellF (f P s)).2=true
 stub:∀ P s,f P s≠[]->flagC (f P s)=1->f (tpC (f P s)) (tsC (f P s))≠[]/\flagC (f (tpC (f P s)) (tsC (f P s)))=2
 tgt:∀ P s Q t,f P s≠[]->f Q t≠[]->flagC (f P s)=1->flagC (f Q t)=1->tpC (f P s)=tpC (f Q t)->tsC (f P s)=tsC (f Q t)->P=Q/\s=t
 key:∀ P s Q t,f P s≠[]->f Q t≠[]->flagC (f P s)≠2->flagC (f Q t)≠2->rk (rowAt f P s)=rk (rowAt f Q t)->P=Q/\s=t
def rowIn (f:Cells2) (r:Row):Prop:=∃ P s,f P s≠[]/\flagC (f P s)≠2/\rowAt f P s=r
def spotAt (ps:Pgs) (P s:Nat):L6Spot:=((P:Int),(s:Int),(cellF (cAt ps P s)).1,())
theorem spot_iff {ps:Pgs} (h:rightP ps) {x:L6Spot}:x ∈ spotsF ps↔∃ P s,cAt ps P s≠[]/\x=spotAt ps P s:=by
 rw[spot_mem]
 constructor
 ·rintro ⟨P,p,s,h1,h2,h3,rfl⟩
  have hP:P < ps.length:=by
   rcases Nat.lt_or_ge P ps.length with g | g
   ·exact g
   ·rw[List.getElem?_eq_none g] at h1;cases h1
  have hp:pgAt ps P=p:=by unfold pgAt;rw[List.getD_eq_getElem?_getD,h1];rfl
  have e:cAt ps P s=cellP p s:=by unfold cAt cellOf;rw[hp,if_pos h2]
  refine ⟨P,s,fun h0=>h3 ?_,by unfold spotAt;rw[e]⟩
  have:=(cellOf_nil (pgAt_ok h hP) (i:=s) (by rw[hp];exact h2)).1 h0
  rw[hp] at this
  exact this
 ·rintro ⟨P,s,h1,rfl⟩
  obtain ⟨a1,a2,a3⟩:=cAt_in h h1
  refine ⟨P,pgAt ps P,s,pgAt_get a1,a2,a3,?_⟩
  unfold spotAt cAt cellOf
  rw[if_pos a2]
theorem spots_nodup (ps:Pgs):(spotsF ps).Nodup:=by
 have h1:∀ (P:Nat) (p:List UInt8),(spotsPg P p).Pairwise (fun x y=>x.2.1 < y.2.1)/\∀ x ∈ spotsPg P p,x.1=(P:Int):=by
  intro P p
  have key:∀ n,((List.range n).flatMap (spot1 P p)).Pairwise (fun x y=>x.2.1 < y.2.1)/\∀ x ∈ (List.range n).flatMap (spot1 P p),x.1=(P:Int)/\x.2.1 < (n:Int):=by
   intro n
   induction n with
   | zero=>exact ⟨List.Pairwise.nil,fun x hx=>by cases hx⟩
   | succ n ih=>
    rw[List.range_succ,List.flatMap_append]
    have hs:∀ x ∈ ([n]:List Nat).flatMap (spot1 P p),x.1=(P:Int)/\x.2.1=(n:Int):=fun x hx=>by
     rw[List.flatMap_cons,List.flatMap_nil,List.append_nil] at hx
     unfold spot1 at hx
     split at hx
     ·cases hx
     ·rw[List.mem_singleton.1 hx];exact ⟨rfl,rfl⟩
    constructor
    ·rw[List.pairwise_append]
     refine ⟨ih.1,?_,fun x hx y hy=>?_⟩
     ·rw[List.flatMap_cons,List.flatMap_nil,List.append_nil]
      unfold spot1
      split
      ·exact List.Pairwise.nil
      ·exact List.pairwise_singleton _ _
     ·have:=(ih.2 x hx).2
      have:=(hs y hy).2
      omega
    ·intro x hx
     rcases List.mem_append.1 hx with hx | hx
     ·have:=ih.2 x hx
      exact ⟨this.1,by have:=this.2;omega⟩
     ·have:=hs x hx
      exact ⟨this.1,by have:=this.2;omega⟩
  exact ⟨(key (pn p)).1,fun x hx=>((key (pn p)).2 x hx).1⟩
 have main:∀ (xs:Pgs) (i:Nat),(goI spotsPg i xs).Nodup/\∀ x ∈ goI spotsPg i xs,(i:Int)<=x.1:=by
  intro xs
  induction xs with
  | nil=>intro i;exact ⟨List.Pairwise.nil,fun x hx=>by cases hx⟩
  | cons p xs ih=>
   intro i
   obtain ⟨a1,a2⟩:=h1 i p
   obtain ⟨b1,b2⟩:=ih (i+1)
   refine ⟨?_,fun x hx=>?_⟩
   ·unfold goI
    rw[List.nodup_append]
    refine ⟨a1.imp fun {x y} hlt he=>by rw[he] at hlt;omega,b1,fun x hx y hy he=>?_⟩
    have:=a2 x hx
    have:=b2 y hy
    rw[<-he] at this
    omega
   ·unfold goI at hx
    rcases List.mem_append.1 hx with hx | hx
    ·rw[a2 x hx];omega
    ·have:=b2 x hx;omega
 exact (main ps 0).1
theorem seen_key (ps:Pgs):(seenF ps).map (fun x=>rk (sRow x))=(spotsF ps).filterMap (fun x=>if sFlag x=2 then none else some (rk (sRow (seen1 ps x)))):=by
 unfold seenF
 generalize spotsF ps=l
 induction l with
 | nil=>rfl
 | cons x l ih=>
  rw[List.flatMap_cons,List.map_append,ih]
  unfold seenX
  by_cases h:sFlag x=2
  ·rw[if_pos h,List.filterMap_cons_none (by simp only[if_pos h])]
   rfl
  ·rw[if_neg h,List.filterMap_cons_some (b:=rk (sRow (seen1 ps x))) (by simp only[if_neg h])]
   rfl
theorem tp_nat (d:List UInt8):(cellF d).1.2.2.1=(tpC d:Int)/\(cellF d).1.2.2.2.1=(tsC d:Int):=by
 obtain ⟨h1,h2⟩:=cellF_nonneg d
 unfold tpC tsC
 omega
theorem cellG_nil {ps:Pgs} (h:rightP ps) (P s:Nat):cellG ps (P:Int) (s:Int)=if cAt ps P s=[] then (cell0,false) else cellF (cAt ps P s):=by
 unfold cellG
 rw[Int.toNat_natCast,Int.toNat_natCast]
 by_cases hc:cAt ps P s=[]
 ·rw[if_pos hc]
  cases hg:ps[P]? with
  | none=>rfl
  | some p=>
   simp only
   have hp:pgAt ps P=p:=by unfold pgAt;rw[List.getD_eq_getElem?_getD,hg];rfl
   have hP:P < ps.length:=by
    rcases Nat.lt_or_ge P ps.length with g | g
    ·exact g
    ·rw[List.getElem?_eq_none g] at hg;cases hg
   rw[if_neg]
   rintro ⟨a1,a2⟩
   refine a2 ?_
   have:=(cellOf_nil (pgAt_ok h hP) (i:=s) (by rw[hp];exact a1)).1 hc
   rw[hp] at this
   exact this
 ·rw[if_neg hc]
  obtain ⟨a1,a2,a3⟩:=cAt_in h hc
  rw[pgAt_get a1]
  simp only
  rw[if_pos ⟨a2,a3⟩]
  unfold cAt cellOf
  rw[if_pos a2]
theorem seen1_row {ps:Pgs} (h:rightP ps) (P s:Nat) (hst:flagC (cAt ps P s)=1->cAt ps (tpC (cAt ps P s)) (tsC (cAt ps P s))≠[]):sRow (seen1 ps (spotAt ps P s))=rowAt (cAt ps) P s:=by
 unfold seen1 rowAt
 have e1:sFlag (spotAt ps P s)=flagC (cAt ps P s):=rfl
 rw[e1]
 by_cases hf:flagC (cAt ps P s)=1
 ·rw[if_pos hf,if_pos hf]
  obtain ⟨t1,t2⟩:=tp_nat (cAt ps P s)
  have e2:sTp (spotAt ps P s)=(tpC (cAt ps P s):Int):=t1
  have e3:sTs (spotAt ps P s)=(tsC (cAt ps P s):Int):=t2
  rw[e2,e3,cellG_nil h,if_neg (hst hf)]
  rfl
 ·rw[if_neg hf,if_neg hf]
  rfl
theorem firstF_zero {α:Type} {c:α->Int}:∀ {xs:List α},(∀ x ∈ xs,c x=0)->firstF c xs=0
 | [],_=>rfl
 | x::xs,h=>by
  unfold firstF
  rw[if_pos (h x List.mem_cons_self)]
  exact firstF_zero fun y hy=>h y (List.mem_cons_of_mem _ hy)
theorem stubOk_iff {ps:Pgs} (h:rightP ps) (P s:Nat) (hr:∀ Q t,cAt ps Q t≠[]->(cellF (cAt ps Q t)).2=true):stubOk ps (spotAt ps P s)=true↔(flagC (cAt ps P s)=1->cAt ps (tpC (cAt ps P s)) (tsC (cAt ps P s))≠[]/\flagC (cAt ps (tpC (cAt ps P s)) (tsC (cAt ps P s)))=2):=by
 unfold stubOk
 have e1:sFlag (spotAt ps P s)=flagC (cAt ps P s):=rfl
 obtain ⟨t1,t2⟩:=tp_nat (cAt ps P s)
 have e2:sTp (spotAt ps P s)=(tpC (cAt ps P s):Int):=t1
 have e3:sTs (spotAt ps P s)=(tsC (cAt ps P s):Int):=t2
 rw[e1,e2,e3,cellG_nil h]
 by_cases hf:flagC (cAt ps P s)=1
 ·by_cases hc:cAt ps (tpC (cAt ps P s)) (tsC (cAt ps P s))=[]
  ·simp[hf,hc]
  ·simp only[hf,hc,decide_true,Bool.not_true,Bool.false_or,if_false,hr _ _ hc,Bool.true_and,decide_eq_true_eq,true_implies,ne_eq,not_false_eq_true,true_and]
   exact Iff.rfl
 ·simp[hf]
theorem view_iff {ps:Pgs}:viewC ps=0↔rightP ps/\Stands (cAt ps):=by
 constructor
 ·intro hv
  have V:=view_ok hv
  have hr:=V.right
  have hread:∀ P s,cAt ps P s≠[]->(cellF (cAt ps P s)).2=true:=fun P s hc=>by
   obtain ⟨a1,a2,a3⟩:=cAt_in hr hc
   have:=V.cells.2 _ (pgAt_mem a1) s a2 a3
   unfold cAt cellOf
   rw[if_pos a2]
   exact this
  have hstub:∀ P s,cAt ps P s≠[]->flagC (cAt ps P s)=1->cAt ps (tpC (cAt ps P s)) (tsC (cAt ps P s))≠[]/\flagC (cAt ps (tpC (cAt ps P s)) (tsC (cAt ps P s)))=2:=fun P s hc=>
   (stubOk_iff hr P s hread).1 (List.all_eq_true.1 V.stubs _ ((spot_iff hr).2 ⟨P,s,hc,rfl⟩))
  refine ⟨hr,hread,hstub,fun P s Q t h1 h2 f1 f2 e1 e2=>?_,fun P s Q t h1 h2 f1 f2 e=>?_⟩
  ·have:=(nodup_fm (spots_nodup ps)).1 V.tgts _ ((spot_iff hr).2 ⟨P,s,h1,rfl⟩) _ ((spot_iff hr).2 ⟨Q,t,h2,rfl⟩) ((tpC (cAt ps P s):Int),(tsC (cAt ps P s):Int))
    (by unfold sTgt;rw[if_pos (show sFlag (spotAt ps P s)=1 from f1)];show some ((cellF (cAt ps P s)).1.2.2.1,(cellF (cAt ps P s)).1.2.2.2.1)=_;rw[(tp_nat _).1,(tp_nat _).2])
    (by unfold sTgt;rw[if_pos (show sFlag (spotAt ps Q t)=1 from f2)];show some ((cellF (cAt ps Q t)).1.2.2.1,(cellF (cAt ps Q t)).1.2.2.2.1)=_;rw[(tp_nat _).1,(tp_nat _).2,e1,e2])
   have g1:((P:Int))=(Q:Int):=congrArg (fun x:L6Spot=>x.1) this
   have g2:((s:Int))=(t:Int):=congrArg (fun x:L6Spot=>x.2.1) this
   omega
  ·have hk:=V.keys
   rw[seen_key] at hk
   have:=(nodup_fm (spots_nodup ps)).1 hk _ ((spot_iff hr).2 ⟨P,s,h1,rfl⟩) _ ((spot_iff hr).2 ⟨Q,t,h2,rfl⟩) (rk (rowAt (cAt ps) P s))
    (by rw[if_neg (show ¬ sFlag (spotAt ps P s)=2 from f1),seen1_row hr P s fun hf=>(hstub P s h1 hf).1])
    (by rw[if_neg (show ¬ sFlag (spotAt ps Q t)=2 from f2),seen1_row hr Q t fun hf=>(hstub Q t h2 hf).1,e])
   have g1:((P:Int))=(Q:Int):=congrArg (fun x:L6Spot=>x.1) this
   have g2:((s:Int))=(t:Int):=congrArg (fun x:L6Spot=>x.2.1) this
   omega
 ·rintro ⟨hr,S⟩
  have hf:firstF pgC ps=0:=firstF_zero fun p hp=>by
   obtain ⟨P,hP,he⟩:=List.getElem_of_mem hp
   have hpg:pgAt ps P=p:=by unfold pgAt;rw[List.getD_eq_getElem?_getD,List.getElem?_eq_getElem hP,he];rfl
   have hok:=hr.2 p hp
   unfold pgC
   rw[if_pos (pageF_iff.2 hok),if_pos]
   refine List.all_eq_true.2 fun s hs=>?_
   have hs:=List.mem_range.1 hs
   unfold okCell
   by_cases hz:psz p s=0
   ·rw[decide_eq_true hz];rfl
   ·have hc:cAt ps P s≠[]:=fun h0=>hz (by
     unfold cAt at h0
     rw[hpg] at h0
     exact (cellOf_nil hok hs).1 h0)
    have:=S.read P s hc
    unfold cAt cellOf at this
    rw[hpg,if_pos hs] at this
    rw[this,Bool.or_true]
  have hl:¬ 12 < ps.length:=by have:=hr.1;omega
  unfold viewC
  rw[if_neg hl,if_pos hf]
  unfold lookC
  rw[if_pos,if_pos,if_pos]
  ·rw[seen_key]
   refine (nodup_fm (spots_nodup ps)).2 fun x hx y hy b h1 h2=>?_
   obtain ⟨P,s,c1,rfl⟩:=(spot_iff hr).1 hx
   obtain ⟨Q,t,c2,rfl⟩:=(spot_iff hr).1 hy
   split at h1
   ·cases h1
   ·rename_i f1
    split at h2
    ·cases h2
    ·rename_i f2
     rw[seen1_row hr P s fun hf=>(S.stub P s c1 hf).1] at h1
     rw[seen1_row hr Q t fun hf=>(S.stub Q t c2 hf).1] at h2
     obtain ⟨rfl,rfl⟩:=S.key P s Q t c1 c2 f1 f2 (by injection h1 with h1;injection h2 with h2;rw[h1,h2])
     rfl
  ·refine (nodup_fm (spots_nodup ps)).2 fun x hx y hy b h1 h2=>?_
   obtain ⟨P,s,c1,rfl⟩:=(spot_iff hr).1 hx
   obtain ⟨Q,t,c2,rfl⟩:=(spot_iff hr).1 hy
   unfold sTgt at h1 h2
   split at h1
   ·rename_i f1
    split at h2
    ·rename_i f2
     injection h1 with h1
     injection h2 with h2
     have h3:=h1.trans h2.symm
     injection h3 with h3 h4
     obtain ⟨rfl,rfl⟩:=S.tgt P s Q t c1 c2 f1 f2 (congrArg Int.toNat h3) (congrArg Int.toNat h4)
     rfl
    ·cases h2
   ·cases h1
  ·refine List.all_eq_true.2 fun x hx=>?_
   obtain ⟨P,s,c1,rfl⟩:=(spot_iff hr).1 hx
   exact (stubOk_iff hr P s S.read).2 (S.stub P s c1)
theorem rows_iff {ps:Pgs} (hv:viewC ps=0) (r:Row):r ∈ rowsV ps↔rowIn (cAt ps) r:=by
 have V:=view_ok hv
 have hr:=V.right
 have S:=(view_iff.1 hv).2
 rw[rowsV_eq V,(sortR_perm _).mem_iff,List.mem_map]
 constructor
 ·rintro ⟨x,hx,rfl⟩
  unfold seenF at hx
  obtain ⟨y,hy,hxy⟩:=List.mem_flatMap.1 hx
  obtain ⟨P,s,c1,rfl⟩:=(spot_iff hr).1 hy
  unfold seenX at hxy
  split at hxy
  ·cases hxy
  ·rename_i f1
   rw[List.mem_singleton.1 hxy,seen1_row hr P s fun hf=>(S.stub P s c1 hf).1]
   exact ⟨P,s,c1,f1,rfl⟩
 ·rintro ⟨P,s,c1,f1,rfl⟩
  refine ⟨seen1 ps (spotAt ps P s),?_,seen1_row hr P s fun hf=>(S.stub P s c1 hf).1⟩
  unfold seenF
  refine List.mem_flatMap.2 ⟨_,(spot_iff hr).2 ⟨P,s,c1,rfl⟩,?_⟩
  unfold seenX
  rw[if_neg (show ¬ sFlag (spotAt ps P s)=2 from f1)]
  exact List.mem_singleton.2 rfl
end OT
set_option linter.unusedVariables false
set_option linter.unusedSimpArgs false
set_option linter.unusedSectionVars false
namespace OT
open Go
def upd (f:Cells2) (P s:Nat) (c:List UInt8):Cells2:=fun Q t=>if Q=P/\t=s then c else f Q t
theorem upd_at (f:Cells2) (P s:Nat) (c:List UInt8):upd f P s c P s=c:=if_pos ⟨rfl,rfl⟩
theorem upd_off {f:Cells2} {P s:Nat} {c:List UInt8} {Q t:Nat} (h:¬ (Q=P/\t=s)):upd f P s c Q t=f Q t:=if_neg h
def lone (f:Cells2) (A B:Nat):Prop:=∀ Q t,f Q t≠[]->flagC (f Q t)=1->¬ (tpC (f Q t)=A/\tsC (f Q t)=B)
theorem row_same {f g:Cells2} {Q u:Nat} (h1:g Q u=f Q u) (h2:flagC (f Q u)=1->g (tpC (f Q u)) (tsC (f Q u))=f (tpC (f Q u)) (tsC (f Q u))):rowAt g Q u=rowAt f Q u:=by
 unfold rowAt
 rw[h1]
 split
 ·rename_i hf;rw[h2 hf]
 ·rfl
section
variable {f:Cells2} (S:Stands f)
include S
theorem add_moved {P t:Nat} {c:List UInt8} (h0:f P t=[]) (hc:(cellF c).2=true) (h2:flagC c=2):Stands (upd f P t c)/\(∀ r,rowIn (upd f P t c) r↔rowIn f r)/\lone (upd f P t c) P t:=by
 have off:∀ {Q u},f Q u≠[]->upd f P t c Q u=f Q u:=fun {Q u} hq=>upd_off fun ⟨e1,e2⟩=>hq (by rw[e1,e2];exact h0)
 have of1:∀ {Q u},flagC (upd f P t c Q u)≠2->upd f P t c Q u=f Q u:=fun {Q u} hq=>upd_off fun ⟨e1,e2⟩=>hq (by rw[e1,e2,upd_at];exact h2)
 have row:∀ {Q u},f Q u≠[]->rowAt (upd f P t c) Q u=rowAt f Q u:=fun {Q u} hq=>row_same (off hq) fun hf=>off (S.stub Q u hq hf).1
 refine ⟨⟨fun Q u hq=>?_,fun Q u hq hf=>?_,fun Q u R v hq hr f1 f2 e1 e2=>?_,fun Q u R v hq hr f1 f2 e=>?_⟩,fun r=>?_,fun Q u hq hf hh=>?_⟩
 ·by_cases he:Q=P/\u=t
  ·rw[he.1,he.2,upd_at];exact hc
  ·rw[upd_off he] at hq ⊢;exact S.read Q u hq
 ·have e:=of1 (Q:=Q) (u:=u) (by rw[hf];decide)
  rw[e] at hq hf ⊢
  obtain ⟨a1,a2⟩:=S.stub Q u hq hf
  rw[off a1]
  exact ⟨a1,a2⟩
 ·have g1:=of1 (Q:=Q) (u:=u) (by rw[f1];decide)
  have g2:=of1 (Q:=R) (u:=v) (by rw[f2];decide)
  rw[g1] at hq f1 e1 e2
  rw[g2] at hr f2 e1 e2
  exact S.tgt Q u R v hq hr f1 f2 e1 e2
 ·have g1:=of1 f1
  have g2:=of1 f2
  rw[g1] at hq f1
  rw[g2] at hr f2
  rw[row hq,row hr] at e
  exact S.key Q u R v hq hr f1 f2 e
 ·constructor
  ·rintro ⟨Q,u,hq,f1,e⟩
   rw[of1 f1] at hq f1
   rw[row hq] at e
   exact ⟨Q,u,hq,f1,e⟩
  ·rintro ⟨Q,u,hq,f1,e⟩
   exact ⟨Q,u,by rw[off hq];exact hq,by rw[off hq];exact f1,by rw[row hq];exact e⟩
 ·have e:=of1 (Q:=Q) (u:=u) (by rw[hf];decide)
  rw[e] at hq hf hh
  have:=(S.stub Q u hq hf).1
  rw[hh.1,hh.2] at this
  exact this h0
theorem drop_moved {A B:Nat} (h2:flagC (f A B)=2) (hl:lone f A B):Stands (upd f A B [])/\(∀ r,rowIn (upd f A B []) r↔rowIn f r):=by
 have ne:∀ {Q u},upd f A B [] Q u≠[]->¬ (Q=A/\u=B):=fun {Q u} hq he=>hq (by rw[he.1,he.2,upd_at])
 have tg:∀ {Q u},f Q u≠[]->flagC (f Q u)=1->upd f A B [] (tpC (f Q u)) (tsC (f Q u))=f (tpC (f Q u)) (tsC (f Q u)):=fun {Q u} hq hf=>upd_off (hl Q u hq hf)
 refine ⟨⟨fun Q u hq=>?_,fun Q u hq hf=>?_,fun Q u R v hq hr f1 f2 e1 e2=>?_,fun Q u R v hq hr f1 f2 e=>?_⟩,fun r=>?_⟩
 ·have:=ne hq
  rw[upd_off this] at hq ⊢
  exact S.read Q u hq
 ·have:=ne hq
  rw[upd_off this] at hq hf ⊢
  rw[tg hq hf]
  exact S.stub Q u hq hf
 ·have n1:=ne hq
  have n2:=ne hr
  rw[upd_off n1] at hq f1 e1 e2
  rw[upd_off n2] at hr f2 e1 e2
  exact S.tgt Q u R v hq hr f1 f2 e1 e2
 ·have n1:=ne hq
  have n2:=ne hr
  have g1:=upd_off (f:=f) (c:=[]) n1
  have g2:=upd_off (f:=f) (c:=[]) n2
  rw[g1] at hq f1
  rw[g2] at hr f2
  rw[row_same g1 (tg hq),row_same g2 (tg hr)] at e
  exact S.key Q u R v hq hr f1 f2 e
 ·constructor
  ·rintro ⟨Q,u,hq,f1,e⟩
   have g1:=upd_off (f:=f) (c:=[]) (ne hq)
   rw[g1] at hq f1
   rw[row_same g1 (tg hq)] at e
   exact ⟨Q,u,hq,f1,e⟩
  ·rintro ⟨Q,u,hq,f1,e⟩
   have g1:upd f A B [] Q u=f Q u:=upd_off fun he=>f1 (by rw[he.1,he.2];exact h2)
   exact ⟨Q,u,by rw[g1];exact hq,by rw[g1];exact f1,by rw[row_same g1 (tg hq)];exact e⟩
theorem drop_seen {P s:Nat} (h0:f P s≠[]) (h2:flagC (f P s)≠2):Stands (upd f P s [])/\(∀ r,rowIn (upd f P s []) r↔rowIn f r/\rk r≠rk (rowAt f P s))/\(flagC (f P s)=1->lone (upd f P s []) (tpC (f P s)) (tsC (f P s))):=by
 have ne:∀ {Q u},upd f P s [] Q u≠[]->¬ (Q=P/\u=s):=fun {Q u} hq he=>hq (by rw[he.1,he.2,upd_at])
 have tg:∀ {Q u},f Q u≠[]->flagC (f Q u)=1->upd f P s [] (tpC (f Q u)) (tsC (f Q u))=f (tpC (f Q u)) (tsC (f Q u)):=fun {Q u} hq hf=>upd_off fun he=>h2 (by
  have:=(S.stub Q u hq hf).2
  rw[he.1,he.2] at this
  exact this)
 refine ⟨⟨fun Q u hq=>?_,fun Q u hq hf=>?_,fun Q u R v hq hr f1 f2 e1 e2=>?_,fun Q u R v hq hr f1 f2 e=>?_⟩,fun r=>?_,fun h1 Q u hq hf hh=>?_⟩
 ·have:=ne hq
  rw[upd_off this] at hq ⊢
  exact S.read Q u hq
 ·have:=ne hq
  rw[upd_off this] at hq hf ⊢
  rw[tg hq hf]
  exact S.stub Q u hq hf
 ·have n1:=ne hq
  have n2:=ne hr
  rw[upd_off n1] at hq f1 e1 e2
  rw[upd_off n2] at hr f2 e1 e2
  exact S.tgt Q u R v hq hr f1 f2 e1 e2
 ·have g1:=upd_off (f:=f) (c:=[]) (ne hq)
  have g2:=upd_off (f:=f) (c:=[]) (ne hr)
  rw[g1] at hq f1
  rw[g2] at hr f2
  rw[row_same g1 (tg hq),row_same g2 (tg hr)] at e
  exact S.key Q u R v hq hr f1 f2 e
 ·constructor
  ·rintro ⟨Q,u,hq,f1,e⟩
   have n1:=ne hq
   have g1:=upd_off (f:=f) (c:=[]) n1
   rw[g1] at hq f1
   rw[row_same g1 (tg hq)] at e
   refine ⟨⟨Q,u,hq,f1,e⟩,fun hk=>n1 ?_⟩
   rw[<-e] at hk
   exact S.key Q u P s hq h0 f1 h2 hk
  ·rintro ⟨⟨Q,u,hq,f1,e⟩,hk⟩
   have g1:upd f P s [] Q u=f Q u:=upd_off fun he=>hk (by rw[<-e,he.1,he.2])
   exact ⟨Q,u,by rw[g1];exact hq,by rw[g1];exact f1,by rw[row_same g1 (tg hq)];exact e⟩
 ·have n1:=ne hq
  rw[upd_off n1] at hq hf hh
  exact n1 (S.tgt Q u P s hq h0 hf h1 hh.1 hh.2)
theorem put_seen {P s:Nat} {c:List UInt8} {r:Row} (h0:f P s=[]) (hc:(cellF c).2=true) (hn:c≠[]) (hr:(flagC c=0/\rowD c=r)\/(flagC c=1/\f (tpC c) (tsC c)≠[]/\flagC (f (tpC c) (tsC c))=2/\lone f (tpC c) (tsC c)/\rowD (f (tpC c) (tsC c))=r)) (hk:∀ r',rowIn f r'->rk r'≠rk r):Stands (upd f P s c)/\(∀ r',rowIn (upd f P s c) r'↔rowIn f r'\/r'=r):=by
 have off:∀ {Q u},f Q u≠[]->upd f P s c Q u=f Q u:=fun {Q u} hq=>upd_off fun ⟨e1,e2⟩=>hq (by rw[e1,e2];exact h0)
 have row:∀ {Q u},f Q u≠[]->rowAt (upd f P s c) Q u=rowAt f Q u:=fun {Q u} hq=>row_same (off hq) fun hf=>off (S.stub Q u hq hf).1
 have h2:flagC c≠2:=by rcases hr with ⟨h,_⟩ | ⟨h,_⟩ <;> rw[h] <;> decide
 have rowc:rowAt (upd f P s c) P s=r:=by
  unfold rowAt
  rw[upd_at]
  rcases hr with ⟨h,h'⟩ | ⟨h,h3,_,_,h6⟩
  ·rw[h,if_neg (by decide),h']
  ·rw[h,if_pos rfl,off h3,h6]
 have cut:∀ {Q u},upd f P s c Q u≠[]->(Q=P/\u=s)\/(f Q u≠[]/\upd f P s c Q u=f Q u):=fun {Q u} hq=>by
  by_cases he:Q=P/\u=s
  ·exact .inl he
  ·rw[upd_off he] at hq ⊢;exact .inr ⟨hq,rfl⟩
 refine ⟨⟨fun Q u hq=>?_,fun Q u hq hf=>?_,fun Q u R v hq hv f1 f2 e1 e2=>?_,fun Q u R v hq hv f1 f2 e=>?_⟩,fun r'=>?_⟩
 ·rcases cut hq with ⟨rfl,rfl⟩ | ⟨a,e⟩
  ·rw[upd_at];exact hc
  ·rw[e];exact S.read Q u a
 ·rcases cut hq with ⟨rfl,rfl⟩ | ⟨a,e⟩
  ·rw[upd_at] at hf ⊢
   rcases hr with ⟨h,_⟩ | ⟨h,h3,h4,_,_⟩
   ·rw[h] at hf;cases hf
   ·rw[off h3];exact ⟨h3,h4⟩
  ·rw[e] at hf ⊢
   obtain ⟨b1,b2⟩:=S.stub Q u a hf
   rw[off b1]
   exact ⟨b1,b2⟩
 ·rcases cut hq with ⟨rfl,rfl⟩ | ⟨a,g1⟩
  ·rcases cut hv with ⟨rfl,rfl⟩ | ⟨b,g2⟩
   ·exact ⟨rfl,rfl⟩
   ·rw[upd_at] at f1 e1 e2
    rw[g2] at f2 e1 e2
    rcases hr with ⟨h,_⟩ | ⟨h,_,_,h5,_⟩
    ·rw[h] at f1;cases f1
    ·exact absurd ⟨e1.symm,e2.symm⟩ (h5 R v b f2)
  ·rcases cut hv with ⟨rfl,rfl⟩ | ⟨b,g2⟩
   ·rw[upd_at] at f2 e1 e2
    rw[g1] at f1 e1 e2
    rcases hr with ⟨h,_⟩ | ⟨h,_,_,h5,_⟩
    ·rw[h] at f2;cases f2
    ·exact absurd ⟨e1,e2⟩ (h5 Q u a f1)
   ·rw[g1] at f1 e1 e2
    rw[g2] at f2 e1 e2
    exact S.tgt Q u R v a b f1 f2 e1 e2
 ·rcases cut hq with ⟨rfl,rfl⟩ | ⟨a,g1⟩
  ·rcases cut hv with ⟨rfl,rfl⟩ | ⟨b,g2⟩
   ·exact ⟨rfl,rfl⟩
   ·rw[g2] at f2
    rw[rowc,row b] at e
    exact absurd e.symm (hk _ ⟨R,v,b,f2,rfl⟩)
  ·rcases cut hv with ⟨rfl,rfl⟩ | ⟨b,g2⟩
   ·rw[g1] at f1
    rw[rowc,row a] at e
    exact absurd e (hk _ ⟨Q,u,a,f1,rfl⟩)
   ·rw[g1] at f1
    rw[g2] at f2
    rw[row a,row b] at e
    exact S.key Q u R v a b f1 f2 e
 ·constructor
  ·rintro ⟨Q,u,hq,f1,e⟩
   rcases cut hq with ⟨rfl,rfl⟩ | ⟨a,g1⟩
   ·rw[rowc] at e;exact .inr e.symm
   ·rw[g1] at f1
    rw[row a] at e
    exact .inl ⟨Q,u,a,f1,e⟩
  ·rintro (⟨Q,u,hq,f1,e⟩ | rfl)
   ·exact ⟨Q,u,by rw[off hq];exact hq,by rw[off hq];exact f1,by rw[row hq];exact e⟩
   ·exact ⟨P,s,by rw[upd_at];exact hn,by rw[upd_at];exact h2,rowc⟩
end
theorem u8_int {n:Int} (h:0<=n) (h2:n < 256):((UInt8.ofInt n).toNat:Int)=n:=by
 have:n=((n.toNat:Nat):Int):=by omega
 rw[this,u8_of,ofNat_toNat (by omega)]
theorem cellB_read {n:Nat} (hn:n=0\/n=2) {r:Row} (hr:rowF r=0):cellF (cellB n r)=(((0:Int),(n:Int),(0:Int),(0:Int),r,()),true):=by
 obtain ⟨h1,h2,h3,h4⟩:=rowF_ok hr
 have h5:=textB_len h4
 have hl:(cellB n r).length=6+List.length r.2.2.2.1:=by unfold cellB;rw[List.length_append];rfl
 have b0:pb (cellB n r) 0=n:=by
  show (UInt8.ofNat n).toNat=n
  exact ofNat_toNat (by omega)
 have b1:(pb (cellB n r) 1:Int)=r.1:=by
  show ((UInt8.ofInt r.1).toNat:Int)=r.1
  exact u8_int (by omega) (by omega)
 have b2:(pb (cellB n r) 2:Int)=r.2.1:=by
  show ((UInt8.ofInt r.2.1).toNat:Int)=r.2.1
  exact u8_int (by omega) (by omega)
 have b3:(pb (cellB n r) 3:Int)=r.2.2.1 / 256:=by
  show ((UInt8.ofInt (r.2.2.1 / 256)).toNat:Int)=_
  exact u8_int (by omega) (by omega)
 have b4:(pb (cellB n r) 4:Int)=r.2.2.1 % 256:=by
  show ((UInt8.ofInt (r.2.2.1 % 256)).toNat:Int)=_
  exact u8_int (by omega) (by omega)
 have b5:(pb (cellB n r) 5:Int)=(List.length r.2.2.2.1:Int):=by
  show ((UInt8.ofInt (List.length r.2.2.2.1:Int)).toNat:Int)=_
  exact u8_int (by omega) (by omega)
 have hd:(cellB n r).drop 6=r.2.2.2.1:=rfl
 have hrow:rowB (cellB n r)=r:=by
  unfold rowB
  rw[b1,b2,b3,b4,hd]
  obtain ⟨t,k,v,x,u⟩:=r
  show (t,k,v / 256*256+v % 256,x,())=(t,k,v,x,u)
  rw[show v / 256*256+v % 256=v by omega]
 unfold cellF
 rw[if_neg (by omega),if_neg (by omega),b0,hrow,decide_eq_true hr]
theorem stubB_read {P t:Nat} (hP:P<=11) (ht:t<=15):cellF (stubB P t)=(((0:Int),(1:Int),(P:Int),(t:Int),row0,()),true):=by
 have b1:pb (stubB P t) 1=P:=by
  show (UInt8.ofNat P).toNat=P
  exact ofNat_toNat (by omega)
 have b2:pb (stubB P t) 2=t:=by
  show (UInt8.ofNat t).toNat=t
  exact ofNat_toNat (by omega)
 unfold cellF
 rw[if_pos ⟨rfl,rfl⟩,b1,b2,decide_eq_true hP,decide_eq_true ht]
 rfl
theorem stub_bytes {d:List UInt8} (h:(cellF d).2=true) (h1:flagC d=1):d=stubB (tpC d) (tsC d)/\tpC d<=11/\tsC d<=15:=by
 unfold flagC at h1
 unfold tpC tsC
 unfold cellF at h h1 ⊢
 split at h
 ·rename_i hc
  rw[if_pos hc]
  simp only[Bool.and_eq_true,decide_eq_true_eq] at h
  refine ⟨?_,by simpa using h.1,by simpa using h.2⟩
  refine pb_ext (by rw[hc.1];rfl) fun j hj=>?_
  rw[hc.1] at hj
  have e1:=pb_lt d 1
  have e2:=pb_lt d 2
  match j,hj with
  | 0,_=>rw[hc.2];rfl
  | 1,_=>show _=(UInt8.ofNat _).toNat;rw[ofNat_toNat (by simpa using e1)];simp
  | 2,_=>show _=(UInt8.ofNat _).toNat;rw[ofNat_toNat (by simpa using e2)];simp
 ·rename_i hc
  rw[if_neg hc] at h1
  split at h
  ·cases h
  ·rename_i hc2
   rw[if_neg hc2] at h1
   have:((pb d 0:Nat):Int)=1:=by simpa using h1
   omega
end OT
set_option linter.unusedVariables false
set_option linter.unusedSimpArgs false
set_option linter.unusedSectionVars false
namespace OT
open Go
def startW (ps:Pgs):L7Work:=(ps,([]:List Edit),())
theorem start_ok {ps:Pgs} (h:rightP ps):okW (startW ps) 0:=⟨h,Nat.le_refl _,fun e he=>by cases he⟩
theorem gp_of {ps:Pgs} (h:rightP ps):gp ps:=⟨h.1,fun p hp=>(h.2 p hp).len⟩
theorem specStart_eq {ps:Pgs} (h:rightP ps):spec_l7Start.sem (ps,())=some (startW ps,()):=by
 refine lift_eq (k:=0) fun k _=>(spec_l7Start.raw_eq k _).trans ?_
 show spec_l7Start.p _=_
 unfold spec_l7Start.p
 rw[specCopies_eq ps (gp_of h)]
 rfl
theorem implStart_eq {ps:Pgs} (h:rightP ps):impl_deskOf.sem (ps,())=some (startW ps,()):=by
 refine lift_eq (k:=0) fun k _=>(impl_deskOf.raw_eq k _).trans ?_
 show impl_deskOf.p _=_
 unfold impl_deskOf.p
 rw[implCopies_eq ps (gp_of h)]
 rfl
def badE (k:Int):EditsResult:=(k,([]:List Edit),([]:List (List UInt8)),())
def doneE (ok:Bool) (w:L7Work):EditsResult:=if ok then ((0:Int),w.2.1,w.1,()) else badE 9
theorem specBadE_eq (k:Int):spec_l7Bad.sem (k,())=some (badE k,()):=lift_eq (k:=0) fun q _=>(spec_l7Bad.raw_eq q _).trans rfl
theorem specDoneE_eq (w:L7Work):spec_l7Done.sem (w,())=some (doneE true w,()):=lift_eq (k:=0) fun q _=>(spec_l7Done.raw_eq q _).trans rfl
theorem implResE_eq (w:L7Work):impl_desk_result.sem (w,())=some (doneE true w,()):=lift_eq (k:=0) fun q _=>(impl_desk_result.raw_eq q _).trans rfl
theorem implDoneE_eq (w:L7Work) (ok:Bool):impl_desk_done.sem (w,ok,())=some (doneE ok w,()):=by
 refine lift_eq (k:=0) fun k _=>(impl_desk_done.raw_eq k _).trans ?_
 show impl_desk_done.p _=_
 unfold impl_desk_done.p
 rw[implResE_eq]
 cases ok <;> rfl
def insW (w:L7Work) (r:Row):Option (Nat×Nat)×L7Work:=placeW w (-1) (cellB 0 r)
theorem insW_ok {w:L7Work} {n:Nat} (h:okW w n) {r:Row} (hr:rowF r=0):placeR w n 25 (cellB 0 r) (insW w r):=
 placeW_ok h (cellB_len hr).1 (by have:=(cellB_len (f:=0) hr).2;omega) _
theorem specIns_eq {ps:Pgs} (h:rightP ps) {r:Row} (hr:rowF r=0):spec_l7Insert.sem (ps,r,())=some (doneE (insW (startW ps) r).1.isSome (insW (startW ps) r).2,()):=by
 refine lift_eq (k:=0) fun k _=>(spec_l7Insert.raw_eq k _).trans ?_
 show spec_l7Insert.p _=_
 unfold spec_l7Insert.p
 have e:spec_l1Cell.sem ((0:Int),r,())=some (cellB 0 r,()):=specCell_eq (f:=0) hr
 simp only[e,specStart_eq h,Option.bind_some,specPlace_eq (start_ok h) (by omega) (cellB_len hr).1 (show (cellB 0 r).length<=20 by have:=(cellB_len (f:=0) hr).2;omega),specBadE_eq,specDoneE_eq]
 unfold placeOut insW
 cases (placeW (startW ps) (-1) (cellB 0 r)).1 <;> rfl
def updW (w:L7Work) (P s A B:Nat) (mv:Bool) (r:Row):Bool×L7Work:=
 if (setIn w A B (cellB (bif mv then 2 else 0) r)).1=true then (true,(setIn w A B (cellB (bif mv then 2 else 0) r)).2)
 else match (placeW (setIn w A B (cellB (bif mv then 2 else 0) r)).2 (A:Int) (cellB 2 r)).1 with
  | none=>(false,(placeW (setIn w A B (cellB (bif mv then 2 else 0) r)).2 (A:Int) (cellB 2 r)).2)
  | some a=>(true,bif mv then dropIn (setIn (placeW (setIn w A B (cellB (bif mv then 2 else 0) r)).2 (A:Int) (cellB 2 r)).2 P s (stubB a.1 a.2)).2 A B else (setIn (placeW (setIn w A B (cellB (bif mv then 2 else 0) r)).2 (A:Int) (cellB 2 r)).2 P s (stubB a.1 a.2)).2)
theorem cellB_ne {f:Nat} {r:Row}:cellB f r≠[]:=by unfold cellB;simp
theorem stubB_len (P t:Nat):(stubB P t).length=3:=rfl
theorem keep_at {w:L7Work} {n m:Nat} {c:List UInt8} {r:Option (Nat×Nat)×L7Work} (R:placeR w n m c r) {Q t:Nat} (h:cAt w.1 Q t≠[]) (hc:c≠[]):cAt r.2.1 Q t≠[]:=by
 cases hr:r.1 with
 | none=>rw[(R.no hr).2];exact h
 | some a=>
  rw[(R.yes a.1 a.2 hr).2.2.2]
  split
  ·exact hc
  ·exact h
theorem keep_set {w:L7Work} {n P s:Nat} {c:List UInt8} {r:Bool×L7Work} (R:setInR w n P s c r) {Q t:Nat} (h:cAt w.1 Q t≠[]) (hc:c≠[]):cAt r.2.1 Q t≠[]:=by
 cases hr:r.1 with
 | false=>rw[R.no hr];exact h
 | true=>
  rw[R.yes hr]
  split
  ·exact hc
  ·exact h
section
variable {w:L7Work} {n:Nat} (h:okW w n) (hn:n<=400) {P s A B:Nat} (h1:cAt w.1 P s≠[]) (h2:cAt w.1 A B≠[]) (mv:Bool) {r:Row} (hr:rowF r=0)
include h hn h1 h2 hr
theorem updW_ok:okW (updW w P s A B mv r).2 (n+40):=by
 have R1:=setIn_ok h h2 (cellB_len (f:=bif mv then 2 else 0) hr).1
 have R2:=placeW_ok R1.ok (cellB_len (f:=2) hr).1 (by have:=(cellB_len (f:=2) hr).2;omega) (A:Int)
 unfold updW
 split
 ·exact R1.ok.mono (by omega)
 ·split
  ·exact R2.ok.mono (by omega)
  ·rename_i a ha
   have k1:=keep_at R2 (keep_set R1 h1 cellB_ne) cellB_ne
   have k2:=keep_at R2 (keep_set R1 h2 cellB_ne) cellB_ne
   have R3:=setIn_ok R2.ok k1 (c:=stubB a.1 a.2) (by rw[stubB_len];omega)
   cases mv with
   | false=>exact R3.ok.mono (by omega)
   | true=>
    have k3:=keep_set R3 k2 (by unfold stubB;simp)
    exact (dropIn_ok R3.ok k3).1.mono (by omega)
theorem implUpd_eq (r0:Row):impl_desk_update.sem (w,(r0,(P:Int),(s:Int),mv,(A:Int),(B:Int),()),r,())=some (if Ty.eq tRow r0 r=true then (true,w,()) else ((updW w P s A B mv r).1,(updW w P s A B mv r).2,())):=by
 refine lift_eq (k:=0) fun k _=>(impl_desk_update.raw_eq k _).trans ?_
 show impl_desk_update.p _=_
 unfold impl_desk_update.p
 show (bif Ty.eq tRow r0 r then _ else _)=_
 cases Ty.eq tRow r0 r with
 | true=>rfl
 | false=>
  have l20:∀ f,(cellB f r).length<=20:=fun f=>by have:=(cellB_len (f:=f) hr).2;omega
  have l1:∀ f,1<=(cellB f r).length:=fun f=>(cellB_len (f:=f) hr).1
  have main:∀ f:Nat,f=(bif mv then 2 else 0)->((impl_cell.sem ((f:Int),r,())).bind fun r11=>(impl_desk_turn.sem (w,(A:Int),(B:Int),r11.1,())).bind fun r12=>bif r12.1 then (some (true,r12.2.1,()):Option impl_desk_update.Out) else (impl_cell.sem ((2:Int),r,())).bind fun r13=>(impl_desk_place.sem (r12.2.1,r13.1,(A:Int),())).bind fun r14=>bif !r14.2.2.1 then (some (false,r14.2.2.2.1,())) else (impl_stub.sem (r14.1,r14.2.1,())).bind fun r15=>(impl_desk_turn.sem (r14.2.2.2.1,(P:Int),(s:Int),r15.1,())).bind fun r16=>bif mv then ((impl_desk_drop.sem (r16.2.1,(A:Int),(B:Int),())).bind fun r17=>some (true,r17.1,())) else some (true,r16.2.1,()))=some ((updW w P s A B mv r).1,(updW w P s A B mv r).2,()):=by
   intro f hf
   have R1:=setIn_ok h h2 (l1 f)
   have R2:=placeW_ok R1.ok (l1 2) (l20 2) (A:Int)
   have e2:impl_cell.sem ((2:Int),r,())=some (cellB 2 r,()):=implCell_eq (f:=2) hr
   unfold updW
   rw[<-hf]
   simp only[implCell_eq (f:=f) hr,e2,Option.bind_some,implSetIn_eq h (by omega) h2 (l1 f) (l20 f)]
   cases hb:(setIn w A B (cellB f r)).1 with
   | true=>simp only[cond_true,if_true]
   | false=>
    simp only[cond_false,Bool.false_eq_true,if_false,implPlace_eq R1.ok (show n+2<=800 by omega) (l1 2) (l20 2),Option.bind_some]
    unfold placeOut
    cases hg:(placeW (setIn w A B (cellB f r)).2 (A:Int) (cellB 2 r)).1 with
    | none=>rfl
    | some a=>
     have k1:=keep_at R2 (keep_set R1 h1 cellB_ne) cellB_ne
     have k2:=keep_at R2 (keep_set R1 h2 cellB_ne) cellB_ne
     have l3:1<=(stubB a.1 a.2).length:=by rw[stubB_len];omega
     have R3:=setIn_ok R2.ok k1 l3
     have k3:=keep_set R3 k2 (by unfold stubB;simp)
     simp only[Bool.not_true,cond_false,implStub_eq,Option.bind_some,implSetIn_eq R2.ok (show n+2+25<=900 by omega) k1 l3 (show (stubB a.1 a.2).length<=20 by rw[stubB_len];omega)]
     cases mv with
     | false=>rfl
     | true=>simp only[cond_true,implDropIn_eq R3.ok (show n+2+25+2<=900 by omega) k3,Option.bind_some]
  cases mv with
  | true=>exact main 2 rfl
  | false=>exact main 0 rfl
theorem specMove_eq (x:L6Spot) (x3:x.2.2.1.2.2.1=(A:Int)) (x4:x.2.2.1.2.2.2.1=(B:Int)) (x1:x.1=(P:Int)) (x2:x.2.1=(s:Int)):spec_l7Move.sem (w,x,r,())=some ((updW w P s A B true r).1,(updW w P s A B true r).2,()):=by
 refine lift_eq (k:=0) fun k _=>(spec_l7Move.raw_eq k _).trans ?_
 show spec_l7Move.p _=_
 unfold spec_l7Move.p
 have l20:∀ f,(cellB f r).length<=20:=fun f=>by have:=(cellB_len (f:=f) hr).2;omega
 have l1:∀ f,1<=(cellB f r).length:=fun f=>(cellB_len (f:=f) hr).1
 have R1:=setIn_ok h h2 (l1 2)
 have R2:=placeW_ok R1.ok (l1 2) (l20 2) (A:Int)
 have e2:spec_l1Cell.sem ((2:Int),r,())=some (cellB 2 r,()):=specCell_eq (f:=2) hr
 unfold updW
 simp only[e2,x1,x2,x3,x4,Option.bind_some,specSetIn_eq h (by omega) h2 (l1 2) (l20 2),cond_true]
 cases hb:(setIn w A B (cellB 2 r)).1 with
 | true=>simp only[cond_true,if_true]
 | false=>
  simp only[cond_false,Bool.false_eq_true,if_false,specPlace_eq R1.ok (show n+2<=800 by omega) (l1 2) (l20 2),Option.bind_some]
  unfold placeOut
  cases hg:(placeW (setIn w A B (cellB 2 r)).2 (A:Int) (cellB 2 r)).1 with
  | none=>rfl
  | some a=>
   have k1:=keep_at R2 (keep_set R1 h1 cellB_ne) cellB_ne
   have k2:=keep_at R2 (keep_set R1 h2 cellB_ne) cellB_ne
   have l3:1<=(stubB a.1 a.2).length:=by rw[stubB_len];omega
   have R3:=setIn_ok R2.ok k1 l3
   have k3:=keep_set R3 k2 (by unfold stubB;simp)
   simp only[Bool.not_true,cond_false,specStub_eq,Option.bind_some,specSetIn_eq R2.ok (show n+2+25<=900 by omega) k1 l3 (show (stubB a.1 a.2).length<=20 by rw[stubB_len];omega),specDropIn_eq R3.ok (show n+2+25+2<=900 by omega) k3]
end
def updX (ps:Pgs) (x:L6Spot) (r:Row):EditsResult:=
 if Ty.eq tRow (sRow x) r=true then doneE true (startW ps) else
  doneE (updW (startW ps) x.1.toNat x.2.1.toNat (if sFlag x=1 then sTp x else x.1).toNat (if sFlag x=1 then sTs x else x.2.1).toNat (decide (sFlag x=1)) r).1 (updW (startW ps) x.1.toNat x.2.1.toNat (if sFlag x=1 then sTp x else x.1).toNat (if sFlag x=1 then sTs x else x.2.1).toNat (decide (sFlag x=1)) r).2
theorem specUpd_eq {ps:Pgs} (h:viewR ps) {x:L6Spot} (hx:x ∈ seenF ps) {r:Row} (hr:rowF r=0):spec_l7Update.sem (ps,x,r,())=some (updX ps x r,()):=by
 obtain ⟨P,s,x1,x2,c1,c2,c3⟩:=found_at h hx
 have ho:=start_ok h.right
 refine lift_eq (k:=0) fun k _=>(spec_l7Update.raw_eq k _).trans ?_
 show spec_l7Update.p _=_
 unfold spec_l7Update.p updX
 simp only[specStart_eq h.right,specDoneE_eq,specBadE_eq,Option.bind_some]
 show (bif Ty.eq tRow (sRow x) r then _ else _)=_
 cases Ty.eq tRow (sRow x) r with
 | true=>rfl
 | false=>
  simp only[cond_false,Bool.false_eq_true,if_false]
  show (bif decide (sFlag x=1) then _ else _)=_
  by_cases hf:sFlag x=1
  ·obtain ⟨Q,t,x3,x4,c4,c5⟩:=c2 hf
   rw[decide_eq_true hf,cond_true,specMove_eq ho (by omega) c1 c4 hr x x3 x4 x1 x2]
   simp only[if_pos hf,x1,x2,x3,x4,Int.toNat_natCast,Option.bind_some]
   cases (updW (startW ps) P s Q t true r).1 <;> rfl
  ·rw[decide_eq_false hf,cond_false]
   simp only[if_neg hf,x1,x2,Int.toNat_natCast]
   have l20:∀ f,(cellB f r).length<=20:=fun f=>by have:=(cellB_len (f:=f) hr).2;omega
   have l1:∀ f,1<=(cellB f r).length:=fun f=>(cellB_len (f:=f) hr).1
   have R1:=setIn_ok ho c1 (l1 0)
   have R2:=placeW_ok R1.ok (l1 2) (l20 2) (P:Int)
   have e0:spec_l1Cell.sem ((0:Int),r,())=some (cellB 0 r,()):=specCell_eq (f:=0) hr
   have e2:spec_l1Cell.sem ((2:Int),r,())=some (cellB 2 r,()):=specCell_eq (f:=2) hr
   unfold updW
   simp only[e0,e2,Option.bind_some,specSetIn_eq ho (by omega) c1 (l1 0) (l20 0),cond_false]
   cases hb:(setIn (startW ps) P s (cellB 0 r)).1 with
   | true=>rfl
   | false=>
    simp only[cond_false,Bool.false_eq_true,if_false,specPlace_eq R1.ok (show 0+2<=800 by omega) (l1 2) (l20 2),Option.bind_some]
    unfold placeOut
    cases hg:(placeW (setIn (startW ps) P s (cellB 0 r)).2 (P:Int) (cellB 2 r)).1 with
    | none=>rfl
    | some a=>
     have k1:=keep_at R2 (keep_set R1 c1 cellB_ne) cellB_ne
     have l3:1<=(stubB a.1 a.2).length:=by rw[stubB_len];omega
     simp only[Bool.not_true,cond_false,specStub_eq,Option.bind_some,specSetIn_eq R2.ok (show 0+2+25<=900 by omega) k1 l3 (show (stubB a.1 a.2).length<=20 by rw[stubB_len];omega)]
theorem implUpdX_eq {ps:Pgs} (h:viewR ps) {x:L6Spot} (hx:x ∈ seenF ps) {r:Row} (hr:rowF r=0):((impl_desk_update.sem (startW ps,convS x,r,())).bind fun r12=>impl_desk_done.sem (r12.2.1,r12.1,()))=some (updX ps x r,()):=by
 obtain ⟨P,s,x1,x2,c1,c2,c3⟩:=found_at h hx
 have ho:=start_ok h.right
 unfold updX
 by_cases hf:sFlag x=1
 ·obtain ⟨Q,t,x3,x4,c4,c5⟩:=c2 hf
  have hc:convS x=(sRow x,(P:Int),(s:Int),true,(Q:Int),(t:Int),()):=by unfold convS;rw[decide_eq_true hf,if_pos hf,if_pos hf,x1,x2,x3,x4]
  rw[hc,implUpd_eq ho (by omega) c1 c4 true hr (sRow x),decide_eq_true hf]
  simp only[if_pos hf,x1,x2,x3,x4,Int.toNat_natCast,Option.bind_some,implDoneE_eq]
  cases Ty.eq tRow (sRow x) r <;> rfl
 ·have hc:convS x=(sRow x,(P:Int),(s:Int),false,(P:Int),(s:Int),()):=by unfold convS;rw[decide_eq_false hf,if_neg hf,if_neg hf,x1,x2]
  rw[hc,implUpd_eq ho (by omega) c1 c1 false hr (sRow x),decide_eq_false hf]
  simp only[if_neg hf,x1,x2,Int.toNat_natCast,Option.bind_some,implDoneE_eq]
  cases Ty.eq tRow (sRow x) r <;> rfl
def delX (ps:Pgs) (x:L6Spot):EditsResult:=doneE true (if sFlag x=1 then dropIn (dropIn (startW ps) x.1.toNat x.2.1.toNat) (sTp x).toNat (sTs x).toNat else dropIn (startW ps) x.1.toNat x.2.1.toNat)
theorem del_at {ps:Pgs} (h:viewR ps) {x:L6Spot} (hx:x ∈ seenF ps):∃ P s:Nat,x.1=(P:Int)/\x.2.1=(s:Int)/\cAt ps P s≠[]/\(sFlag x=1->∃ Q t:Nat,sTp x=(Q:Int)/\sTs x=(t:Int)/\cAt (dropIn (startW ps) P s).1 Q t≠[]):=by
 obtain ⟨P,s,x1,x2,c1,c2,c3⟩:=found_at h hx
 refine ⟨P,s,x1,x2,c1,fun hf=>?_⟩
 obtain ⟨Q,t,x3,x4,c4,c5⟩:=c2 hf
 refine ⟨Q,t,x3,x4,?_⟩
 rw[(dropIn_ok (start_ok h.right) c1).2.2,if_neg]
 ·exact c4
 ·rintro ⟨rfl,rfl⟩
  rw[c5] at c3
  rw[hf] at c3
  cases c3
theorem specDel_eq {ps:Pgs} (h:viewR ps) {x:L6Spot} (hx:x ∈ seenF ps):spec_l7Delete.sem (ps,x,())=some (delX ps x,()):=by
 obtain ⟨P,s,x1,x2,c1,c2⟩:=del_at h hx
 have ho:=start_ok h.right
 have hd:=(dropIn_ok ho c1).1
 refine lift_eq (k:=0) fun k _=>(spec_l7Delete.raw_eq k _).trans ?_
 show spec_l7Delete.p _=_
 unfold spec_l7Delete.p delX
 simp only[specStart_eq h.right,specDoneE_eq,Option.bind_some,x1,x2,specDropIn_eq ho (by omega) c1,Int.toNat_natCast]
 show (bif decide (sFlag x=1) then _ else _)=_
 by_cases hf:sFlag x=1
 ·obtain ⟨Q,t,x3,x4,c4⟩:=c2 hf
  rw[decide_eq_true hf,cond_true,if_pos hf]
  have e3:x.2.2.1.2.2.1=(Q:Int):=x3
  have e4:x.2.2.1.2.2.2.1=(t:Int):=x4
  simp only[x3,x4,e3,e4,Int.toNat_natCast,specDropIn_eq hd (by omega) c4,Option.bind_some]
 ·rw[decide_eq_false hf,cond_false,if_neg hf]
end OT
set_option linter.unusedVariables false
set_option linter.unusedSimpArgs false
set_option linter.unusedSectionVars false
namespace OT
open Go
def dropC (f:Cells2) (P s:Nat):Cells2:=if flagC (f P s)=1 then upd (upd f P s []) (tpC (f P s)) (tsC (f P s)) [] else upd f P s []
theorem drop_row {f:Cells2} (S:Stands f) {P s:Nat} (h0:f P s≠[]) (h2:flagC (f P s)≠2):Stands (dropC f P s)/\(∀ r,rowIn (dropC f P s) r↔rowIn f r/\rk r≠rk (rowAt f P s)):=by
 obtain ⟨S1,r1,l1⟩:=drop_seen S h0 h2
 unfold dropC
 split
 ·rename_i hf
  obtain ⟨a1,a2⟩:=S.stub P s h0 hf
  have ne:¬ (tpC (f P s)=P/\tsC (f P s)=s):=fun he=>by
   rw[he.1,he.2] at a2;exact h2 a2
  obtain ⟨S2,r2⟩:=drop_moved S1 (A:=tpC (f P s)) (B:=tsC (f P s)) (by rw[upd_off ne];exact a2) (l1 hf)
  exact ⟨S2,fun r=>by rw[r2,r1]⟩
 ·exact ⟨S1,r1⟩
theorem drop_same (f:Cells2) (P s:Nat):dropC f P s P s=[]:=by
 unfold dropC
 split
 ·unfold upd
  split
  ·rfl
  ·rw[if_pos ⟨rfl,rfl⟩]
 ·exact upd_at _ _ _ _
theorem drop_nil {f:Cells2} {P s Q t:Nat} (h:f Q t=[]):dropC f P s Q t=[]:=by
 have one:∀ (g:Cells2) (A B:Nat),g Q t=[]->upd g A B [] Q t=[]:=fun g A B hg=>by
  by_cases he:Q=A/\t=B
  ·rw[he.1,he.2,upd_at]
  ·rw[upd_off he];exact hg
 unfold dropC
 split
 ·exact one _ _ _ (one _ _ _ h)
 ·exact one _ _ _ h
theorem flag_cell {n:Nat} (hn:n=0\/n=2) {r:Row} (hr:rowF r=0):(cellF (cellB n r)).2=true/\flagC (cellB n r)=n/\rowD (cellB n r)=r:=by
 unfold flagC rowD
 rw[cellB_read hn hr]
 exact ⟨rfl,rfl,rfl⟩
theorem add_near {h:Cells2} (S:Stands h) {P s:Nat} (h0:h P s=[]) {r:Row} (hr:rowF r=0) (hk:∀ r',rowIn h r'->rk r'≠rk r):Stands (upd h P s (cellB 0 r))/\(∀ r',rowIn (upd h P s (cellB 0 r)) r'↔rowIn h r'\/r'=r):=by
 obtain ⟨c1,c2,c3⟩:=flag_cell (n:=0) (.inl rfl) hr
 exact put_seen S h0 c1 cellB_ne (.inl ⟨c2,c3⟩) hk
theorem add_far {h:Cells2} (S:Stands h) {P s X Y:Nat} (h0:h P s=[]) (h1:h X Y=[]) (hne:¬ (X=P/\Y=s)) (hX:X<=11) (hY:Y<=15) {r:Row} (hr:rowF r=0) (hk:∀ r',rowIn h r'->rk r'≠rk r):Stands (upd (upd h X Y (cellB 2 r)) P s (stubB X Y))/\(∀ r',rowIn (upd (upd h X Y (cellB 2 r)) P s (stubB X Y)) r'↔rowIn h r'\/r'=r):=by
 obtain ⟨c1,c2,c3⟩:=flag_cell (n:=2) (.inr rfl) hr
 obtain ⟨S1,r1,l1⟩:=add_moved S h1 c1 c2
 have hs:=stubB_read hX hY
 have e1:flagC (stubB X Y)=1:=by unfold flagC;rw[hs]
 have e2:tpC (stubB X Y)=X:=by unfold tpC;rw[hs];rfl
 have e3:tsC (stubB X Y)=Y:=by unfold tsC;rw[hs];rfl
 have:=put_seen S1 (P:=P) (s:=s) (c:=stubB X Y) (r:=r) (by rw[upd_off (fun he=>hne ⟨he.1.symm,he.2.symm⟩)];exact h0) (by rw[hs]) (by unfold stubB;simp)
  (.inr ⟨e1,by rw[e2,e3,upd_at];exact cellB_ne,by rw[e2,e3,upd_at];exact c2,by rw[e2,e3];exact l1,by rw[e2,e3,upd_at];exact c3⟩) (fun r' hr'=>hk r' ((r1 r').1 hr'))
 exact ⟨this.1,fun r'=>by rw[this.2,r1]⟩
theorem cells_ext {ps:Pgs} {g:Cells2} (h:∀ Q t,cAt ps Q t=g Q t):cAt ps=g:=funext fun Q=>funext fun t=>h Q t
theorem seen_at {ps:Pgs} (hv:viewC ps=0) {x:L6Spot} (hx:x ∈ seenF ps):∃ P s:Nat,cAt ps P s≠[]/\flagC (cAt ps P s)≠2/\x.1=(P:Int)/\x.2.1=(s:Int)/\sFlag x=flagC (cAt ps P s)/\sTp x=(tpC (cAt ps P s):Int)/\sTs x=(tsC (cAt ps P s):Int)/\sRow x=rowAt (cAt ps) P s:=by
 have V:=view_ok hv
 have S:=(view_iff.1 hv).2
 unfold seenF at hx
 obtain ⟨y,hy,hxy⟩:=List.mem_flatMap.1 hx
 obtain ⟨P,s,c1,rfl⟩:=(spot_iff V.right).1 hy
 unfold seenX at hxy
 split at hxy
 ·cases hxy
 ·rename_i f1
  have hx1:=List.mem_singleton.1 hxy
  have e:=seen1_row V.right P s fun hf=>(S.stub P s c1 hf).1
  obtain ⟨t1,t2⟩:=tp_nat (cAt ps P s)
  refine ⟨P,s,c1,f1,?_⟩
  rw[hx1]
  refine ⟨?_,?_,?_,?_,?_,e⟩
  all_goals (unfold seen1;split)
  all_goals first | rfl | exact t1 | exact t2
theorem set_fits {w:L7Work} {n P s:Nat} (h:okW w n) (hat:cAt w.1 P s≠[]) {c:List UInt8} (hc:c.length<=(cAt w.1 P s).length):(setIn w P s c).1=true:=by
 obtain ⟨hP,hs,hz⟩:=cAt_in h.pages hat
 have hp:=pgAt_ok h.pages hP
 have hl:(cAt w.1 P s).length=psz (pgAt w.1 P) s:=by
  unfold cAt cellOf
  rw[if_pos hs,cellP_len hp hs]
 have h0:setF (pgAt w.1 P) s c=0:=by unfold setF;rw[if_pos (by omega)]
 unfold setIn
 rw[if_neg (by rw[h0];decide),if_pos h0]
theorem cell_long {d:List UInt8} (h:(cellF d).2=true):3<=d.length:=by
 unfold cellF at h
 split at h
 ·rename_i hc;omega
 ·split at h
  ·cases h
  ·rename_i hc;omega
theorem ins_view {ps:Pgs} (hv:viewC ps=0) {r:Row} (hr:rowF r=0) (hk:∀ r' ∈ rowsV ps,rk r'≠rk r) {a:Nat×Nat} (ha:(insW (startW ps) r).1=some a):viewC (insW (startW ps) r).2.1=0/\∀ r',r' ∈ rowsV (insW (startW ps) r).2.1↔r' ∈ rowsV ps\/r'=r:=by
 obtain ⟨hR,S⟩:=view_iff.1 hv
 have R:=insW_ok (start_ok hR) hr
 obtain ⟨y1,y2,y3,y4⟩:=R.yes a.1 a.2 ha
 have e:cAt (insW (startW ps) r).2.1=upd (cAt ps) a.1 a.2 (cellB 0 r):=cells_ext y4
 obtain ⟨S1,r1⟩:=add_near S y3 hr fun r' h'=>hk r' ((rows_iff hv r').2 h')
 have hv':viewC (insW (startW ps) r).2.1=0:=view_iff.2 ⟨R.ok.pages,by rw[e];exact S1⟩
 exact ⟨hv',fun r'=>by rw[rows_iff hv',rows_iff hv,e,r1]⟩
section
variable {ps:Pgs} (hv:viewC ps=0) {P s:Nat} (c1:cAt ps P s≠[]) (c2:flagC (cAt ps P s)≠2)
include hv c1 c2
theorem upd_cells {r:Row} (hr:rowF r=0) (mv:Bool) {A B:Nat} (hm:if mv then flagC (cAt ps P s)=1/\A=tpC (cAt ps P s)/\B=tsC (cAt ps P s) else flagC (cAt ps P s)≠1/\A=P/\B=s) (hyes:(updW (startW ps) P s A B mv r).1=true) :
  ∃ g:Cells2,cAt (updW (startW ps) P s A B mv r).2.1=g/\(g=upd (dropC (cAt ps) P s) P s (cellB 0 r)\/∃ X Y,dropC (cAt ps) P s X Y=[]/\¬ (X=P/\Y=s)/\X<=11/\Y<=15/\g=upd (upd (dropC (cAt ps) P s) X Y (cellB 2 r)) P s (stubB X Y)):=by
 obtain ⟨hR,S⟩:=view_iff.1 hv
 have ho:=start_ok hR
 have l20:∀ f,(cellB f r).length<=20:=fun f=>by have:=(cellB_len (f:=f) hr).2;omega
 have l1:∀ f,1<=(cellB f r).length:=fun f=>(cellB_len (f:=f) hr).1
 have hAB:cAt ps A B≠[]/\(mv=true->flagC (cAt ps A B)=2/\¬ (A=P/\B=s)/\cAt ps P s=stubB A B/\A<=11/\B<=15):=by
  cases mv with
  | false=>obtain ⟨m1,m2,m3⟩:=hm;rw[m2,m3];exact ⟨c1,fun h=>by cases h⟩
  | true=>
   obtain ⟨m1,m2,m3⟩:=hm
   obtain ⟨a1,a2⟩:=S.stub P s c1 m1
   obtain ⟨b1,b2,b3⟩:=stub_bytes (S.read P s c1) m1
   rw[m2,m3]
   exact ⟨a1,fun _=>⟨a2,fun he=>c2 (by rw[he.1,he.2] at a2;exact a2),b1,b2,b3⟩⟩
 obtain ⟨cAB,hmv⟩:=hAB
 have hd:∀ Q t,dropC (cAt ps) P s Q t=if (Q=P/\t=s)\/(mv=true/\Q=A/\t=B) then [] else cAt ps Q t:=by
  intro Q t
  unfold dropC upd
  cases mv with
  | false=>
   obtain ⟨m1,m2,m3⟩:=hm
   rw[if_neg m1]
   by_cases h:Q=P/\t=s
   ·rw[if_pos h,if_pos (.inl h)]
   ·rw[if_neg h,if_neg (fun hh=>by rcases hh with hh | hh;exact h hh;cases hh.1)]
  | true=>
   obtain ⟨m1,m2,m3⟩:=hm
   rw[if_pos m1,<- m2,<- m3]
   by_cases h2:Q=A/\t=B
   ·rw[if_pos h2,if_pos (.inr ⟨rfl,h2⟩)]
   ·rw[if_neg h2]
    by_cases h:Q=P/\t=s
    ·rw[if_pos h,if_pos (.inl h)]
    ·rw[if_neg h,if_neg (fun hh=>by rcases hh with hh | hh;exact h hh;exact h2 hh.2)]
 have R1:=setIn_ok ho (P:=A) (s:=B) cAB (l1 (bif mv then 2 else 0))
 have R2:=placeW_ok R1.ok (l1 2) (l20 2) (A:Int)
 refine ⟨_,rfl,?_⟩
 unfold updW at hyes ⊢
 split at hyes
 ·rename_i hb
  rw[if_pos hb]
  have e:=R1.yes hb
  cases mv with
  | false=>
   left
   obtain ⟨m1,m2,m3⟩:=hm
   refine cells_ext fun Q t=>?_
   rw[e Q t]
   unfold upd
   rw[m2,m3,hd]
   by_cases h:Q=P/\t=s
   ·rw[if_pos h,if_pos h];rfl
   ·rw[if_neg h,if_neg h,if_neg (fun hh=>by rcases hh with hh | hh;exact h hh;cases hh.1)]
    rfl
  | true=>
   right
   obtain ⟨m4,m5,m6,m7,m8⟩:=hmv rfl
   refine ⟨A,B,by rw[hd,if_pos (.inr ⟨rfl,rfl,rfl⟩)],m5,m7,m8,cells_ext fun Q t=>?_⟩
   rw[e Q t]
   unfold upd
   rw[hd]
   by_cases h:Q=P/\t=s
   ·rw[if_pos h,if_neg (fun hh=>m5 ⟨hh.1.symm.trans h.1,hh.2.symm.trans h.2⟩),h.1,h.2]
    exact m6
   ·rw[if_neg h]
    by_cases h2:Q=A/\t=B
    ·rw[if_pos h2,if_pos h2];rfl
    ·rw[if_neg h2,if_neg h2,if_neg (fun hh=>by rcases hh with hh | hh;exact h hh;exact h2 hh.2)]
     rfl
 ·rename_i hb
  rw[if_neg hb]
  have hbf:(setIn (startW ps) A B (cellB (bif mv then 2 else 0) r)).1=false:=by simpa using hb
  have e:=R1.no hbf
  cases hg:(placeW (setIn (startW ps) A B (cellB (bif mv then 2 else 0) r)).2 (A:Int) (cellB 2 r)).1 with
  | none=>rw[hg] at hyes;cases hyes
  | some a=>
   obtain ⟨y1,y2,y3,y4⟩:=R2.yes a.1 a.2 hg
   rw[e] at y3
   have y3':cAt ps a.1 a.2=[]:=y3
   have k1:=keep_at R2 (keep_set R1 (Q:=P) (t:=s) c1 cellB_ne) cellB_ne
   have k2:=keep_at R2 (keep_set R1 (Q:=A) (t:=B) cAB cellB_ne) cellB_ne
   have n1:¬ (a.1=P/\a.2=s):=fun he=>c1 (by rw[<-he.1,<- he.2];exact y3')
   have n2:¬ (a.1=A/\a.2=B):=fun he=>cAB (by rw[<-he.1,<- he.2];exact y3')
   have R3:=setIn_ok R2.ok k1 (c:=stubB a.1 a.2) (by rw[stubB_len];omega)
   have hcell:cAt (placeW (setIn (startW ps) A B (cellB (bif mv then 2 else 0) r)).2 (A:Int) (cellB 2 r)).2.1 P s=cAt ps P s:=by
    rw[y4,if_neg (fun he=>n1 ⟨he.1.symm,he.2.symm⟩),e];rfl
   have hst:=set_fits R2.ok k1 (c:=stubB a.1 a.2) (by rw[hcell,stubB_len];exact cell_long (S.read P s c1))
   have e3:=R3.yes hst
   right
   refine ⟨a.1,a.2,drop_nil y3',n1,by omega,by omega,cells_ext fun Q t=>?_⟩
   have base:∀ Q t,cAt (setIn (placeW (setIn (startW ps) A B (cellB (bif mv then 2 else 0) r)).2 (A:Int) (cellB 2 r)).2 P s (stubB a.1 a.2)).2.1 Q t=if Q=P/\t=s then stubB a.1 a.2 else if Q=a.1/\t=a.2 then cellB 2 r else cAt ps Q t:=fun Q t=>by
    rw[e3,y4,e];rfl
   simp only
   unfold upd
   rw[hd]
   cases mv with
   | false=>
    show cAt (setIn _ P s (stubB a.1 a.2)).2.1 Q t=_
    rw[base]
    by_cases h:Q=P/\t=s
    ·rw[if_pos h,if_pos h]
    ·rw[if_neg h,if_neg h]
     by_cases h2:Q=a.1/\t=a.2
     ·rw[if_pos h2,if_pos h2]
     ·rw[if_neg h2,if_neg h2,if_neg (fun hh=>by rcases hh with hh | hh;exact h hh;cases hh.1)]
   | true=>
    obtain ⟨m4,m5,m6,m7,m8⟩:=hmv rfl
    have k3:=keep_set R3 k2 (by unfold stubB;simp)
    show cAt (dropIn (setIn _ P s (stubB a.1 a.2)).2 A B).1 Q t=_
    rw[(dropIn_ok R3.ok k3).2.2,base]
    by_cases hAB2:Q=A/\t=B
    ·rw[if_pos hAB2,if_neg (fun hh=>m5 ⟨hAB2.1.symm.trans hh.1,hAB2.2.symm.trans hh.2⟩),if_neg (fun hh=>n2 ⟨hh.1.symm.trans hAB2.1,hh.2.symm.trans hAB2.2⟩),if_pos (.inr ⟨rfl,hAB2⟩)]
    ·rw[if_neg hAB2]
     by_cases h:Q=P/\t=s
     ·rw[if_pos h,if_pos h]
     ·rw[if_neg h,if_neg h]
      by_cases h2:Q=a.1/\t=a.2
      ·rw[if_pos h2,if_pos h2]
      ·rw[if_neg h2,if_neg h2,if_neg (fun hh=>by rcases hh with hh | hh;exact h hh;exact hAB2 hh.2)]
theorem upd_view {r:Row} (hr:rowF r=0) (hk:rk (rowAt (cAt ps) P s)=rk r) (mv:Bool) {A B:Nat} (hm:if mv then flagC (cAt ps P s)=1/\A=tpC (cAt ps P s)/\B=tsC (cAt ps P s) else flagC (cAt ps P s)≠1/\A=P/\B=s) (hok:rightP (updW (startW ps) P s A B mv r).2.1) (hyes:(updW (startW ps) P s A B mv r).1=true) :
  viewC (updW (startW ps) P s A B mv r).2.1=0/\∀ r',r' ∈ rowsV (updW (startW ps) P s A B mv r).2.1↔(r' ∈ rowsV ps/\rk r'≠rk r)\/r'=r:=by
 obtain ⟨hR,S⟩:=view_iff.1 hv
 obtain ⟨S1,r1⟩:=drop_row S c1 c2
 rw[hk] at r1
 have hno:∀ r',rowIn (dropC (cAt ps) P s) r'->rk r'≠rk r:=fun r' h'=>((r1 r').1 h').2
 obtain ⟨g,hg,hcase⟩:=upd_cells hv c1 c2 hr mv hm hyes
 have fin:Stands g/\∀ r',rowIn g r'↔rowIn (dropC (cAt ps) P s) r'\/r'=r:=by
  rcases hcase with rfl | ⟨X,Y,x1,x2,x3,x4,rfl⟩
  ·exact add_near S1 (drop_same _ _ _) hr hno
  ·exact add_far S1 (drop_same _ _ _) x1 x2 x3 x4 hr hno
 have hv':viewC (updW (startW ps) P s A B mv r).2.1=0:=view_iff.2 ⟨hok,by rw[hg];exact fin.1⟩
 exact ⟨hv',fun r'=>by rw[rows_iff hv',rows_iff hv,hg,fin.2,r1]⟩
end
theorem row_eq {a b:Row} (h:Ty.eq tRow a b=true):a=b:=by
 have e:Ty.eq tRow a b=(decide (a.1=b.1)&&(decide (a.2.1=b.2.1)&&(decide (a.2.2.1=b.2.2.1)&&(decide (a.2.2.2.1=b.2.2.2.1)&&true)))):=rfl
 rw[e] at h
 simp only[Bool.and_eq_true,decide_eq_true_eq,and_true] at h
 obtain ⟨a1,a2,a3,a4,⟨⟩⟩:=a
 obtain ⟨b1,b2,b3,b4,⟨⟩⟩:=b
 obtain ⟨h1,h2,h3,h4⟩:=h
 simp only at h1 h2 h3 h4
 rw[h1,h2,h3,h4]
theorem nodup_of {xs:List Row} (h:(xs.map rk).Nodup):xs.Nodup:=List.Pairwise.of_map rk (fun a b h he=>h (congrArg rk he)) h
theorem del_view {ps:Pgs} (hv:viewC ps=0) {x:L6Spot} (hx:x ∈ seenF ps):∃ w:L7Work,delX ps x=doneE true w/\okW w 2/\viewC w.1=0/\∀ r',r' ∈ rowsV w.1↔r' ∈ rowsV ps/\rk r'≠rk (sRow x):=by
 obtain ⟨hR,S⟩:=view_iff.1 hv
 obtain ⟨P,s,c1,c2,x1,x2,x3,x4,x5,x6⟩:=seen_at hv hx
 have ho:=start_ok hR
 obtain ⟨d1,d2,d3⟩:=dropIn_ok ho c1
 obtain ⟨S1,r1⟩:=drop_row S c1 c2
 unfold delX
 rw[x1,x2,x4,x5,Int.toNat_natCast,Int.toNat_natCast,Int.toNat_natCast,Int.toNat_natCast,x3,x6]
 by_cases hf:flagC (cAt ps P s)=1
 ·rw[if_pos hf]
  obtain ⟨a1,a2⟩:=S.stub P s c1 hf
  have ne:¬ (tpC (cAt ps P s)=P/\tsC (cAt ps P s)=s):=fun he=>by
   rw[he.1,he.2] at a2;exact c2 a2
  have k1:cAt (dropIn (startW ps) P s).1 (tpC (cAt ps P s)) (tsC (cAt ps P s))≠[]:=by rw[d3,if_neg ne];exact a1
  obtain ⟨e1,e2,e3⟩:=dropIn_ok d1 k1
  have e:cAt (dropIn (dropIn (startW ps) P s) (tpC (cAt ps P s)) (tsC (cAt ps P s))).1=dropC (cAt ps) P s:=cells_ext fun Q t=>by
   rw[e3,d3]
   unfold dropC
   rw[if_pos hf]
   rfl
  have hv':=view_iff.2 ⟨e1.pages,by rw[e];exact S1⟩
  exact ⟨_,rfl,e1.mono (by omega),hv',fun r'=>by rw[rows_iff hv',rows_iff hv,e,r1]⟩
 ·rw[if_neg hf]
  have e:cAt (dropIn (startW ps) P s).1=dropC (cAt ps) P s:=cells_ext fun Q t=>by
   rw[d3]
   unfold dropC
   rw[if_neg hf]
   rfl
  have hv':=view_iff.2 ⟨d1.pages,by rw[e];exact S1⟩
  exact ⟨_,rfl,d1.mono (by omega),hv',fun r'=>by rw[rows_iff hv',rows_iff hv,e,r1]⟩
theorem updX_view {ps:Pgs} (hv:viewC ps=0) {x:L6Spot} (hx:x ∈ seenF ps) {r:Row} (hr:rowF r=0) (hk:rk (sRow x)=rk r):updX ps x r=badE 9\/∃ w:L7Work,updX ps x r=doneE true w/\okW w 40/\viewC w.1=0/\∀ r',r' ∈ rowsV w.1↔(r' ∈ rowsV ps/\rk r'≠rk r)\/r'=r:=by
 obtain ⟨hR,S⟩:=view_iff.1 hv
 obtain ⟨P,s,c1,c2,x1,x2,x3,x4,x5,x6⟩:=seen_at hv hx
 have ho:=start_ok hR
 have V:=view_ok hv
 unfold updX
 by_cases he:Ty.eq tRow (sRow x) r=true
 ·rw[if_pos he]
  right
  have her:sRow x=r:=by
   exact row_eq he
  refine ⟨startW ps,rfl,ho.mono (by omega),hv,fun r'=>?_⟩
  have hin:r ∈ rowsV ps:=by
   rw[rowsV_eq V,(sortR_perm _).mem_iff]
   exact List.mem_map.2 ⟨x,hx,her⟩
  constructor
  ·intro h
   by_cases hk2:rk r'=rk r
   ·right
    have hn:=up_nodup (rowsV_up V)
    exact nodup_inj hn h hin hk2
   ·exact .inl ⟨h,hk2⟩
  ·rintro (h | rfl)
   ·exact h.1
   ·exact hin
 ·rw[if_neg he]
  by_cases hf:flagC (cAt ps P s)=1
  ·obtain ⟨a1,a2⟩:=S.stub P s c1 hf
   have hm:if (true:Bool) then flagC (cAt ps P s)=1/\tpC (cAt ps P s)=tpC (cAt ps P s)/\tsC (cAt ps P s)=tsC (cAt ps P s) else flagC (cAt ps P s)≠1/\tpC (cAt ps P s)=P/\tsC (cAt ps P s)=s:=⟨hf,rfl,rfl⟩
   rw[x3,if_pos hf,if_pos hf,x1,x2,x4,x5,decide_eq_true hf,Int.toNat_natCast,Int.toNat_natCast,Int.toNat_natCast,Int.toNat_natCast]
   have hok:=updW_ok ho (by omega) c1 a1 true hr
   cases hy:(updW (startW ps) P s (tpC (cAt ps P s)) (tsC (cAt ps P s)) true r).1 with
   | false=>exact .inl rfl
   | true=>
    right
    obtain ⟨v1,v2⟩:=upd_view hv c1 c2 hr (by rw[<-x6];exact hk) true hm hok.pages hy
    exact ⟨_,rfl,hok.mono (by omega),v1,v2⟩
  ·have hm:if (false:Bool) then flagC (cAt ps P s)=1/\P=tpC (cAt ps P s)/\s=tsC (cAt ps P s) else flagC (cAt ps P s)≠1/\P=P/\s=s:=⟨hf,rfl,rfl⟩
   rw[x3,if_neg hf,if_neg hf,x1,x2,decide_eq_false hf,Int.toNat_natCast,Int.toNat_natCast]
   have hok:=updW_ok ho (by omega) c1 c1 false hr
   cases hy:(updW (startW ps) P s P s false r).1 with
   | false=>exact .inl rfl
   | true=>
    right
    obtain ⟨v1,v2⟩:=upd_view hv c1 c2 hr (by rw[<-x6];exact hk) false hm hok.pages hy
    exact ⟨_,rfl,hok.mono (by omega),v1,v2⟩
theorem up_same {xs ys:List Row} (hx:up xs) (hy:up ys) (h:∀ r,r ∈ xs↔r ∈ ys):xs=ys:=by
 have n1:xs.Nodup:=nodup_of (up_nodup hx)
 have n2:ys.Nodup:=nodup_of (up_nodup hy)
 exact up_unique ((List.perm_ext_iff_of_nodup n1 n2).2 h) hx hy
end OT
set_option linter.unusedVariables false
set_option linter.unusedSimpArgs false
set_option linter.unusedSectionVars false
namespace OT
open Go
def updE (ps:Pgs) (r:Row):EditsResult:=
 if viewC ps=0 then (if rowF r=0 then (match findS ps r.1 r.2.1 with | some x=>updX ps x r | none=>badE 4) else badE (rowF r)) else badE (viewC ps)
section
variable {ps:Pgs} (hp:∀ p ∈ ps,p.length<=maxLen)
include hp
theorem specUpdE_eq {r:Row} (hr:List.length r.2.2.2.1<=maxLen):spec_UpdateEdits.sem (ps,r,())=some (updE ps r,()):=by
 refine lift_eq (k:=0) fun k _=>(spec_UpdateEdits.raw_eq k _).trans ?_
 show spec_UpdateEdits.p _=_
 unfold spec_UpdateEdits.p updE
 rw[specView_eq ps hp]
 simp only[Option.bind_some,specBadE_eq,specRow_eq r hr]
 by_cases hv:viewC ps=0
 ·rw[if_pos hv,decide_eq_true hv,Bool.not_true,cond_false]
  by_cases hf:rowF r=0
  ·rw[if_pos hf,decide_eq_true hf,Bool.not_true,cond_false,specFind_eq ps (view_ok hv).right]
   cases hx:findS ps r.1 r.2.1 with
   | none=>rfl
   | some x=>
    have hm:=List.mem_of_find?_eq_some hx
    simp only[Option.bind_some,Bool.not_true,cond_false,specUpd_eq (view_ok hv) hm hf]
  ·rw[if_neg hf,decide_eq_false hf,Bool.not_false,cond_true]
 ·rw[if_neg hv,decide_eq_false hv,Bool.not_false,cond_true]
theorem implUpdE_eq {r:Row} (hr:List.length r.2.2.2.1<=maxLen):impl_UpdateEdits.sem (ps,r,())=some (updE ps r,()):=by
 refine lift_eq (k:=0) fun k _=>(impl_UpdateEdits.raw_eq k _).trans ?_
 show impl_UpdateEdits.p _=_
 unfold impl_UpdateEdits.p updE
 rw[implView_eq ps hp]
 simp only[Option.bind_some,implRow_eq r hr]
 by_cases hv:viewC ps=0
 ·rw[if_pos hv,decide_eq_true hv,cond_true]
  by_cases hf:rowF r=0
  ·have hr:=(view_ok hv).right
   rw[if_pos hf,decide_eq_true hf,Bool.not_true,cond_false,implFind_eq _ (by have:=viewL_len (view_ok hv);omega),find_same (view_ok hv),implStart_eq hr]
   cases hx:findS ps r.1 r.2.1 with
   | none=>rfl
   | some x=>
    have hm:=List.mem_of_find?_eq_some hx
    have e:=implUpdX_eq (view_ok hv) hm hf
    simp only[Option.map_some,Option.bind_some,Bool.not_true,cond_false]
    cases hu:impl_desk_update.sem (startW ps,convS x,r,()) with
    | none=>rw[hu] at e;cases e
    | some y=>
     rw[hu,Option.bind_some] at e
     simp only[Option.bind_some,e]
  ·rw[if_neg hf,decide_eq_false hf,Bool.not_false,cond_true]
   rfl
 ·rw[if_neg hv,decide_eq_false hv,cond_false,Bool.not_false,cond_true]
  rfl
end
end OT
set_option linter.unusedVariables false
set_option linter.unusedSimpArgs false
set_option linter.unusedSectionVars false
namespace OT
open Go
theorem fnd_at {xs:List Row} {k:Int×Int} (hu:up xs) {i:Nat} (hi:i < xs.length) (hk:rk xs[i]=k):fnd xs k=true/\pos xs k=i:=by
 have h1:¬ i < pos xs k:=fun hlt=>by
  have:=pos_lt xs k i hi hlt
  rw[hk,befB_irr] at this
  cases this
 have hp:pos xs k < xs.length:=by omega
 have h2:pos xs k=i:=by
  by_cases he:pos xs k=i
  ·exact he
  ·have h3:=List.pairwise_iff_getElem.1 hu (pos xs k) i hp hi (by omega)
   have h4:=up_not xs k (pos xs k) hp hu (Nat.le_refl _)
   rw[hk] at h3
   rw[h3] at h4
   cases h4
 refine ⟨?_,h2⟩
 unfold fnd
 rw[h2,List.getElem?_eq_getElem hi]
 simpa using hk
theorem doneE_zero {ok:Bool} {w:L7Work} (h:(doneE ok w).1=0):ok=true/\doneE ok w=((0:Int),w.2.1,w.1,()):=by
 unfold doneE at h ⊢
 cases ok with
 | true=>exact ⟨rfl,rfl⟩
 | false=>exact absurd h (show ¬ (9:Int)=0 by decide)
theorem insE_view {ps:Pgs} (hv:viewC ps=0) {r:Row} (hr:rowF r=0) (hn:findS ps r.1 r.2.1=none) (h0:(doneE (insW (startW ps) r).1.isSome (insW (startW ps) r).2).1=0):viewC (insW (startW ps) r).2.1=0/\∀ r',r' ∈ rowsV (insW (startW ps) r).2.1↔r' ∈ rowsV ps\/r'=r:=by
 have V:=view_ok hv
 obtain ⟨ha,_⟩:=doneE_zero h0
 obtain ⟨a,ha⟩:=Option.isSome_iff_exists.1 ha
 refine ins_view hv hr (fun r' hr' he=>?_) ha
 have hf:=find_rows V r.1 r.2.1
 rw[hn] at hf
 simp only at hf
 obtain ⟨i,hi,hx⟩:=List.getElem_of_mem hr'
 have:=(fnd_at (rowsV_up V) hi (k:=(r.1,r.2.1)) (by rw[hx];exact he)).1
 rw[hf] at this
 cases this
end OT
set_option linter.unusedVariables false
set_option linter.unusedSimpArgs false
set_option linter.unusedSectionVars false
namespace OT
open Go
def applyE (ps:Pgs) (e:Edit):Pgs:=if e.1.toNat=ps.length then ps++[e.2.1] else ps.set e.1.toNat e.2.1
def atE (ps:Pgs) (es:List Edit):Pgs:=es.foldl applyE ps
theorem atE_app (ps:Pgs) (es:List Edit) (e:Edit):atE ps (es++[e])=applyE (atE ps es) e:=by
 unfold atE
 rw[List.foldl_append];rfl
def okEd (ps:Pgs) (e:Edit):Prop:=List.length e.2.1=64/\0<=e.1/\e.1<=(ps.length:Int)/\e.1 < 12
def okEds:Pgs->List Edit->Prop
 | _,[]=>True
 | ps,e::es=>okEd ps e/\okEds (applyE ps e) es
theorem okEds_app {ps:Pgs}:∀ {es:List Edit} {e:Edit},okEds ps es->okEd (atE ps es) e->okEds ps (es++[e])
 | [],e,_,h=>⟨h,trivial⟩
 | x::es,e,h,h2=>⟨h.1,okEds_app (ps:=applyE ps x) h.2 h2⟩
theorem okEd_of {ps:Pgs} {P:Nat} {b:List UInt8} (h:rightP (applyE ps ((P:Int),b,()))) (hP:P<=ps.length):okEd ps ((P:Int),b,()):=by
 have hm:b ∈ applyE ps ((P:Int),b,())/\P < (applyE ps ((P:Int),b,())).length:=by
  unfold applyE
  show b ∈ (if ((P:Int)).toNat=ps.length then ps++[b] else ps.set ((P:Int)).toNat b)/\P < (if ((P:Int)).toNat=ps.length then ps++[b] else ps.set ((P:Int)).toNat b).length
  rw[Int.toNat_natCast]
  split
  ·rename_i h1
   rw[List.length_append]
   exact ⟨List.mem_append.2 (.inr (List.mem_singleton.2 rfl)),by simp only[List.length_cons,List.length_nil];omega⟩
  ·rename_i h1
   rw[List.length_set]
   exact ⟨List.mem_set (by omega) _,by omega⟩
 have h12:=h.1
 exact ⟨(h.2 b hm.1).len,by show (0:Int)<=(P:Int);omega,by show (P:Int)<=_;omega,by show (P:Int) < 12;omega⟩
def wayB (ps:Pgs) (es:List Edit) (B:Nat->List Row):Prop:=∀ j,j<=es.length->viewC (atE ps (es.take j))=0/\rowsV (atE ps (es.take j))=B j
structure NotYet (ps:Pgs) (w:L7Work) (B0:List Row):Prop where
 at_:atE ps w.2.1=w.1
 ed:okEds ps w.2.1
 way:wayB ps w.2.1 fun _=>B0
structure Turned2 (ps:Pgs) (w:L7Work) (B0 B1:List Row):Prop where
 at_:atE ps w.2.1=w.1
 ed:okEds ps w.2.1
 way:∃ m,m<=List.length w.2.1/\wayB ps w.2.1 fun j=>if j < m then B0 else B1
theorem way_more {ps:Pgs} {es:List Edit} {B:Nat->List Row} (h:wayB ps es B) {e:Edit} (h1:viewC (atE ps (es++[e]))=0) (h2:rowsV (atE ps (es++[e]))=B (es.length+1)):wayB ps (es++[e]) B:=fun j hj=>by
 rw[List.length_append,List.length_cons,List.length_nil] at hj
 by_cases hl:j<=es.length
 ·rw[List.take_append_of_le_length hl]
  exact h j hl
 ·have:j=es.length+1:=by omega
  rw[this,List.take_of_length_le (by rw[List.length_append];exact Nat.le_refl _)]
  exact ⟨h1,h2⟩
theorem turn_cases {w:L7Work} {P:Nat} (hP:P<=List.length w.1) (b:List UInt8):turnW w P b=w\/((turnW w P b).2.1=w.2.1++[((P:Int),b,())]/\(turnW w P b).1=applyE w.1 ((P:Int),b,())):=by
 unfold turnW applyE
 by_cases h:P=List.length w.1
 ·right
  rw[if_pos h]
  refine ⟨rfl,?_⟩
  show w.1++[b]=if ((P:Int)).toNat=List.length w.1 then w.1++[b] else _
  rw[Int.toNat_natCast,if_pos h]
 ·rw[if_neg h]
  split
  ·exact .inl rfl
  ·right
   refine ⟨rfl,?_⟩
   show List.set w.1 P b=if ((P:Int)).toNat=List.length w.1 then _ else List.set w.1 ((P:Int)).toNat b
   rw[Int.toNat_natCast,if_neg h]
theorem notyet_stay {ps:Pgs} {w:L7Work} {B0:List Row} (h:NotYet ps w B0) {P:Nat} (hP:P<=List.length w.1) {b:List UInt8} (h1:viewC (turnW w P b).1=0) (h2:rowsV (turnW w P b).1=B0):NotYet ps (turnW w P b) B0:=by
 rcases turn_cases hP b with e | ⟨e1,e2⟩
 ·rw[e];exact h
 ·have ha:atE ps (turnW w P b).2.1=(turnW w P b).1:=by rw[e1,atE_app,h.at_,e2]
  have hed:okEds ps (turnW w P b).2.1:=by rw[e1];exact okEds_app h.ed (by rw[h.at_];exact okEd_of (by rw[<-e2];exact (view_iff.1 h1).1) hP)
  refine ⟨ha,hed,?_⟩
  rw[e1] at ha ⊢
  exact way_more h.way (by rw[ha];exact h1) (by rw[ha];exact h2)
theorem notyet_turn {ps:Pgs} {w:L7Work} {B0 B1:List Row} (h:NotYet ps w B0) {P:Nat} (hP:P<=List.length w.1) {b:List UInt8} (h1:viewC (turnW w P b).1=0) (h2:rowsV (turnW w P b).1=B1):Turned2 ps (turnW w P b) B0 B1:=by
 rcases turn_cases hP b with e | ⟨e1,e2⟩
 ·rw[e] at h1 h2 ⊢
  refine ⟨h.at_,h.ed,List.length w.2.1,Nat.le_refl _,fun j hj=>?_⟩
  obtain ⟨a1,a2⟩:=h.way j hj
  refine ⟨a1,?_⟩
  show rowsV (atE ps (w.2.1.take j))=if j < List.length w.2.1 then B0 else B1
  by_cases hl:j < List.length w.2.1
  ·rw[if_pos hl];exact a2
  ·rw[if_neg hl,List.take_of_length_le (by omega),h.at_];exact h2
 ·have ha:atE ps (turnW w P b).2.1=(turnW w P b).1:=by rw[e1,atE_app,h.at_,e2]
  have hed:okEds ps (turnW w P b).2.1:=by rw[e1];exact okEds_app h.ed (by rw[h.at_];exact okEd_of (by rw[<-e2];exact (view_iff.1 h1).1) hP)
  refine ⟨ha,hed,List.length w.2.1+1,by rw[e1,List.length_append];exact Nat.le_refl _,?_⟩
  rw[e1] at ha ⊢
  refine way_more (fun j hj=>?_) (by rw[ha];exact h1) (by
   show _=if List.length w.2.1+1 < List.length w.2.1+1 then B0 else B1
   rw[ha,if_neg (Nat.lt_irrefl _)];exact h2)
  show _/\_=if j < List.length w.2.1+1 then B0 else B1
  rw[if_pos (by omega)]
  exact h.way j hj
theorem turned_stay {ps:Pgs} {w:L7Work} {B0 B1:List Row} (h:Turned2 ps w B0 B1) {P:Nat} (hP:P<=List.length w.1) {b:List UInt8} (h1:viewC (turnW w P b).1=0) (h2:rowsV (turnW w P b).1=B1):Turned2 ps (turnW w P b) B0 B1:=by
 rcases turn_cases hP b with e | ⟨e1,e2⟩
 ·rw[e];exact h
 ·have ha:atE ps (turnW w P b).2.1=(turnW w P b).1:=by rw[e1,atE_app,h.at_,e2]
  have hed:okEds ps (turnW w P b).2.1:=by rw[e1];exact okEds_app h.ed (by rw[h.at_];exact okEd_of (by rw[<-e2];exact (view_iff.1 h1).1) hP)
  obtain ⟨m,hm,hw⟩:=h.way
  refine ⟨ha,hed,m,by rw[e1,List.length_append];omega,?_⟩
  rw[e1] at ha ⊢
  exact way_more hw (by rw[ha];exact h1) (by
   show _=if List.length w.2.1+1 < m then B0 else B1
   rw[ha,if_neg (by omega)];exact h2)
theorem same_view {ps qs:Pgs} (hv:viewC ps=0) (hq:rightP qs) (h:∀ Q t,cAt qs Q t=cAt ps Q t):viewC qs=0/\rowsV qs=rowsV ps:=by
 have e:cAt qs=cAt ps:=cells_ext h
 have hv':viewC qs=0:=view_iff.2 ⟨hq,by rw[e];exact (view_iff.1 hv).2⟩
 exact ⟨hv',up_same (rowsV_up (view_ok hv')) (rowsV_up (view_ok hv)) fun r=>by rw[rows_iff hv',rows_iff hv,e]⟩
theorem notyet_start {ps:Pgs} (hv:viewC ps=0):NotYet ps (startW ps) (rowsV ps):=⟨rfl,trivial,fun j hj=>by
 have:j=0:=by have:j<=0:=hj;omega
 subst this
 exact ⟨hv,rfl⟩⟩
theorem notyet_view {ps:Pgs} {w:L7Work} {B0:List Row} (h:NotYet ps w B0):viewC w.1=0/\rowsV w.1=B0:=by
 have:=h.way _ (Nat.le_refl _)
 rw[List.take_length,h.at_] at this
 exact this
theorem notyet_comp {ps:Pgs} {w:L7Work} {n:Nat} {B0:List Row} (h:NotYet ps w B0) (ho:okW w n) {P:Nat} (hP:P < List.length w.1):NotYet ps (compW w P) B0:=by
 obtain ⟨v1,v2⟩:=notyet_view h
 obtain ⟨s1,s2⟩:=same_view v1 (compW_ok ho hP).pages (compW_cells ho hP)
 exact notyet_stay h (Nat.le_of_lt hP) s1 (s2.trans v2)
theorem putIn_way {ps:Pgs} {w:L7Work} {n:Nat} {B0 B1:List Row} (h:NotYet ps w B0) (ho:okW w n) {P:Nat} (hP:P < List.length w.1) {c:List UInt8} (hno:(putIn w P c).1=none->True) (hyes:∀ t,(putIn w P c).1=some t->viewC (putIn w P c).2.1=0/\rowsV (putIn w P c).2.1=B1) :
  ((putIn w P c).1=none->NotYet ps (putIn w P c).2 B0)/\(∀ t,(putIn w P c).1=some t->Turned2 ps (putIn w P c).2 B0 B1/\(B1=B0->NotYet ps (putIn w P c).2 B0)):=by
 have hc:=notyet_comp h ho hP
 have hl:=compW_len hP
 unfold putIn at hyes ⊢
 split
 ·rename_i h8
  rw[if_pos h8] at hyes
  split
  ·rename_i h0
   rw[if_pos h0] at hyes
   obtain ⟨a1,a2⟩:=hyes _ rfl
   refine ⟨fun hh=>(by cases hh),fun t ht=>⟨notyet_turn hc (by omega) a1 a2,fun he=>notyet_stay hc (by omega) a1 (a2.trans he)⟩⟩
  ·exact ⟨fun _=>hc,fun t ht=>by cases ht⟩
 ·rename_i h8
  rw[if_neg h8] at hyes
  split
  ·rename_i h0
   rw[if_pos h0] at hyes
   obtain ⟨a1,a2⟩:=hyes _ rfl
   refine ⟨fun hh=>(by cases hh),fun t ht=>⟨notyet_turn h (Nat.le_of_lt hP) a1 a2,fun he=>notyet_stay h (Nat.le_of_lt hP) a1 (a2.trans he)⟩⟩
  ·exact ⟨fun _=>h,fun t ht=>by cases ht⟩
theorem setIn_way {ps:Pgs} {w:L7Work} {n:Nat} {B0 B1:List Row} (h:NotYet ps w B0) (ho:okW w n) {P s:Nat} (hP:P < List.length w.1) {c:List UInt8} (hyes:(setIn w P s c).1=true->viewC (setIn w P s c).2.1=0/\rowsV (setIn w P s c).2.1=B1) :
  ((setIn w P s c).1=false->NotYet ps (setIn w P s c).2 B0)/\((setIn w P s c).1=true->Turned2 ps (setIn w P s c).2 B0 B1):=by
 have hc:=notyet_comp h ho hP
 have hl:=compW_len hP
 unfold setIn at hyes ⊢
 split
 ·rename_i h8
  rw[if_pos h8] at hyes
  split
  ·rename_i h0
   rw[if_pos h0] at hyes
   obtain ⟨a1,a2⟩:=hyes rfl
   exact ⟨fun hh=>(by cases hh),fun _=>notyet_turn hc (by omega) a1 a2⟩
  ·exact ⟨fun _=>hc,fun ht=>by cases ht⟩
 ·rename_i h8
  rw[if_neg h8] at hyes
  split
  ·rename_i h0
   rw[if_pos h0] at hyes
   obtain ⟨a1,a2⟩:=hyes rfl
   exact ⟨fun hh=>(by cases hh),fun _=>notyet_turn h (Nat.le_of_lt hP) a1 a2⟩
  ·exact ⟨fun _=>h,fun ht=>by cases ht⟩
def placeQ (f:Cells2) (c:List UInt8) (B1:List Row):Prop:=∀ (P t:Nat) (q:Pgs),rightP q->f P t=[]->cAt q=upd f P t c->P < 12->t < 16->viewC q=0/\rowsV q=B1
def wayR (ps:Pgs) (B0 B1:List Row) (r:Option (Nat×Nat)×L7Work):Prop:=(r.1=none->NotYet ps r.2 B0)/\(∀ a,r.1=some a->Turned2 ps r.2 B0 B1/\(B1=B0->NotYet ps r.2 B0))
theorem placeGo_way {ps:Pgs} {B0 B1:List Row} {c:List UInt8} (hc:1<=c.length) (no:Int):∀ (l:List Nat) (w:L7Work) (n:Nat),NotYet ps w B0->okW w n->(∀ P ∈ l,P < List.length w.1)->placeQ (cAt w.1) c B1->wayR ps B0 B1 (placeGo c no l w)
 | [],w,n,h,_,_,_=>⟨fun _=>h,fun a ha=>by cases ha⟩
 | P::l,w,n,h,ho,hl,hq=>by
  unfold placeGo
  split
  ·exact placeGo_way hc no l w n h ho (fun Q hQ=>hl Q (List.mem_cons_of_mem _ hQ)) hq
  ·have hP:=hl P List.mem_cons_self
   have R:=putIn_ok ho hP hc
   obtain ⟨y1,y2⟩:=putIn_way (B1:=B1) h ho hP (c:=c) (fun _=>trivial) fun t ht=>by
    obtain ⟨a1,a2,a3⟩:=R.yes t ht
    exact hq P t _ R.ok.pages a2 (cells_ext a3) (by have:=ho.pages.1;omega) a1
   split
   ·rename_i t ht
    exact ⟨fun hh=>(by cases hh),fun a _=>y2 t ht⟩
   ·rename_i ht
    have e:cAt (putIn w P c).2.1=cAt w.1:=cells_ext (R.no ht)
    exact placeGo_way hc no l (putIn w P c).2 (n+2) (y1 ht) R.ok (fun Q hQ=>by rw[R.len];exact hl Q (List.mem_cons_of_mem _ hQ)) (by rw[e];exact hq)
theorem placeW_way {ps:Pgs} {w:L7Work} {n:Nat} {B0 B1:List Row} (h:NotYet ps w B0) (ho:okW w n) {c:List UInt8} (hc1:1<=c.length) (hc:c.length<=20) (no:Int) (hq:placeQ (cAt w.1) c B1):wayR ps B0 B1 (placeW w no c):=by
 have hR:=placeW_ok ho hc1 hc no
 have G:=placeGo_way hc1 no (List.range (List.length w.1)) w n h ho (fun P hP=>List.mem_range.1 hP) hq
 have R:=placeGo_ok hc1 no (List.range (List.length w.1)) w n ho fun P hP=>List.mem_range.1 hP
 unfold placeW at hR ⊢
 split
 ·exact G
 ·rename_i h0
  obtain ⟨a1,a2⟩:=R.no h0
  rw[h0] at hR
  simp only at hR
  split
  ·exact ⟨fun _=>G.1 h0,fun a ha=>by cases ha⟩
  ·rename_i hlt
   rw[if_neg hlt] at hR
   obtain ⟨b1,b2,b3,b4⟩:=hR.yes _ _ rfl
   obtain ⟨v1,v2⟩:=hq _ _ _ hR.ok.pages b3 (cells_ext b4) b1 b2
   have N:=G.1 h0
   exact ⟨fun hh=>(by cases hh),fun a _=>⟨notyet_turn N (by omega) v1 v2,fun he=>notyet_stay N (by omega) v1 (v2.trans he)⟩⟩
theorem upd_way {ps:Pgs} (hv:viewC ps=0) {P s:Nat} (c1:cAt ps P s≠[]) (c2:flagC (cAt ps P s)≠2) {r:Row} (hr:rowF r=0) (hk:rk (rowAt (cAt ps) P s)=rk r) (mv:Bool) {A B:Nat} (hm:if mv then flagC (cAt ps P s)=1/\A=tpC (cAt ps P s)/\B=tsC (cAt ps P s) else flagC (cAt ps P s)≠1/\A=P/\B=s) (hok:rightP (updW (startW ps) P s A B mv r).2.1) (hyes:(updW (startW ps) P s A B mv r).1=true) :
  Turned2 ps (updW (startW ps) P s A B mv r).2 (rowsV ps) (rowsV (updW (startW ps) P s A B mv r).2.1):=by
 obtain ⟨hR,S⟩:=view_iff.1 hv
 have ho:=start_ok hR
 obtain ⟨v1,v2⟩:=upd_view hv c1 c2 hr hk mv hm hok hyes
 have l20:∀ f,(cellB f r).length<=20:=fun f=>by have:=(cellB_len (f:=f) hr).2;omega
 have l1:∀ f,1<=(cellB f r).length:=fun f=>(cellB_len (f:=f) hr).1
 have cAB:cAt ps A B≠[]:=by
  cases mv with
  | false=>obtain ⟨m1,m2,m3⟩:=hm;rw[m2,m3];exact c1
  | true=>obtain ⟨m1,m2,m3⟩:=hm;rw[m2,m3];exact (S.stub P s c1 m1).1
 have inA:A < List.length (startW ps).1:=(cAt_in hR cAB).1
 have R1:=setIn_ok ho (P:=A) (s:=B) cAB (l1 (bif mv then 2 else 0))
 have R2:=placeW_ok R1.ok (l1 2) (l20 2) (A:Int)
 unfold updW at hyes v1 v2 ⊢
 by_cases hb:(setIn (startW ps) A B (cellB (bif mv then 2 else 0) r)).1=true
 ·rw[if_pos hb] at v1 v2 ⊢
  exact (setIn_way (notyet_start hv) ho inA fun _=>⟨v1,rfl⟩).2 hb
 ·rw[if_neg hb] at hyes v1 v2 ⊢
  have hbf:(setIn (startW ps) A B (cellB (bif mv then 2 else 0) r)).1=false:=by simpa using hb
  have e:=R1.no hbf
  have N1:=(setIn_way (B1:=[]) (notyet_start hv) ho inA (s:=B) (c:=cellB (bif mv then 2 else 0) r) fun h=>absurd h hb).1 hbf
  have e1:cAt (setIn (startW ps) A B (cellB (bif mv then 2 else 0) r)).2.1=cAt ps:=cells_ext e
  have W:=placeW_way N1 R1.ok (l1 2) (l20 2) (A:Int) (B1:=rowsV ps) fun X Y q hq h0 eq _ _=>by
   rw[e1] at h0 eq
   obtain ⟨m1,m2,m3⟩:=flag_cell (n:=2) (.inr rfl) hr
   obtain ⟨S1,r1,_⟩:=add_moved S h0 m1 m2
   have hvq:viewC q=0:=view_iff.2 ⟨hq,by rw[eq];exact S1⟩
   exact ⟨hvq,up_same (rowsV_up (view_ok hvq)) (rowsV_up (view_ok hv)) fun r'=>by rw[rows_iff hvq,eq,r1,rows_iff hv]⟩
  cases hg:(placeW (setIn (startW ps) A B (cellB (bif mv then 2 else 0) r)).2 (A:Int) (cellB 2 r)).1 with
  | none=>rw[hg] at hyes;cases hyes
  | some a=>
   rw[hg] at v1 v2
   simp only at v1 v2 ⊢
   have N2:=(W.2 a hg).2 rfl
   obtain ⟨y1,y2,y3,y4⟩:=R2.yes a.1 a.2 hg
   rw[e1] at y3
   have k1:=keep_at R2 (keep_set R1 (Q:=P) (t:=s) c1 cellB_ne) cellB_ne
   have k2:=keep_at R2 (keep_set R1 (Q:=A) (t:=B) cAB cellB_ne) cellB_ne
   have n1:¬ (a.1=P/\a.2=s):=fun he=>c1 (by rw[<-he.1,<- he.2];exact y3)
   have hcell:cAt (placeW (setIn (startW ps) A B (cellB (bif mv then 2 else 0) r)).2 (A:Int) (cellB 2 r)).2.1 P s=cAt ps P s:=by
    rw[y4,if_neg (fun he=>n1 ⟨he.1.symm,he.2.symm⟩),e1]
   have hst:=set_fits R2.ok k1 (c:=stubB a.1 a.2) (by rw[hcell,stubB_len];exact cell_long (S.read P s c1))
   have R3:=setIn_ok R2.ok k1 (c:=stubB a.1 a.2) (by rw[stubB_len];omega)
   have inP:P < List.length (placeW (setIn (startW ps) A B (cellB (bif mv then 2 else 0) r)).2 (A:Int) (cellB 2 r)).2.1:=(cAt_in R2.ok.pages k1).1
   have mid:viewC (setIn (placeW (setIn (startW ps) A B (cellB (bif mv then 2 else 0) r)).2 (A:Int) (cellB 2 r)).2 P s (stubB a.1 a.2)).2.1=0/\∀ r',r' ∈ rowsV (setIn (placeW (setIn (startW ps) A B (cellB (bif mv then 2 else 0) r)).2 (A:Int) (cellB 2 r)).2 P s (stubB a.1 a.2)).2.1↔(r' ∈ rowsV ps/\rk r'≠rk r)\/r'=r:=by
    obtain ⟨S1,r1,_⟩:=drop_seen S c1 c2
    rw[hk] at r1
    have hXY:upd (cAt ps) P s [] a.1 a.2=[]:=by rw[upd_off n1];exact y3
    obtain ⟨S2,r2⟩:=add_far S1 (upd_at _ _ _ _) hXY n1 (by omega) (by omega) hr fun r' h'=>((r1 r').1 h').2
    have ec:cAt (setIn (placeW (setIn (startW ps) A B (cellB (bif mv then 2 else 0) r)).2 (A:Int) (cellB 2 r)).2 P s (stubB a.1 a.2)).2.1=upd (upd (upd (cAt ps) P s []) a.1 a.2 (cellB 2 r)) P s (stubB a.1 a.2):=cells_ext fun Q t=>by
     rw[R3.yes hst,y4,e1]
     unfold upd
     by_cases h:Q=P/\t=s
     ·rw[if_pos h,if_pos h]
     ·rw[if_neg h,if_neg h]
      by_cases h2:Q=a.1/\t=a.2
      ·rw[if_pos h2,if_pos h2]
      ·rw[if_neg h2,if_neg h2,if_neg h]
    have hvm:=view_iff.2 ⟨R3.ok.pages,by rw[ec];exact S2⟩
    exact ⟨hvm,fun r'=>by rw[rows_iff hvm,ec,r2,r1,rows_iff hv]⟩
   have T0:=(setIn_way N2 R2.ok inP (s:=s) (c:=stubB a.1 a.2) fun _=>⟨mid.1,rfl⟩).2 hst
   have k3:=keep_set R3 k2 (by unfold stubB;simp)
   have ok3:=R3.ok
   generalize setIn (placeW (setIn (startW ps) A B (cellB (bif mv then 2 else 0) r)).2 (A:Int) (cellB 2 r)).2 P s (stubB a.1 a.2)=u at mid v1 v2 T0 k3 ok3 ⊢
   cases mv with
   | false=>exact T0
   | true=>
    have e4:rowsV u.2.1=rowsV (dropIn u.2 A B).1:=up_same (rowsV_up (view_ok mid.1)) (rowsV_up (view_ok v1)) fun r'=>(mid.2 r').trans (v2 r').symm
    rw[e4] at T0
    exact turned_stay T0 (Nat.le_of_lt (cAt_in ok3.pages k3).1) v1 rfl
end OT
set_option linter.unusedVariables false
set_option linter.unusedSimpArgs false
set_option linter.unusedSectionVars false
namespace OT
open Go
theorem implRowsIn_eq (ps:Pgs) (hp:∀ p ∈ ps,p.length<=maxLen):impl_RowsIn.sem (ps,())=some (if viewC ps=0 then ((0:Int),rowsV ps,()) else (viewC ps,([]:List Row),()),()):=by
 refine lift_eq (k:=0) fun k _=>(impl_RowsIn.raw_eq k _).trans ?_
 show impl_RowsIn.p _=_
 unfold impl_RowsIn.p
 rw[implView_eq ps hp]
 simp only[Option.bind_some]
 by_cases hv:viewC ps=0
 ·rw[if_pos hv,decide_eq_true hv,Bool.not_true,cond_false,seenRows_eq _ (by have:=viewL_len (view_ok hv);omega)]
  rfl
 ·rw[if_neg hv,decide_eq_false hv,Bool.not_false,cond_true]
theorem implFindRow_eq {ps:Pgs} (hp:∀ p ∈ ps,p.length<=maxLen) (hv:viewC ps=0) {r:Row} (hr:rowF r=0) (hm:r ∈ rowsV ps):∃ P s:Int,impl_FindRow.sem (ps,r.1,r.2.1,())=some (((0:Int),P,s,r,()),()):=by
 have V:=view_ok hv
 obtain ⟨h1,h2,h3,h4⟩:=rowF_ok hr
 have hfr:=find_rows V r.1 r.2.1
 obtain ⟨i,hi,he⟩:=List.getElem_of_mem hm
 obtain ⟨f1,f2⟩:=fnd_at (rowsV_up V) hi (k:=(r.1,r.2.1)) (by rw[he];rfl)
 cases hx:findS ps r.1 r.2.1 with
 | none=>
  rw[hx] at hfr
  simp only at hfr
  rw[hfr] at f1
  cases f1
 | some x=>
  rw[hx] at hfr
  obtain ⟨_,g2,_,_⟩:=hfr
  have hxr:sRow x=r:=by
   rw[f2,List.getElem?_eq_getElem hi,he] at g2
   injection g2 with g2
   exact g2.symm
  refine ⟨(convS x).2.1,(convS x).2.2.1,?_⟩
  refine lift_eq (k:=0) fun k _=>(impl_FindRow.raw_eq k _).trans ?_
  show impl_FindRow.p _=_
  unfold impl_FindRow.p
  rw[implView_eq ps hp]
  simp only[Option.bind_some]
  have hkey:impl_isKey.sem (r.1,r.2.1,())=some (true,()):=by
   refine lift_eq (k:=0) fun k _=>(impl_isKey.raw_eq k _).trans ?_
   show impl_isKey.p _=_
   unfold impl_isKey.p
   simp only[implIn_eq,Option.bind_some]
   rw[decide_eq_true h1.1,decide_eq_true h1.2,decide_eq_true h2.1,decide_eq_true h2.2]
   rfl
  rw[decide_eq_true hv,Bool.not_true,cond_false,hkey,Option.bind_some,implFind_eq _ (by have:=viewL_len V;omega),find_same V,hx]
  show some (((0:Int),(convS x).2.1,(convS x).2.2.1,sRow x,()),())=_
  rw[hxr]
theorem okEds_at:∀ {es:List Edit} {ps:Pgs},okEds ps es->∀ i (hi:i < es.length),okEd (atE ps (es.take i)) es[i]
 | e::es,ps,h,0,_=>h.1
 | e::es,ps,h,i+1,hi=>okEds_at (ps:=applyE ps e) h.2 i (by simpa using hi)
theorem applyE_len {ps:Pgs} {e:Edit} (h:okEd ps e):(applyE ps e).length=if e.1.toNat=ps.length then ps.length+1 else ps.length:=by
 unfold applyE
 split
 ·rw[List.length_append];rfl
 ·rw[List.length_set]
theorem ownEdits_eq (es:List Edit) (hl:es.length<=1000) (h:∀ e ∈ es,List.length e.2.1=64):impl_ownEdits.sem (es,())=some (es,()):=by
 refine lift_eq (k:=1100) fun k hk=>(impl_ownEdits.raw_eq k _).trans ?_
 have:=for_loop (B:=fun self v=>impl_ownEdits.B0 k self (fun z=>impl_ownEdits.Q0 k (es,()) z) (es,()) v) es (fun (s:List Edit) (i:Int)=>(s,i)) (fun _ s x=>.inr (s++[x])) (fun s=>(s,())) (fun i s=>s.length=i) (by rw[maxLen_val];omega)
  (fun i hi s self hs=>by
   show impl_ownEdits.b0 _ _ _ _=_
   unfold impl_ownEdits.b0
   have hlt:(i:Int) < (es.length:Int):=by omega
   have h64:=h _ (List.getElem_mem hi)
   rw[decide_eq_true hlt,cond_true,if_pos (Int.natCast_nonneg i)]
   simp only[Int.toNat_natCast,List.getElem?_eq_getElem hi,Option.bind_some]
   rw[implCopied_eq _ (by omega)]
   simp only[Option.bind_some]
   rw[if_pos (cap_ok (by simp only[List.length_cons,List.length_nil];omega))])
  (fun i hi s s' hs hf=>by injection hf with hf;subst hf;simp[hs]) (fun s self _=>by
   show impl_ownEdits.b0 _ _ _ _=_
   unfold impl_ownEdits.b0
   rw[decide_eq_false (Int.lt_irrefl _),cond_false]
   rfl) [] rfl k (by omega)
 rw[forI_fold (g:=fun (s:List Edit) (x:Edit)=>s++[x]),fold_self,List.nil_append] at this
 exact this
theorem implApplyE_eq {ps:Pgs} (hg:gp ps) {es:List Edit} (hl:es.length<=1000) (he:okEds ps es):impl_ApplyEdits.sem (ps,es,())=some (((0:Int),es,atE ps es,()),()):=by
 have h64:∀ e ∈ es,List.length e.2.1=64:=fun e hm=>by
  obtain ⟨i,hi,rfl⟩:=List.getElem_of_mem hm
  exact (okEds_at he i hi).1
 refine lift_eq (k:=1100) fun k hk=>(impl_ApplyEdits.raw_eq k _).trans ?_
 unfold impl_ApplyEdits.p
 have h12:¬ (12:Int) < (ps.length:Int):=by have:=hg.1;omega
 rw[decide_eq_false h12,cond_false,implCopies_eq ps hg,Option.bind_some]
 have:=for_loop (B:=fun self v=>impl_ApplyEdits.B0 k self (fun z=>impl_ApplyEdits.Q0 k (ps,es,()) z) (ps,es,()) v) es (fun (s:Pgs) (i:Int)=>(s,i)) (fun _ s x=>.inr (applyE s x)) (fun s=>(((0:Int),es,s,()),())) (fun i s=>s=atE ps (es.take i)/\s.length<=12) (by rw[maxLen_val];omega)
  (fun i hi s self ⟨hs,hs12⟩=>by
   show impl_ApplyEdits.b0 _ _ _ _=_
   unfold impl_ApplyEdits.b0
   have hlt:(i:Int) < (es.length:Int):=by omega
   obtain ⟨o1,o2,o3,o4⟩:=okEds_at he i hi
   rw[<-hs] at o3
   have n64:((List.length (es[i]).2.1:Nat):Int)=64:=by omega
   have n12:¬ (es[i]).1=12:=by omega
   rw[decide_eq_true hlt,cond_true,if_pos (Int.natCast_nonneg i)]
   simp only[Int.toNat_natCast,List.getElem?_eq_getElem hi,Option.bind_some,implIn_eq]
   rw[decide_eq_true n64,Bool.not_true,cond_false,decide_eq_true o2,decide_eq_true o3,Bool.and_self,Bool.not_true,cond_false,decide_eq_false n12,cond_false]
   simp only[implCopied_eq (es[i]).2.1 (by omega),Option.bind_some]
   unfold applyE
   by_cases hq:(es[i]).1=(s.length:Int)
   ·have hn:(es[i]).1.toNat=s.length:=by omega
    rw[decide_eq_true hq,cond_true,if_pos (cap_ok (by simp only[List.length_cons,List.length_nil];omega)),if_pos hn]
    have g:0<=(es[i]).1/\(es[i]).1 < ((s++[([]:List UInt8)]).length:Int):=by
     rw[List.length_append];simp only[List.length_cons,List.length_nil];omega
    rw[if_pos g,hn,List.getElem?_append_right (Nat.le_refl _),Nat.sub_self]
    show self ((s++[([]:List UInt8)]).set s.length (es[i]).2.1,_)=_
    rw[List.set_append_right _ _ (Nat.le_refl _),Nat.sub_self]
    rfl
   ·have hn:¬ (es[i]).1.toNat=s.length:=by omega
    have g:0<=(es[i]).1/\(es[i]).1 < (s.length:Int):=by omega
    rw[decide_eq_false hq,cond_false,if_pos g,if_neg hn,List.getElem?_eq_getElem (show (es[i]).1.toNat < s.length by omega)]
    rfl)
  (fun i hi s s' ⟨hs,hs12⟩ hf=>by
   injection hf with hf
   subst hf
   have o:=okEds_at he i hi
   rw[<-hs] at o
   refine ⟨?_,?_⟩
   ·rw[List.take_succ_eq_append_getElem hi,atE_app,hs]
   ·rw[applyE_len o]
    obtain ⟨o1,o2,o3,o4⟩:=o
    split <;> omega)
  (fun s self _=>by
   show impl_ApplyEdits.b0 _ _ _ _=_
   unfold impl_ApplyEdits.b0
   show (bif decide ((List.length es:Int) < (List.length es:Int)) then _ else _)=_
   rw[decide_eq_false (Int.lt_irrefl _),cond_false]
   show impl_ApplyEdits.q0 _ _=_
   unfold impl_ApplyEdits.q0
   rw[ownEdits_eq es hl h64]
   rfl) ps ⟨rfl,hg.1⟩ k (by omega)
 rw[forI_fold (g:=applyE)] at this
 exact this
end OT
