/- The proof's parts, merged: What one transaction did may be undone by itself  the keys of the others are others.. No conditions but those that each states. -/
import Derived.Test.YtaebhfnbgkbdhaaGreatQe
set_option linter.unusedVariables false
set_option linter.unusedSimpArgs false
set_option linter.unusedSectionVars false
namespace OT
open Go
theorem oC {c:Change} (hc:ec c=0) (h:c.1=true):rk c.2.1=ck c:=by
 unfold ec at hc
 rw[h] at hc
 unfold ck
 cases hi:c.2.2.1 with
 | false=>rfl
 | true=>
  rw[hi] at hc
  simp only[Bool.not_true,Bool.false_and,Bool.and_self,Bool.true_and,Bool.false_or] at hc
  split at hc
  ·cases hc
  ·rename_i hn
   have hs:sameKey c.2.1 c.2.2.2.1=true:=by simpa using hn
   rw[sM] at hs
   exact of_decide_eq_true hs
theorem Hv (x:Row):Ty.eq aj x x=true:=by
 have e:Ty.eq aj x x=(decide (x.1=x.1)&&(decide (x.2.1=x.2.1)&&(decide (x.2.2.1=x.2.2.1)&&(decide (x.2.2.2.1=x.2.2.2.1)&&true)))):=rfl
 rw[e]
 simp
theorem nG {xs:List Row} (hu:up xs) {c:Change} (hc:ec c=0):im xs c=true↔(if c.1=true then c.2.1 ∈ xs else ∀ r ∈ xs,rk r≠ck c):=by
 unfold im
 cases hw:c.1 with
 | true=>
  have hk:=oC hc hw
  rw[if_pos rfl]
  constructor
  ·intro h
   simp only[Bool.and_eq_true,beq_iff_eq] at h
   obtain ⟨h1,h2⟩:=h
   obtain ⟨hp,_⟩:=ko h1
   rw[h1,List.getElem?_eq_getElem hp] at h2
   simp only[Bool.not_true,Bool.false_or] at h2
   have:=Ho h2
   rw[<-this]
   exact List.getElem_mem hp
  ·intro h
   obtain ⟨i,hi,hx⟩:=List.getElem_of_mem h
   obtain ⟨f1,f2⟩:=oA hu hi (k:=ck c) (by rw[hx];exact hk)
   rw[f1,f2,List.getElem?_eq_getElem hi,hx]
   simp[Hv]
 | false=>
  rw[if_neg (by decide)]
  constructor
  ·intro h r hr he
   obtain ⟨i,hi,hx⟩:=List.getElem_of_mem hr
   have f1:=(oA hu hi (k:=ck c) (by rw[hx];exact he)).1
   rw[f1] at h
   simp at h
  ·intro h
   have:fu xs (ck c)=false:=by
    cases hf:fu xs (ck c) with
    | false=>rfl
    | true=>
     obtain ⟨y,hy,hk⟩:=DO hf
     exact absurd hk (h y hy)
   rw[this]
   rfl
def agree (K:Int×Int->Prop) (s s':List Row):Prop:=∀ r,K (rk r)->(r ∈ s↔r ∈ s')
theorem Fe {K:Int×Int->Prop} {s s':List Row} (hs:up s) (zx:up s') (h:agree K s s') (c:Change):agree K (dQ s c) (dQ s' c):=λr hr=>by
 rw[jY hs,jY zx,h r hr]
theorem Ff {K:Int×Int->Prop} {s s':List Row} (hs:up s) (zx:up s') (h:agree K s s') {c:Change} (hc:ec c=0) (hk:K (ck c)) (hf:im s c=true):im s' c=true:=by
 rw[nG hs hc] at hf
 rw[nG zx hc]
 by_cases hw:c.1=true
 ·rw[if_pos hw] at hf ⊢
  exact (h _ (by rw[oC hc hw];exact hk)).1 hf
 ·rw[if_neg hw] at hf ⊢
  exact λr hr he=>hf r ((h r (by rw[he];exact hk)).2 hr) he
theorem nh {K:Int×Int->Prop}:∀ (cs:List Change) (s s' t:List Row),Good s->Good s'->(∀ c ∈ cs,ec c=0)->(∀ c ∈ cs,K (ck c))->agree K s s'->bd s cs=some t->∃ t',bd s' cs=some t'
 | [],s,s',t,_,_,_,_,_,_=>⟨s',rfl⟩
 | c::cs,s,s',t,hs,zx,hc,hk,h,hb=>by
  simp only[bd] at hb ⊢
  split at hb
  ·rename_i hf
   have oS:=hc c List.mem_cons_self
   rw[if_pos (Ff hs.1 zx.1 h oS (hk c List.mem_cons_self) hf)]
   exact nh cs _ _ t (gk hs oS) (gk zx oS) (λd hd=>hc d (List.mem_cons_of_mem _ hd)) (λd hd=>hk d (List.mem_cons_of_mem _ hd)) (Fe hs.1 zx.1 h c) hb
  ·cases hb
theorem nk:∀ (cs:List Change) (s t:List Row),Good s->(∀ c ∈ cs,ec c=0)->bd s cs=some t->agree (λk=>∀ c ∈ cs,ck c≠k) s t
 | [],s,t,_,_,hb=>by injection hb with hb;subst hb;exact λr _=>Iff.rfl
 | c::cs,s,t,hs,hc,hb=>by
  simp only[bd] at hb
  split at hb
  ·have oS:=hc c List.mem_cons_self
   have ih:=nk cs _ t (gk hs oS) (λd hd=>hc d (List.mem_cons_of_mem _ hd)) hb
   intro r hr
   rw[<-ih r λd hd=>hr d (List.mem_cons_of_mem _ hd),jY hs.1]
   constructor
   ·exact λh=>.inl ⟨h,λe=>hr c List.mem_cons_self e.symm⟩
   ·rintro (h | ⟨hi,rfl⟩)
    ·exact h.1
    ·exact absurd ((lm oS).1 hi).symm (hr c List.mem_cons_self)
  ·cases hb
theorem I2 {rows:List Row} {xs:List Tx} {t:List Row} (hg:Good rows) (hc:∀ x ∈ xs,∀ c ∈ (x.2.1:List Change),ec c=0) (hb:bd rows (dh xs)=some t) {i:Nat} (hi:i < xs.length)
  (hd:∀ j (hj:j < i),∀ c ∈ br xs[j].2.1,∀ d ∈ br xs[i].2.1,ck c≠ck d):∃ t',bd rows (br xs[i].2.1)=some t':=by
 have hx:xs=xs.take i++xs[i]::xs.drop (i+1):=by rw[List.getElem_cons_drop,List.take_append_drop]
 have Sn:dh xs=dh (xs.take i)++(br xs[i].2.1++dh (xs.drop (i+1))):=by
  conv=>lhs;rw[hx]
  unfold dh
  rw[List.flatMap_append,List.flatMap_cons]
 rw[Sn,back_append] at hb
 have Pu:∀ c ∈ dh (xs.take i),ec c=0:=λc h=>by
  unfold dh at h
  obtain ⟨x,hx,hm⟩:=List.mem_flatMap.1 h
  exact fM (hc x (List.mem_of_mem_take hx)) c hm
 cases h1:bd rows (dh (xs.take i)) with
 | none=>rw[h1] at hb;cases hb
 | some s1=>
  rw[h1,Option.bind_some,back_append] at hb
  cases h2:bd s1 (br xs[i].2.1) with
  | none=>rw[h2] at hb;cases hb
  | some s2=>
   have hf:=nk _ rows s1 hg Pu h1
   refine nh (K:=λk=>∀ c ∈ dh (xs.take i),ck c≠k) _ s1 rows s2 (fL _ _ _ hg Pu h1).1 hg (fM (hc _ (List.getElem_mem hi))) (λd So c zm=>?_) (λr hr=>(hf r hr).symm) h2
   unfold dh at zm
   obtain ⟨x,hx,hm⟩:=List.mem_flatMap.1 zm
   obtain ⟨j,hj,Pv⟩:=List.getElem_of_mem hx
   rw[List.length_take] at hj
   rw[List.getElem_take] at Pv
   subst Pv
   exact hd j (by omega) c hm d So
theorem inv_split (cs:List Change) (n:Nat):br cs=br (cs.drop n)++br (cs.take n):=by
 unfold br
 rw[<-List.map_append,<- List.reverse_append,List.take_append_drop]
theorem zO {rows:List Row} {cs:List Change} {t:List Row} (h:bd rows (br cs)=some t) (n:Nat):∃ t',bd rows (br (cs.drop n))=some t':=by
 rw[inv_split cs n,back_append] at h
 cases h1:bd rows (br (cs.drop n)) with
 | none=>rw[h1] at h;cases h
 | some s=>exact ⟨s,rfl⟩
end OT
set_option linter.unusedVariables false
set_option linter.unusedSimpArgs false
namespace OT
open Go
def gX (xs:List Tx) (t:Int):Int:=kq (λx=>decide (x.1=t)) 0 xs
theorem fV (xs:List Tx) (t:Int) (h:xs.length<=1048576):dp.ab (xs,t,())=some (gX xs t,()):=by
 refine ag (k:=xs.length+1) λk hk=>(dp.ae k _).trans ?_
 have:=bI (B:=λself v=>dp.B0 0 self (λz=>dp.Q0 0 (xs,t,()) z) (xs,t,()) v) xs (λ(_:Unit) (i:Int)=>i) (λi _ x=>if decide (x.1=t) then .inl ((i:Int),()) else .inr ()) (λ_=>((-1:Int),())) (λ_ _=>True) (by rw[ak];omega)
  (λi hi s self _=>by
   show dp.b0 _ _ _ _=_
   unfold dp.b0
   have aE:(i:Int) < (xs.length:Int):=by omega
   simp only[aE,decide_true,cond_true,Int.natCast_nonneg,if_true,Int.toNat_natCast,List.getElem?_eq_getElem hi,Option.bind_some]
   cases decide ((xs[i]).1=t) <;> rfl)
  (λ_ _ _ _ _ _=>trivial) (λs self _=>by
   show dp.b0 _ _ _ _=_
   unfold dp.b0
   simp only[Int.lt_irrefl,decide_false,cond_false]
   rfl) () trivial k (by omega)
 rw[ph] at this
 exact this
theorem oD (xs:List Tx) (t:Int) (h:xs.length<=1048576):ek.ab (xs,t,())=some (gX xs t,()):=by
 have h1:∀ x:Tx,ky.ab (x,t,())=some (decide (x.1=t),()):=λx=>by
  refine ag (k:=0) λk _=>(ky.ae k _).trans ?_
  rfl
 have h2:∀ m:Nat,bS.ab (xs,((m,t):Nat×Int),())=some (gX xs t,()):=λm=>by
  refine ag (k:=xs.length+1) λk hk=>(bS.ae k _).trans ?_
  have:=bI (B:=λself v=>bS.B0 0 self (λz=>bS.Q0 0 (xs,((m,t):Nat×Int),()) z) (xs,((m,t):Nat×Int),()) v) xs (λ(_:Unit) (i:Int)=>i) (λi _ x=>if decide (x.1=t) then .inl ((i:Int),()) else .inr ()) (λ_=>((-1:Int),())) (λ_ _=>True) (by rw[ak];omega)
   (λi hi s self _=>by
    show bS.b0 _ _ _ _=_
    unfold bS.b0
    have aE:(i:Int) < (xs.length:Int):=by omega
    simp only[aE,decide_true,cond_true,Int.natCast_nonneg,if_true,Int.toNat_natCast,List.getElem?_eq_getElem hi,Option.bind_some,h1]
    cases decide ((xs[i]).1=t) <;> rfl)
   (λ_ _ _ _ _ _=>trivial) (λs self _=>by
    show bS.b0 _ _ _ _=_
    unfold bS.b0
    simp only[Int.lt_irrefl,decide_false,cond_false]
    rfl) () trivial k (by omega)
  rw[ph] at this
  exact this
 refine ag (k:=0) λk _=>(ek.ae k _).trans ?_
 show ek.p _=_
 unfold ek.p
 rw[h2]
 rfl
end OT
set_option linter.unusedVariables false
set_option linter.unusedSimpArgs false
namespace OT
open Go
def gt (k:Int):Bool:=decide (k=2)||(decide (k=3)||decide (k=4))
def sT (k:Int):Bool:=decide (k=1)||decide (k=9)
abbrev qL:Row:=((0:Int),(0:Int),(0:Int),([]:List UInt8),())
abbrev noChange:Change:=(false,qL,false,qL,())
def ga (o:Op):Int:=
 if !bK o.1 1 9||(sT o.1&&!decide (o.2.1=0))||(!gt o.1&&!Ty.eq aj o.2.2.1 ((0:Int),(0:Int),(0:Int),([]:List UInt8),()))||(!decide (o.1=6)&&!decide (o.2.2.2.1=0))||(decide (o.1=4)&&!(decide (o.2.2.1.2.2.1=0)&&decide (o.2.2.1.2.2.2.1=([]:List UInt8)))) then 1
 else if (!sT o.1&&!bK o.2.1 1 99)||!bK o.2.2.2.1 0 7 then 3
 else if gt o.1 then cY o.2.2.1 else 0
theorem I3 (k:Int):gB.ab (k,())=some (gt k,()):=by
 refine ag (k:=0) λf _=>(gB.ae f _).trans ?_
 grind [gB.p,gt]
theorem uu (k:Int):eG.ab (k,())=some (gt k,()):=by
 refine ag (k:=0) λf _=>(eG.ae f _).trans ?_
 show eG.p _=_
 unfold eG.p gt
 simp only[je,Option.bind_some]
 congr 2
 grind
theorem Fg (o:Op) (h:rl o.2.2.1):gQ.ab (o,())=some (ga o,()):=by
 refine ag (k:=0) λf _=>(gQ.ae f _).trans ?_
 show gQ.p _=_
 unfold gQ.p ga sT bK
 simp only[kU,DN,I3,pc _ h,Option.bind_some]
 grind
theorem C5 (o:Op):gK.ab (o,())=some (!(!bK o.1 1 9||(sT o.1&&!decide (o.2.1=0))||(!gt o.1&&!Ty.eq aj o.2.2.1 ((0:Int),(0:Int),(0:Int),([]:List UInt8),()))||(!decide (o.1=6)&&!decide (o.2.2.2.1=0))||(decide (o.1=4)&&!(decide (o.2.2.1.2.2.1=0)&&decide (o.2.2.1.2.2.2.1=([]:List UInt8))))),()):=by
 refine ag (k:=0) λf _=>(gK.ae f _).trans ?_
 show gK.p _=_
 unfold gK.p sT bK
 have h4:decide (o.1=4)=true->gt o.1=true:=λh=>by grind [gt]
 simp only[je,uu,Option.bind_some]
 generalize (decide ((1:Int)<=o.1)&&decide (o.1<=9))=b1
 generalize decide (o.1=1)=b2
 generalize decide (o.1=9)=b3
 generalize decide (o.1=4)=b4 at *
 generalize decide (o.1=6)=b5
 generalize gt o.1=b6 at *
 generalize decide (o.2.1=0)=b7
 generalize Ty.eq aj o.2.2.1 ((0:Int),(0:Int),(0:Int),([]:List UInt8),())=b8
 generalize decide (o.2.2.2.1=0)=b9
 generalize decide (o.2.2.1.2.2.1=0)=c1
 generalize decide (o.2.2.1.2.2.2.1=([]:List UInt8))=c2
 cases b1
 ·rfl
 cases b4
 ·cases b2 <;> cases b3 <;> cases b7 <;> cases b6 <;> cases b8 <;> cases b5 <;> cases b9 <;> rfl
 ·have:=h4 rfl
  subst this
  cases b2 <;> cases b3 <;> cases b7 <;> cases b8 <;> cases b5 <;> cases b9 <;> cases c1 <;> cases c2 <;> rfl
theorem Hw (o:Op) (h:rl o.2.2.1):jb.ab (o,())=some (ga o,()):=by
 refine ag (k:=0) λf _=>(jb.ae f _).trans ?_
 show jb.p _=_
 unfold jb.p ga
 rw[C5]
 simp only[Option.bind_some]
 generalize (!bK o.1 1 9||(sT o.1&&!decide (o.2.1=0))||(!gt o.1&&!Ty.eq aj o.2.2.1 ((0:Int),(0:Int),(0:Int),([]:List UInt8),()))||(!decide (o.1=6)&&!decide (o.2.2.2.1=0))||(decide (o.1=4)&&!(decide (o.2.2.1.2.2.1=0)&&decide (o.2.2.1.2.2.2.1=([]:List UInt8)))))=b0
 unfold sT bK
 simp only[je,uu,pa _ h,Option.bind_some]
 grind
theorem Ln {o:Op} (h:ga o=0) (hr:gt o.1=true):cY o.2.2.1=0:=by
 grind [ga]
theorem zP {o:Op} (h:ga o=0):bK o.1 1 9=true/\bK o.2.2.2.1 0 7=true:=by
 grind [ga]
def wo (c:Change) (x:Row):Bool:=decide (x.1=(ck c).2)&&(!decide (x.1=0)&&(!c.2.2.1||decide (c.2.2.2.1.2.2.1 < (List.length x.2.2.2.1:Int))))
def B7 (xs:List Row) (c:Change):Int:=
 if c.2.2.1&&(!bK (ck c).2 1 3||(decide (8 < c.2.2.2.1.2.2.1)||!decide (c.2.2.2.1.2.2.2.1=([]:List UInt8)))) then 10 else if xs.any (wo c) then 8 else 0
def nl (xs:List Row) (t:Int):Int×Bool:=match xs.find? λx=>decide (x.1=0)&&decide (x.2.1=t) with
 | some x=>(x.2.2.1,true)
 | none=>(0,false)
def uw (xs:List Row) (c:Change):Int:=
 if (ck c).1=0 then B7 xs c else if c.2.2.1 then (if (nl xs (ck c).1).2 then (if (nl xs (ck c).1).1 < (List.length c.2.2.2.1.2.2.2.1:Int) then 10 else 0) else 4) else 0
theorem Fh (xs:List Row) (c:Change) (hl:xs.length<=1048576):db.ab (xs,c,())=some (B7 xs c,()):=by
 refine ag (k:=1048577) λk hk=>(db.ae k _).trans ?_
 unfold db.p
 have lp:db.r0 k (xs,c,()) (ck c).2 (0:Int)=some (if xs.any (wo c) then 8 else 0,()):=by
  have:=bI (B:=λself v=>db.B0 0 self (λz=>db.Q0 0 (xs,c,()) (ck c).2 z) (xs,c,()) (ck c).2 v) xs (λ(_:Unit) (i:Int)=>i) (λ_ _ x=>if wo c x then .inl ((8:Int),()) else .inr ()) (λ_=>((0:Int),())) (λ_ _=>True) (by rw[ak];omega)
   (λi hi s self _=>by
    grind [db.b0,wo])
   (λ_ _ _ _ _ _=>trivial) (λs self _=>by
    show db.b0 _ _ _ _ _=_
    unfold db.b0
    simp only[Int.lt_irrefl,decide_false,cond_false]
    rfl) () trivial k (by omega)
  rw[jo] at this
  refine Eq.trans this ?_
  grind
 grind [pe,je,B7,bK]
theorem C6 (xs:List Row) (c:Change) (hl:xs.length<=1048576):cO.ab (xs,c,())=some (B7 xs c,()):=by
 refine ag (k:=1048577) λk hk=>(cO.ae k _).trans ?_
 unfold cO.p
 have lp:cO.r0 k (xs,c,()) (0:Int)=some (if xs.any (wo c) then 8 else 0,()):=by
  have:=bI (B:=λself v=>cO.B0 0 self (λz=>cO.Q0 0 (xs,c,()) z) (xs,c,()) v) xs (λ(_:Unit) (i:Int)=>i) (λ_ _ x=>if wo c x then .inl ((8:Int),()) else .inr ()) (λ_=>((0:Int),())) (λ_ _=>True) (by rw[ak];omega)
   (λi hi s self _=>by
    grind [cO.b0,wo,qH,nf])
   (λ_ _ _ _ _ _=>trivial) (λs self _=>by
    show cO.b0 _ _ _ _=_
    unfold cO.b0
    simp only[Int.lt_irrefl,decide_false,cond_false]
    rfl) () trivial k (by omega)
  rw[jo] at this
  refine Eq.trans this ?_
  grind
 grind [kU,B7,bK,ck]
theorem Fl (xs:List Row) (t:Int) (hl:xs.length<=1048576):eY.ab (xs,t,())=some ((nl xs t).1,(nl xs t).2,()):=by
 refine ag (k:=1048577) λk hk=>(eY.ae k _).trans ?_
 have:=bI (B:=λself v=>eY.B0 0 self (λz=>eY.Q0 0 (xs,t,()) z) (xs,t,()) v) xs (λ(_:Unit) (i:Int)=>i) (λ_ _ x=>if decide (x.1=0)&&decide (x.2.1=t) then .inl (x.2.2.1,true,()) else .inr ()) (λ_=>((0:Int),false,())) (λ_ _=>True) (by rw[ak];omega)
  (λi hi s self _=>by
   grind [eY.b0])
  (λ_ _ _ _ _ _=>trivial) (λs self _=>by
   show eY.b0 _ _ _ _=_
   unfold eY.b0
   simp only[Int.lt_irrefl,decide_false,cond_false]
   rfl) () trivial k (by omega)
 refine Eq.trans this ?_
 have main:∀ (xs:List Row) (i:Nat),aX (λ_ (_:Unit) x=>if decide (x.1=0)&&decide (x.2.1=t) then .inl (x.2.2.1,true,()) else .inr ()) (λ_=>((0:Int),false,())) i xs ()=((nl xs t).1,(nl xs t).2,()):=by
  intro xs
  induction xs <;> grind [aX,nl]
 rw[main]
theorem DV {xs:List Row} (hu:up xs) (t:Int):nl xs t=if fu xs (0,t) then ((xs[pos xs (0,t)]?.map λx=>x.2.2.1).getD 0,true) else (0,false):=by
 have key:(λx:Row=>decide (x.1=0)&&decide (x.2.1=t))=λx=>decide (rk x=(0,t)):=by
  grind [rk]
 unfold nl
 rw[key]
 cases hf:fu xs (0,t) with
 | true=>
  obtain ⟨hp,he⟩:=ko hf
  have:xs.find? (λx=>decide (rk x=(0,t)))=some xs[pos xs (0,t)]:=by
   rw[List.find?_eq_some_iff_getElem]
   refine ⟨by simp[he],pos xs (0,t),hp,rfl,λj hj=>?_⟩
   have:=rL xs (0,t) j (by omega) hj
   grind [lS]
  grind
 | false=>
  have:xs.find? (λx=>decide (rk x=(0,t)))=none:=by
   rw[List.find?_eq_none]
   intro x hx
   simp only[decide_eq_true_eq]
   intro e
   obtain ⟨i,hi,rfl⟩:=List.mem_iff_getElem.1 hx
   have h1:fu xs (0,t)=true:=by
    rcases Nat.lt_trichotomy (pos xs (0,t)) i with h | h | h
    ·grind [oy,up,List.pairwise_iff_getElem]
    ·grind [fu]
    ·exfalso
     have:=rL xs (0,t) i hi h
     grind [lS]
   grind
  rw[this]
  rfl
theorem C7 (xs:List Row) (t:Int) (hu:up xs) (hl:xs.length<=1048576) (hv:∀ x ∈ xs,0<=x.2.2.1):gw.ab (xs,t,())=some (if (nl xs t).2 then (nl xs t).1 else -1,()):=by
 refine ag (k:=0) λk hk=>(gw.ae k _).trans ?_
 grind [gw.p,oz,DV,lw,ko]
theorem I4 (xs:List Row) (c:Change) (hl:xs.length<=1048576):jd.ab (xs,c,())=some (uw xs c,()):=by
 refine ag (k:=0) λk hk=>(jd.ae k _).trans ?_
 grind [jd.p,uw,ck,qH,nf,C6,Fl]
theorem Fm (xs:List Row) (c:Change) (hu:up xs) (hl:xs.length<=1048576) (hv:∀ x ∈ xs,0<=x.2.2.1):jc.ab (xs,c,())=some (uw xs c,()):=by
 refine ag (k:=0) λk hk=>(jc.ae k _).trans ?_
 show jc.p _=_
 unfold jc.p uw
 simp only[pe,Fh xs c hl,C7 xs _ hu hl hv,Option.bind_some]
 grind [DV]
end OT
set_option linter.unusedVariables false
set_option linter.unusedSimpArgs false
namespace OT
open Go
def nm (k l:Key):Bool:=decide (l=k)||((decide (l.1=0)&&decide (l.2.1=k.1))||(decide (k.1=0)&&decide (l.1=k.2.1)))
def pj (xs:List Tx) (t:Int) (k:Key):Bool:=xs.any λx=>!decide (x.1=t)&&x.2.2.2.1.any (nm k)
theorem C8 (xs:List Tx) (t:Int) (k0:Key) (h:gy xs):bP.ab (xs,t,k0,())=some (pj xs t k0,()):=by
 obtain ⟨h1,h2⟩:=h
 refine ag (k:=1048577) λk hk=>(bP.ae k _).trans ?_
 have inner:∀ (self:((List Tx)×Int×Key×Int)->Option bP.Out) (e0:(Unit)->Option bP.Out) (i:Nat) (hi:i < xs.length),bP.r1 k self e0 (xs,t,k0,()) xs t k0 (i:Int) (0:Int)=if (xs[i]).2.2.2.1.any (nm k0) then some (true,()) else self (xs,t,k0,al ((i:Int)+1)):=λself e0 i hi=>by
  have xM:=(h2 _ (List.getElem_mem hi)).2.2.1
  have:=dI (B:=λfa v=>bP.B1 k fa (λz=>bP.Q0 k self e0 (xs,t,k0,()) xs t k0 (i:Int) z) (xs,t,k0,()) xs t k0 (i:Int) v) (xs[i]).2.2.2.1 (λ(_:Unit) (j:Int)=>j) (λ_ _ l=>if nm k0 l then .inl (some (true,())) else .inr ()) (λ_=>self (xs,t,k0,al ((i:Int)+1))) (λ_ _=>True) (by rw[ak];omega)
   (λj hj s fa _=>by
    grind [bP.b1,nm,Int.natCast_nonneg,Int.toNat_natCast,nU])
   (λ_ _ _ _ _ _=>trivial) (λs fa _=>by
    show bP.b1 _ _ _ _ _ _ _ _=_
    unfold bP.b1
    simp only[Int.natCast_nonneg,if_true,Int.toNat_natCast,List.getElem?_eq_getElem hi,Option.bind_some,Int.lt_irrefl,decide_false,cond_false]
    rfl) () trivial k (by omega)
  rw[jo] at this
  exact this
 have:=dI (B:=λself v=>bP.B0 k self (λz=>bP.Q1 k (xs,t,k0,()) z) (xs,t,k0,()) v) xs (λ(_:Unit) (i:Int)=>(xs,t,k0,i)) (λ_ _ x=>if !decide (x.1=t)&&x.2.2.2.1.any (nm k0) then .inl (some (true,())) else .inr ()) (λ_=>some (false,())) (λ_ _=>True) (by rw[ak];omega)
  (λi hi s self _=>by
   show bP.b0 _ _ _ _ _=_
   grind [bP.b0])
  (λ_ _ _ _ _ _=>trivial) (λs self _=>by
   show bP.b0 _ _ _ _ _=_
   unfold bP.b0
   simp only[Int.lt_irrefl,decide_false,cond_false]
   rfl) () trivial k (by omega)
 rw[jo] at this
 refine Eq.trans this ?_
 grind [pj]
def aS (rows:List Row) (o:Op):Change×Int:=
 let k:=(o.2.2.1.1,o.2.2.1.2.1)
 if decide (o.1=2)&&fu rows k then (noChange,6)
 else if !decide (o.1=2)&&!fu rows k then (noChange,4)
 else ((fu rows k,(if fu rows k then (rows[pos rows k]?).getD qL else qL),!decide (o.1=4),(if decide (o.1=4) then qL else o.2.2.1),()),0)
theorem C9 (rows:List Row) (o:Op) (hu:up rows) (hl:rows.length<=1048576):fK.ab (rows,o,())=some ((aS rows o).1,(aS rows o).2,()):=by
 refine ag (k:=0) λk hk=>(fK.ae k _).trans ?_
 show fK.p _=_
 unfold fK.p aS
 rw[oz rows _ _ hu (by omega)]
 simp only[Option.bind_some]
 unfold lw
 grind [ko]
theorem Lo {x:Row} (h:cY x=0):0<=x.2.2.1:=by
 grind [cY,bK]
abbrev dX (c:Int):aK:=(c,false,noChange,())
def h_ (rows:List Row) (xs:List Tx) (o:Op):aK:=
 let k:Key:=(o.2.2.1.1,o.2.2.1.2.1,())
 if pj xs o.2.1 k then dX 7
 else if (aS rows o).2=0 then
  if uw rows (aS rows o).1=0 then
   if decide (12 < lO rows xs k)||decide (12<=fd xs) then dX 9
   else if (aS rows o).1.1&&((aS rows o).1.2.2.1&&Ty.eq aj (aS rows o).1.2.1 (aS rows o).1.2.2.2.1) then dX 0
   else (0,true,(aS rows o).1,())
  else dX (uw rows (aS rows o).1)
 else dX (aS rows o).2
theorem wr (c:Int):bX.ab (c,())=some (dX c,()):=by
 refine ag (k:=0) λk hk=>(bX.ae k _).trans ?_
 rfl
theorem Af (rows:List Row) (xs:List Tx) (o:Op) (hg:Good rows) (hl:rows.length<=60) (ht:gy xs) (hx:kD xs):et.ab (rows,xs,o,())=some (h_ rows xs o,()):=by
 refine ag (k:=0) λk hk=>(et.ae k _).trans ?_
 show et.p _=_
 unfold et.p h_
 have Nr:=hx.len
 have hv:∀ x ∈ rows,0<=x.2.2.1:=λx hm=>Lo (hg.ok x hm)
 simp only[C8 xs _ _ ht,wr,C9 rows o hg.up (by omega),Fm rows _ hg.up (by omega) hv,uq rows xs _ (by omega) (by omega) (λx hm=>by have:=hx.qK x hm;omega),um xs ht,Option.bind_some]
 grind
def xQ (rows:List Row) (xs:List Tx) (k:Key) (c:Change):aK:=
 if uw rows c=0 then
  if decide (12 < lO rows xs k)||decide (12<=fd xs) then dX 9
  else if c.1&&(c.2.2.1&&Ty.eq aj c.2.1 c.2.2.2.1) then dX 0
  else (0,true,c,())
 else dX (uw rows c)
theorem C_ (rows:List Row) (xs:List Tx) (o:Op):h_ rows xs o=if pj xs o.2.1 (o.2.2.1.1,o.2.2.1.2.1,()) then dX 7 else if (aS rows o).2=0 then xQ rows xs (o.2.2.1.1,o.2.2.1.2.1,()) (aS rows o).1 else dX (aS rows o).2:=rfl
theorem I5 (rows:List Row) (xs:List Tx) (kk:Key) (hk:¬ kk.2.1=0) (hl:rows.length<=1048576) (ht:gy xs) (c:Change):((jd.ab (rows,c,())).bind λxH=>bif !decide (xH.1=(0:Int)) then (some (dX xH.1,())) else (bc.ab (rows,xs,())).bind λE5=>bif decide ((12:Int) < ((gr aF E5.1 kk true).length:Int)) then (some (dX 9,())) else (cG.ab (xs,())).bind λE6=>bif decide ((12:Int)<=E6.1) then (some (dX 9,())) else bif c.1 then (bif c.2.2.1 then (bif (Ty.eq aj c.2.1 c.2.2.2.1) then (some (dX 0,())) else some (((0:Int),true,c,()),())) else some (((0:Int),true,c,()),())) else some (((0:Int),true,c,()),()))=some (xQ rows xs kk c,()):=by
 unfold xQ
 have hr:(gr aF (cU (dd [] (eh rows xs))) kk true).length=lO rows xs kk:=by
  have h1:gr aF (cU (dd [] (eh rows xs))) kk true=cU (dd [] (eh rows xs++[kk])):=by
   refine (BY _ _).trans ?_
   rw[zL]
   rfl
  rw[h1]
  unfold lO qJ
  rw[if_neg hk]
  exact List.length_map ..
 grind [I4,zM,qg]
theorem B8 (rows:List Row) (xs:List Tx) (o:Op) (hg:Good rows) (hl:rows.length<=60) (ht:gy xs) (hx:kD xs) (hk:¬ o.2.2.1.2.1=0):aQ.ab (rows,xs,o,())=some (h_ rows xs o,()):=by
 refine ag (k:=1048577) λk fg=>(aQ.ae k _).trans ?_
 rw[C_]
 have hq:∀ (k:Nat),aQ.Q1 k (rows,xs,o,()) (rows,xs,o,dX 0,(o.2.2.1.1,o.2.2.1.2.1,()))=some (if (aS rows o).2=0 then xQ rows xs (o.2.2.1.1,o.2.2.1.2.1,()) (aS rows o).1 else dX (aS rows o).2,()):=λk=>by
  show aQ.q1 _ _=_
  unfold aQ.q1 aS
  have hs:=λf:Nat×Int=>ug rows o.2.2.1 f hg.up (by omega)
  have e:rk o.2.2.1=(o.2.2.1.1,o.2.2.1.2.1):=rfl
  simp only[e] at hs
  have tl:=I5 rows xs (o.2.2.1.1,o.2.2.1.2.1,()) hk (by omega) ht
  simp only[hs,Option.bind_some]
  generalize decide (o.1=2)=d2
  generalize decide (o.1=4)=d4
  cases hf:fu rows (o.2.2.1.1,o.2.2.1.2.1) with
  | false=>
   cases d2
   ·rfl
   ·cases d4
    all_goals grind
  | true=>
   obtain ⟨hp,he⟩:=ko hf
   simp only[Int.natCast_nonneg,if_true,Int.toNat_natCast,List.getElem?_eq_getElem hp,Option.bind_some,Option.getD_some]
   cases d2
   ·cases d4
    ·exact tl _
    ·exact tl _
   ·rfl
 have inner:∀ (self:((List Row)×(List Tx)×Op×aK×Key×(List Tx)×Int×Int)->Option aQ.Out) (e0:((List Row)×(List Tx)×Op×aK×Key)->Option aQ.Out) (i:Nat) (hi:i < xs.length),aQ.r1 k self e0 (rows,xs,o,()) rows xs o (dX 0) (o.2.2.1.1,o.2.2.1.2.1,()) xs (xs.length:Int) (i:Int) (xs[i]).2.2.2.1 (List.length (xs[i]).2.2.2.1:Int) (0:Int)=if (xs[i]).2.2.2.1.any (nm (o.2.2.1.1,o.2.2.1.2.1,())) then some (dX 7,()) else self (rows,xs,o,dX 0,(o.2.2.1.1,o.2.2.1.2.1,()),xs,(xs.length:Int),al ((i:Int)+1)):=λself e0 i hi=>by
  have xM:=(ht.2 _ (List.getElem_mem hi)).2.2.1
  have Ov:=hx.keys _ (List.getElem_mem hi)
  have:=dI (B:=λfa v=>aQ.B1 k fa (λz=>aQ.Q0 k self e0 (rows,xs,o,()) rows xs o (dX 0) (o.2.2.1.1,o.2.2.1.2.1,()) xs (xs.length:Int) (i:Int) (xs[i]).2.2.2.1 (List.length (xs[i]).2.2.2.1:Int) z) (rows,xs,o,()) rows xs o (dX 0) (o.2.2.1.1,o.2.2.1.2.1,()) xs (xs.length:Int) (i:Int) (xs[i]).2.2.2.1 (List.length (xs[i]).2.2.2.1:Int) v) (xs[i]).2.2.2.1 (λ(_:Unit) (j:Int)=>j) (λ_ _ l=>if nm (o.2.2.1.1,o.2.2.1.2.1,()) l then .inl (some (dX 7,())) else .inr ()) (λ_=>self (rows,xs,o,dX 0,(o.2.2.1.1,o.2.2.1.2.1,()),xs,(xs.length:Int),al ((i:Int)+1))) (λ_ _=>True) (by rw[ak];omega)
   (λj hj s fa _=>by
    show aQ.b1 _ _ _ _ _ _ _ _ _ _ _ _ _ _=_
    unfold aQ.b1 nm
    have aE:(j:Int) < (List.length (xs[i]).2.2.2.1:Int):=by omega
    have Bp:=Ov _ (List.getElem_mem hj)
    simp only[Int.natCast_nonneg,if_true,Int.toNat_natCast,Option.bind_some,aE,decide_true,cond_true,List.getElem?_eq_getElem hj,nU]
    generalize (xs[i]).2.2.2.1[j]=l at Bp
    obtain ⟨l1,l2,⟨⟩⟩:=l
    have of:¬ l2=0:=by
     grind [lN,bK]
    generalize o.2.2.1.1=k1
    generalize o.2.2.1.2.1=k2
    have e1:decide (((l1,l2,()):Key)=(k1,k2,()))=(decide (l1=k1)&&decide (l2=k2)):=by
     rw[Bool.eq_iff_iff];simp
    have e2:decide (((l1,l2,()):Key)=((0:Int),k1,()))=(decide (l1=0)&&decide (l2=k1)):=by
     rw[Bool.eq_iff_iff];simp
    have e3:Ty.eq aF ((l1,l2,()):Key) ((0:Int),k1,())=(decide (l1=0)&&decide (l2=k1)):=(nU _ _).trans e2
    grind)
   (λ_ _ _ _ _ _=>trivial) (λs fa _=>by
    show aQ.b1 _ _ _ _ _ _ _ _ _ _ _ _ _ _=_
    unfold aQ.b1
    simp only[Int.lt_irrefl,decide_false,cond_false]
    rfl) () trivial k (by omega)
  rw[jo] at this
  exact this
 have:=dI (B:=λself v=>aQ.B0 k self (λz=>aQ.Q1 k (rows,xs,o,()) z) (rows,xs,o,()) v) xs (λ(_:Unit) (i:Int)=>(rows,xs,o,dX 0,(o.2.2.1.1,o.2.2.1.2.1,()),xs,(xs.length:Int),i)) (λ_ _ x=>if !decide (x.1=o.2.1)&&x.2.2.2.1.any (nm (o.2.2.1.1,o.2.2.1.2.1,())) then .inl (some (dX 7,())) else .inr ()) (λ_=>some (if (aS rows o).2=0 then xQ rows xs (o.2.2.1.1,o.2.2.1.2.1,()) (aS rows o).1 else dX (aS rows o).2,())) (λ_ _=>True) (by rw[ak];have:=ht.1;omega)
  (λi hi s self _=>by
   show aQ.b0 _ _ _ _ _=_
   grind [aQ.b0,Int.toNat_natCast])
  (λ_ _ _ _ _ _=>trivial) (λs self _=>by
   show aQ.b0 _ _ _ _ _=_
   simp_all [aQ.b0]) () trivial k (by have:=ht.1;omega)
 rw[jo] at this
 refine Eq.trans this ?_
 grind [pj]
end OT
set_option linter.unusedVariables false
set_option linter.unusedSimpArgs false
namespace OT
open Go
def lI (xs:List Tx) (t:Int):Int:=match xs[(gX xs t).toNat]? with
 | some x=>(List.length x.2.2.1:Int)
 | none=>0
def eN (rows:List Row) (xs:List Tx) (o:Op):aK:=
 if o.1=1 then (if decide (4<=xs.length) then dX 2 else dX 0)
 else if o.1=9 then dX 0
 else if gX xs o.2.1 < 0 then dX 4
 else if o.1=5 then (if decide (8<=lI xs o.2.1) then dX 2 else dX 0)
 else if o.1=6 then (if decide (lI xs o.2.1<=o.2.2.2.1) then dX 3 else dX 0)
 else if gt o.1 then h_ rows xs o else dX 0
def cP (rows:List Row) (xs:List Tx) (o:Op):aK:=
 if dR rows=0 then (if du xs=0 then (if ga o=0 then eN rows xs o else dX (ga o)) else dX (du xs)) else dX (dR rows)
theorem at_mem {xs:List Tx} {t:Int} (h:¬ gX xs t < 0):∃ (j:Nat) (hj:j < xs.length),gX xs t=(j:Int)/\(xs[j]).1=t:=by
 obtain ⟨j,hj,h1,h2⟩:=sO (λx:Tx=>decide (x.1=t)) xs 0 (by unfold gX at h;omega)
 exact ⟨j,hj,by unfold gX;rw[h1,Nat.zero_add],of_decide_eq_true h2⟩
theorem kinds {k:Int} (h:bK k 1 9=true):k=1\/k=2\/k=3\/k=4\/k=5\/k=6\/k=7\/k=8\/k=9:=by
 unfold bK at h
 simp only[Bool.and_eq_true,decide_eq_true_eq] at h
 omega
theorem ux (rows:List Row) (xs:List Tx) (o:Op) (hg:Good rows) (hl:rows.length<=60) (ht:gy xs) (hx:kD xs) (ho:bK o.1 1 9=true):eE.ab (rows,xs,o,())=some (eN rows xs o,()):=by
 refine ag (k:=0) λk hk=>(eE.ae k _).trans ?_
 show eE.p _=_
 unfold eE.p eN
 have Nr:=hx.len
 have h4:decide ((4:Int)<=(xs.length:Int))=decide (4<=xs.length):=by
  by_cases h:4<=xs.length
  ·have:(4:Int)<=(xs.length:Int):=by omega
   simp[h,this]
  ·have:¬ (4:Int)<=(xs.length:Int):=by omega
   simp[h,this]
 simp only[wr,fV xs _ ht.1,Af rows xs o hg hl ht hx,Option.bind_some,h4]
 by_cases ha:gX xs o.2.1 < 0
 ·simp only[ha,decide_true,cond_true,if_true]
  rcases kinds ho with e | e | e | e | e | e | e | e | e <;> rw[e] <;> first | rfl | (cases decide (4<=xs.length) <;> rfl)
 ·obtain ⟨j,hj,e,_⟩:=at_mem ha
  have hm:lI xs o.2.1=(List.length (xs[j]).2.2.1:Int):=by unfold lI;rw[e,Int.toNat_natCast,List.getElem?_eq_getElem hj]
  rw[hm]
  simp only[ha,decide_false,cond_false,if_false,e,Int.natCast_nonneg,if_true,Int.toNat_natCast,List.getElem?_eq_getElem hj,Option.bind_some]
  rcases kinds ho with e | e | e | e | e | e | e | e | e <;> rw[e] <;> first | rfl | (cases decide (4<=xs.length) <;> rfl) | (cases decide ((8:Int)<=(List.length (xs[j]).2.2.1:Int)) <;> rfl) | (cases decide ((List.length (xs[j]).2.2.1:Int)<=o.2.2.2.1) <;> rfl)
theorem xR (rows:List Row) (xs:List Tx) (o:Op) (hl:rows.length<=1048576) (hr:∀ x ∈ rows,rl x) (ht:gy xs) (ho:rl o.2.2.1):gL.ab (rows,xs,o,())=some (cP rows xs o,()):=by
 refine ag (k:=0) λk hk=>(gL.ae k _).trans ?_
 show gL.p _=_
 unfold gL.p cP
 simp only[vB rows (by rw[ak];omega) hr,xO xs ht,Hw o ho,wr,Option.bind_some]
 by_cases h1:dR rows=0
 rotate_left
 ·simp only[h1,decide_false,Bool.not_false,cond_true,if_false]
 by_cases h2:du xs=0
 rotate_left
 ·simp only[h1,h2,decide_true,decide_false,Bool.not_true,Bool.not_false,cond_true,cond_false,if_true,if_false]
 by_cases h3:ga o=0
 rotate_left
 ·simp only[h1,h2,h3,decide_true,decide_false,Bool.not_true,Bool.not_false,cond_true,cond_false,if_true,if_false]
 simp only[h1,h2,h3,decide_true,Bool.not_true,cond_false,if_true]
 rw[ux rows xs o (gC h1).1 (gC h1).2 ht (eo h2) (zP h3).1]
 rfl
theorem xS (rows:List Row) (xs:List Tx) (o:Op) (hl:rows.length<=1048576) (hr:∀ x ∈ rows,rl x) (ht:gy xs) (ho:rl o.2.2.1):cM.ab (rows,xs,o,())=some (cP rows xs o,()):=by
 refine ag (k:=5) λk hk=>(cM.ae k _).trans ?_
 unfold cM.p
 simp only[rj rows (by rw[ak];omega) hr,sP xs ht,Fg o ho,Option.bind_some]
 have hq:dR rows=0->du xs=0->ga o=0->∀ (k:Nat) (z:Unit),cM.Q0 k (rows,xs,o,()) [dR rows,du xs,ga o] ([dR rows,du xs,ga o].length:Int) z=some (eN rows xs o,()):=λh1 h2 h3 k z=>by
  show cM.q0 _ _ _ _=_
  unfold cM.q0 eN
  have hx:=eo h2
  have hg:=(gC h1).1
  have hl:=(gC h1).2
  have Pw:=(zP h3).1
  have h4:decide ((4:Int)<=(xs.length:Int))=decide (4<=xs.length):=by
   by_cases h:4<=xs.length
   ·have:(4:Int)<=(xs.length:Int):=by omega
    simp[h,this]
   ·have:¬ (4:Int)<=(xs.length:Int):=by omega
    simp[h,this]
  have I6:gt o.1=true->aQ.ab (rows,xs,o,())=some (h_ rows xs o,()):=λzQ=>B8 rows xs o hg hl ht hx (by
   have:=Ln h3 zQ
   unfold cY at this
   split at this
   ·rename_i h5
    simp only[bK,Bool.and_eq_true,decide_eq_true_eq] at h5
    omega
   ·cases this)
  simp only[oD xs _ ht.1,Option.bind_some,h4]
  by_cases ha:gX xs o.2.1 < 0
  ·simp only[ha,decide_true,cond_true,if_true]
   rcases kinds Pw with e | e | e | e | e | e | e | e | e <;> rw[e] <;> first | rfl | (cases decide (4<=xs.length) <;> rfl)
  ·obtain ⟨j,hj,e,_⟩:=at_mem ha
   have hm:lI xs o.2.1=(List.length (xs[j]).2.2.1:Int):=by unfold lI;rw[e,Int.toNat_natCast,List.getElem?_eq_getElem hj]
   rw[hm]
   simp only[ha,decide_false,cond_false,if_false,e,Int.natCast_nonneg,if_true,Int.toNat_natCast,List.getElem?_eq_getElem hj,Option.bind_some]
   rcases kinds Pw with e | e | e | e | e | e | e | e | e
   ·rw[e];cases decide (4<=xs.length) <;> rfl
   ·rw[I6 (by rw[e];rfl),e];rfl
   ·rw[I6 (by rw[e];rfl),e];rfl
   ·rw[I6 (by rw[e];rfl),e];rfl
   ·rw[e];cases decide ((8:Int)<=(List.length (xs[j]).2.2.1:Int)) <;> rfl
   ·rw[e];cases decide ((List.length (xs[j]).2.2.1:Int)<=o.2.2.2.1) <;> rfl
   ·rw[e];rfl
   ·rw[e];rfl
   ·rw[e];rfl
 have:=dI (B:=λself v=>cM.B0 k self (λz=>cM.Q0 k (rows,xs,o,()) [dR rows,du xs,ga o] ([dR rows,du xs,ga o].length:Int) z) (rows,xs,o,()) [dR rows,du xs,ga o] ([dR rows,du xs,ga o].length:Int) v) [dR rows,du xs,ga o] (λ(_:Unit) (i:Int)=>i) (λ_ _ x=>if x=0 then .inr () else .inl (some (dX x,()))) (λ_=>cM.Q0 k (rows,xs,o,()) [dR rows,du xs,ga o] ([dR rows,du xs,ga o].length:Int) ()) (λ_ _=>True) (by rw[ak];simp)
  (λi hi s self _=>by
   show cM.b0 _ _ _ _ _ _=_
   unfold cM.b0
   have aE:(i:Int) < ([dR rows,du xs,ga o].length:Int):=by omega
   have cw:(0:Int)<=(i:Int)/\(i:Int) < ([dR rows,du xs,ga o].length:Int):=by omega
   simp only[aE,cw,and_self,decide_true,cond_true,if_true,Int.toNat_natCast,List.getElem?_eq_getElem hi,Option.bind_some]
   by_cases h0:[dR rows,du xs,ga o][i]=0
   ·simp only[h0,decide_true,Bool.not_true,cond_false,if_true]
   ·simp only[h0,decide_false,Bool.not_false,cond_true,if_false])
  (λ_ _ _ _ _ _=>trivial) (λs self _=>by
   show cM.b0 _ _ _ _ _ _=_
   unfold cM.b0
   simp only[Int.lt_irrefl,decide_false,cond_false]) () trivial k (by simp;omega)
 refine Eq.trans this ?_
 unfold cP
 simp only[aX]
 by_cases h1:dR rows=0
 rotate_left
 ·simp only[h1,if_false]
 by_cases h2:du xs=0
 rotate_left
 ·simp only[h1,h2,if_true,if_false]
 by_cases h3:ga o=0
 rotate_left
 ·simp only[h1,h2,h3,if_true,if_false]
 have:=hq h1 h2 h3 k ()
 rw[if_pos h1]
 simp only
 rw[if_pos h2]
 simp only
 rw[if_pos h3]
 simp only
 rw[this,if_pos h1,if_pos h2,if_pos h3]
end OT
set_option linter.unusedVariables false
set_option linter.unusedSimpArgs false
namespace OT
open Go
theorem Da (xs:List Tx) (k0:Key) (h:gy xs):ft.ab (xs,k0,())=some (fP xs k0,()):=by
 obtain ⟨h1,h2⟩:=h
 refine ag (k:=xs.length+1) λk hk=>(ft.ae k _).trans ?_
 have:=bI (B:=λself v=>ft.B0 0 self (λz=>ft.Q0 0 (xs,k0,()) z) (xs,k0,()) v) xs (λ(_:Unit) (i:Int)=>i) (λ_ _ x=>if cq x.2.2.2.1 k0 then .inl (x.1,()) else .inr ()) (λ_=>(0,())) (λ_ _=>True) (by rw[ak];omega)
  (λi hi s self _=>by
   grind [ft.b0,contains_eq,BV])
  (λ_ _ _ _ _ _=>trivial) (λs self _=>by
   show ft.b0 _ _ _ _=_
   unfold ft.b0
   simp only[Int.lt_irrefl,decide_false,cond_false]
   rfl) () trivial k (by omega)
 rw[ul] at this
 exact this
theorem Hx (s:List Change) (h:s.length<=1048576):d6.ab (s,())=some (s,()):=by
 refine ag (k:=0) λk _=>(d6.ae k _).trans ?_
 show d6.p _=_
 unfold d6.p
 refine uV (λe=>by grind) ?_
 grind [cm]
theorem Hy (s:List Int) (h:s.length<=1048576):en.ab (s,())=some (s,()):=by
 refine ag (k:=0) λk _=>(en.ae k _).trans ?_
 show en.p _=_
 unfold en.p
 refine uV (λe=>by grind) ?_
 grind [cm]
theorem Hz (s:List Key) (h:s.length<=1048576):eZ.ab (s,())=some (s,()):=by
 refine ag (k:=0) λk _=>(eZ.ae k _).trans ?_
 show eZ.p _=_
 unfold eZ.p
 refine uV (λe=>by grind) ?_
 grind [cm]
theorem Fo (x:Tx) (h:tl x):f_.ab (x,())=some (x,()):=by
 obtain ⟨h1,h2,h3,_⟩:=h
 refine ag (k:=0) λk _=>(f_.ae k _).trans ?_
 grind [f_.p,cm]
theorem uy (xs:List Tx) (h:gy xs):dG.ab (xs,())=some (xs,()):=by
 obtain ⟨h1,h2⟩:=h
 refine ag (k:=xs.length+1) λk hk=>(dG.ae k _).trans ?_
 have:=bI (B:=λself v=>dG.B0 0 self (λz=>dG.Q0 0 (xs,()) z) (xs,()) v) xs (λ(s:List Tx) (i:Int)=>(s,i)) (λ_ s x=>.inr (s++[x])) (λs=>(s,())) (λi s=>s.length=i) (by rw[ak];omega)
  (λi hi s self hI=>by
   grind [dG.b0,cm,Fo])
  (λi hi s s' hI hs=>by grind) (λs self hI=>by
   show dG.b0 _ _ _ _=_
   unfold dG.b0
   simp only[Int.lt_irrefl,decide_false,cond_false]
   rfl) [] rfl k (by omega)
 rw[gR,ue] at this
 exact this
theorem oE (xs:List Tx) (h:gy xs):bY.ab (xs,())=some (xs,()):=by
 obtain ⟨h1,h2⟩:=h
 refine ag (k:=xs.length+1) λk hk=>(bY.ae k _).trans ?_
 have:=bI (B:=λself v=>bY.B0 0 self (λz=>bY.Q0 0 (xs,()) z) (xs,()) v) xs (λ(s:List Tx) (i:Int)=>(s,i)) (λ_ s x=>.inr (s++[x])) (λs=>(s,())) (λi s=>s.length=i) (by rw[ak];omega)
  (λi hi s self hI=>by
   show bY.b0 _ _ _ _=_
   unfold bY.b0
   have aE:(i:Int) < (xs.length:Int):=by omega
   have hx:=h2 _ (List.getElem_mem hi)
   simp only[aE,decide_true,cond_true,Int.natCast_nonneg,if_true,Int.toNat_natCast,List.getElem?_eq_getElem hi,Option.bind_some]
   generalize xs[i]=x at hx
   obtain ⟨g1,g2,g3,_⟩:=hx
   grind [Hx,Hy,Hz,cm])
  (λi hi s s' hI hs=>by grind) (λs self hI=>by
   show bY.b0 _ _ _ _=_
   unfold bY.b0
   simp only[Int.lt_irrefl,decide_false,cond_false]
   rfl) [] rfl k (by omega)
 rw[gR,ue] at this
 exact this
def iq (x:Tx) (c:Change):Tx:=(x.1,x.2.1++[c],x.2.2.1,if cq x.2.2.2.1 (cZ c) then x.2.2.2.1 else x.2.2.2.1++[cZ c],())
def ln (xs:List Tx) (j:Nat) (c:Change):List Tx:=match xs[j]? with
 | some x=>xs.set j (iq x c)
 | none=>xs
theorem vG (xs:List Tx) (j:Nat) (c:Change) (h:gy xs) (hj:j < xs.length):cX.ab (xs,(j:Int),c,())=some (ln xs j c,()):=by
 refine ag (k:=0) λk _=>(cX.ae k _).trans ?_
 show cX.p _=_
 unfold cX.p ln
 have hx:=h.2 _ (List.getElem_mem hj)
 have cw:(0:Int)<=(j:Int)/\(j:Int) < (xs.length:Int):=by omega
 simp only[uy xs h,Option.bind_some,cw,and_self,if_true,Int.toNat_natCast,List.getElem?_eq_getElem hj,uj]
 generalize B9:xs[j]=x at hx
 obtain ⟨g1,g2,g3,_⟩:=hx
 have rN:xs.set j x=xs:=by grind [List.set_getElem_self]
 have hg:xs[j]?=some x:=by grind
 have c1:List.length x.2.1+[c].length<=bV:=cm (by grind)
 have c2:List.length x.2.2.2.1+[cZ c].length<=bV:=cm (by grind)
 have hq:∀ y:Tx,(xs.set j y)[j]?=some y:=λy=>by simp[hj]
 rw[if_pos c1,rN]
 simp only[hg,Option.bind_some,hq]
 grind [wm,ak,iq,List.set_set]
theorem Db (xs:List Tx) (j:Nat) (c:Change) (h:gy xs) (hj:j < xs.length):il.ab (xs,(j:Int),c,())=some (ln xs j c,()):=by
 refine ag (k:=0) λk _=>(il.ae k _).trans ?_
 show il.p _=_
 unfold il.p ln
 have hx:=h.2 _ (List.getElem_mem hj)
 have cw:(0:Int)<=(j:Int)/\(j:Int) < (xs.length:Int):=by omega
 simp only[oE xs h,Option.bind_some,cw,and_self,if_true,Int.toNat_natCast,List.getElem?_eq_getElem hj,yQ]
 generalize B9:xs[j]=x at hx
 obtain ⟨g1,g2,g3,_⟩:=hx
 have rN:xs.set j x=xs:=by grind [List.set_getElem_self]
 have hg:xs[j]?=some x:=by grind
 have c1:List.length x.2.1+[c].length<=bV:=cm (by grind)
 have c2:List.length x.2.2.2.1+[cZ c].length<=bV:=cm (by grind)
 have hq:∀ y:Tx,(xs.set j y)[j]?=some y:=λy=>by simp[hj]
 rw[if_pos c1,rN]
 simp only[hg,Option.bind_some,hq]
 grind [contains_eq,ak,iq,List.set_set]
def wt (c:Int):t_:=(c,([]:List Tx),())
def sU (xs:List Tx) (t:Int) (c:Change):t_:=
 if du xs=0 then
  if gX xs t < 0 then wt 4
  else if qG c=0 then
   if fP xs (cZ c)≠0/\fP xs (cZ c)≠t then wt 7
   else if 12<=fd xs then wt 2
   else if fP xs (cZ c)=0/\12<=List.length ((xs.getD (gX xs t).toNat (0,[],[],[],())).2.2.2.1:List Key) then wt 2
   else ((0:Int),ln xs (gX xs t).toNat c,())
  else wt (qG c)
 else wt (du xs)
theorem I7 {xs:List Tx} (h:du xs=0):nV xs=0/\xs.length<=4:=by
 grind [du]
theorem Fq {xs:List Tx} {k:Key} (h:fP xs k≠0):∃ x ∈ xs,x.1=fP xs k/\cq x.2.2.2.1 k=true:=by
 induction xs <;> grind [fP]
theorem Fs {xs:List Tx} {k:Key} (h:fP xs k=0) (hp:∀ x ∈ xs,1<=x.1):∀ x ∈ xs,cq x.2.2.2.1 k=false:=by
 induction xs <;> grind [fP]
theorem B_ (xs:List Tx) (t:Int) (c:Change) (h:gy xs) (hc:cl c):eL.ab (xs,t,c,())=some (sU xs t c,()):=by
 refine ag (k:=0) λk _=>(eL.ae k _).trans ?_
 show eL.p _=_
 unfold eL.p sU wt
 simp only[sP xs h,oD xs t h.1,zF c hc,yQ,Da xs _ h,qg xs h,Option.bind_some]
 by_cases h1:du xs=0
 rotate_left
 ·grind
 simp only[h1,decide_true,Bool.not_true,cond_false,if_true]
 by_cases h2:gX xs t < 0
 ·grind
 simp only[h2,decide_false,cond_false,if_false]
 by_cases h3:qG c=0
 rotate_left
 ·grind
 simp only[h3,decide_true,Bool.not_true,cond_false,if_true]
 obtain ⟨j,hj,e1,e2⟩:=sO (λx:Tx=>decide (x.1=t)) xs 0 (by grind [gX])
 have e1:gX xs t=(j:Int):=by show kq _ 0 xs=_;rw[e1];omega
 rw[e1,Int.toNat_natCast]
 have hn:=Db xs j c h hj
 grind
end OT
set_option linter.unusedVariables false
set_option linter.unusedSimpArgs false
set_option linter.unusedSectionVars false
namespace OT
open Go
def nX (x:Tx):Tx:=(x.1,x.2.1,x.2.2.1++[(List.length x.2.1:Int)],x.2.2.2)
def ql (x:Tx) (n m:Nat):Tx:=(x.1,x.2.1.take n,x.2.2.1.take (m+1),x.2.2.2)
theorem Ag {xs:List Tx} {t:Int} (h:gy xs) {j:Nat} (hj:j < xs.length) (dw:gX xs t=(j:Int)) (hm:List.length (xs[j]).2.2.1<=8):iu.ab (xs,t,())=some (xs.set j (nX xs[j]),(List.length (xs[j]).2.2.1:Int),()):=by
 refine ag (k:=0) λk _=>(iu.ae k _).trans ?_
 unfold iu.p
 have cw:(0:Int)<=(j:Int)/\(j:Int) < (xs.length:Int):=by omega
 simp only[oE xs h,oD xs t h.1,dw,Option.bind_some,cw,and_self,if_true,Int.toNat_natCast,List.getElem?_eq_getElem hj]
 generalize B9:xs[j]=x at hm ⊢
 have rN:xs.set j x=xs:=by rw[<-B9];exact List.set_getElem_self hj
 have hg:xs[j]?=some x:=by rw[List.getElem?_eq_getElem hj,B9]
 have c1:List.length x.2.2.1+[(List.length x.2.1:Int)].length<=bV:=cm (by simp only[List.length_cons,List.length_nil];omega)
 have hq:∀ y:Tx,(xs.set j y)[j]?=some y:=λy=>by simp[hj]
 rw[if_pos c1,rN]
 simp only[hg,Option.bind_some,hq]
 have hw:al (((List.length (x.2.2.1++[(List.length x.2.1:Int)]):Nat):Int) - 1)=(List.length x.2.2.1:Int):=by
  rw[List.length_append,List.length_cons,List.length_nil,ct (by omega)];omega
 rw[hw]
 rfl
theorem tn {xs:List Tx} {o:Op} (h:gy xs) {j:Nat} (hj:j < xs.length) (dw:gX xs o.2.1=(j:Int)) (h6:¬ o.1=6):fE.ab (xs,o,())=some (xs.take j++xs.drop (j+1),br (xs[j]).2.1,()):=by
 refine ag (k:=0) λk _=>(fE.ae k _).trans ?_
 unfold fE.p
 have cw:(0:Int)<=(j:Int)/\(j:Int) < (xs.length:Int):=by omega
 have hx:=h.2 _ (List.getElem_mem hj)
 have hl:=h.1
 have hw:al ((j:Int)+1)=((j+1:Nat):Int):=by rw[ct (by omega)];omega
 have hd:iE.ab (xs,(j:Int),((j+1:Nat):Int),())=some (xs.take j++xs.drop (j+1),()):=by
  show yK _ _=_
  unfold yK
  have:(0:Int)<=(j:Int)/\(j:Int)<=((j+1:Nat):Int)/\((j+1:Nat):Int)<=(xs.length:Int):=by omega
  exact if_pos this
 simp only[oE xs h,oD xs o.2.1 h.1,dw,Option.bind_some,cw,and_self,if_true,Int.toNat_natCast,List.getElem?_eq_getElem hj,h6,decide_false,cond_false,sQ _ hx.1,hw,hd]
theorem yS {xs:List Tx} {o:Op} (h:gy xs) {j:Nat} (hj:j < xs.length) (dw:gX xs o.2.1=(j:Int)) (h6:o.1=6) {m n:Nat} (hm:o.2.2.2.1=(m:Int)) (vH:m < List.length (xs[j]).2.2.1) (hn:(xs[j]).2.2.1[m]?=some (n:Int)) (mG:n<=List.length (xs[j]).2.1) :
  fE.ab (xs,o,())=some (xs.set j (ql xs[j] n m),br ((xs[j]).2.1.drop n),()):=by
 refine ag (k:=0) λk _=>(fE.ae k _).trans ?_
 unfold fE.p
 have cw:(0:Int)<=(j:Int)/\(j:Int) < (xs.length:Int):=by omega
 have hx:=h.2 _ (List.getElem_mem hj)
 simp only[oE xs h,oD xs o.2.1 h.1,dw,Option.bind_some,cw,and_self,if_true,Int.toNat_natCast,List.getElem?_eq_getElem hj,h6,hm,decide_true,cond_true]
 generalize B9:xs[j]=x at hx vH hn mG ⊢
 obtain ⟨g1,g2,g3,_⟩:=hx
 have rN:xs.set j x=xs:=by rw[<-B9];exact List.set_getElem_self hj
 have hg:xs[j]?=some x:=by rw[List.getElem?_eq_getElem hj,B9]
 have hq:∀ y:Tx,(xs.set j y)[j]?=some y:=λy=>by simp[hj]
 have k1:(0:Int)<=(m:Int)/\(m:Int) < (List.length x.2.2.1:Int):=by omega
 have k2:(0:Int)<=(n:Int)/\(n:Int)<=(List.length x.2.1:Int):=by omega
 have hw:al ((m:Int)+1)=((m+1:Nat):Int):=by rw[ct (by omega)];omega
 have k3:(0:Int)<=((m+1:Nat):Int)/\((m+1:Nat):Int)<=(List.length x.2.2.1:Int):=by omega
 rw[if_pos k1,hn]
 simp only[Option.bind_some]
 rw[if_pos k2,Int.toNat_natCast,List.take_length,sQ _ (by rw[List.length_drop];omega)]
 simp only[Option.bind_some]
 rw[if_pos k2,rN]
 simp only[hg,Option.bind_some,hq,hw]
 rw[if_pos k3]
 simp only[Int.toNat_natCast,List.set_set,hq,Option.bind_some,List.drop_zero]
 rfl
theorem wu {p:Plain} {cs:List Change} {t:List Row} (hg:Good p.1) (hl:List.length p.1<=12) (hc:∀ c ∈ cs,ec c=0) (rE:∀ c ∈ cs,cl c) (fj:cs.length<=12) (hb:bd p.1 cs=some t):cB.ab (p,cs,())=some ((0:Int),(t,p.2),()):=by
 refine ag (k:=0) λk _=>(cB.ae k _).trans ?_
 unfold cB.p
 rw[ui p.1 cs (by rw[ak];omega) (DT hg) (by omega) rE,xP hg hc (by omega),hb]
 rfl
theorem Lp {p:Plain} (hl:List.length p.1<=1048576) (h:gy p.2.1):gx.ab (p,())=some ((p.1,p.2.1,p.2.2.1,()),()):=by
 refine ag (k:=0) λk _=>(gx.ae k _).trans ?_
 unfold gx.p
 rw[rm _ hl]
 simp only[Option.bind_some]
 rw[oE _ h]
 rfl
theorem kY {p:Plain} (hl:List.length p.1<=1048576) (h:gy p.2.1):iC.ab (p,())=some ((p.1,p.2.1,p.2.2.1,()),()):=by
 refine ag (k:=0) λk _=>(iC.ae k _).trans ?_
 unfold iC.p
 rw[if_pos (show ([]:List Row).length+List.length p.1<=bV from cm (by rw[List.length_nil];omega)),uy _ h]
 rfl
theorem yT (c:Int):fU.ab (c,())=some ((c,(0:Int),(([]:List Row),([]:List Tx),(0:Int),()),()),()):=ag (k:=0) λk _=>(fU.ae k _).trans rfl
theorem Ft {x:Tx} (h:tl x) {m n:Nat} (vH:m < List.length x.2.2.1) (hn:x.2.2.1[m]?=some (n:Int)) (mG:n<=List.length x.2.1):jm.ab (x,(m:Int),())=some (x.2.1.drop n,ql x n m,()):=by
 obtain ⟨g1,g2,g3,_⟩:=h
 refine ag (k:=0) λk _=>(jm.ae k _).trans ?_
 unfold jm.p
 have k2:(0:Int)<=(n:Int)/\(n:Int)<=(List.length x.2.1:Int):=by omega
 have hw:al ((m:Int)+1)=((m+1:Nat):Int):=by rw[ct (by omega)];omega
 have k3:(0:Int)<=((m+1:Nat):Int)/\((m+1:Nat):Int)<=(List.length x.2.2.1:Int):=by omega
 rw[if_pos (Int.natCast_nonneg m),Int.toNat_natCast,hn]
 simp only[Option.bind_some]
 rw[if_pos k2,if_pos (cm (by rw[List.length_nil,List.length_drop,List.length_take];omega)),if_pos k2,hw,if_pos k3]
 simp only[Int.toNat_natCast,List.nil_append,List.take_length,List.drop_zero]
 rfl
theorem vI {xs:List Tx} (hl:xs.length<=1048576) {j:Nat} (hj:j < xs.length):eV.ab (xs,(j:Int),())=some (xs.take j++xs.drop (j+1),()):=by
 refine ag (k:=1048578) λk hk=>(eV.ae k _).trans ?_
 have:=bI (B:=λself v=>eV.b0 self (eV.q0 (xs,(j:Int),())) (xs,(j:Int),()) v) xs (λ(s:List Tx) (i:Int)=>(s,i)) (λi s x=>if (i:Int)=(j:Int) then .inr s else .inr (s++[x])) (λs=>(s,())) (λi s=>s.length<=i) (by rw[ak];omega)
  (λi hi s self hI=>by
   have aE:(i:Int) < (xs.length:Int):=by omega
   unfold eV.b0
   rw[decide_eq_true aE,cond_true]
   by_cases he:(i:Int)=(j:Int)
   ·rw[decide_eq_true he,Bool.not_true,cond_false,if_pos he]
   ·rw[decide_eq_false he,Bool.not_false,cond_true,if_neg he,if_pos (Int.natCast_nonneg i),Int.toNat_natCast,List.getElem?_eq_getElem hi]
    simp only[Option.bind_some]
    rw[if_pos (cm (by rw[List.length_cons,List.length_nil];omega))])
  (λi hi s s' hI hf=>by
   split at hf
   ·injection hf with hf;subst hf;omega
   ·injection hf with hf;subst hf;rw[List.length_append,List.length_cons,List.length_nil];omega) (λs self _=>by
   unfold eV.b0
   rw[decide_eq_false (Int.lt_irrefl _),cond_false]
   rfl) [] (Nat.zero_le _) k (by omega)
 have key:∀ (ys:List Tx) (i:Nat) (s:List Tx),aX (O:=List Tx×Unit) (λi s x=>if (i:Int)=(j:Int) then .inr s else .inr (s++[x])) (λs=>(s,())) i ys s=(s++(if i<=j then ys.take (j - i)++ys.drop (j - i+1) else ys),()):=by
  intro ys
  induction ys with
  | nil=>intro i s;simp[aX]
  | cons y ys ih=>
   intro i s
   simp only[aX]
   by_cases he:(i:Int)=(j:Int)
   ·rw[if_pos he]
    simp only
    rw[ih]
    have:i=j:=by omega
    subst this
    rw[if_neg (by omega),if_pos (Nat.le_refl _),Nat.sub_self]
    rfl
   ·rw[if_neg he]
    simp only
    rw[ih]
    by_cases gG:i<=j
    ·obtain ⟨d,hd⟩:∃ d,j - i=d+1:=⟨j - i - 1,by omega⟩
     rw[if_pos gG,if_pos (by omega),hd,show j - (i+1)=d by omega]
     simp[List.append_assoc]
    ·rw[if_neg gG,if_neg (by omega)]
     simp[List.append_assoc]
 rw[key xs 0 []] at this
 refine Eq.trans this ?_
 simp
end OT
set_option linter.unusedVariables false
set_option linter.unusedSimpArgs false
set_option linter.unusedSectionVars false
namespace OT
open Go
abbrev oP (n:Int):Tx:=(n,([]:List Change),([]:List Int),([]:List Key),())
theorem Lq {x:Tx} (h:tl x) (hm:List.length x.2.2.1<=8):tl (nX x):=⟨h.1,by
 show (x.2.2.1++[(List.length x.2.1:Int)]).length<=_
 grind,h.2.2.1,h.2.2.2⟩
theorem Nt {x:Tx} (h:tl x) (n m:Nat):tl (ql x n m):=by
 obtain ⟨h1,h2,h3,h4⟩:=h
 refine ⟨?_,?_,h3,λc hc=>h4 c (List.mem_of_mem_take hc)⟩
 ·show (x.2.1.take n).length<=_
  grind
 ·show (x.2.2.1.take (m+1)).length<=_
  grind
theorem Lr {x:Tx} (h:tl x) (hu:List.length x.2.1<=12) (hk:List.length x.2.2.2.1<=12) {c:Change} (hc:cl c):tl (iq x c):=by
 obtain ⟨h1,h2,h3,h4⟩:=h
 refine ⟨?_,h2,?_,λd hd=>?_⟩
 ·show (x.2.1++[c]).length<=_
  grind
 ·show (if cq x.2.2.2.1 (cZ c) then x.2.2.2.1 else x.2.2.2.1++[cZ c]).length<=_
  grind
 ·rcases List.mem_append.1 hd with g | g
  all_goals grind
theorem yU {xs:List Tx} (h:gy xs) (j:Nat) {y:Tx} (hy:tl y):gy (xs.set j y):=⟨by rw[List.length_set];exact h.1,λx hx=>by
 rcases List.mem_or_eq_of_mem_set hx with g | g
 ·exact h.2 x g
 grind⟩
theorem Ca {xs:List Tx} (h:gy xs) (j:Nat):gy (xs.take j++xs.drop (j+1)):=⟨by
 have:=h.1
 grind,λx hx=>by
 rcases List.mem_append.1 hx with g | g
 ·exact h.2 x (List.mem_of_mem_take g)
 ·exact h.2 x (List.mem_of_mem_drop g)⟩
theorem Ls {xs:List Tx} (h:gy xs) (hl:xs.length<=4) (n:Int):gy (xs++[oP n]):=⟨by grind,λx hx=>by
 rcases List.mem_append.1 hx with g | g
 ·exact h.2 x g
 ·rw[List.mem_singleton] at g;rw[g];exact ⟨Nat.zero_le _,Nat.zero_le _,Nat.zero_le _,λc hc=>by cases hc⟩⟩
end OT
set_option linter.unusedVariables false
set_option linter.unusedSimpArgs false
set_option linter.unusedSectionVars false
namespace OT
open Go
structure uZ (p:Plain):Prop where
 dP:Good p.1
 len:List.length p.1<=12
 gb:du p.2.1=0
 next:bK p.2.2.1 1 100=true
 room:fQ p.1 p.2.1<=12
 back:∃ t,bd p.1 (dh p.2.1)=some t
theorem aU {p:Plain} (h:bt p=0):uZ p:=by
 unfold bt at h
 split at h
 ·rename_i h1
  split at h
  ·rename_i h2
   split at h
   ·rename_i h3
    rw[Bool.and_eq_true] at h3
    split at h
    ·cases h
    ·rename_i h4
     have hg:=(gC h1).1
     have hr:=l_ (xs:=p.2.1) hg.up
     unfold fQ at h4
     cases hb:bd p.1 (dh p.2.1) with
     | none=>grind
     | some t=>exact ⟨hg,by omega,h2,h3.1,by grind [fQ],t,hb⟩
   ·cases h
  grind
 grind
theorem oF {c:Change} (hc:ec c=0):ck (ip c)=ck c:=by
 grind [ck,ip,rk,oC,ec]
theorem rO {xs:List Tx} (h:du xs=0):∀ x ∈ xs,1<=x.1/\jv x=0:=λx hx=>by
 have h1:=(I7 h).1
 obtain ⟨i,hi,rfl⟩:=List.getElem_of_mem hx
 have:=qi (l9 xs h1 i hi)
 grind
theorem qM {x:Tx} (h:jv x=0):∀ c ∈ (x.2.1:List Change),cq x.2.2.2.1 (cZ c)=true:=λc hc=>by
 unfold jv at h
 split at h
 ·rename_i hu
  have h2:=nW hu c hc
  grind [kC]
 grind
theorem uz {xs:List Tx} (h:du xs=0):(flatK xs).Nodup:=by
 unfold du at h
 split at h
 ·cases h
 ·split at h
  ·split at h
   ·rename_i ha;exact of_decide_eq_true ha
   ·cases h
  grind
theorem nn {xs:List Tx} (h:du xs=0) {i j:Nat} (hi:i < xs.length) (hj:j < i) {c d:Change} (hc:c ∈ br (xs[j]'(by omega)).2.1) (hd:d ∈ br xs[i].2.1):ck c≠ck d:=by
 have hn:=uz h
 have gS:=(eo h).ch
 obtain ⟨c0,oS,rfl⟩:=nF hc
 obtain ⟨d0,HA,rfl⟩:=nF hd
 have mj:xs[j]'(by omega) ∈ xs:=List.getElem_mem _
 have mi:xs[i] ∈ xs:=List.getElem_mem _
 rw[oF (gS _ mj c0 oS),oF (gS _ mi d0 HA)]
 have l1:=e7.1 (qM (rO h _ mj).2 c0 oS)
 have l2:=e7.1 (qM (rO h _ mi).2 d0 HA)
 intro he
 have hx:xs=xs.take i++xs[i]::xs.drop (i+1):=by rw[List.getElem_cons_drop,List.take_append_drop]
 unfold flatK at hn
 rw[hx,List.flatMap_append,List.flatMap_cons,List.nodup_append] at hn
 refine hn.2.2 (cZ c0) ?_ (cZ c0) ?_ rfl
 ·grind
 grind [cZ]
theorem iF {p:Plain} (h:uZ p) {i:Nat} (hi:i < List.length p.2.1):∃ t,bd p.1 (br (p.2.1[i]).2.1)=some t:=by
 obtain ⟨t,ht⟩:=h.back
 exact I2 h.dP (eo h.gb).ch ht hi λj hj c hc d hd=>nn h.gb hi hj hc hd
theorem rP {α:Type} [DecidableEq α]:∀ (l m:List α),l.Nodup->(∀ x ∈ l,x ∈ m)->l.length<=m.length
 | [],_,_,_=>Nat.zero_le _
 | x::l,m,hn,h=>by
  rw[List.nodup_cons] at hn
  have hx:=h x List.mem_cons_self
  have ih:=rP l (m.erase x) hn.2 λy hy=>(List.mem_erase_of_ne (λe=>hn.1 (by grind))).2 (h y (List.mem_cons_of_mem _ hy))
  grind
theorem lq {rows:List Row} {o:Op} (hg:Good rows) (xT:cY o.2.2.1=0) (h:(aS rows o).2=0):ec (aS rows o).1=0/\ck (aS rows o).1=rk o.2.2.1/\im rows (aS rows o).1=true/\cl (aS rows o).1:=by
 have kh:rl o.2.2.1:=by grind [rl,jK,ak]
 have mG:rl qL:=Nat.zero_le _
 have key:∀ c:Change,c=(aS rows o).1->ec c=0/\ck c=rk o.2.2.1/\(if c.1=true then c.2.1 ∈ rows else ∀ r ∈ rows,rk r≠ck c)/\cl c:=by
  intro c hc
  unfold aS at h hc
  have Sp:(o.2.2.1.1,o.2.2.1.2.1)=rk o.2.2.1:=rfl
  simp only[Sp] at h hc
  cases hf:fu rows (rk o.2.2.1) with
  | true=>
   obtain ⟨hp,hk⟩:=ko hf
   have hm:rows[pos rows (rk o.2.2.1)] ∈ rows:=List.getElem_mem hp
   have hb:=hg.2 _ hm
   have Px:rl rows[pos rows (rk o.2.2.1)]:=by grind [rl,jK,ak]
   rw[hf,List.getElem?_eq_getElem hp] at h hc
   generalize hx:rows[pos rows (rk o.2.2.1)]=x at *
   cases h2:decide (o.1=2) with
   | true=>grind
   | false=>
    rw[h2] at hc
    simp only[Bool.false_and,Bool.not_true,Bool.and_false,Bool.false_eq_true,if_false,if_true,Option.getD_some] at hc
    cases h4:decide (o.1=4) with
    | true=>
     rw[h4] at hc
     subst hc
     refine ⟨?_,hk,?_,Px,mG⟩
     all_goals grind [ec]
    | false=>
     rw[h4] at hc
     subst hc
     refine ⟨?_,rfl,?_,Px,kh⟩
     all_goals grind [sM,ec]
  | false=>
   have jt:∀ r ∈ rows,rk r≠rk o.2.2.1:=λr hr he=>by
    obtain ⟨i,hi,hx⟩:=List.getElem_of_mem hr
    have:=(oA hg.1 hi (k:=rk o.2.2.1) (by grind)).1
    grind
   rw[hf] at h hc
   cases h2:decide (o.1=2) with
   | false=>grind
   | true=>
    have h4:decide (o.1=4)=false:=by
     grind
    rw[h2,h4] at hc
    simp only[Bool.and_false,Bool.not_true,Bool.not_false,Bool.false_and,Bool.false_eq_true,if_false] at hc
    subst hc
    refine ⟨?_,rfl,?_,mG,kh⟩
    ·grind [ec]
    ·exact jt
 obtain ⟨k1,k2,k3,k4⟩:=key _ rfl
 exact ⟨k1,k2,(nG hg.1 k1).2 k3,k4⟩
theorem Cb {r:Row} (h:cY r=0):1<=r.2.1:=by
 grind [cY,bK]
theorem ma {rows:List Row} {xs:List Tx} {o:Op} (ht:(h_ rows xs o).2.1=true):pj xs o.2.1 (o.2.2.1.1,o.2.2.1.2.1,())=false/\(aS rows o).2=0/\lO rows xs (o.2.2.1.1,o.2.2.1.2.1,())<=12/\fd xs < 12/\((aS rows o).1.1&&((aS rows o).1.2.2.1&&Ty.eq aj (aS rows o).1.2.1 (aS rows o).1.2.2.2.1))=false/\h_ rows xs o=(0,true,(aS rows o).1,()):=by
 unfold h_ at ht ⊢
 grind
theorem HB {p:Plain} (h:uZ p) {o:Op} (xT:cY o.2.2.1=0) {j:Nat} (hj:j < List.length p.2.1) (dw:gX p.2.1 o.2.1=(j:Int)) (qm:(p.2.1[j]).1=o.2.1) (ht:(h_ p.1 p.2.1 o).2.1=true) :
  sU p.2.1 o.2.1 (aS p.1 o).1=((0:Int),ln p.2.1 j (aS p.1 o).1,()):=by
 obtain ⟨r1,r2,r3,r4,r5,r6⟩:=ma ht
 obtain ⟨w1,w2,w3,w4⟩:=lq h.dP xT r2
 have hk:cZ (aS p.1 o).1=(o.2.2.1.1,o.2.2.1.2.1,()):=by unfold cZ;rw[w2];rfl
 have fj:qG (aS p.1 o).1=0:=by
  grind [qG]
 have xM:∀ x ∈ (p.2.1:List Tx),x.1≠o.2.1->cq x.2.2.2.1 (o.2.2.1.1,o.2.2.1.2.1,())=false:=λx hx ci=>by
  grind [cq,pj,nm]
 have Ow:¬ (fP p.2.1 (cZ (aS p.1 o).1)≠0/\fP p.2.1 (cZ (aS p.1 o).1)≠o.2.1):=by
  grind [Fq]
 have lK:¬ (fP p.2.1 (cZ (aS p.1 o).1)=0/\12<=List.length (((p.2.1:List Tx).getD (gX p.2.1 o.2.1).toNat (0,[],[],[],())).2.2.2.1:List Key)):=by
  rintro ⟨J,a2⟩
  rw[dw,Int.toNat_natCast,List.getD_eq_getElem?_getD,List.getElem?_eq_getElem hj,Option.getD_some] at a2
  rw[hk] at J
  have hz:=Fs J (λx hx=>(rO h.gb x hx).1) _ (List.getElem_mem hj)
  have kR:((p.2.1[j]).2.2.2.1:List Key).Nodup:=by
   have:=uz h.gb
   grind [flatK]
  have Bp:¬ (o.2.2.1.2.1=0):=by have:=(Cb xT);omega
  have se:=rP ((o.2.2.1.1,o.2.2.1.2.1,())::(p.2.1[j]).2.2.2.1) (dd [] (eh p.1 p.2.1++qJ (o.2.2.1.1,o.2.2.1.2.1,()))) (List.nodup_cons.2 ⟨λhm=>(by rw[e7.2 hm] at hz;cases hz),kR⟩) (λq hq=>by
   grind [un,qJ,eh,flatK])
  grind [lO]
 unfold sU
 rw[if_pos h.gb,if_neg (by grind),if_pos fj,if_neg Ow,if_neg (by omega),if_neg lK,dw,Int.toNat_natCast]
end OT
set_option linter.unusedVariables false
set_option linter.unusedSimpArgs false
set_option linter.unusedSectionVars false
namespace OT
open Go
abbrev nY (k:Int):gA:=(k,(0:Int),(([]:List Row),([]:List Tx),(0:Int),()),())
def ic (p:Plain) (o:Op) (R:gA):Prop:=d_.ab (p,o,())=some (R,())/\cc.ab (p,o,())=some (R,())
theorem HC {p:Plain} {o:Op} (hp:oB p) (h:¬ bt p=0):ic p o (nY (bt p)):=by
 constructor
 ·refine ag (k:=0) λk _=>(d_.ae k _).trans ?_
  unfold d_.p
  rw[kX p hp]
  simp only[Option.bind_some]
  rw[decide_eq_false h,Bool.not_false,cond_true]
 ·refine ag (k:=0) λk _=>(cc.ae k _).trans ?_
  unfold cc.p
  rw[qk p hp]
  simp only[Option.bind_some]
  rw[decide_eq_false h,Bool.not_false,cond_true,yT]
  rfl
theorem DW {p:Plain} {o:Op} (hp:oB p) (ho:rl o.2.2.1) (h:bt p=0) (h2:¬ (cP p.1 p.2.1 o).1=0):ic p o (nY (cP p.1 p.2.1 o).1):=by
 constructor
 ·refine ag (k:=0) λk _=>(d_.ae k _).trans ?_
  unfold d_.p
  rw[kX p hp]
  simp only[Option.bind_some]
  rw[h,decide_eq_true rfl,Bool.not_true,cond_false,xS _ _ _ hp.1 hp.2.1 hp.2.2 ho]
  simp only[Option.bind_some]
  rw[decide_eq_false h2,Bool.not_false,cond_true]
 ·refine ag (k:=0) λk _=>(cc.ae k _).trans ?_
  unfold cc.p
  rw[qk p hp]
  simp only[Option.bind_some]
  rw[h,decide_eq_true rfl,Bool.not_true,cond_false,xR _ _ _ hp.1 hp.2.1 hp.2.2 ho]
  simp only[Option.bind_some]
  rw[decide_eq_false h2,Bool.not_false,cond_true,yT]
  rfl
theorem qN {p:Plain} {o:Op} {R:gA} (hp:oB p) (ho:rl o.2.2.1) (h:bt p=0) (h2:(cP p.1 p.2.1 o).1=0)
  (hi:(bif decide (o.1=(1:Int)) then (bif decide (p.2.2.1=(100:Int)) then (some (nY 9,()):Option d_.Out) else if List.length p.2.1+[(p.2.2.1,([]:List Change),([]:List Int),([]:List Key),())].length<=bV then (let y5:=p.2.1++[(p.2.2.1,([]:List Change),([]:List Int),([]:List Key),())];some (((0:Int),p.2.2.1,(p.1,y5,al (p.2.2.1+(1:Int)),()),()),())) else none) else bif (cP p.1 p.2.1 o).2.1 then ((cB.ab ((p.1,p.2.1,p.2.2.1,()),[(cP p.1 p.2.1 o).2.2.1],())).bind λr6=>bif !decide (r6.1=(0:Int)) then (some (nY r6.1,())) else (eL.ab (p.2.1,o.2.1,(cP p.1 p.2.1 o).2.2.1,())).bind λr7=>bif !decide (r7.1.1=(0:Int)) then (some (nY r7.1.1,())) else some (((0:Int),(0:Int),(r6.2.1.1,r7.1.2.1,r6.2.1.2.2),()),())) else bif decide (o.1=(5:Int)) then ((iu.ab (p.2.1,o.2.1,())).bind λr8=>some (((0:Int),r8.2.1,(p.1,r8.1,p.2.2.1,()),()),())) else bif decide (o.1=(6:Int)) then ((fE.ab (p.2.1,o,())).bind λr9=>(cB.ab ((p.1,p.2.1,p.2.2.1,()),r9.2.1,())).bind λkm=>bif !decide (km.1=(0:Int)) then (some (nY km.1,())) else some (((0:Int),(0:Int),(km.2.1.1,r9.1,km.2.1.2.2),()),())) else bif decide (o.1=(8:Int)) then ((fE.ab (p.2.1,o,())).bind λmR=>(cB.ab ((p.1,p.2.1,p.2.2.1,()),mR.2.1,())).bind λrJ=>bif !decide (rJ.1=(0:Int)) then (some (nY rJ.1,())) else some (((0:Int),(0:Int),(rJ.2.1.1,mR.1,rJ.2.1.2.2),()),())) else bif decide (o.1=(7:Int)) then ((fE.ab (p.2.1,o,())).bind λzC=>some (((0:Int),(0:Int),(p.1,zC.1,p.2.2.1,()),()),())) else some (((0:Int),(0:Int),(p.1,p.2.1,p.2.2.1,()),()),()))=some (R,()))
  (hs:cE.ab (p,o,cP p.1 p.2.1 o,())=some (R,())):ic p o R:=by
 constructor
 ·refine ag (k:=0) λk _=>(d_.ae k _).trans ?_
  unfold d_.p
  rw[kX p hp]
  simp only[Option.bind_some]
  rw[h,decide_eq_true rfl,Bool.not_true,cond_false,xS _ _ _ hp.1 hp.2.1 hp.2.2 ho]
  simp only[Option.bind_some]
  rw[h2,decide_eq_true rfl,Bool.not_true,cond_false,Lp hp.1 hp.2.2]
  exact hi
 ·refine ag (k:=0) λk _=>(cc.ae k _).trans ?_
  unfold cc.p
  rw[qk p hp]
  simp only[Option.bind_some]
  rw[h,decide_eq_true rfl,Bool.not_true,cond_false,xR _ _ _ hp.1 hp.2.1 hp.2.2 ho]
  simp only[Option.bind_some]
  rw[h2,decide_eq_true rfl,Bool.not_true,cond_false,hs]
  rfl
end OT
set_option linter.unusedVariables false
set_option linter.unusedSimpArgs false
set_option linter.unusedSectionVars false
namespace OT
open Go
theorem jH {p:Plain} {o:Op} (P:uZ p) (h2:(cP p.1 p.2.1 o).1=0):ga o=0/\bK o.1 1 9=true/\cP p.1 p.2.1 o=eN p.1 p.2.1 o:=by
 have hr:dR p.1=0:=sR P.dP (by have:=P.len;omega)
 unfold cP at h2 ⊢
 rw[if_pos hr,if_pos P.gb] at h2 ⊢
 by_cases ho:ga o=0
 rotate_left
 ·rw[if_neg ho] at h2;exact absurd h2 ho
 rw[if_pos ho]
 refine ⟨ho,?_,rfl⟩
 unfold ga at ho
 split at ho
 ·cases ho
 ·rename_i hn
  simp only[Bool.or_eq_true,not_or,Bool.not_eq_true',Bool.not_eq_false] at hn
  simpa using hn.1.1.1.1
section
variable {p:Plain} {o:Op} (hp:oB p) (ho:rl o.2.2.1) (h:bt p=0) (h2:(cP p.1 p.2.1 o).1=0)
include hp ho h h2
theorem Cc (hk:o.1=1):(p.2.2.1=100/\ic p o (nY 9))\/(¬ p.2.2.1=100/\ic p o ((0:Int),p.2.2.1,(p.1,p.2.1++[(p.2.2.1,([]:List Change),([]:List Int),([]:List Key),())],p.2.2.1+1,()),())):=by
 have P:=aU h
 have hn:=P.next
 unfold bK at hn
 simp only[Bool.and_eq_true,decide_eq_true_eq] at hn
 have gS:=jH P h2
 have gY:(cP p.1 p.2.1 o).2.1=false:=by
  rw[gS.2.2]
  unfold eN
  rw[if_pos hk]
  split <;> rfl
 have hl:=hp.2.2.1
 have hJ:List.length p.2.1+[(p.2.2.1,([]:List Change),([]:List Int),([]:List Key),())].length<=bV:=cm (by simp only[List.length_cons,List.length_nil];omega)
 by_cases Cd:p.2.2.1=100
 ·refine .inl ⟨Cd,qN hp ho h h2 ?_ ?_⟩
  ·rw[decide_eq_true hk,cond_true,decide_eq_true Cd,cond_true]
  ·refine ag (k:=0) λk _=>(cE.ae k _).trans ?_
   unfold cE.p
   rw[kY hp.1 hp.2.2]
   simp only[Option.bind_some]
   rw[fV _ _ hl]
   simp only[Option.bind_some]
   have:(100:Int)<=p.2.2.1:=by omega
   rw[decide_eq_true hk,cond_true,decide_eq_true this,cond_true,yT]
   rfl
 ·have hw:al (p.2.2.1+1)=p.2.2.1+1:=ct (by omega)
  refine .inr ⟨Cd,qN hp ho h h2 ?_ ?_⟩
  ·rw[decide_eq_true hk,cond_true,decide_eq_false Cd,cond_false,if_pos hJ,hw]
  ·refine ag (k:=0) λk _=>(cE.ae k _).trans ?_
   unfold cE.p
   rw[kY hp.1 hp.2.2]
   simp only[Option.bind_some]
   rw[fV _ _ hl]
   simp only[Option.bind_some]
   have:¬ (100:Int)<=p.2.2.1:=by omega
   rw[decide_eq_true hk,cond_true,decide_eq_false this,cond_false,if_pos hJ,gY,cond_false,hw]
theorem I8 (hk:o.1=1):∃ R,ic p o R/\(R=nY 9\/∃ n m:Int,R=((0:Int),n,(p.1,p.2.1++[(n,([]:List Change),([]:List Int),([]:List Key),())],m,()),())):=by
 rcases Cc hp ho h h2 hk with ⟨_,g⟩ | ⟨_,g⟩
 ·exact ⟨_,g,.inl rfl⟩
 ·exact ⟨_,g,.inr ⟨_,_,rfl⟩⟩
theorem zR (hk:o.1=7) {j:Nat} (hj:j < List.length p.2.1) (dw:gX p.2.1 o.2.1=(j:Int)):ic p o ((0:Int),(0:Int),(p.1,p.2.1.take j++p.2.1.drop (j+1),p.2.2.1,()),()):=by
 have P:=aU h
 have gS:=jH P h2
 have hl:=hp.2.2.1
 have n1:¬ o.1=1:=by omega
 have n5:¬ o.1=5:=by omega
 have n6:¬ o.1=6:=by omega
 have n8:¬ o.1=8:=by omega
 have n9:¬ o.1=9:=by omega
 have gY:(cP p.1 p.2.1 o).2.1=false:=by
  rw[gS.2.2]
  unfold eN
  rw[if_neg n1,if_neg n9,if_neg (by omega),if_neg n5,if_neg n6,if_neg (by unfold gt;rw[hk];decide)]
 refine qN hp ho h h2 ?_ ?_
 ·rw[decide_eq_false n1,cond_false,gY,cond_false,decide_eq_false n5,cond_false,decide_eq_false n6,cond_false,decide_eq_false n8,cond_false,decide_eq_true hk,cond_true,tn hp.2.2 hj dw n6]
  rfl
 ·refine ag (k:=0) λk _=>(cE.ae k _).trans ?_
  unfold cE.p
  rw[kY hp.1 hp.2.2]
  simp only[Option.bind_some]
  rw[fV _ _ hl]
  simp only[Option.bind_some]
  rw[decide_eq_false n1,cond_false,decide_eq_false n5,cond_false,decide_eq_false n6,cond_false,decide_eq_true hk,cond_true,dw,vI hl hj]
  simp only[Option.bind_some]
  rw[gY,cond_false]
theorem Ce (hk:o.1=8) {j:Nat} (hj:j < List.length p.2.1) (dw:gX p.2.1 o.2.1=(j:Int)):∃ t,Good t/\t.length<=24/\ic p o ((0:Int),(0:Int),(t,p.2.1.take j++p.2.1.drop (j+1),p.2.2.1,()),())/\bd p.1 (br (p.2.1[j]).2.1)=some t:=by
 have P:=aU h
 have gS:=jH P h2
 have hl:=hp.2.2.1
 have n1:¬ o.1=1:=by omega
 have n5:¬ o.1=5:=by omega
 have n6:¬ o.1=6:=by omega
 have n7:¬ o.1=7:=by omega
 have n9:¬ o.1=9:=by omega
 have gY:(cP p.1 p.2.1 o).2.1=false:=by
  rw[gS.2.2]
  unfold eN
  rw[if_neg n1,if_neg n9,if_neg (by omega),if_neg n5,if_neg n6,if_neg (by unfold gt;rw[hk];decide)]
 obtain ⟨t,ht⟩:=iF P hj
 have T:=eo P.gb
 have hm:p.2.1[j] ∈ (p.2.1:List Tx):=List.getElem_mem hj
 have hu:=T.ng _ hm
 have hc:=fM (T.ch _ hm)
 have rE:=B6 (hp.2.2.2 _ hm).2.2.2
 have hg:=fL _ _ _ P.dP hc ht
 have Bl:(br (p.2.1[j]).2.1).length<=12:=by rw[nE];exact hu
 have Nu:=P.len
 refine ⟨t,hg.1,by omega,qN hp ho h h2 ?_ ?_,ht⟩
 ·rw[decide_eq_false n1,cond_false,gY,cond_false,decide_eq_false n5,cond_false,decide_eq_false n6,cond_false,decide_eq_true hk,cond_true,tn hp.2.2 hj dw n6]
  simp only[Option.bind_some]
  rw[wu (p:=(p.1,p.2.1,p.2.2.1,())) P.dP P.len hc rE Bl ht]
  rfl
 ·refine ag (k:=0) λk _=>(cE.ae k _).trans ?_
  unfold cE.p
  rw[kY hp.1 hp.2.2]
  simp only[Option.bind_some]
  rw[fV _ _ hl]
  simp only[Option.bind_some]
  have cw:(0:Int)<=(j:Int)/\(j:Int) < (List.length p.2.1:Int):=by omega
  have rN:(p.2.1:List Tx).set j p.2.1[j]=p.2.1:=List.set_getElem_self hj
  rw[decide_eq_false n1,cond_false,decide_eq_false n5,cond_false,decide_eq_false n6,cond_false,decide_eq_false n7,cond_false,decide_eq_true hk,cond_true,dw,if_pos cw,Int.toNat_natCast]
  simp only[List.getElem?_eq_getElem hj,Option.bind_some,rN]
  rw[qj _ _ P.dP (T.ch _ hm) (by omega),ht]
  simp only[Option.bind_some]
  rw[vI hl hj]
  simp only[Option.bind_some]
  rw[gY,cond_false]
theorem DX (hk:o.1=5) {j:Nat} (hj:j < List.length p.2.1) (dw:gX p.2.1 o.2.1=(j:Int)):ic p o ((0:Int),(List.length (p.2.1[j]).2.2.1:Int),(p.1,p.2.1.set j (nX p.2.1[j]),p.2.2.1,()),()):=by
 have P:=aU h
 have gS:=jH P h2
 have hl:=hp.2.2.1
 have n1:¬ o.1=1:=by omega
 have n9:¬ o.1=9:=by omega
 have hF:=h2
 rw[gS.2.2] at hF
 have gY:(cP p.1 p.2.1 o).2.1=false:=by
  rw[gS.2.2]
  unfold eN
  rw[if_neg n1,if_neg n9,if_neg (by omega),if_pos hk]
  split <;> rfl
 have Sq:List.length (p.2.1[j]).2.2.1<=8:=by
  unfold eN at hF
  rw[if_neg n1,if_neg n9,if_neg (by omega),if_pos hk] at hF
  split at hF
  ·cases hF
  ·rename_i hn
   unfold lI at hn
   rw[dw,Int.toNat_natCast,List.getElem?_eq_getElem hj] at hn
   simp only[decide_eq_true_eq] at hn
   omega
 refine qN hp ho h h2 ?_ ?_
 ·rw[decide_eq_false n1,cond_false,gY,cond_false,decide_eq_true hk,cond_true,Ag hp.2.2 hj dw Sq]
  rfl
 ·refine ag (k:=0) λk _=>(cE.ae k _).trans ?_
  unfold cE.p
  rw[kY hp.1 hp.2.2]
  simp only[Option.bind_some]
  rw[fV _ _ hl]
  simp only[Option.bind_some]
  have cw:(0:Int)<=(j:Int)/\(j:Int) < (List.length p.2.1:Int):=by omega
  have rN:(p.2.1:List Tx).set j p.2.1[j]=p.2.1:=List.set_getElem_self hj
  have c1:List.length (p.2.1[j]).2.2.1+[(List.length (p.2.1[j]).2.1:Int)].length<=bV:=cm (by simp only[List.length_cons,List.length_nil];omega)
  rw[decide_eq_false n1,cond_false,decide_eq_true hk,cond_true,dw]
  simp only[cw,and_self,if_true,Int.toNat_natCast,List.getElem?_eq_getElem hj,Option.bind_some,rN]
  rw[if_pos c1]
  rw[gY,cond_false]
  rfl
end
end OT
set_option linter.unusedVariables false
set_option linter.unusedSimpArgs false
set_option linter.unusedSectionVars false
namespace OT
open Go
theorem Cf {n:Int}:∀ (ms:List Int) (i:Nat) (last:Int),0<=last->aX (λ_ last m=>if bK m last n then .inr m else .inl false) (λ_=>true) i ms last=true->∀ m ∈ ms,0<=m/\m<=n
 | [],_,_,_,_,_,h=>by cases h
 | x::ms,i,last,h0,h,m,hm=>by
  simp only[aX] at h
  by_cases hx:bK x last n=true
  ·rw[if_pos hx] at h
   unfold bK at hx
   simp only[Bool.and_eq_true,decide_eq_true_eq] at hx
   rcases List.mem_cons.1 hm with h1 | h1
   ·rw[h1];omega
   ·exact Cf ms (i+1) x (by omega) h m h1
  ·rw[if_neg hx] at h
   cases h
theorem Cg {x:Tx} (h:jv x=0):∀ m ∈ (x.2.2.1:List Int),0<=m/\m<=(List.length x.2.1:Int):=by
 unfold jv at h
 split at h
 ·unfold jf at h
  split at h
  ·cases h
  ·split at h
   ·rename_i hm
    exact Cf _ 0 0 (Int.le_refl 0) hm
   ·cases h
 ·rename_i hn;exact absurd h hn
section
variable {p:Plain} {o:Op} (hp:oB p) (ho:rl o.2.2.1) (h:bt p=0) (h2:(cP p.1 p.2.1 o).1=0)
include hp ho h h2
theorem DY (hk:o.1=6) {j:Nat} (hj:j < List.length p.2.1) (dw:gX p.2.1 o.2.1=(j:Int)):∃ (t:List Row) (n m:Nat),Good t/\t.length<=24/\ic p o ((0:Int),(0:Int),(t,p.2.1.set j (ql p.2.1[j] n m),p.2.2.1,()),())/\o.2.2.2.1=(m:Int)/\(p.2.1[j]).2.2.1[m]?=some (n:Int)/\n<=List.length (p.2.1[j]).2.1/\bd p.1 (br ((p.2.1[j]).2.1.drop n))=some t:=by
 have P:=aU h
 have gS:=jH P h2
 have hl:=hp.2.2.1
 have n1:¬ o.1=1:=by omega
 have n5:¬ o.1=5:=by omega
 have n9:¬ o.1=9:=by omega
 have hF:=h2
 rw[gS.2.2] at hF
 have gY:(cP p.1 p.2.1 o).2.1=false:=by
  rw[gS.2.2]
  unfold eN
  rw[if_neg n1,if_neg n9,if_neg (by omega),if_neg n5,if_pos hk]
  split <;> rfl
 have Sr:o.2.2.2.1 < (List.length (p.2.1[j]).2.2.1:Int):=by
  unfold eN at hF
  rw[if_neg n1,if_neg n9,if_neg (by omega),if_neg n5,if_pos hk] at hF
  split at hF
  ·cases hF
  ·rename_i hn
   unfold lI at hn
   rw[dw,Int.toNat_natCast,List.getElem?_eq_getElem hj] at hn
   simp only[decide_eq_true_eq] at hn
   omega
 have Ps:0<=o.2.2.2.1:=by
  have:=gS.1
  unfold ga at this
  split at this
  ·cases this
  ·split at this
   ·cases this
   ·rename_i hn
    simp only[Bool.or_eq_true,not_or,Bool.not_eq_true',Bool.not_eq_false] at hn
    have h3:=hn.2
    unfold bK at h3
    simp only[Bool.and_eq_true,decide_eq_true_eq] at h3
    exact h3.1
 have T:=eo P.gb
 have hm:p.2.1[j] ∈ (p.2.1:List Tx):=List.getElem_mem hj
 obtain ⟨m,ns⟩:∃ m:Nat,o.2.2.2.1=(m:Int):=⟨o.2.2.2.1.toNat,by omega⟩
 have vH:m < List.length (p.2.1[j]).2.2.1:=by omega
 have DJ:=Cg (rO P.gb _ hm).2 _ (List.getElem_mem vH)
 obtain ⟨n,ci⟩:∃ n:Nat,(p.2.1[j]).2.2.1[m]=(n:Int):=⟨((p.2.1[j]).2.2.1[m]).toNat,by omega⟩
 have hn:(p.2.1[j]).2.2.1[m]?=some (n:Int):=by rw[List.getElem?_eq_getElem vH,ci]
 have mG:n<=List.length (p.2.1[j]).2.1:=by omega
 obtain ⟨t0,tc⟩:=iF P hj
 obtain ⟨t,ht⟩:=zO tc n
 have hu:=T.ng _ hm
 have DZ:∀ c ∈ (p.2.1[j]).2.1.drop n,ec c=0:=λc hc=>T.ch _ hm c (List.mem_of_mem_drop hc)
 have hc:=fM DZ
 have rE:=B6 (λc hc=>(hp.2.2.2 _ hm).2.2.2 c (List.mem_of_mem_drop hc:c ∈ (p.2.1[j]).2.1):∀ c ∈ (p.2.1[j]).2.1.drop n,cl c)
 have hg:=fL _ _ _ P.dP hc ht
 have Bl:(br ((p.2.1[j]).2.1.drop n)).length<=12:=by rw[nE,List.length_drop];omega
 have Nu:=P.len
 refine ⟨t,n,m,hg.1,by omega,qN hp ho h h2 ?_ ?_,ns,hn,mG,ht⟩
 ·rw[decide_eq_false n1,cond_false,gY,cond_false,decide_eq_false n5,cond_false,decide_eq_true hk,cond_true,yS hp.2.2 hj dw hk ns vH hn mG]
  simp only[Option.bind_some]
  rw[wu (p:=(p.1,p.2.1,p.2.2.1,())) P.dP P.len hc rE Bl ht]
  rfl
 ·refine ag (k:=0) λk _=>(cE.ae k _).trans ?_
  unfold cE.p
  rw[kY hp.1 hp.2.2]
  simp only[Option.bind_some]
  rw[fV _ _ hl]
  simp only[Option.bind_some]
  have cw:(0:Int)<=(j:Int)/\(j:Int) < (List.length p.2.1:Int):=by omega
  have rN:(p.2.1:List Tx).set j p.2.1[j]=p.2.1:=List.set_getElem_self hj
  rw[decide_eq_false n1,cond_false,decide_eq_false n5,cond_false,decide_eq_true hk,cond_true,dw,if_pos cw,Int.toNat_natCast]
  simp only[List.getElem?_eq_getElem hj,Option.bind_some,rN]
  rw[ns,Ft (hp.2.2.2 _ hm) vH hn mG]
  simp only[Option.bind_some]
  rw[qj _ _ P.dP DZ (by rw[List.length_drop];omega),ht]
  simp only[Option.bind_some]
  rw[gY,cond_false]
theorem u0 (n1:¬ o.1=1) (n5:¬ o.1=5) (n6:¬ o.1=6) (n7:¬ o.1=7) (n8:¬ o.1=8) (gY:(cP p.1 p.2.1 o).2.1=false):ic p o ((0:Int),(0:Int),(p.1,p.2.1,p.2.2.1,()),()):=by
 have hl:=hp.2.2.1
 refine qN hp ho h h2 ?_ ?_
 ·rw[decide_eq_false n1,cond_false,gY,cond_false,decide_eq_false n5,cond_false,decide_eq_false n6,cond_false,decide_eq_false n8,cond_false,decide_eq_false n7,cond_false]
 ·refine ag (k:=0) λk _=>(cE.ae k _).trans ?_
  unfold cE.p
  rw[kY hp.1 hp.2.2]
  simp only[Option.bind_some]
  rw[fV _ _ hl]
  simp only[Option.bind_some]
  rw[decide_eq_false n1,cond_false,decide_eq_false n5,cond_false,decide_eq_false n6,cond_false,decide_eq_false n7,cond_false,decide_eq_false n8,cond_false,gY,cond_false]
theorem D0 (hk:gt o.1=true) {j:Nat} (hj:j < List.length p.2.1) (dw:gX p.2.1 o.2.1=(j:Int)) (qm:(p.2.1[j]).1=o.2.1) (gY:(cP p.1 p.2.1 o).2.1=true):Good (dQ p.1 (aS p.1 o).1)/\(dQ p.1 (aS p.1 o).1).length<=24/\ic p o ((0:Int),(0:Int),(dQ p.1 (aS p.1 o).1,ln p.2.1 j (aS p.1 o).1,p.2.2.1,()),()):=by
 have P:=aU h
 have gS:=jH P h2
 have hl:=hp.2.2.1
 have ta:o.1=2\/o.1=3\/o.1=4:=by
  unfold gt at hk
  simpa using hk
 have n1:¬ o.1=1:=by omega
 have n5:¬ o.1=5:=by omega
 have n6:¬ o.1=6:=by omega
 have n7:¬ o.1=7:=by omega
 have n8:¬ o.1=8:=by omega
 have n9:¬ o.1=9:=by omega
 have hF:eN p.1 p.2.1 o=h_ p.1 p.2.1 o:=by
  unfold eN
  rw[if_neg n1,if_neg n9,if_neg (by omega),if_neg n5,if_neg n6,if_pos hk]
 have xT:cY o.2.2.1=0:=by
  have:=gS.1
  unfold ga at this
  split at this
  ·cases this
  ·split at this
   ·cases this
   ·exact this
 have ht:(h_ p.1 p.2.1 o).2.1=true:=by rw[<-hF,<- gS.2.2];exact gY
 obtain ⟨r1,r2,r3,r4,r5,r6⟩:=ma ht
 obtain ⟨w1,w2,w3,w4⟩:=lq P.dP xT r2
 have Py:cP p.1 p.2.1 o=(0,true,(aS p.1 o).1,()):=by rw[gS.2.2,hF,r6]
 have hN:=HB P xT hj dw qm ht
 have hb:bd p.1 [(aS p.1 o).1]=some (dQ p.1 (aS p.1 o).1):=by
  simp only[bd,w3,if_true]
 have Nu:=P.len
 have O8:=qe p.1 (aS p.1 o).1
 have xu:=gk P.dP w1
 refine ⟨xu,by omega,qN hp ho h h2 ?_ ?_⟩
 ·rw[Py]
  simp only
  rw[decide_eq_false n1,cond_false,cond_true,wu (p:=(p.1,p.2.1,p.2.2.1,())) P.dP P.len (λc hc=>by rw[List.mem_singleton] at hc;rw[hc];exact w1) (λc hc=>by rw[List.mem_singleton] at hc;rw[hc];exact w4) (by simp) hb]
  simp only[Option.bind_some]
  rw[B_ _ _ _ hp.2.2 w4,hN]
  rfl
 ·refine ag (k:=0) λk _=>(cE.ae k _).trans ?_
  unfold cE.p
  rw[kY hp.1 hp.2.2]
  simp only[Option.bind_some]
  rw[fV _ _ hl,Py]
  simp only[Option.bind_some]
  rw[decide_eq_false n1,cond_false,decide_eq_false n5,cond_false,decide_eq_false n6,cond_false,decide_eq_false n7,cond_false,decide_eq_false n8,cond_false,cond_true,uh _ _ P.dP.1 (by omega) (lm w1).1,w3]
  simp only[Option.bind_some,if_true]
  rw[dw,vG _ _ _ hp.2.2 hj]
  rfl
end
theorem D1 {e:Ty} (xs:List e.den) (n:Nat):zz (.aa e) (xs.take n)<=zz (.aa e) xs/\zz (.aa e) (xs.drop n)<=zz (.aa e) xs:=by
 have:=kS (e:=e) (xs.take n) (xs.drop n)
 rw[List.take_append_drop] at this
 omega
theorem Fu (rows:List Row) (o:Op):zz ay (aS rows o).1<=zz (.aa aj) rows+zz fm o:=by
 have hc:∀ (a b:Bool) (x y:Row),zz ay (a,x,b,y,())=zz aj x+zz aj y:=λa b x y=>by
  show 0+(zz aj x+(0+(zz aj y+0)))=_
  omega
 have ho:zz fm o=0+(0+(zz aj o.2.2.1+(0+0))):=rfl
 have h0:zz aj qL=0:=rfl
 unfold aS
 simp only
 split
 ·exact Nat.zero_le _
 split
 ·exact Nat.zero_le _
 refine Nat.le_trans (Nat.le_of_eq (hc _ _ _ _)) ?_
 have h1:∀ r:Row,(r=qL\/r ∈ rows)->zz aj r<=zz (.aa aj) rows:=λr hr=>by
  rcases hr with hr | hr
  ·rw[hr];exact Nat.zero_le _
  ·have:zz aj r+1<=zz (.aa aj) rows:=t9 (e:=aj) hr
   omega
 refine Nat.add_le_add (h1 _ ?_) ?_
 ·split
  ·cases hg:rows[pos rows (o.2.2.1.1,o.2.2.1.2.1)]? with
   | none=>exact .inl rfl
   | some x=>exact .inr (List.mem_of_getElem? hg)
  ·exact .inl rfl
 ·split
  ·exact Nat.zero_le _
  ·omega
theorem wv {e:Ty} (xs:List e.den) (j:Nat) (hj:j < xs.length):zz (.aa e) xs=zz (.aa e) (xs.take j)+(zz e xs[j]+1)+zz (.aa e) (xs.drop (j+1)):=by
 have h1:=kS (e:=e) (xs.take j) (xs.drop j)
 rw[List.take_append_drop] at h1
 have h2:=yJ (e:=e) xs[j] (xs.drop (j+1))
 rw[<-List.drop_eq_getElem_cons hj] at h2
 omega
theorem Lt {e:Ty} (xs:List e.den) (j:Nat) (hj:j < xs.length) (y:e.den):zz (.aa e) (xs.set j y)+zz e xs[j]=zz (.aa e) xs+zz e y:=by
 have h1:=wv xs j hj
 have h2:=wv (xs.set j y) j (by rw[List.length_set];exact hj)
 rw[List.getElem_set_self,List.take_set_of_le (Nat.le_refl _),List.drop_set_of_lt (Nat.lt_succ_self _)] at h2
 have h3:zz (.aa e) (xs.drop j.succ)=zz (.aa e) (xs.drop (j+1)):=rfl
 omega
theorem Lu {e:Ty} (xs:List e.den) (j:Nat) (hj:j < xs.length):zz (.aa e) (xs.take j++xs.drop (j+1))+(zz e xs[j]+1)=zz (.aa e) xs:=by
 have h1:=wv xs j hj
 have h2:=kS (e:=e) (xs.take j) (xs.drop (j+1))
 omega
theorem yV {p:Plain} {o:Op} (hp:oB p) (ho:rl o.2.2.1):∃ R,ic p o R/\zz eB R<=zz bJ p+3000:=by
 have Ss:zz bJ p=zz (.aa aj) p.1+(zz (.aa aB) p.2.1+(0+0)):=rfl
 have hR:∀ (c v n:Int) (rows:List Row) (xs:List Tx),zz eB (c,v,(rows,xs,n,()),())=zz (.aa aj) rows+zz (.aa aB) xs:=λc v n rows xs=>by
  show 0+(0+((zz (.aa aj) rows+(zz (.aa aB) xs+(0+0)))+0))=_
  omega
 have I9:∀ c:Int,zz eB (nY c)<=zz bJ p+3000:=λc=>Nat.zero_le _
 by_cases h:bt p=0
 rotate_left
 ·exact ⟨_,HC hp h,I9 _⟩
 by_cases h2:(cP p.1 p.2.1 o).1=0
 rotate_left
 ·exact ⟨_,DW hp ho h h2,I9 _⟩
 have P:=aU h
 obtain ⟨c1,c2,c3⟩:=jH P h2
 have Aw:∀ t:List Row,Good t->t.length<=24->zz (.aa aj) t<=1000:=λt hg hl=>by
  have:=DQ (xs:=t) hg.2
  omega
 by_cases k1:o.1=1
 ·obtain ⟨R,hs,hr | ⟨n,m,hr⟩⟩:=I8 hp ho h h2 k1
  ·exact ⟨R,hs,by rw[hr];exact I9 _⟩
  ·refine ⟨R,hs,?_⟩
   rw[hr]
   refine Nat.le_trans (Nat.le_of_eq (hR _ _ _ _ _)) ?_
   have h1:zz (.aa aB) (p.2.1++[(n,([]:List Change),([]:List Int),([]:List Key),())])=zz (.aa aB) p.2.1+1:=kS (e:=aB) p.2.1 [(n,([]:List Change),([]:List Int),([]:List Key),())]
   omega
 by_cases k9:o.1=9
 ·refine ⟨_,u0 hp ho h h2 (by omega) (by omega) (by omega) (by omega) (by omega) ?_,?_⟩
  ·rw[c3]
   unfold eN
   rw[if_neg k1,if_pos k9]
  ·refine Nat.le_trans (Nat.le_of_eq (hR _ _ _ _ _)) ?_
   omega
 have hF:=h2
 rw[c3] at hF
 have D2:¬ gX p.2.1 o.2.1 < 0:=λhn=>by
  unfold eN at hF
  rw[if_neg k1,if_neg k9,if_pos hn] at hF
  cases hF
 obtain ⟨j,hj,dw,qm⟩:=at_mem D2
 have T4:zz aB p.2.1[j]+1<=zz (.aa aB) p.2.1:=t9 (e:=aB) (List.getElem_mem hj)
 have SW:zz (.aa aB) (p.2.1.take j++p.2.1.drop (j+1))+(zz aB p.2.1[j]+1)=zz (.aa aB) p.2.1:=Lu (e:=aB) p.2.1 j hj
 have pJ:∀ y:Tx,zz (.aa aB) ((p.2.1:List Tx).set j y)+zz aB p.2.1[j]=zz (.aa aB) p.2.1+zz aB y:=λy=>Lt (e:=aB) p.2.1 j hj y
 have SX:zz (.aa aj) p.1<=1000:=Aw p.1 P.dP (by have:=P.len;omega)
 by_cases k5:o.1=5
 ·refine ⟨_,DX hp ho h h2 k5 hj dw,?_⟩
  refine Nat.le_trans (Nat.le_of_eq (hR _ _ _ _ _)) ?_
  have a:=pJ (nX p.2.1[j])
  have b:zz aB (nX p.2.1[j])<=zz aB p.2.1[j]+10:=by
   have c:zz (.aa i64) ((p.2.1[j]).2.2.1++[(List.length (p.2.1[j]).2.1:Int)])=zz (.aa i64) (p.2.1[j]).2.2.1+1:=kS (e:=i64) (p.2.1[j]).2.2.1 [(List.length (p.2.1[j]).2.1:Int)]
   have d:zz aB (nX p.2.1[j])=0+(zz (.aa ay) (p.2.1[j]).2.1+(zz (.aa i64) ((p.2.1[j]).2.2.1++[(List.length (p.2.1[j]).2.1:Int)])+(zz (.aa aF) (p.2.1[j]).2.2.2.1+0))):=rfl
   have e:zz aB p.2.1[j]=0+(zz (.aa ay) (p.2.1[j]).2.1+(zz (.aa i64) (p.2.1[j]).2.2.1+(zz (.aa aF) (p.2.1[j]).2.2.2.1+0))):=rfl
   omega
  omega
 by_cases k6:o.1=6
 ·obtain ⟨t,n,m,hg,hl,hs,_⟩:=DY hp ho h h2 k6 hj dw
  refine ⟨_,hs,?_⟩
  refine Nat.le_trans (Nat.le_of_eq (hR _ _ _ _ _)) ?_
  have:=Aw t hg hl
  have a:=pJ (ql p.2.1[j] n m)
  have b:zz aB (ql p.2.1[j] n m)<=zz aB p.2.1[j]:=by
   have c:zz (.aa ay) ((p.2.1[j]).2.1.take n)<=zz (.aa ay) (p.2.1[j]).2.1:=(D1 (e:=ay) (p.2.1[j]).2.1 n).1
   have c':zz (.aa i64) ((p.2.1[j]).2.2.1.take (m+1))<=zz (.aa i64) (p.2.1[j]).2.2.1:=(D1 (e:=i64) (p.2.1[j]).2.2.1 (m+1)).1
   have d:zz aB (ql p.2.1[j] n m)=0+(zz (.aa ay) ((p.2.1[j]).2.1.take n)+(zz (.aa i64) ((p.2.1[j]).2.2.1.take (m+1))+(zz (.aa aF) (p.2.1[j]).2.2.2.1+0))):=rfl
   have e:zz aB p.2.1[j]=0+(zz (.aa ay) (p.2.1[j]).2.1+(zz (.aa i64) (p.2.1[j]).2.2.1+(zz (.aa aF) (p.2.1[j]).2.2.2.1+0))):=rfl
   omega
  omega
 by_cases k7:o.1=7
 ·refine ⟨_,zR hp ho h h2 k7 hj dw,?_⟩
  refine Nat.le_trans (Nat.le_of_eq (hR _ _ _ _ _)) ?_
  omega
 by_cases k8:o.1=8
 ·obtain ⟨t,hg,hl,hs,_⟩:=Ce hp ho h h2 k8 hj dw
  refine ⟨_,hs,?_⟩
  refine Nat.le_trans (Nat.le_of_eq (hR _ _ _ _ _)) ?_
  have:=Aw t hg hl
  omega
 have zQ:gt o.1=true:=by
  unfold bK at c2
  simp only[Bool.and_eq_true,decide_eq_true_eq] at c2
  have:o.1=2\/o.1=3\/o.1=4:=by omega
  unfold gt
  simpa using this
 cases ht:(cP p.1 p.2.1 o).2.1 with
 | false=>
  refine ⟨_,u0 hp ho h h2 k1 k5 k6 k7 k8 ht,?_⟩
  refine Nat.le_trans (Nat.le_of_eq (hR _ _ _ _ _)) ?_
  omega
 | true=>
  obtain ⟨hg,hl,hs⟩:=D0 hp ho h h2 zQ hj dw qm ht
  refine ⟨_,hs,?_⟩
  refine Nat.le_trans (Nat.le_of_eq (hR _ _ _ _ _)) ?_
  have:=Aw _ hg hl
  unfold ln
  rw[List.getElem?_eq_getElem hj]
  simp only
  have a:=pJ (iq p.2.1[j] (aS p.1 o).1)
  have b:zz aB (iq p.2.1[j] (aS p.1 o).1)<=zz aB p.2.1[j]+1020:=by
   have hw:=Fu p.1 o
   have Gx:zz fm o<=8:=by
    have h1:cY o.2.2.1=0:=by
     have:=c1
     unfold ga at this
     split at this
     ·cases this
     ·split at this
      ·cases this
      ·simpa [zQ] using this
    have h2:=jK h1
    have h3:zz fm o=0+(0+((0+(0+(0+(List.length o.2.2.1.2.2.2.1+0))))+(0+0))):=rfl
    omega
   have c:zz (.aa ay) ((p.2.1[j]).2.1++[(aS p.1 o).1])=zz (.aa ay) (p.2.1[j]).2.1+zz (.aa ay) [(aS p.1 o).1]:=kS (e:=ay) _ _
   have c2:zz (.aa ay) [(aS p.1 o).1]=1+(zz ay (aS p.1 o).1+0):=rfl
   have d:zz aB (iq p.2.1[j] (aS p.1 o).1)=0+(zz (.aa ay) ((p.2.1[j]).2.1++[(aS p.1 o).1])+(zz (.aa i64) (p.2.1[j]).2.2.1+(zz (.aa aF) (if cq (p.2.1[j]).2.2.2.1 (cZ (aS p.1 o).1) then (p.2.1[j]).2.2.2.1 else (p.2.1[j]).2.2.2.1++[cZ (aS p.1 o).1])+0))):=rfl
   have e:zz aB p.2.1[j]=0+(zz (.aa ay) (p.2.1[j]).2.1+(zz (.aa i64) (p.2.1[j]).2.2.1+(zz (.aa aF) (p.2.1[j]).2.2.2.1+0))):=rfl
   have f0:∀ (b:Bool) (L:List Key) (q:Key),zz (.aa aF) (if b=true then L else L++[q])<=zz (.aa aF) L+1:=λb L q=>by
    cases b
    ·exact Nat.le_of_eq (kS (e:=aF) L [q])
    ·exact Nat.le_succ _
   have f:=f0 (cq (p.2.1[j]).2.2.2.1 (cZ (aS p.1 o).1)) (p.2.1[j]).2.2.2.1 (cZ (aS p.1 o).1)
   omega
  omega
end OT
set_option linter.unusedVariables false
set_option linter.unusedSimpArgs false
namespace OT
open Go
def pb (D:List UInt8) (i:Nat):Nat:=(D.getD i 0).toNat
theorem HD {D:List UInt8} {i:Nat} (h:i < D.length):D[i]?=some D[i]/\(D[i]).toNat=pb D i:=⟨List.getElem?_eq_getElem h,by simp[pb,h]⟩
theorem HE {A B:List UInt8} (h:A.length=B.length) (h2:∀ j,j < A.length->pb A j=pb B j):A=B:=by
 refine List.ext_getElem h λi h1 h3=>?_
 have:=h2 i h1
 rw[<-(HD h1).2,<- (HD h3).2] at this
 exact UInt8.toNat_inj.1 this
theorem I_ (D:List UInt8) (a n j:Nat) (h:j < n):pb ((D.drop a).take n) j=pb D (a+j):=by
 grind [pb]
def pn (p:List UInt8):Nat:=pb p 0
def uA (p:List UInt8):Nat:=pb p 1
def pat (p:List UInt8) (i:Nat):Nat:=pb p (2+2*i)
def fh (p:List UInt8) (i:Nat):Nat:=pb p (3+2*i)
def Ox (p:List UInt8) (i:Nat):Bool:=if pat p i=0\/fh p i=0 then decide (pat p i=fh p i) else decide (uA p<=pat p i)&&decide (pat p i+fh p i<=64)
def Nv (p:List UInt8) (i k:Nat):Bool:=(decide (fh p i=0)||decide (fh p k=0))||(decide (pat p i+fh p i<=pat p k)||decide (pat p k+fh p k<=pat p i))
def KG (p:List UInt8):Int:=
 if p.length=64 then
  if pn p<=16/\2+2*pn p<=uA p/\uA p<=64 then
   if (List.range (pn p)).all (Ox p) then
    if (List.range (pn p)).all (λi=>(List.range i).all (Nv p i)) then
     if 0 < pn p/\fh p (pn p - 1)=0 then 8 else 0
    else 8
   else 3
  else 3
 else 1
structure jI (p:List UInt8):Prop where
 len:p.length=64
 n:pn p<=16
 lo:2+2*pn p<=uA p
 hi:uA p<=64
 slot:∀ i,i < pn p->fh p i≠0->uA p<=pat p i/\pat p i+fh p i<=64
 zero:∀ i,i < pn p->fh p i=0->pat p i=0
 apart:∀ i k,i < pn p->k < pn p->i≠k->fh p i≠0->fh p k≠0->pat p i+fh p i<=pat p k\/pat p k+fh p k<=pat p i
 last:0 < pn p->fh p (pn p - 1)≠0
def jg (p:List UInt8) (i:Nat):List UInt8:=(p.drop (pat p i)).take (fh p i)
def cellOf (p:List UInt8) (i:Nat):List UInt8:=if i < pn p then jg p i else []
theorem uB {p:List UInt8} (h:jI p) {i:Nat} (hi:i < pn p):(jg p i).length=fh p i:=by
 unfold jg
 by_cases hz:fh p i=0
 ·simp[hz]
 ·have:=h.slot i hi hz
  have:=h.len
  grind
theorem Ch (p:List UInt8) (i j:Nat) (h:j < fh p i):pb (jg p i) j=pb p (pat p i+j):=I_ p _ _ j h
theorem Ja {p q:List UInt8} {i k:Nat} (hp:(jg p i).length=fh p i) (hq:(jg q k).length=fh q k) (hs:fh p i=fh q k) (hb:∀ j,j < fh p i->pb p (pat p i+j)=pb q (pat q k+j)):jg p i=jg q k:=by
 grind [HE,Ch]
theorem Jb {p c:List UInt8} {i:Nat} (hp:(jg p i).length=fh p i) (hs:fh p i=c.length) (hb:∀ j,j < c.length->pb p (pat p i+j)=pb c j):jg p i=c:=by
 grind [HE,Ch]
def SY (p:List UInt8) (s a:Nat) (c:List UInt8):List UInt8:=((lA p a c.length c).set (2+2*s) (UInt8.ofNat a)).set (3+2*s) (UInt8.ofNat c.length)
structure oG (p q:List UInt8) (s a m:Nat):Prop where
 len:q.length=64
 n:pn q=pn p\/(pn q=pn p+1/\s=pn p)
 Nw:s < pn q
 n16:pn q<=16
 lo:2+2*pn q<=uA q
 Su:uA q<=uA p
 at_:pat q s=a
 sz:fh q s=m
 pos:0 < m
 Qw:uA q<=a
 Qx:a+m<=64
 Ci:∀ i,i < pn q->i≠s->pat q i=pat p i/\fh q i=fh p i
 free:∀ i,i < pn p->i≠s->fh p i≠0->a+m<=pat p i\/pat p i+fh p i<=a
 same:∀ j,uA p<=j->j < 64->(j < a\/a+m<=j)->pb q j=pb p j
theorem oG.ok {p q:List UInt8} {s a m:Nat} (t:oG p q s a m) (h:jI p):jI q:=by
 have aE:∀ i,i < pn q->i≠s->i < pn p:=λi hi hs=>by rcases t.n with h1 | ⟨h1,h2⟩ <;> omega
 have ha:=t.at_
 have hm:=t.sz
 have vV:=t.pos
 have A6:=t.Qw
 have QU:=t.Qx
 have Tf:=t.Su
 have hh:=h.hi
 refine ⟨t.len,t.n16,t.lo,by omega,λi hi hz=>?_,λi hi hz=>?_,λi k hi hk Pz z1 z2=>?_,λhn=>?_⟩
 ·by_cases hs:i=s
  ·grind
  ·obtain ⟨h1,h2⟩:=t.Ci i hi hs
   have:=h.slot i (aE i hi hs) (by omega)
   omega
 ·by_cases hs:i=s
  ·grind
  ·obtain ⟨h1,h2⟩:=t.Ci i hi hs
   have:=h.zero i (aE i hi hs) (by omega)
   omega
 ·by_cases hs:i=s
  ·subst hs
   have KD:k≠i:=λe=>Pz e.symm
   obtain ⟨h1,h2⟩:=t.Ci k hk KD
   have:=t.free k (aE k hk KD) KD (by omega)
   omega
  ·obtain ⟨h1,h2⟩:=t.Ci i hi hs
   by_cases ol:k=s
   ·subst ol
    have:=t.free i (aE i hi hs) hs (by omega)
    omega
   ·obtain ⟨h3,h4⟩:=t.Ci k hk ol
    have:=h.apart i k (aE i hi hs) (aE k hk ol) Pz (by omega) (by omega)
    omega
 ·by_cases hs:pn q - 1=s
  ·rw[hs];omega
  ·obtain ⟨h1,h2⟩:=t.Ci (pn q - 1) (by omega) hs
   have hq:pn q=pn p:=by
    rcases t.n with h3 | ⟨h3,h4⟩
    all_goals grind
   rw[h2,hq]
   exact h.last (by omega)
theorem oG.Fx {p q:List UInt8} {s a m:Nat} (t:oG p q s a m) (h:jI p) {i:Nat} (hi:i < pn q) (hs:i≠s):jg q i=jg p i:=by
 have xt:i < pn p:=by rcases t.n with h1 | ⟨h1,h2⟩ <;> omega
 obtain ⟨h1,h2⟩:=t.Ci i hi hs
 refine Ja (uB (t.ok h) hi) (uB h xt) h2 λj hj=>?_
 have hz:fh p i≠0:=by omega
 have h3:=h.slot i xt hz
 have h4:=t.free i xt hs hz
 rw[h1]
 exact t.same _ (by omega) (by omega) (by omega)
theorem oG.HF {p q:List UInt8} {s a:Nat} {c:List UInt8} (t:oG p q s a c.length) (h:jI p) (hc:∀ j,j < c.length->pb q (a+j)=pb c j):jg q s=c:=
 Jb (uB (t.ok h) t.Nw) t.sz λj hj=>by rw[t.at_];exact hc j hj
theorem oG.cells {p q:List UInt8} {s a:Nat} {c:List UInt8} (t:oG p q s a c.length) (h:jI p) (hc:∀ j,j < c.length->pb q (a+j)=pb c j) (i:Nat):cellOf q i=if i=s then c else cellOf p i:=by
 have hs:=t.Nw
 unfold cellOf
 by_cases th:i=s
 ·subst th
  rw[if_pos hs,if_pos rfl,t.HF h hc]
 ·rw[if_neg th]
  by_cases hi:i < pn q
  ·have xt:i < pn p:=by rcases t.n with h1 | ⟨h1,h2⟩ <;> omega
   rw[if_pos hi,if_pos xt,t.Fx h hi th]
  ·have xt:¬ i < pn p:=by rcases t.n with h1 | ⟨h1,h2⟩ <;> omega
   grind
end OT
set_option linter.unusedVariables false
set_option linter.unusedSimpArgs false
namespace OT
open Go
def Fy (p:List UInt8):Nat->Nat
 | 0=>0
 | m+1=>Fy p m+fh p m
structure SZ (p:List UInt8) (k:Nat) (o:List UInt8) (a:Nat):Prop where
 len:o.length=64
 n:pb o 0=pn p
 a:a=64 - Fy p k
 sz:∀ i,i < pn p->fh o i=fh p i
 T5:∀ i,i < pn p->(k<=i\/fh p i=0)->pat o i=pat p i
 new:∀ i,i < k->fh p i≠0->pat o i=64 - Fy p (i+1)/\∀ j,j < fh p i->pb o (64 - Fy p (i+1)+j)=pb p (pat p i+j)
end OT
set_option linter.unusedVariables false
set_option linter.unusedSimpArgs false
namespace OT
open Go
section
variable {p:List UInt8} (hp:p.length=64)
include hp
end
end OT
set_option linter.unusedVariables false
set_option linter.unusedSimpArgs false
namespace OT
open Go
abbrev Ny:Row:=((0:Int),(0:Int),(0:Int),([]:List UInt8),())
abbrev Fz:o7:=((0:Int),(0:Int),(0:Int),(0:Int),Ny,())
def Nz (d:List UInt8):Row:=((pb d 1:Int),(pb d 2:Int),(pb d 3:Int)*256+(pb d 4:Int),d.drop 6,())
def pk (d:List UInt8):o7×Bool:=
 if d.length=3/\pb d 0=1 then (((0:Int),(1:Int),(pb d 1:Int),(pb d 2:Int),Ny,()),decide (pb d 1<=11)&&decide (pb d 2<=15))
 else if d.length < 6\/pb d 0=1\/2 < pb d 0\/d.length≠6+pb d 5 then (Fz,false)
 else (((0:Int),(pb d 0:Int),(0:Int),(0:Int),Nz d,()),decide (cY (Nz d)=0))
section
variable {p:List UInt8} (hp:jI p)
include hp
end
end OT
set_option linter.unusedVariables false
set_option linter.unusedSimpArgs false
namespace OT
open Go
theorem to {α:Type} {lt:α->α->Prop} (has:∀ a b,lt a b->¬ lt b a):∀ (xs ys:List α),xs.Perm ys->xs.Pairwise lt->ys.Pairwise lt->xs=ys
 | [],ys,h,_,_=>(List.nil_perm.1 h).symm
 | x::xs,[],h,_,_=>by have:=h.length_eq;cases this
 | x::xs,y::ys,h,h1,h2=>by
  obtain ⟨J,a2⟩:=List.pairwise_cons.1 h1
  obtain ⟨b1,b2⟩:=List.pairwise_cons.1 h2
  by_cases tD:x=y
  ·subst tD
   rw[to has xs ys ((List.perm_cons x).1 h) a2 b2]
  ·have hx:x ∈ ys:=by
    have:=h.mem_iff.1 (List.mem_cons_self (a:=x) (l:=xs))
    rcases List.mem_cons.1 this with e | e
    ·exact absurd e tD
    ·exact e
   have hy:y ∈ xs:=by
    have:=h.mem_iff.2 (List.mem_cons_self (a:=y) (l:=ys))
    rcases List.mem_cons.1 this with e | e
    ·exact absurd e.symm tD
    ·exact e
   exact absurd (b1 x hx) (has _ _ (J y hy))
theorem zS (xs:List Row) (r:Row):(kV xs r).Perm (r::xs):=by
 unfold kV
 rw[List.append_assoc]
 have:=List.perm_middle (a:=r) (l₁:=xs.take (pos xs (rk r))) (l₂:=xs.drop (pos xs (rk r)))
 rw[List.take_append_drop] at this
 exact this
theorem D3 {xs:List Row} {k:Int×Int} {x:Row} (hu:up xs) (h:x ∈ xs.drop (pos xs k)):cN (rk x) k=false:=by
 obtain ⟨i,hi,e⟩:=List.mem_iff_getElem.1 h
 rw[List.length_drop] at hi
 rw[List.getElem_drop] at e
 rw[<-e]
 exact oy xs k _ _ hu (by omega)
theorem D4 {xs:List Row} {r:Row} (hu:up xs) (hn:∀ x ∈ xs,rk x≠rk r):up (kV xs r):=by
 unfold kV up
 rw[List.append_assoc,List.pairwise_append]
 have hd:=hu.drop (i:=pos xs (rk r))
 refine ⟨hu.take,?_,λa ha b hb=>?_⟩
 ·rw[List.singleton_append,List.pairwise_cons]
  refine ⟨λb hb=>?_,hd⟩
  have h1:=D3 hu hb
  have h2:=hn b (List.mem_of_mem_drop hb)
  cases h3:cN (rk r) (rk b) with
  | true=>rfl
  | false=>exact absurd (sL h1 h3) h2
 ·have h1:=qd ha
  rw[List.singleton_append] at hb
  rcases List.mem_cons.1 hb with e | e
  ·subst e;exact h1
  ·have h2:=D3 hu e
   have h3:=hn b (List.mem_of_mem_drop e)
   cases h4:cN (rk a) (rk b) with
   | true=>rfl
   | false=>
    cases h5:cN (rk b) (rk a) with
    | true=>rw[pg h5 h1] at h2;cases h2
    | false=>
     have:=sL h4 h5
     rw[this] at h1
     rw[h1] at h2;cases h2
theorem Jc {a b:Int×Int} (h:cN a b=true):¬ cN b a=true:=by rw[Hj h];exact λh=>by cases h
theorem HG {xs ys:List Row} (hp:xs.Perm ys) (hx:up xs) (hy:up ys):xs=ys:=to (λa b h=>Jc h) xs ys hp hx hy
theorem Cj {xs:List Row} (h:up xs):(xs.map rk).Nodup:=by
 unfold List.Nodup
 rw[List.pairwise_map]
 refine h.imp λh1 e=>?_
 rw[e,lS] at h1
 cases h1
end OT
set_option linter.unusedVariables false
set_option linter.unusedSimpArgs false
namespace OT
open Go
abbrev jL:Type:=List (List UInt8)
def PA {α β:Type} (g:Nat->α->List β):Nat->List α->List β
 | _,[]=>[]
 | i,x::xs=>g i x++PA g (i+1) xs
def sV (x:gJ):Int:=x.2.2.1.2.1
def HH (x:gJ):Int:=x.2.2.1.2.2.1
def HI (x:gJ):Int:=x.2.2.1.2.2.2.1
def Jd (x:gJ):Row:=x.2.2.1.2.2.2.2.1
def Oy (P:Nat) (p:List UInt8) (s:Nat):List gJ:=if fh p s=0 then [] else [((P:Int),(s:Int),(pk (jg p s)).1,())]
def Lv (P:Nat) (p:List UInt8):List gJ:=(List.range (pn p)).flatMap (Oy P p)
def uC (ps:jL):List gJ:=PA Lv 0 ps
def FA (ps:jL) (a b:Int):o7×Bool:=match ps[a.toNat]? with
 | some p=>if b.toNat < pn p/\fh p b.toNat≠0 then pk (jg p b.toNat) else (Fz,false)
 | none=>(Fz,false)
def NA (p:List UInt8) (s:Nat):Bool:=decide (fh p s=0)||(pk (jg p s)).2
def PB (p:List UInt8):Int:=if KG p=0 then (if (List.range (pn p)).all (NA p) then 0 else 5) else KG p
def HJ (ps:jL) (x:gJ):Bool:=!decide (sV x=1)||((FA ps (HH x) (HI x)).2&&decide ((FA ps (HH x) (HI x)).1.2.1=2))
def NB (x:gJ):Option (Int×Int):=if sV x=1 then some (HH x,HI x) else none
def Lw (x:gJ) (r:Row):gJ:=(x.1,x.2.1,(x.2.2.1.1,x.2.2.1.2.1,x.2.2.1.2.2.1,x.2.2.1.2.2.2.1,r,x.2.2.1.2.2.2.2.2),x.2.2.2)
def Oz (ps:jL) (x:gJ):gJ:=if sV x=1 then Lw x (FA ps (HH x) (HI x)).1.2.2.2.2.1 else x
def OA (ps:jL) (x:gJ):List gJ:=if sV x=2 then [] else [Oz ps x]
def Ax (ps:jL):List gJ:=(uC ps).flatMap (OA ps)
def OB (ps:jL):Int:=
 if (uC ps).all (HJ ps) then
  if ((uC ps).filterMap NB).Nodup then (if ((Ax ps).map λx=>rk (Jd x)).Nodup then 0 else 8) else 6
 else 4
def FB (ps:jL):Int:=if 12 < ps.length then 2 else if jG PB ps=0 then OB ps else jG PB ps
def Ck (ps:jL):Prop:=ps.length<=12/\∀ p ∈ ps,jI p
end OT
set_option linter.unusedVariables false
set_option linter.unusedSimpArgs false
namespace OT
open Go Go.Sort
def Lx (ps:jL):Prop:=Ck ps/\∀ p ∈ ps,∀ s,s < pn p->fh p s≠0->(pk (jg p s)).2=true
def KH (x:gJ):Seen:=(Jd x,x.1,x.2.1,decide (sV x=1),(if sV x=1 then HH x else x.1),(if sV x=1 then HI x else x.2.1),())
def Qy (xs:List Seen) (x:Seen):List Seen:=xs.take (pos (xs.map (·.1)) (rk x.1))++[x]++xs.drop (pos (xs.map (·.1)) (rk x.1))
def KI (l:List Seen):List Seen:=l.foldl Qy []
end OT
set_option linter.unusedVariables false
set_option linter.unusedSimpArgs false
namespace OT
open Go Go.Sort
def KJ (ps:jL):List Seen:=if FB ps=0 then KI ((Ax ps).map KH) else []
end OT
set_option linter.unusedVariables false
set_option linter.unusedSimpArgs false
set_option linter.unusedSectionVars false
namespace OT
open Go
structure S3 (ps:jL):Prop where
 right:Ck ps
 cells:Lx ps
 S4:(uC ps).all (HJ ps)=true
 Tg:((uC ps).filterMap NB).Nodup
 keys:((Ax ps).map λx=>rk (Jd x)).Nodup
 list:KJ ps=KI ((Ax ps).map KH)
def OC (ps:jL):List Row:=(KJ ps).map (·.1)
end OT
set_option linter.unusedVariables false
set_option linter.unusedSimpArgs false
set_option linter.unusedSectionVars false
namespace OT
open Go
section
variable {p:List UInt8} (hp:jI p)
include hp
end
section
variable {p:List UInt8} (hp:jI p) (c:List UInt8) (xU:1<=c.length) (hc:c.length<=20)
include hp xU hc
end
end OT
set_option linter.unusedVariables false
set_option linter.unusedSimpArgs false
set_option linter.unusedSectionVars false
namespace OT
open Go
section
variable {p:List UInt8} (hp:jI p) (c:List UInt8) (xU:1<=c.length) (hc:c.length<=20)
include hp xU hc
variable {s:Nat} (hs:s < pn p) (hz:fh p s≠0)
include hs hz
end
section
variable {p:List UInt8} (hp:jI p) {s:Nat} (hs:s < pn p)
include hp hs
end
end OT
set_option linter.unusedVariables false
set_option linter.unusedSimpArgs false
set_option linter.unusedSectionVars false
namespace OT
open Go
section
variable {p:List UInt8} (hp:jI p)
include hp
end
end OT
set_option linter.unusedVariables false
set_option linter.unusedSimpArgs false
namespace OT
open Go
end OT
set_option linter.unusedVariables false
set_option linter.unusedSimpArgs false
set_option linter.unusedSectionVars false
namespace OT
open Go
def Qz (ps:jL) (P:Nat):List UInt8:=ps.getD P []
def nu (ps:jL) (P s:Nat):List UInt8:=cellOf (Qz ps P) s
structure okW (w:kT) (n:Nat):Prop where
 OD:Ck w.1
 el:List.length w.2.1<=n
 eb:∀ e ∈ (w.2.1:List ua),List.length e.2.1=64
theorem okW.mono {w:kT} {n m:Nat} (h:okW w n) (hm:n<=m):okW w m:=⟨h.OD,by have:=h.el;omega,h.eb⟩
structure Sv (w:kT) (n P:Nat) (c:List UInt8) (r:Option Nat×kT):Prop where
 ok:okW r.2 (n+2)
 len:List.length r.2.1=List.length w.1
 no:r.1=none->∀ Q s,nu r.2.1 Q s=nu w.1 Q s
 yes:∀ t,r.1=some t->t < 16/\nu w.1 P t=[]/\∀ Q s,nu r.2.1 Q s=if Q=P/\s=t then c else nu w.1 Q s
structure Sw (w:kT) (n P s:Nat) (c:List UInt8) (r:Bool×kT):Prop where
 ok:okW r.2 (n+2)
 len:List.length r.2.1=List.length w.1
 no:r.1=false->∀ Q t,nu r.2.1 Q t=nu w.1 Q t
 yes:r.1=true->∀ Q t,nu r.2.1 Q t=if Q=P/\t=s then c else nu w.1 Q t
end OT
set_option linter.unusedVariables false
set_option linter.unusedSimpArgs false
set_option linter.unusedSectionVars false
namespace OT
open Go
end OT
set_option linter.unusedVariables false
set_option linter.unusedSimpArgs false
set_option linter.unusedSectionVars false
namespace OT
open Go
theorem nH {r:Row} (h:cY r=0):(0<=r.1/\r.1<=3)/\(1<=r.2.1/\r.2.1<=99)/\(0<=r.2.2.1/\r.2.2.1<=999)/\nT r.2.2.2.1=true:=by
 grind [cY,bK]
theorem HK {s:List UInt8} (h:nT s=true):s.length<=8:=by
 grind [nT]
structure Sx (w:kT) (n m:Nat) (c:List UInt8) (r:Option (Nat×Nat)×kT):Prop where
 ok:okW r.2 (n+m)
 no:r.1=none->List.length r.2.1=List.length w.1/\∀ Q s,nu r.2.1 Q s=nu w.1 Q s
 yes:∀ P t,r.1=some (P,t)->P < 12/\t < 16/\nu w.1 P t=[]/\∀ Q s,nu r.2.1 Q s=if Q=P/\s=t then c else nu w.1 Q s
end OT
set_option linter.unusedVariables false
set_option linter.unusedSimpArgs false
set_option linter.unusedSectionVars false
namespace OT
open Go
abbrev uD:Type:=Nat->Nat->List UInt8
def qO (d:List UInt8):Int:=(pk d).1.2.1
def HL (d:List UInt8):Nat:=(pk d).1.2.2.1.toNat
def HM (d:List UInt8):Nat:=(pk d).1.2.2.2.1.toNat
def NC (d:List UInt8):Row:=(pk d).1.2.2.2.2.1
def rowAt (f:uD) (P s:Nat):Row:=if qO (f P s)=1 then NC (f (HL (f P s)) (HM (f P s))) else NC (f P s)
structure ND (f:uD):Prop where
 read:∀ P s,f P s≠[]->(pk (f P s)).2=true
 stub:∀ P s,f P s≠[]->qO (f P s)=1->f (HL (f P s)) (HM (f P s))≠[]/\qO (f (HL (f P s)) (HM (f P s)))=2
 T6:∀ P s Q t,f P s≠[]->f Q t≠[]->qO (f P s)=1->qO (f Q t)=1->HL (f P s)=HL (f Q t)->HM (f P s)=HM (f Q t)->P=Q/\s=t
 key:∀ P s Q t,f P s≠[]->f Q t≠[]->qO (f P s)≠2->qO (f Q t)≠2->rk (rowAt f P s)=rk (rowAt f Q t)->P=Q/\s=t
theorem uE {α:Type} {c:α->Int}:∀ {xs:List α},(∀ x ∈ xs,c x=0)->jG c xs=0
 | [],_=>rfl
 | x::xs,h=>by
  unfold jG
  rw[if_pos (h x List.mem_cons_self)]
  exact uE λy hy=>h y (List.mem_cons_of_mem _ hy)
end OT
set_option linter.unusedVariables false
set_option linter.unusedSimpArgs false
set_option linter.unusedSectionVars false
namespace OT
open Go
def y8 (f:uD) (P s:Nat) (c:List UInt8):uD:=λQ t=>if Q=P/\t=s then c else f Q t
section
variable {f:uD} (S:ND f)
include S
end
end OT
set_option linter.unusedVariables false
set_option linter.unusedSimpArgs false
set_option linter.unusedSectionVars false
namespace OT
open Go
section
variable {w:kT} {n:Nat} (h:okW w n) (hn:n<=400) {P s A B:Nat} (h1:nu w.1 P s≠[]) (h2:nu w.1 A B≠[]) (mv:Bool) {r:Row} (hr:cY r=0)
include h hn h1 h2 hr
end
end OT
set_option linter.unusedVariables false
set_option linter.unusedSimpArgs false
set_option linter.unusedSectionVars false
namespace OT
open Go
section
variable {ps:jL} (hv:FB ps=0) {P s:Nat} (c1:nu ps P s≠[]) (c2:qO (nu ps P s)≠2)
include hv c1 c2
end
theorem Cl {xs:List Row} (h:(xs.map rk).Nodup):xs.Nodup:=List.Pairwise.of_map rk (λa b h he=>h (congrArg rk he)) h
theorem D5 {xs ys:List Row} (hx:up xs) (hy:up ys) (h:∀ r,r ∈ xs↔r ∈ ys):xs=ys:=by
 have n1:xs.Nodup:=Cl (Cj hx)
 have n2:ys.Nodup:=Cl (Cj hy)
 exact HG ((List.perm_ext_iff_of_nodup n1 n2).2 h) hx hy
end OT
set_option linter.unusedVariables false
set_option linter.unusedSimpArgs false
set_option linter.unusedSectionVars false
namespace OT
open Go
def NE (cs:List Change) (k:Int×Int):Prop:=∀ c ∈ cs,ck c≠k
theorem Cm:∀ (L:List (List Change)) (rows:List Row),Good rows->(∀ cs ∈ L,∀ c ∈ cs,ec c=0)->L.Pairwise (λa b=>∀ d ∈ b,NE a (ck d))->(∀ cs ∈ L,∃ t,bd rows cs=some t)->∃ t,bd rows L.flatten=some t
 | [],rows,_,_,_,_=>⟨rows,rfl⟩
 | cs::L,rows,hg,hc,hp,hu=>by
  obtain ⟨s,hs⟩:=hu cs List.mem_cons_self
  rw[List.pairwise_cons] at hp
  have oS:=hc cs List.mem_cons_self
  have PC:=(fL cs rows s hg oS hs).1
  have hf:=nk cs rows s hg oS hs
  rw[List.flatten_cons,back_append,hs,Option.bind_some]
  refine Cm L s PC (λx hx=>hc x (List.mem_cons_of_mem _ hx)) hp.2 λx hx=>?_
  obtain ⟨t,ht⟩:=hu x (List.mem_cons_of_mem _ hx)
  exact nh (K:=NE cs) x rows s t hg PC (hc x (List.mem_cons_of_mem _ hx)) (λc zT=>hp.1 x hx c zT) hf ht
theorem FC (ts:List Tx):dh ts=(ts.map λx=>br x.2.1).flatten:=by
 unfold dh
 rw[List.flatMap_def]
theorem Je {rows:List Row} (hg:Good rows) {c:Change} (hc:ec c=0) (hf:im rows c=true):im (dQ rows c) (ip c)=true/\dQ (dQ rows c) (ip c)=rows:=by
 have xu:=gk hg hc
 have PD:=fM (cs:=[c]) (λd hd=>by rw[List.mem_singleton] at hd;rw[hd];exact hc) (ip c) (by simp[br])
 have hk:=oF hc
 have D6:=(nG hg.1 hc).1 hf
 have KE:(ip c).1=c.2.2.1:=rfl
 have Sy:(ip c).2.1=c.2.2.2.1:=rfl
 have Sz:(ip c).2.2.1=c.1:=rfl
 have SA:(ip c).2.2.2.1=c.2.1:=rfl
 constructor
 ·rw[nG xu.1 PD,KE,Sy,hk]
  by_cases h:c.2.2.1=true
  ·rw[if_pos h,jY hg.1]
   exact .inr ⟨h,rfl⟩
  ·rw[if_neg h]
   intro r hr
   rw[jY hg.1] at hr
   rcases hr with hr | hr
   ·exact hr.2
   ·exact absurd hr.1 h
 ·refine D5 (gk xu PD).1 hg.1 λr=>?_
  rw[jY xu.1,jY hg.1,hk,Sz,SA]
  by_cases hw:c.1=true
  ·rw[if_pos hw] at D6
   have KK:=oC hc hw
   constructor
   ·rintro (⟨h1 | h1,h2⟩ | h1)
    ·exact h1.1
    ·exact absurd (by rw[h1.2];exact (lm hc).1 h1.1) h2
    ·rw[h1.2];exact D6
   ·intro h
    by_cases he:rk r=ck c
    ·right
     refine ⟨hw,?_⟩
     obtain ⟨i,hi,hx⟩:=List.getElem_of_mem h
     obtain ⟨j,hj,hy⟩:=List.getElem_of_mem D6
     obtain ⟨_,a2⟩:=oA hg.1 hi (k:=ck c) (by rw[hx];exact he)
     obtain ⟨_,b2⟩:=oA hg.1 hj (k:=ck c) (by rw[hy];exact KK)
     have gG:i=j:=by rw[<-a2,<- b2]
     subst gG
     rw[<-hx,<- hy]
    ·exact .inl ⟨.inl ⟨h,he⟩,he⟩
  ·rw[if_neg hw] at D6
   constructor
   ·rintro (⟨h1 | h1,h2⟩ | h1)
    ·exact h1.1
    ·exact absurd (by rw[h1.2];exact (lm hc).1 h1.1) h2
    ·exact absurd h1.1 hw
   ·intro h
    exact .inl ⟨.inl ⟨h,D6 r h⟩,D6 r h⟩
theorem qn {rows:List Row} {ts:List Tx} {n:Int} (hg:Good rows) (hl:rows.length<=12) (ht:du ts=0) (hn:bK n 1 100=true) (hx:j0 n ts=false) (hr:fQ rows ts<=12) (hu:∀ x ∈ ts,∃ t,bd rows (br x.2.1)=some t):bt (rows,ts,n,())=0:=by
 have T:=eo ht
 have hb:∃ t,bd rows (dh ts)=some t:=by
  rw[FC]
  refine Cm _ rows hg ?_ ?_ ?_
  ·intro cs fj
   obtain ⟨x,hx,rfl⟩:=List.mem_map.1 fj
   exact fM (T.ch x hx)
  ·rw[List.pairwise_map,List.pairwise_iff_getElem]
   intro i j hi hj gG d hd c hc
   exact nn ht hj gG hc hd
  ·intro cs fj
   obtain ⟨x,hx,rfl⟩:=List.mem_map.1 fj
   exact hu x hx
 obtain ⟨t,hb⟩:=hb
 unfold bt
 simp only
 rw[if_pos (sR hg (by omega)),if_pos ht,hn,hx,hb]
 rw[if_pos (by rfl),if_neg (by omega)]
theorem u7 {p:Plain} (h:bt p=0):j0 p.2.2.1 p.2.1=false:=by
 unfold bt at h
 split at h
 ·split at h
  ·split at h
   ·rename_i h3
    rw[Bool.and_eq_true] at h3
    simpa using h3.2
   ·cases h
  ·rename_i h1;exact absurd h h1
 ·rename_i h1;exact absurd h h1
theorem D7:∀ (xs ys:List Tx) (j:Nat),(∀ i (hi:i < ys.length),iT xs (j+i) ys[i]=0)->aX (λi (_:Unit) x=>if iT xs i x=0 then .inr () else .inl (iT xs i x)) (λ_=>(0:Int)) j ys ()=0
 | xs,[],j,h=>rfl
 | xs,y::ys,j,h=>by
  have h0:=h 0 (by simp)
  simp only[List.getElem_cons_zero,Nat.add_zero] at h0
  simp only[aX]
  rw[if_pos h0]
  refine D7 xs ys (j+1) λi hi=>?_
  have:=h (i+1) (by simp only[List.length_cons];omega)
  simp only[List.getElem_cons_succ] at this
  rw[show j+1+i=j+(i+1) by omega]
  exact this
structure j9 (ts:List Tx):Prop where
 len:ts.length<=4
 each:∀ x ∈ ts,bK x.1 1 99=true/\jv x=0
 rn:ts.Pairwise λa b=>a.1 < b.1
 apart:(flatK ts).Nodup
 vu:fd ts<=12
theorem xV {ts:List Tx} (h:j9 ts):du ts=0:=by
 have he:nV ts=0:=D7 ts ts 0 λi hi=>by
  obtain ⟨h1,h2⟩:=h.each _ (List.getElem_mem hi)
  rw[Nat.zero_add]
  unfold iT
  rw[if_pos h1]
  by_cases h0:0 < i
  ·rw[if_pos h0,List.getElem?_eq_getElem (show i - 1 < ts.length by omega)]
   simp only
   have:=List.pairwise_iff_getElem.1 h.rn (i - 1) i (by omega) hi (by omega)
   rw[if_neg (by omega)]
   exact h2
  ·rw[if_neg h0];exact h2
 have hc:=h.vu
 have hl:=h.len
 unfold du
 rw[if_neg (by omega),if_pos he]
 have ha:qh ts=true:=decide_eq_true h.apart
 rw[ha,if_pos rfl,if_neg (by omega)]
theorem nZ {ts:List Tx} (h:du ts=0):j9 ts:=by
 have hl:=(eo h).len
 have hn:=uz h
 unfold du at h
 rw[if_neg (by omega)] at h
 split at h
 ·rename_i he
  have hg:=l9 ts he
  have g_:∀ i (hi:i < ts.length),bK (ts[i]).1 1 99=true/\jv ts[i]=0/\(0 < i->∀ y,ts[i - 1]?=some y->y.1 < (ts[i]).1):=λi hi=>by
   have h1:=hg i hi
   unfold iT at h1
   split at h1
   ·rename_i hb
    split at h1
    ·rename_i h0
     rw[List.getElem?_eq_getElem (show i - 1 < ts.length by omega)] at h1 ⊢
     simp only at h1
     split at h1
     ·cases h1
     ·rename_i aE
      exact ⟨hb,h1,λ_ y hy=>by injection hy with hy;rw[<-hy];omega⟩
    ·rename_i h0
     exact ⟨hb,h1,λhh=>absurd hh h0⟩
   ·cases h1
  refine ⟨hl,λx hx=>?_,?_,hn,?_⟩
  ·obtain ⟨i,hi,rfl⟩:=List.getElem_of_mem hx
   exact ⟨(g_ i hi).1,(g_ i hi).2.1⟩
  ·rw[List.pairwise_iff_getElem]
   have main:∀ (d i:Nat) (hi:i < ts.length) (hj:i+(d+1) < ts.length),(ts[i]).1 < (ts[i+(d+1)]).1:=by
    intro d
    induction d with
    | zero=>
     intro i hi hj
     exact (g_ (i+1) hj).2.2 (by omega) _ (by rw[show i+1 - 1=i by omega];exact List.getElem?_eq_getElem hi)
    | succ d ih=>
     intro i hi hj
     have h1:=ih i hi (by omega)
     have h2:=(g_ (i+(d+1+1)) hj).2.2 (by omega) (ts[i+(d+1)]'(by omega)) (by rw[show i+(d+1+1) - 1=i+(d+1) by omega];exact List.getElem?_eq_getElem (by omega))
     omega
   intro i j hi hj gG
   have:=main (j - i - 1) i hi (by omega)
   simp only[show i+(j - i - 1+1)=j by omega] at this
   exact this
  ·split at h
   ·split at h
    ·cases h
    ·omega
   ·cases h
 ·rename_i he;exact absurd h he
end OT
set_option linter.unusedVariables false
set_option linter.unusedSimpArgs false
set_option linter.unusedSectionVars false
namespace OT
open Go
theorem FE:∀ (ks S:List Key),S.Nodup->(dd S ks).Nodup
 | [],S,h=>h
 | x::ks,S,h=>by
  show (dd (if cq S x then S else S++[x]) ks).Nodup
  refine FE ks _ ?_
  split
  ·exact h
  ·rename_i hx
   rw[List.nodup_append]
   refine ⟨h,by simp,λa ha b hb he=>hx ?_⟩
   rw[List.mem_singleton] at hb
   rw[e7,<- hb,<- he]
   exact ha
theorem oH {rows lr:List Row} {ts tV:List Tx} (h:∀ k ∈ eh lr tV,k ∈ eh rows ts):fQ lr tV<=fQ rows ts:=by
 unfold fQ
 refine rP _ _ (FE _ _ List.nodup_nil) λk hk=>?_
 rw[un] at hk ⊢
 rcases hk with hk | hk
 ·cases hk
 ·exact .inr (h k hk)
theorem Jf {rows lr:List Row} {ts tV:List Tx} {q:Key} (hq:¬ q.2.1=0) (h:∀ k ∈ eh lr tV,k ∈ eh rows ts\/k=q):fQ lr tV<=lO rows ts q:=by
 unfold fQ lO
 refine rP _ _ (FE _ _ List.nodup_nil) λk hk=>?_
 rw[un] at hk ⊢
 rcases hk with hk | hk
 ·cases hk
 ·right
  rw[List.mem_append]
  rcases h k hk with h1 | h1
  ·exact .inl h1
  ·right
   unfold qJ
   rw[if_neg hq,h1]
   exact List.mem_singleton.2 rfl
theorem ww:∀ (xs:List Tx) (n:Int),xs.foldl (λn x=>n+(List.length x.2.1:Int)) n=n+fd xs
 | [],n=>by unfold fd;simp
 | x::xs,n=>by
  unfold fd
  simp only[List.foldl_cons]
  rw[ww xs (n+_),ww xs (0+_)]
  omega
theorem wx (x:Tx) (xs:List Tx):fd (x::xs)=(List.length x.2.1:Int)+fd xs:=by
 show (x::xs).foldl _ 0=_
 rw[List.foldl_cons,ww]
 omega
theorem po:∀ (a b:List Tx),fd (a++b)=fd a+fd b
 | [],b=>by
  rw[List.nil_append]
  have:fd []=0:=rfl
  omega
 | x::a,b=>by
  rw[List.cons_append,wx,wx,po a b]
  omega
theorem uF {xs:List Tx} {j:Nat} (hj:j < xs.length):fd xs=fd (xs.take j)+(List.length (xs[j]).2.1:Int)+fd (xs.drop (j+1)):=by
 have hx:xs=xs.take j++xs[j]::xs.drop (j+1):=by rw[List.getElem_cons_drop,List.take_append_drop]
 conv=>lhs;rw[hx]
 rw[po,wx]
 omega
theorem np {xs:List Tx} {j:Nat} (hj:j < xs.length):flatK xs=flatK (xs.take j)++((xs[j]).2.2.2.1++flatK (xs.drop (j+1))):=by
 have hx:xs=xs.take j++xs[j]::xs.drop (j+1):=by rw[List.getElem_cons_drop,List.take_append_drop]
 conv=>lhs;rw[hx]
 unfold flatK
 rw[List.flatMap_append,List.flatMap_cons]
theorem Cn (a b:List Tx):flatK (a++b)=flatK a++flatK b:=by
 unfold flatK
 rw[List.flatMap_append]
theorem qo {ts:List Tx} {j:Nat} {x:Tx} (h:x ∈ ts.take j++ts.drop (j+1)):x ∈ ts:=by
 rcases List.mem_append.1 h with g | g
 ·exact List.mem_of_mem_take g
 ·exact List.mem_of_mem_drop g
theorem Jg (ts:List Tx) (j:Nat):(ts.take j++ts.drop (j+1)).Sublist ts:=by
 rw[<-List.eraseIdx_eq_take_drop_succ]
 exact List.eraseIdx_sublist ts j
theorem zU {ts:List Tx} (h:j9 ts) {j:Nat} (hj:j < ts.length):j9 (ts.take j++ts.drop (j+1)):=by
 have hs:=Jg ts j
 refine ⟨Nat.le_trans hs.length_le h.len,λx hx=>h.each x (qo hx),h.rn.sublist hs,?_,?_⟩
 ·have ha:=h.apart
  rw[np hj] at ha
  rw[Cn]
  rw[List.nodup_append] at ha ⊢
  obtain ⟨J,a2,a3⟩:=ha
  rw[List.nodup_append] at a2
  exact ⟨J,a2.2.1,λa ha b hb=>a3 a ha b (List.mem_append_right _ hb)⟩
 ·have hc:=h.vu
  rw[uF hj] at hc
  rw[po]
  omega
theorem zV {ts:List Tx} {n:Int} (h:j9 ts) (hx:j0 n ts=false) (j:Nat):j0 n (ts.take j++ts.drop (j+1))=false:=by
 have iR:∀ x ∈ ts,x.1 < n:=λx mL=>by
  obtain ⟨i,hi,rfl⟩:=List.getElem_of_mem mL
  unfold j0 at hx
  rw[List.getElem?_eq_getElem (show ts.length - 1 < ts.length by omega)] at hx
  simp only[decide_eq_false_iff_not] at hx
  by_cases he:i=ts.length - 1
  ·subst he;omega
  ·have:=List.pairwise_iff_getElem.1 h.rn i (ts.length - 1) hi (by omega) (by omega)
   omega
 unfold j0
 cases hg:(ts.take j++ts.drop (j+1))[(ts.take j++ts.drop (j+1)).length - 1]? with
 | none=>rfl
 | some x=>
  have:=iR x (qo (List.mem_of_getElem? hg))
  simp only[decide_eq_false_iff_not]
  omega
theorem FF {rows:List Row} {ts:List Tx} {n:Int} (h:bt (rows,ts,n,())=0) {j:Nat} (hj:j < ts.length):bt (rows,ts.take j++ts.drop (j+1),n,())=0:=by
 have P:=aU h
 have R:=nZ P.gb
 have pT:=u7 h
 simp only at pT
 have hu:∀ x ∈ ts,∃ t,bd rows (br x.2.1)=some t:=λx hx=>by
  obtain ⟨i,hi,rfl⟩:=List.getElem_of_mem hx
  exact iF P hi
 refine qn P.dP P.len (xV (zU R hj)) P.next (zV R pT j) (Nat.le_trans (oH λk hk=>?_) P.room) λx hx=>hu x (qo hx)
 unfold eh at hk ⊢
 rcases List.mem_append.1 hk with g | g
 ·exact List.mem_append_left _ g
 ·refine List.mem_append_right _ ?_
  unfold flatK at g ⊢
  obtain ⟨x,hx,hm⟩:=List.mem_flatMap.1 g
  exact List.mem_flatMap.2 ⟨x,qo hx,hm⟩
end OT
set_option linter.unusedVariables false
set_option linter.unusedSimpArgs false
set_option linter.unusedSectionVars false
namespace OT
open Go
theorem HN {ts:List Tx} {n:Int} (h:j9 ts) (hx:j0 n ts=false):∀ x ∈ ts,x.1 < n:=λx mL=>by
 obtain ⟨i,hi,rfl⟩:=List.getElem_of_mem mL
 unfold j0 at hx
 rw[List.getElem?_eq_getElem (show ts.length - 1 < ts.length by omega)] at hx
 simp only[decide_eq_false_iff_not] at hx
 by_cases he:i=ts.length - 1
 ·subst he;omega
 ·have:=List.pairwise_iff_getElem.1 h.rn i (ts.length - 1) hi (by omega) (by omega)
  omega
theorem Dc {rows:List Row} {ts:List Tx} {n:Int} (h:bt (rows,ts,n,())=0) (Cd:¬ n=100) (hl:ts.length < 4):bt (rows,ts++[(n,([]:List Change),([]:List Int),([]:List Key),())],n+1,())=0:=by
 have P:=aU h
 have R:j9 ts:=nZ P.gb
 have pT:=u7 h
 simp only at pT
 have hb:=HN R pT
 have hn:bK n 1 100=true:=P.next
 have td:=hn
 unfold bK at hn
 simp only[Bool.and_eq_true,decide_eq_true_eq] at hn
 have PE:flatK (ts++[(n,([]:List Change),([]:List Int),([]:List Key),())])=flatK ts:=by
  rw[Cn]
  have:flatK [(n,([]:List Change),([]:List Int),([]:List Key),())]=[]:=rfl
  rw[this,List.append_nil]
 have hR:j9 (ts++[(n,([]:List Change),([]:List Int),([]:List Key),())]):=by
  refine ⟨by rw[List.length_append,List.length_cons,List.length_nil];omega,λx hx=>?_,?_,by rw[PE];exact R.apart,?_⟩
  ·rcases List.mem_append.1 hx with g | g
   ·exact R.each x g
   ·rw[List.mem_singleton] at g
    subst g
    refine ⟨?_,rfl⟩
    unfold bK
    simp only[Bool.and_eq_true,decide_eq_true_eq]
    omega
  ·rw[List.pairwise_append]
   refine ⟨R.rn,List.pairwise_singleton _ _,λa ha b JE=>?_⟩
   rw[List.mem_singleton] at JE
   subst JE
   exact hb a ha
  ·rw[po]
   have:fd [(n,([]:List Change),([]:List Int),([]:List Key),())]=0:=rfl
   have:=R.vu
   omega
 refine qn P.dP P.len (xV hR) ?_ ?_ ?_ ?_
 ·unfold bK
  simp only[Bool.and_eq_true,decide_eq_true_eq]
  omega
 ·unfold j0
  rw[List.length_append,List.length_cons,List.length_nil,show ts.length+(0+1) - 1=ts.length by omega,List.getElem?_append_right (Nat.le_refl _),Nat.sub_self]
  simp only[List.getElem?_cons_zero,decide_eq_false_iff_not]
  omega
 ·refine Nat.le_trans (oH λk hk=>?_) P.room
  unfold eh at hk ⊢
  rw[PE] at hk
  exact hk
 ·intro x hx
  rcases List.mem_append.1 hx with g | g
  ·obtain ⟨i,hi,rfl⟩:=List.getElem_of_mem g
   exact iF P hi
  ·rw[List.mem_singleton] at g
   subst g
   exact ⟨rows,rfl⟩
theorem yW {ts:List Tx} {j:Nat} (hj:j < ts.length) {y:Tx} (hy:y.1=(ts[j]).1) (i:Nat) (hi:i < ts.length):((ts.set j y)[i]'(by rw[List.length_set];exact hi)).1=(ts[i]).1:=by
 rw[List.getElem_set]
 split
 ·rename_i he
  subst he
  exact hy
 ·rfl
theorem uG {rows lr:List Row} {ts:List Tx} {n:Int} (h:bt (rows,ts,n,())=0) {j:Nat} (hj:j < ts.length) {y:Tx} (hg:Good lr) (KL:y.1=(ts[j]).1) (hy:jv y=0) (hk:(flatK (ts.set j y)).Nodup) (hc:(List.length y.2.1:Int)+fd ts<=12+(List.length (ts[j]).2.1:Int)) (hr:fQ lr (ts.set j y)<=12)
  (hu:∃ t,bd lr (br y.2.1)=some t) (ho:∀ i (hi:i < ts.length),i≠j->agree (λk=>∃ c ∈ br (ts[i]).2.1,ck c=k) rows lr):bt (lr,ts.set j y,n,())=0:=by
 have P:=aU h
 have R:j9 ts:=nZ P.gb
 have T:kD ts:=eo P.gb
 have pT:=u7 h
 simp only at pT
 have hR:j9 (ts.set j y):=by
  refine ⟨by rw[List.length_set];exact R.len,λx hx=>?_,?_,hk,?_⟩
  ·rcases List.mem_or_eq_of_mem_set hx with g | g
   ·exact R.each x g
   ·rw[g,KL]
    exact ⟨(R.each _ (List.getElem_mem hj)).1,hy⟩
  ·rw[List.pairwise_iff_getElem]
   intro a b ha hb Ht
   rw[List.length_set] at ha hb
   rw[yW hj KL a ha,yW hj KL b hb]
   exact List.pairwise_iff_getElem.1 R.rn a b ha hb Ht
  ·have h1:=uF hj
   have h2:=uF (xs:=ts.set j y) (j:=j) (by rw[List.length_set];exact hj)
   rw[List.getElem_set_self,List.take_set_of_le (Nat.le_refl j),List.drop_set_of_lt (by omega)] at h2
   omega
 have hlen:lr.length<=12:=Nat.le_trans (l_ (xs:=ts.set j y) hg.1) (by unfold fQ at hr;exact hr)
 refine qn hg hlen (xV hR) P.next ?_ hr λx hx=>?_
 ·unfold j0 at pT ⊢
  rw[List.length_set,List.getElem?_eq_getElem (show ts.length - 1 < (ts.set j y).length by rw[List.length_set];omega)]
  rw[List.getElem?_eq_getElem (show ts.length - 1 < ts.length by omega)] at pT
  simp only at pT ⊢
  rw[yW hj KL _ (by omega)]
  exact pT
 ·obtain ⟨i,hi,rfl⟩:=List.getElem_of_mem hx
  rw[List.length_set] at hi
  rw[List.getElem_set]
  split
  ·exact hu
  ·rename_i ci
   obtain ⟨t,ht⟩:=iF P hi
   have cw:ts[i] ∈ ts:=List.getElem_mem hi
   exact nh (K:=λk=>∃ c ∈ br (ts[i]).2.1,ck c=k) _ rows lr t P.dP hg (fM (T.ch _ cw)) (λc hc=>⟨c,hc,rfl⟩) (ho i hi (λe=>ci e.symm)) ht
end OT
set_option linter.unusedVariables false
set_option linter.unusedSimpArgs false
set_option linter.unusedSectionVars false
namespace OT
open Go
theorem mc {x a b:Int}:bK x a b=true↔a<=x/\x<=b:=by
 unfold bK
 simp only[Bool.and_eq_true,decide_eq_true_eq]
def uH (n:Int) (i:Nat) (ms:List Int) (last:Int):Bool:=aX (λ_ last m=>if bK m last n then .inr m else .inl false) (λ_=>true) i ms last
theorem lT {n:Int} {i:Nat} {x:Int} {ms:List Int} {last:Int}:uH n i (x::ms) last=if bK x last n then uH n (i+1) ms x else false:=by
 unfold uH
 simp only[aX]
 cases bK x last n <;> rfl
theorem xW {n:Int}:∀ (ms:List Int) (i:Nat) (last:Int),last<=n->uH n i ms last=true->uH n i (ms++[n]) last=true
 | [],i,last,hl,h=>by
  rw[List.nil_append,lT,if_pos (mc.2 ⟨hl,Int.le_refl n⟩)]
  rfl
 | x::ms,i,last,hl,h=>by
  rw[lT] at h
  rw[List.cons_append,lT]
  by_cases hx:bK x last n=true
  ·rw[if_pos hx] at h ⊢
   exact xW ms (i+1) x (mc.1 hx).2 h
  ·rw[if_neg hx] at h;cases h
theorem zW {n k:Int}:∀ (ms:List Int) (i m:Nat) (last:Int),uH n i ms last=true->ms[m]?=some k->last<=k/\uH k i (ms.take (m+1)) last=true
 | [],i,m,last,h,hk=>by simp at hk
 | x::ms,i,m,last,h,hk=>by
  rw[lT] at h
  by_cases hx:bK x last n=true
  rotate_left
  ·rw[if_neg hx] at h;cases h
  rw[if_pos hx] at h
  have mL:=mc.1 hx
  cases m with
  | zero=>
   simp only[List.getElem?_cons_zero,Option.some.injEq] at hk
   subst hk
   refine ⟨mL.1,?_⟩
   rw[List.take_succ_cons,List.take_zero,lT,if_pos (mc.2 ⟨mL.1,Int.le_refl x⟩)]
   rfl
  | succ m=>
   simp only[List.getElem?_cons_succ] at hk
   obtain ⟨a,b⟩:=zW ms (i+1) m x h hk
   refine ⟨by omega,?_⟩
   rw[List.take_succ_cons,lT,if_pos (mc.2 ⟨mL.1,a⟩)]
   exact b
theorem xX {n n':Int} (hn:n<=n'):∀ (ms:List Int) (i:Nat) (last:Int),uH n i ms last=true->uH n' i ms last=true
 | [],i,last,h=>rfl
 | x::ms,i,last,h=>by
  rw[lT] at h ⊢
  by_cases hx:bK x last n=true
  ·rw[if_pos hx] at h
   have:=mc.1 hx
   rw[if_pos (mc.2 ⟨this.1,by omega⟩)]
   exact xX hn ms (i+1) x h
  ·rw[if_neg hx] at h;cases h
structure PG (x:Tx):Prop where
 ng:∀ c ∈ (x.2.1:List Change),kC x.2.2.2.1 c=0
 ml:List.length x.2.2.1<=8
 kl:List.length x.2.2.2.1<=12
 marks:uH (List.length x.2.1:Int) 0 x.2.2.1 0=true
 qK:kt x.2.2.2.1=0
theorem FH {x:Tx} (h:jv x=0):PG x:=by
 unfold jv at h
 split at h
 ·rename_i hu
  unfold jf at h
  split at h
  ·cases h
  ·rename_i hn
   simp only[Bool.or_eq_true,decide_eq_true_eq,not_or] at hn
   split at h
   ·rename_i hm
    exact ⟨nW hu,by omega,by omega,hm,h⟩
   ·cases h
 ·rename_i hu;exact absurd h hu
theorem FI {x:Tx} (h:PG x):jv x=0:=by
 have hu:qI x=0:=uE h.ng
 unfold jv
 rw[if_pos hu]
 unfold jf
 have h1:=h.ml
 have h2:=h.kl
 have hm:uk (List.length x.2.1:Int) 0 x.2.2.1=true:=h.marks
 rw[if_neg (by simp only[Bool.or_eq_true,decide_eq_true_eq,not_or];omega),if_pos hm]
 exact h.qK
theorem wy {ts:List Tx} {j:Nat} (hj:j < ts.length) (y:Tx):flatK (ts.set j y)=flatK (ts.take j)++(y.2.2.2.1++flatK (ts.drop (j+1))):=by
 rw[np (xs:=ts.set j y) (j:=j) (by rw[List.length_set];exact hj),List.getElem_set_self,List.take_set_of_le (Nat.le_refl j),List.drop_set_of_lt (by omega)]
theorem FJ {K:Int×Int->Prop} (s:List Row):agree K s s:=λ_ _=>Iff.rfl
theorem FK {rows:List Row} {ts:List Tx} {n:Int} (h:bt (rows,ts,n,())=0) {j:Nat} (hj:j < ts.length) (hm:List.length (ts[j]).2.2.1 < 8):bt (rows,ts.set j (nX ts[j]),n,())=0:=by
 have P:=aU h
 have R:j9 ts:=nZ P.gb
 have X:=FH (R.each _ (List.getElem_mem hj)).2
 have hk:flatK (ts.set j (nX ts[j]))=flatK ts:=by rw[wy hj,np hj];rfl
 have hc:=R.vu
 refine uG h hj P.dP rfl (FI ⟨X.ng,?_,X.kl,?_,X.qK⟩) (by rw[hk];exact R.apart) ?_ ?_ (iF P hj) λi hi ci=>FJ rows
 ·show ((ts[j]).2.2.1++[(List.length (ts[j]).2.1:Int)]).length<=8
  rw[List.length_append,List.length_cons,List.length_nil]
  omega
 ·exact xW _ 0 0 (by omega) X.marks
 ·show (List.length (ts[j]).2.1:Int)+fd ts<=_
  omega
 ·refine Nat.le_trans (oH λk fg=>?_) P.room
  unfold eh at fg ⊢
  rwa [hk] at fg
theorem zX {rows t:List Row} {ts:List Tx} (hg:Good rows) {x:Tx} (hx:x ∈ ts) (SB:jv x=0) (gS:∀ c ∈ (x.2.1:List Change),ec c=0) {cs:List Change} (hs:∀ c ∈ cs,∃ d ∈ x.2.1,c=ip d) (hb:bd rows cs=some t):∀ k ∈ iI t,k ∈ eh rows ts:=λk hk=>by
 have hc:∀ c ∈ cs,ec c=0:=λc hc=>by
  obtain ⟨d,hd,rfl⟩:=hs c hc
  exact fM (cs:=[d]) (λe he=>by rw[List.mem_singleton] at he;rw[he];exact gS d hd) _ (by simp[br])
 have hf:=nk cs rows t hg hc hb
 unfold iI at hk
 obtain ⟨r,hr,rfl⟩:=List.mem_map.1 hk
 unfold eh
 rw[List.mem_append]
 by_cases ho:∀ c ∈ cs,ck c≠rk r
 ·left
  unfold iI
  exact List.mem_map.2 ⟨r,(hf r ho).2 hr,rfl⟩
 ·right
  simp only[Classical.not_forall] at ho
  obtain ⟨c,fj,he⟩:=ho
  have he:ck c=rk r:=Classical.not_not.1 he
  obtain ⟨d,hd,rfl⟩:=hs c fj
  have hl:=e7.1 (qM SB d hd)
  unfold flatK
  refine List.mem_flatMap.2 ⟨x,hx,?_⟩
  unfold cZ at hl
  rw[<-oF (gS d hd),he] at hl
  exact hl
theorem vJ {rows t:List Row} {ts:List Tx} (hg:Good rows) (ht:du ts=0) {i j:Nat} (hi:i < ts.length) (hj:j < ts.length) (ci:i≠j) {cs:List Change} (hs:∀ c ∈ cs,c ∈ br (ts[j]).2.1) (hb:bd rows cs=some t):agree (λk=>∃ c ∈ br (ts[i]).2.1,ck c=k) rows t:=by
 have T:kD ts:=eo ht
 have hc:∀ c ∈ cs,ec c=0:=λc hc=>fM (T.ch _ (List.getElem_mem hj)) c (hs c hc)
 have hf:=nk cs rows t hg hc hb
 intro r hr
 refine hf r λc fj he=>?_
 obtain ⟨d,hd,D8⟩:=hr
 have h1:=hs c fj
 rcases Nat.lt_or_gt_of_ne ci with h2 | h2
 ·exact nn ht hj h2 hd h1 (by rw[D8,he])
 ·exact nn ht hi h2 h1 hd (by rw[D8,he])
theorem HO {rows t:List Row} {ts:List Tx} {n:Int} (h:bt (rows,ts,n,())=0) {j:Nat} (hj:j < ts.length) {k m:Nat} (hm:(ts[j]).2.2.1[m]?=some (k:Int)) (Co:k<=List.length (ts[j]).2.1) (hb:bd rows (br ((ts[j]).2.1.drop k))=some t):bt (t,ts.set j (ql ts[j] k m),n,())=0:=by
 have P:=aU h
 have R:j9 ts:=nZ P.gb
 have T:kD ts:=eo P.gb
 have cw:ts[j] ∈ ts:=List.getElem_mem hj
 have hx:=(R.each _ cw).2
 have X:=FH hx
 have gS:=T.ch _ cw
 have DZ:∀ c ∈ (ts[j]).2.1.drop k,ec c=0:=λc hc=>gS c (List.mem_of_mem_drop hc)
 have hg:=(fL _ _ _ P.dP (fM DZ) hb).1
 have hk:flatK (ts.set j (ql ts[j] k m))=flatK ts:=by rw[wy hj,np hj];rfl
 have hc:=R.vu
 have se:∀ c ∈ br ((ts[j]).2.1.drop k),c ∈ br (ts[j]).2.1:=λc hc=>by
  rw[inv_split _ k]
  exact List.mem_append_left _ hc
 have aE:List.length ((ts[j]).2.1.take k)=k:=by rw[List.length_take];omega
 refine uG h hj hg rfl (FI ⟨λc hc=>X.ng c (List.mem_of_mem_take hc),?_,X.kl,?_,X.qK⟩) (by rw[hk];exact R.apart) ?_ ?_ ?_ λi hi ci=>vJ P.dP P.gb hi hj ci se hb
 ·show ((ts[j]).2.2.1.take (m+1)).length<=8
  have:=X.ml
  rw[List.length_take]
  omega
 ·show uH (List.length ((ts[j]).2.1.take k):Int) 0 ((ts[j]).2.2.1.take (m+1)) 0=true
  rw[aE]
  exact (zW _ 0 m 0 X.marks hm).2
 ·show (List.length ((ts[j]).2.1.take k):Int)+fd ts<=_
  rw[aE]
  omega
 ·refine Nat.le_trans (oH λq hq=>?_) P.room
  unfold eh at hq
  rw[hk] at hq
  rcases List.mem_append.1 hq with g | g
  ·refine zX P.dP cw hx gS (λc hc=>?_) hb q g
   obtain ⟨d,hd,he⟩:=nF hc
   exact ⟨d,List.mem_of_mem_drop hd,he⟩
  ·unfold eh
   exact List.mem_append_right _ g
 ·obtain ⟨t0,tc⟩:=iF P hj
  have tc:bd rows (br (ts[j]).2.1)=some t0:=tc
  rw[inv_split _ k,back_append,hb,Option.bind_some] at tc
  exact ⟨t0,tc⟩
theorem Dd {rows t:List Row} {ts:List Tx} {n:Int} (h:bt (rows,ts,n,())=0) {j:Nat} (hj:j < ts.length) (hb:bd rows (br (ts[j]).2.1)=some t):bt (t,ts.take j++ts.drop (j+1),n,())=0:=by
 have P:=aU h
 have R:j9 ts:=nZ P.gb
 have T:kD ts:=eo P.gb
 have pT:=u7 h
 simp only at pT
 have cw:ts[j] ∈ ts:=List.getElem_mem hj
 have hx:=(R.each _ cw).2
 have gS:=T.ch _ cw
 have hg:=(fL _ _ _ P.dP (fM gS) hb).1
 have lK:fQ t (ts.take j++ts.drop (j+1))<=12:=by
  refine Nat.le_trans (oH λq hq=>?_) P.room
  unfold eh at hq
  rcases List.mem_append.1 hq with g | g
  ·exact zX P.dP cw hx gS (λc hc=>by
    obtain ⟨d,hd,he⟩:=nF hc
    exact ⟨d,hd,he⟩) hb q g
  ·unfold eh
   refine List.mem_append_right _ ?_
   unfold flatK at g ⊢
   obtain ⟨x,hx,hm⟩:=List.mem_flatMap.1 g
   exact List.mem_flatMap.2 ⟨x,qo hx,hm⟩
 have hlen:t.length<=12:=Nat.le_trans (l_ (xs:=ts.take j++ts.drop (j+1)) hg.1) (by unfold fQ at lK;exact lK)
 refine qn hg hlen (xV (zU R hj)) P.next (zV R pT j) lK λx hx=>?_
 have:∃ (i:Nat) (hi:i < ts.length),i≠j/\ts[i]=x:=by
  rcases List.mem_append.1 hx with g | g
  ·obtain ⟨i,hi,rfl⟩:=List.getElem_of_mem g
   rw[List.length_take] at hi
   exact ⟨i,by omega,by omega,by rw[List.getElem_take]⟩
  ·obtain ⟨i,hi,rfl⟩:=List.getElem_of_mem g
   rw[List.length_drop] at hi
   exact ⟨j+1+i,by omega,by omega,by rw[List.getElem_drop]⟩
 obtain ⟨i,hi,ci,rfl⟩:=this
 obtain ⟨t1,SC⟩:=iF P hi
 exact nh (K:=λk=>∃ c ∈ br (ts[i]).2.1,ck c=k) _ rows t t1 P.dP hg (fM (T.ch _ (List.getElem_mem hi))) (λc hc=>⟨c,hc,rfl⟩) (vJ P.dP P.gb hi hj ci (λc hc=>hc) hb) SC
end OT
set_option linter.unusedVariables false
set_option linter.unusedSimpArgs false
set_option linter.unusedSectionVars false
namespace OT
open Go
theorem Jh {ks:List Key} (hk:∀ k ∈ ks,lN k=true) (hn:ks.Nodup):kt ks=0:=by
 have main:∀ (ys pre:List Key),pre++ys=ks->aX (λi (_:Unit) k=>if gD ks i k=0 then .inr () else .inl (gD ks i k)) (λ_=>(0:Int)) pre.length ys ()=0:=by
  intro ys
  induction ys with
  | nil=>intro pre _;rfl
  | cons y ys ih=>
   intro pre hp
   have h1:gD ks pre.length y=0:=by
    unfold gD
    have hy:y ∈ ks:=by rw[<-hp];exact List.mem_append_right _ List.mem_cons_self
    have ht:ks.take pre.length=pre:=by rw[<-hp,List.take_left]
    have hx:cq pre y=false:=by
     cases hh:cq pre y with
     | false=>rfl
     | true=>
      have hm:=e7.1 hh
      rw[<-hp,List.nodup_append] at hn
      exact absurd rfl (hn.2.2 y hm y List.mem_cons_self)
    rw[if_pos (hk y hy),ht,hx]
    rfl
   simp only[aX]
   rw[if_pos h1]
   have:=ih (pre++[y]) (by rw[List.append_assoc];exact hp)
   rwa [List.length_append,List.length_cons,List.length_nil] at this
 exact main ks [] rfl
theorem FL {rows:List Row} {ts:List Tx} {n:Int} {o:Op} (h:bt (rows,ts,n,())=0) (xT:cY o.2.2.1=0) {j:Nat} (hj:j < ts.length) (qm:(ts[j]).1=o.2.1) (ht:(h_ rows ts o).2.1=true) :
  bt (dQ rows (aS rows o).1,ts.set j (iq ts[j] (aS rows o).1),n,())=0:=by
 have P:=aU h
 have R:j9 ts:=nZ P.gb
 have T:kD ts:=eo P.gb
 have cw:ts[j] ∈ ts:=List.getElem_mem hj
 have hx:=(R.each _ cw).2
 have X:=FH hx
 have gS:=T.ch _ cw
 obtain ⟨r1,r2,r3,r4,r5,r6⟩:=ma ht
 obtain ⟨w1,w2,w3,w4⟩:=lq P.dP xT r2
 simp only at w1 w2 w3
 have hq:cZ (aS rows o).1=(o.2.2.1.1,o.2.2.1.2.1,()):=by unfold cZ;rw[w2];rfl
 have fj:qG (aS rows o).1=0:=by
  unfold qG
  rw[if_pos w1,Bool.and_assoc,if_neg (by rw[r5];decide)]
 generalize (aS rows o).1=c at *
 have Bp:¬ (o.2.2.1.2.1=0):=by have:=Cb xT;omega
 have KK:lN (o.2.2.1.1,o.2.2.1.2.1,())=true:=by
  grind [cY,lN]
 obtain ⟨q,NF⟩:∃ q:Key,q=(o.2.2.1.1,o.2.2.1.2.1,()):=⟨_,rfl⟩
 have xM:∀ x ∈ ts,x.1≠o.2.1->q ∉ (x.2.2.2.1:List Key):=λx mL ci hm=>by
  have:pj ts o.2.1 (o.2.2.1.1,o.2.2.1.2.1,())=true:=by
   unfold pj
   rw[List.any_eq_true]
   refine ⟨x,mL,?_⟩
   rw[decide_eq_false ci,Bool.not_false,Bool.true_and,List.any_eq_true]
   exact ⟨q,hm,by rw[NF];unfold nm;rw[decide_eq_true rfl,Bool.true_or]⟩
  rw[this] at r1
  cases r1
 have eA:∀ i (hi:i < ts.length),i≠j->(ts[i]).1≠o.2.1:=λi hi ci=>by
  rw[<-qm]
  rcases Nat.lt_or_gt_of_ne ci with h1 | h1
  ·have:=List.pairwise_iff_getElem.1 R.rn i j hi hj h1
   omega
  ·have:=List.pairwise_iff_getElem.1 R.rn j i hj hi h1
   omega
 rw[<-NF] at hq KK r3
 have PH:¬ q.2.1=0:=by rw[NF];exact Bp
 have NG:((ck c).1,(ck c).2,())=q:=hq
 obtain ⟨L,hL⟩:∃ L,L=(if cq (ts[j]).2.2.2.1 (cZ c) then (ts[j]).2.2.2.1 else (ts[j]).2.2.2.1++[cZ c]):=⟨_,rfl⟩
 have HP:∀ k,k ∈ L↔k ∈ (ts[j]).2.2.2.1\/k=q:=λk=>by
  rw[hL,hq]
  split
  ·rename_i hh
   have:=e7.1 hh
   constructor
   ·exact .inl
   ·rintro (h1 | h1)
    ·exact h1
    ·rw[h1];exact this
  ·rw[List.mem_append,List.mem_singleton]
 have so:=np hj
 have kR:=R.apart
 have pV:flatK (ts.set j (iq ts[j] c))=flatK (ts.take j)++(L++flatK (ts.drop (j+1))):=by
  rw[wy hj,hL]
  rfl
 have NH:q ∉ flatK (ts.take j)/\q ∉ flatK (ts.drop (j+1)):=by
  unfold flatK
  constructor
  ·intro hm
   obtain ⟨x,mL,hm⟩:=List.mem_flatMap.1 hm
   obtain ⟨i,hi,rfl⟩:=List.getElem_of_mem mL
   rw[List.length_take] at hi
   rw[List.getElem_take] at hm
   exact xM _ (List.getElem_mem (by omega)) (eA i (by omega) (by omega)) hm
  ·intro hm
   obtain ⟨x,mL,hm⟩:=List.mem_flatMap.1 hm
   obtain ⟨i,hi,rfl⟩:=List.getElem_of_mem mL
   rw[List.length_drop] at hi
   rw[List.getElem_drop] at hm
   exact xM _ (List.getElem_mem (by omega)) (eA (j+1+i) (by omega) (by omega)) hm
 have Ji:(flatK (ts.take j)++(L++flatK (ts.drop (j+1)))).Nodup:=by
  rw[hL,hq]
  rw[so] at kR
  split
  ·exact kR
  ·rename_i hh
   have rF:q ∉ (ts[j]).2.2.2.1:=λhm=>hh (e7.2 hm)
   have hp:(flatK (ts.take j)++((ts[j]).2.2.2.1++[q]++flatK (ts.drop (j+1)))).Perm (q::(flatK (ts.take j)++((ts[j]).2.2.2.1++flatK (ts.drop (j+1))))):=by
    rw[show flatK (ts.take j)++((ts[j]).2.2.2.1++[q]++flatK (ts.drop (j+1)))=(flatK (ts.take j)++(ts[j]).2.2.2.1)++q::flatK (ts.drop (j+1)) by simp,<- List.append_assoc]
    exact List.perm_middle
   rw[hp.nodup_iff,List.nodup_cons]
   refine ⟨λhm=>?_,kR⟩
   rcases List.mem_append.1 hm with g | g
   ·exact NH.1 g
   ·rcases List.mem_append.1 g with g | g
    ·exact rF g
    ·exact NH.2 g
 have PI:L.Nodup:=by
  rw[List.nodup_append] at Ji
  exact (List.nodup_append.1 Ji.2.1).1
 have QA:L.length<=12:=by
  refine Nat.le_trans (rP L (dd [] (eh rows ts++qJ q)) PI λk hk=>?_) (by unfold lO at r3;exact_mod_cast r3)
  rw[un]
  right
  rw[List.mem_append]
  rcases (HP k).1 hk with g | g
  ·left
   unfold eh
   refine List.mem_append_right _ ?_
   rw[so]
   exact List.mem_append_right _ (List.mem_append_left _ g)
  ·right
   unfold qJ
   rw[if_neg PH,g]
   exact List.mem_singleton.2 rfl
 have NI:kt L=0:=Jh (λk hk=>by
  rcases (HP k).1 hk with g | g
  ·exact T.keys _ cw k g
  ·rw[g];exact KK) PI
 have SE:q ∈ L:=(HP q).2 (.inr rfl)
 have hy:jv (iq ts[j] c)=0:=by
  have e:iq ts[j] c=((ts[j]).1,(ts[j]).2.1++[c],(ts[j]).2.2.1,L,()):=by unfold iq;rw[hL]
  rw[e]
  refine FI ⟨λd hd=>?_,X.ml,QA,?_,NI⟩
  ·rcases List.mem_append.1 hd with g | g
   ·have h1:=X.ng d g
    unfold kC at h1 ⊢
    split at h1
    ·rename_i h2
     split at h1
     ·rename_i h3
      rw[if_pos h2,if_pos (e7.2 ((HP _).2 (.inl (e7.1 h3))))]
     ·cases h1
    ·rename_i h2;exact absurd h1 h2
   ·rw[List.mem_singleton] at g
    subst g
    unfold kC
    rw[if_pos fj,hq,if_pos (e7.2 SE)]
  ·exact xX (by rw[List.length_append];omega) _ 0 0 X.marks
 have xu:=gk P.dP w1
 have PJ:=λr=>jY (xs:=rows) P.dP.1 c r
 obtain ⟨i1,i2⟩:=Je P.dP w1 w3
 have MG:c.2.2.1=true->rk c.2.2.2.1=ck c:=(lm w1).1
 have Th:fd ts < 12:=r4
 refine uG h hj xu rfl hy (by rw[pV];exact Ji) ?_ ?_ ?_ λi hi ci=>?_
 ·show (((ts[j]).2.1++[c]).length:Int)+fd ts<=_
  rw[List.length_append,List.length_cons,List.length_nil]
  omega
 ·refine Nat.le_trans (Jf (q:=q) PH λk hk=>?_) (by exact_mod_cast r3)
  unfold eh at hk ⊢
  rw[pV] at hk
  rcases List.mem_append.1 hk with g | g
  ·unfold iI at g
   obtain ⟨r,hr,rfl⟩:=List.mem_map.1 g
   rcases (PJ r).1 hr with g1 | g1
   ·exact .inl (List.mem_append_left _ (List.mem_map.2 ⟨r,g1.1,rfl⟩))
   ·right
    have:=MG g1.1
    rw[<-NG,<- this,g1.2]
    rfl
  ·rcases List.mem_append.1 g with g | g
   ·left
    rw[so]
    exact List.mem_append_right _ (List.mem_append_left _ g)
   ·rcases List.mem_append.1 g with g | g
    ·rcases (HP k).1 g with g | g
     ·left
      rw[so]
      exact List.mem_append_right _ (List.mem_append_right _ (List.mem_append_left _ g))
     ·exact .inr g
    ·left
     rw[so]
     exact List.mem_append_right _ (List.mem_append_right _ (List.mem_append_right _ g))
 ·obtain ⟨t0,tc⟩:=iF P hj
  have e:br (iq ts[j] c).2.1=ip c::br (ts[j]).2.1:=by
   show br ((ts[j]).2.1++[c])=_
   unfold br
   rw[List.reverse_append]
   rfl
  rw[e]
  refine ⟨t0,?_⟩
  simp only[bd]
  rw[if_pos i1,i2]
  exact tc
 ·intro r hr
  obtain ⟨d,hd,D8⟩:=hr
  have NJ:rk r≠ck c:=λhe=>by
   obtain ⟨d0,HA,rfl⟩:=nF hd
   have Jj:ts[i] ∈ ts:=List.getElem_mem hi
   have hl:=e7.1 (qM (R.each _ Jj).2 d0 HA)
   have Me:=oF (T.ch _ Jj d0 HA)
   refine xM _ Jj (eA i hi ci) ?_
   have:cZ d0=q:=by unfold cZ;rw[<-Me,D8,he];exact NG
   rw[<-this]
   exact hl
  rw[PJ]
  constructor
  ·exact λh1=>.inl ⟨h1,NJ⟩
  ·rintro (h1 | h1)
   ·exact h1.1
   ·exact absurd (by rw[h1.2];exact MG h1.1) NJ
end OT
set_option linter.unusedVariables false
set_option linter.unusedSimpArgs false
set_option linter.unusedSectionVars false
namespace OT
open Go
inductive iJ:Plain->Op->Int->Plain->Prop
 | oI {rows:List Row} {ts:List Tx} {n:Int} {o:Op} (hk:o.1=1) (hn:¬ n=100) (hl:ts.length < 4):iJ (rows,ts,n,()) o n (rows,ts++[oP n],n+1,())
 | yX {rows:List Row} {ts:List Tx} {n:Int} {o:Op} (hk:o.1=9):iJ (rows,ts,n,()) o 0 (rows,ts,n,())
 | u9 {rows:List Row} {ts:List Tx} {n:Int} {o:Op} {j:Nat} (hk:o.1=5) (hj:j < ts.length) (eA:(ts[j]).1=o.2.1) (hm:List.length (ts[j]).2.2.1 < 8):iJ (rows,ts,n,()) o (List.length (ts[j]).2.2.1:Int) (rows,ts.set j (nX ts[j]),n,())
 | u_ {rows t:List Row} {ts:List Tx} {n:Int} {o:Op} {j m k:Nat} (hk:o.1=6) (hj:j < ts.length) (eA:(ts[j]).1=o.2.1) (HQ:o.2.2.2.1=(m:Int)) (hm:(ts[j]).2.2.1[m]?=some (k:Int)) (Co:k<=List.length (ts[j]).2.1) (hb:bd rows (br ((ts[j]).2.1.drop k))=some t):iJ (rows,ts,n,()) o 0 (t,ts.set j (ql ts[j] k m),n,())
 | pv {rows:List Row} {ts:List Tx} {n:Int} {o:Op} {j:Nat} (hk:o.1=7) (hj:j < ts.length) (eA:(ts[j]).1=o.2.1):iJ (rows,ts,n,()) o 0 (rows,ts.take j++ts.drop (j+1),n,())
 | rQ {rows t:List Row} {ts:List Tx} {n:Int} {o:Op} {j:Nat} (hk:o.1=8) (hj:j < ts.length) (eA:(ts[j]).1=o.2.1) (hb:bd rows (br (ts[j]).2.1)=some t):iJ (rows,ts,n,()) o 0 (t,ts.take j++ts.drop (j+1),n,())
 | sW {rows:List Row} {ts:List Tx} {n:Int} {o:Op} {j:Nat} (hk:gt o.1=true) (hj:j < ts.length) (eA:(ts[j]).1=o.2.1) (hr:cY o.2.2.1=0) (ht:(h_ rows ts o).2.1=true):iJ (rows,ts,n,()) o 0 (dQ rows (aS rows o).1,ts.set j (iq ts[j] (aS rows o).1),n,())
 | va {rows:List Row} {ts:List Tx} {n:Int} {o:Op} {j:Nat} (hk:gt o.1=true) (hj:j < ts.length) (eA:(ts[j]).1=o.2.1) (ht:(cP rows ts o).2.1=false):iJ (rows,ts,n,()) o 0 (rows,ts,n,())
theorem Ly {ts:List Tx} (R:j9 ts) {i j:Nat} (hi:i < ts.length) (hj:j < ts.length) (h:(ts[i]).1=(ts[j]).1):i=j:=by
 rcases Nat.lt_trichotomy i j with g | g | g
 ·have:=List.pairwise_iff_getElem.1 R.rn i j hi hj g
  omega
 ·exact g
 ·have:=List.pairwise_iff_getElem.1 R.rn j i hj hi g
  omega
theorem xY {ts:List Tx} (R:j9 ts) {t:Int} {j:Nat} (hj:j < ts.length) (h:(ts[j]).1=t) (hn:¬ gX ts t < 0):gX ts t=(j:Int):=by
 obtain ⟨i,hi,h1,h2⟩:=at_mem hn
 have:=Ly R hi hj (by rw[h2,h])
 subst this
 exact h1
theorem pw {k:Int}:gt k=true↔k=2\/k=3\/k=4:=by
 unfold gt
 simp
section
variable {rows:List Row} {ts:List Tx} {n:Int} {o:Op} (h:bt (rows,ts,n,())=0) (h2:(cP rows ts o).1=0)
include h h2
theorem qp (k1:¬ o.1=1) (k9:¬ o.1=9):¬ gX ts o.2.1 < 0:=by
 have P:=aU h
 obtain ⟨c1,c2,c3⟩:ga o=0/\bK o.1 1 9=true/\cP rows ts o=eN rows ts o:=jH P h2
 intro hn
 rw[c3] at h2
 unfold eN at h2
 rw[if_neg k1,if_neg k9,if_pos hn] at h2
 cases h2
theorem HR (hk:o.1=1):ts.length < 4:=by
 have P:=aU h
 obtain ⟨c1,c2,c3⟩:ga o=0/\bK o.1 1 9=true/\cP rows ts o=eN rows ts o:=jH P h2
 rw[c3] at h2
 unfold eN at h2
 rw[if_pos hk] at h2
 split at h2
 ·cases h2
 ·rename_i hl
  simpa using hl
theorem Jk (hk:o.1=5) {j:Nat} (hj:j < ts.length) (dw:gX ts o.2.1=(j:Int)):List.length (ts[j]).2.2.1 < 8:=by
 have P:=aU h
 obtain ⟨c1,c2,c3⟩:ga o=0/\bK o.1 1 9=true/\cP rows ts o=eN rows ts o:=jH P h2
 rw[c3] at h2
 unfold eN at h2
 rw[if_neg (by omega),if_neg (by omega),if_neg (by omega),if_pos hk] at h2
 split at h2
 ·cases h2
 ·rename_i hn
  unfold lI at hn
  rw[dw,Int.toNat_natCast,List.getElem?_eq_getElem hj] at hn
  simp only[decide_eq_true_eq] at hn
  omega
theorem D9 (hk:gt o.1=true):cP rows ts o=h_ rows ts o/\cY o.2.2.1=0:=by
 have P:=aU h
 obtain ⟨c1,c2,c3⟩:ga o=0/\bK o.1 1 9=true/\cP rows ts o=eN rows ts o:=jH P h2
 have ta:=pw.1 hk
 have D2:=qp h h2 (by omega) (by omega)
 refine ⟨?_,?_⟩
 ·rw[c3]
  unfold eN
  rw[if_neg (by omega),if_neg (by omega),if_neg D2,if_neg (by omega),if_neg (by omega),if_pos hk]
 ·have:=c1
  unfold ga at this
  split at this
  ·cases this
  ·split at this
   ·cases this
   ·simpa [hk] using this
theorem Jl (hn:gt o.1=false):(cP rows ts o).2.1=false:=by
 have P:=aU h
 obtain ⟨c1,c2,c3⟩:ga o=0/\bK o.1 1 9=true/\cP rows ts o=eN rows ts o:=jH P h2
 rw[c3]
 unfold eN dX
 rw[if_neg (show ¬ gt o.1=true by rw[hn];decide)]
 repeat' split
 all_goals rfl
end
theorem LA {p:Plain} {o:Op} {v:Int} {q:Plain} (hp:oB p) (ho:rl o.2.2.1) (h:bt p=0) (h2:(cP p.1 p.2.1 o).1=0) (hs:iJ p o v q):ic p o ((0:Int),v,q,()):=by
 have P:=aU h
 have R:j9 p.2.1:=nZ P.gb
 cases hs with
 | @oI rows ts n _ hk hn hl=>
  rcases Cc hp ho h h2 hk with ⟨g,_⟩ | ⟨_,g⟩
  ·exact absurd g hn
  ·exact g
 | @yX rows ts n _ hk=>
  exact u0 hp ho h h2 (by omega) (by omega) (by omega) (by omega) (by omega) (Jl h h2 (by unfold gt;rw[hk];rfl))
 | @u9 rows ts n _ j hk hj eA hm=>
  exact DX hp ho h h2 hk hj (xY R hj eA (qp h h2 (by omega) (by omega)))
 | @u_ rows t ts n _ j m k hk hj eA HQ hm Co hb=>
  obtain ⟨t',k',m',hg,hl,hs,e1,e2,e3,e4⟩:=DY hp ho h h2 hk hj (xY R hj eA (qp h h2 (by omega) (by omega)))
  have DJ:m=m':=by omega
  subst DJ
  have e2:(ts[j]).2.2.1[m]?=some (k':Int):=e2
  have ta:k=k':=by
   rw[hm] at e2
   injection e2 with e2
   omega
  subst ta
  have e4:bd rows (br ((ts[j]).2.1.drop k))=some t':=e4
  rw[hb] at e4
  injection e4 with e4
  subst e4
  exact hs
 | @pv rows ts n _ j hk hj eA=>
  exact zR hp ho h h2 hk hj (xY R hj eA (qp h h2 (by omega) (by omega)))
 | @rQ rows t ts n _ j hk hj eA hb=>
  obtain ⟨t',hg,hl,hs,e⟩:=Ce hp ho h h2 hk hj (xY R hj eA (qp h h2 (by omega) (by omega)))
  have e:bd rows (br (ts[j]).2.1)=some t':=e
  rw[hb] at e
  injection e with e
  subst e
  exact hs
 | @sW rows ts n _ j hk hj eA hr ht=>
  have ta:=pw.1 hk
  have:=(D0 hp ho h h2 hk hj (xY R hj eA (qp h h2 (by omega) (by omega))) eA (by rw[(D9 h h2 hk).1];exact ht)).2.2
  unfold ln at this
  rw[List.getElem?_eq_getElem hj] at this
  exact this
 | @va rows ts n _ j hk hj eA ht=>
  have ta:=pw.1 hk
  exact u0 hp ho h h2 (by omega) (by omega) (by omega) (by omega) (by omega) ht
theorem LB {rows:List Row} {ts:List Tx} {n:Int} {o:Op} (h:bt (rows,ts,n,())=0) (h2:(cP rows ts o).1=0) (hn:¬ (o.1=1/\n=100)):∃ v q,iJ (rows,ts,n,()) o v q:=by
 have P:=aU h
 have R:j9 ts:=nZ P.gb
 obtain ⟨c1,c2,c3⟩:ga o=0/\bK o.1 1 9=true/\cP rows ts o=eN rows ts o:=jH P h2
 by_cases k1:o.1=1
 ·exact ⟨_,_,.oI k1 (λe=>hn ⟨k1,e⟩) (HR h h2 k1)⟩
 by_cases k9:o.1=9
 ·exact ⟨_,_,.yX k9⟩
 have D2:=qp h h2 k1 k9
 obtain ⟨j,hj,dw,qm⟩:=at_mem D2
 by_cases k5:o.1=5
 ·exact ⟨_,_,.u9 k5 hj qm (Jk h h2 k5 hj dw)⟩
 by_cases k6:o.1=6
 ·have hF:=h2
  rw[c3] at hF
  have Sr:o.2.2.2.1 < (List.length (ts[j]).2.2.1:Int):=by
   unfold eN at hF
   rw[if_neg k1,if_neg k9,if_neg D2,if_neg k5,if_pos k6] at hF
   split at hF
   ·cases hF
   ·rename_i hn
    unfold lI at hn
    rw[dw,Int.toNat_natCast,List.getElem?_eq_getElem hj] at hn
    simp only[decide_eq_true_eq] at hn
    omega
  have Ps:0<=o.2.2.2.1:=by
   have:=c1
   unfold ga at this
   split at this
   ·cases this
   ·split at this
    ·cases this
    ·rename_i hn
     simp only[Bool.or_eq_true,not_or,Bool.not_eq_true',Bool.not_eq_false] at hn
     have h3:=hn.2
     unfold bK at h3
     simp only[Bool.and_eq_true,decide_eq_true_eq] at h3
     exact h3.1
  have hm:ts[j] ∈ ts:=List.getElem_mem hj
  obtain ⟨m,ns⟩:∃ m:Nat,o.2.2.2.1=(m:Int):=⟨o.2.2.2.1.toNat,by omega⟩
  have vH:m < List.length (ts[j]).2.2.1:=by omega
  have DJ:=Cg (rO P.gb _ hm).2 _ (List.getElem_mem vH)
  obtain ⟨k,ci⟩:∃ k:Nat,(ts[j]).2.2.1[m]=(k:Int):=⟨((ts[j]).2.2.1[m]).toNat,by omega⟩
  obtain ⟨t0,tc⟩:=iF P hj
  obtain ⟨t,ht⟩:=zO tc k
  exact ⟨_,_,.u_ k6 hj qm ns (by rw[List.getElem?_eq_getElem vH,ci]) (by omega) ht⟩
 by_cases k7:o.1=7
 ·exact ⟨_,_,.pv k7 hj qm⟩
 by_cases k8:o.1=8
 ·obtain ⟨t,ht⟩:=iF P hj
  exact ⟨_,_,.rQ k8 hj qm ht⟩
 have zQ:gt o.1=true:=by
  rw[mc] at c2
  rw[pw]
  omega
 obtain ⟨r1,r2⟩:=D9 h h2 zQ
 cases ht:(cP rows ts o).2.1 with
 | false=>exact ⟨_,_,.va zQ hj qm ht⟩
 | true=>exact ⟨_,_,.sW zQ hj qm r2 (by rw[<-r1];exact ht)⟩
theorem ls {p:Plain} {o:Op} {v:Int} {q:Plain} (h:bt p=0) (hs:iJ p o v q):bt q=0:=by
 cases hs with
 | oI hk hn hl=>exact Dc h hn hl
 | yX hk=>exact h
 | u9 hk hj eA hm=>exact FK h hj hm
 | u_ hk hj eA HQ hm Co hb=>exact HO h hj hm Co hb
 | pv hk hj eA=>exact FF h hj
 | rQ hk hj eA hb=>exact Dd h hj hb
 | sW hk hj eA hr ht=>exact FL h hr hj eA ht
 | va hk hj eA ht=>exact h
theorem sX {p:Plain} {o:Op} {v:Int} {q:Plain} (hp:oB p) (h:bt p=0) (hs:iJ p o v q):oB q:=by
 have hq:=aU (ls h hs)
 have P:=aU h
 have T:kD p.2.1:=eo P.gb
 refine ⟨by have:=hq.len;omega,λx hx=>by have:=jK (hq.dP.2 x hx);unfold rl;rw[ak];omega,?_⟩
 obtain ⟨_,_,ht⟩:=hp
 cases hs with
 | oI hk hn hl=>exact Ls ht (Nat.le_of_lt hl) _
 | yX hk=>exact ht
 | u9 hk hj eA hm=>exact yU ht _ (Lq (ht.2 _ (List.getElem_mem hj)) (Nat.le_of_lt hm))
 | u_ hk hj eA HQ hm Co hb=>exact yU ht _ (Nt (ht.2 _ (List.getElem_mem hj)) _ _)
 | pv hk hj eA=>exact Ca ht _
 | rQ hk hj eA hb=>exact Ca ht _
 | @sW rows ts n _ j hk hj eA hr gY=>
  obtain ⟨r1,r2,_⟩:=ma gY
  exact yU ht _ (Lr (ht.2 _ (List.getElem_mem hj)) (T.ng _ (List.getElem_mem hj)) (T.qK _ (List.getElem_mem hj)) (lq P.dP hr r2).2.2.2)
 | va hk hj eA rD=>exact ht
theorem Jm {p:Plain} {o:Op} (hp:oB p) (ho:rl o.2.2.1) (h:bt p=0):∃ R,ic p o R/\(R.1=0->∃ v q,R=((0:Int),v,q,())/\(cP p.1 p.2.1 o).1=0/\iJ p o v q):=by
 obtain ⟨rows,ts,n,⟨⟩⟩:=p
 by_cases h2:(cP rows ts o).1=0
 rotate_left
 ·exact ⟨_,DW hp ho h h2,λe=>absurd e h2⟩
 by_cases hn:o.1=1/\n=100
 ·rcases Cc hp ho h h2 hn.1 with ⟨_,g⟩ | ⟨g,_⟩
  ·exact ⟨_,g,λe=>absurd e (show ¬ (9:Int)=0 by decide)⟩
  ·exact absurd hn.2 g
 ·obtain ⟨v,q,hs⟩:=LB h h2 hn
  exact ⟨_,LA hp ho h h2 hs,λ_=>⟨v,q,rfl,h2,hs⟩⟩
end OT
set_option linter.unusedVariables false
set_option linter.unusedSimpArgs false
set_option linter.unusedSectionVars false
namespace OT
open Go
section
variable {ps:jL} (hp:∀ p ∈ ps,p.length<=maxLen)
include hp
end
end OT
set_option linter.unusedVariables false
set_option linter.unusedSimpArgs false
set_option linter.unusedSectionVars false
namespace OT
open Go
end OT
set_option linter.unusedVariables false
set_option linter.unusedSimpArgs false
set_option linter.unusedSectionVars false
namespace OT
open Go
def HS (ps:jL) (e:ua):jL:=if e.1.toNat=ps.length then ps++[e.2.1] else ps.set e.1.toNat e.2.1
def KM (ps:jL) (es:List ua):jL:=es.foldl HS ps
def QB (ps:jL) (e:ua):Prop:=List.length e.2.1=64/\0<=e.1/\e.1<=(ps.length:Int)/\e.1 < 12
def FM:jL->List ua->Prop
 | _,[]=>True
 | ps,e::es=>QB ps e/\FM (HS ps e) es
def NK (ps:jL) (es:List ua) (B:Nat->List Row):Prop:=∀ j,j<=es.length->FB (KM ps (es.take j))=0/\OC (KM ps (es.take j))=B j
structure SF (ps:jL) (w:kT) (B0:List Row):Prop where
 at_:KM ps w.2.1=w.1
 ed:FM ps w.2.1
 SG:NK ps w.2.1 λ_=>B0
structure QE (ps:jL) (w:kT) (B0 B1:List Row):Prop where
 at_:KM ps w.2.1=w.1
 ed:FM ps w.2.1
 SG:∃ m,m<=List.length w.2.1/\NK ps w.2.1 λj=>if j < m then B0 else B1
end OT
set_option linter.unusedVariables false
set_option linter.unusedSimpArgs false
set_option linter.unusedSectionVars false
namespace OT
open Go
end OT
set_option linter.unusedVariables false
set_option linter.unusedSimpArgs false
set_option linter.unusedSectionVars false
namespace OT
open Go
theorem LC (x y:Row):Ty.eq aj x y=decide (x=y):=by
 cases h:Ty.eq aj x y with
 | true=>rw[Ho h];simp
 | false=>
  have:¬ x=y:=λhe=>by
   subst he
   have e:Ty.eq aj x x=(decide (x.1=x.1)&&(decide (x.2.1=x.2.1)&&(decide (x.2.2.1=x.2.2.1)&&(decide (x.2.2.2.1=x.2.2.2.1)&&true)))):=rfl
   rw[e] at h
   simp at h
  rw[decide_eq_false this]
def sameAt {α:Type} [DecidableEq α] (ys:List α) (i:Nat) (x:α):Bool:=match ys[i]? with | some y=>decide (x=y) | none=>true
theorem xZ {α:Type} [DecidableEq α] {ys:List α} {i:Nat} (h:i < ys.length) (x:α):sameAt ys i x=decide (x=ys[i]):=by unfold sameAt;rw[List.getElem?_eq_getElem h]
theorem zY {α:Type} [DecidableEq α] (ys:List α):∀ (l:List α) (j:Nat),j+l.length=ys.length->aX (λi (_:Unit) x=>if sameAt ys i x then .inr () else .inl (false,())) (λ_=>(true,())) j l ()=(decide (l=ys.drop j),())
 | [],j,h=>by
  have:ys.drop j=[]:=List.drop_eq_nil_of_le (by simpa using Nat.le_of_eq h.symm)
  simp[aX,this]
 | x::l,j,h=>by
  have hj:j < ys.length:=by simp only[List.length_cons] at h;omega
  have hd:ys.drop j=ys[j]::ys.drop (j+1):=(List.drop_eq_getElem_cons hj)
  simp only[aX,xZ hj]
  by_cases hx:x=ys[j]
  ·rw[if_pos (by simpa using hx)]
   have:=zY ys l (j+1) (by simp only[List.length_cons] at h;omega)
   refine this.trans ?_
   rw[hd,hx]
   congr 1
   exact decide_eq_decide.2 ⟨λh=>by rw[h],λh=>by injection h⟩
  ·rw[if_neg (by simpa using hx),hd]
   have ci:¬ x::l=ys[j]::ys.drop (j+1):=λh=>hx (by injection h)
   rw[decide_eq_false ci]
theorem zZ (xs ys:List Row) (h:xs.length<=1000):eg.ab (xs,ys,())=some (decide (xs=ys),()):=by
 refine ag (k:=1100) λk hk=>(eg.ae k _).trans ?_
 unfold eg.p
 by_cases hl:xs.length=ys.length
 rotate_left
 ·have G6:¬ ((xs.length:Int)=(ys.length:Int)):=by omega
  have ci:¬ xs=ys:=λhe=>hl (by rw[he])
  rw[decide_eq_false G6,Bool.not_false,cond_true,decide_eq_false ci]
 have G6:(xs.length:Int)=(ys.length:Int):=by omega
 rw[decide_eq_true G6,Bool.not_true,cond_false]
 have:=bI (B:=λself v=>eg.B0 k self (λz=>eg.Q0 k (xs,ys,()) z) (xs,ys,()) v) xs (λ(_:Unit) (i:Int)=>i) (λi _ x=>if sameAt ys i x then .inr () else .inl (false,())) (λ_=>(true,())) (λ_ _=>True) (by rw[ak];omega)
  (λi hi s self _=>by
   show eg.b0 _ _ _ _=_
   unfold eg.b0
   have aE:(i:Int) < (xs.length:Int):=by omega
   rw[decide_eq_true aE,cond_true,if_pos (Int.natCast_nonneg i)]
   simp only[Int.toNat_natCast,List.getElem?_eq_getElem hi,List.getElem?_eq_getElem (show i < ys.length by omega),Option.bind_some,LC]
   rw[if_pos (Int.natCast_nonneg i)]
   rw[xZ (show i < ys.length by omega)]
   by_cases hx:xs[i]=ys[i]'(by omega)
   ·rw[decide_eq_true hx];rfl
   ·rw[decide_eq_false hx];rfl)
  (λ_ _ _ _ _ _=>trivial) (λs self _=>by
   show eg.b0 _ _ _ _=_
   unfold eg.b0
   rw[decide_eq_false (Int.lt_irrefl _),cond_false]
   rfl) () trivial k (by omega)
 rw[zY ys xs 0 (by omega)] at this
 exact this
end OT
set_option linter.unusedVariables false
set_option linter.unusedSimpArgs false
set_option linter.unusedSectionVars false
namespace OT
open Go
end OT
set_option linter.unusedVariables false
set_option linter.unusedSimpArgs false
set_option linter.unusedSectionVars false
namespace OT
open Go
end OT
set_option linter.unusedVariables false
set_option linter.unusedSimpArgs false
set_option linter.unusedSectionVars false
namespace OT
open Go
def bv (s:ax) (b:Int):Prop:=List.length s.1<=1048576/\0<=s.2.1/\s.2.1<=b
theorem bv.mono {s:ax} {a b:Int} (h:bv s a) (hb:a<=b):bv s b:=⟨h.1,h.2.1,Int.le_trans h.2.2 hb⟩
theorem rR {v n:Int} (hv:0<=v) (hn:1<=n):0<=v.tmod n/\v.tmod n < n:=by
 rw[Int.tmod_eq_emod_of_nonneg hv]
 exact ⟨Int.emod_nonneg _ (by omega),Int.emod_lt_of_pos _ (by omega)⟩
theorem gZ {s:ax} {b n:Int} (h:bv s b) (hb:b<=1000000) (hn:1<=n) (rF:n<=1000000):∃ v t,am.ab (s,n,())=some (v,t,())/\0<=v/\v < n/\bv t (b+1):=by
 obtain ⟨c,a,⟨⟩⟩:=s
 obtain ⟨hc,ha,Ht⟩:=h
 replace hc:c.length<=1048576:=hc
 replace ha:0<=a:=ha
 replace Ht:a<=b:=Ht
 have h1:al (a+1)=a+1:=ct (by omega)
 have h2:al (a+1 - 1)=a:=by rw[ct (by omega)];omega
 suffices hs:∃ v,(0<=v/\v < n)/\am.p ((c,a,()),n,())=some (v,(c,a+1,()),()) by
  obtain ⟨v,hv,hp⟩:=hs
  exact ⟨v,(c,a+1,()),ag (k:=0) λk _=>(am.ae k _).trans hp,hv.1,hv.2,hc,by show 0<=a+1;omega,by show a+1<=b+1;omega⟩
 unfold am.p
 have n1:¬ n < 1:=by omega
 have n0:¬ n=0:=by omega
 simp only[n1,n0,h1,h2,decide_false,cond_false,if_false]
 by_cases hl:c.length=0
 ·have e:(c.length:Int)=0:=by omega
  simp only[e,decide_true,cond_true]
  exact ⟨_,rR (by rw[ct (by omega)];omega) hn,rfl⟩
 have e:¬ (c.length:Int)=0:=by omega
 have q0:=rR (v:=a) (n:=(c.length:Int)) ha (by omega)
 have q1:=rR (v:=a+1) (n:=(c.length:Int)) (by omega) (by omega)
 have i0:(a.tmod (c.length:Int)).toNat < c.length:=by omega
 have i1:((a+1).tmod (c.length:Int)).toNat < c.length:=by omega
 simp only[e,decide_false,cond_false,if_false,q0.1,q1.1,if_true,List.getElem?_eq_getElem i0,List.getElem?_eq_getElem i1,Option.bind_some]
 have hd:0<=a.tdiv (c.length:Int)/\a.tdiv (c.length:Int)<=a:=by
  rw[Int.tdiv_eq_ediv_of_nonneg ha]
  exact ⟨Int.ediv_nonneg ha (by omega),Int.ediv_le_self _ ha⟩
 have b0:(c[(a.tmod (c.length:Int)).toNat]).toNat < 256:=UInt8.toNat_lt _
 have b1:(c[((a+1).tmod (c.length:Int)).toNat]).toNat < 256:=UInt8.toNat_lt _
 generalize (c[(a.tmod (c.length:Int)).toNat]).toNat=x at b0 ⊢
 generalize (c[((a+1).tmod (c.length:Int)).toNat]).toNat=y at b1 ⊢
 generalize a.tdiv (c.length:Int)=d at hd ⊢
 have w1:al (x:Int)=(x:Int):=ct (by omega)
 have w0:al d=d:=ct (by omega)
 have w2:al (d*37)=d*37:=ct (by omega)
 have w3:al ((x:Int)+d*37)=(x:Int)+d*37:=ct (by omega)
 by_cases NL:200 < n
 ·simp only[NL,decide_true,cond_true,w0,w1,w2,w3]
  have w4:al (((x:Int)+d*37)*251)=((x:Int)+d*37)*251:=ct (by omega)
  have w5:al (y:Int)=(y:Int):=ct (by omega)
  have w6:al ((y:Int)*13)=(y:Int)*13:=ct (by omega)
  have w7:al (((x:Int)+d*37)*251+(y:Int)*13)=((x:Int)+d*37)*251+(y:Int)*13:=ct (by omega)
  have w8:al (((x:Int)+d*37)*251+(y:Int)*13+a)=((x:Int)+d*37)*251+(y:Int)*13+a:=ct (by omega)
  simp only[w4,w5,w6,w7,w8]
  exact ⟨_,rR (by omega) hn,rfl⟩
 ·simp only[NL,decide_false,cond_false,w0,w1,w2,w3]
  exact ⟨_,rR (by omega) hn,rfl⟩
theorem HT {s:ax} {b n:Int} (h:bv s b) (hb:b<=1000000) (hn:1<=n) (rF:n<=1000000):∃ v t,cR.ab (s,n,())=some (v,t,())/\bv t (b+1):=by
 obtain ⟨v,t,h1,_,_,h2⟩:=gZ h hb hn rF
 refine ⟨decide (v=0),t,ag (k:=0) λk _=>(cR.ae k _).trans ?_,h2⟩
 unfold cR.p
 rw[h1]
 rfl
theorem rS {s:ax} {b:Int} (h:bv s b) (hb:b<=1000000) (l:List Int) (hn:1<=l.length) (rF:l.length<=1000000):∃ v t,aR.ab (s,l,())=some (v,t,())/\v ∈ l/\bv t (b+1):=by
 obtain ⟨v,t,h1,h2,h3,h4⟩:=gZ (n:=(l.length:Int)) h hb (by omega) (by omega)
 have hi:v.toNat < l.length:=by omega
 refine ⟨l[v.toNat],t,ag (k:=0) λk _=>(aR.ae k _).trans ?_,List.getElem_mem hi,h4⟩
 unfold aR.p
 rw[h1]
 simp only[Option.bind_some,h2,if_true,List.getElem?_eq_getElem hi]
theorem D_ {α:Type} (l:List α) {v:Int} (h:0<=v/\v < (l.length:Int)):∃ x,l[v.toNat]?=some x/\x ∈ l:=by
 have hi:v.toNat < l.length:=by omega
 exact ⟨l[v.toNat],List.getElem?_eq_getElem hi,List.getElem_mem hi⟩
theorem nq {m:Nat} (h:m<=1000):al (((m+1:Nat):Int) - 1)=(m:Int):=by rw[ct (by omega)];omega
theorem wz {X O V:Type} (M:Int) {B:(V->Option O)->V->Option O} (enc:ax->X->Int->V) (I:Int->X->Prop) (d:Int) (hd:0<=d) (G:ax->X->Option O)
  (cw:∀ (n:Nat) (s:ax) (x:X) (b:Int),n<=1000->bv s b->b<=M->I b x->∃ s' x',bv s' (b+d)/\I (b+d) x'/\∀ self,B self (enc s x ((n+1:Nat):Int))=self (enc s' x' (n:Int)))
  (iS:∀ (s:ax) (x:X) (b:Int),bv s b->I b x->∀ self,B self (enc s x 0)=G s x) :
  ∀ (n:Nat) (s:ax) (x:X) (b:Int),n<=1000->bv s b->I b x->b+d*n<=M->∃ s' x',bv s' (b+d*n)/\I (b+d*n) x'/\∀ k,n < k->au B k (enc s x (n:Int))=G s' x'
 | 0,s,x,b,_,hs,hI,_=>⟨s,x,by simpa using hs,by simpa using hI,λk hk=>by
   obtain ⟨j,rfl⟩:∃ j,k=j+1:=⟨k - 1,by omega⟩
   rw[mO]
   exact iS s x b hs hI _⟩
 | n+1,s,x,b,hn,hs,hI,hb=>by
  have hm:d*((n+1:Nat):Int)=d+d*(n:Int):=by rw[Int.natCast_succ,Int.mul_add,Int.mul_one,Int.add_comm]
  have hp:0<=d*(n:Int):=Int.mul_nonneg hd (by omega)
  obtain ⟨s1,x1,J,a2,a3⟩:=cw n s x b (by omega) hs (by omega) hI
  obtain ⟨s2,x2,c1,c2,c3⟩:=wz M enc I d hd G cw iS n s1 x1 (b+d) (by omega) J a2 (by omega)
  have e:b+d*((n+1:Nat):Int)=b+d+d*(n:Int):=by omega
  refine ⟨s2,x2,e ▸ c1,e ▸ c2,λk hk=>?_⟩
  obtain ⟨j,rfl⟩:∃ j,k=j+1:=⟨k - 1,by omega⟩
  rw[mO,a3]
  exact c3 j (by omega)
theorem yY {X O V:Type} (M:Int) {B:(V->Option O)->V->Option O} (enc:ax->X->Int->V) (I:Int->X->Prop) (d:Int) (hd:0<=d) (fin:ax->X->O)
  (cw:∀ (n:Nat) (s:ax) (x:X) (b:Int),n<=1000->bv s b->b<=M->I b x->∃ s' x',bv s' (b+d)/\I (b+d) x'/\∀ self,B self (enc s x ((n+1:Nat):Int))=self (enc s' x' (n:Int)))
  (iS:∀ (s:ax) (x:X) (b:Int),bv s b->I b x->∀ self,B self (enc s x 0)=some (fin s x)) (n:Nat) (s:ax) (x:X) (b:Int) (hn:n<=1000) (hs:bv s b) (hI:I b x) (hb:b+d*n<=M) :
  ∃ s' x',bv s' (b+d*n)/\I (b+d*n) x'/\∀ k,n < k->au B k (enc s x (n:Int))=some (fin s' x'):=
 wz M enc I d hd (λs x=>some (fin s x)) cw iS n s x b hn hs hI hb
theorem HU (c:List UInt8):iV.ab (c,())=some ((c,(0:Int),()),()):=ag (k:=0) λk _=>(iV.ae k _).trans rfl
end OT
set_option linter.unusedVariables false
set_option linter.unusedSimpArgs false
set_option linter.unusedSectionVars false
namespace OT
open Go
end OT
set_option linter.unusedVariables false
set_option linter.unusedSimpArgs false
set_option linter.unusedSectionVars false
namespace OT
open Go
theorem pp {s:ax} {b:Int} (h:bv s b) (hb:b<=900000):∃ r t,da.ab (s,())=some (r,t,())/\cY r=0/\bv t (b+5):=by
 obtain ⟨v1,t1,e1,J,c1,s1⟩:=gZ (n:=3) h (by omega) (by omega) (by omega)
 obtain ⟨v2,t2,e2,a2,c2,s2⟩:=gZ (n:=6) s1 (by omega) (by omega) (by omega)
 obtain ⟨v3,t3,e3,a3,c3,s3⟩:=gZ (n:=9) s2 (by omega) (by omega) (by omega)
 obtain ⟨v4,t4,e4,m4,s4⟩:=rS s3 (by omega) [v3,(300:Int),(999:Int)] (by simp) (by simp)
 obtain ⟨v5,t5,e5,a5,c5,s5⟩:=gZ (n:=4) s4 (by omega) (by omega) (by omega)
 obtain ⟨x,hx,mx⟩:=D_ [([]:List UInt8),([97]:List UInt8),([97,98,99]:List UInt8),([97,98,99,100,101,102,103,104]:List UInt8)] (v:=v5) ⟨a5,by simpa using c5⟩
 have w1:al (1+v2)=1+v2:=ct (by omega)
 refine ⟨(v1,1+v2,v4,x,()),t5,ag (k:=0) λk _=>(da.ae k _).trans ?_,?_,s5.mono (by omega)⟩
 ·unfold da.p
  rw[e1]
  simp only[Option.bind_some,e2,e3,e4,e5,w1,hx]
  rw[if_pos ⟨a5,by simpa using c5⟩]
 ·have PK:0<=v4/\v4<=999:=by
   simp only[List.mem_cons,List.not_mem_nil,or_false] at m4
   omega
  have mL:nT x=true:=by
   simp only[List.mem_cons,List.not_mem_nil,or_false] at mx
   rcases mx with rfl | rfl | rfl | rfl <;> decide
  unfold cY bK
  have i1:v1<=3:=by omega
  have i2:(1:Int)<=1+v2:=by omega
  have i3:1+v2<=99:=by omega
  simp only[J,i1,i2,i3,PK.1,PK.2,mL,decide_true,Bool.and_self,if_true]
theorem uI {r:Row} (h:cY r=0):List.length r.2.2.2.1<=8:=HK (nH h).2.2.2
theorem sY {s:ax} {b:Int} (h:bv s b) (hb:b<=800000):∃ r t,ee.ab (s,())=some (r,t,())/\List.length r.2.2.2.1<=9/\bv t (b+7):=by
 obtain ⟨r,t1,e1,hr,s1⟩:=pp h (by omega)
 have hs:=uI hr
 obtain ⟨v,t2,e2,a2,c2,s2⟩:=gZ (n:=12) s1 (by omega) (by omega) (by omega)
 suffices hp:∃ r' t',ee.p (s,())=some (r',t',())/\List.length r'.2.2.2.1<=9/\bv t' (b+7) by
  obtain ⟨r',t',p1,p2,p3⟩:=hp
  exact ⟨r',t',ag (k:=0) λk _=>(ee.ae k _).trans p1,p2,p3⟩
 unfold ee.p
 rw[e1]
 simp only[Option.bind_some,e2]
 by_cases h0:v=0
 ·obtain ⟨u,t3,e3,_,s3⟩:=rS s2 (by omega) [(-1:Int),(3:Int),(4:Int)] (by simp) (by simp)
  simp only[h0,decide_true,cond_true,e3,Option.bind_some]
  exact ⟨_,_,rfl,by show List.length r.2.2.2.1<=9;omega,s3.mono (by omega)⟩
 by_cases h1:v=1
 ·obtain ⟨u,t3,e3,_,s3⟩:=rS s2 (by omega) [(0:Int),(99:Int),(100:Int)] (by simp) (by simp)
  simp only[h1,show ¬ (1:Int)=0 by omega,decide_true,decide_false,cond_true,cond_false,e3,Option.bind_some]
  exact ⟨_,_,rfl,by show List.length r.2.2.2.1<=9;omega,s3.mono (by omega)⟩
 by_cases h2:v=2
 ·obtain ⟨u,t3,e3,_,s3⟩:=rS s2 (by omega) [(-1:Int),(1000:Int)] (by simp) (by simp)
  simp only[h2,show ¬ (2:Int)=0 by omega,show ¬ (2:Int)=1 by omega,decide_true,decide_false,cond_true,cond_false,e3,Option.bind_some]
  exact ⟨_,_,rfl,by show List.length r.2.2.2.1<=9;omega,s3.mono (by omega)⟩
 by_cases h3:v=3
 ·obtain ⟨u,t3,e3,a3,c3,s3⟩:=gZ (n:=3) s2 (by omega) (by omega) (by omega)
  obtain ⟨x,hx,mx⟩:=D_ [([65]:List UInt8),([97,98,99,100,101,102,103,104,105]:List UInt8),([97,32,98]:List UInt8)] (v:=u) ⟨a3,by simpa using c3⟩
  simp only[h3,show ¬ (3:Int)=0 by omega,show ¬ (3:Int)=1 by omega,show ¬ (3:Int)=2 by omega,decide_true,decide_false,cond_true,cond_false,e3,Option.bind_some]
  rw[if_pos ⟨a3,by simpa using c3⟩,hx]
  refine ⟨_,_,rfl,?_,s3.mono (by omega)⟩
  show List.length x<=9
  simp only[List.mem_cons,List.not_mem_nil,or_false] at mx
  rcases mx with rfl | rfl | rfl <;> decide
 simp only[h0,h1,h2,h3,decide_false,cond_false]
 exact ⟨_,_,rfl,by omega,s2.mono (by omega)⟩
theorem Cp (xs:List Row) (r:Row):(kV xs r).length=xs.length+1:=by
 unfold kV
 simp only[List.length_append,List.length_take,List.length_drop,List.length_cons,List.length_nil]
 omega
theorem HV {x:List Row} {r:Row} (hu:up x) (hf:lw x (r.1,r.2.1) < 0):∀ y ∈ x,rk y≠rk r:=λy hy he=>by
 obtain ⟨i,hi,hx⟩:=List.getElem_of_mem hy
 have:=(oA hu hi (k:=(r.1,r.2.1)) (by rw[hx];exact he)).1
 unfold lw at hf
 rw[this] at hf
 simp only[if_true] at hf
 omega
theorem De {s:ax} {b:Int} (h:bv s b) (hb:b<=500000):∃ xs t,dg.ab (s,())=some (xs,t,())/\xs.length<=6/\(∀ r ∈ xs,cY r=0)/\bv t (b+100):=by
 have Gf:0<=b:=Int.le_trans h.2.1 h.2.2
 obtain ⟨v,t1,e1,J,c1,s1⟩:=gZ (n:=7) h (by omega) (by omega) (by omega)
 have:=yY 700000 (B:=λw v=>dg.b0 w (dg.q0 (s,())) (s,()) v) (λs (l:List Row) i=>(s,l,i)) (λc l=>up l/\(∀ r ∈ l,cY r=0)/\5*(l.length:Int)<=c - b - 1) 5 (by omega) (λs l=>(l,s,()))
  (λm s x c hm hs hc hI=>by
   obtain ⟨r,t,e1,hr,s1⟩:=pp hs (by omega)
   have aE:(0:Int) < ((m+1:Nat):Int):=by omega
   have ol:=hs.2
   have hA:=oz x r.1 r.2.1 hI.1 (by omega)
   have hP:=sN x r (by omega)
   by_cases hf:lw x (r.1,r.2.1) < 0
   ·refine ⟨t,kV x r,s1,⟨D4 hI.1 (HV hI.1 hf),?_,by rw[Cp];omega⟩,λself=>?_⟩
    ·intro y hy
     rcases List.mem_cons.1 ((zS x r).mem_iff.1 hy) with h1 | h1
     ·rw[h1];exact hr
     ·exact hI.2.1 y h1
    ·unfold dg.b0
     simp only[aE,decide_true,cond_true,e1,Option.bind_some,nq hm,hA,hP,hf]
   ·refine ⟨t,x,s1,⟨hI.1,hI.2.1,by omega⟩,λself=>?_⟩
    unfold dg.b0
    simp only[aE,decide_true,cond_true,e1,Option.bind_some,nq hm,hA,hf,decide_false,cond_false])
  (λs x c _ _ self=>by
   unfold dg.b0
   rw[decide_eq_false (Int.lt_irrefl _),cond_false]
   rfl) v.toNat t1 [] (b+1) (by omega) s1 ⟨List.Pairwise.nil,λ_ h=>(by cases h),by simp only[List.length_nil];omega⟩ (by omega)
 obtain ⟨t,l,uJ,a2,a3⟩:=this
 have hv:((v.toNat:Nat):Int)=v:=by omega
 rw[hv] at a3 uJ a2
 refine ⟨l,t,ag (k:=8) λk hk=>(dg.ae k _).trans ?_,by have:=a2.2.2;omega,a2.2.1,uJ.mono (by omega)⟩
 unfold dg.p
 rw[e1]
 exact a3 k (by omega)
end OT
set_option linter.unusedVariables false
set_option linter.unusedSimpArgs false
set_option linter.unusedSectionVars false
namespace OT
open Go
def Gv {O:Type} (P:O->Prop) (x:Option O):Prop:=∃ y,x=some y/\P y
theorem Gv.some {O:Type} {P:O->Prop} {y:O} (h:P y):Gv P (some y):=⟨y,rfl,h⟩
theorem Gv.bif {O:Type} {P:O->Prop} {c:Bool} {x y:Option O} (h1:c=true->Gv P x) (h2:c=false->Gv P y):Gv P (bif c then x else y):=by
 cases c
 ·exact h2 rfl
 ·exact h1 rfl
theorem Gv.bind {O Q:Type} {P:O->Prop} {R:Q->Prop} {x:Option Q} {f:Q->Option O} (h:Gv R x) (h2:∀ y,R y->Gv P (f y)):Gv P (x.bind f):=by
 obtain ⟨y,e,hy⟩:=h
 rw[e]
 exact h2 y hy
theorem Gv.ite {O:Type} {P:O->Prop} {c:Prop} [Decidable c] {x y:Option O} (hc:c) (h:Gv P x):Gv P (if c then x else y):=by
 rw[if_pos hc]
 exact h
theorem Gv.get {O α:Type} {P:O->Prop} {l:List α} {i:Nat} {f:α->Option O} (hi:i < l.length) (h:∀ x,l[i]?=Option.some x->x ∈ l->Gv P (f x)):Gv P ((l[i]?).bind f):=by
 have e:=List.getElem?_eq_getElem hi
 rw[e]
 exact h _ e (List.getElem_mem hi)
theorem Gv.next {O:Type} {P:O->Prop} {s:ax} {b n:Int} {f:Int×ax×Unit->Option O} (h:bv s b) (hb:b<=1000000) (hn:1<=n) (rF:n<=1000000) (h2:∀ v t,0<=v->v < n->bv t (b+1)->Gv P (f (v,t,()))):Gv P ((am.ab (s,n,())).bind f):=by
 obtain ⟨v,t,e,a,c,s1⟩:=gZ h hb hn rF
 rw[e]
 exact h2 v t a c s1
theorem Gv.x_ {O:Type} {P:O->Prop} {s:ax} {b n:Int} {f:Bool×ax×Unit->Option O} (h:bv s b) (hb:b<=1000000) (hn:1<=n) (rF:n<=1000000) (h2:∀ v t,bv t (b+1)->Gv P (f (v,t,()))):Gv P ((cR.ab (s,n,())).bind f):=by
 obtain ⟨v,t,e,s1⟩:=HT h hb hn rF
 rw[e]
 exact h2 v t s1
theorem Gv.pick {O:Type} {P:O->Prop} {s:ax} {b:Int} {l:List Int} {f:Int×ax×Unit->Option O} (h:bv s b) (hb:b<=1000000) (hn:1<=l.length) (rF:l.length<=1000000) (h2:∀ v t,v ∈ l->bv t (b+1)->Gv P (f (v,t,()))):Gv P ((aR.ab (s,l,())).bind f):=by
 obtain ⟨v,t,e,m,s1⟩:=rS h hb l hn rF
 rw[e]
 exact h2 v t m s1
def Jn (rows:List Row) (r:Row):Prop:=List.length r.2.2.2.1<=9/\((∀ x ∈ rows,cY x=0)->cY r=0)
def ya (rows:List Row) (B:Int) (y:Op×ax×Unit):Prop:=List.length y.1.2.2.1.2.2.2.1<=9/\bv y.2.1 B/\bK y.1.1 1 9=true/\((∀ x ∈ rows,cY x=0)->gt y.1.1=true->cY y.1.2.2.1=0)
theorem nI {a b c:Int} {x:List UInt8} (h1:0<=a/\a<=3) (h2:1<=b/\b<=99) (h3:0<=c/\c<=999) (h4:nT x=true):cY (a,b,c,x,())=0:=by
 unfold cY bK
 simp only[h1.1,h1.2,h2.1,h2.2,h3.1,h3.2,h4,decide_true,Bool.and_self,if_true]
set_option maxRecDepth 20000 in
theorem qP {s:ax} {b:Int} {rows:List Row} {ts:List Tx} (h:bv s b) (hb:b<=500000) (hr:rows.length<=1000000) (ht:ts.length<=1000000):Gv (ya rows (b+40)) (cL.ab (s,rows,ts,())):=by
 suffices hq:Gv (ya rows (b+40)) (cL.p (s,rows,ts,())) by
  obtain ⟨y,e,hy⟩:=hq
  exact ⟨y,ag (k:=0) λk _=>(cL.ae k _).trans e,hy⟩
 unfold cL.p
 refine Gv.next h (by omega) (by omega) (by omega) λv1 t1 J c1 s1=>?_
 extract_lets j1
 have h1:∀ (p:ax) (q:Int),bv p (b+5)->Gv (ya rows (b+40)) (j1 p q):=λp q s2=>by
  show Gv _ ((da.ab (p,())).bind _)
  obtain ⟨r,t3,e3,F_,s3⟩:=pp s2 (by omega)
  have Dn:=uI F_
  obtain ⟨y1,y2,y3,y4⟩:=nH F_
  rw[e3,Option.bind_some]
  refine Gv.pick s3 (by omega) (by simp) (by simp) λv4 t4 m4 s4=>?_
  extract_lets j3 j2
  have h3:∀ (p3:ax) (q3:Row),bv p3 (b+25)->Jn rows q3->Gv (ya rows (b+40)) (j3 p3 q3):=λp3 q3 s6 PL=>by
   dsimp -zeta only [j3]
   extract_lets j4
   have h4:∀ q4:Row,Jn rows q4->Gv (ya rows (b+40)) (j4 q4):=λq4 KN=>by
    show Gv _ ((am.ab (p3,(12:Int),())).bind _)
    refine Gv.next s6 (by omega) (by omega) (by omega) λv7 t7 a7 c7 s7=>?_
    have m7:bv t7 (b+40):=s7.mono (by omega)
    have PN:b+25+1+1<=b+40:=by omega
    have Du:b+25+1<=1000000:=by omega
    have kz:∀ (k a m:Int),bK k 1 9=true->gt k=false->ya rows (b+40) ((k,a,((0:Int),(0:Int),(0:Int),([]:List UInt8),()),m,()),t7,()):=λk a m h1 h2=>⟨Nat.zero_le _,m7,h1,λ_ h=>by rw[show gt k=true from h] at h2;cases h2⟩
    have kr:∀ (k a m:Int),bK k 1 9=true->ya rows (b+40) ((k,a,q4,m,()),t7,()):=λk a m h1=>⟨KN.1,m7,h1,λh _=>KN.2 h⟩
    have kd:∀ (k a m:Int),bK k 1 9=true->ya rows (b+40) ((k,a,(q4.1,q4.2.1,(0:Int),([]:List UInt8),()),m,()),t7,()):=λk a m h1=>⟨Nat.zero_le _,m7,h1,λh _=>by
     obtain ⟨z1,z2,z3,z4⟩:=nH (KN.2 h)
     exact nI z1 z2 (by decide) rfl⟩
    repeat' first
     | (with_reducible refine Gv.bif (λ_=>?_) λ_=>?_)
     | ((with_reducible refine Gv.some ?_);first | exact kz _ _ _ rfl rfl | exact kr _ _ _ rfl | exact kd _ _ _ rfl)
     | ((with_reducible refine Gv.next (n:=3) s7 Du (by decide) (by decide) λv8 t8 a8 c8 s8=>?_);exact Gv.some ⟨Nat.zero_le _,s8.mono PN,rfl,λ_ h=>absurd (show gt 6=true from h) (by decide)⟩)
     | ((with_reducible refine Gv.pick (l:=[(7:Int),(8:Int)]) s7 Du (by decide) (by decide) λv8 t8 m8 s8=>?_);exact Gv.some ⟨Nat.zero_le _,s8.mono PN,(by
       simp only[List.mem_cons,List.not_mem_nil,or_false] at m8
       rcases m8 with rfl | rfl <;> rfl),λ_ h=>by
       simp only[List.mem_cons,List.not_mem_nil,or_false] at m8
       rcases m8 with rfl | rfl
       ·exact absurd (show gt 7=true from h) (by decide)
       ·exact absurd (show gt 8=true from h) (by decide)⟩)
   clear_value j4
   refine Gv.bif (λhc=>h4 _ ⟨Nat.zero_le _,λh=>?_⟩) λ_=>h4 _ PL
   obtain ⟨z1,z2,z3,z4⟩:=nH (PL.2 h)
   exact nI z1 z2 z3 rfl
  clear_value j3
  have h2:∀ (p2:ax) (q2:Row),bv p2 (b+20)->Jn rows q2->Gv (ya rows (b+40)) (j2 p2 q2):=λp2 q2 s5 Cq=>by
   dsimp -zeta only [j2]
   refine Gv.bif (λhc=>?_) λ_=>h3 _ _ (s5.mono (by omega)) Cq
   refine Gv.x_ s5 (by omega) (by omega) (by omega) λv6 t6 s6=>?_
   have vV:(0:Int) < (rows.length:Int):=of_decide_eq_true hc
   refine Gv.bif (λ_=>?_) λ_=>h3 _ _ (s6.mono (by omega)) Cq
   refine Gv.next (n:=(rows.length:Int)) s6 (by omega) (by omega) (by omega) λv7 t7 a7 c7 s7=>?_
   refine Gv.ite a7 (Gv.get (show v7.toNat < rows.length by omega) λx _ hx=>?_)
   refine h3 _ _ (s7.mono (by omega)) ⟨Cq.1,λh=>?_⟩
   obtain ⟨z1,z2,z3,z4⟩:=nH (Cq.2 h)
   obtain ⟨w1,w2,_⟩:=nH (h x hx)
   exact nI w1 w2 z3 z4
  clear_value j2
  refine Gv.bif (λ_=>?_) λ_=>h2 _ _ (s4.mono (by omega)) ⟨by show List.length r.2.2.2.1<=9;omega,λ_=>nI (by
   simp only[List.mem_cons,List.not_mem_nil,or_false] at m4
   show 0<=v4/\v4<=3
   omega) y2 y3 y4⟩
  refine Gv.pick s4 (by omega) (by simp) (by simp) λv5 t5 m5 s5=>?_
  refine Gv.pick s5 (by omega) (by simp) (by simp) λv6 t6 m6 s6=>?_
  refine h2 _ _ (s6.mono (by omega)) ⟨Nat.zero_le _,λ_=>nI (by decide) ?_ ?_ rfl⟩
  ·simp only[List.mem_cons,List.not_mem_nil,or_false] at m5
   show 1<=v5/\v5<=99
   omega
  ·simp only[List.mem_cons,List.not_mem_nil,or_false] at m6
   show 0<=v6/\v6<=999
   omega
 clear_value j1
 refine Gv.bif (λhc=>?_) λ_=>h1 _ _ (s1.mono (by omega))
 have vV:(0:Int) < (ts.length:Int):=of_decide_eq_true hc
 refine Gv.x_ s1 (by omega) (by omega) (by omega) λv2 t2 s2=>?_
 refine Gv.bif (λ_=>?_) λ_=>h1 _ _ (s2.mono (by omega))
 refine Gv.next (n:=(ts.length:Int)) s2 (by omega) (by omega) (by omega) λv3 t3 a3 c3 s3=>?_
 refine Gv.ite a3 (Gv.get (show v3.toNat < ts.length by omega) λx _ _=>?_)
 exact h1 _ _ (s3.mono (by omega))
end OT
set_option linter.unusedVariables false
set_option linter.unusedSimpArgs false
set_option linter.unusedSectionVars false
namespace OT
open Go
theorem yb {p:Plain} (hz:zz bJ p<=1048576):oB p:=by
 obtain ⟨rows,xs,n,⟨⟩⟩:=p
 replace hz:zz (.aa aj) rows+(zz (.aa aB) xs+(0+0))<=1048576:=hz
 have kh:∀ r:Row,zz aj r<=1048576->rl r:=λr h=>by
  have h3:zz aj r=0+(0+(0+(List.length r.2.2.2.1+0))):=rfl
  unfold rl
  rw[ak];omega
 refine ⟨Nat.le_trans (qa (e:=aj) rows) (by omega),λx hm=>kh x ?_,Nat.le_trans (qa (e:=aB) xs) (by omega),λx hm=>?_⟩
 ·have:zz aj x+1<=zz (.aa aj) rows:=t9 (e:=aj) hm
  omega
 have h1:zz aB x+1<=zz (.aa aB) xs:=t9 (e:=aB) hm
 have h2:zz aB x=0+(zz (.aa ay) x.2.1+(zz (.aa i64) x.2.2.1+(zz (.aa aF) x.2.2.2.1+0))):=rfl
 have h3:List.length x.2.1<=zz (.aa ay) x.2.1:=qa (e:=ay) x.2.1
 have h4:List.length x.2.2.1<=zz (.aa i64) x.2.2.1:=qa (e:=i64) x.2.2.1
 have h5:List.length x.2.2.2.1<=zz (.aa aF) x.2.2.2.1:=qa (e:=aF) x.2.2.2.1
 refine ⟨by omega,by omega,by omega,λc hc=>?_⟩
 have h6:zz ay c+1<=zz (.aa ay) x.2.1:=t9 (e:=ay) hc
 have h7:zz ay c=0+(zz aj c.2.1+(0+(zz aj c.2.2.2.1+0))):=rfl
 exact ⟨kh _ (by omega),kh _ (by omega)⟩
def Cr (s:dr) (R:gA):dr:=if R.1=0 then (s.1,s.2.1++[R.1],s.2.2.1++[R.2.1],R.2.2.1,s.2.2.2.2) else (s.1,s.2.1++[R.1],s.2.2.1++[R.2.1],s.2.2.2)
noncomputable def qq (s:dr) (o:Op):dr:=match d_.ab (s.2.2.2.1,o,()) with
 | some R=>Cr s R.1
 | none=>s
abbrev Jo:dr:=((0:Int),([]:List Int),([]:List Int),(([]:List Row),([]:List Tx),(1:Int),()),())
noncomputable def rp (xs:List Op):dr:=if 60 < xs.length then ((2:Int),([]:List Int),([]:List Int),(([]:List Row),([]:List Tx),(0:Int),()),()) else xs.foldl qq Jo
def yZ (i:Nat) (s:dr):Prop:=List.length s.2.1=i/\List.length s.2.2.1=i/\zz bJ s.2.2.2.1<=3000*i
theorem wA {i:Nat} {s:dr} {o:Op} (h:yZ i s) (hi:i<=60) (ho:rl o.2.2.1):∃ R,ic s.2.2.2.1 o R/\qq s o=Cr s R/\yZ (i+1) (Cr s R):=by
 obtain ⟨h1,h2,h3⟩:=h
 obtain ⟨R,hs,hz⟩:=yV (p:=s.2.2.2.1) (o:=o) (yb (by omega)) ho
 refine ⟨R,hs,?_,?_⟩
 ·unfold qq
  rw[hs.1]
 ·have Ss:zz eB R=0+(0+(zz bJ R.2.2.1+0)):=rfl
  unfold Cr yZ
  split
  ·simp only[List.length_append,List.length_cons,List.length_nil]
   exact ⟨by omega,by omega,by omega⟩
  ·simp only[List.length_append,List.length_cons,List.length_nil]
   exact ⟨by omega,by omega,by omega⟩
theorem FN (xs:List Op) (hx:xs.length<=1048576) (h:∀ o ∈ xs,rl o.2.2.1):dx.ab (xs,())=some (rp xs,()):=by
 refine ag (k:=100) λk hk=>(dx.ae k _).trans ?_
 unfold dx.p rp
 rw[show (60:Int)=((60:Nat):Int) from rfl]
 simp only[Ou]
 by_cases hl:60 < xs.length
 ·simp[hl]
 simp only[hl,decide_false,cond_false,if_false]
 have:=bI (B:=λself v=>dx.B0 k self (λz=>dx.Q0 k (xs,()) z) (xs,()) v) xs (λ(s:dr) (i:Int)=>(s,i)) (λ_ s o=>.inr (qq s o)) (λs=>(s,())) yZ (by rw[ak];omega)
  (λi hi s self hI=>by
   show dx.b0 _ _ _ _=_
   obtain ⟨R,hs,he,hn⟩:=wA hI (by omega) (h _ (List.getElem_mem hi))
   unfold dx.b0
   have aE:(i:Int) < (xs.length:Int):=by omega
   have c1:∀ y:Int,s.2.1.length+[y].length<=bV:=λy=>cm (by have:=hI.1;simp only[List.length_cons,List.length_nil];omega)
   have c2:∀ y:Int,s.2.2.1.length+[y].length<=bV:=λy=>cm (by have:=hI.2.1;simp only[List.length_cons,List.length_nil];omega)
   simp only[aE,decide_true,cond_true,Int.natCast_nonneg,if_true,Int.toNat_natCast,List.getElem?_eq_getElem hi,Option.bind_some,hs.2,he,c1,c2]
   unfold Cr
   by_cases hR:R.1=0
   ·simp only[hR,decide_true,cond_true,if_true]
   ·simp only[hR,decide_false,cond_false,if_false])
  (λi hi s s' hI hf=>by
   injection hf with hf;subst hf
   obtain ⟨R,hs,he,hn⟩:=wA hI (by omega) (h _ (List.getElem_mem hi))
   rw[he];exact hn) (λs self _=>by
   show dx.b0 _ _ _ _=_
   unfold dx.b0
   simp only[Int.lt_irrefl,decide_false,cond_false]
   rfl) Jo ⟨rfl,rfl,Nat.le_refl _⟩ k (by omega)
 rw[gR] at this
 exact this
theorem Cs:∀ (xs:List Op) (i:Nat) (s:dr),i+xs.length<=60->(∀ o ∈ xs,rl o.2.2.1)->yZ i s->yZ (i+xs.length) (xs.foldl qq s)
 | [],_,_,_,_,h=>h
 | o::xs,i,s,hl,hr,h=>by
  simp only[List.length_cons] at hl
  obtain ⟨R,_,he,hn⟩:=wA h (by omega) (hr o List.mem_cons_self)
  rw[List.foldl_cons,he]
  have:=Cs xs (i+1) _ (by omega) (λo ho=>hr o (List.mem_cons_of_mem _ ho)) hn
  rw[List.length_cons,show i+(xs.length+1)=i+1+xs.length by omega]
  exact this
theorem HW (xs:List Op) (h:∀ o ∈ xs,rl o.2.2.1):zz i9 (rp xs)<=1000000:=by
 have hz:∀ s:dr,zz i9 s=0+(zz (.aa i64) s.2.1+(zz (.aa i64) s.2.2.1+(zz bJ s.2.2.2.1+0))):=λ_=>rfl
 have hi:∀ l:List Int,zz (.aa i64) l=l.length:=λl=>by
  induction l with
  | nil=>rfl
  | cons x l ih=>rw[yJ (e:=i64),ih,List.length_cons];show 0+1+_=_;omega
 unfold rp
 split
 ·exact Nat.zero_le _
 ·obtain ⟨h1,h2,h3⟩:=Cs xs 0 Jo (by omega) h ⟨rfl,rfl,Nat.le_refl _⟩
  rw[hz,hi,hi]
  omega
end OT
set_option linter.unusedVariables false
set_option linter.unusedSimpArgs false
set_option linter.unusedSectionVars false
namespace OT
open Go
theorem vK {s:ax} {b:Int} (h:bv s b) (hb:b<=400000):Gv (λy:List Row×ax×Unit=>y.1.length<=61/\(∀ r ∈ y.1,List.length r.2.2.2.1<=9)/\bv y.2.1 (b+110)) (dH.ab (s,())):=by
 suffices hq:Gv (λy:List Row×ax×Unit=>y.1.length<=61/\(∀ r ∈ y.1,List.length r.2.2.2.1<=9)/\bv y.2.1 (b+110)) (dH.p (s,())) by
  obtain ⟨y,e,hy⟩:=hq
  exact ⟨y,ag (k:=0) λk _=>(dH.ae k _).trans e,hy⟩
 obtain ⟨xs,t1,e1,hl,hr,s1⟩:=De h (by omega)
 unfold dH.p
 rw[e1,Option.bind_some]
 have h9:∀ r ∈ xs,List.length r.2.2.2.1<=9:=λr hm=>by have:=uI (hr r hm);omega
 refine Gv.next s1 (by omega) (by omega) (by omega) λv2 t2 a2 c2 s2=>?_
 refine Gv.bif (λ_=>?_) λ_=>Gv.bif (λ_=>?_) λ_=>Gv.some ⟨by show xs.length<=61;omega,h9,s2.mono (by omega)⟩
 ·obtain ⟨r,t3,e3,h3,s3⟩:=sY s2 (by omega)
  rw[e3,Option.bind_some]
  refine Gv.ite (cm (by simp only[List.length_cons,List.length_nil];omega)) (Gv.some ⟨?_,λq hq=>?_,s3.mono (by omega)⟩)
  ·show (xs++[r]).length<=61
   rw[List.length_append,List.length_cons,List.length_nil]
   omega
  ·have hq:q ∈ xs++[r]:=hq
   rcases List.mem_append.1 hq with g | g
   ·exact h9 q g
   ·rw[List.mem_singleton] at g
    rw[g]
    exact h3
 ·refine Gv.ite ⟨by omega,by omega,by simp only[bV];omega⟩ (Gv.some ⟨by show (List.replicate 61 _).length<=61;rw[List.length_replicate];omega,λq hq=>?_,s2.mono (by omega)⟩)
  have hq:q ∈ List.replicate 61 ((0:Int),(0:Int),(0:Int),([]:List UInt8),()):=hq
  rw[List.eq_of_mem_replicate hq]
  exact Nat.zero_le _
theorem Jp {x:List Row} {r:Row} (hg:Good x) (hr:cY r=0) (hf:lw x (r.1,r.2.1) < 0):Good (kV x r):=by
 refine ⟨D4 hg.1 (HV hg.1 hf),λy hy=>?_⟩
 rcases List.mem_cons.1 ((zS x r).mem_iff.1 hy) with h1 | h1
 ·rw[h1];exact hr
 ·exact hg.2 y h1
theorem Jq {s:ax} {b:Int} (h:bv s b) (hb:b<=500000):Gv (λy:List Row×ax×Unit=>Good y.1/\y.1.length<=7/\bv y.2.1 (b+60)) (ef.ab (s,())):=by
 obtain ⟨v,t1,e1,J,c1,s1⟩:=gZ (n:=6) h (by omega) (by omega) (by omega)
 have Gf:0<=b:=Int.le_trans h.2.1 h.2.2
 have:=yY 700000 (B:=λw v=>ef.b0 w (ef.q0 (s,())) (s,()) v) (λs (l:List Row) i=>(s,l,i)) (λc l=>Good l/\6*(l.length:Int)<=c - b - 1+12) 6 (by omega) (λs l=>(l,s,()))
  (λm s x c hm hs hc hI=>by
   obtain ⟨r,t,e1,hr,s1⟩:=pp hs (by omega)
   obtain ⟨v2,t2,e2,a2,c2,s2⟩:=gZ (n:=2) s1 (by omega) (by omega) (by omega)
   have aE:(0:Int) < ((m+1:Nat):Int):=by omega
   have ol:=hs.2
   obtain ⟨y1,y2,y3,y4⟩:=nH hr
   have hw:al (1+v2)=1+v2:=ct (by omega)
   have tS:al 2=2:=ct (by omega)
   have fin:∀ q:Row,cY q=0->(∃ s' x',bv s' (c+6)/\(Good x'/\6*(List.length x':Int)<=c+6 - b - 1+12)/\∀ self:(ax×(List Row)×Int)->Option ef.Out,((bW.ab (x,q.1,q.2.1,())).bind λoN=>bif decide (oN.1 < (0:Int)) then ((cD.ab (x,q,())).bind λwi=>self (t2,wi.1,al (((m+1:Nat):Int) - (1:Int)))) else self (t2,x,al (((m+1:Nat):Int) - (1:Int))))=self (s',x',(m:Int))):=λq hq=>by
    have hA:=oz x q.1 q.2.1 hI.1.1 (by omega)
    have hP:=sN x q (by omega)
    by_cases hf:lw x (q.1,q.2.1) < 0
    ·refine ⟨t2,kV x q,s2.mono (by omega),⟨Jp hI.1 hq hf,by rw[Cp];omega⟩,λself=>?_⟩
     rw[hA,Option.bind_some,decide_eq_true hf,cond_true,hP,Option.bind_some,nq hm]
    ·refine ⟨t2,x,s2.mono (by omega),⟨hI.1,by omega⟩,λself=>?_⟩
     rw[hA,Option.bind_some,decide_eq_false hf,cond_false,nq hm]
   have SH:cY (1+v2,r.2.1,r.2.2.1,([]:List UInt8),())=0:=nI (by omega) y2 y3 rfl
   have Cq:cY (1+v2,r.2.1,r.2.2.1,r.2.2.2.1,())=0:=nI (by omega) y2 y3 y4
   by_cases xU:1+v2=2
   ·by_cases zm:(3:Int) < (List.length r.2.2.2.1:Int)
    ·obtain ⟨s',x',g1,g2,g3⟩:=fin _ SH
     refine ⟨s',x',g1,g2,λself=>?_⟩
     unfold ef.b0
     simp only[aE,decide_true,cond_true,e1,e2,Option.bind_some,hw,tS,xU,zm]
     rw[<-g3 self,xU]
    ·obtain ⟨s',x',g1,g2,g3⟩:=fin _ Cq
     refine ⟨s',x',g1,g2,λself=>?_⟩
     unfold ef.b0
     simp only[aE,decide_true,cond_true,e1,e2,Option.bind_some,hw,tS,xU,zm,decide_false,cond_false]
     rw[<-g3 self,xU]
   ·obtain ⟨s',x',g1,g2,g3⟩:=fin _ Cq
    refine ⟨s',x',g1,g2,λself=>?_⟩
    unfold ef.b0
    simp only[aE,decide_true,cond_true,e1,e2,Option.bind_some,hw,xU,decide_false,cond_false]
    rw[<-g3 self])
  (λs x c _ _ self=>by
   unfold ef.b0
   rw[decide_eq_false (Int.lt_irrefl _),cond_false]
   rfl) v.toNat t1 [((0:Int),(1:Int),(8:Int),([]:List UInt8),()),((0:Int),(2:Int),(3:Int),([]:List UInt8),())] (b+1) (by omega) s1 ⟨⟨by
    rw[nD]
    refine ⟨λy hy=>?_,?_⟩
    ·rw[List.mem_singleton] at hy
     rw[hy]
     rfl
    ·rw[nD]
     exact ⟨λy hy=>(by cases hy),List.Pairwise.nil⟩,λr hr=>by
    simp only[List.mem_cons,List.not_mem_nil,or_false] at hr
    rcases hr with rfl | rfl <;> rfl⟩,by simp only[List.length_cons,List.length_nil];omega⟩ (by omega)
 obtain ⟨t,l,uJ,a2,a3⟩:=this
 have hv:((v.toNat:Nat):Int)=v:=by omega
 rw[hv] at a3 uJ a2
 refine ⟨(l,t,()),ag (k:=8) λk hk=>(ef.ae k _).trans ?_,a2.1,by have:=a2.2;show List.length l<=7;omega,uJ.mono (by omega)⟩
 unfold ef.p
 rw[e1]
 exact a3 k (by omega)
end OT
set_option linter.unusedVariables false
set_option linter.unusedSimpArgs false
set_option linter.unusedSectionVars false
namespace OT
open Go
theorem KO:∀ (ks S:List Key),(dd S ks).length<=S.length+ks.length
 | [],S=>Nat.le_refl _
 | k::ks,S=>by
  show (dd (if cq S k then S else S++[k]) ks).length<=_
  refine Nat.le_trans (KO ks _) ?_
  split
  ·rw[List.length_cons];omega
  ·rw[List.length_append,List.length_cons,List.length_cons,List.length_nil];omega
theorem FO {rows:List Row} (hg:Good rows) (hl:rows.length<=12):bt (rows,([]:List Tx),(1:Int),())=0:=by
 refine qn hg hl rfl rfl rfl ?_ λx hx=>by cases hx
 unfold fQ
 refine Nat.le_trans (KO _ _) ?_
 unfold eh iI flatK
 simpa using hl
def HX (x:Tx):Prop:=List.length x.2.1<=13/\List.length x.2.2.1<=9/\List.length x.2.2.2.1<=24/\∀ c ∈ (x.2.1:List Change),cl c
theorem HX.tl {x:Tx} (h:HX x):tl x:=⟨by have:=h.1;omega,by have:=h.2.1;omega,by have:=h.2.2.1;omega,h.2.2.2⟩
def rq (n:Nat) (ts:List Tx):Prop:=ts.length=n/\∀ x ∈ ts,HX x
theorem rq.gy {n:Nat} {ts:List Tx} (h:rq n ts) (hn:n<=1000):gy ts:=⟨by have:=h.1;omega,λx hx=>(h.2 x hx).tl⟩
theorem rq.set {n:Nat} {ts:List Tx} (h:rq n ts) (j:Nat) {y:Tx} (hy:HX y):rq n (ts.set j y):=⟨by rw[List.length_set];exact h.1,λx hx=>by
 rcases List.mem_or_eq_of_mem_set hx with g | g
 ·exact h.2 x g
 ·rw[g];exact hy⟩
structure vL (rows:List Row) (ts:List Tx):Prop where
 right:bt (rows,ts,(3:Int),())=0
 small:oB (rows,ts,(3:Int),())
 two:ts.length=2
theorem vL.sm {rows:List Row} {ts:List Tx} (h:vL rows ts):∀ x ∈ ts,List.length x.2.1<=12/\List.length x.2.2.1<=8/\List.length x.2.2.2.1<=12/\∀ c ∈ (x.2.1:List Change),cl c:=λx hx=>by
 have P:=aU h.right
 have T:kD ts:=eo P.gb
 have R:j9 ts:=nZ P.gb
 exact ⟨T.ng x hx,(FH (R.each x hx).2).ml,T.qK x hx,(h.small.2.2.2 x hx).2.2.2⟩
theorem HY {rows:List Row} {ts:List Tx} {o:Op} (h:(eN rows ts o).2.1=true):gt o.1=true/\¬ gX ts o.2.1 < 0/\eN rows ts o=h_ rows ts o:=by
 unfold eN dX at h ⊢
 split at h
 ·split at h <;> cases h
 split at h
 ·cases h
 split at h
 ·cases h
 split at h
 ·split at h <;> cases h
 split at h
 ·split at h <;> cases h
 split at h
 ·rename_i h1 h2 h3 h4 h5 h6
  refine ⟨h6,h3,?_⟩
  rw[if_neg h1,if_neg h2,if_neg h3,if_neg h4,if_neg h5,if_pos h6]
 ·cases h
theorem vL.yr {rows:List Row} {ts:List Tx} (h:vL rows ts) {o:Op} (ht:(eN rows ts o).2.1=true) (hr:gt o.1=true->cY o.2.2.1=0):∃ (j:Nat) (c:Change),j < ts.length/\(eN rows ts o).2.2.1=c/\gX ts o.2.1=(j:Int)/\im rows c=true/\ec c=0/\vL (dQ rows c) (ln ts j c):=by
 obtain ⟨k1,k2,k3⟩:=HY ht
 have P:=aU h.right
 obtain ⟨j,hj,dw,qm⟩:=at_mem k2
 rw[k3] at ht
 obtain ⟨r1,r2,r3,r4,r5,r6⟩:=ma ht
 obtain ⟨w1,w2,w3,w4⟩:=lq P.dP (hr k1) r2
 have hn:ln ts j (aS rows o).1=ts.set j (iq ts[j] (aS rows o).1):=by
  unfold ln
  rw[List.getElem?_eq_getElem hj]
 have hs:iJ (rows,ts,(3:Int),()) o 0 (dQ rows (aS rows o).1,ts.set j (iq ts[j] (aS rows o).1),(3:Int),()):=.sW k1 hj qm (hr k1) ht
 refine ⟨j,(aS rows o).1,hj,by rw[k3,r6],dw,w3,w1,?_⟩
 rw[hn]
 exact ⟨ls h.right hs,sX h.small h.right hs,by rw[List.length_set];exact h.two⟩
def NM (B:Int) (y:List Row×List Tx×ax×Unit):Prop:=y.1.length<=61/\(∀ r ∈ y.1,List.length r.2.2.2.1<=9)/\(∃ n,n<=5/\rq n y.2.1)/\bv y.2.2.1 B
theorem Jr {s:ax} {b:Int} (h:bv s b) (hb:b<=100000):Gv (λy:List Row×List Tx×ax×Unit=>y.1.length<=12/\(∀ r ∈ y.1,List.length r.2.2.2.1<=9)/\rq 2 y.2.1/\(∀ x ∈ y.2.1,List.length x.2.1<=12/\List.length x.2.2.1<=8/\List.length x.2.2.2.1<=12)/\bv y.2.2.1 (b+500)) (bO.ab (s,())):=by
 obtain ⟨⟨rows,t1,⟨⟩⟩,e1,hg,hl,s1⟩:=Jq h (by omega)
 simp only at hg hl s1
 obtain ⟨v,t2,e2,a2,c2,s2⟩:=gZ (n:=9) s1 (by omega) (by omega) (by omega)
 have Gf:0<=b:=Int.le_trans h.2.1 h.2.2
 have h0:vL rows [oP 1,oP 2]:=by
  have p1:=FO hg (by omega)
  have o1:oB (rows,([]:List Tx),(1:Int),()):=⟨by show rows.length<=_;omega,λx hx=>by have:=jK (hg.2 x hx);unfold rl;rw[ak];omega,Nat.zero_le _,λx hx=>by cases hx⟩
  obtain ⟨ob,PO⟩:∃ ob:Op,ob=((1:Int),(0:Int),((0:Int),(0:Int),(0:Int),([]:List UInt8),()),(0:Int),()):=⟨_,rfl⟩
  have q1:iJ (rows,([]:List Tx),(1:Int),()) ob 1 (rows,[]++[oP 1],1+1,()):=.oI (by rw[PO]) (by decide) (by decide)
  have p2:=ls p1 q1
  have o2:=sX o1 p1 q1
  have q2:iJ (rows,[oP 1],(2:Int),()) ob 2 (rows,[oP 1]++[oP 2],2+1,()):=.oI (by rw[PO]) (by decide) (by decide)
  exact ⟨ls p2 q2,sX o2 p2 q2,rfl⟩
 have:=wz 200000 (B:=λw v=>bO.b0 w (bO.q0 (s,())) (s,()) v) (λs (l:List Row×List Tx) i=>(s,l.1,l.2,i)) (λc l=>vL l.1 l.2) 40 (by omega) (λs' l=>bO.q0 (s,()) (s',l.1,l.2))
  (λm s0 x c hm hs hc hI=>by
   obtain ⟨rs,ts⟩:=x
   have hI:vL rs ts:=hI
   have P:=aU hI.right
   have Nu:rs.length<=12:=P.len
   have T:kD ts:=eo P.gb
   obtain ⟨⟨o,t3,⟨⟩⟩,e3,k1,s3,k2,k3⟩:=qP (rows:=rs) (ts:=ts) hs (by omega) (by omega) (by have:=hI.two;omega)
   simp only at k1 s3 k2 k3
   have aE:(0:Int) < ((m+1:Nat):Int):=by omega
   have hC:=ux rs ts o P.dP (by omega) hI.small.2.2 T k2
   have stay:(∀ self:(ax×(List Row)×(List Tx)×Int)->Option bO.Out,bO.b0 self (bO.q0 (s,())) (s,()) (s0,rs,ts,((m+1:Nat):Int))=self (t3,rs,ts,(m:Int)))->∃ s' x',bv s' (c+40)/\vL (x':List Row×List Tx).1 x'.2/\∀ self,bO.b0 self (bO.q0 (s,())) (s,()) (s0,rs,ts,((m+1:Nat):Int))=self (s',x'.1,x'.2,(m:Int)):=λhh=>⟨t3,(rs,ts),s3,hI,hh⟩
   by_cases h1:(eN rs ts o).1=0
   rotate_left
   ·refine stay λself=>?_
    unfold bO.b0
    rw[decide_eq_true aE,cond_true,e3]
    simp only[Option.bind_some]
    rw[hC]
    simp only[Option.bind_some,h1,decide_false,Bool.not_false,cond_true]
    rw[nq hm]
   cases h2:(eN rs ts o).2.1 with
   | false=>
    refine stay λself=>?_
    unfold bO.b0
    rw[decide_eq_true aE,cond_true,e3]
    simp only[Option.bind_some]
    rw[hC]
    simp only[Option.bind_some,h1,decide_true,Bool.not_true,cond_false,h2,Bool.not_false,cond_true]
    rw[nq hm]
   | true=>
    obtain ⟨j,ch,hj,gS,dw,hf,SI,hN⟩:=hI.yr h2 (k3 P.dP.2)
    refine ⟨t3,(dQ rs ch,ln ts j ch),s3,hN,λself=>?_⟩
    show bO.b0 self _ _ _=_
    unfold bO.b0
    rw[decide_eq_true aE,cond_true,e3]
    simp only[Option.bind_some]
    rw[hC]
    simp only[Option.bind_some,h1,decide_true,Bool.not_true,cond_false,h2,gS]
    rw[uh rs ch P.dP.1 (by omega) (lm SI).1,hf]
    simp only[Option.bind_some,if_true]
    rw[fV ts _ hI.small.2.2.1,dw]
    simp only[Option.bind_some]
    rw[vG ts j ch hI.small.2.2 hj]
    simp only[Option.bind_some]
    rw[nq hm])
  (λs0 x c _ _ self=>by
   unfold bO.b0
   rw[decide_eq_false (Int.lt_irrefl _),cond_false]) v.toNat t2 (rows,[oP 1,oP 2]) (b+60+1) (by omega) s2 h0 (by omega)
 obtain ⟨t,⟨rs,ts⟩,uJ,hI,a3⟩:=this
 have hI:vL rs ts:=hI
 have hv:((v.toNat:Nat):Int)=v:=by omega
 rw[hv] at a3 uJ
 suffices hq:Gv (λy:List Row×List Tx×ax×Unit=>y.1.length<=12/\(∀ r ∈ y.1,List.length r.2.2.2.1<=9)/\rq 2 y.2.1/\(∀ x ∈ y.2.1,List.length x.2.1<=12/\List.length x.2.2.1<=8/\List.length x.2.2.2.1<=12)/\bv y.2.2.1 (b+500)) (bO.q0 (s,()) (t,rs,ts)) by
  obtain ⟨y,e,hy⟩:=hq
  refine ⟨y,ag (k:=11) λk hk=>(bO.ae k _).trans ?_,hy⟩
  unfold bO.p
  rw[e1]
  simp only[Option.bind_some]
  rw[e2]
  exact (a3 k (by omega)).trans e
 have P:=aU hI.right
 have mN:=hI.sm
 have hS:rq 2 ts:=⟨hI.two,λx hx=>⟨by have:=(mN x hx).1;omega,by have:=(mN x hx).2.1;omega,by have:=(mN x hx).2.2.1;omega,(mN x hx).2.2.2⟩⟩
 have hR:∀ r ∈ rs,List.length r.2.2.2.1<=9:=λr hr=>by have:=jK (P.dP.2 r hr);omega
 have h2:=hI.two
 unfold bO.q0
 refine Gv.x_ uJ (by omega) (by omega) (by omega) λv3 t3 s3=>?_
 refine Gv.bif (λ_=>?_) λ_=>Gv.some ⟨P.len,hR,hS,λx hx=>⟨(mN x hx).1,(mN x hx).2.1,(mN x hx).2.2.1⟩,s3.mono (by omega)⟩
 have hz:(0:Int)<=(0:Int)/\(0:Int) < (ts.length:Int):=by omega
 refine Gv.ite hz (Gv.get (l:=ts) (i:=0) (by omega) λx1 _ m1=>Gv.get (l:=ts) (i:=0) (by omega) λx2 _ m2=>Gv.ite hz (Gv.get (l:=ts) (i:=0) (by omega) λx3 _ m3=>?_))
 have n3:=mN x3 m3
 have hy:HX (x3.1,x3.2.1,[(0:Int),(List.length x2.2.1:Int)],x3.2.2.2):=⟨by show List.length x3.2.1<=13;omega,by show 2<=9;omega,by show List.length x3.2.2.2.1<=24;omega,n3.2.2.2⟩
 refine Gv.some ⟨P.len,hR,hS.set 0 hy,λx hx=>?_,s3.mono (by omega)⟩
 have hx:x ∈ ts.set 0 (x3.1,x3.2.1,[(0:Int),(List.length x2.2.1:Int)],x3.2.2.2):=hx
 rcases List.mem_or_eq_of_mem_set hx with g | g
 ·exact ⟨(mN x g).1,(mN x g).2.1,(mN x g).2.2.1⟩
 ·rw[g]
  exact ⟨n3.1,by show 2<=8;omega,n3.2.2.1⟩
end OT
set_option linter.unusedVariables false
set_option linter.unusedSimpArgs false
set_option linter.unusedSectionVars false
namespace OT
open Go
theorem Js {s:ax} {b:Int} (h:bv s b) (hb:b<=100000):Gv (NM (b+1000)) (gj.ab (s,())):=by
 suffices hq:Gv (NM (b+1000)) (gj.p (s,())) by
  obtain ⟨y,e,hy⟩:=hq
  exact ⟨y,ag (k:=0) λk _=>(gj.ae k _).trans e,hy⟩
 obtain ⟨⟨rs,ts,t1,⟨⟩⟩,e1,hl,hr,hS,mN,s1⟩:=Jr h hb
 simp only at hl hr hS mN s1
 have h2:=hS.1
 unfold gj.p
 rw[e1,Option.bind_some]
 have hz:(0:Int)<=(0:Int)/\(0:Int) < (ts.length:Int):=by omega
 have ho:(0:Int)<=(1:Int)/\(1:Int) < (ts.length:Int):=by omega
 have y0:rs.length<=61:=by omega
 have fin:∀ (HZ:List Row) (tV:List Tx) (t:ax) (n:Nat),HZ.length<=61->(∀ r ∈ HZ,List.length r.2.2.2.1<=9)->n<=5->rq n tV->bv t (b+1000)->Gv (NM (b+1000)) (some (HZ,tV,t,())):=λHZ tV t n J a2 a3 a4 a5=>Gv.some ⟨J,a2,⟨n,a3,a4⟩,a5⟩
 refine Gv.next s1 (by omega) (by omega) (by omega) λv2 t2 a2 c2 s2=>?_
 have m2:bv t2 (b+1000):=s2.mono (by omega)
 refine Gv.bif (λ_=>?_) λ_=>Gv.bif (λ_=>?_) λ_=>Gv.bif (λ_=>?_) λ_=>Gv.bif (λ_=>?_) λ_=>Gv.bif (λ_=>?_) λ_=>Gv.bif (λ_=>?_) λ_=>fin rs _ _ 2 y0 hr (by omega) hS m2
 ·refine Gv.pick s2 (by omega) (by simp) (by simp) λv3 t3 m3 s3=>?_
  refine Gv.next s3 (by omega) (by omega) (by omega) λv4 t4 a4 c4 s4=>?_
  refine Gv.ite (cm (by simp only[List.length_cons,List.length_nil];omega)) ?_
  refine fin rs (ts++[(v3,([]:List Change),([]:List Int),[((1:Int),v4,())],())]) t4 3 y0 hr (by omega) ⟨by rw[List.length_append,List.length_cons,List.length_nil];omega,λx hx=>?_⟩ (s4.mono (by omega))
  rcases List.mem_append.1 hx with g | g
  ·exact hS.2 x g
  ·rw[List.mem_singleton] at g
   rw[g]
   exact ⟨Nat.zero_le _,Nat.zero_le _,by show 1<=24;omega,λc hc=>by cases hc⟩
 ·refine Gv.ite hz (Gv.get (l:=ts) (i:=0) (by omega) λx1 _ n1=>?_)
  refine Gv.pick s2 (by omega) (by simp) (by simp) λv3 t3 m3 s3=>?_
  refine Gv.get (l:=ts) (i:=0) (by omega) λx2 _ n2=>Gv.get (l:=ts) (i:=0) (by omega) λx3 _ n3=>?_
  have q2:=mN x2 n2
  have q3:=mN x3 n3
  refine Gv.ite (cm (by simp only[List.length_cons,List.length_nil];omega)) (Gv.ite (by rw[List.length_set];exact hz) (Gv.ite rfl (Gv.get (l:=ts.set 0 x3) (i:=0) (by rw[List.length_set];omega) λx4 _ n4=>?_)))
  have S1:=hS.set 0 (hS.2 x3 n3)
  have q4:=S1.2 x4 n4
  refine fin rs _ _ 2 y0 hr (by omega) (S1.set 0 ⟨q4.1,?_,q4.2.2.1,q4.2.2.2⟩) (s3.mono (by omega))
  show (x2.2.2.1++[v3]).length<=9
  rw[List.length_append,List.length_cons,List.length_nil]
  omega
 ·refine Gv.ite ho (Gv.get (l:=ts) (i:=1) (by omega) λx1 _ n1=>?_)
  obtain ⟨r,t3,e3,h3,s3⟩:=sY s2 (by omega)
  rw[e3,Option.bind_some]
  refine Gv.get (l:=ts) (i:=1) (by omega) λx2 _ n2=>Gv.get (l:=ts) (i:=1) (by omega) λx3 _ n3=>?_
  have q2:=mN x2 n2
  refine Gv.ite (cm (by simp only[List.length_cons,List.length_nil];omega)) (Gv.ite (by rw[List.length_set];exact ho) (Gv.ite rfl (Gv.get (l:=ts.set 1 x3) (i:=1) (by rw[List.length_set];omega) λx4 _ n4=>?_)))
  have S1:=hS.set 1 (hS.2 x3 n3)
  have q4:=S1.2 x4 n4
  refine fin rs _ _ 2 y0 hr (by omega) (S1.set 1 ⟨?_,q4.2.1,q4.2.2.1,λc hc=>?_⟩) (s3.mono (by omega))
  ·show (x2.2.1++[(false,((0:Int),(0:Int),(0:Int),([]:List UInt8),()),true,r,())]).length<=13
   rw[List.length_append,List.length_cons,List.length_nil]
   omega
  ·have hc:c ∈ (x2.2.1:List Change)++[(false,((0:Int),(0:Int),(0:Int),([]:List UInt8),()),true,r,())]:=hc
   rcases List.mem_append.1 hc with g | g
   ·exact (hS.2 x2 n2).2.2.2 c g
   ·rw[List.mem_singleton] at g
    rw[g]
    exact ⟨Nat.zero_le _,by show List.length r.2.2.2.1<=maxLen;rw[ak];omega⟩
 ·refine Gv.ite ⟨by omega,by omega,by simp only[bV];omega⟩ (fin rs _ _ 5 y0 hr (by omega) ⟨List.length_replicate,λx hx=>?_⟩ m2)
  rw[List.eq_of_mem_replicate hx]
  exact ⟨Nat.zero_le _,Nat.zero_le _,Nat.zero_le _,λc hc=>by cases hc⟩
 ·obtain ⟨⟨HZ,t3,⟨⟩⟩,e3,g1,g2,s3⟩:=vK s2 (by omega)
  rw[e3,Option.bind_some]
  exact fin _ _ _ 2 g1 g2 (by omega) hS (s3.mono (by omega))
 ·refine Gv.ite ho (Gv.get (l:=ts) (i:=1) (by omega) λx0 _ n0=>Gv.ite hz (Gv.get (l:=ts) (i:=0) (by omega) λx1 _ n1=>Gv.get (l:=ts) (i:=0) (by omega) λx2 _ n2=>Gv.get (l:=ts) (i:=0) (by omega) λx3 _ n3=>Gv.get (l:=ts) (i:=1) (by omega) λx4 _ n4=>Gv.get (l:=ts) (i:=1) (by omega) λx5 _ n5=>?_))
  have q2:=mN x2 n2
  have q4:=mN x4 n4
  refine Gv.ite (cm (by omega)) (Gv.ite (by rw[List.length_set];exact ho) (Gv.ite rfl (Gv.get (l:=ts.set 1 x5) (i:=1) (by rw[List.length_set];omega) λx6 _ n6=>?_)))
  have S1:=hS.set 1 (hS.2 x5 n5)
  have q6:=S1.2 x6 n6
  refine fin rs _ _ 2 y0 hr (by omega) (S1.set 1 ⟨q6.1,q6.2.1,?_,q6.2.2.2⟩) m2
  show (x4.2.2.2.1++x2.2.2.2.1).length<=24
  rw[List.length_append]
  omega
def PP (B:Int) (y:Op×ax×Unit):Prop:=List.length y.1.2.2.1.2.2.2.1<=9/\bv y.2.1 B
theorem H6 {s:ax} {b:Int} (h:bv s b) (hb:b<=400000):Gv (PP (b+60)) (gN.ab (s,())):=by
 suffices hq:Gv (PP (b+60)) (gN.p (s,())) by
  obtain ⟨y,e,hy⟩:=hq
  exact ⟨y,ag (k:=0) λk _=>(gN.ae k _).trans e,hy⟩
 obtain ⟨⟨o,t1,⟨⟩⟩,e1,k1,s1,_,_⟩:=qP (rows:=[]) (ts:=[]) h (by omega) (by simp) (by simp)
 simp only at k1 s1
 unfold gN.p
 rw[e1,Option.bind_some]
 refine Gv.next s1 (by omega) (by omega) (by omega) λv2 t2 a2 c2 s2=>?_
 refine Gv.bif (λ_=>?_) λ_=>Gv.bif (λ_=>?_) λ_=>Gv.bif (λ_=>?_) λ_=>Gv.bif (λ_=>?_) λ_=>Gv.some ⟨k1,s2.mono (by omega)⟩
 ·exact Gv.pick s2 (by omega) (by simp) (by simp) λv3 t3 m3 s3=>Gv.some ⟨k1,s3.mono (by omega)⟩
 ·exact Gv.pick s2 (by omega) (by simp) (by simp) λv3 t3 m3 s3=>Gv.some ⟨k1,s3.mono (by omega)⟩
 ·exact Gv.pick s2 (by omega) (by simp) (by simp) λv3 t3 m3 s3=>Gv.some ⟨k1,s3.mono (by omega)⟩
 ·obtain ⟨r,t3,e3,h3,s3⟩:=sY s2 (by omega)
  rw[e3,Option.bind_some]
  exact Gv.some ⟨h3,s3.mono (by omega)⟩
theorem H7 {X O V α:Type} {B:(X->Option O)->(V->Option O)->V->Option O} (xs:List α) (enc:X->Int->V) (I:Nat->X->Prop) (hl:xs.length<=100000)
  (cw:∀ (i:Nat) (hi:i < xs.length) (x:X),I i x->∃ x',I (i+1) x'/\∀ e self,B e self (enc x (i:Int))=self (enc x' (al ((i:Int)+1))))
  (iS:∀ (x:X),I xs.length x->∀ e self,B e self (enc x (xs.length:Int))=e x):∀ (n i:Nat) (x:X),xs.length - i=n->i<=xs.length->I i x->∃ x',I xs.length x'/\∀ e k,n < k->au (B e) k (enc x (i:Int))=e x'
 | 0,i,x,hn,hi,hI=>by
  have e:i=xs.length:=by omega
  subst e
  refine ⟨x,hI,λe k hk=>?_⟩
  obtain ⟨j,rfl⟩:∃ j,k=j+1:=⟨k - 1,by omega⟩
  rw[mO]
  exact iS x hI _ _
 | n+1,i,x,hn,hi,hI=>by
  obtain ⟨x1,J,a2⟩:=cw i (by omega) x hI
  obtain ⟨x2,c1,c2⟩:=H7 xs enc I hl cw iS n (i+1) x1 (by omega) (by omega) J
  refine ⟨x2,c1,λe k hk=>?_⟩
  obtain ⟨j,rfl⟩:∃ j,k=j+1:=⟨k - 1,by omega⟩
  rw[mO,a2,show al ((i:Int)+1)=((i+1:Nat):Int) by rw[ct (by omega)];omega]
  exact c2 e j (by omega)
theorem Ct {R:gA}:zz eB R=0+(0+(zz bJ R.2.2.1+0)):=rfl
theorem Ea {p:Plain}:List.length p.1<=zz bJ p/\List.length p.2.1<=zz bJ p:=by
 have h:zz bJ p=zz (.aa aj) p.1+(zz (.aa aB) p.2.1+(0+0)):=rfl
 have h1:List.length p.1<=zz (.aa aj) p.1:=qa (e:=aj) p.1
 have h2:List.length p.2.1<=zz (.aa aB) p.2.1:=qa (e:=aB) p.2.1
 omega
theorem H8 {r:Row} (h:List.length r.2.2.2.1<=9):rl r:=by
 unfold rl
 rw[ak]
 omega
def NN (m:Nat) (B:Int) (y:List Op×ax×Unit):Prop:=y.1.length<=m/\(∀ o ∈ y.1,List.length o.2.2.1.2.2.2.1<=9)/\bv y.2.1 B
theorem Jt {s:ax} {b n:Int} (h:bv s b) (hb:b<=100000) (hn:1<=n) (rF:n<=21):Gv (NN 26 (b+1000)) (cF.ab (s,n,())):=by
 obtain ⟨ops,Cu⟩:∃ ops:List Op,ops=[((1:Int),(0:Int),((0:Int),(0:Int),(0:Int),([]:List UInt8),()),(0:Int),()),((2:Int),(1:Int),((0:Int),(1:Int),(8:Int),([]:List UInt8),()),(0:Int),()),((2:Int),(1:Int),((0:Int),(2:Int),(8:Int),([]:List UInt8),()),(0:Int),()),((7:Int),(1:Int),((0:Int),(0:Int),(0:Int),([]:List UInt8),()),(0:Int),()),((1:Int),(0:Int),((0:Int),(0:Int),(0:Int),([]:List UInt8),()),(0:Int),()),((1:Int),(0:Int),((0:Int),(0:Int),(0:Int),([]:List UInt8),()),(0:Int),())]:=⟨_,rfl⟩
 have hlen:ops.length=6:=by rw[Cu];rfl
 have KF:∀ o ∈ ops,List.length o.2.2.1.2.2.2.1=0:=λo ho=>by
  rw[Cu] at ho
  simp only[List.mem_cons,List.not_mem_nil,or_false] at ho
  rcases ho with rfl | rfl | rfl | rfl | rfl | rfl <;> rfl
 have Gf:0<=b:=Int.le_trans h.2.1 h.2.2
 have second:∀ p:Plain,zz bJ p<=18000->∃ y,NN 26 (b+1000) y/\∀ k,30<=k->cF.q0 (cF.r1 k (s,n,())) (s,n,()) p=some y:=λp hp=>by
  obtain ⟨v,t1,e1,J,c1,s1⟩:=gZ (n:=n) h (by omega) hn (by omega)
  have:=yY (b+841) (B:=λw x=>cF.b1 w (cF.q1 (s,n,())) (s,n,()) x) (λs' (l:Plain×List Op) i=>(s',l.1,l.2,i)) (λc l=>40*((zz bJ l.1:Nat):Int)<=720000+3000*(c - b - 1)/\40*(l.2.length:Int)<=240+(c - b - 1)/\∀ o ∈ l.2,List.length o.2.2.1.2.2.2.1<=9) 40 (by omega) (λs' l=>(l.2,s',()))
   (λm s0 x c hm hs hc hI=>by
    obtain ⟨q,l⟩:=x
    obtain ⟨i1,i2,i3⟩:=hI
    simp only at i1 i2 i3
    have ol:=hs.2
    have SJ:=Ea (p:=q)
    obtain ⟨⟨o,t3,⟨⟩⟩,e3,k1,s3,_,_⟩:=qP (rows:=q.1) (ts:=q.2.1) hs (by omega) (by omega) (by omega)
    simp only at k1 s3
    obtain ⟨R,hR,hz⟩:=yV (p:=q) (o:=o) (yb (by omega)) (H8 k1)
    have Gw:=Ct (R:=R)
    have aE:(0:Int) < ((m+1:Nat):Int):=by omega
    have hJ:l.length+[o].length<=bV:=cm (by simp only[List.length_cons,List.length_nil];omega)
    have iR:∀ o' ∈ l++[o],List.length o'.2.2.1.2.2.2.1<=9:=λo' oT=>by
     rcases List.mem_append.1 oT with g | g
     ·exact i3 o' g
     ·rw[List.mem_singleton] at g
      rw[g]
      exact k1
    by_cases h0:R.1=0
    ·refine ⟨t3,(R.2.2.1,l++[o]),s3,⟨by show 40*((zz bJ R.2.2.1:Nat):Int)<=_;omega,by show 40*((l++[o]).length:Int)<=_;rw[List.length_append,List.length_cons,List.length_nil];omega,iR⟩,λself=>?_⟩
     unfold cF.b1
     rw[decide_eq_true aE,cond_true,e3]
     simp only[Option.bind_some]
     rw[if_pos hJ,hR.2]
     simp only[Option.bind_some,h0,decide_true,cond_true]
     rw[nq hm]
    ·refine ⟨t3,(q,l++[o]),s3,⟨by show 40*((zz bJ q:Nat):Int)<=_;omega,by show 40*((l++[o]).length:Int)<=_;rw[List.length_append,List.length_cons,List.length_nil];omega,iR⟩,λself=>?_⟩
     unfold cF.b1
     rw[decide_eq_true aE,cond_true,e3]
     simp only[Option.bind_some]
     rw[if_pos hJ,hR.2]
     simp only[Option.bind_some,h0,decide_false,cond_false]
     rw[nq hm])
   (λs0 x c _ _ self=>by
    unfold cF.b1
    rw[decide_eq_false (Int.lt_irrefl _),cond_false]
    rfl) v.toNat t1 (p,ops) (b+1) (by omega) s1 ⟨by show 40*((zz bJ p:Nat):Int)<=_;omega,by show 40*(ops.length:Int)<=_;omega,λo ho=>by rw[KF o ho];omega⟩ (by omega)
  obtain ⟨t,l,uJ,a2,a3⟩:=this
  have hv:((v.toNat:Nat):Int)=v:=by omega
  rw[hv] at a3 uJ a2
  refine ⟨(l.2,t,()),⟨by have:=a2.2.1;show List.length l.2<=26;omega,a2.2.2,uJ.mono (by omega)⟩,λk hk=>?_⟩
  unfold cF.q0
  rw[e1]
  have:=a3 k (by omega)
  rw[Cu] at this
  exact this
 have first:=H7 (B:=λe self v=>cF.b0 self e (s,n,()) v) ops (λ(p:Plain) (i:Int)=>(p,i)) (λi p=>zz bJ p<=3000*i) (by omega)
  (λi hi p hI=>by
   have hm:=List.getElem_mem hi
   obtain ⟨R,hR,hz⟩:=yV (p:=p) (o:=ops[i]) (yb (by omega)) (H8 (by rw[KF _ hm];omega))
   have Gw:=Ct (R:=R)
   refine ⟨R.2.2.1,by omega,λe self=>?_⟩
   unfold cF.b0
   rw[<-Cu]
   have aE:(i:Int) < (ops.length:Int):=by omega
   rw[decide_eq_true aE,cond_true,if_pos ⟨by omega,aE⟩]
   simp only[Int.toNat_natCast,List.getElem?_eq_getElem hi,Option.bind_some]
   rw[hR.2]
   rfl)
  (λp _ e self=>by
   unfold cF.b0
   rw[<-Cu,decide_eq_false (Int.lt_irrefl _),cond_false]) 6 0 (([]:List Row),([]:List Tx),(1:Int),()) (by omega) (by omega) (Nat.zero_le _)
 obtain ⟨p,hp,hk⟩:=first
 obtain ⟨y,hy,he⟩:=second p (by rw[hlen] at hp;exact hp)
 refine ⟨y,ag (k:=40) λk fg=>(cF.ae k _).trans ?_,hy⟩
 unfold cF.p
 exact (hk (λz=>cF.Q0 k (s,n,()) z) k (by omega)).trans (he k (by omega))
def H9 (p:Plain):Prop:=oB p/\List.length p.1<=1000000/\List.length p.2.1<=1000000
theorem H_ {s:ax} {b:Int} (h:bv s b) (hb:b<=50000):Gv (λy:Plain×ax×Unit=>H9 y.1/\bv y.2.1 (b+3000)) (gM.ab (s,())):=by
 suffices hq:Gv (λy:Plain×ax×Unit=>H9 y.1/\bv y.2.1 (b+3000)) (gM.p (s,())) by
  obtain ⟨y,e,hy⟩:=hq
  exact ⟨y,ag (k:=0) λk _=>(gM.ae k _).trans e,hy⟩
 obtain ⟨⟨ops,t1,⟨⟩⟩,e1,k1,k2,s1⟩:=Jt (n:=16) h (by omega) (by omega) (by omega)
 simp only at k1 k2 s1
 have kh:∀ o ∈ ops,rl o.2.2.1:=λo ho=>H8 (k2 o ho)
 have hR:=HW ops kh
 have hz:zz i9 (rp ops)=0+(zz (.aa i64) (rp ops).2.1+(zz (.aa i64) (rp ops).2.2.1+(zz bJ (rp ops).2.2.2.1+0))):=rfl
 have SJ:=Ea (p:=(rp ops).2.2.2.1)
 have hp:H9 (rp ops).2.2.2.1:=⟨yb (by omega),by omega,by omega⟩
 unfold gM.p
 rw[e1,Option.bind_some]
 simp only
 rw[FN ops (by omega) kh,Option.bind_some]
 refine Gv.next s1 (by omega) (by omega) (by omega) λv2 t2 a2 c2 s2=>?_
 refine Gv.bif (λ_=>?_) λ_=>Gv.bif (λ_=>?_) λ_=>Gv.bif (λ_=>?_) λ_=>Gv.some ⟨hp,s2.mono (by omega)⟩
 ·exact Gv.pick s2 (by omega) (by simp) (by simp) λv3 t3 m3 s3=>Gv.some ⟨⟨⟨hp.1.1,hp.1.2.1,hp.1.2.2⟩,hp.2.1,hp.2.2⟩,s3.mono (by omega)⟩
 ·obtain ⟨⟨rs,t3,⟨⟩⟩,e3,g1,g2,s3⟩:=vK s2 (by omega)
  simp only at g1 g2 s3
  rw[e3,Option.bind_some]
  exact Gv.some ⟨⟨⟨by show rs.length<=_;omega,λr hr=>H8 (g2 r hr),hp.1.2.2⟩,by show rs.length<=_;omega,hp.2.2⟩,s3.mono (by omega)⟩
 ·obtain ⟨⟨rs,ts,t3,⟨⟩⟩,e3,g1,g2,⟨n,g3,g4⟩,s3⟩:=Js s2 (by omega)
  simp only at g4 s3
  rw[e3,Option.bind_some]
  exact Gv.some ⟨⟨⟨hp.1.1,hp.1.2.1,g4.gy (by omega)⟩,hp.2.1,by show ts.length<=_;have:=g4.1;omega⟩,s3.mono (by omega)⟩
theorem Ia (c:List UInt8) (h:c.length<=1048576):∃ p o,eW.ab (c,())=some (p,o,())/\H9 p/\List.length o.2.2.1.2.2.2.1<=9:=by
 have h0:bv (c,(0:Int),()) 0:=⟨h,Int.le_refl 0,Int.le_refl 0⟩
 suffices hq:Gv (λy:Plain×Op×Unit=>H9 y.1/\List.length y.2.1.2.2.1.2.2.2.1<=9) (eW.p (c,())) by
  obtain ⟨⟨p,o,⟨⟩⟩,e,h1,h2⟩:=hq
  exact ⟨p,o,ag (k:=0) λk _=>(eW.ae k _).trans e,h1,h2⟩
 unfold eW.p
 rw[HU,Option.bind_some]
 obtain ⟨⟨p,t1,⟨⟩⟩,e1,hp,s1⟩:=H_ h0 (by omega)
 simp only at hp s1
 simp only
 rw[e1,Option.bind_some]
 refine Gv.x_ s1 (by omega) (by omega) (by omega) λv2 t2 s2=>?_
 refine Gv.bif (λ_=>?_) λ_=>?_
 ·obtain ⟨⟨o,t3,⟨⟩⟩,e3,k1,s3⟩:=H6 s2 (by omega)
  simp only at k1
  rw[e3,Option.bind_some]
  exact Gv.some ⟨hp,k1⟩
 ·obtain ⟨⟨o,t3,⟨⟩⟩,e3,k1,s3,_,_⟩:=qP (rows:=p.1) (ts:=p.2.1) s2 (by omega) hp.2.1 hp.2.2
  simp only at k1
  simp only
  rw[e3,Option.bind_some]
  exact Gv.some ⟨hp,k1⟩
end OT
set_option linter.unusedVariables false
set_option linter.unusedSimpArgs false
set_option linter.unusedSectionVars false
namespace OT
open Go
abbrev NO:Row:=((0:Int),(0:Int),(0:Int),([]:List UInt8),())
def look (xs:List Row) (k:Int×Int):Option Row:=if fu xs k then xs[pos xs k]? else none
theorem Ib {xs:List Row} {k:Int×Int} (h:∀ y ∈ xs,rk y≠k):look xs k=none:=by
 grind [look,DO]
def OH:Option Row->Option Row->Option Change
 | some a,some b=>if Ty.eq aj a b then none else some (true,a,true,b,())
 | some a,none=>some (true,a,false,NO,())
 | none,some b=>some (false,NO,true,b,())
 | none,none=>none
end OT
set_option linter.unusedVariables false
set_option linter.unusedSimpArgs false
namespace OT
open Go
theorem Df {p:Plain} (h:bt p=0):∃ t,dR p.1=0/\List.length p.1<=12/\du p.2.1=0/\bd p.1 (dh p.2.1)=some t:=by
 unfold bt at h
 split at h
 ·rename_i hr
  split at h
  ·rename_i ht
   split at h
   ·split at h
    ·cases h
    ·rename_i lK
     have kh:List.length p.1<=12:=by
      have:=l_ (xs:=p.2.1) (gC hr).1.up
      unfold fQ at lK
      omega
     cases hb:bd p.1 (dh p.2.1) with
     | none=>rw[hb] at h;cases h
     | some t=>exact ⟨t,hr,kh,ht,rfl⟩
   ·cases h
  ·rename_i hn;exact absurd h hn
 ·rename_i hn;exact absurd h hn
def Ay (p:Plain):lj:=if bt p=0 then (0,(bd p.1 (dh p.2.1)).getD [],()) else (bt p,[],())
theorem vM (p:Plain) (h:oB p):eu.ab (p,())=some (Ay p,()):=by
 refine ag (k:=0) λk _=>(eu.ae k _).trans ?_
 show eu.p _=_
 unfold eu.p Ay
 rw[kX p h]
 simp only[Option.bind_some]
 by_cases h0:bt p=0
 ·obtain ⟨t,h1,h2,h3,h4⟩:=Df h0
  simp only[h0,decide_true,Bool.not_true,cond_false,if_true]
  rw[ut p.1 p.2.1 (gC h1).1 h2 (eo h3) h.2.2,h4]
  rfl
 ·simp only[h0,decide_false,Bool.not_false,cond_true,if_false]
theorem z5:∀ (xs:List Tx),(∀ x ∈ xs,List.length x.2.1<=12)->(dh xs).length<=12*xs.length
 | [],_=>by simp[dh]
 | x::xs,h=>by
  have h1:=z5 xs λy hy=>h y (by simp[hy])
  have h2:=h x (by simp)
  have hb:dh (x::xs)=br x.2.1++dh xs:=by simp[dh]
  rw[hb,List.length_append,nE,List.length_cons]
  omega
end OT
set_option linter.unusedVariables false
set_option linter.unusedSimpArgs false
set_option linter.unusedSectionVars false
namespace OT
open Go
theorem nJ {xs:List Row} (hu:up xs) {k:Int×Int} {r:Row}:look xs k=some r↔r ∈ xs/\rk r=k:=by
 unfold look
 constructor
 ·intro h
  split at h
  ·rename_i hf
   obtain ⟨hp,hk⟩:=ko hf
   rw[List.getElem?_eq_getElem hp] at h
   injection h with h
   rw[<-h]
   exact ⟨List.getElem_mem hp,hk⟩
  ·cases h
 ·rintro ⟨h1,h2⟩
  obtain ⟨i,hi,hx⟩:=List.getElem_of_mem h1
  obtain ⟨J,a2⟩:=oA hu hi (k:=k) (by rw[hx];exact h2)
  rw[if_pos J,a2,List.getElem?_eq_getElem hi,hx]
theorem Ju {xs:List Row} (hu:up xs) {k:Int×Int}:look xs k=none↔∀ r ∈ xs,rk r≠k:=by
 constructor
 ·intro h r hr hk
  have:=(nJ hu).2 ⟨hr,hk⟩
  rw[h] at this
  cases this
 ·exact Ib
theorem Jv {xs ys:List Row} (hx:up xs) (hy:up ys) (h:∀ k,look xs k=look ys k):xs=ys:=by
 refine D5 hx hy λr=>?_
 have h1:=nJ hx (k:=rk r) (r:=r)
 have h2:=nJ hy (k:=rk r) (r:=r)
 rw[h] at h1
 constructor
 ·exact λhr=>(h2.1 (h1.2 ⟨hr,rfl⟩)).1
 ·exact λhr=>(h1.1 (h2.2 ⟨hr,rfl⟩)).1
def FQ (c:Change):Option Row:=if c.1 then some c.2.1 else none
def Jw (c:Change):Option Row:=if c.2.2.1 then some c.2.2.2.1 else none
theorem z6 {xs:List Row} (hg:Good xs) {c:Change} (hc:ec c=0) (k:Int×Int):look (dQ xs c) k=if k=ck c then Jw c else look xs k:=by
 have hu:=hg.1
 have hd:=(gk hg hc).1
 have hk:=(lm hc).1
 refine Option.ext λr=>?_
 rw[nJ hd,jY hu]
 split
 ·rename_i he
  unfold Jw
  constructor
  ·rintro ⟨(h | h),h2⟩
   ·exact absurd (h2.trans he) h.2
   ·rw[if_pos h.1,h.2]
  ·intro h
   split at h
   ·rename_i hi
    injection h with h
    subst h
    exact ⟨.inr ⟨hi,rfl⟩,(hk hi).trans he.symm⟩
   ·cases h
 ·rename_i he
  rw[nJ hu]
  constructor
  ·rintro ⟨(h | h),h2⟩
   ·exact ⟨h.1,h2⟩
   ·exact absurd (by rw[<-h2,h.2];exact hk h.1) he
  ·rintro ⟨h1,h2⟩
   exact ⟨.inl ⟨h1,λe=>he (h2.symm.trans e)⟩,h2⟩
theorem Ic {xs:List Row} (hg:Good xs) {c:Change} (hc:ec c=0):im xs c=true↔look xs (ck c)=FQ c:=by
 rw[nG hg.1 hc]
 unfold FQ
 split
 ·rename_i hw
  rw[nJ hg.1]
  exact ⟨λh=>⟨h,oC hc hw⟩,λh=>h.1⟩
 ·rw[Ju hg.1]
theorem LD (c:Change):Jw (ip c)=FQ c:=rfl
def fv (cs:List Change) (k:Int×Int):Option Change:=cs.find? λc=>decide (ck c=k)
theorem uK (a b:List Change) (k:Int×Int):fv (a++b) k=(fv a k).or (fv b k):=by
 unfold fv
 rw[List.find?_append]
theorem yc {cs:List Change} {k:Int×Int} {c:Change} (h:fv cs k=some c):c ∈ cs/\ck c=k:=
 ⟨List.mem_of_find?_eq_some h,by have:=List.find?_some h;simpa using this⟩
theorem pq {cs:List Change} {k:Int×Int}:fv cs k=none↔∀ c ∈ cs,ck c≠k:=by
 unfold fv
 rw[List.find?_eq_none]
 simp
def jq (cs:List Change) (rows:List Row) (k:Int×Int):Option Row:=match fv cs k with
 | some c=>FQ c
 | none=>look rows k
theorem uL:∀ (cs:List Change) (rows t:List Row),Good rows->(∀ c ∈ cs,ec c=0)->bd rows (br cs)=some t->∀ k,look t k=jq cs rows k
 | [],rows,t,_,_,hb,k=>by
  injection hb with hb
  rw[<-hb]
  rfl
 | c::cs,rows,t,hg,hc,hb,k=>by
  have e:br (c::cs)=br cs++[ip c]:=by simp[br]
  rw[e,back_append] at hb
  have fj:∀ d ∈ cs,ec d=0:=λd hd=>hc d (List.mem_cons_of_mem _ hd)
  have oS:=hc c List.mem_cons_self
  cases hs:bd rows (br cs) with
  | none=>rw[hs] at hb;cases hb
  | some s=>
   rw[hs,Option.bind_some] at hb
   simp only[bd] at hb
   split at hb
   ·injection hb with hb
    have gs:=(fL _ _ _ hg (fM fj) hs).1
    have hi:ec (ip c)=0:=fM (cs:=[c]) (λd hd=>by rw[List.mem_singleton] at hd;rw[hd];exact oS) _ (by simp[br])
    rw[<-hb,z6 gs hi,oF oS,LD,uL cs rows s hg fj hs k]
    unfold jq fv
    rw[List.find?_cons]
    by_cases hk:k=ck c
    ·rw[if_pos hk,decide_eq_true hk.symm]
    ·rw[if_neg hk,decide_eq_false (Ne.symm hk)]
   ·cases hb
def fb (ts:List Tx):List Change:=ts.flatMap λx=>x.2.1
theorem Cv (a b:List Tx):fb (a++b)=fb a++fb b:=by unfold fb;rw[List.flatMap_append]
theorem nr {ts:List Tx} {j:Nat} (hj:j < ts.length):fb ts=fb (ts.take j)++((ts[j]).2.1++fb (ts.drop (j+1))):=by
 have hx:ts=ts.take j++ts[j]::ts.drop (j+1):=by rw[List.getElem_cons_drop,List.take_append_drop]
 conv=>lhs;rw[hx]
 unfold fb
 rw[List.flatMap_append,List.flatMap_cons]
theorem wB {ts:List Tx} {j:Nat} (hj:j < ts.length) (y:Tx):fb (ts.set j y)=fb (ts.take j)++(y.2.1++fb (ts.drop (j+1))):=by
 have J1:j < (ts.set j y).length:=by rw[List.length_set];exact hj
 rw[nr J1,List.getElem_set_self,List.take_set_of_le (Nat.le_refl _),List.drop_set_of_lt (Nat.lt_succ_self _)]
def rT (ts:List Tx):Prop:=ts.Pairwise λa b=>∀ c ∈ (a.2.1:List Change),∀ d ∈ (b.2.1:List Change),ck c≠ck d
theorem wC {ts:List Tx} (h:du ts=0):rT ts:=by
 have T:=eo h
 unfold rT
 rw[List.pairwise_iff_getElem]
 intro i j hi hj gG c hc d hd he
 have MH:ip c ∈ br (ts[i]).2.1:=by unfold br;exact List.mem_map.2 ⟨c,List.mem_reverse.2 hc,rfl⟩
 have eA:ip d ∈ br (ts[j]).2.1:=by unfold br;exact List.mem_map.2 ⟨d,List.mem_reverse.2 hd,rfl⟩
 have:=nn h hj gG MH eA
 rw[oF (T.ch _ (List.getElem_mem hi) c hc),oF (T.ch _ (List.getElem_mem hj) d hd)] at this
 exact this he
theorem rr {ts:List Tx} (h:rT ts) {j:Nat} (hj:j < ts.length):(∀ c ∈ fb (ts.take j),∀ d ∈ (ts[j]).2.1,ck c≠ck d)/\(∀ c ∈ (ts[j]).2.1,∀ d ∈ fb (ts.drop (j+1)),ck c≠ck d):=by
 unfold rT at h
 rw[List.pairwise_iff_getElem] at h
 constructor
 ·intro c hc d hd
  obtain ⟨x,hx,zT⟩:=List.mem_flatMap.1 hc
  obtain ⟨i,hi,rfl⟩:=List.getElem_of_mem hx
  rw[List.length_take] at hi
  rw[List.getElem_take] at zT
  exact h i j (by omega) hj (by omega) c zT d hd
 ·intro c hc d hd
  obtain ⟨x,hx,PR⟩:=List.mem_flatMap.1 hd
  obtain ⟨i,hi,rfl⟩:=List.getElem_of_mem hx
  rw[List.length_drop] at hi
  rw[List.getElem_drop] at PR
  exact h j (j+1+i) hj (by omega) (by omega) c hc d PR
theorem yd:∀ (ts:List Tx) (rows t:List Row),Good rows->(∀ x ∈ ts,∀ c ∈ (x.2.1:List Change),ec c=0)->rT ts->bd rows (dh ts)=some t->∀ k,look t k=jq (fb ts) rows k
 | [],rows,t,_,_,_,hb,k=>by
  injection hb with hb
  rw[<-hb]
  rfl
 | x::ts,rows,t,hg,hc,ha,hb,k=>by
  have e:dh (x::ts)=br x.2.1++dh ts:=by simp[dh]
  rw[e,back_append] at hb
  cases hs:bd rows (br x.2.1) with
  | none=>rw[hs] at hb;cases hb
  | some s=>
   rw[hs,Option.bind_some] at hb
   have hx:=hc x List.mem_cons_self
   have gs:=(fL _ _ _ hg (fM hx) hs).1
   unfold rT at ha
   rw[List.pairwise_cons] at ha
   have h1:=uL _ _ _ hg hx hs k
   have h2:=yd ts s t gs (λy hy=>hc y (List.mem_cons_of_mem _ hy)) ha.2 hb k
   rw[h2]
   have e2:fb (x::ts)=x.2.1++fb ts:=by unfold fb;rw[List.flatMap_cons]
   unfold jq at h1 ⊢
   rw[e2,uK]
   cases hf:fv (fb ts) k with
   | none=>
    simp only[Option.or_none]
    exact h1
   | some d=>
    have hn:fv x.2.1 k=none:=by
     rw[pq]
     intro c zT SK
     obtain ⟨m1,m2⟩:=yc hf
     obtain ⟨y,hy,SL⟩:=List.mem_flatMap.1 m1
     exact ha.1 y hy c zT d SL (SK.trans m2.symm)
    rw[hn]
    rfl
def z7 (p:Plain):List Row:=(bd p.1 (dh p.2.1)).getD []
theorem wD {p:Plain} (h:bt p=0):bd p.1 (dh p.2.1)=some (z7 p):=by
 obtain ⟨t,ht⟩:=(aU h).back
 unfold z7
 rw[ht]
 rfl
theorem Cw {ts:List Tx} (h:du ts=0):∀ c ∈ dh ts,ec c=0:=λc hc=>by
 unfold dh at hc
 obtain ⟨x,hx,zT⟩:=List.mem_flatMap.1 hc
 exact fM ((eo h).ch x hx) c zT
theorem Cx {p:Plain} (h:bt p=0):Good (z7 p):=by
 have P:=aU h
 exact (fL _ _ _ P.dP (Cw P.gb) (wD h)).1
theorem Cy {p:Plain} (h:bt p=0) (k:Int×Int):look (z7 p) k=jq (fb p.2.1) p.1 k:=by
 have P:=aU h
 exact yd _ _ _ P.dP (eo P.gb).ch (wC P.gb) (wD h) k
theorem Cz {p:Plain} (h:bt p=0):Ay p=((0:Int),z7 p,()):=by
 unfold Ay
 rw[if_pos h]
 rfl
theorem CA {A T D B:List Change} {rows t:List Row} (hg:Good rows) (hD:∀ c ∈ D,ec c=0) (hb:bd rows (br D)=some t) (SM:∀ c ∈ D,∀ d ∈ B,ck c≠ck d) (k:Int×Int):jq (A++(T++B)) t k=jq (A++((T++D)++B)) rows k:=by
 have hl:=uL D rows t hg hD hb k
 unfold jq at hl ⊢
 simp only[uK]
 cases hA:fv A k with
 | some c=>rfl
 | none=>
  cases hT:fv T k with
  | some c=>rfl
  | none=>
   cases NP:fv D k with
   | none=>
    rw[NP] at hl
    simp only[Option.none_or]
    cases hB:fv B k with
    | some d=>rfl
    | none=>exact hl
   | some c=>
    rw[NP] at hl
    have hB:fv B k=none:=by
     rw[pq]
     intro d hd D8
     obtain ⟨m1,m2⟩:=yc NP
     exact SM c m1 d hd (m2.trans D8.symm)
    rw[hB]
    exact hl
theorem Id {A U B:List Change} {rows:List Row} (hg:Good rows) {c:Change} (hc:ec c=0) (hf:im rows c=true) (hA:∀ a ∈ A,ck a≠ck c) (hB:∀ b ∈ B,ck b≠ck c) (k:Int×Int):jq (A++((U++[c])++B)) (dQ rows c) k=jq (A++(U++B)) rows k:=by
 have hl:=z6 hg hc k
 have pV:=(Ic hg hc).1 hf
 unfold jq
 simp only[uK]
 have h1:fv [c] k=if k=ck c then some c else none:=by
  unfold fv
  rw[List.find?_cons]
  by_cases hk:k=ck c
  ·rw[if_pos hk,decide_eq_true hk.symm]
  ·rw[if_neg hk,decide_eq_false (Ne.symm hk),List.find?_nil]
 by_cases hk:k=ck c
 ·have e1:fv A k=none:=by rw[pq];intro a ha;rw[hk];exact hA a ha
  have e2:fv B k=none:=by rw[pq];intro b hb;rw[hk];exact hB b hb
  rw[e1,e2,h1,if_pos hk]
  cases hU:fv U k with
  | some d=>rfl
  | none=>
   simp only[Option.none_or,Option.or_none,Option.some_or]
   rw[hk]
   exact pV.symm
 ·rw[h1,if_neg hk,hl,if_neg hk]
  simp only[Option.or_none]
theorem Jx {p:Plain} {o:Op} {v:Int} {q:Plain} (h:bt p=0) (hs:iJ p o v q) (h7:¬ o.1=7):z7 q=z7 p:=by
 have hq:=ls h hs
 have P:=aU h
 have T:=eo P.gb
 have GN:=wC P.gb
 have SN:=wC (aU hq).gb
 refine Jv (Cx hq).1 (Cx h).1 λk=>?_
 rw[Cy hq,Cy h]
 cases hs with
 | @oI rows ts n _ hk hn hl=>
  show jq (fb (ts++[oP _])) rows k=jq (fb ts) rows k
  rw[Cv,show fb [oP _]=[] from rfl,List.append_nil]
 | yX hk=>rfl
 | @u9 rows ts n _ j hk hj eA hm=>
  show jq (fb (ts.set j (nX ts[j]))) rows k=jq (fb ts) rows k
  rw[wB hj,nr hj]
  rfl
 | @u_ rows t ts n _ j m i hk hj eA HQ hm Co hb=>
  show jq (fb (ts.set j (ql ts[j] i m))) t k=jq (fb ts) rows k
  have DZ:∀ c ∈ (ts[j]).2.1.drop i,ec c=0:=λc hc=>T.ch _ (List.getElem_mem hj) c (List.mem_of_mem_drop hc)
  rw[wB hj,nr hj]
  have:=CA (A:=fb (ts.take j)) (T:=(ts[j]).2.1.take i) (D:=(ts[j]).2.1.drop i) (B:=fb (ts.drop (j+1))) P.dP DZ hb (λc hc d hd=>(rr GN hj).2 c (List.mem_of_mem_drop hc) d hd) k
  rw[List.take_append_drop] at this
  exact this
 | pv hk hj eA=>exact absurd hk h7
 | @rQ rows t ts n _ j hk hj eA hb=>
  show jq (fb (ts.take j++ts.drop (j+1))) t k=jq (fb ts) rows k
  rw[Cv,nr hj]
  exact CA (A:=fb (ts.take j)) (T:=[]) (D:=(ts[j]).2.1) (B:=fb (ts.drop (j+1))) P.dP (T.ch _ (List.getElem_mem hj)) hb (rr GN hj).2 k
 | @sW rows ts n _ j hk hj eA hr ht=>
  show jq (fb (ts.set j (iq ts[j] (aS rows o).1))) (dQ rows (aS rows o).1) k=jq (fb ts) rows k
  obtain ⟨r1,r2,_⟩:=ma ht
  obtain ⟨w1,w2,w3,w4⟩:=lq P.dP hr r2
  have J1:j < (ts.set j (iq ts[j] (aS rows o).1)).length:=by rw[List.length_set];exact hj
  obtain ⟨J,a2⟩:=rr SN J1
  rw[List.getElem_set_self] at J a2
  rw[List.take_set_of_le (Nat.le_refl _)] at J
  rw[List.drop_set_of_lt (Nat.lt_succ_self _)] at a2
  have cw:(aS rows o).1 ∈ (iq ts[j] (aS rows o).1).2.1:=List.mem_append_right _ (List.mem_singleton.2 rfl)
  rw[wB hj,nr hj]
  exact Id P.dP w1 w3 (λa ha=>J a ha _ cw) (λb hb=>Ne.symm (a2 _ cw b hb)) k
 | va hk hj eA ht=>rfl
end OT
set_option linter.unusedVariables false
set_option linter.unusedSimpArgs false
set_option linter.unusedSectionVars false
namespace OT
open Go
theorem Jy (c:List UInt8):lk.ab (c,())=some (decide ((1048576:Int) < (c.length:Int)),()):=ag (k:=0) λk _=>(lk.ae k _).trans rfl
end OT
