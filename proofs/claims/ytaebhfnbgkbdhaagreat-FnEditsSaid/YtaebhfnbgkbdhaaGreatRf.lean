/- The proof's parts, merged: The view of pages as the reference has it.. No conditions but those that each states. -/
import Derived.Test.YtaebhfnbgkbdhaaGreatRe
set_option linter.unusedVariables false
set_option linter.unusedSimpArgs false
namespace OT
open Go
abbrev aH:Type:=List (List UInt8)
def sV {α β:Type} (g:Nat->α->List β):Nat->List α->List β
 | _,[]=>[]
 | i,x::xs=>g i x++sV g (i+1) xs
theorem xq {O α β:Type} (g:Nat->α->List β) (fin:List β->O):∀ (xs:List α) (i:Nat) (s:List β),cS (λi s x=>.inr (s++g i x)) fin i xs s=fin (s++sV g i xs)
 | [],_,s=>by simp[cS,sV]
 | x::xs,i,s=>by simp only[cS,sV];rw[xq g fin xs (i+1)];simp[List.append_assoc]
theorem BF {α β:Type} {g:Nat->α->List β} {n:Nat}:∀ (xs:List α) (i:Nat),(∀ i x,x ∈ xs->(g i x).length<=n)->(sV g i xs).length<=n*xs.length
 | [],_,_=>by simp[sV]
 | x::xs,i,h=>by
  have h1:=h i x List.mem_cons_self
  have U:=BF xs (i+1) λi y hy=>h i y (List.mem_cons_of_mem _ hy)
  grind [sV,Nat.mul_add]
theorem GJ {α β:Type} {g:Nat->α->List β} {y:β}:∀ {xs:List α} {i:Nat},y ∈ sV g i xs↔∃ (j:Nat) (x:α),xs[j]?=some x/\y ∈ g (i+j) x
 | [],i=>by simp[sV]
 | x::xs,i=>by
  simp only[sV,List.mem_append,GJ (xs:=xs)]
  constructor
  ·rintro (h | ⟨j,z,h1,U⟩)
   ·exact ⟨0,x,rfl,h⟩
   ·exact ⟨j+1,z,h1,by grind⟩
  grind
def bR (x:ai):Int:=x.2.2.1.2.1
def ir (x:ai):Int:=x.2.2.1.2.2.1
def it (x:ai):Int:=x.2.2.1.2.2.2.1
def bS (x:ai):Row:=x.2.2.1.2.2.2.2.1
def jD (P:Nat) (p:List UInt8) (s:Nat):List ai:=if au p s=0 then [] else [((P:Int),(s:Int),(bF (dt p s)).1,())]
def jg (P:Nat) (p:List UInt8):List ai:=(List.range (pn p)).flatMap (jD P p)
def aT (ps:aH):List ai:=sV jg 0 ps
def iZ (ps:aH) (a b:Int):k8×Bool:=match ps[a.toNat]? with
 | some p=>if b.toNat < pn p/\au p b.toNat≠0 then bF (dt p b.toNat) else (Az,false)
 | none=>(Az,false)
def pP (p:List UInt8) (s:Nat):Bool:=decide (au p s=0)||(bF (dt p s)).2
def oq (p:List UInt8):Int:=if pL p=0 then (if (List.range (pn p)).all (pP p) then 0 else 5) else pL p
def ja (ps:aH) (x:ai):Bool:=!decide (bR x=1)||((iZ ps (ir x) (it x)).2&&decide ((iZ ps (ir x) (it x)).1.2.1=2))
def pQ (x:ai):Option (Int×Int):=if bR x=1 then some (ir x,it x) else none
def GK (x:ai) (r:Row):ai:=(x.1,x.2.1,(x.2.2.1.1,x.2.2.1.2.1,x.2.2.1.2.2.1,x.2.2.1.2.2.2.1,r,x.2.2.1.2.2.2.2.2),x.2.2.2)
def oB (ps:aH) (x:ai):ai:=if bR x=1 then GK x (iZ ps (ir x) (it x)).1.2.2.2.2.1 else x
def jU (ps:aH) (x:ai):List ai:=if bR x=2 then [] else [oB ps x]
def c_ (ps:aH):List ai:=(aT ps).flatMap (jU ps)
def tR (ps:aH):Int:=
 if (aT ps).all (ja ps) then
  if ((aT ps).filterMap pQ).Nodup then (if ((c_ ps).map λx=>rk (bS x)).Nodup then 0 else 8) else 6
 else 4
def a7 (ps:aH):Int:=if 12 < ps.length then 2 else if iC oq ps=0 then tR ps else iC oq ps
def eA (ps:aH):Prop:=ps.length<=12/\∀ p ∈ ps,bQ p
theorem AF {p:List UInt8} (h:oq p=0):bQ p/\∀ s,s < pn p->au p s≠0->(bF (dt p s)).2=true:=by
 unfold oq at h
 split at h
 ·rename_i h1
  split at h
  ·rename_i U
   refine ⟨lh.1 h1,λs hs hz=>?_⟩
   have:=List.all_eq_true.1 U s (List.mem_range.2 hs)
   grind [pP]
  ·cases h
 grind
theorem pR {α:Type} {c:α->Int}:∀ {xs:List α},iC c xs=0->∀ x ∈ xs,c x=0
 | [],_,_,hx=>by cases hx
 | y::xs,h,x,hx=>by
  simp only[iC] at h
  split at h
  ·rename_i hy
   rcases List.mem_cons.1 hx with rfl | hx
   ·exact hy
   ·exact pR h x hx
  grind
theorem jV {ps:aH} (h:a7 ps=0):eA ps/\iC oq ps=0/\tR ps=0:=by
 unfold a7 at h
 split at h
 ·cases h
 ·rename_i h1
  split at h
  ·rename_i U
   exact ⟨⟨by omega,λp hp=>(AF (pR U p hp)).1⟩,U,h⟩
  grind
theorem qA {p:List UInt8} (h:bQ p) (P:Nat):(jg P p).length<=16:=by
 have:∀ n,((List.range n).flatMap (jD P p)).length<=n:=by
  intro n
  induction n with
  | zero=>simp
  | succ n ih=>
   rw[List.range_succ,List.flatMap_append,List.length_append]
   have:(([n]:List Nat).flatMap (jD P p)).length<=1:=by
    simp only[List.flatMap_cons,List.flatMap_nil,List.append_nil,jD]
    split <;> simp
   omega
 have h1:=this (pn p)
 have U:=h.n
 grind [jg]
theorem tS {ps:aH} (h:eA ps):(aT ps).length<=192:=by
 have:=BF (g:=jg) (n:=16) ps 0 λi p hp=>qA (h.2 p hp) i
 unfold aT;have:=h.1;omega
theorem sW {ps:aH} (h:eA ps):(c_ ps).length<=192:=by
 have:∀ xs:List ai,(xs.flatMap (jU ps)).length<=xs.length:=by
  intro xs
  induction xs <;> grind [jU]
 grind [tS,c_]
theorem xr (d:List UInt8):0<=(bF d).1.2.2.1/\0<=(bF d).1.2.2.2.1:=by
 grind [bF]
theorem qk {ps:aH} {x:ai}:x ∈ aT ps↔∃ (P:Nat) (p:List UInt8) (s:Nat),ps[P]?=some p/\s < pn p/\au p s≠0/\x=((P:Int),(s:Int),(bF (dt p s)).1,()):=by
 unfold aT
 rw[GJ]
 constructor
 ·rintro ⟨j,p,h1,U⟩
  obtain ⟨s,h3,h4⟩:=List.mem_flatMap.1 U
  grind [jD]
 ·rintro ⟨P,p,s,h1,U,h3,rfl⟩
  refine ⟨P,p,h1,List.mem_flatMap.2 ⟨s,List.mem_range.2 U,?_⟩⟩
  grind [jD]
theorem ot {ps:aH} {x:ai} (h:x ∈ aT ps):0<=ir x/\0<=it x:=by
 obtain ⟨P,p,s,_,_,_,rfl⟩:=qk.1 h
 exact xr _
theorem xt (ps:aH) (h:eA ps):bX.aa (ps,())=some (aT ps,()):=by
 obtain ⟨hl,hp⟩:=h
 refine aj (k:=100) λk hk=>(bX.af k _).trans ?_
 have inner:∀ (self:(aH×(List ai)×Int)->Option bX.Out) (e0:(List ai)->Option bX.Out) (i:Nat) (hi:i < ps.length) (s:List ai),s.length<=1000->bX.r1 k self e0 (ps,()) ps (i:Int) (s,(0:Int))=self (ps,s++jg i ps[i],ag ((i:Int)+1)):=λself e0 i hi s0 Sd=>by
  have ao:=hp _ (List.getElem_mem hi)
  have hn:=ao.n
  have hlen:=ao.len
  have:=gV (B:=λfO v=>bX.B1 k fO (λz=>bX.Q0 k self e0 (ps,()) ps (i:Int) z) (ps,()) ps (i:Int) v) (pn ps[i]) (λ(s:List ai) (j:Int)=>(s,j)) (λj s=>.inr (s++jD i ps[i] j)) (λs=>self (ps,s,ag ((i:Int)+1))) (λj s=>s.length<=1000+j) (by omega)
   (λj hj s fO hI=>by
    show bX.b1 _ _ _ _ _ _=_
    unfold bX.b1 jD
    have av:(j:Int) < (pn ps[i]:Int):=by omega
    simp only[Int.natCast_nonneg,if_true,Int.toNat_natCast,List.getElem?_eq_getElem hi,Option.bind_some,gw hlen,av,decide_true,cond_true,jf hlen (show j < 16 by omega)]
    grind [oz,sS,oo,dR])
   (λj hj s s' hI hf=>by
    grind [jD]) (λs fO hI=>by
    show bX.b1 _ _ _ _ _ _=_
    unfold bX.b1
    simp only[Int.natCast_nonneg,if_true,Int.toNat_natCast,List.getElem?_eq_getElem hi,Option.bind_some,gw hlen,Int.lt_irrefl,decide_false,cond_false]
    rfl) s0 (by omega) k (by omega)
  rw[vQ (jD i ps[i])] at this
  exact this
 have:=eo (B:=λself v=>bX.B0 k self (λz=>bX.Q1 k (ps,()) z) (ps,()) v) ps (λ(s:List ai) (i:Int)=>(ps,s,i)) (λi s p=>.inr (s++jg i p)) (λs=>some (s,())) (λi s=>s.length<=16*i) (by rw[aL];omega)
  (λi hi s self hI=>by
   show bX.b0 _ _ _ _ _=_
   grind [bX.b0])
  (λi hi s s' hI hf=>by
   grind [qA]) (λs self _=>by
   show bX.b0 _ _ _ _ _=_
   unfold bX.b0
   simp only[Int.lt_irrefl,decide_false,cond_false]
   rfl) [] (by simp) k (by omega)
 rw[xq] at this
 exact this
theorem ED (ps:aH) (hl:ps.length<=12) (hp:∀ p ∈ ps,p.length<=maxLen):cC.aa (ps,())=some (iC oq ps,()):=by
 refine aj (k:=100) λk hk=>(cC.af k _).trans ?_
 have inner:∀ (self:(aH×Int)->Option cC.Out) (e0:Unit->Option cC.Out) (i:Nat) (hi:i < ps.length),bQ ps[i]->cC.r1 k self e0 (ps,()) ps (i:Int) (0:Int)=if (List.range (pn ps[i])).all (pP ps[i]) then self (ps,ag ((i:Int)+1)) else some ((5:Int),()):=λself e0 i hi ao=>by
  have hn:=ao.n
  have hlen:=ao.len
  have:=gV (B:=λfO v=>cC.B1 k fO (λz=>cC.Q0 k self e0 (ps,()) ps (i:Int) z) (ps,()) ps (i:Int) v) (pn ps[i]) (λ(_:Unit) (j:Int)=>j) (λj _=>if pP ps[i] j then .inr () else .inl (some ((5:Int),()))) (λs=>self (ps,ag ((i:Int)+1))) (λ_ _=>True) (by omega)
   (λj hj s fO hI=>by
    show cC.b1 _ _ _ _ _ _=_
    unfold cC.b1 pP
    have av:(j:Int) < (pn ps[i]:Int):=by omega
    simp only[Int.natCast_nonneg,if_true,Int.toNat_natCast,List.getElem?_eq_getElem hi,Option.bind_some,gw hlen,av,decide_true,cond_true,jf hlen (show j < 16 by omega)]
    by_cases hz:au ps[i] j=0
    ·grind
    ·have:((0:Int) < (au ps[i] j:Int)):=by omega
     rw[decide_eq_true this]
     simp only[cond_true,oz ao hj,sS _ (Nat.le_trans (oo ao hj) (by omega)),Option.bind_some,hz,decide_false,Bool.false_or]
     grind)
   (λ_ _ _ _ _ _=>trivial) (λs fO hI=>by
    show cC.b1 _ _ _ _ _ _=_
    unfold cC.b1
    simp only[Int.natCast_nonneg,if_true,Int.toNat_natCast,List.getElem?_eq_getElem hi,Option.bind_some,gw hlen,Int.lt_irrefl,decide_false,cond_false]
    rfl) () trivial k (by omega)
  rw[mP] at this
  exact this
 have:=eo (B:=λself v=>cC.B0 k self (λz=>cC.Q1 k (ps,()) z) (ps,()) v) ps (λ(_:Unit) (i:Int)=>(ps,i)) (λi _ p=>if oq p=0 then .inr () else .inl (some (oq p,()))) (λ_=>some ((0:Int),())) (λ_ _=>True) (by rw[aL];omega)
  (λi hi s self hI=>by
   show cC.b0 _ _ _ _ _=_
   unfold cC.b0 oq
   have av:(i:Int) < (ps.length:Int):=by omega
   simp only[av,decide_true,cond_true,Int.natCast_nonneg,if_true,Int.toNat_natCast,List.getElem?_eq_getElem hi,Option.bind_some,FM _ (hp _ (List.getElem_mem hi))]
   by_cases h0:pL ps[i]=0
   ·rw[decide_eq_true h0]
    simp only[Bool.not_true,cond_false,inner self _ i hi (lh.1 h0),h0,if_true]
    grind
   grind)
  (λ_ _ _ _ _ _=>trivial) (λs self _=>by
   show cC.b0 _ _ _ _ _=_
   unfold cC.b0
   simp only[Int.lt_irrefl,decide_false,cond_false]
   rfl) () trivial k (by omega)
 rw[vD oq (λc=>some (c,())) (λ_=>some ((0:Int),()))] at this
 refine Eq.trans this ?_
 grind
theorem xu (ps:aH) (h:eA ps) (a b:Int) (ha:0<=a) (hb:0<=b):fZ.aa (ps,a,b,())=some ((iZ ps a b).1,(iZ ps a b).2,()):=by
 obtain ⟨hl,hp⟩:=h
 obtain ⟨a,rfl⟩:=Int.eq_ofNat_of_zero_le ha
 obtain ⟨b,rfl⟩:=Int.eq_ofNat_of_zero_le hb
 refine aj (k:=0) λk hk=>(fZ.af k _).trans ?_
 show fZ.p _=_
 unfold fZ.p iZ
 have hw:ag ((ps.length:Int) - 1)=(ps.length:Int) - 1:=ba (by omega)
 have h0:decide ((0:Int)<=(a:Int))=true:=decide_eq_true (by omega)
 have h1:decide ((a:Int)<=(ps.length:Int) - 1)=decide (a < ps.length):=by grind
 simp only[qQ,hw,h0,h1,Option.bind_some,Bool.true_and,Int.toNat_natCast]
 by_cases P2:a < ps.length
 rotate_left
 ·grind
 rw[decide_eq_true P2]
 have ao:=hp _ (List.getElem_mem P2)
 simp only[Bool.not_true,cond_false,Int.natCast_nonneg,if_true,List.getElem?_eq_getElem P2,Option.bind_some,vS ao]
 by_cases hc:b < pn ps[a]/\au ps[a] b≠0
 ·grind [oz,sS,oo]
 grind
theorem EE (ps:aH) (h:eA ps):bt.aa (aT ps,ps,())=some (if (aT ps).all (ja ps) then (if ((aT ps).filterMap pQ).Nodup then 0 else 6) else 4,()):=by
 have fJ:=tS h
 have yC:∀ x ∈ aT ps,0<=ir x/\0<=it x:=λx hx=>ot hx
 generalize aT ps=xs at fJ yC ⊢
 refine aj (k:=300) λk hk=>(bt.af k _).trans ?_
 have inner:∀ (self:(List ai×Int)->Option bt.Out) (e2:Unit->Option bt.Out) (i:Nat) (hi:i < xs.length),bt.r2 k self e2 (xs,ps,()) xs (i:Int) (0:Int)=if (xs.take i).any (λy=>decide (bR xs[i]=1)&&(decide (bR y=1)&&(decide (ir xs[i]=ir y)&&decide (it xs[i]=it y)))) then some ((6:Int),()) else self (xs,ag ((i:Int)+1)):=λself e2 i hi=>by
  have fq:(xs.take i).length=i:=by grind
  have:=eo (B:=λfO v=>bt.B2 k fO (λz=>bt.Q1 k self e2 (xs,ps,()) xs (i:Int) z) (xs,ps,()) xs (i:Int) v) (xs.take i) (λ(_:Unit) (j:Int)=>j) (λ_ _ y=>if decide (bR xs[i]=1)&&(decide (bR y=1)&&(decide (ir xs[i]=ir y)&&decide (it xs[i]=it y))) then .inl (some ((6:Int),())) else .inr ()) (λ_=>self (xs,ag ((i:Int)+1))) (λ_ _=>True) (by rw[aL];omega)
   (λj hj s fO _=>by
    grind [bt.b2,Int.toNat_natCast,bR,ir,it])
   (λ_ _ _ _ _ _=>trivial) (λs fO _=>by
    rw[fq]
    show bt.b2 _ _ _ _ _ _=_
    unfold bt.b2
    simp only[Int.lt_irrefl,decide_false,cond_false]
    rfl) () trivial k (by omega)
  rw[ze] at this
  exact this
 have second:bt.r1 k (xs,ps,()) (xs,(0:Int))=if (xs.filterMap pQ).Nodup then some ((0:Int),()) else some ((6:Int),()):=by
  have:=eo (B:=λself v=>bt.B1 k self (λz=>bt.Q2 k (xs,ps,()) z) (xs,ps,()) v) xs (λ(_:Unit) (i:Int)=>(xs,i)) (λi _ x=>if (xs.take i).any (λy=>decide (bR x=1)&&(decide (bR y=1)&&(decide (ir x=ir y)&&decide (it x=it y)))) then .inl (some ((6:Int),())) else .inr ()) (λ_=>some ((0:Int),())) (λ_ _=>True) (by rw[aL];omega)
   (λi hi s self _=>by
    show bt.b1 _ _ _ _ _=_
    grind [bt.b1])
   (λ_ _ _ _ _ _=>trivial) (λs self _=>by
    show bt.b1 _ _ _ _ _=_
    unfold bt.b1
    simp only[Int.lt_irrefl,decide_false,cond_false]
    rfl) () trivial k (by omega)
  rw[xp pQ (some ((6:Int),())) (λ_=>some ((0:Int),())) (λx y=>decide (bR x=1)&&(decide (bR y=1)&&(decide (ir x=ir y)&&decide (it x=it y)))) (λx y=>?_) xs] at this
  ·exact this
  ·unfold pQ
   simp only[Bool.and_eq_true,decide_eq_true_eq]
   constructor
   ·rintro ⟨h1,U,h3,h4⟩
    exact ⟨(ir x,it x),by rw[if_pos h1],by grind⟩
   grind
 have:=eo (B:=λself v=>bt.B0 k self (λz=>bt.Q0 k (xs,ps,()) z) (xs,ps,()) v) xs (λ(_:Unit) (i:Int)=>i) (λi _ x=>if ja ps x then .inr () else .inl (some ((4:Int),()))) (λ_=>bt.r1 k (xs,ps,()) (xs,(0:Int))) (λ_ _=>True) (by rw[aL];omega)
  (λi hi s self _=>by
   show bt.b0 _ _ _ _=_
   unfold bt.b0 ja
   have av:(i:Int) < (xs.length:Int):=by omega
   obtain ⟨g1,g2⟩:=yC _ (List.getElem_mem hi)
   have Pt:fZ.aa (ps,(xs[i]).2.2.1.2.2.1,(xs[i]).2.2.1.2.2.2.1,())=some ((iZ ps (ir xs[i]) (it xs[i])).1,(iZ ps (ir xs[i]) (it xs[i])).2,()):=xu ps h _ _ g1 g2
   grind [Int.natCast_nonneg,Int.toNat_natCast,bR])
  (λ_ _ _ _ _ _=>trivial) (λs self _=>by
   show bt.b0 _ _ _ _=_
   unfold bt.b0
   simp only[Int.lt_irrefl,decide_false,cond_false]
   rfl) () trivial k (by omega)
 rw[nL (ja ps) (some ((4:Int),())) (λ_=>bt.r1 k (xs,ps,()) (xs,(0:Int)))] at this
 refine Eq.trans this ?_
 grind
theorem uk (ps:aH) (h:eA ps):dp.aa (ps,())=some (c_ ps,()):=by
 refine aj (k:=300) λk hk=>(dp.af k _).trans ?_
 unfold dp.p
 rw[xt ps h]
 simp only[Option.bind_some]
 have fJ:=tS h
 have yC:∀ x ∈ aT ps,0<=ir x/\0<=it x:=λx hx=>ot hx
 unfold c_
 generalize aT ps=xs at fJ yC ⊢
 have:=eo (B:=λself v=>dp.B0 k self (λz=>dp.Q0 k (ps,()) xs z) (ps,()) xs v) xs (λ(s:List ai) (i:Int)=>(s,i)) (λi s x=>.inr (s++jU ps x)) (λs=>some (s,())) (λi s=>s.length<=i) (by rw[aL];omega)
  (λi hi s self hI=>by
   show dp.b0 _ _ _ _ _=_
   unfold dp.b0 jU
   have av:(i:Int) < (xs.length:Int):=by omega
   obtain ⟨g1,g2⟩:=yC _ (List.getElem_mem hi)
   have Pt:fZ.aa (ps,(xs[i]).2.2.1.2.2.1,(xs[i]).2.2.1.2.2.2.1,())=some ((iZ ps (ir xs[i]) (it xs[i])).1,(iZ ps (ir xs[i]) (it xs[i])).2,()):=xu ps h _ _ g1 g2
   have jF:∀ y:ai,s.length+[y].length<=cJ:=λy=>dR (by grind)
   simp only[av,decide_true,cond_true,Int.natCast_nonneg,and_self,if_true,Int.toNat_natCast,List.getElem?_eq_getElem hi,Option.bind_some,Pt,jF]
   show (bif decide (bR xs[i]=2) then _ else bif decide (bR xs[i]=1) then _ else _)=_
   unfold oB
   by_cases c2:bR xs[i]=2
   ·grind
   ·by_cases c1:bR xs[i]=1
    ·simp only[c1,c2,decide_true,decide_false,cond_true,cond_false,if_true,if_false]
     rfl
    grind)
  (λi hi s s' hI hf=>by
   grind [jU]) (λs self _=>by
   show dp.b0 _ _ _ _ _=_
   unfold dp.b0
   simp only[Int.lt_irrefl,decide_false,cond_false]
   rfl) [] (by simp) k (by omega)
 rw[vQ (jU ps)] at this
 exact this
def LF (x:ai):Option (Int×Int):=some (rk (bS x))
theorem qB (ps:aH) (hp:∀ p ∈ ps,p.length<=maxLen):bn.aa (ps,())=some (a7 ps,()):=by
 refine aj (k:=300) λk hk=>(bn.af k _).trans ?_
 unfold bn.p a7
 by_cases hl:12 < ps.length
 ·grind
 have Aj:¬ ((12:Int) < (ps.length:Int)):=by omega
 simp only[Aj,decide_false,cond_false,hl,if_false,ED ps (by omega) hp,Option.bind_some]
 by_cases hc:iC oq ps=0
 rotate_left
 ·grind
 have h:eA ps:=⟨by omega,λp hp=>(AF (pR hc p hp)).1⟩
 simp only[hc,decide_true,Bool.not_true,cond_false,if_true,xt ps h,EE ps h,uk ps h,Option.bind_some]
 unfold tR
 by_cases h1:(aT ps).all (ja ps)=true
 rotate_left
 ·grind
 by_cases U:((aT ps).filterMap pQ).Nodup
 rotate_left
 ·grind
 simp only[h1,U,if_true,decide_true,Bool.not_true,cond_false]
 have fJ:=sW h
 generalize c_ ps=xs at fJ ⊢
 have inner:∀ (self:(List ai×Int)->Option bn.Out) (e0:Unit->Option bn.Out) (i:Nat) (hi:i < xs.length),bn.r1 k self e0 (ps,()) xs (i:Int) (0:Int)=if (xs.take i).any (λy=>decide ((bS xs[i]).1=(bS y).1)&&decide ((bS xs[i]).2.1=(bS y).2.1)) then some ((8:Int),()) else self (xs,ag ((i:Int)+1)):=λself e0 i hi=>by
  have fq:(xs.take i).length=i:=by grind
  have:=eo (B:=λfO v=>bn.B1 k fO (λz=>bn.Q0 k self e0 (ps,()) xs (i:Int) z) (ps,()) xs (i:Int) v) (xs.take i) (λ(_:Unit) (j:Int)=>j) (λ_ _ y=>if decide ((bS xs[i]).1=(bS y).1)&&decide ((bS xs[i]).2.1=(bS y).2.1) then .inl (some ((8:Int),())) else .inr ()) (λ_=>self (xs,ag ((i:Int)+1))) (λ_ _=>True) (by rw[aL];omega)
   (λj hj s fO _=>by
    grind [bn.b1,Int.toNat_natCast,bS])
   (λ_ _ _ _ _ _=>trivial) (λs fO _=>by
    rw[fq]
    show bn.b1 _ _ _ _ _ _=_
    unfold bn.b1
    simp only[Int.lt_irrefl,decide_false,cond_false]
    rfl) () trivial k (by omega)
  rw[ze] at this
  exact this
 have:=eo (B:=λself v=>bn.B0 k self (λz=>bn.Q1 k (ps,()) z) (ps,()) v) xs (λ(_:Unit) (i:Int)=>(xs,i)) (λi _ x=>if (xs.take i).any (λy=>decide ((bS x).1=(bS y).1)&&decide ((bS x).2.1=(bS y).2.1)) then .inl (some ((8:Int),())) else .inr ()) (λ_=>some ((0:Int),())) (λ_ _=>True) (by rw[aL];omega)
  (λi hi s self _=>by
   show bn.b0 _ _ _ _ _=_
   grind [bn.b0])
  (λ_ _ _ _ _ _=>trivial) (λs self _=>by
   show bn.b0 _ _ _ _ _=_
   unfold bn.b0
   simp only[Int.lt_irrefl,decide_false,cond_false]
   rfl) () trivial k (by omega)
 rw[xp LF (some ((8:Int),())) (λ_=>some ((0:Int),())) (λx y=>decide ((bS x).1=(bS y).1)&&decide ((bS x).2.1=(bS y).2.1)) (λx y=>?_) xs] at this
 ·refine Eq.trans this ?_
  grind [LF]
 ·unfold LF rk
  grind
end OT
set_option linter.unusedVariables false
set_option linter.unusedSimpArgs false
namespace OT
open Go Go.Sort
abbrev uM:Ty:=.arr 2 i64
theorem uN (a b c d:Int):Ty.eq uM [a,b] [c,d]=(decide (a=c)&&decide (b=d)):=by
 simp_all [Ty.eq]
theorem zj (a b:Int):((List.replicate 2 (0:Int)).set 0 a).set 1 b=[a,b]:=rfl
theorem xv {α:Type} (k:Ty) (m:List (k.den×α)) (x:k.den) (y:α) (h:∀ e ∈ m,k.eq x e.1=false):oY k m x y=m++[(x,y)]:=by
 grind [oY]
def du (x:ai):List Seen:=if bR x=0 then [(bS x,x.1,x.2.1,false,x.1,x.2.1,())] else []
def cy (x:ai):List Seen:=if bR x=1 then [(sR,x.1,x.2.1,true,ir x,it x,())] else []
def fK (x:ai):List (List Int×Row):=if bR x=2 then [([x.1,x.2.1],bS x)] else []
theorem vU (d:List UInt8):(bF d).2=true->(bF d).1.1=0/\((bF d).1.2.1=0\/(bF d).1.2.1=1\/(bF d).1.2.1=2):=by
 grind [bF]
def rV (ps:aH):Prop:=eA ps/\∀ p ∈ ps,∀ s,s < pn p->au p s≠0->(bF (dt p s)).2=true
theorem EF {ps:aH} (hl:ps.length<=12) (h:iC oq ps=0):rV ps:=
 ⟨⟨hl,λp hp=>(AF (pR h p hp)).1⟩,λp hp=>(AF (pR h p hp)).2⟩
theorem Ka {ps:aH} (h:rV ps) {x:ai} (hx:x ∈ aT ps):bR x=0\/bR x=1\/bR x=2:=by
 obtain ⟨P,p,s,h1,U,h3,rfl⟩:=qk.1 hx
 exact (vU _ (h.2 p (List.mem_of_getElem? h1) s U h3)).2
theorem AG (S:List ai):(S.flatMap du).length<=S.length/\(S.flatMap cy).length<=S.length:=by
 induction S <;> grind [du,cy]
theorem GN {ps:aH} (h:rV ps) (a b:Int) (ha:0<=a) (hb:0<=b):gm uM ((aT ps).flatMap fK) [a,b]=if (iZ ps a b).2&&decide ((iZ ps a b).1.2.1=2) then some (iZ ps a b).1.2.2.2.2.1 else none:=by
 obtain ⟨a,rfl⟩:=Int.eq_ofNat_of_zero_le ha
 obtain ⟨b,rfl⟩:=Int.eq_ofNat_of_zero_le hb
 unfold gm
 have at_:∀ x ∈ aT ps,x.1=(a:Int)->x.2.1=(b:Int)->iZ ps (a:Int) (b:Int)=(x.2.2.1,true):=λx hx e1 e2=>by
  obtain ⟨P,p,s,h1,U,h3,rfl⟩:=qk.1 hx
  have e1:(P:Int)=(a:Int):=e1
  have e2:(s:Int)=(b:Int):=e2
  have e1:P=a:=by omega
  have e2:s=b:=by omega
  subst e1;subst e2
  unfold iZ
  simp only[Int.toNat_natCast,h1]
  rw[if_pos ⟨U,h3⟩]
  have:=h.2 p (List.mem_of_getElem? h1) s U h3
  rw[<-this]
 cases hf:((aT ps).flatMap fK).find? (λe=>Ty.eq uM [(a:Int),(b:Int)] e.1) with
 | some e=>
  have hm:=List.mem_of_find?_eq_some hf
  have hp:=List.find?_some hf
  obtain ⟨x,hx,Gy⟩:=List.mem_flatMap.1 hm
  unfold fK at Gy
  split at Gy
  ·rename_i U
   rw[List.mem_singleton] at Gy
   subst Gy
   rw[uN,Bool.and_eq_true,decide_eq_true_eq,decide_eq_true_eq] at hp
   have hg:=at_ x hx hp.1.symm hp.2.symm
   rw[hg]
   have:(x.2.2.1).2.1=2:=U
   simp only[this,decide_true,Bool.and_self,if_true,Option.map_some]
   rfl
  ·cases Gy
 | none=>
  rw[if_neg]
  ·rfl
  ·intro hc
   rw[Bool.and_eq_true,decide_eq_true_eq] at hc
   obtain ⟨c1,c2⟩:=hc
   have:∃ x ∈ aT ps,x.1=(a:Int)/\x.2.1=(b:Int)/\bR x=2:=by
    unfold iZ at c1 c2
    simp only[Int.toNat_natCast] at c1 c2
    cases SA:ps[a]? with
    | none=>grind
    | some p=>
     rw[SA] at c1 c2
     simp only at c1 c2
     by_cases hc:b < pn p/\au p b≠0
     ·rw[if_pos hc] at c2
      exact ⟨_,qk.2 ⟨a,p,b,SA,hc.1,hc.2,rfl⟩,rfl,rfl,c2⟩
     grind
   grind [fK,uN]
def i7 (x:ai):Seen:=(bS x,x.1,x.2.1,decide (bR x=1),(if bR x=1 then ir x else x.1),(if bR x=1 then it x else x.2.1),())
def qC (ps:aH) (y:Seen):Seen:=(yj (gm uM ((aT ps).flatMap fK) [y.2.2.2.2.1,y.2.2.2.2.2.1]) sR,y.2)
def yc (ps:aH):List Seen:=(aT ps).flatMap du++((aT ps).flatMap cy).map (qC ps)
theorem It {ps:aH} (h:rV ps) (hs:(aT ps).all (ja ps)=true):(yc ps).Perm ((c_ ps).map i7):=by
 unfold yc c_
 have mf:=List.all_eq_true.1 hs
 have DS:∀ x ∈ aT ps,bR x=0\/bR x=1\/bR x=2:=λx hx=>Ka h hx
 have yC:∀ x ∈ aT ps,0<=ir x/\0<=it x:=λx hx=>ot hx
 have key:∀ S:List ai,(∀ x ∈ S,x ∈ aT ps)->(S.flatMap du++(S.flatMap cy).map (qC ps)).Perm ((S.flatMap (jU ps)).map i7):=by
  intro S
  induction S with
  | nil=>grind
  | cons x S ih=>
   intro hS
   have ih:=ih λy hy=>hS y (List.mem_cons_of_mem _ hy)
   have hx:=hS x List.mem_cons_self
   simp only[List.flatMap_cons,List.map_append]
   rcases DS x hx with h0 | h1 | U
   ·simp_all [du,i7,oB,cy,jU]
   ·have e1:du x=[]:=by grind [du]
    have e3:jU ps x=[oB ps x]:=by grind [jU]
    have e2:(cy x).map (qC ps)=[i7 (oB ps x)]:=by
     unfold cy
     rw[if_pos h1]
     simp only[List.map_cons,List.map_nil]
     obtain ⟨g1,g2⟩:=yC x hx
     have bk:=mf x hx
     unfold ja at bk
     rw[decide_eq_true h1] at bk
     simp only[Bool.not_true,Bool.false_or] at bk
     have hg:=GN h (ir x) (it x) g1 g2
     rw[if_pos bk] at hg
     unfold qC
     simp only[hg,yj]
     unfold oB
     rw[if_pos h1]
     have LG:bR (GK x (iZ ps (ir x) (it x)).1.2.2.2.2.1)=1:=h1
     unfold i7
     rw[if_pos LG,if_pos LG,decide_eq_true LG]
     rfl
    grind
   grind [du,cy,jU]
 grind
def uO (x y:Seen):Bool:=bB (rk x.1) (rk y.1)
def GO (x y:Seen):Int:=if bB (x.1.1,x.1.2.1) (y.1.1,y.1.2.1) then -1 else if bB (y.1.1,y.1.2.1) (x.1.1,x.1.2.1) then 1 else 0
theorem Kb:Go.Proofs.ltOf GO=uO:=by
 funext x y
 exact J6 x.1 y.1
theorem LH (x y:Seen):iv.aa (x,y,())=some (GO x y,()):=by
 refine aj (k:=0) λk hk=>(iv.af k _).trans ?_
 show iv.p _=_
 unfold iv.p
 rw[nv]
 rfl
theorem TE:SWO uO where
 irrefl x:=dQ _
 trans x y z h1 U:=jm h1 U
 ntrans x y z h1 U:=by
  grind [uO,jm,nx]
def zk (xs:List Seen) (x:Seen):List Seen:=xs.take (pos (xs.map (·.1)) (rk x.1))++[x]++xs.drop (pos (xs.map (·.1)) (rk x.1))
def vV (l:List Seen):List Seen:=l.foldl zk []
theorem LI (xs:List Seen) (x:Seen):(zk xs x).map (·.1)=gf (xs.map (·.1)) x.1:=by
 grind [zk,gf,List.map_take,List.map_drop]
theorem Kc (xs:List Seen) (x:Seen):(zk xs x).Perm (x::xs):=by
 grind [zk,List.take_append_drop]
theorem Cl (l:List Seen):(vV l).map (·.1)=AD (l.map (·.1)):=by
 have main:∀ (l acc:List Seen),(l.foldl zk acc).map (·.1)=(l.map (·.1)).foldl gf (acc.map (·.1)):=by
  intro l
  induction l <;> grind [LI]
 exact main l []
theorem AH (l:List Seen):(vV l).Perm l:=by
 have main:∀ (l acc:List Seen),(l.foldl zk acc).Perm (l++acc):=by
  intro l
  induction l <;> grind [Kc]
 have:=main l []
 rw[List.append_nil] at this
 exact this
def Cm (xs:List Seen):Prop:=xs.Pairwise λx y=>uO x y=true
theorem GP {xs:List Seen}:Cm xs↔up (xs.map (·.1)):=by
 unfold Cm up
 rw[List.pairwise_map]
 rfl
theorem EG {l r:List Seen} (hp:r.Perm l) (hr:Cm r) (hn:(l.map λx=>rk x.1).Nodup):r=vV l:=by
 refine rj (lt:=λx y=>uO x y=true) (λa b h=>EC h) r (vV l) (hp.trans (AH l).symm) hr (GP.2 ?_)
 grind [Cl,EB]
theorem Kd {r:List Seen} (h:Cm r):(r.map λx=>rk x.1).Nodup:=by
 have:=sU (GP.1 h)
 grind
def vW:List Seen->Bool
 | x::y::l=>uO x y&&vW (y::l)
 | _=>true
theorem Ke:∀ (l:List Seen),vW l=true->Cm l
 | [],_=>List.Pairwise.nil
 | [x],_=>List.pairwise_singleton _ _
 | x::y::l,h=>by
  simp only[vW,Bool.and_eq_true] at h
  have ih:=Ke (y::l) h.2
  refine List.pairwise_cons.2 ⟨λz hz=>?_,ih⟩
  rcases List.mem_cons.1 hz with rfl | hz
  ·exact h.1
  ·exact jm h.1 ((List.pairwise_cons.1 ih).1 z hz)
theorem GQ:∀ (l:List Seen),Cm l->vW l=true
 | [],_=>rfl
 | [x],_=>rfl
 | x::y::l,h=>by
  obtain ⟨h1,U⟩:=List.pairwise_cons.1 h
  simp only[vW,Bool.and_eq_true]
  exact ⟨h1 y List.mem_cons_self,GQ (y::l) U⟩
theorem Kg {r:List Seen} (h:r.Pairwise λx y=>uO y x=false) (hn:(r.map λx=>rk x.1).Nodup):Cm r:=by
 unfold Cm
 have U:r.Pairwise λx y=>rk x.1≠rk y.1:=by
  grind
 refine (h.and U).imp λ{x y} ⟨g1,g2⟩=>?_
 grind [uO,nx]
end OT
set_option linter.unusedVariables false
set_option linter.unusedSimpArgs false
namespace OT
open Go Go.Sort
theorem LJ (z:List Seen) (hl:z.length<=1000):∃ r:List Seen,(∀ f:Nat×Int,iF.aa (z,f,())=some (r,()))/\r.Perm z/\r.Pairwise λx y=>uO y x=false:=by
 have hs:SWO (Go.Proofs.ltOf GO):=by rw[Kb];exact TE
 have h1:=Eo (e:=ct) (cs:=iv.aa) (cf:=GO) (λx y=>LH x y) hs z (dR (Nat.le_trans hl (by omega)))
 have U:=Ep (α:=ct.den) (lt:=Go.Proofs.ltOf GO) hs z
 refine ⟨_,λf=>?_,U.1,?_⟩
 ·show (rH ct iv.aa z).map (λr=>(r,()))=_
  rw[h1]
  rfl
 ·exact U.2.imp λ{x y} (h:Go.Proofs.ltOf (α:=Seen) GO y x=false)=>by simp_all [Kb]
theorem EH {O:Type} (r:List Seen) (bad e:O):∀ (l pre:List Seen) (x:Seen),r=pre++x::l->cS (λi (_:Unit) y=>if (match r[i]? with | some z=>uO z y | none=>true) then .inr () else .inl bad) (λ_=>e) pre.length l ()=if vW (x::l) then e else bad
 | [],pre,x,_=>by simp[cS,vW]
 | y::l,pre,x,h=>by
  have hx:r[pre.length]?=some x:=by grind
  simp only[cS,hx,vW]
  by_cases hc:uO x y=true
  rotate_left
  ·grind
  ·simp only[hc,if_true,Bool.true_and]
   have:=EH r bad e l (pre++[x]) y (by rw[h];simp)
   grind
theorem LK (ps:aH) (k:Nat) (hk:300<=k) (r:List Seen) (hl:r.length<=192):aD (λself v=>aK.B4 k self (λz=>aK.Q4 k (ps,()) r z) (ps,()) r v) k 1=if vW r then some (r,(0:Int),()) else some (([]:List Seen),(8:Int),()):=by
 have:=eo (B:=λself v=>aK.B4 k self (λz=>aK.Q4 k (ps,()) r z) (ps,()) r v) (r.drop 1) (λ(_:Unit) (i:Int)=>i+1) (λi _ y=>if (match r[i]? with | some z=>uO z y | none=>true) then .inr () else .inl (some (([]:List Seen),(8:Int),()))) (λ_=>some (r,(0:Int),())) (λ_ _=>True) (by grind [aL])
  (λi hi s self _=>by
   rw[List.length_drop] at hi
   show aK.b4 _ _ _ _ _=_
   unfold aK.b4
   have av:(i:Int)+1 < (r.length:Int):=by omega
   have TF:(i:Int) < (r.length:Int):=by omega
   have yC:(0:Int)<=(i:Int)+1:=by omega
   have qN:ag ((i:Int)+1 - 1)=(i:Int):=by grind [ba]
   have tA:ag ((i:Int)+1+1)=ag ((i:Int)+1)+1:=by grind [ba]
   have Sy:((i:Int)+1).toNat=i+1:=by omega
   have hg:(r.drop 1)[i]'(by grind)=r[i+1]'(by omega):=by grind
   rw[hg]
   simp only[av,TF,yC,qN,tA,Sy,decide_true,cond_true,Int.natCast_nonneg,and_self,if_true,Int.toNat_natCast,List.getElem?_eq_getElem (show i < r.length by omega),List.getElem?_eq_getElem (show i+1 < r.length by omega),Option.bind_some,uj]
   show (bif !uO r[i] (r[i+1]'(by omega)) then _ else _)=_
   grind)
  (λ_ _ _ _ _ _=>trivial) (λs self _=>by
   rw[List.length_drop]
   show aK.b4 _ _ _ _ _=_
   unfold aK.b4
   have av:¬ (((r.length - 1:Nat):Int)+1 < (r.length:Int)):=by omega
   simp only[av,decide_false,cond_false]
   rfl) () trivial k (by grind)
 refine Eq.trans this ?_
 cases r with
 | nil=>rfl
 | cons x l=>
  exact EH (x::l) _ _ l [] x rfl
def qD (ps:aH):List Seen:=if a7 ps=0 then vV ((c_ ps).map i7) else []
def Ng (ps:aH):List Seen:=if tR ps=0 then vV ((c_ ps).map i7) else []
def Db (y:Seen):Option (Int×Int):=some (y.2.2.2.2.1,y.2.2.2.2.2.1)
def Dc (y:Seen):List Int×Bool:=([y.2.2.2.2.1,y.2.2.2.2.2.1],true)
theorem EI (T:List Seen) (a b:Int):yj (gm uM (T.map Dc) [a,b]) false=T.any λy=>decide (a=y.2.2.2.2.1)&&decide (b=y.2.2.2.2.2.1):=by
 induction T with
 | nil=>rfl
 | cons y T ih=>
  have hk:Ty.eq uM [a,b] (Dc y).1=(decide (a=y.2.2.2.2.1)&&decide (b=y.2.2.2.2.2.1)):=uN _ _ _ _
  unfold gm at ih ⊢
  rw[List.map_cons,List.find?_cons,List.any_cons,hk]
  cases (decide (a=y.2.2.2.2.1)&&decide (b=y.2.2.2.2.2.1)) with
  | true=>rfl
  | false=>simpa using ih
theorem LL (S:List ai):(S.flatMap cy).filterMap Db=S.filterMap pQ:=by
 induction S <;> grind [cy,pQ,Db]
theorem FO (ps:aH) (h:rV ps):aK.aa (ps,())=some (Ng ps,tR ps,()):=by
 obtain ⟨hl,hp⟩:=h.1
 have fJ:=tS h.1
 refine aj (k:=300) λk hk=>(aK.af k _).trans ?_
 have inner:∀ (self:(List Seen×List Seen×List (List Int×Row)×aH×Int×Int)->Option aK.Out) (e0:(List Seen×List Seen×List (List Int×Row))->Option aK.Out) (i:Nat) (hi:i < ps.length) (S:List ai),S.length<=16*i->(∀ x ∈ S,x.1 < (i:Int)) ->
   aK.r1 k self e0 (ps,()) (i:Int) ps[i] ps (ps.length:Int) (pn ps[i]:Int) (S.flatMap du,S.flatMap cy,S.flatMap fK,(0:Int))=self ((S++jg i ps[i]).flatMap du,(S++jg i ps[i]).flatMap cy,(S++jg i ps[i]).flatMap fK,ps,(ps.length:Int),ag ((i:Int)+1)):=λself e0 i hi S0 Xl ez=>by
  have ao:=hp _ (List.getElem_mem hi)
  have hn:=ao.n
  have hlen:=ao.len
  have kZ:=h.2 _ (List.getElem_mem hi)
  have:=gV (B:=λfO v=>aK.B1 k fO (λz=>aK.Q0 k self e0 (ps,()) (i:Int) ps[i] ps (ps.length:Int) (pn ps[i]:Int) z) (ps,()) (i:Int) ps[i] ps (ps.length:Int) (pn ps[i]:Int) v) (pn ps[i]) (λ(S:List ai) (j:Int)=>(S.flatMap du,S.flatMap cy,S.flatMap fK,j)) (λj S=>.inr (S++jD i ps[i] j)) (λS=>self (S.flatMap du,S.flatMap cy,S.flatMap fK,ps,(ps.length:Int),ag ((i:Int)+1))) (λj S=>S.length<=16*i+j/\∀ x ∈ S,x.1 < (i:Int)\/(x.1=(i:Int)/\x.2.1 < (j:Int))) (by omega)
   (λj hj S fO ⟨P3,P4⟩=>by
    show aK.b1 _ _ _ _ _ _ _ _ _=_
    unfold aK.b1 jD
    have av:(j:Int) < (pn ps[i]:Int):=by omega
    simp only[av,decide_true,cond_true,pN ao,hj,Bool.true_and,Option.bind_some]
    by_cases hz:au ps[i] j=0
    ·grind
    ·have B7:=kZ j hj hz
     obtain ⟨f1,f2⟩:=vU _ B7
     obtain ⟨l1,l2⟩:=AG S
     have jF:∀ (T:List Seen) (y:Seen),T.length<=S.length->T.length+[y].length<=cJ:=λT y hT=>dR (by grind)
     simp only[hz,decide_false,Bool.not_false,Bool.not_true,cond_false,ri ao hj,ww _ (Nat.le_trans (oo ao hj) (by omega)),B7,if_true,if_false,Option.bind_some,f1,decide_true,jF _ _ l1,jF _ _ l2,zj]
     obtain ⟨x,hx⟩:∃ x:ai,x=((i:Int),(j:Int),(bF (dt ps[i] j)).1,()):=⟨_,rfl⟩
     have P5:bR x=(bF (dt ps[i] j)).1.2.1:=by rw[hx];rfl
     rw[<-hx]
     simp only[List.flatMap_append,List.flatMap_cons,List.flatMap_nil,List.append_nil]
     rcases f2 with g | g | g
     ·have e1:du x=[((bF (dt ps[i] j)).1.2.2.2.2.1,(i:Int),(j:Int),false,(i:Int),(j:Int),())]:=by unfold du;rw[if_pos (P5.trans g),hx];rfl
      grind [cy,fK]
     ·have e1:du x=[]:=by grind [du]
      have e2:cy x=[(sR,(i:Int),(j:Int),true,(bF (dt ps[i] j)).1.2.2.1,(bF (dt ps[i] j)).1.2.2.2.1,())]:=by unfold cy;rw[if_pos (P5.trans g),hx];rfl
      grind [fK]
     ·have e1:du x=[]:=by grind [du]
      have e2:cy x=[]:=by grind [cy]
      have e3:fK x=[([(i:Int),(j:Int)],(bF (dt ps[i] j)).1.2.2.2.2.1)]:=by unfold fK;rw[if_pos (P5.trans g),hx];rfl
      rw[e1,e2,e3]
      have n1:¬ ((2:Int)=0):=by decide
      have sr:oY uM (S.flatMap fK) [(i:Int),(j:Int)] (bF (dt ps[i] j)).1.2.2.2.2.1=S.flatMap fK++[([(i:Int),(j:Int)],(bF (dt ps[i] j)).1.2.2.2.2.1)]:=xv uM _ _ _ λe he=>by
       grind [fK,uN]
      grind)
   (λj hj S S' ⟨P3,P4⟩ hf=>by
    grind [jD]) (λS fO hI=>by
    show aK.b1 _ _ _ _ _ _ _ _ _=_
    unfold aK.b1
    simp only[Int.lt_irrefl,decide_false,cond_false]
    rfl) S0 ⟨by omega,λx hx=>.inl (ez x hx)⟩ k (by omega)
  rw[vQ (jD i ps[i])] at this
  exact this
 have outer:aK.r0 k (ps,()) (([]:List Seen),([]:List Seen),([]:List (List Int×Row)),ps,(ps.length:Int),(0:Int))=aK.Q1 k (ps,()) ((aT ps).flatMap du,(aT ps).flatMap cy,(aT ps).flatMap fK):=by
  have:=eo (B:=λself v=>aK.B0 k self (λz=>aK.Q1 k (ps,()) z) (ps,()) v) ps (λ(S:List ai) (i:Int)=>(S.flatMap du,S.flatMap cy,S.flatMap fK,ps,(ps.length:Int),i)) (λi S p=>.inr (S++jg i p)) (λS=>aK.Q1 k (ps,()) (S.flatMap du,S.flatMap cy,S.flatMap fK)) (λi S=>S.length<=16*i/\∀ x ∈ S,x.1 < (i:Int)) (by rw[aL];omega)
   (λi hi S self ⟨P3,P4⟩=>by
    show aK.b0 _ _ _ _ _=_
    unfold aK.b0
    have av:(i:Int) < (ps.length:Int):=by omega
    have hlen:=(hp _ (List.getElem_mem hi)).len
    grind [l7])
   (λi hi S S' ⟨P3,P4⟩ hf=>by
    injection hf with hf
    subst hf
    have:=qA (hp _ (List.getElem_mem hi)) i
    refine ⟨by grind,λx hx=>?_⟩
    rcases List.mem_append.1 hx with hx | hx
    ·grind
    ·obtain ⟨s,_,hs⟩:=List.mem_flatMap.1 hx
     grind [jD]) (λS self hI=>by
    show aK.b0 _ _ _ _ _=_
    grind [aK.b0]) [] ⟨by simp,λx hx=>by cases hx⟩ k (by omega)
  rw[xq] at this
  exact this
 show aK.r0 k (ps,()) (([]:List Seen),([]:List Seen),([]:List (List Int×Row)),ps,(ps.length:Int),(0:Int))=_
 rw[outer]
 show aK.q1 _ _ _=_
 unfold aK.q1
 obtain ⟨Xm,Xn⟩:=AG (aT ps)
 have hT:∀ y ∈ (aT ps).flatMap cy,∃ x ∈ aT ps,bR x=1/\y=(sR,x.1,x.2.1,true,ir x,it x,()):=λy hy=>by
  grind [cy]
 have VL:aK.r2 k (ps,()) ((aT ps).flatMap du) ((aT ps).flatMap cy) ((aT ps).flatMap fK) (((aT ps).flatMap cy).length:Int) (0:Int)=if (aT ps).all (ja ps) then aK.Q2 k (ps,()) ((aT ps).flatMap du) ((aT ps).flatMap cy) ((aT ps).flatMap fK) (((aT ps).flatMap cy).length:Int) () else some (([]:List Seen),(4:Int),()):=by
  obtain ⟨T,Nh⟩:∃ T,T=(aT ps).flatMap cy:=⟨_,rfl⟩
  obtain ⟨M,hM⟩:∃ M,M=(aT ps).flatMap fK:=⟨_,rfl⟩
  rw[<-Nh,<- hM]
  have VM:T.length<=192:=by grind
  have:=eo (B:=λself v=>aK.B2 k self (λz=>aK.Q2 k (ps,()) ((aT ps).flatMap du) T M (T.length:Int) z) (ps,()) ((aT ps).flatMap du) T M (T.length:Int) v) T (λ(_:Unit) (i:Int)=>i) (λi _ y=>if (gm uM M [y.2.2.2.2.1,y.2.2.2.2.2.1]).isSome then .inr () else .inl (some (([]:List Seen),(4:Int),()))) (λ_=>aK.Q2 k (ps,()) ((aT ps).flatMap du) T M (T.length:Int) ()) (λ_ _=>True) (by rw[aL];omega)
   (λi hi s self _=>by
    grind [aK.b2,Int.toNat_natCast,zj,List.length_replicate])
   (λ_ _ _ _ _ _=>trivial) (λs self _=>by
    grind [aK.b2]) () trivial k (by omega)
  rw[nL (λy:Seen=>(gm uM M [y.2.2.2.2.1,y.2.2.2.2.2.1]).isSome) (some (([]:List Seen),(4:Int),())) (λ_=>aK.Q2 k (ps,()) ((aT ps).flatMap du) T M (T.length:Int) ())] at this
  refine Eq.trans this ?_
  have hb:T.all (λy:Seen=>(gm uM M [y.2.2.2.2.1,y.2.2.2.2.2.1]).isSome)=(aT ps).all (ja ps):=by
   have jN:∀ x ∈ aT ps,bR x=1->(gm uM M [ir x,it x]).isSome=ja ps x:=λx hx hf=>by
    grind [ot,GN,ja]
   grind [cy,ja]
  rw[hb]
 rw[VL]
 unfold Ng tR
 by_cases bk:(aT ps).all (ja ps)=true
 rotate_left
 ·grind
 simp only[bk,if_true]
 show aK.q2 _ _ _ _ _ _ _=_
 unfold aK.q2
 have VN:aK.r3 k (ps,()) ((aT ps).flatMap du) ((aT ps).flatMap cy) ((aT ps).flatMap fK) (((aT ps).flatMap cy).length:Int) ((aT ps).flatMap cy) ((aT ps).flatMap fK) (((aT ps).flatMap cy).length:Int) ((aT ps).flatMap du,([]:List (List Int×Bool)),(0:Int))=if ((aT ps).filterMap pQ).Nodup then aK.Q3 k (ps,()) ((aT ps).flatMap cy) ((aT ps).flatMap fK) (((aT ps).flatMap cy).length:Int) (yc ps) else some (([]:List Seen),(6:Int),()):=by
  have Ni:=LL (aT ps)
  unfold yc
  obtain ⟨T,Nh⟩:∃ T,T=(aT ps).flatMap cy:=⟨_,rfl⟩
  obtain ⟨M,hM⟩:∃ M,M=(aT ps).flatMap fK:=⟨_,rfl⟩
  obtain ⟨L,hL⟩:∃ L,L=(aT ps).flatMap du:=⟨_,rfl⟩
  have Wh:∀ y:Seen,qC ps y=(yj (gm uM M [y.2.2.2.2.1,y.2.2.2.2.2.1]) sR,y.2):=λy=>by grind [qC]
  rw[<-Nh,<- hM,<- hL]
  rw[<-Nh] at Ni
  have VM:T.length<=192:=by grind
  have Xo:L.length<=192:=by rw[hL];omega
  have:=eo (B:=λself v=>aK.B3 k self (λz=>aK.Q3 k (ps,()) T M (T.length:Int) z) (ps,()) T M (T.length:Int) v) T (λ(_:Unit) (i:Int)=>(L++(T.take i.toNat).map (qC ps),(T.take i.toNat).map Dc,i)) (λi _ y=>if (T.take i).any (λz=>decide (y.2.2.2.2.1=z.2.2.2.2.1)&&decide (y.2.2.2.2.2.1=z.2.2.2.2.2.1)) then .inl (some (([]:List Seen),(6:Int),())) else .inr ()) (λ_=>aK.Q3 k (ps,()) T M (T.length:Int) (L++T.map (qC ps))) (λ_ _=>True) (by rw[aL];omega)
   (λi hi s self _=>by
    show aK.b3 _ _ _ _ _ _ _=_
    unfold aK.b3
    have av:(i:Int) < (T.length:Int):=by omega
    have jF:∀ y:Seen,(L++(T.take i).map (qC ps)).length+[y].length<=cJ:=λy=>dR (by grind)
    have hw:(ag ((i:Int)+1)).toNat=i+1:=by grind [ba]
    have jx:T.take (i+1)=T.take i++[T[i]]:=List.take_succ_eq_append_getElem hi
    simp only[av,decide_true,cond_true,Int.natCast_nonneg,and_self,if_true,Int.toNat_natCast,List.getElem?_eq_getElem hi,Option.bind_some,zj,List.length_replicate,List.length_set,show (0:Nat) < 2 by omega,show (1:Nat) < 2 by omega,EI,jF,hw,jx,List.map_append,List.map_cons,List.map_nil]
    have Xp:=EI (T.take i) (T[i]).2.2.2.2.1 (T[i]).2.2.2.2.2.1
    grind [Dc,xv,uN])
   (λ_ _ _ _ _ _=>trivial) (λs self _=>by
    grind [aK.b3,List.take_length]) () trivial k (by omega)
  rw[xp Db (some (([]:List Seen),(6:Int),())) (λ_=>aK.Q3 k (ps,()) T M (T.length:Int) (L++T.map (qC ps))) (λy z=>decide (y.2.2.2.2.1=z.2.2.2.2.1)&&decide (y.2.2.2.2.2.1=z.2.2.2.2.2.1)) (λy z=>?_) T,Ni] at this
  ·simp only[Int.toNat_zero,List.take_zero,List.map_nil,List.append_nil] at this
   exact this
  ·unfold Db
   simp only[Bool.and_eq_true,decide_eq_true_eq]
   constructor
   all_goals grind
 rw[VN]
 by_cases jx:((aT ps).filterMap pQ).Nodup
 rotate_left
 ·grind
 simp only[jx,if_true]
 show aK.q3 _ _ _ _ _ _=_
 unfold aK.q3
 have Nj:=It h bk
 have Gj:(yc ps).length<=192:=by
  have:=Nj.length_eq
  rw[List.length_map] at this
  have:=sW h.1
  omega
 obtain ⟨r,p5,nV,OB⟩:=LJ (yc ps) (by omega)
 rw[p5]
 simp only[Option.bind_some]
 have rr:r.length<=192:=by have:=nV.length_eq;omega
 have Pr:=nV.trans Nj
 have Xq:(r.map λx=>rk x.1).Nodup↔((c_ ps).map λx=>rk (bS x)).Nodup:=by
  have h1:(r.map λx=>rk x.1).Perm (((c_ ps).map i7).map λx=>rk x.1):=Pr.map _
  rw[h1.nodup_iff,List.map_map]
  exact Iff.rfl
 refine (LK ps k hk r rr).trans ?_
 by_cases og:((c_ ps).map λx=>rk (bS x)).Nodup
 all_goals grind [Kg,EG,GQ,Kd,Ke]
theorem yE (ps:aH) (hp:∀ p ∈ ps,p.length<=maxLen):cd.aa (ps,())=some (qD ps,a7 ps,()):=by
 refine aj (k:=300) λk hk=>(cd.af k _).trans ?_
 unfold cd.p qD a7
 by_cases hl:12 < ps.length
 ·grind
 have Aj:¬ ((12:Int) < (ps.length:Int)):=by omega
 simp only[Aj,decide_false,cond_false,hl,if_false]
 have inner:∀ (self:(aH×aH×Int×Int)->Option cd.Out) (e0:aH->Option cd.Out) (i:Nat) (hi:i < ps.length),bQ ps[i]->cd.r1 k self e0 (ps,()) ps ps[i] ps (ps.length:Int) (i:Int) (pn ps[i]:Int) (0:Int)=if (List.range (pn ps[i])).all (pP ps[i]) then self (ps,ps,(ps.length:Int),ag ((i:Int)+1)) else some (([]:List Seen),(5:Int),()):=λself e0 i hi ao=>by
  have hn:=ao.n
  have hlen:=ao.len
  have:=gV (B:=λfO v=>cd.B1 k fO (λz=>cd.Q0 k self e0 (ps,()) ps ps[i] ps (ps.length:Int) (i:Int) (pn ps[i]:Int) z) (ps,()) ps ps[i] ps (ps.length:Int) (i:Int) (pn ps[i]:Int) v) (pn ps[i]) (λ(_:Unit) (j:Int)=>j) (λj _=>if pP ps[i] j then .inr () else .inl (some (([]:List Seen),(5:Int),()))) (λ_=>self (ps,ps,(ps.length:Int),ag ((i:Int)+1))) (λ_ _=>True) (by omega)
   (λj hj s fO hI=>by
    show cd.b1 _ _ _ _ _ _ _ _ _ _=_
    unfold cd.b1 pP
    have av:(j:Int) < (pn ps[i]:Int):=by omega
    simp only[av,decide_true,cond_true,pN ao,hj,Bool.true_and,Option.bind_some]
    by_cases hz:au ps[i] j=0
    ·grind
    ·simp only[hz,decide_false,Bool.not_false,cond_true,ri ao hj,ww _ (Nat.le_trans (oo ao hj) (by omega)),Option.bind_some,Bool.false_or]
     grind [vU])
   (λ_ _ _ _ _ _=>trivial) (λs fO hI=>by
    show cd.b1 _ _ _ _ _ _ _ _ _ _=_
    unfold cd.b1
    simp only[Int.lt_irrefl,decide_false,cond_false]
    rfl) () trivial k (by omega)
  rw[mP] at this
  exact this
 have outer:cd.r0 k (ps,()) (ps,ps,(ps.length:Int),(0:Int))=if iC oq ps=0 then cd.Q1 k (ps,()) ps else some (([]:List Seen),iC oq ps,()):=by
  have:=eo (B:=λself v=>cd.B0 k self (λz=>cd.Q1 k (ps,()) z) (ps,()) v) ps (λ(_:Unit) (i:Int)=>(ps,ps,(ps.length:Int),i)) (λi _ p=>if oq p=0 then .inr () else .inl (some (([]:List Seen),oq p,()))) (λ_=>cd.Q1 k (ps,()) ps) (λ_ _=>True) (by rw[aL];omega)
   (λi hi s self hI=>by
    show cd.b0 _ _ _ _ _=_
    unfold cd.b0 oq
    have av:(i:Int) < (ps.length:Int):=by omega
    simp only[av,decide_true,cond_true,Int.natCast_nonneg,if_true,Int.toNat_natCast,List.getElem?_eq_getElem hi,Option.bind_some,qz _ (hp _ (List.getElem_mem hi))]
    by_cases h0:pL ps[i]=0
    ·have ao:=lh.1 h0
     rw[decide_eq_true h0]
     simp only[Bool.not_true,cond_false,l7 ao.len,Option.bind_some,inner self _ i hi ao,h0,if_true]
     grind
    grind)
   (λ_ _ _ _ _ _=>trivial) (λs self _=>by
    show cd.b0 _ _ _ _ _=_
    grind [cd.b0]) () trivial k (by omega)
  rw[vD oq (λc=>some (([]:List Seen),c,())) (λ_=>cd.Q1 k (ps,()) ps)] at this
  exact this
 rw[outer]
 by_cases hc:iC oq ps=0
 ·simp only[hc,if_true]
  show cd.q1 _ _=_
  unfold cd.q1
  rw[FO ps (EF (by omega) hc)]
  rfl
 grind
end OT
set_option linter.unusedVariables false
set_option linter.unusedSimpArgs false
set_option linter.unusedSectionVars false
namespace OT
open Go
structure nS (ps:aH):Prop where
 right:eA ps
 cells:rV ps
 Nk:(aT ps).all (ja ps)=true
 TG:((aT ps).filterMap pQ).Nodup
 keys:((c_ ps).map λx=>rk (bS x)).Nodup
 list:qD ps=vV ((c_ ps).map i7)
theorem dv {ps:aH} (h:a7 ps=0):nS ps:=by
 obtain ⟨h1,U,h3⟩:=jV h
 have hc:=EF h1.1 U
 unfold tR at h3
 split at h3
 ·rename_i J
  split at h3
  ·rename_i a2
   split at h3
   ·rename_i a3
    exact ⟨h1,hc,J,a2,a3,by unfold qD;rw[if_pos h]⟩
   ·cases h3
  ·cases h3
 ·cases h3
theorem AI {ps:aH} (h:nS ps):(qD ps).Perm ((c_ ps).map i7):=by rw[h.list];exact AH _
theorem xw {ps:aH} (h:nS ps):(qD ps).length<=192:=by
 have:=(AI h).length_eq
 rw[List.length_map] at this
 have:=sW h.right
 omega
def aq (ps:aH):List Row:=(qD ps).map (·.1)
theorem ny {ps:aH} (h:nS ps):aq ps=AD ((c_ ps).map bS):=by
 unfold aq
 rw[h.list,Cl,List.map_map]
 rfl
theorem gb {ps:aH} (h:nS ps):up (aq ps):=by
 rw[ny h]
 refine EB ?_
 rw[List.map_map]
 exact h.keys
theorem yF (l:List Seen) (hl:l.length<=1000):fM.aa (l,())=some (l.map (·.1),()):=by
 refine aj (k:=1100) λq hq=>(fM.af q _).trans ?_
 have:=d9 (B:=λself v=>fM.B0 q self (λz=>fM.Q0 q (l,()) z) (l,()) v) l (λ(s:List Row) (i:Int)=>(s,i)) (λ_ s x=>.inr (s++[x.1])) (λs=>(s,())) (λi s=>s.length=i) (by rw[aL];omega)
  (λi hi s self hs=>by
   show fM.b0 _ _ _ _=_
   unfold fM.b0
   have av:(i:Int) < (l.length:Int):=by omega
   rw[decide_eq_true av,cond_true,if_pos (Int.natCast_nonneg i)]
   simp only[Int.toNat_natCast,List.getElem?_eq_getElem hi,Option.bind_some]
   rw[if_pos (dR (by simp only[List.length_cons,List.length_nil];omega))])
  (λi hi s s' hs hf=>by injection hf with hf;subst hf;simp[hs]) (λs self _=>by
   show fM.b0 _ _ _ _=_
   unfold fM.b0
   rw[decide_eq_false (Int.lt_irrefl _),cond_false]
   rfl) [] rfl q (by omega)
 rw[fi (g:=λ(s:List Row) (x:Seen)=>s++[x.1])] at this
 refine this.trans ?_
 have hm:∀ (xs:List Seen) (s:List Row),xs.foldl (λs x=>s++[x.1]) s=s++xs.map (·.1):=by
  intro xs
  induction xs with
  | nil=>intro s;simp
  | cons x xs ih=>intro s;rw[List.foldl_cons,ih];simp
 rw[hm,List.nil_append]
theorem wx {ps:aH} (h:a7 ps=0):di.aa (ps,())=some (aq ps,()):=by
 have hr:=jV h
 have hl:=sW hr.1
 refine aj (k:=300) λk hk=>(di.af k _).trans ?_
 unfold di.p
 rw[uk ps hr.1]
 simp only[Option.bind_some]
 have:=d9 (B:=λself v=>di.B0 k self (λz=>di.Q0 k (ps,()) (c_ ps) z) (ps,()) (c_ ps) v) (c_ ps) (λ(s:List Row) (i:Int)=>(s,i)) (λ_ s x=>.inr (gf s (bS x))) (λs=>(s,())) (λi s=>s.length<=i) (by rw[aL];omega)
  (λi hi s self hs=>by
   show di.b0 _ _ _ _ _=_
   unfold di.b0
   have av:(i:Int) < ((c_ ps).length:Int):=by omega
   rw[decide_eq_true av,cond_true,if_pos ⟨Int.natCast_nonneg i,av⟩]
   simp only[Int.toNat_natCast,List.getElem?_eq_getElem hi,Option.bind_some]
   rw[rO _ _ (by omega)]
   rfl)
  (λi hi s s' hs hf=>by
   injection hf with hf
   subst hf
   unfold gf
   simp only[List.length_append,List.length_take,List.length_drop,List.length_cons,List.length_nil]
   omega) (λs self _=>by
   show di.b0 _ _ _ _ _=_
   unfold di.b0
   rw[decide_eq_false (Int.lt_irrefl _),cond_false]
   rfl) [] (Nat.le_refl 0) k (by omega)
 rw[fi (g:=λ(s:List Row) (x:ai)=>gf s (bS x))] at this
 refine this.trans ?_
 rw[ny (dv h)]
 unfold AD
 rw[List.foldl_map]
end OT
set_option linter.unusedVariables false
set_option linter.unusedSimpArgs false
set_option linter.unusedSectionVars false
namespace OT
open Go
theorem EJ {p:List UInt8} {i n:Nat} (h:pb p i=n) (hn:n < 256):p.set i (UInt8.ofNat n)=p:=by
 grind [sP,List.length_set,lV,ofNat_toNat]
theorem mu (n:Nat):UInt8.ofInt ((n:Nat):Int)=UInt8.ofNat n:=by
 refine UInt8.toNat_inj.1 ?_
 grind [UInt8.toNat_ofNat',UInt8.ofInt]
theorem vX {O:Type} (p:List UInt8) (g:Nat->O):∀ (m a i:Nat),cS (λ_ (_:Unit) (x:Nat)=>if au p x=0 then .inl (g x) else .inr ()) (λ_=>g (a+m)) i (List.range' a m) ()=g (nw p m a)
 | 0,a,i=>rfl
 | m+1,a,i=>by
  rw[List.range'_succ]
  simp only[cS,nw]
  by_cases h:au p a=0
  ·grind
  ·simp only[h,if_false]
   have:=vX p g m (a+1) (i+1)
   grind
theorem xx (p:List UInt8) (b:Int):∀ n,(List.range n).foldl (λs x=>s - (au p x:Int)) b=b - (fW p n:Int)
 | 0=>by simp[fW]
 | n+1=>by rw[List.range_succ,List.foldl_append,xx p b n];grind [fW]
theorem BG (p:List UInt8):∀ n,fW p n<=256*n
 | 0=>by simp[fW]
 | n+1=>by have:=BG p n;grind [fE,fW,au]
section
variable {p:List UInt8} (hp:bQ p)
include hp
theorem EK:d_.aa (p,())=some ((cg p:Int),()):=by
 have hn:=hp.n
 refine aj (k:=100) λk hk=>(d_.af k _).trans ?_
 have:=gV (B:=λself v=>d_.B0 k self (λz=>d_.Q0 k (p,()) z) (p,()) v) (pn p) (λ(_:Unit) (i:Int)=>i) (λx _=>if au p x=0 then .inl (some ((x:Int),())) else .inr ()) (λ_=>some ((pn p:Int),())) (λ_ _=>True) (by omega)
  (λi hi s self _=>by
   show d_.b0 _ _ _ _=_
   unfold d_.b0
   have av:(i:Int) < (pn p:Int):=by omega
   simp only[gw hp.len,Option.bind_some,av,decide_true,cond_true,jf hp.len (show i < 16 by omega)]
   grind)
  (λ_ _ _ _ _ _=>trivial) (λs self _=>by
   show d_.b0 _ _ _ _=_
   unfold d_.b0
   simp only[gw hp.len,Option.bind_some,Int.lt_irrefl,decide_false,cond_false]
   show d_.q0 _ _=_
   unfold d_.q0
   simp only[gw hp.len,Option.bind_some]) () trivial k (by omega)
 refine this.trans ?_
 rw[List.range_eq_range']
 have U:=vX p (λn=>(some ((n:Int),()):Option d_.Out)) (pn p) 0 0
 simp only[Nat.zero_add] at U
 exact U
theorem yG:et.aa (p,())=some (kK p,()):=by
 have hn:=hp.n
 have hw:ag ((62:Int) - ag ((2:Int)*(pn p:Int)))=62 - 2*(pn p:Int):=by grind [ba]
 refine aj (k:=100) λk hk=>(et.af k _).trans ?_
 unfold et.p
 simp only[gw hp.len,Option.bind_some,hw]
 have:=gV (B:=λself v=>et.B0 k self (λz=>et.Q0 k (p,()) z) (p,()) v) (pn p) (λ(s:Int) (i:Int)=>(s,i)) (λx s=>.inr (s - (au p x:Int))) (λs=>some (s,())) (λi s=>s=62 - 2*(pn p:Int) - (fW p i:Int)) (by omega)
  (λi hi s self hs=>by
   show et.b0 _ _ _ _=_
   unfold et.b0
   have av:(i:Int) < (pn p:Int):=by omega
   have h1:=fE p (3+2*i)
   have U:=BG p i
   have h3:au p i < 256:=h1
   simp only[gw hp.len,Option.bind_some,av,decide_true,cond_true,jf hp.len (show i < 16 by omega)]
   grind [ba])
  (λi hi s s' hs hf=>by grind [fW]) (λs self _=>by
   show et.b0 _ _ _ _=_
   unfold et.b0
   simp only[gw hp.len,Option.bind_some,Int.lt_irrefl,decide_false,cond_false]
   rfl) (62 - 2*(pn p:Int)) (by simp[fW]) k (by omega)
 rw[fi (g:=λs x=>s - (au p x:Int)),xx] at this
 exact this
theorem yH:ew.aa (p,())=some (kK p,()):=by
 have hn:=hp.n
 have hw:ag ((62:Int) - ag ((2:Int)*(pn p:Int)))=62 - 2*(pn p:Int):=by grind [ba]
 refine aj (k:=100) λk hk=>(ew.af k _).trans ?_
 unfold ew.p
 simp only[l7 hp.len,Option.bind_some,hw]
 have:=gV (B:=λself v=>ew.B0 k self (λz=>ew.Q0 k (p,()) (pn p:Int) z) (p,()) (pn p:Int) v) (pn p) (λ(s:Int) (i:Int)=>(s,i)) (λx s=>.inr (s - (au p x:Int))) (λs=>some (s,())) (λi s=>s=62 - 2*(pn p:Int) - (fW p i:Int)) (by omega)
  (λi hi s self hs=>by
   show ew.b0 _ _ _ _ _=_
   unfold ew.b0
   have av:(i:Int) < (pn p:Int):=by omega
   have h1:=fE p (3+2*i)
   have U:=BG p i
   have h3:au p i < 256:=h1
   simp only[Option.bind_some,av,decide_true,cond_true,sQ hp.len (show i < 16 by omega)]
   grind [ba])
  (λi hi s s' hs hf=>by grind [fW]) (λs self _=>by
   show ew.b0 _ _ _ _ _=_
   unfold ew.b0
   simp only[Option.bind_some,Int.lt_irrefl,decide_false,cond_false]
   rfl) (62 - 2*(pn p:Int)) (by simp[fW]) k (by omega)
 rw[fi (g:=λs x=>s - (au p x:Int)),xx] at this
 exact this
end
theorem pS {p c:List UInt8} {s a:Nat} (hp:p.length=64) (hs:s < 16) (h:a+c.length<=64):dK.aa (p,(s:Int),(a:Int),c,())=some (fl p s a c,()):=by
 refine aj (k:=0) λk _=>(dK.af k _).trans ?_
 show dK.p _=_
 unfold dK.p fl
 have h1:(0:Int)<=(a:Int)/\(a:Int)<=(p.length:Int):=by omega
 have hm:min c.length (p.length - a)=c.length:=by omega
 have hl:(jc p a c.length c).length=64:=by grind [ls]
 grind [uJ,Ck,mu]
theorem sX {p c:List UInt8} {s a:Nat} (hp:p.length=64) (hs:s < 16) (h:a+c.length<=64):gF.aa (p,(s:Int),(a:Int),c,())=some (fl p s a c,()):=by
 refine aj (k:=0) λk _=>(gF.af k _).trans ?_
 show gF.p _=_
 unfold gF.p fl
 have h1:(0:Int)<=(a:Int)/\(a:Int)<=(p.length:Int):=by omega
 have hm:min c.length (p.length - a)=c.length:=by omega
 have hl:(jc p a c.length c).length=64:=by grind [ls]
 grind [gU,Int.toNat_natCast,uJ,Ck,mu]
section
variable {p:List UInt8} (hp:bQ p) (c:List UInt8) (fj:1<=c.length) (hc:c.length<=20)
include hp fj hc
theorem EL:∀ m:Nat,mp p=m->m<=1->¬ (cg p=pn p/\16<=pn p)->cg p < 16->∀ (d:Int),d=2*(m:Int)->∀ (e:Int),e=((pn p+m:Nat):Int) ->
   (bif decide (kK p < ag ((c.length:Int)+d)) then (some (([]:List UInt8),(0:Int),(9:Int),()):Option cu.Out) else
    bif decide (ag ((bJ p:Int) - (c.length:Int)) < ag ((2:Int)+ag ((2:Int)*e))) then some (([]:List UInt8),(0:Int),(8:Int),()) else
     if 0<=(0:Int)/\(0:Int) < (p.length:Int) then ((p[0]?).bind λM3=>if 0<=(1:Int)/\(1:Int) < ((p.set 0 (UInt8.ofInt e)).length:Int) then (((p.set 0 (UInt8.ofInt e))[1]?).bind λPx=>(dK.aa ((p.set 0 (UInt8.ofInt e)).set 1 (UInt8.ofInt (ag ((bJ p:Int) - (c.length:Int)))),(cg p:Int),ag ((bJ p:Int) - (c.length:Int)),c,())).bind λJV=>some (JV.1,(cg p:Int),(0:Int),())) else none) else none) =
    some (if fN p c=0 then jH p c else [],if fN p c=0 then (cg p:Int) else 0,fN p c,()):=by
 intro m hm wi iz he d hd e VO
 have hn:=hp.n
 have oc:=hp.lo
 have yt:=hp.hi
 obtain ⟨e1,e2,e3⟩:=mO p
 obtain ⟨f1,f2⟩:=uI hp
 subst hd;subst VO
 unfold fN
 rw[if_neg iz,hm]
 have w1:ag ((c.length:Int)+2*(m:Int))=(c.length:Int)+2*(m:Int):=ba (by omega)
 rw[w1]
 by_cases c1:kK p < (c.length:Int)+2*(m:Int)
 ·grind
 have w2:ag ((bJ p:Int) - (c.length:Int))=(bJ p:Int) - (c.length:Int):=ba (by omega)
 have w3:ag ((2:Int)+ag ((2:Int)*((pn p+m:Nat):Int)))=((2+2*(pn p+m):Nat):Int):=uJ (by omega)
 simp only[c1,decide_false,cond_false,if_false,w2,w3]
 by_cases c2:bJ p < 2+2*(pn p+m)+c.length
 ·grind
 have n2:¬ ((bJ p:Int) - (c.length:Int) < ((2+2*(pn p+m):Nat):Int)):=by omega
 have hl:=hp.len
 have g1:(0:Int)<=0/\(0:Int) < (p.length:Int):=by omega
 have g2:(0:Int)<=1/\(1:Int) < (p.length:Int):=by omega
 have w4:(bJ p:Int) - (c.length:Int)=((bJ p - c.length:Nat):Int):=by omega
 have n4:¬ (((bJ p - c.length:Nat):Int) < ((2+2*(pn p+m):Nat):Int)):=by omega
 simp only[c2,n4,decide_false,cond_false,if_false,g1,g2,and_self,if_true,List.length_set,w4,mu]
 rw[ci (by omega),ci (by grind)]
 rw[pS (by grind) he (by omega)]
 simp only[Option.bind_some]
 have:fl ((p.set 0 (UInt8.ofNat (pn p+m))).set 1 (UInt8.ofNat (bJ p - c.length))) (cg p) (bJ p - c.length) c=jH p c:=by
  unfold jH
  rw[hm]
  have rx:(fl p (cg p) (bJ p - c.length) c).length=64:=jw hl _ (by omega)
  refine sP ?_ λj hj=>?_
  all_goals grind [jw,qg,lV]
 rw[this]
theorem uP:cu.aa (p,c,())=some (if fN p c=0 then jH p c else [],if fN p c=0 then (cg p:Int) else 0,fN p c,()):=by
 have hn:=hp.n
 have oc:=hp.lo
 have yt:=hp.hi
 obtain ⟨e1,e2,e3⟩:=mO p
 refine aj (k:=0) λk _=>(cu.af k _).trans ?_
 show cu.p _=_
 unfold cu.p
 obtain ⟨f1,f2⟩:=uI hp
 simp only[EK hp,gw hp.len,yG hp,ya hp.len,lw p (by have:=hp.len;omega),Option.bind_some]
 by_cases he:cg p=pn p
 ·have z_:(cg p:Int)=(pn p:Int):=by omega
  rw[decide_eq_true z_,cond_true]
  by_cases P6:16<=pn p
  ·grind [fN]
  ·have LM:¬ (16:Int)<=(pn p:Int):=by omega
   simp only[LM,decide_false,cond_false]
   have hw:ag ((pn p:Int)+1)=((pn p+1:Nat):Int):=by grind [ba]
   have:=EL hp c fj hc 1 (by grind [mp]) (by omega) (λh=>P6 h.2) (by omega) 2 (by omega) (ag ((pn p:Int)+1)) hw
   exact this
 ·have z_:¬ ((cg p:Int)=(pn p:Int)):=by omega
  simp only[z_,decide_false,cond_false]
  exact EL hp c fj hc 0 (by grind [mp]) (by omega) (λh=>he h.1) (by omega) 0 (by omega) (pn p:Int) (by omega)
end
end OT
set_option linter.unusedVariables false
set_option linter.unusedSimpArgs false
set_option linter.unusedSectionVars false
namespace OT
open Go
section
variable {p:List UInt8} (hp:bQ p) (c:List UInt8) (fj:1<=c.length) (hc:c.length<=20)
include hp fj hc
theorem xy:fw.aa (p,c,())=some ((0:Int),()):=by
 refine aj (k:=0) λk _=>(fw.af k _).trans ?_
 show fw.p _=_
 unfold fw.p
 rw[qz p (by rw[hp.len,aL];omega),lh.2 hp]
 grind
theorem vY:cM.aa (p,c,())=some ((fN p c,if fN p c=0 then (cg p:Int) else 0,if fN p c=0 then jH p c else [],()),()):=by
 have hn:=hp.n
 have oc:=hp.lo
 have yt:=hp.hi
 have hl:=hp.len
 obtain ⟨e1,e2,e3⟩:=mO p
 obtain ⟨f1,f2⟩:=uI hp
 refine aj (k:=100) λk hk=>(cM.af k _).trans ?_
 unfold cM.p
 simp only[xy hp c fj hc,l7 hp.len,Option.bind_some,decide_true,Bool.not_true,cond_false]
 have:=gV (B:=λself v=>cM.B0 k self (λz=>cM.Q0 k (p,c,()) (pn p:Int) z) (p,c,()) (pn p:Int) v) (pn p) (λ(_:Unit) (i:Int)=>i) (λx _=>if au p x=0 then .inl (cM.Q0 k (p,c,()) (pn p:Int) (x:Int)) else .inr ()) (λ_=>cM.Q0 k (p,c,()) (pn p:Int) (pn p:Int)) (λ_ _=>True) (by omega)
  (λi hi s self _=>by
   show cM.b0 _ _ _ _ _=_
   unfold cM.b0
   have av:(i:Int) < (pn p:Int):=by omega
   simp only[av,decide_true,cond_true,Ck (show i < 1000 by omega),Int.natCast_nonneg,if_true,Int.toNat_natCast,ci (show 3+2*i < p.length by omega),(dF (show 3+2*i < p.length by omega)).2]
   grind [au])
  (λ_ _ _ _ _ _=>trivial) (λs self _=>by
   grind [cM.b0]) () trivial k (by omega)
 refine this.trans ?_
 rw[List.range_eq_range']
 have U:=vX p (λn=>cM.Q0 k (p,c,()) (pn p:Int) (n:Int)) (pn p) 0 0
 simp only[Nat.zero_add] at U
 refine U.trans ?_
 show cM.q0 _ _ (cg p:Int)=_
 unfold cM.q0
 simp only[yH hp,Option.bind_some,ci (show 1 < p.length by omega),(dF (show 1 < p.length by omega)).2,tM]
 show (bif decide ((cg p:Int)=(pn p:Int)) then _ else _)=_
 have key:∀ m:Nat,mp p=m->m<=1->¬ (cg p=pn p/\16<=pn p)->cg p < 16->∀ (d:Int),d=2*(m:Int) ->
   (bif decide (kK p < ag ((c.length:Int)+d)) then (some (((9:Int),(0:Int),([]:List UInt8),()),()):Option cM.Out) else
    bif decide (ag ((bJ p:Int) - (ag ((ag ((2:Int)+(ag ((2:Int)*(pn p:Int)))))+d))) < (c.length:Int)) then some (((8:Int),(0:Int),([]:List UInt8),()),()) else
     (gF.aa (p,(cg p:Int),ag ((bJ p:Int) - (c.length:Int)),c,())).bind λmT=>if 0<=(0:Int)/\(0:Int) < (mT.1.length:Int) then ((mT.1[0]?).bind λPy=>let zd:=mT.1.set 0 (UInt8.ofInt (ag ((pn p:Int)+(ag (d.tdiv (2:Int))))));if 0<=(1:Int)/\(1:Int) < (zd.length:Int) then ((zd[1]?).bind λTs=>let Lt:=zd.set 1 (UInt8.ofInt (ag ((bJ p:Int) - (c.length:Int))));some (((0:Int),(cg p:Int),Lt,()),())) else none) else none) =
    some ((fN p c,if fN p c=0 then (cg p:Int) else 0,if fN p c=0 then jH p c else [],()),()):=by
  intro m hm wi iz he d hd
  subst hd
  unfold fN
  rw[if_neg iz,hm]
  have w1:ag ((c.length:Int)+2*(m:Int))=(c.length:Int)+2*(m:Int):=ba (by omega)
  rw[w1]
  by_cases c1:kK p < (c.length:Int)+2*(m:Int)
  ·grind
  have w2:ag ((bJ p:Int) - (c.length:Int))=(bJ p:Int) - (c.length:Int):=ba (by omega)
  have w3:ag ((bJ p:Int) - (ag ((ag ((2:Int)+ag ((2:Int)*(pn p:Int))))+2*(m:Int))))=(bJ p:Int) - ((2+2*(pn p+m):Nat):Int):=by
   grind [ba]
  have w5:ag ((pn p:Int)+ag ((2*(m:Int)).tdiv 2))=((pn p+m:Nat):Int):=by
   grind [ba]
  simp only[c1,decide_false,cond_false,if_false,w2,w3,w5]
  grind [jw,sX,mu,jH]
 by_cases he:cg p=pn p
 ·have z_:(cg p:Int)=(pn p:Int):=by omega
  rw[decide_eq_true z_,cond_true]
  by_cases P6:pn p=16
  ·grind [fN]
  ·have LM:¬ (pn p:Int)=16:=by omega
   rw[decide_eq_false LM,cond_false]
   have:=key 1 (by grind [mp]) (by omega) (λh=>P6 (by omega)) (by omega) 2 (by omega)
   exact this
 ·have z_:¬ ((cg p:Int)=(pn p:Int)):=by omega
  simp only[z_,decide_false,cond_false]
  exact key 0 (by grind [mp]) (by omega) (λh=>he h.1) (by omega) 0 (by omega)
variable {s:Nat} (hs:s < pn p) (hz:au p s≠0)
include hs hz
theorem vZ:gS.aa (p,(s:Int),c,())=some (if jT p s c=0 then pM p s c else [],jT p s c,()):=by
 have hn:=hp.n
 have oc:=hp.lo
 have yt:=hp.hi
 have hl:=hp.len
 obtain ⟨f1,f2⟩:=uI hp
 obtain ⟨s1,s2⟩:=hp.slot s hs hz
 refine aj (k:=0) λk _=>(gS.af k _).trans ?_
 show gS.p _=_
 unfold gS.p jT pM
 simp only[jf hl (show s < 16 by omega),lw p (by omega),qS hl (show s < 16 by omega),yG hp,ya hl,gw hl,Option.bind_some]
 by_cases c1:c.length<=au p s
 ·grind [ba,pS]
 have P7:¬ (c.length:Int)<=(au p s:Int):=by omega
 have w2:ag (kK p+(au p s:Int))=kK p+(au p s:Int):=ba (by omega)
 simp only[c1,P7,decide_false,cond_false,if_false,w2]
 by_cases c2:kK p+(au p s:Int) < (c.length:Int)
 ·grind
 have w3:ag ((bJ p:Int) - (c.length:Int))=(bJ p:Int) - (c.length:Int):=ba (by omega)
 simp only[c2,decide_false,cond_false,if_false,w3,uJ (show pn p < 1000 by omega)]
 by_cases c3:bJ p < 2+2*pn p+c.length
 ·grind
 have n3:¬ ((bJ p:Int) - (c.length:Int) < ((2+2*pn p:Nat):Int)):=by omega
 have w4:(bJ p:Int) - (c.length:Int)=((bJ p - c.length:Nat):Int):=by omega
 have n4:¬ (((bJ p - c.length:Nat):Int) < ((2+2*pn p:Nat):Int)):=by omega
 have g2:(0:Int)<=1/\(1:Int) < (p.length:Int):=by omega
 simp only[c3,n4,decide_false,cond_false,if_false,w4,g2,and_self,if_true,mu]
 rw[ci (by omega),pS (by grind) (by omega) (by omega)]
 simp only[Option.bind_some]
 have:fl (p.set 1 (UInt8.ofNat (bJ p - c.length))) s (bJ p - c.length) c=(fl p s (bJ p - c.length) c).set 1 (UInt8.ofNat (bJ p - c.length)):=by
  have rx:(fl p s (bJ p - c.length) c).length=64:=jw hl _ (by omega)
  refine sP ?_ λj hj=>?_
  all_goals grind [jw,qg,lV]
 rw[this]
theorem AJ:iH.aa (p,(s:Int),c,())=some ((jT p s c,if jT p s c=0 then (s:Int) else 0,if jT p s c=0 then pM p s c else [],()),()):=by
 have hn:=hp.n
 have oc:=hp.lo
 have yt:=hp.hi
 have hl:=hp.len
 obtain ⟨f1,f2⟩:=uI hp
 obtain ⟨s1,s2⟩:=hp.slot s hs hz
 refine aj (k:=0) λk _=>(iH.af k _).trans ?_
 show iH.p _=_
 unfold iH.p jT pM
 have pk:(decide (s < pn p)&&!decide (au p s=0))=true:=by simp[hs,hz]
 simp only[xy hp c fj hc,pN hp s,pk,sQ hl (show s < 16 by omega),yH hp,l7 hl,Option.bind_some,decide_true,Bool.not_true,cond_false,ci (show 1 < p.length by omega),(dF (show 1 < p.length by omega)).2,tM]
 by_cases c1:c.length<=au p s
 ·grind [ba,sX]
 have P7:¬ (c.length:Int)<=(au p s:Int):=by omega
 have w2:ag (kK p+(au p s:Int))=kK p+(au p s:Int):=ba (by omega)
 simp only[c1,P7,decide_false,cond_false,if_false,w2]
 by_cases c2:kK p+(au p s:Int) < (c.length:Int)
 ·grind
 have e1:pb p 1=bJ p:=rfl
 grind [ba,jw,sX,mu]
end
def rP (v:List UInt8):List UInt8:=v.set 0 (UInt8.ofNat (mq v (pn v)))
theorem AK {v w:List UInt8} (h:∀ i,au v i=au w i):∀ m,mq v m=mq w m
 | 0=>rfl
 | m+1=>by simp only[mq,h,AK h m]
theorem Cn {v:List UInt8} (hl:v.length=64) (h0:0 < pn v) (hz:au v (pn v - 1)=0):rP (v.set 0 (UInt8.ofNat (pn v - 1)))=rP v/\pn (v.set 0 (UInt8.ofNat (pn v - 1)))=pn v - 1:=by
 have av:pn v < 256:=fE v 0
 have yA:pn (v.set 0 (UInt8.ofNat (pn v - 1)))=pn v - 1:=by
  show pb _ 0=_
  grind [lV,ofNat_toNat]
 refine ⟨?_,yA⟩
 have hs:∀ i,au (v.set 0 (UInt8.ofNat (pn v - 1))) i=au v i:=λi=>by
  show pb _ _=pb _ _
  grind [lV]
 unfold rP
 rw[yA,AK hs,List.set_set]
 obtain ⟨n,hn⟩:∃ n,pn v=n+1:=⟨pn v - 1,by omega⟩
 grind [mq]
theorem tT {v:List UInt8} (h:pn v=0\/au v (pn v - 1)≠0):rP v=v:=by
 grind [rP,EJ,pn,vM,fE]
theorem GS {v:List UInt8} (hl:v.length=64) (h0:0 < pn v):UInt8.ofInt ((((v[0]'(by omega)).toNat:Nat):Int) - 1)=UInt8.ofNat (pn v - 1):=by
 have h1:(v[0]'(by omega)).toNat=pn v:=(dF (show 0 < v.length by omega)).2
 grind [mu]
section
variable {p:List UInt8} (hp:bQ p) {s:Nat} (hs:s < pn p)
include hp hs
theorem Co:(li p s).length=64:=by unfold li;rw[List.length_set,List.length_set,hp.len]
theorem zl:pn (li p s)=pn p:=by
 show pb _ 0=pb _ 0
 grind [li,lV]
theorem AL:jC p s=rP (li p s):=by grind [jC,rP,zl]
theorem yI:fY.aa (p,(s:Int),())=some (jC p s,()):=by
 have hn:=hp.n
 have hl:=hp.len
 refine aj (k:=100) λk hk=>(fY.af k _).trans ?_
 unfold fY.p
 have i2:(0:Int)<=((2+2*s:Nat):Int)/\((2+2*s:Nat):Int) < (p.length:Int):=by omega
 have i3:(0:Int)<=((3+2*s:Nat):Int)/\((3+2*s:Nat):Int) < (p.length:Int):=by omega
 simp only[lw p (by omega),Option.bind_some,uJ (show s < 1000 by omega),Ck (show s < 1000 by omega),i2,i3,and_self,if_true,Int.toNat_natCast,List.length_set]
 rw[ci (by omega),ci (by grind),AL hp hs]
 have hd:=zl hp hs
 refine pw (λv=>(rP v,())) (λv=>v.length=64/\pn v<=16) pn (λv ⟨hv,RU⟩ self=>?_) k (li p s) ⟨Co hp hs,by omega⟩ (by omega)
 show fY.b0 _ _ _ _=_\/∃ v',fY.b0 _ _ _ _=_/\_
 unfold fY.b0
 have g:(0:Int)<=0/\(0:Int) < (v.length:Int):=by omega
 have e0:((v[0]'(by omega)).toNat:Nat)=pn v:=(dF (show 0 < v.length by omega)).2
 simp only[g,and_self,if_true,ci (show 0 < v.length by omega)]
 by_cases h0:pn v=0
 ·left
  have:¬ ((0:Int) < (((v[0]'(by omega)).toNat:Nat):Int)):=by rw[e0];omega
  rw[decide_eq_false this,tT (Or.inl h0)]
  rfl
 have h1:(0:Int) < (((v[0]'(by omega)).toNat:Nat):Int):=by rw[e0];omega
 have hw:ag ((ag (((v[0]'(by omega)).toNat:Nat):Int)) - 1)=((pn v - 1:Nat):Int):=by
  grind [ba]
 rw[decide_eq_true h1,hw,jf hv (show pn v - 1 < 16 by omega)]
 simp only[Option.bind_some,cond_true]
 by_cases hz:au v (pn v - 1)=0
 ·grind [Cn,GS]
 ·left
  have:¬ ((au v (pn v - 1):Int)=0):=by omega
  rw[decide_eq_false this,tT (Or.inr hz)]
  rfl
theorem FQ (hz:au p s≠0):gA.aa (p,(s:Int),())=some (((0:Int),(s:Int),jC p s,()),()):=by
 have hn:=hp.n
 have hl:=hp.len
 refine aj (k:=100) λk hk=>(gA.af k _).trans ?_
 unfold gA.p
 have i2:(0:Int)<=((2+2*s:Nat):Int)/\((2+2*s:Nat):Int) < (p.length:Int):=by omega
 have i3:(0:Int)<=((3+2*s:Nat):Int)/\((3+2*s:Nat):Int) < (p.length:Int):=by omega
 have pk:(decide (s < pn p)&&!decide (au p s=0))=true:=by simp[hs,hz]
 rw[qz p (by grind [aL]),lh.2 hp]
 simp only[gU p (by omega),pN hp s,pk,Option.bind_some,decide_true,Bool.not_true,cond_false,uJ (show s < 1000 by omega),Ck (show s < 1000 by omega),i2,i3,and_self,if_true,Int.toNat_natCast,List.length_set]
 rw[ci (by omega),ci (by grind),AL hp hs]
 have hd:=zl hp hs
 refine pw (λv=>(((0:Int),(s:Int),rP v,()),())) (λv=>v.length=64/\pn v<=16) pn (λv ⟨hv,RU⟩ self=>?_) k (li p s) ⟨Co hp hs,by omega⟩ (by omega)
 show gA.b0 _ _ _ _=_\/∃ v',gA.b0 _ _ _ _=_/\_
 unfold gA.b0
 have g:(0:Int)<=0/\(0:Int) < (v.length:Int):=by omega
 have e0:((v[0]'(by omega)).toNat:Nat)=pn v:=(dF (show 0 < v.length by omega)).2
 simp only[g,and_self,if_true,ci (show 0 < v.length by omega)]
 by_cases h0:pn v=0
 ·left
  have:¬ ((0:Int) < (((v[0]'(by omega)).toNat:Nat):Int)):=by rw[e0];omega
  rw[decide_eq_false this,tT (Or.inl h0)]
  rfl
 have h1:(0:Int) < (((v[0]'(by omega)).toNat:Nat):Int):=by rw[e0];omega
 have hw:ag ((ag ((2:Int)*(ag (((v[0]'(by omega)).toNat:Nat):Int))))+1)=((3+2*(pn v - 1):Nat):Int):=by
  grind [ba]
 have g3:(0:Int)<=((3+2*(pn v - 1):Nat):Int)/\((3+2*(pn v - 1):Nat):Int) < (v.length:Int):=by omega
 rw[decide_eq_true h1,hw]
 simp only[g3,and_self,if_true,Int.toNat_natCast,ci (show 3+2*(pn v - 1) < v.length by omega),(dF (show 3+2*(pn v - 1) < v.length by omega)).2,cond_true]
 show (bif decide ((au v (pn v - 1):Int)=0) then _ else _)=_\/∃ v',(bif decide ((au v (pn v - 1):Int)=0) then _ else _)=_/\_
 by_cases hz:au v (pn v - 1)=0
 ·grind [Cn,GS]
 ·left
  have:¬ ((au v (pn v - 1):Int)=0):=by omega
  rw[decide_eq_false this,tT (Or.inr hz)]
  rfl
end
end OT
set_option linter.unusedVariables false
set_option linter.unusedSimpArgs false
set_option linter.unusedSectionVars false
namespace OT
open Go
theorem P8 (a b:List UInt8) (j:Nat):pb (a++b) j=if j < a.length then pb a j else pb b (j - a.length):=by
 unfold pb
 simp only[List.getD_eq_getElem?_getD]
 split
 ·rename_i h;rw[List.getElem?_append_left h]
 ·rename_i h;rw[List.getElem?_append_right (by omega)]
theorem GT (n j:Nat):pb (List.replicate n (0:UInt8)) j=0:=by
 unfold pb
 simp only[List.getD_eq_getElem?_getD,List.getElem?_replicate]
 split <;> rfl
section
variable {p:List UInt8} (hp:bQ p)
include hp
theorem EM:jc (List.replicate 64 (0:UInt8)) 0 (min ((p.take (2+2*pn p)).drop 0).length (List.replicate 64 (0:UInt8)).length) ((p.take (2+2*pn p)).drop 0)=qy p:=by
 have hn:=hp.n
 have hl:=hp.len
 have ht:(p.take (2+2*pn p)).length=2+2*pn p:=by rw[List.length_take];omega
 rw[List.drop_zero,List.length_replicate,show min (p.take (2+2*pn p)).length 64=(p.take (2+2*pn p)).length by omega]
 refine sP ?_ λj hj=>?_
 ·rw[ls _ _ (by rw[List.length_replicate];omega) (Nat.le_refl _)]
  unfold qy
  rw[List.length_append,List.length_replicate,List.length_replicate];omega
 ·rw[BB (by rw[List.length_replicate];omega)]
  unfold qy
  rw[P8,ht,GT,GT]
  by_cases h:j < 2+2*pn p
  ·rw[if_pos ⟨by omega,by omega⟩,if_pos h,Nat.sub_zero]
  ·rw[if_neg (by omega),if_neg h]
theorem GU {k:Nat} (hk:k < pn p) (hz:au p k≠0):(dG p k).1.length=64/\au p k<=(dG p k).2/\(dG p k).2<=64/\au (dG p k).1 k=au p k/\2+2*pn p<=(dG p k).2 - au p k:=by
 have I:=vP hp k (by omega)
 have zZ:=vL hp
 have hm:=ke p (show k+1<=pn p from hk)
 have oc:=hp.lo
 have ha:=I.a
 simp only[fW] at hm
 exact ⟨I.len,by omega,by omega,I.sz k hk,by omega⟩
theorem EN:(dG p (pn p)).1.length=64/\(dG p (pn p)).2<=64:=by
 have I:=vP hp (pn p) (Nat.le_refl _)
 have ha:=I.a
 exact ⟨I.len,by omega⟩
theorem ul:bU.aa (p,())=some (fF p,()):=by
 have hn:=hp.n
 have hl:=hp.len
 refine aj (k:=100) λk hk=>(bU.af k _).trans ?_
 unfold bU.p
 have g1:(0:Int)<=64/\(64:Int)<=64/\(64:Int)<=(cJ:Int):=by unfold cJ;omega
 have g2:(0:Int)<=((2+2*pn p:Nat):Int)/\((2+2*pn p:Nat):Int)<=(p.length:Int):=by omega
 simp only[gw hl,Option.bind_some,uJ (show pn p < 1000 by omega),g1,g2,and_self,if_true,Int.toNat_natCast]
 rw[EM hp]
 have:=gV (B:=λself v=>bU.B0 k self (λz=>bU.Q0 k (p,()) (pn p:Int) z) (p,()) (pn p:Int) v) (pn p) (λ(s:List UInt8×Nat) (i:Int)=>(s.1,(s.2:Int),i)) (λx s=>.inr (rN p s x)) (λs=>some (s.1.set 1 (UInt8.ofNat s.2),())) (λi s=>s=dG p i) (by omega)
  (λi hi s self hs=>by
   subst hs
   show bU.b0 _ _ _ _ _=_
   unfold bU.b0 rN
   have av:(i:Int) < (pn p:Int):=by omega
   simp only[av,decide_true,cond_true,jf hl (show i < 16 by omega),Option.bind_some]
   by_cases hz:au p i=0
   ·simp only[hz,Int.natCast_zero,decide_true,cond_true,if_true]
   ·have Mw:¬ ((au p i:Int)=0):=by omega
    obtain ⟨c1,c2,c3,c4,c5⟩:=GU hp hi hz
    have qI:=ii hp hi
    have hw:ag (((dG p i).2:Int) - (au p i:Int))=(((dG p i).2 - au p i:Nat):Int):=by rw[ba (by omega)];omega
    simp only[hz,Mw,decide_false,cond_false,if_false,oz hp hi,Option.bind_some,qI,hw,pS c1 (show i < 16 by omega) (show (dG p i).2 - au p i+(dt p i).length<=64 by omega)])
  (λi hi s s' hs hf=>by injection hf with hf;subst hf;rw[hs,vO]) (λs self hs=>by
   subst hs
   obtain ⟨c1,c2⟩:=EN hp
   show bU.b0 _ _ _ _ _=_
   unfold bU.b0
   simp only[Int.lt_irrefl,decide_false,cond_false]
   show bU.q0 _ _ _=_
   unfold bU.q0
   have g:(0:Int)<=1/\(1:Int) < ((dG p (pn p)).1.length:Int):=by omega
   simp only[g,and_self,if_true,mu]
   rw[ci (by omega)]) (qy p,64) rfl k (by omega)
 rw[fi (g:=λs x=>rN p s x)] at this
 exact this
theorem FR:cH.aa (p,())=some (((0:Int),(0:Int),fF p,()),()):=by
 have hn:=hp.n
 have hl:=hp.len
 refine aj (k:=100) λk hk=>(cH.af k _).trans ?_
 unfold cH.p
 have g1:(0:Int)<=64/\(64:Int)<=64/\(64:Int)<=(cJ:Int):=by unfold cJ;omega
 have g2:(0:Int)<=((2+2*pn p:Nat):Int)/\((2+2*pn p:Nat):Int)<=(p.length:Int):=by omega
 rw[qz p (by rw[hp.len,aL];omega),lh.2 hp]
 simp only[l7 hl,Option.bind_some,decide_true,Bool.not_true,cond_false,uJ (show pn p < 1000 by omega),g1,g2,and_self,if_true,Int.toNat_natCast]
 rw[EM hp]
 have:=gV (B:=λself v=>cH.B0 k self (λz=>cH.Q0 k (p,()) (pn p:Int) z) (p,()) (pn p:Int) v) (pn p) (λ(s:List UInt8×Nat) (i:Int)=>(s.1,(s.2:Int),i)) (λx s=>.inr (rN p s x)) (λs=>some (((0:Int),(0:Int),s.1.set 1 (UInt8.ofNat s.2),()),())) (λi s=>s=dG p i) (by omega)
  (λi hi s self hs=>by
   subst hs
   show cH.b0 _ _ _ _ _=_
   unfold cH.b0 rN
   have av:(i:Int) < (pn p:Int):=by omega
   simp only[av,decide_true,cond_true,pN hp i,Option.bind_some]
   by_cases hz:au p i=0
   ·simp only[hz,decide_true,Bool.not_true,Bool.and_false,Bool.not_false,cond_true,if_true]
   ·obtain ⟨c1,c2,c3,c4,c5⟩:=GU hp hi hz
    have qI:=ii hp hi
    have hw:ag (((dG p i).2:Int) - (au p i:Int))=(((dG p i).2 - au p i:Nat):Int):=by rw[ba (by omega)];omega
    have pk:(decide (i < pn p)&&!decide (au p i=0))=true:=by simp[hi,hz]
    have g3:(0:Int)<=(((dG p i).2 - au p i:Nat):Int)/\(((dG p i).2 - au p i:Nat):Int)<=((dG p i).1.length:Int):=by omega
    have hm:min (au p i) ((dG p i).1.length - ((dG p i).2 - au p i))=au p i:=by omega
    have yh:(jc (dG p i).1 ((dG p i).2 - au p i) (au p i) (dt p i)).length=64:=by rw[ls _ _ (by omega) (by omega),c1]
    have g4:(0:Int)<=((2+2*i:Nat):Int)/\((2+2*i:Nat):Int) < ((64:Nat):Int):=by omega
    rw[pk]
    simp only[Bool.not_true,cond_false,if_neg hz,ri hp hi,Option.bind_some,qI,hw,g3,and_self,if_true,Int.toNat_natCast,hm,uJ (show i < 1000 by omega),yh,g4,mu]
    rw[ci (by omega)]
    have bk:fl (dG p i).1 i ((dG p i).2 - au p i) (dt p i)=(jc (dG p i).1 ((dG p i).2 - au p i) (au p i) (dt p i)).set (2+2*i) (UInt8.ofNat ((dG p i).2 - au p i)):=by
     unfold fl
     rw[qI]
     refine EJ ?_ (by omega)
     rw[lV,if_neg (by omega),<- qI,BB (by omega),if_neg (by omega),qI]
     exact c4
    rw[bk])
  (λi hi s s' hs hf=>by injection hf with hf;subst hf;rw[hs,vO]) (λs self hs=>by
   subst hs
   obtain ⟨c1,c2⟩:=EN hp
   show cH.b0 _ _ _ _ _=_
   unfold cH.b0
   simp only[Int.lt_irrefl,decide_false,cond_false]
   show cH.q0 _ _ _=_
   unfold cH.q0
   have g:(0:Int)<=1/\(1:Int) < ((dG p (pn p)).1.length:Int):=by omega
   simp only[g,and_self,if_true,mu]
   rw[ci (by omega)]) (qy p,64) rfl k (by omega)
 rw[fi (g:=λs x=>rN p s x)] at this
 exact this
end
end OT
set_option linter.unusedVariables false
set_option linter.unusedSimpArgs false
namespace OT
open Go
theorem Iu:fx.aa ((0:UInt8),())=some (xj,()):=by
 refine aj (k:=66) λk hk=>(fx.af k _).trans ?_
 unfold fx.p
 have:=d9 (B:=λself v=>fx.B0 0 self (λz=>fx.Q0 0 ((0:UInt8),()) z) ((0:UInt8),()) v) (List.replicate 64 (0:UInt8)) (λ(s:List UInt8) (i:Int)=>(s,i)) (λ_ s _=>.inr s) (λs=>(xj,())) (λ_ s=>s=List.replicate 64 (0:UInt8)) (by rw[aL];simp)
  (λi hi s self hI=>by
   show fx.b0 _ _ _ _=_
   unfold fx.b0
   subst hI
   simp only[List.length_replicate] at hi ⊢
   have av:(i:Int) < ((64:Nat):Int):=by omega
   have gB:(0:Int)<=(i:Int)/\(i:Int) < ((64:Nat):Int):=by omega
   have hg:(List.replicate 64 (0:UInt8))[i]?=some 0:=(List.getElem?_replicate (n:=64) (i:=i) (a:=(0:UInt8))).trans (if_pos hi)
   have hs:(List.replicate 64 (0:UInt8)).set i 0=List.replicate 64 (0:UInt8):=List.set_replicate_self
   simp only[av,gB,and_self,decide_true,cond_true,if_true,Int.toNat_natCast,hg,Option.bind_some,hs])
  (λi hi s s' hI hs=>by injection hs with hs;rw[<-hs,hI]) (λs self hI=>by
   show fx.b0 _ _ _ _=_
   unfold fx.b0
   subst hI
   simp only[List.length_replicate,Int.lt_irrefl,decide_false,cond_false]
   rfl) (List.replicate 64 (0:UInt8)) rfl k (by simp;omega)
 rw[fi (g:=λs _=>s)] at this
 have hc:(0:Int)<=64/\(64:Int)<=64/\(64:Int)<=(cJ:Int):=⟨by omega,by omega,by simp only[cJ];omega⟩
 rw[if_pos hc]
 exact this
theorem v6:c9.aa ((0:UInt8),())=some (xj,()):=by
 refine aj (k:=66) λk hk=>(c9.af k _).trans ?_
 unfold c9.p
 have:=d9 (B:=λself v=>c9.B0 0 self (λz=>c9.Q0 0 ((0:UInt8),()) z) ((0:UInt8),()) v) (List.replicate 64 (0:UInt8)) (λ(s:List UInt8) (i:Int)=>(s,i)) (λ_ s _=>.inr s) (λs=>(xj,())) (λ_ s=>s=List.replicate 64 (0:UInt8)) (by rw[aL];simp)
  (λi hi s self hI=>by
   show c9.b0 _ _ _ _=_
   unfold c9.b0
   subst hI
   simp only[List.length_replicate] at hi ⊢
   have av:(i:Int) < (64:Int):=by omega
   have gB:(0:Int)<=(i:Int)/\(i:Int) < ((64:Nat):Int):=by omega
   have hg:(List.replicate 64 (0:UInt8))[i]?=some 0:=(List.getElem?_replicate (n:=64) (i:=i) (a:=(0:UInt8))).trans (if_pos hi)
   have hs:(List.replicate 64 (0:UInt8)).set i 0=List.replicate 64 (0:UInt8):=List.set_replicate_self
   simp only[av,gB,and_self,decide_true,cond_true,if_true,Int.toNat_natCast,hg,Option.bind_some,hs])
  (λi hi s s' hI hs=>by injection hs with hs;rw[<-hs,hI]) (λs self hI=>by
   show c9.b0 _ _ _ _=_
   unfold c9.b0
   subst hI
   have:¬ (((64:Nat):Int) < 64):=by omega
   simp only[List.length_replicate,this,decide_false,cond_false]
   rfl) (List.replicate 64 (0:UInt8)) rfl k (by simp;omega)
 rw[fi (g:=λs _=>s)] at this
 have hc:(0:Int)<=64/\(64:Int)<=64/\(64:Int)<=(cJ:Int):=⟨by omega,by omega,by simp only[cJ];omega⟩
 rw[if_pos hc]
 exact this
end OT
set_option linter.unusedVariables false
set_option linter.unusedSimpArgs false
set_option linter.unusedSectionVars false
namespace OT
open Go
def cI (ps:aH) (P:Nat):List UInt8:=ps.getD P []
theorem g0 {ps:aH} {P:Nat} (h:P < ps.length):ps[P]?=some (cI ps P):=by
 grind [cI]
theorem EO {ps:aH} {P:Nat} (h:P < ps.length):cI ps P ∈ ps:=List.mem_of_getElem? (g0 h)
theorem ij {ps:aH} (h:eA ps) {P:Nat} (hP:P < ps.length):bQ (cI ps P):=h.2 _ (EO hP)
theorem EP (ps:aH) (P Q:Nat) (b:List UInt8):cI (ps.set P b) Q=if P=Q/\P < ps.length then b else cI ps Q:=by
 grind [cI]
theorem LN (ps:aH) (Q:Nat) (b:List UInt8):cI (ps++[b]) Q=if Q=ps.length then b else cI ps Q:=by
 grind [cI]
def ax (ps:aH) (P s:Nat):List UInt8:=cellOf (cI ps P) s
theorem BH {ps:aH} {P s:Nat} (h:ps.length<=P):ax ps P s=[]:=by
 have:cI ps P=[]:=by grind [cI]
 unfold ax
 rw[this]
 rfl
theorem kG {ps:aH} (h:eA ps) {P s:Nat} (hc:ax ps P s≠[]):P < ps.length/\s < pn (cI ps P)/\au (cI ps P) s≠0:=by
 grind [BH,ax,cellOf,jl,ij]
def da (w:am) (P:Nat) (b:List UInt8):am:=
 if P=List.length w.1 then (w.1++[b],w.2.1++[((P:Int),b,())],())
 else if cI w.1 P=b then w else (List.set w.1 P b,w.2.1++[((P:Int),b,())],())
structure okW (w:am) (n:Nat):Prop where
 cv:eA w.1
 el:List.length w.2.1<=n
 eb:∀ e ∈ (w.2.1:List bW),List.length e.2.1=64
theorem okW.mono {w:am} {n m:Nat} (h:okW w n) (hm:n<=m):okW w m:=⟨h.cv,by have:=h.el;omega,h.eb⟩
theorem lj {w:am} {P:Nat} (hP:P < List.length w.1) (b:List UInt8):(da w P b).1=List.set w.1 P b:=by
 unfold da
 rw[if_neg (by omega)]
 split
 ·rename_i h
  refine List.ext_getElem? λi=>?_
  grind [g0]
 ·rfl
theorem zm (w:am) (b:List UInt8):(da w (List.length w.1) b).1=w.1++[b]:=by
 grind [da]
theorem ql {w:am} {n P:Nat} (h:okW w n) {b:List UInt8} (hb:bQ b) (hP:P<=List.length w.1) (nW:P < 12):okW (da w P b) (n+1):=by
 have hl:=h.el
 have he:∀ e ∈ ((w.2.1++[((P:Int),b,())]):List bW),List.length e.2.1=64:=λe he=>by
  rcases List.mem_append.1 he with he | he
  ·exact h.eb e he
  ·rw[List.mem_singleton.1 he];exact hb.len
 unfold da
 split
 ·rename_i h1
  refine ⟨⟨?_,λp hp=>?_⟩,?_,he⟩
  ·grind
  ·rcases List.mem_append.1 hp with hp | hp
   ·exact h.cv.2 p hp
   grind
  grind
 ·split
  ·exact h.mono (by omega)
  ·refine ⟨⟨?_,λp hp=>?_⟩,?_,he⟩
   ·rw[List.length_set];exact h.cv.1
   ·rcases List.mem_or_eq_of_mem_set hp with hp | hp
    ·exact h.cv.2 p hp
    grind
   grind
theorem nT {w:am} {P:Nat} (hP:P < List.length w.1) (b:List UInt8) (Q s:Nat):ax (da w P b).1 Q s=if Q=P then cellOf b s else ax w.1 Q s:=by
 grind [lj,ax,EP]
theorem kf {w:am} {n P:Nat} (h:okW w n) (hn:n<=1000) {b:List UInt8} (hb:b.length=64) (hP:P<=List.length w.1):c7.aa (w,(P:Int),b,())=some (da w P b,()):=by
 refine aj (k:=0) λk _=>(c7.af k _).trans ?_
 show c7.p _=_
 unfold c7.p da
 have hl:=h.cv.1
 have he:=h.el
 simp only[lw b (by omega),Option.bind_some]
 grind [dR,cI]
theorem lz {w:am} {n P:Nat} (h:okW w n) (hn:n<=1000) {b:List UInt8} (hb:b.length=64) (hP:P<=List.length w.1):co.aa (w,(P:Int),b,())=some (da w P b,()):=by
 refine aj (k:=0) λk _=>(co.af k _).trans ?_
 show co.p _=_
 unfold co.p da
 have hl:=h.cv.1
 have he:=h.el
 simp only[gU b (by omega),Option.bind_some]
 grind [dR,cI]
def gG (w:am) (P:Nat):am:=da w P (fF (cI w.1 P))
theorem v7 {w:am} {P:Nat} (hP:P < List.length w.1):cI (gG w P).1 P=fF (cI w.1 P):=by
 grind [gG,lj,EP]
theorem kg {w:am} {P:Nat} (hP:P < List.length w.1):List.length (gG w P).1=List.length w.1:=by
 grind [gG,lj]
theorem nz {w:am} {n P:Nat} (h:okW w n) (hP:P < List.length w.1):okW (gG w P) (n+1):=
 ql h (kF (ij h.cv hP)).1 (by omega) (by have:=h.cv.1;omega)
theorem ou {w:am} {n P:Nat} (h:okW w n) (hP:P < List.length w.1) (Q s:Nat):ax (gG w P).1 Q s=ax w.1 Q s:=by
 unfold gG
 rw[nT hP]
 split
 ·rename_i hq
  subst hq
  exact (kF (ij h.cv hP)).2.1 s
 ·rfl
theorem xz {w:am} {n P:Nat} (h:okW w n) (hn:n<=1000) (hP:P < List.length w.1):dL.aa (w,(P:Int),())=some (gG w P,()):=by
 refine aj (k:=0) λk _=>(dL.af k _).trans ?_
 show dL.p _=_
 unfold dL.p gG
 have hp:=ij h.cv hP
 have g:(0:Int)<=(P:Int)/\(P:Int) < (List.length w.1:Int):=by omega
 rw[if_pos g]
 simp only[Int.toNat_natCast,g0 hP,Option.bind_some,FR hp,lz h hn (kF hp).1.len (Nat.le_of_lt hP)]
def gd (w:am) (P:Nat) (c:List UInt8):Option Nat×am:=
 if fN (cI w.1 P) c=8 then
  if fN (fF (cI w.1 P)) c=0 then (some (cg (fF (cI w.1 P))),da (gG w P) P (jH (fF (cI w.1 P)) c)) else (none,gG w P)
 else if fN (cI w.1 P) c=0 then (some (cg (cI w.1 P)),da w P (jH (cI w.1 P) c)) else (none,w)
structure P9 (w:am) (n P:Nat) (c:List UInt8) (r:Option Nat×am):Prop where
 ok:okW r.2 (n+2)
 len:List.length r.2.1=List.length w.1
 no:r.1=none->∀ Q s,ax r.2.1 Q s=ax w.1 Q s
 yes:∀ t,r.1=some t->t < 16/\ax w.1 P t=[]/\∀ Q s,ax r.2.1 Q s=if Q=P/\s=t then c else ax w.1 Q s
theorem Cp {p c:List UInt8} (h:bQ p) (hc:fN p c=0):cg p < 16:=by
 have:=(mO p).1
 have:=h.n
 grind [fN]
theorem qm {w:am} {n P:Nat} (h:okW w n) (hP:P < List.length w.1) {c:List UInt8} (hc:1<=c.length):P9 w n P c (gd w P c):=by
 have hp:=ij h.cv hP
 have nW:=h.cv.1
 unfold gd
 split
 ·obtain ⟨q1,q2,q3⟩:=kF hp
  have hw:=nz h hP
  have hl:=kg hP
  split
  ·rename_i h0
   obtain ⟨r1,r2,r3⟩:=nP q1 hc h0
   have P_:P < List.length (gG w P).1:=by omega
   refine ⟨ql hw r1 (by omega) (by omega),?_,λhh=>(by cases hh),λt ht=>?_⟩
   ·grind [lj]
   ·injection ht with ht
    subst ht
    refine ⟨Cp q1 h0,?_,λQ s=>?_⟩
    ·show cellOf (cI w.1 P) _=[]
     grind
    ·rw[nT P_,r2,ou h hP]
     by_cases hq:Q=P
     ·subst hq
      by_cases hs:s=cg (fF (cI w.1 Q))
      ·grind
      ·rw[if_pos rfl,if_neg hs,if_neg (λhh=>hs hh.2),q2]
       rfl
     grind
  ·exact ⟨hw.mono (by omega),hl,λ_=>ou h hP,λt ht=>by cases ht⟩
 ·split
  ·rename_i h0
   obtain ⟨r1,r2,r3⟩:=nP hp hc h0
   refine ⟨(ql h r1 (by omega) (by omega)).mono (by omega),?_,λhh=>(by cases hh),λt ht=>?_⟩
   ·rw[lj hP,List.length_set]
   ·injection ht with ht
    subst ht
    refine ⟨Cp hp h0,r3,λQ s=>?_⟩
    rw[nT hP,r2]
    by_cases hq:Q=P
    ·subst hq
     by_cases hs:s=cg (cI w.1 Q)
     ·grind
     ·rw[if_pos rfl,if_neg hs,if_neg (λhh=>hs hh.2)]
      rfl
    grind
  ·exact ⟨h.mono (by omega),rfl,λ_ _ _=>rfl,λt ht=>by cases ht⟩
def Kh (r:Option Nat×am):Int×Bool×am×Unit:=match r.1 with
 | some t=>((t:Int),true,r.2,())
 | none=>((0:Int),false,r.2,())
theorem EQ {w:am} {n P:Nat} (h:okW w n) (hn:n<=900) (hP:P < List.length w.1) {c:List UInt8} (fj:1<=c.length) (hc:c.length<=20):ju.aa (w,(P:Int),c,())=some (Kh (gd w P c)):=by
 refine aj (k:=0) λk _=>(ju.af k _).trans ?_
 show ju.p _=_
 unfold ju.p gd
 have hp:=ij h.cv hP
 obtain ⟨q1,q2,q3⟩:=kF hp
 have hw:=nz h hP
 have hl:=kg hP
 have g:(0:Int)<=(P:Int)/\(P:Int) < (List.length w.1:Int):=by omega
 have g2:(0:Int)<=(P:Int)/\(P:Int) < (List.length (gG w P).1:Int):=by omega
 have ec:da w P (fF (cI w.1 P))=gG w P:=rfl
 rw[if_pos g]
 simp only[Int.toNat_natCast,g0 hP,Option.bind_some,uP hp c fj hc,ul hp,kf h (by omega) q1.len (Nat.le_of_lt hP),ec,g0 (show P < List.length (gG w P).1 by omega),v7 hP,uP q1 c fj hc]
 by_cases h8:fN (cI w.1 P) c=8
 ·rw[decide_eq_true h8,cond_true,if_pos h8,if_pos g,if_pos g2]
  by_cases h0:fN (fF (cI w.1 P)) c=0
  ·rw[decide_eq_true h0,if_pos h0,if_pos h0,if_pos h0,Bool.not_true,cond_false,kf hw (by omega) (nP q1 fj h0).1.len (by omega)]
   rfl
  ·rw[decide_eq_false h0,Bool.not_false,cond_true,if_neg h0]
   rfl
 ·rw[decide_eq_false h8,cond_false,if_neg h8]
  by_cases h0:fN (cI w.1 P) c=0
  ·rw[decide_eq_true h0,if_pos h0,if_pos h0,if_pos h0,Bool.not_true,cond_false,kf h (by omega) (nP hp fj h0).1.len (by omega)]
   rfl
  ·rw[decide_eq_false h0,Bool.not_false,cond_true,if_neg h0]
   rfl
def b_ (w:am) (P s:Nat) (c:List UInt8):Bool×am:=
 if jT (cI w.1 P) s c=8 then
  if jT (fF (cI w.1 P)) s c=0 then (true,da (gG w P) P (pM (fF (cI w.1 P)) s c)) else (false,gG w P)
 else if jT (cI w.1 P) s c=0 then (true,da w P (pM (cI w.1 P) s c)) else (false,w)
theorem xA {p:List UInt8} (h:bQ p) {s:Nat} (hs:s < pn p) (hz:au p s≠0):s < pn (fF p)/\au (fF p) s≠0:=by
 obtain ⟨q1,q2,q3⟩:=kF h
 refine ⟨by omega,λh0=>hz ?_⟩
 rw[<-jl h hs,<- q2,jl q1 (by omega)]
 exact h0
structure Ki (w:am) (n P s:Nat) (c:List UInt8) (r:Bool×am):Prop where
 ok:okW r.2 (n+2)
 len:List.length r.2.1=List.length w.1
 no:r.1=false->∀ Q t,ax r.2.1 Q t=ax w.1 Q t
 yes:r.1=true->∀ Q t,ax r.2.1 Q t=if Q=P/\t=s then c else ax w.1 Q t
theorem iI {w:am} {n P s:Nat} (h:okW w n) (gr:ax w.1 P s≠[]) {c:List UInt8} (hc:1<=c.length):Ki w n P s c (b_ w P s c):=by
 obtain ⟨hP,hs,hz⟩:=kG h.cv gr
 have hp:=ij h.cv hP
 have nW:=h.cv.1
 unfold b_
 split
 ·obtain ⟨q1,q2,q3⟩:=kF hp
  obtain ⟨z1,z2⟩:=xA hp hs hz
  have hw:=nz h hP
  have hl:=kg hP
  split
  ·rename_i h0
   obtain ⟨r1,r2⟩:=qh q1 z1 z2 hc h0
   have P_:P < List.length (gG w P).1:=by omega
   refine ⟨ql hw r1 (by omega) (by omega),?_,λhh=>(by cases hh),λ_ Q t=>?_⟩
   ·grind [lj]
   ·rw[nT P_,r2,ou h hP]
    by_cases hq:Q=P
    ·subst hq
     by_cases ht:t=s
     ·grind
     ·rw[if_pos rfl,if_neg ht,if_neg (λhh=>ht hh.2),q2]
      rfl
    grind
  ·exact ⟨hw.mono (by omega),hl,λ_=>ou h hP,λht=>by cases ht⟩
 ·split
  ·rename_i h0
   obtain ⟨r1,r2⟩:=qh hp hs hz hc h0
   refine ⟨(ql h r1 (by omega) (by omega)).mono (by omega),?_,λhh=>(by cases hh),λ_ Q t=>?_⟩
   ·rw[lj hP,List.length_set]
   ·rw[nT hP,r2]
    by_cases hq:Q=P
    ·subst hq
     by_cases ht:t=s
     ·grind
     ·rw[if_pos rfl,if_neg ht,if_neg (λhh=>ht hh.2)]
      rfl
    grind
  ·exact ⟨h.mono (by omega),rfl,λ_ _ _=>rfl,λht=>by cases ht⟩
theorem pT {w:am} {n P s:Nat} (h:okW w n) (hn:n<=900) (gr:ax w.1 P s≠[]) {c:List UInt8} (fj:1<=c.length) (hc:c.length<=20):gD.aa (w,(P:Int),(s:Int),c,())=some ((b_ w P s c).1,(b_ w P s c).2,()):=by
 refine aj (k:=0) λk _=>(gD.af k _).trans ?_
 show gD.p _=_
 unfold gD.p b_
 obtain ⟨hP,hs,hz⟩:=kG h.cv gr
 have hp:=ij h.cv hP
 obtain ⟨q1,q2,q3⟩:=kF hp
 obtain ⟨z1,z2⟩:=xA hp hs hz
 have hw:=nz h hP
 have hl:=kg hP
 have g:(0:Int)<=(P:Int)/\(P:Int) < (List.length w.1:Int):=by omega
 have g2:(0:Int)<=(P:Int)/\(P:Int) < (List.length (gG w P).1:Int):=by omega
 have ec:da w P (fF (cI w.1 P))=gG w P:=rfl
 rw[if_pos g]
 simp only[Int.toNat_natCast,g0 hP,Option.bind_some,vZ hp c fj hc hs hz,ul hp,kf h (by omega) q1.len (Nat.le_of_lt hP),ec,g0 (show P < List.length (gG w P).1 by omega),v7 hP,vZ q1 c fj hc z1 z2]
 by_cases h8:jT (cI w.1 P) s c=8
 ·rw[decide_eq_true h8,cond_true,if_pos h8,if_pos g,if_pos g2]
  by_cases h0:jT (fF (cI w.1 P)) s c=0
  ·rw[decide_eq_true h0,if_pos h0,if_pos h0,Bool.not_true,cond_false,kf hw (by omega) (qh q1 z1 z2 fj h0).1.len (by omega)]
   rfl
  grind
 ·rw[decide_eq_false h8,cond_false,if_neg h8]
  by_cases h0:jT (cI w.1 P) s c=0
  ·rw[decide_eq_true h0,if_pos h0,if_pos h0,Bool.not_true,cond_false,kf h (by omega) (qh hp hs hz fj h0).1.len (by omega)]
   rfl
  grind
theorem xB {w:am} {n P s:Nat} (h:okW w n) (hn:n<=900) (gr:ax w.1 P s≠[]) {c:List UInt8} (fj:1<=c.length) (hc:c.length<=20):fy.aa (w,(P:Int),(s:Int),c,())=some ((b_ w P s c).1,(b_ w P s c).2,()):=by
 refine aj (k:=0) λk _=>(fy.af k _).trans ?_
 show fy.p _=_
 unfold fy.p b_
 obtain ⟨hP,hs,hz⟩:=kG h.cv gr
 have hp:=ij h.cv hP
 obtain ⟨q1,q2,q3⟩:=kF hp
 obtain ⟨z1,z2⟩:=xA hp hs hz
 have hw:=nz h hP
 have hl:=kg hP
 have g:(0:Int)<=(P:Int)/\(P:Int) < (List.length w.1:Int):=by omega
 have g2:(0:Int)<=(P:Int)/\(P:Int) < (List.length (gG w P).1:Int):=by omega
 rw[if_pos g]
 simp only[Int.toNat_natCast,g0 hP,Option.bind_some,AJ hp c fj hc hs hz,xz h (by omega) hP,g0 (show P < List.length (gG w P).1 by omega),v7 hP,AJ q1 c fj hc z1 z2]
 by_cases h8:jT (cI w.1 P) s c=8
 ·rw[decide_eq_true h8,cond_true,if_pos h8,if_pos g2]
  by_cases h0:jT (fF (cI w.1 P)) s c=0
  ·rw[decide_eq_true h0,if_pos h0,if_pos h0,Bool.not_true,cond_false,lz hw (by omega) (qh q1 z1 z2 fj h0).1.len (by omega)]
   rfl
  grind
 ·rw[decide_eq_false h8,cond_false,if_neg h8]
  by_cases h0:jT (cI w.1 P) s c=0
  ·rw[decide_eq_true h0,if_pos h0,if_pos h0,Bool.not_true,cond_false,lz h (by omega) (qh hp hs hz fj h0).1.len (by omega)]
   rfl
  grind
def eQ (w:am) (P s:Nat):am:=da w P (jC (cI w.1 P) s)
theorem kh {w:am} {n P s:Nat} (h:okW w n) (gr:ax w.1 P s≠[]):okW (eQ w P s) (n+1)/\List.length (eQ w P s).1=List.length w.1/\∀ Q t,ax (eQ w P s).1 Q t=if Q=P/\t=s then [] else ax w.1 Q t:=by
 obtain ⟨hP,hs,hz⟩:=kG h.cv gr
 have hp:=ij h.cv hP
 have nW:=h.cv.1
 obtain ⟨r1,r2⟩:=vN hp hs
 refine ⟨ql h r1 (by omega) (by omega),?_,λQ t=>?_⟩
 ·grind [eQ,lj]
 ·unfold eQ
  rw[nT hP,r2]
  by_cases hq:Q=P
  ·subst hq
   by_cases ht:t=s
   ·grind
   ·rw[if_pos rfl,if_neg ht,if_neg (λhh=>ht hh.2)]
    rfl
  grind
theorem rm {w:am} {n P s:Nat} (h:okW w n) (hn:n<=900) (gr:ax w.1 P s≠[]):gy.aa (w,(P:Int),(s:Int),())=some (eQ w P s,()):=by
 refine aj (k:=0) λk _=>(gy.af k _).trans ?_
 show gy.p _=_
 unfold gy.p eQ
 obtain ⟨hP,hs,hz⟩:=kG h.cv gr
 have hp:=ij h.cv hP
 have g:(0:Int)<=(P:Int)/\(P:Int) < (List.length w.1:Int):=by omega
 rw[if_pos g]
 simp only[Int.toNat_natCast,g0 hP,Option.bind_some,yI hp hs,kf h (by omega) (vN hp hs).1.len (Nat.le_of_lt hP)]
theorem rn {w:am} {n P s:Nat} (h:okW w n) (hn:n<=900) (gr:ax w.1 P s≠[]):dV.aa (w,(P:Int),(s:Int),())=some (eQ w P s,()):=by
 refine aj (k:=0) λk _=>(dV.af k _).trans ?_
 show dV.p _=_
 unfold dV.p eQ
 obtain ⟨hP,hs,hz⟩:=kG h.cv gr
 have hp:=ij h.cv hP
 have g:(0:Int)<=(P:Int)/\(P:Int) < (List.length w.1:Int):=by omega
 rw[if_pos g]
 simp only[Int.toNat_natCast,g0 hP,Option.bind_some,FQ hp hs hz,lz h (by omega) (vN hp hs).1.len (Nat.le_of_lt hP)]
end OT
set_option linter.unusedVariables false
set_option linter.unusedSimpArgs false
set_option linter.unusedSectionVars false
namespace OT
open Go
theorem qU {α β:Type} {f:α->β}:∀ {l:List α},(l.map f).Nodup->∀ {x y:α},x ∈ l->y ∈ l->f x=f y->x=y
 | z::l,h,x,y,hx,hy,he=>by
  rw[List.map_cons,List.nodup_cons] at h
  rcases List.mem_cons.1 hx with sE | sE
  ·rcases List.mem_cons.1 hy with ER | ER
   ·rw[sE,ER]
   ·rw[sE] at he
    exact absurd (he ▸ List.mem_map_of_mem ER) h.1
  ·rcases List.mem_cons.1 hy with ER | ER
   ·rw[ER] at he
    exact absurd (he ▸ List.mem_map_of_mem sE) h.1
   ·exact qU h.2 sE ER he
theorem Kj {α β K:Type} [DecidableEq K] {l:List α} {l':List β} {g:α->β} {ka:α->K} {kb:β->K} (hk:∀ x,kb (g x)=ka x) (hp:l'.Perm (l.map g)) (hn:(l.map ka).Nodup) (k:K):l'.find? (λy=>decide (kb y=k))=(l.find? (λx=>decide (ka x=k))).map g:=by
 cases h:l.find? (λx=>decide (ka x=k)) with
 | none=>
  rw[List.find?_eq_none] at h
  show _=none
  rw[List.find?_eq_none]
  intro y hy
  obtain ⟨x,hx,rfl⟩:=List.mem_map.1 (hp.mem_iff.1 hy)
  rw[hk]
  exact h x hx
 | some x=>
  have hx:=List.mem_of_find?_eq_some h
  have Cq:ka x=k:=by have:=List.find?_some h;simpa using this
  show _=some (g x)
  cases U:l'.find? (λy=>decide (kb y=k)) with
  | none=>
   rw[List.find?_eq_none] at U
   have:=U (g x) (hp.mem_iff.2 (List.mem_map_of_mem hx))
   rw[hk,Cq] at this
   simp at this
  | some y=>
   have hy:=List.mem_of_find?_eq_some U
   have Nl:kb y=k:=by have:=List.find?_some U;simpa using this
   obtain ⟨z,hz,rfl⟩:=List.mem_map.1 (hp.mem_iff.1 hy)
   rw[hk] at Nl
   rw[qU hn hz hx (Nl.trans Cq.symm)]
theorem xC {α O:Type} (p:α->Bool) (g:α->O) (e:O):∀ (xs:List α) (i:Nat),cS (λ_ (_:Unit) x=>if p x then .inl (g x) else .inr ()) (λ_=>e) i xs ()=match xs.find? p with | some x=>g x | none=>e
 | [],_=>rfl
 | x::xs,i=>by
  simp only[cS,List.find?_cons]
  cases h:p x with
  | true=>simp only[if_true]
  | false=>simp only[Bool.false_eq_true,if_false];exact xC p g e xs (i+1)
abbrev Nm:ai:=((0:Int),(0:Int),((0:Int),(0:Int),(0:Int),(0:Int),sR,()),())
abbrev Nn:Seen:=(sR,(0:Int),(0:Int),false,(0:Int),(0:Int),())
def iJ (ps:aH) (t k:Int):Option ai:=(c_ ps).find? (λx=>decide (rk (bS x)=(t,k)))
def Iv (l:List Seen) (t k:Int):Option Seen:=l.find? (λy=>decide (rk y.1=(t,k)))
theorem Kk (r:Row) (t k:Int):decide (rk r=(t,k))=(decide (r.1=t)&&decide (r.2.1=k)):=by
 unfold rk
 by_cases h1:r.1=t <;> by_cases U:r.2.1=k <;> simp[h1,U]
theorem um (ps:aH) (h:eA ps) (t k:Int):dq.aa (ps,t,k,())=some (match iJ ps t k with | some x=>(x,true,()) | none=>(Nm,false,())):=by
 refine aj (k:=300) λq hq=>(dq.af q _).trans ?_
 unfold dq.p
 rw[uk ps h]
 simp only[Option.bind_some]
 have fJ:=sW h
 unfold iJ
 generalize c_ ps=xs at fJ ⊢
 have:=d9 (B:=λself v=>dq.B0 q self (λz=>dq.Q0 q (ps,t,k,()) xs z) (ps,t,k,()) xs v) xs (λ(_:Unit) (i:Int)=>i) (λ_ _ x=>if decide (rk (bS x)=(t,k)) then .inl (x,true,()) else .inr ()) (λ_=>((Nm,false,()):ai×Bool×Unit)) (λ_ _=>True) (by rw[aL];omega)
  (λi hi s self _=>by
   show dq.b0 _ _ _ _ _=_
   unfold dq.b0
   have av:(i:Int) < (xs.length:Int):=by omega
   have g:(0:Int)<=(i:Int)/\(i:Int) < (xs.length:Int):=by omega
   rw[decide_eq_true av,cond_true,if_pos g,Kk]
   simp only[Int.toNat_natCast,List.getElem?_eq_getElem hi,Option.bind_some,if_pos g]
   show (bif decide ((bS xs[i]).1=t) then (bif decide ((bS xs[i]).2.1=k) then _ else _) else _)=_
   cases decide ((bS xs[i]).1=t) <;> cases decide ((bS xs[i]).2.1=k) <;> rfl)
  (λ_ _ _ _ _ _=>trivial) (λs self _=>by
   show dq.b0 _ _ _ _ _=_
   unfold dq.b0
   rw[decide_eq_false (Int.lt_irrefl _),cond_false]
   rfl) () trivial q (by omega)
 rw[xC] at this
 refine this.trans (congrArg some ?_)
 cases List.find? (λx=>decide (rk (bS x)=(t,k))) xs <;> rfl
theorem FS (l:List Seen) (hl:l.length<=1000) (t k:Int):iT.aa (l,t,k,())=some (match Iv l t k with | some x=>(x,true,()) | none=>(Nn,false,())):=by
 refine aj (k:=1100) λq hq=>(iT.af q _).trans ?_
 unfold Iv
 have:=d9 (B:=λself v=>iT.B0 q self (λz=>iT.Q0 q (l,t,k,()) z) (l,t,k,()) v) l (λ(_:Unit) (i:Int)=>i) (λ_ _ x=>if decide (rk x.1=(t,k)) then .inl (x,true,()) else .inr ()) (λ_=>((Nn,false,()):Seen×Bool×Unit)) (λ_ _=>True) (by rw[aL];omega)
  (λi hi s self _=>by
   show iT.b0 _ _ _ _=_
   unfold iT.b0
   have av:(i:Int) < (l.length:Int):=by omega
   have g:(0:Int)<=(i:Int):=by omega
   rw[decide_eq_true av,cond_true,if_pos g,Kk]
   simp only[Int.toNat_natCast,List.getElem?_eq_getElem hi,Option.bind_some]
   show (bif decide (l[i].1.1=t) then (bif decide (l[i].1.2.1=k) then _ else _) else _)=_
   cases decide (l[i].1.1=t) <;> cases decide (l[i].1.2.1=k) <;> rfl)
  (λ_ _ _ _ _ _=>trivial) (λs self _=>by
   show iT.b0 _ _ _ _=_
   unfold iT.b0
   rw[decide_eq_false (Int.lt_irrefl _),cond_false]
   rfl) () trivial q (by omega)
 rw[xC] at this
 refine this.trans (congrArg some ?_)
 cases List.find? (λx:Seen=>decide (rk x.1=(t,k))) l <;> rfl
theorem Kl {ps:aH} (h:nS ps) (t k:Int):Iv (qD ps) t k=(iJ ps t k).map i7:=
 Kj (g:=i7) (ka:=λx=>rk (bS x)) (kb:=λy=>rk y.1) (λ_=>rfl) (AI h) h.keys (t,k)
theorem LO {ps:aH} {a b:Int} (h:(iZ ps a b).2=true):ax ps a.toNat b.toNat≠[]/\(eA ps->(iZ ps a b)=bF (ax ps a.toNat b.toNat)):=by
 unfold iZ at h ⊢
 cases hg:ps[a.toNat]? with
 | none=>rw[hg] at h;cases h
 | some p=>
  rw[hg] at h
  simp only at h ⊢
  split at h
  ·rename_i hc
   have hp:cI ps a.toNat=p:=by unfold cI;rw[List.getD_eq_getElem?_getD,hg];rfl
   have e:ax ps a.toNat b.toNat=dt p b.toNat:=by unfold ax cellOf;rw[hp,if_pos hc.1]
   rw[e,if_pos hc]
   refine ⟨λh0=>?_,λ_=>rfl⟩
   rw[h0] at h
   exact absurd h (by decide)
  ·cases h
theorem zn {ps:aH} (h:nS ps) {x:ai} (hx:x ∈ c_ ps):∃ P s:Nat,x.1=(P:Int)/\x.2.1=(s:Int)/\ax ps P s≠[]/\(bR x=1->∃ Q t:Nat,ir x=(Q:Int)/\it x=(t:Int)/\ax ps Q t≠[]/\(bF (ax ps Q t)).1.2.1=2)/\(bF (ax ps P s)).1.2.1=bR x:=by
 unfold c_ at hx
 obtain ⟨y,hy,mI⟩:=List.mem_flatMap.1 hx
 obtain ⟨n1,n2⟩:=ot hy
 have bk:=List.all_eq_true.1 h.Nk y hy
 obtain ⟨P,p,s,h1,U,h3,h4⟩:=qk.1 hy
 unfold jU at mI
 split at mI
 ·cases mI
 ·have sE:=List.mem_singleton.1 mI
  have hP:P < ps.length:=by
   rcases Nat.lt_or_ge P ps.length with g | g
   ·exact g
   ·rw[List.getElem?_eq_none g] at h1;cases h1
  have hp:cI ps P=p:=by unfold cI;rw[List.getD_eq_getElem?_getD,h1];rfl
  have SB:=ij h.right hP
  rw[hp] at SB
  have hc:ax ps P s≠[]:=by
   unfold ax
   rw[hp]
   exact λh0=>h3 ((jl SB U).1 h0)
  have e1:x.1=y.1/\x.2.1=y.2.1/\bR x=bR y/\ir x=ir y/\it x=it y:=by
   rw[sE]
   unfold oB
   split <;> exact ⟨rfl,rfl,rfl,rfl,rfl⟩
  have e2:y.1=(P:Int)/\y.2.1=(s:Int):=by rw[h4];exact ⟨rfl,rfl⟩
  have e3:ax ps P s=dt p s:=by unfold ax cellOf;rw[hp,if_pos U]
  refine ⟨P,s,by rw[e1.1,e2.1],by rw[e1.2.1,e2.2],hc,λhf=>?_,by rw[e1.2.2.1,e3,h4];rfl⟩
  rw[e1.2.2.1] at hf
  unfold ja at bk
  rw[decide_eq_true hf,Bool.not_true,Bool.false_or,Bool.and_eq_true] at bk
  obtain ⟨c1,c2⟩:=LO bk.1
  refine ⟨(ir y).toNat,(it y).toNat,by rw[e1.2.2.2.1];omega,by rw[e1.2.2.2.2];omega,c1,?_⟩
  rw[<-c2 h.right]
  simpa using bk.2
theorem oS {ps:aH} (h:nS ps) (t k:Int):(match iJ ps t k with
  | some x=>eS (aq ps) (t,k)=true/\(aq ps)[pos (aq ps) (t,k)]?=some (bS x)/\x ∈ c_ ps/\rk (bS x)=(t,k)
  | none=>eS (aq ps) (t,k)=false):=by
 have rh:∀ r,r ∈ aq ps↔∃ x ∈ c_ ps,bS x=r:=λr=>by
  rw[ny h,(nR _).mem_iff,List.mem_map]
 cases hf:iJ ps t k with
 | none=>
  simp only
  unfold iJ at hf
  rw[List.find?_eq_none] at hf
  cases hb:eS (aq ps) (t,k) with
  | false=>rfl
  | true=>
   obtain ⟨y,hy,Nl⟩:=uL hb
   obtain ⟨x,hx,rfl⟩:=(rh y).1 hy
   have:=hf x hx
   rw[Nl] at this
   simp at this
 | some x=>
  simp only
  unfold iJ at hf
  have hx:=List.mem_of_find?_eq_some hf
  have Cq:rk (bS x)=(t,k):=by have:=List.find?_some hf;simpa using this
  have hb:eS (aq ps) (t,k)=true:=by
   cases hb:eS (aq ps) (t,k) with
   | true=>rfl
   | false=>
    exfalso
    have hm:=(rh (bS x)).2 ⟨x,hx,rfl⟩
    obtain ⟨i,hi,he⟩:=List.getElem_of_mem hm
    have hu:=gb h
    have Xr:¬ i < pos (aq ps) (t,k):=λav=>by
     have:=uK (aq ps) (t,k) i hi av
     rw[he,Cq,dQ] at this
     cases this
    have dh:pos (aq ps) (t,k) < (aq ps).length:=by omega
    unfold eS at hb
    rw[List.getElem?_eq_getElem dh] at hb
    simp only[decide_eq_false_iff_not] at hb
    by_cases Ea:pos (aq ps) (t,k)=i
    ·refine hb ?_
     have:(aq ps)[pos (aq ps) (t,k)]=(aq ps)[i]:=by congr
     rw[this,he,Cq]
    ·have h1:=pO (aq ps) (t,k) (pos (aq ps) (t,k)) dh hu (Nat.le_refl _)
     have U:=List.pairwise_iff_getElem.1 hu (pos (aq ps) (t,k)) i dh hi (by omega)
     rw[he,Cq] at U
     rw[U] at h1
     cases h1
  refine ⟨hb,?_,hx,Cq⟩
  obtain ⟨hp,hk⟩:=qT hb
  rw[List.getElem?_eq_getElem hp]
  congr 1
  obtain ⟨y,hy,he⟩:=(rh _).1 (List.getElem_mem hp)
  have:y=x:=qU h.keys hy hx (by show rk (bS y)=rk (bS x);rw[he,hk,Cq])
  rw[<-he,this]
end OT
set_option linter.unusedVariables false
set_option linter.unusedSimpArgs false
set_option linter.unusedSectionVars false
namespace OT
open Go
def aM (f:Nat) (r:Row):List UInt8:=[UInt8.ofNat f,UInt8.ofInt r.1,UInt8.ofInt r.2.1,UInt8.ofInt (r.2.2.1 / 256),UInt8.ofInt (r.2.2.1 % 256),UInt8.ofInt (List.length r.2.2.2.1:Int)]++r.2.2.2.1
theorem qn {r:Row} (h:cP r=0):(0<=r.1/\r.1<=3)/\(1<=r.2.1/\r.2.1<=99)/\(0<=r.2.2.1/\r.2.2.1<=999)/\tL r.2.2.2.1=true:=by
 grind [cP,ol]
theorem nA {s:List UInt8} (h:tL s=true):s.length<=8:=by
 grind [tL]
theorem cw {f:Nat} {r:Row} (h:cP r=0):1<=(aM f r).length/\(aM f r).length<=14:=by
 simp_all [nA,qn,aM]
theorem Qa (n:Int):UInt8.ofInt (n % 256)=UInt8.ofInt n:=by
 grind [UInt8.ofInt]
theorem lA {f:Nat} {r:Row} (h:cP r=0):bO.aa ((f:Int),r,())=some (aM f r,()):=by
 obtain ⟨_,_,h3,h4⟩:=qn h
 have h1:=nA h4
 refine aj (k:=0) λk _=>(bO.af k _).trans ?_
 grind [bO.p,aM,ba,dR,mu]
theorem un {f:Nat} {r:Row} (h:cP r=0):gK.aa ((f:Int),r,())=some (aM f r,()):=by
 obtain ⟨_,_,h3,h4⟩:=qn h
 have h1:=nA h4
 refine aj (k:=0) λk _=>(gK.af k _).trans ?_
 grind [gK.p,aM,dR,Qa,mu]
def cn (P t:Nat):List UInt8:=[(1:UInt8),UInt8.ofNat P,UInt8.ofNat t]
theorem qE (P t:Nat):dH.aa ((P:Int),(t:Int),())=some (cn P t,()):=by
 refine aj (k:=0) λk _=>(dH.af k _).trans ?_
 grind [dH.p,cn,mu]
theorem FT (P t:Nat):l6.aa ((P:Int),(t:Int),())=some (cn P t,()):=by
 refine aj (k:=0) λk _=>(l6.af k _).trans ?_
 grind [l6.p,cn,mu]
def dW (c:List UInt8) (no:Int):List Nat->am->Option (Nat×Nat)×am
 | [],w=>(none,w)
 | P::l,w=>if (P:Int)=no then dW c no l w else match (gd w P c).1 with
  | some t=>(some (P,t),(gd w P c).2)
  | none=>dW c no l (gd w P c).2
def dU (w:am) (no:Int) (c:List UInt8):Option (Nat×Nat)×am:=
 match (dW c no (List.range (List.length w.1)) w).1 with
 | some a=>dW c no (List.range (List.length w.1)) w
 | none=>if 12<=List.length w.1 then (none,(dW c no (List.range (List.length w.1)) w).2) else (some (List.length w.1,0),da (dW c no (List.range (List.length w.1)) w).2 (List.length w.1) (jH mr c))
structure AM (w:am) (n m:Nat) (c:List UInt8) (r:Option (Nat×Nat)×am):Prop where
 ok:okW r.2 (n+m)
 no:r.1=none->List.length r.2.1=List.length w.1/\∀ Q s,ax r.2.1 Q s=ax w.1 Q s
 yes:∀ P t,r.1=some (P,t)->P < 12/\t < 16/\ax w.1 P t=[]/\∀ Q s,ax r.2.1 Q s=if Q=P/\s=t then c else ax w.1 Q s
theorem mw {c:List UInt8} (hc:1<=c.length) (no:Int):∀ (l:List Nat) (w:am) (n:Nat),okW w n->(∀ P ∈ l,P < List.length w.1)->AM w n (2*l.length) c (dW c no l w)
 | [],w,n,h,_=>⟨h.mono (by omega),λ_=>⟨rfl,λ_ _=>rfl⟩,λP t ht=>by cases ht⟩
 | P::l,w,n,h,hl=>by
  unfold dW
  split
  ·have:=mw hc no l w n h λQ hQ=>hl Q (List.mem_cons_of_mem _ hQ)
   exact ⟨this.ok.mono (by grind),this.no,this.yes⟩
  ·have hP:=hl P List.mem_cons_self
   have R:=qm h hP hc
   split
   ·rename_i t ht
    obtain ⟨y1,y2,y3⟩:=R.yes t ht
    refine ⟨R.ok.mono (by grind),λhh=>(by cases hh),λP' t' hh=>?_⟩
    injection hh with hh
    injection hh with h1 U
    subst h1;subst U
    exact ⟨by have:=h.cv.1;omega,y1,y2,y3⟩
   ·rename_i ht
    have e:=R.no ht
    have:=mw hc no l (gd w P c).2 (n+2) R.ok λQ hQ=>by rw[R.len];grind
    refine ⟨this.ok.mono (by grind),λhh=>?_,λP' t' hh=>?_⟩
    ·obtain ⟨J,a2⟩:=this.no hh
     exact ⟨by rw[J,R.len],λQ s=>by rw[a2,e]⟩
    ·obtain ⟨J,a2,a3,a4⟩:=this.yes P' t' hh
     grind
theorem BI {c:List UInt8} (fj:1<=c.length) (hc:c.length<=20):fN mr c=0/\cg mr=0/\bQ (jH mr c)/\∀ s,cellOf (jH mr c) s=if s=0 then c else []:=by
 have e0:cg mr=0:=by decide +kernel
 have hn:pn mr=0:=by decide +kernel
 have hl:bJ mr=64:=by decide +kernel
 have hf:kK mr=62:=by decide +kernel
 have h0:fN mr c=0:=by
  grind [fN,mp]
 obtain ⟨r1,r2,r3⟩:=nP oF.1 fj h0
 refine ⟨h0,e0,r1,λs=>?_⟩
 rw[r2,e0,oF.2]
theorem kj {w:am} {n:Nat} (h:okW w n) {c:List UInt8} (fj:1<=c.length) (hc:c.length<=20) (no:Int):AM w n 25 c (dU w no c):=by
 have R:=mw fj no (List.range (List.length w.1)) w n h λP hP=>List.mem_range.1 hP
 have nW:=h.cv.1
 rw[List.length_range] at R
 unfold dU
 split
 ·exact ⟨R.ok.mono (by omega),R.no,R.yes⟩
 ·rename_i h0
  obtain ⟨J,a2⟩:=R.no h0
  split
  ·exact ⟨R.ok.mono (by omega),λ_=>⟨J,a2⟩,λP t ht=>by cases ht⟩
  ·rename_i av
   obtain ⟨n1,n2,n3,n4⟩:=BI fj hc
   have hk:=ql R.ok n3 (P:=List.length w.1) (by omega) (by omega)
   refine ⟨hk.mono (by omega),λhh=>(by cases hh),λP t ht=>?_⟩
   injection ht with ht
   injection ht with t1 t2
   subst t1;subst t2
   refine ⟨by omega,by omega,BH (Nat.le_refl _),λQ s=>?_⟩
   have e:=zm (dW c no (List.range (List.length w.1)) w).2 (jH mr c)
   rw[J] at e
   show ax (da (dW c no (List.range (List.length w.1)) w).2 (List.length w.1) (jH mr c)).1 Q s=_
   rw[e]
   unfold ax
   rw[LN,J]
   by_cases hq:Q=List.length w.1
   ·rw[if_pos hq,n4]
    by_cases hs:s=0
    ·grind
    ·rw[if_neg hs,if_neg (λhh=>hs hh.2)]
     subst hq
     exact (BH (Nat.le_refl _)).symm
   ·rw[if_neg hq,if_neg (λhh=>hq hh.1)]
    exact a2 Q s
def mz (r:Option (Nat×Nat)×am):Int×Int×Bool×am×Unit:=match r.1 with
 | some a=>((a.1:Int),(a.2:Int),true,r.2,())
 | none=>((0:Int),(0:Int),false,r.2,())
def qV (c:List UInt8) (no:Int) (P:Nat) (w:am):Sum (Option (Int×Int×Bool×am×Unit)) am:=
 if (P:Int)=no then .inr w else match (gd w P c).1 with
  | some t=>.inl (some ((P:Int),(t:Int),true,(gd w P c).2,()))
  | none=>.inr (gd w P c).2
theorem rQ {c:List UInt8} {no:Int} {fin:am->Option (Int×Int×Bool×am×Unit)}:∀ (l:List Nat) (i:Nat) (w:am),cS (λ_ s x=>qV c no x s) fin i l w=match (dW c no l w).1 with
  | some a=>some ((a.1:Int),(a.2:Int),true,(dW c no l w).2,())
  | none=>fin (dW c no l w).2
 | [],i,w=>rfl
 | P::l,i,w=>by
  simp only[cS,qV,dW]
  by_cases hn:(P:Int)=no
  ·rw[if_pos hn,if_pos hn]
   exact rQ l (i+1) w
  ·rw[if_neg hn,if_neg hn]
   cases (gd w P c).1 with
   | some t=>rfl
   | none=>exact rQ l (i+1) _
theorem v_:xj=mr:=rfl
theorem sY {w:am} {n:Nat} (h:okW w n) (hn:n<=800) {c:List UInt8} (fj:1<=c.length) (hc:c.length<=20) (no:Int):cW.aa (w,no,c,())=some (mz (dU w no c)):=by
 have nW:=h.cv.1
 refine aj (k:=100) λk hk=>(cW.af k _).trans ?_
 obtain ⟨n1,n2,n3,n4⟩:=BI fj hc
 have:=gV (B:=λself v=>cW.B0 k self (λz=>cW.Q0 k (w,no,c,()) z) (w,no,c,()) v) (List.length w.1) (λ(s:am) (i:Int)=>(s,i)) (qV c no) (λs=>cW.Q0 k (w,no,c,()) s) (λi s=>okW s (n+2*i)/\List.length s.1=List.length w.1) (by omega)
  (λi hi s self ⟨hs,fJ⟩=>by
   grind [cW.b0,qV,EQ,Kh])
  (λi hi s s' ⟨hs,fJ⟩ hf=>by
   unfold qV at hf
   have R:=qm hs (show i < List.length s.1 by omega) fj
   split at hf
   ·injection hf with hf
    subst hf
    exact ⟨hs.mono (by omega),fJ⟩
   ·split at hf
    ·cases hf
    ·injection hf with hf
     subst hf
     exact ⟨R.ok.mono (by omega),by rw[R.len,fJ]⟩)
  (λs self ⟨hs,fJ⟩=>by
   grind [cW.b0]) w ⟨h,rfl⟩ k (by omega)
 refine this.trans ?_
 rw[rQ]
 unfold dU mz
 have R:=mw fj no (List.range (List.length w.1)) w n h λP hP=>List.mem_range.1 hP
 rw[List.length_range] at R
 cases hg:(dW c no (List.range (List.length w.1)) w).1 with
 | some a=>simp only[hg]
 | none=>
  obtain ⟨J,a2⟩:=R.no hg
  simp only
  show cW.q0 _ _=_
  unfold cW.q0
  rw[J]
  by_cases hl:12<=List.length w.1
  ·grind
  ·have:¬ (12:Int)<=(List.length w.1:Int):=by omega
   rw[decide_eq_false this,cond_false,if_neg hl,v6]
   simp only[Option.bind_some,v_,uP oF.1 c fj hc,n1,n2,if_true,kf R.ok (by omega) n3.len (show List.length w.1<=List.length (dW c no (List.range (List.length w.1)) w).2.1 by omega)]
   grind [zm,ba]
theorem xD {w:am} {n:Nat} (h:okW w n) (hn:n<=800) {c:List UInt8} (fj:1<=c.length) (hc:c.length<=20) (no:Int):cm.aa (w,c,no,())=some (mz (dU w no c)):=by
 have nW:=h.cv.1
 refine aj (k:=100) λk hk=>(cm.af k _).trans ?_
 obtain ⟨n1,n2,n3,n4⟩:=BI fj hc
 have:=gV (B:=λself v=>cm.B0 k self (λz=>cm.Q0 k (w,c,no,()) z) (w,c,no,()) v) (List.length w.1) (λ(s:am) (i:Int)=>(s,i)) (qV c no) (λs=>cm.Q0 k (w,c,no,()) s) (λi s=>okW s (n+2*i)/\List.length s.1=List.length w.1) (by omega)
  (λi hi s self ⟨hs,fJ⟩=>by
   show cm.b0 _ _ _ _=_
   unfold cm.b0 qV
   have av:(i:Int) < (List.length w.1:Int):=by omega
   rw[decide_eq_true av,cond_true]
   by_cases iz:(i:Int)=no
   ·grind
   ·rw[decide_eq_false iz,cond_false,if_neg iz]
    have hP:i < List.length s.1:=by omega
    have hp:=ij hs.cv hP
    obtain ⟨q1,q2,q3⟩:=kF hp
    have hw:=nz hs hP
    have hl:=kg hP
    have g:(0:Int)<=(i:Int)/\(i:Int) < (List.length s.1:Int):=by omega
    have g2:(0:Int)<=(i:Int)/\(i:Int) < (List.length (gG s i).1:Int):=by omega
    rw[if_pos g]
    unfold gd
    simp only[Int.toNat_natCast,g0 hP,Option.bind_some,vY hp c fj hc,xz hs (by omega) hP,g0 (show i < List.length (gG s i).1 by omega),v7 hP,vY q1 c fj hc]
    by_cases h8:fN (cI s.1 i) c=8
    ·rw[decide_eq_true h8,cond_true,if_pos h8,if_pos g2]
     by_cases h0:fN (fF (cI s.1 i)) c=0
     ·rw[decide_eq_true h0,cond_true,if_pos h0,if_pos h0,if_pos h0,lz hw (by omega) (nP q1 fj h0).1.len (by omega)]
      rfl
     grind
    ·rw[decide_eq_false h8,cond_false,if_neg h8]
     by_cases h0:fN (cI s.1 i) c=0
     ·rw[decide_eq_true h0,cond_true,if_pos h0,if_pos h0,if_pos h0,lz hs (by omega) (nP hp fj h0).1.len (by omega)]
      rfl
     grind)
  (λi hi s s' ⟨hs,fJ⟩ hf=>by
   unfold qV at hf
   have R:=qm hs (show i < List.length s.1 by omega) fj
   split at hf
   ·injection hf with hf
    subst hf
    exact ⟨hs.mono (by omega),fJ⟩
   ·split at hf
    ·cases hf
    ·injection hf with hf
     subst hf
     exact ⟨R.ok.mono (by omega),by rw[R.len,fJ]⟩)
  (λs self ⟨hs,fJ⟩=>by
   grind [cm.b0]) w ⟨h,rfl⟩ k (by omega)
 refine this.trans ?_
 rw[rQ]
 unfold dU mz
 have R:=mw fj no (List.range (List.length w.1)) w n h λP hP=>List.mem_range.1 hP
 rw[List.length_range] at R
 cases hg:(dW c no (List.range (List.length w.1)) w).1 with
 | some a=>simp only[hg]
 | none=>
  obtain ⟨J,a2⟩:=R.no hg
  simp only
  show cm.q0 _ _=_
  unfold cm.q0
  rw[J]
  by_cases hl:12<=List.length w.1
  ·grind
  ·have:¬ (List.length w.1:Int)=12:=by omega
   rw[decide_eq_false this,cond_false,if_neg hl,Iu]
   simp only[Option.bind_some,v_,vY oF.1 c fj hc,n1,n2,if_true,lz R.ok (by omega) n3.len (show List.length w.1<=List.length (dW c no (List.range (List.length w.1)) w).2.1 by omega)]
   grind [zm,ba]
end OT
set_option linter.unusedVariables false
set_option linter.unusedSimpArgs false
set_option linter.unusedSectionVars false
namespace OT
open Go
theorem sZ {α β:Type} {g:α->Option β}:∀ {l:List α},l.Nodup->((l.filterMap g).Nodup↔∀ x ∈ l,∀ y ∈ l,∀ b,g x=some b->g y=some b->x=y)
 | [],_=>by simp
 | z::l,h=>by
  rw[List.nodup_cons] at h
  have ih:=sZ (g:=g) h.2
  grind
abbrev gO:Type:=Nat->Nat->List UInt8
def bM (d:List UInt8):Int:=(bF d).1.2.1
def f_ (d:List UInt8):Nat:=(bF d).1.2.2.1.toNat
def ga (d:List UInt8):Nat:=(bF d).1.2.2.2.1.toNat
def xE (d:List UInt8):Row:=(bF d).1.2.2.2.2.1
def rowAt (f:gO) (P s:Nat):Row:=if bM (f P s)=1 then xE (f (f_ (f P s)) (ga (f P s))) else xE (f P s)
structure lX (f:gO):Prop where
 read:∀ P s,f P s≠[]->(bF (f P s)).2=true
 stub:∀ P s,f P s≠[]->bM (f P s)=1->f (f_ (f P s)) (ga (f P s))≠[]/\bM (f (f_ (f P s)) (ga (f P s)))=2
 GV:∀ P s Q t,f P s≠[]->f Q t≠[]->bM (f P s)=1->bM (f Q t)=1->f_ (f P s)=f_ (f Q t)->ga (f P s)=ga (f Q t)->P=Q/\s=t
 key:∀ P s Q t,f P s≠[]->f Q t≠[]->bM (f P s)≠2->bM (f Q t)≠2->rk (rowAt f P s)=rk (rowAt f Q t)->P=Q/\s=t
def jn (f:gO) (r:Row):Prop:=∃ P s,f P s≠[]/\bM (f P s)≠2/\rowAt f P s=r
def lk (ps:aH) (P s:Nat):ai:=((P:Int),(s:Int),(bF (ax ps P s)).1,())
theorem jh {ps:aH} (h:eA ps) {x:ai}:x ∈ aT ps↔∃ P s,ax ps P s≠[]/\x=lk ps P s:=by
 grind [qk,Nat.lt_or_ge,ax,cellOf,lk,jl,ij,kG,g0]
theorem qF (ps:aH):(aT ps).Nodup:=by
 have h1:∀ (P:Nat) (p:List UInt8),(jg P p).Pairwise (λx y=>x.2.1 < y.2.1)/\∀ x ∈ jg P p,x.1=(P:Int):=by
  intro P p
  have key:∀ n,((List.range n).flatMap (jD P p)).Pairwise (λx y=>x.2.1 < y.2.1)/\∀ x ∈ (List.range n).flatMap (jD P p),x.1=(P:Int)/\x.2.1 < (n:Int):=by
   intro n
   induction n with
   | zero=>simp_all
   | succ n ih=>
    rw[List.range_succ,List.flatMap_append]
    have hs:∀ x ∈ ([n]:List Nat).flatMap (jD P p),x.1=(P:Int)/\x.2.1=(n:Int):=λx hx=>by
     simp_all [jD]
    constructor
    ·rw[List.pairwise_append]
     grind [jD]
    grind
  exact ⟨(key (pn p)).1,λx hx=>((key (pn p)).2 x hx).1⟩
 have main:∀ (xs:aH) (i:Nat),(sV jg i xs).Nodup/\∀ x ∈ sV jg i xs,(i:Int)<=x.1:=by
  intro xs
  induction xs with
  | nil=>intro i;exact ⟨List.Pairwise.nil,λx hx=>by cases hx⟩
  | cons p xs ih=>
   intro i
   obtain ⟨J,a2⟩:=h1 i p
   obtain ⟨b1,b2⟩:=ih (i+1)
   refine ⟨?_,λx hx=>?_⟩
   ·unfold sV
    rw[List.nodup_append]
    refine ⟨J.imp λ{x y} av he=>by grind,b1,λx hx y hy he=>?_⟩
    grind
   grind [sV]
 exact (main ps 0).1
theorem ES (ps:aH):(c_ ps).map (λx=>rk (bS x))=(aT ps).filterMap (λx=>if bR x=2 then none else some (rk (bS (oB ps x)))):=by
 unfold c_
 generalize aT ps=l
 induction l <;> grind [jU]
theorem xF (d:List UInt8):(bF d).1.2.2.1=(f_ d:Int)/\(bF d).1.2.2.2.1=(ga d:Int):=by
 obtain ⟨h1,U⟩:=xr d
 unfold f_ ga
 omega
theorem Cr {ps:aH} (h:eA ps) (P s:Nat):iZ ps (P:Int) (s:Int)=if ax ps P s=[] then (Az,false) else bF (ax ps P s):=by
 unfold iZ
 rw[Int.toNat_natCast,Int.toNat_natCast]
 grind [ax,jl,ij,kG,g0,cellOf]
theorem nB {ps:aH} (h:eA ps) (P s:Nat) (bk:bM (ax ps P s)=1->ax ps (f_ (ax ps P s)) (ga (ax ps P s))≠[]):bS (oB ps (lk ps P s))=rowAt (ax ps) P s:=by
 unfold oB rowAt
 have e1:bR (lk ps P s)=bM (ax ps P s):=rfl
 rw[e1]
 by_cases hf:bM (ax ps P s)=1
 ·rw[if_pos hf,if_pos hf]
  obtain ⟨t1,t2⟩:=xF (ax ps P s)
  have e2:ir (lk ps P s)=(f_ (ax ps P s):Int):=t1
  have e3:it (lk ps P s)=(ga (ax ps P s):Int):=t2
  rw[e2,e3,Cr h,if_neg (bk hf)]
  rfl
 ·rw[if_neg hf,if_neg hf]
  rfl
theorem xG {α:Type} {c:α->Int}:∀ {xs:List α},(∀ x ∈ xs,c x=0)->iC c xs=0
 | [],_=>rfl
 | x::xs,h=>by
  unfold iC
  rw[if_pos (h x List.mem_cons_self)]
  exact xG λy hy=>h y (List.mem_cons_of_mem _ hy)
theorem AN {ps:aH} (h:eA ps) (P s:Nat) (hr:∀ Q t,ax ps Q t≠[]->(bF (ax ps Q t)).2=true):ja ps (lk ps P s)=true↔(bM (ax ps P s)=1->ax ps (f_ (ax ps P s)) (ga (ax ps P s))≠[]/\bM (ax ps (f_ (ax ps P s)) (ga (ax ps P s)))=2):=by
 grind [ja,bR,lk,bM,xF,ir,it,Cr]
theorem eE {ps:aH}:a7 ps=0↔eA ps/\lX (ax ps):=by
 constructor
 ·intro hv
  have V:=dv hv
  have hr:=V.right
  have No:∀ P s,ax ps P s≠[]->(bF (ax ps P s)).2=true:=λP s hc=>by
   obtain ⟨J,a2,a3⟩:=kG hr hc
   have:=V.cells.2 _ (EO J) s a2 a3
   grind [ax,cellOf]
  have Iw:∀ P s,ax ps P s≠[]->bM (ax ps P s)=1->ax ps (f_ (ax ps P s)) (ga (ax ps P s))≠[]/\bM (ax ps (f_ (ax ps P s)) (ga (ax ps P s)))=2:=λP s hc=>
   (AN hr P s No).1 (List.all_eq_true.1 V.Nk _ ((jh hr).2 ⟨P,s,hc,rfl⟩))
  refine ⟨hr,No,Iw,λP s Q t h1 U f1 f2 e1 e2=>?_,λP s Q t h1 U f1 f2 e=>?_⟩
  ·have:=(sZ (qF ps)).1 V.TG _ ((jh hr).2 ⟨P,s,h1,rfl⟩) _ ((jh hr).2 ⟨Q,t,U,rfl⟩) ((f_ (ax ps P s):Int),(ga (ax ps P s):Int))
    (by unfold pQ;rw[if_pos (show bR (lk ps P s)=1 from f1)];show some ((bF (ax ps P s)).1.2.2.1,(bF (ax ps P s)).1.2.2.2.1)=_;grind [xF])
    (by unfold pQ;rw[if_pos (show bR (lk ps Q t)=1 from f2)];show some ((bF (ax ps Q t)).1.2.2.1,(bF (ax ps Q t)).1.2.2.2.1)=_;grind [xF])
   have g1:((P:Int))=(Q:Int):=congrArg (λx:ai=>x.1) this
   have g2:((s:Int))=(t:Int):=congrArg (λx:ai=>x.2.1) this
   omega
  ·have hk:=V.keys
   rw[ES] at hk
   have:=(sZ (qF ps)).1 hk _ ((jh hr).2 ⟨P,s,h1,rfl⟩) _ ((jh hr).2 ⟨Q,t,U,rfl⟩) (rk (rowAt (ax ps) P s))
    (by rw[if_neg (show ¬ bR (lk ps P s)=2 from f1),nB hr P s λhf=>(Iw P s h1 hf).1])
    (by rw[if_neg (show ¬ bR (lk ps Q t)=2 from f2),nB hr Q t λhf=>(Iw Q t U hf).1,e])
   have g1:((P:Int))=(Q:Int):=congrArg (λx:ai=>x.1) this
   have g2:((s:Int))=(t:Int):=congrArg (λx:ai=>x.2.1) this
   omega
 ·rintro ⟨hr,S⟩
  have hf:iC oq ps=0:=xG λp hp=>by
   obtain ⟨P,hP,he⟩:=List.getElem_of_mem hp
   have Xs:cI ps P=p:=by grind [cI]
   have ao:=hr.2 p hp
   unfold oq
   rw[if_pos (lh.2 ao),if_pos]
   refine List.all_eq_true.2 λs hs=>?_
   have hs:=List.mem_range.1 hs
   unfold pP
   by_cases hz:au p s=0
   ·grind
   ·have hc:ax ps P s≠[]:=λh0=>hz (by
     grind [ax,jl])
    have:=S.read P s hc
    grind [ax,cellOf]
  have hl:¬ 12 < ps.length:=by have:=hr.1;omega
  unfold a7
  rw[if_neg hl,if_pos hf]
  unfold tR
  rw[if_pos,if_pos,if_pos]
  ·rw[ES]
   refine (sZ (qF ps)).2 λx hx y hy b h1 U=>?_
   obtain ⟨P,s,c1,rfl⟩:=(jh hr).1 hx
   obtain ⟨Q,t,c2,rfl⟩:=(jh hr).1 hy
   split at h1
   ·cases h1
   ·rename_i f1
    split at U
    ·cases U
    ·rename_i f2
     rw[nB hr P s λhf=>(S.stub P s c1 hf).1] at h1
     rw[nB hr Q t λhf=>(S.stub Q t c2 hf).1] at U
     obtain ⟨rfl,rfl⟩:=S.key P s Q t c1 c2 f1 f2 (by grind)
     rfl
  ·refine (sZ (qF ps)).2 λx hx y hy b h1 U=>?_
   obtain ⟨P,s,c1,rfl⟩:=(jh hr).1 hx
   obtain ⟨Q,t,c2,rfl⟩:=(jh hr).1 hy
   unfold pQ at h1 U
   split at h1
   ·rename_i f1
    split at U
    ·rename_i f2
     injection h1 with h1
     injection U with U
     have h3:=h1.trans U.symm
     injection h3 with h3 h4
     obtain ⟨rfl,rfl⟩:=S.GV P s Q t c1 c2 f1 f2 (congrArg Int.toNat h3) (congrArg Int.toNat h4)
     rfl
    ·cases U
   ·cases h1
  ·refine List.all_eq_true.2 λx hx=>?_
   obtain ⟨P,s,c1,rfl⟩:=(jh hr).1 hx
   exact (AN hr P s S.read).2 (S.stub P s c1)
theorem mA {ps:aH} (hv:a7 ps=0) (r:Row):r ∈ aq ps↔jn (ax ps) r:=by
 have V:=dv hv
 have hr:=V.right
 have S:=(eE.1 hv).2
 rw[ny V,(nR _).mem_iff,List.mem_map]
 constructor
 ·rintro ⟨x,hx,rfl⟩
  unfold c_ at hx
  obtain ⟨y,hy,mI⟩:=List.mem_flatMap.1 hx
  obtain ⟨P,s,c1,rfl⟩:=(jh hr).1 hy
  unfold jU at mI
  split at mI
  ·cases mI
  ·rename_i f1
   rw[List.mem_singleton.1 mI,nB hr P s λhf=>(S.stub P s c1 hf).1]
   exact ⟨P,s,c1,f1,rfl⟩
 ·rintro ⟨P,s,c1,f1,rfl⟩
  refine ⟨oB ps (lk ps P s),?_,nB hr P s λhf=>(S.stub P s c1 hf).1⟩
  unfold c_
  refine List.mem_flatMap.2 ⟨_,(jh hr).2 ⟨P,s,c1,rfl⟩,?_⟩
  unfold jU
  rw[if_neg (show ¬ bR (lk ps P s)=2 from f1)]
  exact List.mem_singleton.2 rfl
end OT
set_option linter.unusedVariables false
set_option linter.unusedSimpArgs false
set_option linter.unusedSectionVars false
namespace OT
open Go
def eF (f:gO) (P s:Nat) (c:List UInt8):gO:=λQ t=>if Q=P/\t=s then c else f Q t
theorem jJ (f:gO) (P s:Nat) (c:List UInt8):eF f P s c P s=c:=if_pos ⟨rfl,rfl⟩
theorem dN {f:gO} {P s:Nat} {c:List UInt8} {Q t:Nat} (h:¬ (Q=P/\t=s)):eF f P s c Q t=f Q t:=if_neg h
def lone (f:gO) (A B:Nat):Prop:=∀ Q t,f Q t≠[]->bM (f Q t)=1->¬ (f_ (f Q t)=A/\ga (f Q t)=B)
theorem lB {f g:gO} {Q u:Nat} (h1:g Q u=f Q u) (U:bM (f Q u)=1->g (f_ (f Q u)) (ga (f Q u))=f (f_ (f Q u)) (ga (f Q u))):rowAt g Q u=rowAt f Q u:=by
 grind [rowAt]
section
variable {f:gO} (S:lX f)
include S
theorem Cs {P t:Nat} {c:List UInt8} (h0:f P t=[]) (hc:(bF c).2=true) (U:bM c=2):lX (eF f P t c)/\(∀ r,jn (eF f P t c) r↔jn f r)/\lone (eF f P t c) P t:=by
 have off:∀ {Q u},f Q u≠[]->eF f P t c Q u=f Q u:=λ{Q u} hq=>dN λ⟨e1,e2⟩=>hq (by grind)
 have ET:∀ {Q u},bM (eF f P t c Q u)≠2->eF f P t c Q u=f Q u:=λ{Q u} hq=>dN λ⟨e1,e2⟩=>hq (by grind [jJ])
 have row:∀ {Q u},f Q u≠[]->rowAt (eF f P t c) Q u=rowAt f Q u:=λ{Q u} hq=>lB (off hq) λhf=>off (S.stub Q u hq hf).1
 refine ⟨⟨λQ u hq=>?_,λQ u hq hf=>?_,λQ u R v hq hr f1 f2 e1 e2=>?_,λQ u R v hq hr f1 f2 e=>?_⟩,λr=>?_,λQ u hq hf hh=>?_⟩
 ·by_cases he:Q=P/\u=t
  ·grind [jJ]
  ·rw[dN he] at hq ⊢;exact S.read Q u hq
 ·have e:=ET (Q:=Q) (u:=u) (by rw[hf];decide)
  rw[e] at hq hf ⊢
  obtain ⟨J,a2⟩:=S.stub Q u hq hf
  grind
 ·have g1:=ET (Q:=Q) (u:=u) (by rw[f1];decide)
  have g2:=ET (Q:=R) (u:=v) (by rw[f2];decide)
  rw[g1] at hq f1 e1 e2
  rw[g2] at hr f2 e1 e2
  exact S.GV Q u R v hq hr f1 f2 e1 e2
 ·have g1:=ET f1
  have g2:=ET f2
  rw[g1] at hq f1
  rw[g2] at hr f2
  rw[row hq,row hr] at e
  exact S.key Q u R v hq hr f1 f2 e
 ·constructor
  ·rintro ⟨Q,u,hq,f1,e⟩
   rw[ET f1] at hq f1
   rw[row hq] at e
   exact ⟨Q,u,hq,f1,e⟩
  ·rintro ⟨Q,u,hq,f1,e⟩
   exact ⟨Q,u,by grind,by grind,by grind⟩
 ·have e:=ET (Q:=Q) (u:=u) (by rw[hf];decide)
  rw[e] at hq hf hh
  have:=(S.stub Q u hq hf).1
  grind
theorem Ix {A B:Nat} (U:bM (f A B)=2) (hl:lone f A B):lX (eF f A B [])/\(∀ r,jn (eF f A B []) r↔jn f r):=by
 have ne:∀ {Q u},eF f A B [] Q u≠[]->¬ (Q=A/\u=B):=λ{Q u} hq he=>hq (by grind [jJ])
 have tg:∀ {Q u},f Q u≠[]->bM (f Q u)=1->eF f A B [] (f_ (f Q u)) (ga (f Q u))=f (f_ (f Q u)) (ga (f Q u)):=λ{Q u} hq hf=>dN (hl Q u hq hf)
 refine ⟨⟨λQ u hq=>?_,λQ u hq hf=>?_,λQ u R v hq hr f1 f2 e1 e2=>?_,λQ u R v hq hr f1 f2 e=>?_⟩,λr=>?_⟩
 ·have:=ne hq
  rw[dN this] at hq ⊢
  exact S.read Q u hq
 ·have:=ne hq
  rw[dN this] at hq hf ⊢
  rw[tg hq hf]
  exact S.stub Q u hq hf
 ·have n1:=ne hq
  have n2:=ne hr
  rw[dN n1] at hq f1 e1 e2
  rw[dN n2] at hr f2 e1 e2
  exact S.GV Q u R v hq hr f1 f2 e1 e2
 ·have n1:=ne hq
  have n2:=ne hr
  have g1:=dN (f:=f) (c:=[]) n1
  have g2:=dN (f:=f) (c:=[]) n2
  rw[g1] at hq f1
  rw[g2] at hr f2
  rw[lB g1 (tg hq),lB g2 (tg hr)] at e
  exact S.key Q u R v hq hr f1 f2 e
 ·constructor
  ·rintro ⟨Q,u,hq,f1,e⟩
   have g1:=dN (f:=f) (c:=[]) (ne hq)
   rw[g1] at hq f1
   rw[lB g1 (tg hq)] at e
   exact ⟨Q,u,hq,f1,e⟩
  ·rintro ⟨Q,u,hq,f1,e⟩
   have g1:eF f A B [] Q u=f Q u:=dN λhe=>f1 (by grind)
   exact ⟨Q,u,by grind,by grind,by grind [lB]⟩
theorem Ct {P s:Nat} (h0:f P s≠[]) (U:bM (f P s)≠2):lX (eF f P s [])/\(∀ r,jn (eF f P s []) r↔jn f r/\rk r≠rk (rowAt f P s))/\(bM (f P s)=1->lone (eF f P s []) (f_ (f P s)) (ga (f P s))):=by
 have ne:∀ {Q u},eF f P s [] Q u≠[]->¬ (Q=P/\u=s):=λ{Q u} hq he=>hq (by grind [jJ])
 have tg:∀ {Q u},f Q u≠[]->bM (f Q u)=1->eF f P s [] (f_ (f Q u)) (ga (f Q u))=f (f_ (f Q u)) (ga (f Q u)):=λ{Q u} hq hf=>dN λhe=>U (by
  have:=(S.stub Q u hq hf).2
  grind)
 refine ⟨⟨λQ u hq=>?_,λQ u hq hf=>?_,λQ u R v hq hr f1 f2 e1 e2=>?_,λQ u R v hq hr f1 f2 e=>?_⟩,λr=>?_,λh1 Q u hq hf hh=>?_⟩
 ·have:=ne hq
  rw[dN this] at hq ⊢
  exact S.read Q u hq
 ·have:=ne hq
  rw[dN this] at hq hf ⊢
  rw[tg hq hf]
  exact S.stub Q u hq hf
 ·have n1:=ne hq
  have n2:=ne hr
  rw[dN n1] at hq f1 e1 e2
  rw[dN n2] at hr f2 e1 e2
  exact S.GV Q u R v hq hr f1 f2 e1 e2
 ·have g1:=dN (f:=f) (c:=[]) (ne hq)
  have g2:=dN (f:=f) (c:=[]) (ne hr)
  rw[g1] at hq f1
  rw[g2] at hr f2
  rw[lB g1 (tg hq),lB g2 (tg hr)] at e
  exact S.key Q u R v hq hr f1 f2 e
 ·constructor
  ·rintro ⟨Q,u,hq,f1,e⟩
   have n1:=ne hq
   have g1:=dN (f:=f) (c:=[]) n1
   rw[g1] at hq f1
   rw[lB g1 (tg hq)] at e
   refine ⟨⟨Q,u,hq,f1,e⟩,λhk=>n1 ?_⟩
   rw[<-e] at hk
   exact S.key Q u P s hq h0 f1 U hk
  ·rintro ⟨⟨Q,u,hq,f1,e⟩,hk⟩
   have g1:eF f P s [] Q u=f Q u:=dN λhe=>hk (by grind)
   exact ⟨Q,u,by grind,by grind,by grind [lB]⟩
 ·have n1:=ne hq
  rw[dN n1] at hq hf hh
  exact n1 (S.GV Q u P s hq h0 hf h1 hh.1 hh.2)
theorem Cu {P s:Nat} {c:List UInt8} {r:Row} (h0:f P s=[]) (hc:(bF c).2=true) (hn:c≠[]) (hr:(bM c=0/\xE c=r)\/(bM c=1/\f (f_ c) (ga c)≠[]/\bM (f (f_ c) (ga c))=2/\lone f (f_ c) (ga c)/\xE (f (f_ c) (ga c))=r)) (hk:∀ r',jn f r'->rk r'≠rk r):lX (eF f P s c)/\(∀ r',jn (eF f P s c) r'↔jn f r'\/r'=r):=by
 have off:∀ {Q u},f Q u≠[]->eF f P s c Q u=f Q u:=λ{Q u} hq=>dN λ⟨e1,e2⟩=>hq (by grind)
 have row:∀ {Q u},f Q u≠[]->rowAt (eF f P s c) Q u=rowAt f Q u:=λ{Q u} hq=>lB (off hq) λhf=>off (S.stub Q u hq hf).1
 have U:bM c≠2:=by grind
 have LP:rowAt (eF f P s c) P s=r:=by
  grind [rowAt,jJ]
 have cut:∀ {Q u},eF f P s c Q u≠[]->(Q=P/\u=s)\/(f Q u≠[]/\eF f P s c Q u=f Q u):=λ{Q u} hq=>by
  grind [dN]
 refine ⟨⟨λQ u hq=>?_,λQ u hq hf=>?_,λQ u R v hq hv f1 f2 e1 e2=>?_,λQ u R v hq hv f1 f2 e=>?_⟩,λr'=>?_⟩
 ·rcases cut hq with ⟨rfl,rfl⟩ | ⟨a,e⟩
  ·grind [jJ]
  ·rw[e];exact S.read Q u a
 ·rcases cut hq with ⟨rfl,rfl⟩ | ⟨a,e⟩
  ·grind [jJ]
  ·rw[e] at hf ⊢
   obtain ⟨b1,b2⟩:=S.stub Q u a hf
   grind
 ·rcases cut hq with ⟨rfl,rfl⟩ | ⟨a,g1⟩
  ·rcases cut hv with ⟨rfl,rfl⟩ | ⟨b,g2⟩
   ·grind
   ·rw[jJ] at f1 e1 e2
    rw[g2] at f2 e1 e2
    rcases hr with ⟨h,_⟩ | ⟨h,_,_,h5,_⟩
    ·grind
    ·exact absurd ⟨e1.symm,e2.symm⟩ (h5 R v b f2)
  ·rcases cut hv with ⟨rfl,rfl⟩ | ⟨b,g2⟩
   ·rw[jJ] at f2 e1 e2
    rw[g1] at f1 e1 e2
    rcases hr with ⟨h,_⟩ | ⟨h,_,_,h5,_⟩
    ·grind
    ·exact absurd ⟨e1,e2⟩ (h5 Q u a f1)
   ·rw[g1] at f1 e1 e2
    rw[g2] at f2 e1 e2
    exact S.GV Q u R v a b f1 f2 e1 e2
 ·rcases cut hq with ⟨rfl,rfl⟩ | ⟨a,g1⟩
  ·rcases cut hv with ⟨rfl,rfl⟩ | ⟨b,g2⟩
   ·grind
   ·rw[g2] at f2
    rw[LP,row b] at e
    exact absurd e.symm (hk _ ⟨R,v,b,f2,rfl⟩)
  ·rcases cut hv with ⟨rfl,rfl⟩ | ⟨b,g2⟩
   ·rw[g1] at f1
    rw[LP,row a] at e
    exact absurd e (hk _ ⟨Q,u,a,f1,rfl⟩)
   ·rw[g1] at f1
    rw[g2] at f2
    rw[row a,row b] at e
    exact S.key Q u R v a b f1 f2 e
 ·constructor
  ·rintro ⟨Q,u,hq,f1,e⟩
   rcases cut hq with ⟨rfl,rfl⟩ | ⟨a,g1⟩
   ·grind
   ·rw[g1] at f1
    rw[row a] at e
    exact .inl ⟨Q,u,a,f1,e⟩
  ·rintro (⟨Q,u,hq,f1,e⟩ | rfl)
   ·exact ⟨Q,u,by grind,by grind,by grind⟩
   ·exact ⟨P,s,by grind [jJ],by grind [jJ],LP⟩
end
theorem xH {n:Int} (h:0<=n) (U:n < 256):((UInt8.ofInt n).toNat:Int)=n:=by
 have:n=((n.toNat:Nat):Int):=by omega
 grind [mu,ofNat_toNat]
theorem Iy {n:Nat} (hn:n=0\/n=2) {r:Row} (hr:cP r=0):bF (aM n r)=(((0:Int),(n:Int),(0:Int),(0:Int),r,()),true):=by
 obtain ⟨h1,U,h3,h4⟩:=qn hr
 have h5:=nA h4
 have hl:(aM n r).length=6+List.length r.2.2.2.1:=by grind [aM]
 have b0:pb (aM n r) 0=n:=by
  show (UInt8.ofNat n).toNat=n
  grind [ofNat_toNat]
 have b1:(pb (aM n r) 1:Int)=r.1:=by
  show ((UInt8.ofInt r.1).toNat:Int)=r.1
  grind [xH]
 have b2:(pb (aM n r) 2:Int)=r.2.1:=by
  show ((UInt8.ofInt r.2.1).toNat:Int)=r.2.1
  grind [xH]
 have b3:(pb (aM n r) 3:Int)=r.2.2.1 / 256:=by
  show ((UInt8.ofInt (r.2.2.1 / 256)).toNat:Int)=_
  grind [xH]
 have b4:(pb (aM n r) 4:Int)=r.2.2.1 % 256:=by
  show ((UInt8.ofInt (r.2.2.1 % 256)).toNat:Int)=_
  grind [xH]
 have b5:(pb (aM n r) 5:Int)=(List.length r.2.2.2.1:Int):=by
  show ((UInt8.ofInt (List.length r.2.2.2.1:Int)).toNat:Int)=_
  grind [xH]
 have hd:(aM n r).drop 6=r.2.2.2.1:=rfl
 grind [mt,bF]
theorem Iz {P t:Nat} (hP:P<=11) (ht:t<=15):bF (cn P t)=(((0:Int),(1:Int),(P:Int),(t:Int),sR,()),true):=by
 have b1:pb (cn P t) 1=P:=by
  show (UInt8.ofNat P).toNat=P
  grind [ofNat_toNat]
 have b2:pb (cn P t) 2=t:=by
  show (UInt8.ofNat t).toNat=t
  grind [ofNat_toNat]
 unfold bF
 rw[if_pos ⟨rfl,rfl⟩,b1,b2,decide_eq_true hP,decide_eq_true ht]
 rfl
theorem IA {d:List UInt8} (h:(bF d).2=true) (h1:bM d=1):d=cn (f_ d) (ga d)/\f_ d<=11/\ga d<=15:=by
 unfold bM at h1
 unfold f_ ga
 unfold bF at h h1 ⊢
 split at h
 ·rename_i hc
  rw[if_pos hc]
  simp only[Bool.and_eq_true,decide_eq_true_eq] at h
  refine ⟨?_,by simpa using h.1,by simpa using h.2⟩
  refine sP (by rw[hc.1];rfl) λj hj=>?_
  rw[hc.1] at hj
  have e1:=fE d 1
  have e2:=fE d 2
  match j,hj with
  | 0,_=>rw[hc.2];rfl
  | 1,_=>show _=(UInt8.ofNat _).toNat;grind [ofNat_toNat]
  | 2,_=>show _=(UInt8.ofNat _).toNat;grind [ofNat_toNat]
 grind
end OT
set_option linter.unusedVariables false
set_option linter.unusedSimpArgs false
set_option linter.unusedSectionVars false
namespace OT
open Go
theorem s9 {xs:List Row} {k:Int×Int} (hu:up xs) {i:Nat} (hi:i < xs.length) (hk:rk xs[i]=k):eS xs k=true/\pos xs k=i:=by
 have h1:¬ i < pos xs k:=λav=>by
  have:=uK xs k i hi av
  rw[hk,dQ] at this
  cases this
 have hp:pos xs k < xs.length:=by omega
 have U:pos xs k=i:=by
  by_cases he:pos xs k=i
  ·exact he
  ·have h3:=List.pairwise_iff_getElem.1 hu (pos xs k) i hp hi (by omega)
   have h4:=pO xs k (pos xs k) hp hu (Nat.le_refl _)
   rw[hk] at h3
   rw[h3] at h4
   cases h4
 refine ⟨?_,U⟩
 unfold eS
 rw[U,List.getElem?_eq_getElem hi]
 simpa using hk
theorem zo {xs:List Row} (hu:up xs) (c:Change) (r:Row):r ∈ lL xs c↔(r ∈ xs/\rk r≠ck c)\/(c.2.2.1=true/\r=c.2.2.2.1):=by
 have key:(r ∈ xs.take (pos xs (ck c))\/r ∈ xs.drop (pos xs (ck c)+if eS xs (ck c) then 1 else 0))↔(r ∈ xs/\rk r≠ck c):=by
  constructor
  ·rintro (h | h)
   ·exact ⟨List.mem_of_mem_take h,λhe=>by have:=sT h;rw[he,dQ] at this;cases this⟩
   ·refine ⟨List.mem_of_mem_drop h,λhe=>?_⟩
    obtain ⟨i,hi,hr⟩:=List.getElem_of_mem h
    rw[List.getElem_drop] at hr
    rw[List.length_drop] at hi
    obtain ⟨f1,f2⟩:=s9 hu (i:=pos xs (ck c)+(if eS xs (ck c) then 1 else 0)+i) (k:=ck c) (by omega) (by rw[hr];exact he)
    rw[f1] at f2
    simp only[if_true] at f2
    omega
  ·rintro ⟨h,dI⟩
   obtain ⟨i,hi,hr⟩:=List.getElem_of_mem h
   by_cases h1:i < pos xs (ck c)
   ·left
    rw[List.mem_take_iff_getElem]
    exact ⟨i,by omega,hr⟩
   ·right
    rw[List.mem_drop_iff_getElem]
    by_cases hf:eS xs (ck c)=true
    ·rw[if_pos hf]
     obtain ⟨hp,hk⟩:=qT hf
     have:i≠pos xs (ck c):=λhe=>dI (by subst he;rw[<-hr];exact hk)
     exact ⟨i - (pos xs (ck c)+1),by omega,by rw[<-hr];congr 1;omega⟩
    ·rw[if_neg hf]
     exact ⟨i - (pos xs (ck c)+0),by omega,by rw[<-hr];congr 1;omega⟩
 unfold lL
 rw[List.mem_append,List.mem_append]
 constructor
 ·rintro ((h | h) | h)
  ·exact .inl (key.1 (.inl h))
  ·cases hi:c.2.2.1 with
   | true=>rw[hi] at h;exact .inr ⟨rfl,List.mem_singleton.1 h⟩
   | false=>rw[hi] at h;cases h
  ·exact .inl (key.1 (.inr h))
 ·rintro (h | ⟨hi,rfl⟩)
  ·rcases key.2 h with h | h
   ·exact .inl (.inl h)
   ·exact .inr h
  ·rw[hi];exact .inl (.inr (List.mem_singleton.2 rfl))
theorem AP {a b:Row} (h:Ty.eq aE a b=true):a=b:=by
 have e:Ty.eq aE a b=(decide (a.1=b.1)&&(decide (a.2.1=b.2.1)&&(decide (a.2.2.1=b.2.2.1)&&(decide (a.2.2.2.1=b.2.2.2.1)&&true)))):=rfl
 rw[e] at h
 simp only[Bool.and_eq_true,decide_eq_true_eq,and_true] at h
 obtain ⟨J,a2,a3,a4,⟨⟩⟩:=a
 obtain ⟨b1,b2,b3,b4,⟨⟩⟩:=b
 obtain ⟨h1,U,h3,h4⟩:=h
 simp only at h1 U h3 h4
 rw[h1,U,h3,h4]
end OT
set_option linter.unusedVariables false
set_option linter.unusedSimpArgs false
set_option linter.unusedSectionVars false
namespace OT
open Go
def aW (ps:aH):am:=(ps,([]:List bW),())
theorem iK {ps:aH} (h:eA ps):okW (aW ps) 0:=⟨h,Nat.le_refl _,λe he=>by cases he⟩
theorem IB {ps:aH} (h:eA ps):gp ps:=⟨h.1,λp hp=>(h.2 p hp).len⟩
theorem s_ {ps:aH} (h:eA ps):eN.aa (ps,())=some (aW ps,()):=by
 refine aj (k:=0) λk _=>(eN.af k _).trans ?_
 show eN.p _=_
 unfold eN.p
 rw[CP ps (IB h)]
 rfl
theorem EU {ps:aH} (h:eA ps):kd.aa (ps,())=some (aW ps,()):=by
 refine aj (k:=0) λk _=>(kd.af k _).trans ?_
 show kd.p _=_
 unfold kd.p
 rw[wu ps (IB h)]
 rfl
def lY (k:Int):bI:=(k,([]:List bW),([]:List (List UInt8)),())
def jW (ok:Bool) (w:am):bI:=if ok then ((0:Int),w.2.1,w.1,()) else lY 9
theorem lC (k:Int):bY.aa (k,())=some (lY k,()):=aj (k:=0) λq _=>(bY.af q _).trans rfl
theorem ta (w:am):eu.aa (w,())=some (jW true w,()):=aj (k:=0) λq _=>(eu.af q _).trans rfl
theorem yJ (w:am):eY.aa (w,())=some (jW true w,()):=aj (k:=0) λq _=>(eY.af q _).trans rfl
theorem tc (w:am) (ok:Bool):f0.aa (w,ok,())=some (jW ok w,()):=by
 refine aj (k:=0) λk _=>(f0.af k _).trans ?_
 show f0.p _=_
 unfold f0.p
 rw[yJ]
 cases ok <;> rfl
def kH (w:am) (r:Row):Option (Nat×Nat)×am:=dU w (-1) (aM 0 r)
theorem GW {w:am} {n:Nat} (h:okW w n) {r:Row} (hr:cP r=0):AM w n 25 (aM 0 r) (kH w r):=
 kj h (cw hr).1 (by grind [cw]) _
theorem IC {w:am} {n:Nat} (h:okW w n) (hn:n<=800) {r:Row} (hr:cP r=0):gZ.aa (w,r,())=some ((kH w r).1.isSome,(kH w r).2,()):=by
 refine aj (k:=0) λk _=>(gZ.af k _).trans ?_
 grind [gZ.p,aM,un,xD,cw,mz,kH]
theorem AQ {ps:aH} (h:eA ps) {r:Row} (hr:cP r=0):fU.aa (ps,r,())=some (jW (kH (aW ps) r).1.isSome (kH (aW ps) r).2,()):=by
 refine aj (k:=0) λk _=>(fU.af k _).trans ?_
 show fU.p _=_
 unfold fU.p
 have e:bO.aa ((0:Int),r,())=some (aM 0 r,()):=lA (f:=0) hr
 simp only[e,s_ h,Option.bind_some,sY (iK h) (by omega) (cw hr).1 (show (aM 0 r).length<=20 by grind [cw]),lC,ta]
 unfold mz kH
 cases (dU (aW ps) (-1) (aM 0 r)).1 <;> rfl
def gH (w:am) (P s A B:Nat) (mv:Bool) (r:Row):Bool×am:=
 if (b_ w A B (aM (bif mv then 2 else 0) r)).1=true then (true,(b_ w A B (aM (bif mv then 2 else 0) r)).2)
 else match (dU (b_ w A B (aM (bif mv then 2 else 0) r)).2 (A:Int) (aM 2 r)).1 with
  | none=>(false,(dU (b_ w A B (aM (bif mv then 2 else 0) r)).2 (A:Int) (aM 2 r)).2)
  | some a=>(true,bif mv then eQ (b_ (dU (b_ w A B (aM (bif mv then 2 else 0) r)).2 (A:Int) (aM 2 r)).2 P s (cn a.1 a.2)).2 A B else (b_ (dU (b_ w A B (aM (bif mv then 2 else 0) r)).2 (A:Int) (aM 2 r)).2 P s (cn a.1 a.2)).2)
theorem c6 {f:Nat} {r:Row}:aM f r≠[]:=by grind [aM]
theorem ik (P t:Nat):(cn P t).length=3:=rfl
theorem ko {w:am} {n m:Nat} {c:List UInt8} {r:Option (Nat×Nat)×am} (R:AM w n m c r) {Q t:Nat} (h:ax w.1 Q t≠[]) (hc:c≠[]):ax r.2.1 Q t≠[]:=by
 cases hr:r.1 with
 | none=>rw[(R.no hr).2];exact h
 | some a=>
  rw[(R.yes a.1 a.2 hr).2.2.2]
  grind
theorem fP {w:am} {n P s:Nat} {c:List UInt8} {r:Bool×am} (R:Ki w n P s c r) {Q t:Nat} (h:ax w.1 Q t≠[]) (hc:c≠[]):ax r.2.1 Q t≠[]:=by
 cases hr:r.1 with
 | false=>rw[R.no hr];exact h
 | true=>
  rw[R.yes hr]
  grind
section
variable {w:am} {n:Nat} (h:okW w n) (hn:n<=400) {P s A B:Nat} (h1:ax w.1 P s≠[]) (U:ax w.1 A B≠[]) (mv:Bool) {r:Row} (hr:cP r=0)
include h hn h1 U hr
theorem rW:okW (gH w P s A B mv r).2 (n+40):=by
 have R1:=iI h U (cw (f:=bif mv then 2 else 0) hr).1
 have R2:=kj R1.ok (cw (f:=2) hr).1 (by grind [cw]) (A:Int)
 unfold gH
 split
 ·exact R1.ok.mono (by omega)
 ·split
  ·exact R2.ok.mono (by omega)
  ·rename_i a ha
   have k1:=ko R2 (fP R1 h1 c6) c6
   have k2:=ko R2 (fP R1 U c6) c6
   have R3:=iI R2.ok k1 (c:=cn a.1 a.2) (by rw[ik];omega)
   cases mv with
   | false=>exact R3.ok.mono (by omega)
   | true=>
    have k3:=fP R3 k2 (by grind [cn])
    exact (kh R3.ok k3).1.mono (by omega)
theorem AS (r0:Row):eg.aa (w,(r0,(P:Int),(s:Int),mv,(A:Int),(B:Int),()),r,())=some (if Ty.eq aE r0 r=true then (true,w,()) else ((gH w P s A B mv r).1,(gH w P s A B mv r).2,())):=by
 refine aj (k:=0) λk _=>(eg.af k _).trans ?_
 show eg.p _=_
 unfold eg.p
 show (bif Ty.eq aE r0 r then _ else _)=_
 cases Ty.eq aE r0 r with
 | true=>rfl
 | false=>
  have rz:∀ f,(aM f r).length<=20:=λf=>by grind [cw]
  have l1:∀ f,1<=(aM f r).length:=λf=>(cw (f:=f) hr).1
  have main:∀ f:Nat,f=(bif mv then 2 else 0)->((gK.aa ((f:Int),r,())).bind λk_=>(fy.aa (w,(A:Int),(B:Int),k_.1,())).bind λpB=>bif pB.1 then (some (true,pB.2.1,()):Option eg.Out) else (gK.aa ((2:Int),r,())).bind λsN=>(cm.aa (pB.2.1,sN.1,(A:Int),())).bind λsO=>bif !sO.2.2.1 then (some (false,sO.2.2.2.1,())) else (l6.aa (sO.1,sO.2.1,())).bind λAl=>(fy.aa (sO.2.2.2.1,(P:Int),(s:Int),Al.1,())).bind λAm=>bif mv then ((dV.aa (Am.2.1,(A:Int),(B:Int),())).bind λwr=>some (true,wr.1,())) else some (true,Am.2.1,()))=some ((gH w P s A B mv r).1,(gH w P s A B mv r).2,()):=by
   intro f hf
   have R1:=iI h U (l1 f)
   have R2:=kj R1.ok (l1 2) (rz 2) (A:Int)
   have e2:gK.aa ((2:Int),r,())=some (aM 2 r,()):=un (f:=2) hr
   unfold gH
   rw[<-hf]
   simp only[un (f:=f) hr,e2,Option.bind_some,xB h (by omega) U (l1 f) (rz f)]
   cases hb:(b_ w A B (aM f r)).1 with
   | true=>grind
   | false=>
    simp only[cond_false,Bool.false_eq_true,if_false,xD R1.ok (show n+2<=800 by omega) (l1 2) (rz 2),Option.bind_some]
    unfold mz
    cases hg:(dU (b_ w A B (aM f r)).2 (A:Int) (aM 2 r)).1 with
    | none=>rfl
    | some a=>
     have k1:=ko R2 (fP R1 h1 c6) c6
     have k2:=ko R2 (fP R1 U c6) c6
     have l3:1<=(cn a.1 a.2).length:=by rw[ik];omega
     have R3:=iI R2.ok k1 l3
     have k3:=fP R3 k2 (by grind)
     simp only[Bool.not_true,cond_false,FT,Option.bind_some,xB R2.ok (show n+2+25<=900 by omega) k1 l3 (show (cn a.1 a.2).length<=20 by rw[ik];omega)]
     cases mv with
     | false=>rfl
     | true=>simp only[cond_true,rn R3.ok (show n+2+25+2<=900 by omega) k3,Option.bind_some]
  grind
theorem FU (x:ai) (x3:x.2.2.1.2.2.1=(A:Int)) (x4:x.2.2.1.2.2.2.1=(B:Int)) (x1:x.1=(P:Int)) (x2:x.2.1=(s:Int)):j_.aa (w,x,r,())=some ((gH w P s A B true r).1,(gH w P s A B true r).2,()):=by
 refine aj (k:=0) λk _=>(j_.af k _).trans ?_
 show j_.p _=_
 unfold j_.p
 have rz:∀ f,(aM f r).length<=20:=λf=>by grind [cw]
 have l1:∀ f,1<=(aM f r).length:=λf=>(cw (f:=f) hr).1
 have R1:=iI h U (l1 2)
 have R2:=kj R1.ok (l1 2) (rz 2) (A:Int)
 have e2:bO.aa ((2:Int),r,())=some (aM 2 r,()):=lA (f:=2) hr
 unfold gH
 simp only[e2,x1,x2,x3,x4,Option.bind_some,pT h (by omega) U (l1 2) (rz 2),cond_true]
 cases hb:(b_ w A B (aM 2 r)).1 with
 | true=>grind
 | false=>
  simp only[cond_false,Bool.false_eq_true,if_false,sY R1.ok (show n+2<=800 by omega) (l1 2) (rz 2),Option.bind_some]
  unfold mz
  cases hg:(dU (b_ w A B (aM 2 r)).2 (A:Int) (aM 2 r)).1 with
  | none=>rfl
  | some a=>
   have k1:=ko R2 (fP R1 h1 c6) c6
   have k2:=ko R2 (fP R1 U c6) c6
   have l3:1<=(cn a.1 a.2).length:=by rw[ik];omega
   have R3:=iI R2.ok k1 l3
   have k3:=fP R3 k2 (by grind)
   simp only[Bool.not_true,cond_false,qE,Option.bind_some,pT R2.ok (show n+2+25<=900 by omega) k1 l3 (show (cn a.1 a.2).length<=20 by rw[ik];omega),rm R3.ok (show n+2+25+2<=900 by omega) k3]
end
def oG (ps:aH) (x:ai) (r:Row):bI:=
 if Ty.eq aE (bS x) r=true then jW true (aW ps) else
  jW (gH (aW ps) x.1.toNat x.2.1.toNat (if bR x=1 then ir x else x.1).toNat (if bR x=1 then it x else x.2.1).toNat (decide (bR x=1)) r).1 (gH (aW ps) x.1.toNat x.2.1.toNat (if bR x=1 then ir x else x.1).toNat (if bR x=1 then it x else x.2.1).toNat (decide (bR x=1)) r).2
theorem wa {ps:aH} (h:nS ps) {x:ai} (hx:x ∈ c_ ps) {r:Row} (hr:cP r=0):dZ.aa (ps,x,r,())=some (oG ps x r,()):=by
 obtain ⟨P,s,x1,x2,c1,c2,c3⟩:=zn h hx
 have ho:=iK h.right
 refine aj (k:=0) λk _=>(dZ.af k _).trans ?_
 show dZ.p _=_
 unfold dZ.p oG
 simp only[s_ h.right,ta,lC,Option.bind_some]
 show (bif Ty.eq aE (bS x) r then _ else _)=_
 cases Ty.eq aE (bS x) r with
 | true=>rfl
 | false=>
  simp only[cond_false,Bool.false_eq_true,if_false]
  show (bif decide (bR x=1) then _ else _)=_
  by_cases hf:bR x=1
  ·obtain ⟨Q,t,x3,x4,c4,c5⟩:=c2 hf
   rw[decide_eq_true hf,cond_true,FU ho (by omega) c1 c4 hr x x3 x4 x1 x2]
   simp only[if_pos hf,x1,x2,x3,x4,Int.toNat_natCast,Option.bind_some]
   cases (gH (aW ps) P s Q t true r).1 <;> rfl
  ·rw[decide_eq_false hf,cond_false]
   simp only[if_neg hf,x1,x2,Int.toNat_natCast]
   have rz:∀ f,(aM f r).length<=20:=λf=>by grind [cw]
   have l1:∀ f,1<=(aM f r).length:=λf=>(cw (f:=f) hr).1
   have R1:=iI ho c1 (l1 0)
   have R2:=kj R1.ok (l1 2) (rz 2) (P:Int)
   have e0:bO.aa ((0:Int),r,())=some (aM 0 r,()):=lA (f:=0) hr
   have e2:bO.aa ((2:Int),r,())=some (aM 2 r,()):=lA (f:=2) hr
   unfold gH
   simp only[e0,e2,Option.bind_some,pT ho (by omega) c1 (l1 0) (rz 0),cond_false]
   cases hb:(b_ (aW ps) P s (aM 0 r)).1 with
   | true=>rfl
   | false=>
    simp only[cond_false,Bool.false_eq_true,if_false,sY R1.ok (show 0+2<=800 by omega) (l1 2) (rz 2),Option.bind_some]
    unfold mz
    cases hg:(dU (b_ (aW ps) P s (aM 0 r)).2 (P:Int) (aM 2 r)).1 with
    | none=>rfl
    | some a=>
     have k1:=ko R2 (fP R1 c1 c6) c6
     have l3:1<=(cn a.1 a.2).length:=by rw[ik];omega
     simp only[Bool.not_true,cond_false,qE,Option.bind_some,pT R2.ok (show 0+2+25<=900 by omega) k1 l3 (show (cn a.1 a.2).length<=20 by rw[ik];omega)]
theorem FV {ps:aH} (h:nS ps) {x:ai} (hx:x ∈ c_ ps) {r:Row} (hr:cP r=0):((eg.aa (aW ps,i7 x,r,())).bind λpB=>f0.aa (pB.2.1,pB.1,()))=some (oG ps x r,()):=by
 obtain ⟨P,s,x1,x2,c1,c2,c3⟩:=zn h hx
 have ho:=iK h.right
 unfold oG
 by_cases hf:bR x=1
 ·obtain ⟨Q,t,x3,x4,c4,c5⟩:=c2 hf
  have hc:i7 x=(bS x,(P:Int),(s:Int),true,(Q:Int),(t:Int),()):=by grind [i7]
  rw[hc,AS ho (by omega) c1 c4 true hr (bS x),decide_eq_true hf]
  grind [Int.toNat_natCast,tc]
 ·have hc:i7 x=(bS x,(P:Int),(s:Int),false,(P:Int),(s:Int),()):=by grind [i7]
  rw[hc,AS ho (by omega) c1 c1 false hr (bS x),decide_eq_false hf]
  grind [tc]
def xI (ps:aH) (x:ai):bI:=jW true (if bR x=1 then eQ (eQ (aW ps) x.1.toNat x.2.1.toNat) (ir x).toNat (it x).toNat else eQ (aW ps) x.1.toNat x.2.1.toNat)
theorem Km {ps:aH} (h:nS ps) {x:ai} (hx:x ∈ c_ ps):∃ P s:Nat,x.1=(P:Int)/\x.2.1=(s:Int)/\ax ps P s≠[]/\(bR x=1->∃ Q t:Nat,ir x=(Q:Int)/\it x=(t:Int)/\ax (eQ (aW ps) P s).1 Q t≠[]):=by
 obtain ⟨P,s,x1,x2,c1,c2,c3⟩:=zn h hx
 refine ⟨P,s,x1,x2,c1,λhf=>?_⟩
 obtain ⟨Q,t,x3,x4,c4,c5⟩:=c2 hf
 refine ⟨Q,t,x3,x4,?_⟩
 rw[(kh (iK h.right) c1).2.2,if_neg]
 ·exact c4
 grind
theorem AT {ps:aH} (h:nS ps) {x:ai} (hx:x ∈ c_ ps):fV.aa (ps,x,())=some (xI ps x,()):=by
 obtain ⟨P,s,x1,x2,c1,c2⟩:=Km h hx
 have ho:=iK h.right
 have hd:=(kh ho c1).1
 refine aj (k:=0) λk _=>(fV.af k _).trans ?_
 show fV.p _=_
 unfold fV.p xI
 simp only[s_ h.right,ta,Option.bind_some,x1,x2,rm ho (by omega) c1,Int.toNat_natCast]
 show (bif decide (bR x=1) then _ else _)=_
 by_cases hf:bR x=1
 ·obtain ⟨Q,t,x3,x4,c4⟩:=c2 hf
  rw[decide_eq_true hf,cond_true,if_pos hf]
  have e3:x.2.2.1.2.2.1=(Q:Int):=x3
  have e4:x.2.2.1.2.2.2.1=(t:Int):=x4
  grind [rm]
 grind
theorem ID {ps:aH} (h:nS ps) {x:ai} (hx:x ∈ c_ ps):((eZ.aa (aW ps,i7 x,())).bind λJX=>eY.aa (JX.1,()))=some (xI ps x,()):=by
 obtain ⟨P,s,x1,x2,c1,c2⟩:=Km h hx
 have ho:=iK h.right
 have hd:=(kh ho c1).1
 have e:eZ.aa (aW ps,i7 x,())=some (if bR x=1 then eQ (eQ (aW ps) x.1.toNat x.2.1.toNat) (ir x).toNat (it x).toNat else eQ (aW ps) x.1.toNat x.2.1.toNat,()):=by
  refine aj (k:=0) λk _=>(eZ.af k _).trans ?_
  show eZ.p _=_
  unfold eZ.p i7
  simp only[x1,x2,Int.toNat_natCast]
  rw[rn ho (by omega) c1]
  grind [rn]
 rw[e,Option.bind_some,yJ]
 rfl
end OT
set_option linter.unusedVariables false
set_option linter.unusedSimpArgs false
set_option linter.unusedSectionVars false
namespace OT
open Go
def kL (f:gO) (P s:Nat):gO:=if bM (f P s)=1 then eF (eF f P s []) (f_ (f P s)) (ga (f P s)) [] else eF f P s []
theorem EV {f:gO} (S:lX f) {P s:Nat} (h0:f P s≠[]) (U:bM (f P s)≠2):lX (kL f P s)/\(∀ r,jn (kL f P s) r↔jn f r/\rk r≠rk (rowAt f P s)):=by
 obtain ⟨S1,r1,l1⟩:=Ct S h0 U
 unfold kL
 split
 ·rename_i hf
  obtain ⟨J,a2⟩:=S.stub P s h0 hf
  grind [Ix,dN]
 grind
theorem Kn (f:gO) (P s:Nat):kL f P s P s=[]:=by
 unfold kL
 grind [eF]
theorem drop_nil {f:gO} {P s Q t:Nat} (h:f Q t=[]):kL f P s Q t=[]:=by
 have one:∀ (g:gO) (A B:Nat),g Q t=[]->eF g A B [] Q t=[]:=λg A B hg=>by
  grind [jJ,dN]
 unfold kL
 grind
theorem xJ {n:Nat} (hn:n=0\/n=2) {r:Row} (hr:cP r=0):(bF (aM n r)).2=true/\bM (aM n r)=n/\xE (aM n r)=r:=by
 grind [bM,xE,Iy]
theorem EW {h:gO} (S:lX h) {P s:Nat} (h0:h P s=[]) {r:Row} (hr:cP r=0) (hk:∀ r',jn h r'->rk r'≠rk r):lX (eF h P s (aM 0 r))/\(∀ r',jn (eF h P s (aM 0 r)) r'↔jn h r'\/r'=r):=by
 simp_all [xJ,Cu,c6]
theorem GX {h:gO} (S:lX h) {P s X Y:Nat} (h0:h P s=[]) (h1:h X Y=[]) (dI:¬ (X=P/\Y=s)) (hX:X<=11) (hY:Y<=15) {r:Row} (hr:cP r=0) (hk:∀ r',jn h r'->rk r'≠rk r):lX (eF (eF h X Y (aM 2 r)) P s (cn X Y))/\(∀ r',jn (eF (eF h X Y (aM 2 r)) P s (cn X Y)) r'↔jn h r'\/r'=r):=by
 obtain ⟨c1,c2,c3⟩:=xJ (n:=2) (.inr rfl) hr
 obtain ⟨S1,r1,l1⟩:=Cs S h1 c1 c2
 have hs:=Iz hX hY
 have e1:bM (cn X Y)=1:=by grind [bM]
 have e2:f_ (cn X Y)=X:=by grind [f_]
 have e3:ga (cn X Y)=Y:=by grind [ga]
 have:=Cu S1 (P:=P) (s:=s) (c:=cn X Y) (r:=r) (by grind [dN]) (by rw[hs]) (by grind [cn])
  (.inr ⟨e1,by grind [jJ,c6],by grind [jJ],by grind,by grind [jJ]⟩) (λr' Qb=>hk r' ((r1 r').1 Qb))
 grind
theorem iW {ps:aH} {g:gO} (h:∀ Q t,ax ps Q t=g Q t):ax ps=g:=funext λQ=>funext λt=>h Q t
theorem yd {ps:aH} (hv:a7 ps=0) {x:ai} (hx:x ∈ c_ ps):∃ P s:Nat,ax ps P s≠[]/\bM (ax ps P s)≠2/\x.1=(P:Int)/\x.2.1=(s:Int)/\bR x=bM (ax ps P s)/\ir x=(f_ (ax ps P s):Int)/\it x=(ga (ax ps P s):Int)/\bS x=rowAt (ax ps) P s:=by
 have V:=dv hv
 have S:=(eE.1 hv).2
 unfold c_ at hx
 obtain ⟨y,hy,mI⟩:=List.mem_flatMap.1 hx
 obtain ⟨P,s,c1,rfl⟩:=(jh V.right).1 hy
 unfold jU at mI
 split at mI
 ·cases mI
 ·rename_i f1
  have sE:=List.mem_singleton.1 mI
  have e:=nB V.right P s λhf=>(S.stub P s c1 hf).1
  obtain ⟨t1,t2⟩:=xF (ax ps P s)
  refine ⟨P,s,c1,f1,?_⟩
  rw[sE]
  refine ⟨?_,?_,?_,?_,?_,e⟩
  all_goals (unfold oB;split)
  all_goals first | rfl | exact t1 | exact t2
theorem EX {w:am} {n P s:Nat} (h:okW w n) (gr:ax w.1 P s≠[]) {c:List UInt8} (hc:c.length<=(ax w.1 P s).length):(b_ w P s c).1=true:=by
 obtain ⟨hP,hs,hz⟩:=kG h.cv gr
 have hp:=ij h.cv hP
 grind [ax,cellOf,ii,jT,b_]
theorem Cv {d:List UInt8} (h:(bF d).2=true):3<=d.length:=by
 grind [bF]
theorem LQ {ps:aH} (hv:a7 ps=0) {r:Row} (hr:cP r=0) (hk:∀ r' ∈ aq ps,rk r'≠rk r) {a:Nat×Nat} (ha:(kH (aW ps) r).1=some a):a7 (kH (aW ps) r).2.1=0/\∀ r',r' ∈ aq (kH (aW ps) r).2.1↔r' ∈ aq ps\/r'=r:=by
 obtain ⟨hR,S⟩:=eE.1 hv
 have R:=GW (iK hR) hr
 obtain ⟨y1,y2,y3,y4⟩:=R.yes a.1 a.2 ha
 have e:ax (kH (aW ps) r).2.1=eF (ax ps) a.1 a.2 (aM 0 r):=iW y4
 obtain ⟨S1,r1⟩:=EW S y3 hr λr' h'=>hk r' ((mA hv r').2 h')
 have Ko:a7 (kH (aW ps) r).2.1=0:=eE.2 ⟨R.ok.cv,by grind⟩
 grind [mA]
section
variable {ps:aH} (hv:a7 ps=0) {P s:Nat} (c1:ax ps P s≠[]) (c2:bM (ax ps P s)≠2)
include hv c1 c2
theorem Kp {r:Row} (hr:cP r=0) (mv:Bool) {A B:Nat} (hm:if mv then bM (ax ps P s)=1/\A=f_ (ax ps P s)/\B=ga (ax ps P s) else bM (ax ps P s)≠1/\A=P/\B=s) (uo:(gH (aW ps) P s A B mv r).1=true) :
  ∃ g:gO,ax (gH (aW ps) P s A B mv r).2.1=g/\(g=eF (kL (ax ps) P s) P s (aM 0 r)\/∃ X Y,kL (ax ps) P s X Y=[]/\¬ (X=P/\Y=s)/\X<=11/\Y<=15/\g=eF (eF (kL (ax ps) P s) X Y (aM 2 r)) P s (cn X Y)):=by
 obtain ⟨hR,S⟩:=eE.1 hv
 have ho:=iK hR
 have rz:∀ f,(aM f r).length<=20:=λf=>by grind [cw]
 have l1:∀ f,1<=(aM f r).length:=λf=>(cw (f:=f) hr).1
 have VP:ax ps A B≠[]/\(mv=true->bM (ax ps A B)=2/\¬ (A=P/\B=s)/\ax ps P s=cn A B/\A<=11/\B<=15):=by
  cases mv with
  | false=>grind
  | true=>
   obtain ⟨m1,m2,m3⟩:=hm
   obtain ⟨J,a2⟩:=S.stub P s c1 m1
   obtain ⟨b1,b2,b3⟩:=IA (S.read P s c1) m1
   grind
 obtain ⟨EY,SC⟩:=VP
 have hd:∀ Q t,kL (ax ps) P s Q t=if (Q=P/\t=s)\/(mv=true/\Q=A/\t=B) then [] else ax ps Q t:=by
  intro Q t
  unfold kL eF
  cases mv with
  | false=>
   simp_all
  | true=>
   obtain ⟨m1,m2,m3⟩:=hm
   rw[if_pos m1,<- m2,<- m3]
   grind
 have R1:=iI ho (P:=A) (s:=B) EY (l1 (bif mv then 2 else 0))
 have R2:=kj R1.ok (l1 2) (rz 2) (A:Int)
 refine ⟨_,rfl,?_⟩
 unfold gH at uo ⊢
 split at uo
 ·rename_i hb
  rw[if_pos hb]
  have e:=R1.yes hb
  cases mv with
  | false=>
   left
   obtain ⟨m1,m2,m3⟩:=hm
   refine iW λQ t=>?_
   rw[e Q t]
   unfold eF
   rw[m2,m3,hd]
   by_cases h:Q=P/\t=s
   ·grind
   ·rw[if_neg h,if_neg h,if_neg (λhh=>by grind)]
    rfl
  | true=>
   right
   obtain ⟨m4,m5,m6,m7,m8⟩:=SC rfl
   refine ⟨A,B,by grind,m5,m7,m8,iW λQ t=>?_⟩
   rw[e Q t]
   unfold eF
   rw[hd]
   by_cases h:Q=P/\t=s
   ·rw[if_pos h,if_neg (λhh=>m5 ⟨hh.1.symm.trans h.1,hh.2.symm.trans h.2⟩),h.1,h.2]
    exact m6
   ·rw[if_neg h]
    by_cases U:Q=A/\t=B
    ·grind
    ·rw[if_neg U,if_neg U,if_neg (λhh=>by grind)]
     rfl
 ·rename_i hb
  rw[if_neg hb]
  have Np:(b_ (aW ps) A B (aM (bif mv then 2 else 0) r)).1=false:=by simpa using hb
  have e:=R1.no Np
  cases hg:(dU (b_ (aW ps) A B (aM (bif mv then 2 else 0) r)).2 (A:Int) (aM 2 r)).1 with
  | none=>grind
  | some a=>
   obtain ⟨y1,y2,y3,y4⟩:=R2.yes a.1 a.2 hg
   rw[e] at y3
   have VQ:ax ps a.1 a.2=[]:=y3
   have k1:=ko R2 (fP R1 (Q:=P) (t:=s) c1 c6) c6
   have k2:=ko R2 (fP R1 (Q:=A) (t:=B) EY c6) c6
   have n1:¬ (a.1=P/\a.2=s):=λhe=>c1 (by grind)
   have n2:¬ (a.1=A/\a.2=B):=λhe=>EY (by grind)
   have R3:=iI R2.ok k1 (c:=cn a.1 a.2) (by rw[ik];omega)
   have kZ:ax (dU (b_ (aW ps) A B (aM (bif mv then 2 else 0) r)).2 (A:Int) (aM 2 r)).2.1 P s=ax ps P s:=by
    rw[y4,if_neg (λhe=>n1 ⟨he.1.symm,he.2.symm⟩),e];rfl
   have bk:=EX R2.ok k1 (c:=cn a.1 a.2) (by rw[kZ,ik];exact Cv (S.read P s c1))
   have e3:=R3.yes bk
   right
   refine ⟨a.1,a.2,drop_nil VQ,n1,by omega,by omega,iW λQ t=>?_⟩
   have base:∀ Q t,ax (b_ (dU (b_ (aW ps) A B (aM (bif mv then 2 else 0) r)).2 (A:Int) (aM 2 r)).2 P s (cn a.1 a.2)).2.1 Q t=if Q=P/\t=s then cn a.1 a.2 else if Q=a.1/\t=a.2 then aM 2 r else ax ps Q t:=λQ t=>by
    rw[e3,y4,e];rfl
   simp only
   unfold eF
   rw[hd]
   cases mv with
   | false=>
    grind
   | true=>
    obtain ⟨m4,m5,m6,m7,m8⟩:=SC rfl
    have k3:=fP R3 k2 (by grind [cn])
    show ax (eQ (b_ _ P s (cn a.1 a.2)).2 A B).1 Q t=_
    rw[(kh R3.ok k3).2.2,base]
    grind
theorem td {r:Row} (hr:cP r=0) (hk:rk (rowAt (ax ps) P s)=rk r) (mv:Bool) {A B:Nat} (hm:if mv then bM (ax ps P s)=1/\A=f_ (ax ps P s)/\B=ga (ax ps P s) else bM (ax ps P s)≠1/\A=P/\B=s) (ao:eA (gH (aW ps) P s A B mv r).2.1) (uo:(gH (aW ps) P s A B mv r).1=true) :
  a7 (gH (aW ps) P s A B mv r).2.1=0/\∀ r',r' ∈ aq (gH (aW ps) P s A B mv r).2.1↔(r' ∈ aq ps/\rk r'≠rk r)\/r'=r:=by
 obtain ⟨hR,S⟩:=eE.1 hv
 obtain ⟨S1,r1⟩:=EV S c1 c2
 rw[hk] at r1
 have iz:∀ r',jn (kL (ax ps) P s) r'->rk r'≠rk r:=λr' h'=>((r1 r').1 h').2
 obtain ⟨g,hg,Wi⟩:=Kp hv c1 c2 hr mv hm uo
 have fin:lX g/\∀ r',jn g r'↔jn (kL (ax ps) P s) r'\/r'=r:=by
  grind [EW,Kn,GX]
 have Ko:a7 (gH (aW ps) P s A B mv r).2.1=0:=eE.2 ⟨ao,by grind⟩
 grind [mA]
end
theorem EZ {xs:List Row} (h:(xs.map rk).Nodup):xs.Nodup:=List.Pairwise.of_map rk (λa b h he=>h (congrArg rk he)) h
theorem E0 {ps:aH} (hv:a7 ps=0) {x:ai} (hx:x ∈ c_ ps):∃ w:am,xI ps x=jW true w/\okW w 2/\a7 w.1=0/\∀ r',r' ∈ aq w.1↔r' ∈ aq ps/\rk r'≠rk (bS x):=by
 obtain ⟨hR,S⟩:=eE.1 hv
 obtain ⟨P,s,c1,c2,x1,x2,x3,x4,x5,x6⟩:=yd hv hx
 have ho:=iK hR
 obtain ⟨d1,d2,d3⟩:=kh ho c1
 obtain ⟨S1,r1⟩:=EV S c1 c2
 unfold xI
 rw[x1,x2,x4,x5,Int.toNat_natCast,Int.toNat_natCast,Int.toNat_natCast,Int.toNat_natCast,x3,x6]
 by_cases hf:bM (ax ps P s)=1
 ·rw[if_pos hf]
  obtain ⟨J,a2⟩:=S.stub P s c1 hf
  have ne:¬ (f_ (ax ps P s)=P/\ga (ax ps P s)=s):=λhe=>by
   grind
  have k1:ax (eQ (aW ps) P s).1 (f_ (ax ps P s)) (ga (ax ps P s))≠[]:=by rw[d3,if_neg ne];exact J
  obtain ⟨e1,e2,e3⟩:=kh d1 k1
  have e:ax (eQ (eQ (aW ps) P s) (f_ (ax ps P s)) (ga (ax ps P s))).1=kL (ax ps) P s:=iW λQ t=>by
   rw[e3,d3]
   unfold kL
   rw[if_pos hf]
   rfl
  have Ko:=eE.2 ⟨e1.cv,by grind⟩
  grind [mA]
 ·rw[if_neg hf]
  have e:ax (eQ (aW ps) P s).1=kL (ax ps) P s:=iW λQ t=>by
   rw[d3]
   unfold kL
   rw[if_neg hf]
   rfl
  have Ko:=eE.2 ⟨d1.cv,by grind⟩
  exact ⟨_,rfl,d1.mono (by omega),Ko,λr'=>by grind [mA]⟩
theorem Cw {ps:aH} (hv:a7 ps=0) {x:ai} (hx:x ∈ c_ ps) {r:Row} (hr:cP r=0) (hk:rk (bS x)=rk r):oG ps x r=lY 9\/∃ w:am,oG ps x r=jW true w/\okW w 40/\a7 w.1=0/\∀ r',r' ∈ aq w.1↔(r' ∈ aq ps/\rk r'≠rk r)\/r'=r:=by
 obtain ⟨hR,S⟩:=eE.1 hv
 obtain ⟨P,s,c1,c2,x1,x2,x3,x4,x5,x6⟩:=yd hv hx
 have ho:=iK hR
 have V:=dv hv
 unfold oG
 by_cases he:Ty.eq aE (bS x) r=true
 ·rw[if_pos he]
  right
  have Cf:bS x=r:=by
   exact AP he
  refine ⟨aW ps,rfl,ho.mono (by omega),hv,λr'=>?_⟩
  have gB:r ∈ aq ps:=by
   grind [ny,nR]
  constructor
  ·intro h
   by_cases f8:rk r'=rk r
   ·right
    have hn:=sU (gb V)
    exact qU hn h gB f8
   ·exact .inl ⟨h,f8⟩
  ·rintro (h | rfl)
   ·exact h.1
   ·exact gB
 ·rw[if_neg he]
  by_cases hf:bM (ax ps P s)=1
  ·obtain ⟨J,a2⟩:=S.stub P s c1 hf
   have hm:if (true:Bool) then bM (ax ps P s)=1/\f_ (ax ps P s)=f_ (ax ps P s)/\ga (ax ps P s)=ga (ax ps P s) else bM (ax ps P s)≠1/\f_ (ax ps P s)=P/\ga (ax ps P s)=s:=⟨hf,rfl,rfl⟩
   rw[x3,if_pos hf,if_pos hf,x1,x2,x4,x5,decide_eq_true hf,Int.toNat_natCast,Int.toNat_natCast,Int.toNat_natCast,Int.toNat_natCast]
   have ao:=rW ho (by omega) c1 J true hr
   cases hy:(gH (aW ps) P s (f_ (ax ps P s)) (ga (ax ps P s)) true r).1 with
   | false=>exact .inl rfl
   | true=>
    right
    obtain ⟨v1,v2⟩:=td hv c1 c2 hr (by grind) true hm ao.cv hy
    grind
  ·have hm:if (false:Bool) then bM (ax ps P s)=1/\P=f_ (ax ps P s)/\s=ga (ax ps P s) else bM (ax ps P s)≠1/\P=P/\s=s:=⟨hf,rfl,rfl⟩
   rw[x3,if_neg hf,if_neg hf,x1,x2,decide_eq_false hf,Int.toNat_natCast,Int.toNat_natCast]
   have ao:=rW ho (by omega) c1 c1 false hr
   cases hy:(gH (aW ps) P s P s false r).1 with
   | false=>exact .inl rfl
   | true=>
    right
    obtain ⟨v1,v2⟩:=td hv c1 c2 hr (by grind) false hm ao.cv hy
    grind
theorem rX {xs ys:List Row} (hx:up xs) (hy:up ys) (h:∀ r,r ∈ xs↔r ∈ ys):xs=ys:=by
 have n1:xs.Nodup:=EZ (sU hx)
 have n2:ys.Nodup:=EZ (sU hy)
 exact J_ ((List.perm_ext_iff_of_nodup n1 n2).2 h) hx hy
end OT
set_option linter.unusedVariables false
set_option linter.unusedSimpArgs false
set_option linter.unusedSectionVars false
namespace OT
open Go
def rp (ps:aH) (r:Row):bI:=
 if a7 ps=0 then (if cP r=0 then (match iJ ps r.1 r.2.1 with | some x=>oG ps x r | none=>lY 4) else lY (cP r)) else lY (a7 ps)
def nZ (ps:aH) (c:Change):bI:=
 if a7 ps=0 then
  if ig c=0 then
   match iJ ps (ck c).1 (ck c).2 with
   | some x=>if c.1&&Ty.eq aE (bS x) c.2.1 then (if c.2.2.1 then oG ps x c.2.2.2.1 else xI ps x) else lY 8
   | none=>if c.1 then lY 8 else jW (kH (aW ps) c.2.2.2.1).1.isSome (kH (aW ps) c.2.2.2.1).2
  else lY (ig c)
 else lY (a7 ps)
section
variable {ps:aH} (hp:∀ p ∈ ps,p.length<=maxLen)
include hp
theorem FW {r:Row} (hr:List.length r.2.2.2.1<=maxLen):gv.aa (ps,r,())=some (rp ps r,()):=by
 refine aj (k:=0) λk _=>(gv.af k _).trans ?_
 show gv.p _=_
 unfold gv.p rp
 rw[qB ps hp]
 simp only[Option.bind_some,lC,rL r hr]
 by_cases hv:a7 ps=0
 ·rw[if_pos hv,decide_eq_true hv,Bool.not_true,cond_false]
  by_cases hf:cP r=0
  ·rw[if_pos hf,decide_eq_true hf,Bool.not_true,cond_false,um ps (dv hv).right]
   cases hx:iJ ps r.1 r.2.1 with
   | none=>rfl
   | some x=>
    have hm:=List.mem_of_find?_eq_some hx
    simp only[Option.bind_some,Bool.not_true,cond_false,wa (dv hv) hm hf]
  ·rw[if_neg hf,decide_eq_false hf,Bool.not_false,cond_true]
 ·rw[if_neg hv,decide_eq_false hv,Bool.not_false,cond_true]
theorem ye {c:Change} (h:ig c=0) (hw:c.1=false):c.2.2.1=true:=by
 grind [ig]
theorem E1 {c:Change} (hv:a7 ps=0) (hf:ig c=0):lg.aa (ps,c,())=some (match iJ ps (ck c).1 (ck c).2 with
  | some x=>if c.1&&Ty.eq aE (bS x) c.2.1 then (if c.2.2.1 then oG ps x c.2.2.2.1 else xI ps x) else lY 8
  | none=>if c.1 then lY 8 else jW (kH (aW ps) c.2.2.2.1).1.isSome (kH (aW ps) c.2.2.2.1).2,()):=by
 have hV:=dv hv
 refine aj (k:=0) λk _=>(lg.af k _).trans ?_
 show lg.p _=_
 unfold lg.p
 rw[Im]
 simp only[Option.bind_some,um ps hV.right,lC]
 cases hx:iJ ps (ck c).1 (ck c).2 with
 | none=>
  simp only
  cases hw:c.1 with
  | true=>rfl
  | false=>
   have hi:=(kT hf).2 (ye hp hf hw)
   rw[AQ hV.right hi]
   rfl
 | some x=>
  have hm:=List.mem_of_find?_eq_some hx
  grind [bS,AT,wa,kT]
theorem FY {c:Change} (hc:cl c):iV.aa (ps,c,())=some (nZ ps c,()):=by
 refine aj (k:=0) λk _=>(iV.af k _).trans ?_
 show iV.p _=_
 unfold iV.p nZ
 rw[qB ps hp]
 simp only[Option.bind_some,lC,CQ c hc]
 by_cases hv:a7 ps=0
 ·rw[if_pos hv,decide_eq_true hv,Bool.not_true,cond_false]
  by_cases hf:ig c=0
  ·rw[if_pos hf,decide_eq_true hf,Bool.not_true,cond_false]
   have:=E1 (hp:=hp) hv hf
   rw[this]
   rfl
  ·rw[if_neg hf,decide_eq_false hf,Bool.not_false,cond_true]
 ·rw[if_neg hv,decide_eq_false hv,Bool.not_false,cond_true]
theorem FZ {c:Change} (hc:cl c):iU.aa (ps,c,())=some (nZ ps c,()):=by
 refine aj (k:=0) λk _=>(iU.af k _).trans ?_
 show iU.p _=_
 unfold iU.p nZ
 rw[yE ps hp]
 simp only[Option.bind_some,CR c hc,Ax]
 by_cases hv:a7 ps=0
 ·rw[if_pos hv,decide_eq_true hv,cond_true]
  by_cases hf:ig c=0
  ·have hV:=dv hv
   have hl:=xw hV
   have ho:=iK hV.right
   rw[if_pos hf,decide_eq_true hf,Bool.not_true,cond_false,yF _ (by omega),EU hV.right]
   simp only[Option.bind_some]
   have rr:(aq ps).length<=2000000:=by grind [aq]
   rw[show (qD ps).map (·.1)=aq ps from rfl,J9 c (aq ps) (gb hV) rr]
   have zQ:(pJ c).1=(ck c).1:=by rw[<-xk c]
   have f8:(pJ c).2.1=(ck c).2:=by rw[<-xk c]
   simp only[Option.bind_some,zQ,f8,FS _ (show (qD ps).length<=1000 by omega),Kl hV]
   have ez:=oS hV (ck c).1 (ck c).2
   cases hx:iJ ps (ck c).1 (ck c).2 with
   | none=>
    rw[hx] at ez
    simp only at ez
    have e:oA (aq ps) c=!c.1:=by
     grind [oA]
    rw[e]
    cases hw:c.1 with
    | true=>rfl
    | false=>
     have hi:=(kT hf).2 (ye hp hf hw)
     grind [IC,tc]
   | some x=>
    have hm:=List.mem_of_find?_eq_some hx
    rw[hx] at ez
    obtain ⟨f1,f2,f3,f4⟩:=ez
    have e:oA (aq ps) c=(c.1&&Ty.eq aE (bS x) c.2.1):=by
     grind [oA]
    rw[e]
    dsimp only
    cases hw:c.1 with
    | false=>rfl
    | true=>
     cases Ty.eq aE (bS x) c.2.1 with
     | false=>rfl
     | true=>
      simp only[Option.map_some,Bool.and_self,Bool.not_true,cond_false,if_true]
      cases hi:c.2.2.1 with
      | true=>
       have e:=FV hV hm ((kT hf).2 hi)
       simp only[cond_true,if_true]
       cases hu:eg.aa (aW ps,i7 x,c.2.2.2.1,()) <;> grind
      | false=>
       have e:=ID hV hm
       simp only[cond_false,Bool.false_eq_true,if_false]
       cases hu:eZ.aa (aW ps,i7 x,()) <;> grind
  ·rw[if_neg hf,decide_eq_false hf,Bool.not_false,cond_true]
   rfl
 ·rw[if_neg hv,decide_eq_false hv,cond_false,Bool.not_false,cond_true]
  rfl
end
end OT
set_option linter.unusedVariables false
set_option linter.unusedSimpArgs false
set_option linter.unusedSectionVars false
namespace OT
open Go
theorem mB {ok:Bool} {w:am} (h:(jW ok w).1=0):ok=true/\jW ok w=((0:Int),w.2.1,w.1,()):=by
 unfold jW at h ⊢
 cases ok with
 | true=>exact ⟨rfl,rfl⟩
 | false=>exact absurd h (show ¬ (9:Int)=0 by decide)
theorem Cx {ps:aH} (hv:a7 ps=0) {r:Row} (hr:cP r=0) (hn:iJ ps r.1 r.2.1=none) (h0:(jW (kH (aW ps) r).1.isSome (kH (aW ps) r).2).1=0):a7 (kH (aW ps) r).2.1=0/\∀ r',r' ∈ aq (kH (aW ps) r).2.1↔r' ∈ aq ps\/r'=r:=by
 have V:=dv hv
 obtain ⟨ha,_⟩:=mB h0
 obtain ⟨a,ha⟩:=Option.isSome_iff_exists.1 ha
 refine LQ hv hr (λr' Qb he=>?_) ha
 have hf:=oS V r.1 r.2.1
 rw[hn] at hf
 simp only at hf
 obtain ⟨i,hi,hx⟩:=List.getElem_of_mem Qb
 have:=(s9 (gb V) hi (k:=(r.1,r.2.1)) (by rw[hx];exact he)).1
 rw[hf] at this
 cases this
theorem GY {d:List UInt8} (h:(bF d).2=true) (h1:bM d≠1):cP (xE d)=0:=by
 unfold bM at h1
 unfold xE
 unfold bF at h h1 ⊢
 split at h
 ·rename_i hc
  rw[if_pos hc] at h1
  exact absurd rfl h1
 ·rename_i hc
  rw[if_neg hc]
  split at h
  ·cases h
  ·rename_i B7
   rw[if_neg B7]
   simpa using h
theorem nC {ps:aH} (hv:a7 ps=0):Good (aq ps):=by
 refine ⟨gb (dv hv),λr hr=>?_⟩
 have S:=(eE.1 hv).2
 obtain ⟨P,s,c1,f1,rfl⟩:=(mA hv r).1 hr
 unfold rowAt
 split
 ·rename_i hf
  obtain ⟨J,a2⟩:=S.stub P s c1 hf
  exact GY (S.read _ _ J) (by rw[a2];decide)
 ·rename_i hf
  exact GY (S.read _ _ c1) hf
theorem Kq {ps:aH} (hv:a7 ps=0) {c:Change} (hc:ig c=0) (h0:(nZ ps c).1=0):a7 (nZ ps c).2.2.1=0/\aq (nZ ps c).2.2.1=lL (aq ps) c:=by
 have V:=dv hv
 have hu:=gb V
 have VR:up (lL (aq ps) c):=(tP (nC hv) hc).up
 have fin:∀ {w:am},a7 w.1=0->(∀ r',r' ∈ aq w.1↔(r' ∈ aq ps/\rk r'≠ck c)\/(c.2.2.1=true/\r'=c.2.2.2.1))->a7 w.1=0/\aq w.1=lL (aq ps) c:=λ{w} h1 U=>
  ⟨h1,rX (gb (dv h1)) VR λr'=>by rw[U,zo hu]⟩
 unfold nZ at h0 ⊢
 rw[if_pos hv,if_pos hc] at h0 ⊢
 have ez:=oS V (ck c).1 (ck c).2
 cases hx:iJ ps (ck c).1 (ck c).2 with
 | none=>
  rw[hx] at ez h0
  simp only at ez h0 ⊢
  cases hw:c.1 with
  | true=>rw[hw] at h0;exact absurd h0 (show ¬ (8:Int)=0 by decide)
  | false=>
   rw[hw] at h0
   simp only[Bool.false_eq_true,if_false] at h0 ⊢
   have hi:=ye (ps:=[]) (λp hp=>by cases hp) hc hw
   have hr:=(kT hc).2 hi
   have hk:=(kT hc).1 hi
   have hn:iJ ps c.2.2.2.1.1 c.2.2.2.1.2.1=none:=by
    have:rk c.2.2.2.1=((ck c).1,(ck c).2):=hk
    unfold rk at this
    injection this with e1 e2
    rw[e1,e2];exact hx
   obtain ⟨v1,v2⟩:=Cx hv hr hn h0
   rw[(mB h0).2]
   refine fin v1 λr'=>?_
   rw[v2]
   constructor
   ·rintro (h | h)
    ·refine .inl ⟨h,λhe=>?_⟩
     obtain ⟨i,VS,D4⟩:=List.getElem_of_mem h
     have:=(s9 hu VS (k:=ck c) (by rw[D4];exact he)).1
     rw[show ck c=((ck c).1,(ck c).2) from rfl,ez] at this
     cases this
    ·exact .inr ⟨hi,h⟩
   ·rintro (h | h)
    ·exact .inl h.1
    ·exact .inr h.2
 | some x=>
  have hm:=List.mem_of_find?_eq_some hx
  rw[hx] at ez h0
  obtain ⟨f1,f2,f3,f4⟩:=ez
  simp only at h0 ⊢
  have SE:rk (bS x)=ck c:=f4
  cases hb:(c.1&&Ty.eq aE (bS x) c.2.1) with
  | false=>rw[hb] at h0;exact absurd h0 (show ¬ (8:Int)=0 by decide)
  | true=>
   rw[hb] at h0
   simp only[if_true] at h0 ⊢
   cases hi:c.2.2.1 with
   | true=>
    rw[hi] at h0
    simp only[if_true] at h0 ⊢
    have hr:=(kT hc).2 hi
    have hk:=(kT hc).1 hi
    rcases Cw hv hm hr (by rw[SE,hk]) with e | ⟨w,e,ok,v1,v2⟩
    ·rw[e] at h0;exact absurd h0 (show ¬ (9:Int)=0 by decide)
    ·rw[e]
     refine fin v1 λr'=>?_
     rw[v2,hk]
     simp only[hi,true_and]
   | false=>
    rw[hi] at h0
    simp only[Bool.false_eq_true,if_false] at h0 ⊢
    obtain ⟨w,e,ok,v1,v2⟩:=E0 hv hm
    rw[e]
    refine fin v1 λr'=>?_
    rw[v2,SE]
    simp only[hi,Bool.false_eq_true,false_and,or_false]
end OT
set_option linter.unusedVariables false
set_option linter.unusedSimpArgs false
set_option linter.unusedSectionVars false
namespace OT
open Go
def gP (ps:aH) (e:bW):aH:=if e.1.toNat=ps.length then ps++[e.2.1] else ps.set e.1.toNat e.2.1
def p6 (ps:aH) (es:List bW):aH:=es.foldl gP ps
theorem uQ (ps:aH) (es:List bW) (e:bW):p6 ps (es++[e])=gP (p6 ps es) e:=by
 grind [p6]
def E2 (ps:aH) (e:bW):Prop:=List.length e.2.1=64/\0<=e.1/\e.1<=(ps.length:Int)/\e.1 < 12
def pU:aH->List bW->Prop
 | _,[]=>True
 | ps,e::es=>E2 ps e/\pU (gP ps e) es
theorem qW {ps:aH}:∀ {es:List bW} {e:bW},pU ps es->E2 (p6 ps es) e->pU ps (es++[e])
 | [],e,_,h=>⟨h,trivial⟩
 | x::es,e,h,U=>⟨h.1,qW (ps:=gP ps x) h.2 U⟩
theorem yf {ps:aH} {P:Nat} {b:List UInt8} (h:eA (gP ps ((P:Int),b,()))) (hP:P<=ps.length):E2 ps ((P:Int),b,()):=by
 have hm:b ∈ gP ps ((P:Int),b,())/\P < (gP ps ((P:Int),b,())).length:=by
  grind [gP,List.mem_set]
 have nW:=h.1
 exact ⟨(h.2 b hm.1).len,by grind,by grind,by grind⟩
def IE (ps:aH) (es:List bW) (B:Nat->List Row):Prop:=∀ j,j<=es.length->a7 (p6 ps (es.take j))=0/\aq (p6 ps (es.take j))=B j
structure jK (ps:aH) (w:am) (B0:List Row):Prop where
 at_:p6 ps w.2.1=w.1
 ed:pU ps w.2.1
 E3:IE ps w.2.1 λ_=>B0
structure mQ (ps:aH) (w:am) (B0 B1:List Row):Prop where
 at_:p6 ps w.2.1=w.1
 ed:pU ps w.2.1
 E3:∃ m,m<=List.length w.2.1/\IE ps w.2.1 λj=>if j < m then B0 else B1
theorem zp {ps:aH} {es:List bW} {B:Nat->List Row} (h:IE ps es B) {e:bW} (h1:a7 (p6 ps (es++[e]))=0) (U:aq (p6 ps (es++[e]))=B (es.length+1)):IE ps (es++[e]) B:=λj hj=>by
 rw[List.length_append,List.length_cons,List.length_nil] at hj
 by_cases hl:j<=es.length
 ·rw[List.take_append_of_le_length hl]
  exact h j hl
 grind
theorem rR {w:am} {P:Nat} (hP:P<=List.length w.1) (b:List UInt8):da w P b=w\/((da w P b).2.1=w.2.1++[((P:Int),b,())]/\(da w P b).1=gP w.1 ((P:Int),b,())):=by
 grind [da,gP]
theorem uq {ps:aH} {w:am} {B0:List Row} (h:jK ps w B0) {P:Nat} (hP:P<=List.length w.1) {b:List UInt8} (h1:a7 (da w P b).1=0) (U:aq (da w P b).1=B0):jK ps (da w P b) B0:=by
 rcases rR hP b with e | ⟨e1,e2⟩
 ·grind
 ·have ha:p6 ps (da w P b).2.1=(da w P b).1:=by rw[e1,uQ,h.at_,e2]
  have Kr:pU ps (da w P b).2.1:=by rw[e1];exact qW h.ed (by rw[h.at_];exact yf (by rw[<-e2];exact (eE.1 h1).1) hP)
  refine ⟨ha,Kr,?_⟩
  rw[e1] at ha ⊢
  exact zp h.E3 (by grind) (by grind)
theorem ur {ps:aH} {w:am} {B0 B1:List Row} (h:jK ps w B0) {P:Nat} (hP:P<=List.length w.1) {b:List UInt8} (h1:a7 (da w P b).1=0) (U:aq (da w P b).1=B1):mQ ps (da w P b) B0 B1:=by
 rcases rR hP b with e | ⟨e1,e2⟩
 ·rw[e] at h1 U ⊢
  refine ⟨h.at_,h.ed,List.length w.2.1,Nat.le_refl _,λj hj=>?_⟩
  obtain ⟨J,a2⟩:=h.E3 j hj
  refine ⟨J,?_⟩
  show aq (p6 ps (w.2.1.take j))=if j < List.length w.2.1 then B0 else B1
  by_cases hl:j < List.length w.2.1
  ·grind
  ·rw[if_neg hl,List.take_of_length_le (by omega),h.at_];exact U
 ·have ha:p6 ps (da w P b).2.1=(da w P b).1:=by rw[e1,uQ,h.at_,e2]
  have Kr:pU ps (da w P b).2.1:=by rw[e1];exact qW h.ed (by rw[h.at_];exact yf (by rw[<-e2];exact (eE.1 h1).1) hP)
  refine ⟨ha,Kr,List.length w.2.1+1,by grind,?_⟩
  rw[e1] at ha ⊢
  refine zp (λj hj=>?_) (by grind) (by
   grind)
  show _/\_=if j < List.length w.2.1+1 then B0 else B1
  rw[if_pos (by omega)]
  exact h.E3 j hj
theorem F5 {ps:aH} {w:am} {B0 B1:List Row} (h:mQ ps w B0 B1) {P:Nat} (hP:P<=List.length w.1) {b:List UInt8} (h1:a7 (da w P b).1=0) (U:aq (da w P b).1=B1):mQ ps (da w P b) B0 B1:=by
 rcases rR hP b with e | ⟨e1,e2⟩
 ·grind
 ·have ha:p6 ps (da w P b).2.1=(da w P b).1:=by rw[e1,uQ,h.at_,e2]
  have Kr:pU ps (da w P b).2.1:=by rw[e1];exact qW h.ed (by rw[h.at_];exact yf (by rw[<-e2];exact (eE.1 h1).1) hP)
  obtain ⟨m,hm,hw⟩:=h.E3
  refine ⟨ha,Kr,m,by grind,?_⟩
  grind [zp]
theorem Ks {ps qs:aH} (hv:a7 ps=0) (hq:eA qs) (h:∀ Q t,ax qs Q t=ax ps Q t):a7 qs=0/\aq qs=aq ps:=by
 have e:ax qs=ax ps:=iW h
 have Ko:a7 qs=0:=eE.2 ⟨hq,by rw[e];exact (eE.1 hv).2⟩
 grind [rX,gb,dv,mA]
theorem th {ps:aH} (hv:a7 ps=0):jK ps (aW ps) (aq ps):=⟨rfl,trivial,λj hj=>by
 have:j=0:=by have:j<=0:=hj;omega
 subst this
 exact ⟨hv,rfl⟩⟩
theorem F6 {ps:aH} {w:am} {B0:List Row} (h:jK ps w B0):a7 w.1=0/\aq w.1=B0:=by
 have:=h.E3 _ (Nat.le_refl _)
 rw[List.take_length,h.at_] at this
 exact this
theorem yK {ps:aH} {w:am} {n:Nat} {B0:List Row} (h:jK ps w B0) (ho:okW w n) {P:Nat} (hP:P < List.length w.1):jK ps (gG w P) B0:=by
 obtain ⟨v1,v2⟩:=F6 h
 obtain ⟨s1,s2⟩:=Ks v1 (nz ho hP).cv (ou ho hP)
 exact uq h (Nat.le_of_lt hP) s1 (s2.trans v2)
theorem Kt {ps:aH} {w:am} {n:Nat} {B0 B1:List Row} (h:jK ps w B0) (ho:okW w n) {P:Nat} (hP:P < List.length w.1) {c:List UInt8} (iz:(gd w P c).1=none->True) (uo:∀ t,(gd w P c).1=some t->a7 (gd w P c).2.1=0/\aq (gd w P c).2.1=B1) :
  ((gd w P c).1=none->jK ps (gd w P c).2 B0)/\(∀ t,(gd w P c).1=some t->mQ ps (gd w P c).2 B0 B1/\(B1=B0->jK ps (gd w P c).2 B0)):=by
 grind [yK,kg,gd,ur,uq]
theorem xK {ps:aH} {w:am} {n:Nat} {B0 B1:List Row} (h:jK ps w B0) (ho:okW w n) {P s:Nat} (hP:P < List.length w.1) {c:List UInt8} (uo:(b_ w P s c).1=true->a7 (b_ w P s c).2.1=0/\aq (b_ w P s c).2.1=B1) :
  ((b_ w P s c).1=false->jK ps (b_ w P s c).2 B0)/\((b_ w P s c).1=true->mQ ps (b_ w P s c).2 B0 B1):=by
 grind [yK,kg,b_,ur]
def Ku (f:gO) (c:List UInt8) (B1:List Row):Prop:=∀ (P t:Nat) (q:aH),eA q->f P t=[]->ax q=eF f P t c->P < 12->t < 16->a7 q=0/\aq q=B1
def Qc (ps:aH) (B0 B1:List Row) (r:Option (Nat×Nat)×am):Prop:=(r.1=none->jK ps r.2 B0)/\(∀ a,r.1=some a->mQ ps r.2 B0 B1/\(B1=B0->jK ps r.2 B0))
theorem ut {ps:aH} {B0 B1:List Row} {c:List UInt8} (hc:1<=c.length) (no:Int):∀ (l:List Nat) (w:am) (n:Nat),jK ps w B0->okW w n->(∀ P ∈ l,P < List.length w.1)->Ku (ax w.1) c B1->Qc ps B0 B1 (dW c no l w)
 | [],w,n,h,_,_,_=>⟨λ_=>h,λa ha=>by cases ha⟩
 | P::l,w,n,h,ho,hl,hq=>by
  unfold dW
  split
  ·exact ut hc no l w n h ho (λQ hQ=>hl Q (List.mem_cons_of_mem _ hQ)) hq
  ·have hP:=hl P List.mem_cons_self
   have R:=qm ho hP hc
   obtain ⟨y1,y2⟩:=Kt (B1:=B1) h ho hP (c:=c) (λ_=>trivial) λt ht=>by
    obtain ⟨J,a2,a3⟩:=R.yes t ht
    exact hq P t _ R.ok.cv a2 (iW a3) (by have:=ho.cv.1;omega) J
   split
   ·rename_i t ht
    exact ⟨λhh=>(by cases hh),λa _=>y2 t ht⟩
   ·rename_i ht
    have e:ax (gd w P c).2.1=ax w.1:=iW (R.no ht)
    exact ut hc no l (gd w P c).2 (n+2) (y1 ht) R.ok (λQ hQ=>by rw[R.len];grind) (by grind)
theorem IF {ps:aH} {w:am} {n:Nat} {B0 B1:List Row} (h:jK ps w B0) (ho:okW w n) {c:List UInt8} (fj:1<=c.length) (hc:c.length<=20) (no:Int) (hq:Ku (ax w.1) c B1):Qc ps B0 B1 (dU w no c):=by
 have hR:=kj ho fj hc no
 have G:=ut fj no (List.range (List.length w.1)) w n h ho (λP hP=>List.mem_range.1 hP) hq
 have R:=mw fj no (List.range (List.length w.1)) w n ho λP hP=>List.mem_range.1 hP
 unfold dU at hR ⊢
 split
 ·exact G
 ·rename_i h0
  obtain ⟨J,a2⟩:=R.no h0
  rw[h0] at hR
  simp only at hR
  split
  ·grind
  ·rename_i av
   rw[if_neg av] at hR
   obtain ⟨b1,b2,b3,b4⟩:=hR.yes _ _ rfl
   obtain ⟨v1,v2⟩:=hq _ _ _ hR.ok.cv b3 (iW b4) b1 b2
   have N:=G.1 h0
   exact ⟨λhh=>(by cases hh),λa _=>⟨ur N (by omega) v1 v2,λhe=>uq N (by omega) v1 (v2.trans he)⟩⟩
theorem GZ {ps:aH} (hv:a7 ps=0) {P s:Nat} (c1:ax ps P s≠[]) (c2:bM (ax ps P s)≠2) {r:Row} (hr:cP r=0) (hk:rk (rowAt (ax ps) P s)=rk r) (mv:Bool) {A B:Nat} (hm:if mv then bM (ax ps P s)=1/\A=f_ (ax ps P s)/\B=ga (ax ps P s) else bM (ax ps P s)≠1/\A=P/\B=s) (ao:eA (gH (aW ps) P s A B mv r).2.1) (uo:(gH (aW ps) P s A B mv r).1=true) :
  mQ ps (gH (aW ps) P s A B mv r).2 (aq ps) (aq (gH (aW ps) P s A B mv r).2.1):=by
 obtain ⟨hR,S⟩:=eE.1 hv
 have ho:=iK hR
 obtain ⟨v1,v2⟩:=td hv c1 c2 hr hk mv hm ao uo
 have rz:∀ f,(aM f r).length<=20:=λf=>by grind [cw]
 have l1:∀ f,1<=(aM f r).length:=λf=>(cw (f:=f) hr).1
 have EY:ax ps A B≠[]:=by
  cases mv with
  | false=>grind
  | true=>obtain ⟨m1,m2,m3⟩:=hm;rw[m2,m3];exact (S.stub P s c1 m1).1
 have SF:A < List.length (aW ps).1:=(kG hR EY).1
 have R1:=iI ho (P:=A) (s:=B) EY (l1 (bif mv then 2 else 0))
 have R2:=kj R1.ok (l1 2) (rz 2) (A:Int)
 unfold gH at uo v1 v2 ⊢
 by_cases hb:(b_ (aW ps) A B (aM (bif mv then 2 else 0) r)).1=true
 ·rw[if_pos hb] at v1 v2 ⊢
  exact (xK (th hv) ho SF λ_=>⟨v1,rfl⟩).2 hb
 ·rw[if_neg hb] at uo v1 v2 ⊢
  have Np:(b_ (aW ps) A B (aM (bif mv then 2 else 0) r)).1=false:=by simpa using hb
  have e:=R1.no Np
  have N1:=(xK (B1:=[]) (th hv) ho SF (s:=B) (c:=aM (bif mv then 2 else 0) r) λh=>absurd h hb).1 Np
  have e1:ax (b_ (aW ps) A B (aM (bif mv then 2 else 0) r)).2.1=ax ps:=iW e
  have W:=IF N1 R1.ok (l1 2) (rz 2) (A:Int) (B1:=aq ps) λX Y q hq h0 eq _ _=>by
   rw[e1] at h0 eq
   obtain ⟨m1,m2,m3⟩:=xJ (n:=2) (.inr rfl) hr
   obtain ⟨S1,r1,_⟩:=Cs S h0 m1 m2
   have Xt:a7 q=0:=eE.2 ⟨hq,by grind⟩
   grind [rX,gb,dv,mA]
  cases hg:(dU (b_ (aW ps) A B (aM (bif mv then 2 else 0) r)).2 (A:Int) (aM 2 r)).1 with
  | none=>grind
  | some a=>
   rw[hg] at v1 v2
   simp only at v1 v2 ⊢
   have N2:=(W.2 a hg).2 rfl
   obtain ⟨y1,y2,y3,y4⟩:=R2.yes a.1 a.2 hg
   rw[e1] at y3
   have k1:=ko R2 (fP R1 (Q:=P) (t:=s) c1 c6) c6
   have k2:=ko R2 (fP R1 (Q:=A) (t:=B) EY c6) c6
   have n1:¬ (a.1=P/\a.2=s):=λhe=>c1 (by grind)
   have kZ:ax (dU (b_ (aW ps) A B (aM (bif mv then 2 else 0) r)).2 (A:Int) (aM 2 r)).2.1 P s=ax ps P s:=by
    rw[y4,if_neg (λhe=>n1 ⟨he.1.symm,he.2.symm⟩),e1]
   have bk:=EX R2.ok k1 (c:=cn a.1 a.2) (by rw[kZ,ik];exact Cv (S.read P s c1))
   have R3:=iI R2.ok k1 (c:=cn a.1 a.2) (by rw[ik];omega)
   have VT:P < List.length (dU (b_ (aW ps) A B (aM (bif mv then 2 else 0) r)).2 (A:Int) (aM 2 r)).2.1:=(kG R2.ok.cv k1).1
   have Nq:a7 (b_ (dU (b_ (aW ps) A B (aM (bif mv then 2 else 0) r)).2 (A:Int) (aM 2 r)).2 P s (cn a.1 a.2)).2.1=0/\∀ r',r' ∈ aq (b_ (dU (b_ (aW ps) A B (aM (bif mv then 2 else 0) r)).2 (A:Int) (aM 2 r)).2 P s (cn a.1 a.2)).2.1↔(r' ∈ aq ps/\rk r'≠rk r)\/r'=r:=by
    obtain ⟨S1,r1,_⟩:=Ct S c1 c2
    rw[hk] at r1
    have VU:eF (ax ps) P s [] a.1 a.2=[]:=by grind [dN]
    obtain ⟨S2,r2⟩:=GX S1 (jJ _ _ _ _) VU n1 (by omega) (by omega) hr λr' h'=>((r1 r').1 h').2
    have ec:ax (b_ (dU (b_ (aW ps) A B (aM (bif mv then 2 else 0) r)).2 (A:Int) (aM 2 r)).2 P s (cn a.1 a.2)).2.1=eF (eF (eF (ax ps) P s []) a.1 a.2 (aM 2 r)) P s (cn a.1 a.2):=iW λQ t=>by
     rw[R3.yes bk,y4,e1]
     grind [eF]
    have Xu:=eE.2 ⟨R3.ok.cv,by grind⟩
    grind [mA]
   have T0:=(xK N2 R2.ok VT (s:=s) (c:=cn a.1 a.2) λ_=>⟨Nq.1,rfl⟩).2 bk
   have k3:=fP R3 k2 (by grind [cn])
   have SG:=R3.ok
   generalize b_ (dU (b_ (aW ps) A B (aM (bif mv then 2 else 0) r)).2 (A:Int) (aM 2 r)).2 P s (cn a.1 a.2)=u at Nq v1 v2 T0 k3 SG ⊢
   cases mv with
   | false=>exact T0
   | true=>
    have e4:aq u.2.1=aq (eQ u.2 A B).1:=rX (gb (dv Nq.1)) (gb (dv v1)) λr'=>(Nq.2 r').trans (v2 r').symm
    rw[e4] at T0
    exact F5 T0 (Nat.le_of_lt (kG SG.cv k3).1) v1 rfl
end OT
set_option linter.unusedVariables false
set_option linter.unusedSimpArgs false
set_option linter.unusedSectionVars false
namespace OT
open Go
theorem wy (ps:aH) (hp:∀ p ∈ ps,p.length<=maxLen):jk.aa (ps,())=some (if a7 ps=0 then ((0:Int),aq ps,()) else (a7 ps,([]:List Row),()),()):=by
 refine aj (k:=0) λk _=>(jk.af k _).trans ?_
 show jk.p _=_
 unfold jk.p
 rw[yE ps hp]
 simp only[Option.bind_some]
 by_cases hv:a7 ps=0
 ·rw[if_pos hv,decide_eq_true hv,Bool.not_true,cond_false,yF _ (by have:=xw (dv hv);omega)]
  rfl
 ·rw[if_neg hv,decide_eq_false hv,Bool.not_false,cond_true]
theorem tj:∀ {es:List bW} {ps:aH},pU ps es->∀ i (hi:i < es.length),E2 (p6 ps (es.take i)) es[i]
 | e::es,ps,h,0,_=>h.1
 | e::es,ps,h,i+1,hi=>tj (ps:=gP ps e) h.2 i (by simpa using hi)
theorem IG {ps:aH} {e:bW} (h:E2 ps e):(gP ps e).length=if e.1.toNat=ps.length then ps.length+1 else ps.length:=by
 unfold gP
 split
 ·rw[List.length_append];rfl
 ·rw[List.length_set]
theorem F7 (es:List bW) (hl:es.length<=1000) (h:∀ e ∈ es,List.length e.2.1=64):cq.aa (es,())=some (es,()):=by
 refine aj (k:=1100) λk hk=>(cq.af k _).trans ?_
 have:=d9 (B:=λself v=>cq.B0 k self (λz=>cq.Q0 k (es,()) z) (es,()) v) es (λ(s:List bW) (i:Int)=>(s,i)) (λ_ s x=>.inr (s++[x])) (λs=>(s,())) (λi s=>s.length=i) (by rw[aL];omega)
  (λi hi s self hs=>by
   show cq.b0 _ _ _ _=_
   unfold cq.b0
   have av:(i:Int) < (es.length:Int):=by omega
   have Cy:=h _ (List.getElem_mem hi)
   rw[decide_eq_true av,cond_true,if_pos (Int.natCast_nonneg i)]
   simp only[Int.toNat_natCast,List.getElem?_eq_getElem hi,Option.bind_some]
   rw[gU _ (by omega)]
   simp only[Option.bind_some]
   rw[if_pos (dR (by simp only[List.length_cons,List.length_nil];omega))])
  (λi hi s s' hs hf=>by injection hf with hf;subst hf;simp[hs]) (λs self _=>by
   show cq.b0 _ _ _ _=_
   unfold cq.b0
   rw[decide_eq_false (Int.lt_irrefl _),cond_false]
   rfl) [] rfl k (by omega)
 rw[fi (g:=λ(s:List bW) (x:bW)=>s++[x]),nu,List.nil_append] at this
 exact this
theorem CT {ps:aH} (hg:gp ps) {es:List bW} (hl:es.length<=1000) (he:pU ps es):aV.aa (ps,es,())=some (((0:Int),es,p6 ps es,()),()):=by
 have Cy:∀ e ∈ es,List.length e.2.1=64:=λe hm=>by
  obtain ⟨i,hi,rfl⟩:=List.getElem_of_mem hm
  exact (tj he i hi).1
 refine aj (k:=1100) λk hk=>(aV.af k _).trans ?_
 unfold aV.p
 have nW:¬ (12:Int) < (ps.length:Int):=by have:=hg.1;omega
 rw[decide_eq_false nW,cond_false,wu ps hg,Option.bind_some]
 have:=d9 (B:=λself v=>aV.B0 k self (λz=>aV.Q0 k (ps,es,()) z) (ps,es,()) v) es (λ(s:aH) (i:Int)=>(s,i)) (λ_ s x=>.inr (gP s x)) (λs=>(((0:Int),es,s,()),())) (λi s=>s=p6 ps (es.take i)/\s.length<=12) (by rw[aL];omega)
  (λi hi s self ⟨hs,TH⟩=>by
   show aV.b0 _ _ _ _=_
   unfold aV.b0
   have av:(i:Int) < (es.length:Int):=by omega
   obtain ⟨o1,o2,o3,o4⟩:=tj he i hi
   rw[<-hs] at o3
   have VV:((List.length (es[i]).2.1:Nat):Int)=64:=by omega
   have n12:¬ (es[i]).1=12:=by omega
   rw[decide_eq_true av,cond_true,if_pos (Int.natCast_nonneg i)]
   simp only[Int.toNat_natCast,List.getElem?_eq_getElem hi,Option.bind_some,xi]
   rw[decide_eq_true VV,Bool.not_true,cond_false,decide_eq_true o2,decide_eq_true o3,Bool.and_self,Bool.not_true,cond_false,decide_eq_false n12,cond_false]
   simp only[gU (es[i]).2.1 (by omega),Option.bind_some]
   unfold gP
   by_cases hq:(es[i]).1=(s.length:Int)
   ·have hn:(es[i]).1.toNat=s.length:=by omega
    rw[decide_eq_true hq,cond_true,if_pos (dR (by simp only[List.length_cons,List.length_nil];omega)),if_pos hn]
    have g:0<=(es[i]).1/\(es[i]).1 < ((s++[([]:List UInt8)]).length:Int):=by
     rw[List.length_append];simp only[List.length_cons,List.length_nil];omega
    rw[if_pos g,hn,List.getElem?_append_right (Nat.le_refl _),Nat.sub_self]
    show self ((s++[([]:List UInt8)]).set s.length (es[i]).2.1,_)=_
    rw[List.set_append_right _ _ (Nat.le_refl _),Nat.sub_self]
    rfl
   ·have hn:¬ (es[i]).1.toNat=s.length:=by omega
    have g:0<=(es[i]).1/\(es[i]).1 < (s.length:Int):=by omega
    rw[decide_eq_false hq,cond_false,if_pos g,if_neg hn,List.getElem?_eq_getElem (show (es[i]).1.toNat < s.length by omega)]
    rfl)
  (λi hi s s' ⟨hs,TH⟩ hf=>by
   injection hf with hf
   subst hf
   have o:=tj he i hi
   rw[<-hs] at o
   refine ⟨?_,?_⟩
   ·rw[List.take_succ_eq_append_getElem hi,uQ,hs]
   ·rw[IG o]
    obtain ⟨o1,o2,o3,o4⟩:=o
    split <;> omega)
  (λs self _=>by
   show aV.b0 _ _ _ _=_
   unfold aV.b0
   show (bif decide ((List.length es:Int) < (List.length es:Int)) then _ else _)=_
   rw[decide_eq_false (Int.lt_irrefl _),cond_false]
   show aV.q0 _ _=_
   unfold aV.q0
   rw[F7 es hl Cy]
   rfl) ps ⟨rfl,hg.1⟩ k (by omega)
 rw[fi (g:=gP)] at this
 exact this
end OT
set_option linter.unusedVariables false
set_option linter.unusedSimpArgs false
set_option linter.unusedSectionVars false
namespace OT
open Go
def sameAt {α:Type} [DecidableEq α] (ys:List α) (i:Nat) (x:α):Bool:=match ys[i]? with | some y=>decide (x=y) | none=>true
theorem AU {α:Type} [DecidableEq α] {ys:List α} {i:Nat} (h:i < ys.length) (x:α):sameAt ys i x=decide (x=ys[i]):=by unfold sameAt;rw[List.getElem?_eq_getElem h]
theorem Cz {α:Type} [DecidableEq α] (ys:List α):∀ (l:List α) (j:Nat),j+l.length=ys.length->cS (λi (_:Unit) x=>if sameAt ys i x then .inr () else .inl (false,())) (λ_=>(true,())) j l ()=(decide (l=ys.drop j),())
 | [],j,h=>by
  have:ys.drop j=[]:=List.drop_eq_nil_of_le (by simpa using Nat.le_of_eq h.symm)
  simp[cS,this]
 | x::l,j,h=>by
  have hj:j < ys.length:=by simp only[List.length_cons] at h;omega
  have hd:ys.drop j=ys[j]::ys.drop (j+1):=(List.drop_eq_getElem_cons hj)
  simp only[cS,AU hj]
  by_cases hx:x=ys[j]
  ·rw[if_pos (by simpa using hx)]
   have:=Cz ys l (j+1) (by simp only[List.length_cons] at h;omega)
   refine this.trans ?_
   rw[hd,hx]
   congr 1
   exact decide_eq_decide.2 ⟨λh=>by rw[h],λh=>by injection h⟩
  ·rw[if_neg (by simpa using hx),hd]
   have dI:¬ x::l=ys[j]::ys.drop (j+1):=λh=>hx (by injection h)
   rw[decide_eq_false dI]
theorem wb (xs ys:aH) (h:xs.length<=1000):dM.aa (xs,ys,())=some (decide (xs=ys),()):=by
 have hs:∀ a b:List UInt8,mN.aa (a,b,())=some (decide (a=b),()):=λa b=>aj (k:=0) λk _=>(mN.af k _).trans rfl
 refine aj (k:=1100) λk hk=>(dM.af k _).trans ?_
 unfold dM.p
 by_cases hl:xs.length=ys.length
 rotate_left
 ·have Aj:¬ ((xs.length:Int)=(ys.length:Int)):=by omega
  have dI:¬ xs=ys:=λhe=>hl (by rw[he])
  rw[decide_eq_false Aj,Bool.not_false,cond_true,decide_eq_false dI]
 have Aj:(xs.length:Int)=(ys.length:Int):=by omega
 rw[decide_eq_true Aj,Bool.not_true,cond_false]
 have:=d9 (B:=λself v=>dM.B0 k self (λz=>dM.Q0 k (xs,ys,()) z) (xs,ys,()) v) xs (λ(_:Unit) (i:Int)=>i) (λi _ x=>if sameAt ys i x then .inr () else .inl (false,())) (λ_=>(true,())) (λ_ _=>True) (by rw[aL];omega)
  (λi hi s self _=>by
   show dM.b0 _ _ _ _=_
   unfold dM.b0
   have av:(i:Int) < (xs.length:Int):=by omega
   rw[decide_eq_true av,cond_true,if_pos (Int.natCast_nonneg i)]
   simp only[Int.toNat_natCast,List.getElem?_eq_getElem hi,List.getElem?_eq_getElem (show i < ys.length by omega),Option.bind_some,hs]
   rw[if_pos (Int.natCast_nonneg i)]
   rw[AU (show i < ys.length by omega)]
   by_cases hx:xs[i]=ys[i]'(by omega)
   ·rw[decide_eq_true hx];rfl
   ·rw[decide_eq_false hx];rfl)
  (λ_ _ _ _ _ _=>trivial) (λs self _=>by
   show dM.b0 _ _ _ _=_
   unfold dM.b0
   rw[decide_eq_false (Int.lt_irrefl _),cond_false]
   rfl) () trivial k (by omega)
 rw[Cz ys xs 0 (by omega)] at this
 exact this
end OT
set_option linter.unusedVariables false
set_option linter.unusedSimpArgs false
set_option linter.unusedSectionVars false
namespace OT
open Go
end OT
set_option linter.unusedVariables false
set_option linter.unusedSimpArgs false
set_option linter.unusedSectionVars false
namespace OT
open Go
theorem CA {xs:List Row} (h:up xs) (p:Row->Bool):up (xs.filter p):=List.Pairwise.filter p h
theorem Kv {ps:aH} {r:Row} (h0:(rp ps r).1=0):a7 ps=0/\cP r=0/\∃ w:am,rp ps r=((0:Int),w.2.1,w.1,())/\okW w 40/\mQ ps w (aq ps) (aq w.1)/\a7 w.1=0/\r ∈ aq w.1/\(aq w.1).filter (λx=>!decide (rk x=(r.1,r.2.1)))=(aq ps).filter (λx=>!decide (rk x=(r.1,r.2.1))):=by
 unfold rp at h0 ⊢
 by_cases hv:a7 ps=0
 rotate_left
 ·rw[if_neg hv] at h0;exact absurd h0 hv
 rw[if_pos hv] at h0 ⊢
 by_cases hr:cP r=0
 rotate_left
 ·rw[if_neg hr] at h0;exact absurd h0 hr
 rw[if_pos hr] at h0 ⊢
 refine ⟨hv,hr,?_⟩
 have V:=dv hv
 have ez:=oS V r.1 r.2.1
 cases hx:iJ ps r.1 r.2.1 with
 | none=>rw[hx] at h0;exact absurd h0 (show ¬ (4:Int)=0 by decide)
 | some x=>
  rw[hx] at h0 ez
  obtain ⟨_,_,hm,VW⟩:=ez
  simp only at h0 ⊢
  have hk:rk (bS x)=rk r:=VW
  have fin:∀ w:am,oG ps x r=((0:Int),w.2.1,w.1,())->okW w 40->mQ ps w (aq ps) (aq w.1)->a7 w.1=0->(∀ r',r' ∈ aq w.1↔(r' ∈ aq ps/\rk r'≠rk r)\/r'=r)->∃ w:am,oG ps x r=((0:Int),w.2.1,w.1,())/\okW w 40/\mQ ps w (aq ps) (aq w.1)/\a7 w.1=0/\r ∈ aq w.1/\(aq w.1).filter (λx=>!decide (rk x=(r.1,r.2.1)))=(aq ps).filter (λx=>!decide (rk x=(r.1,r.2.1))):=λw e ok T v1 v2=>by
   refine ⟨w,e,ok,T,v1,(v2 r).2 (.inr rfl),rX (CA (gb (dv v1)) _) (CA (gb V) _) λr'=>?_⟩
   rw[List.mem_filter,List.mem_filter,v2]
   constructor
   ·rintro ⟨h | h,hn⟩
    ·exact ⟨h.1,hn⟩
    ·rw[h] at hn
     simp[rk] at hn
   ·rintro ⟨h,hn⟩
    refine ⟨.inl ⟨h,?_⟩,hn⟩
    simp only[Bool.not_eq_true',decide_eq_false_iff_not] at hn
    exact hn
  obtain ⟨P,s,c1,c2,x1,x2,x3,x4,x5,x6⟩:=yd hv hm
  have S:=(eE.1 hv).2
  have ho:=iK V.right
  unfold oG at h0 fin ⊢
  by_cases he:Ty.eq aE (bS x) r=true
  ·rw[if_pos he] at h0 fin ⊢
   have Cf:bS x=r:=AP he
   have gB:r ∈ aq ps:=by
    rw[ny V,(nR _).mem_iff]
    exact List.mem_map.2 ⟨x,hm,Cf⟩
   have N:=th hv
   refine fin (aW ps) rfl (ho.mono (by omega)) ⟨N.at_,N.ed,0,Nat.zero_le _,λj hj=>?_⟩ hv λr'=>?_
   ·have:=N.E3 j hj
    exact ⟨this.1,this.2⟩
   ·constructor
    ·intro h
     by_cases f8:rk r'=rk r
     ·exact .inr (qU (sU (gb V)) h gB f8)
     ·exact .inl ⟨h,f8⟩
    ·rintro (h | rfl)
     ·exact h.1
     ·exact gB
  ·rw[if_neg he] at h0 fin ⊢
   by_cases hf:bM (ax ps P s)=1
   ·obtain ⟨J,a2⟩:=S.stub P s c1 hf
    have Ef:if (true:Bool) then bM (ax ps P s)=1/\f_ (ax ps P s)=f_ (ax ps P s)/\ga (ax ps P s)=ga (ax ps P s) else bM (ax ps P s)≠1/\f_ (ax ps P s)=P/\ga (ax ps P s)=s:=⟨hf,rfl,rfl⟩
    rw[x3,if_pos hf,if_pos hf,x1,x2,x4,x5,decide_eq_true hf,Int.toNat_natCast,Int.toNat_natCast,Int.toNat_natCast,Int.toNat_natCast] at h0 fin ⊢
    have ao:=rW ho (by omega) c1 J true hr
    obtain ⟨hy,e⟩:=mB h0
    obtain ⟨v1,v2⟩:=td hv c1 c2 hr (by rw[<-x6];exact hk) true Ef ao.cv hy
    exact fin _ e (ao.mono (by omega)) (GZ hv c1 c2 hr (by rw[<-x6];exact hk) true Ef ao.cv hy) v1 v2
   ·have Ef:if (false:Bool) then bM (ax ps P s)=1/\P=f_ (ax ps P s)/\s=ga (ax ps P s) else bM (ax ps P s)≠1/\P=P/\s=s:=⟨hf,rfl,rfl⟩
    rw[x3,if_neg hf,if_neg hf,x1,x2,decide_eq_false hf,Int.toNat_natCast,Int.toNat_natCast] at h0 fin ⊢
    have ao:=rW ho (by omega) c1 c1 false hr
    obtain ⟨hy,e⟩:=mB h0
    obtain ⟨v1,v2⟩:=td hv c1 c2 hr (by rw[<-x6];exact hk) false Ef ao.cv hy
    exact fin _ e (ao.mono (by omega)) (GZ hv c1 c2 hr (by rw[<-x6];exact hk) false Ef ao.cv hy) v1 v2
end OT
set_option linter.unusedVariables false
set_option linter.unusedSimpArgs false
set_option linter.unusedSectionVars false
namespace OT
open Go
def cA (s:aO) (b:Int):Prop:=List.length s.1<=1048576/\0<=s.2.1/\s.2.1<=b
theorem cA.mono {s:aO} {a b:Int} (h:cA s a) (hb:a<=b):cA s b:=⟨h.1,h.2.1,Int.le_trans h.2.2 hb⟩
theorem uR {v n:Int} (hv:0<=v) (hn:1<=n):0<=v.tmod n/\v.tmod n < n:=by
 rw[Int.tmod_eq_emod_of_nonneg hv]
 exact ⟨Int.emod_nonneg _ (by omega),Int.emod_lt_of_pos _ (by omega)⟩
theorem dX {s:aO} {b n:Int} (h:cA s b) (hb:b<=1000000) (hn:1<=n) (DP:n<=1000000):∃ v t,aB.aa (s,n,())=some (v,t,())/\0<=v/\v < n/\cA t (b+1):=by
 obtain ⟨c,a,⟨⟩⟩:=s
 obtain ⟨hc,ha,Qd⟩:=h
 replace hc:c.length<=1048576:=hc
 replace ha:0<=a:=ha
 replace Qd:a<=b:=Qd
 have h1:ag (a+1)=a+1:=ba (by omega)
 have U:ag (a+1 - 1)=a:=by rw[ba (by omega)];omega
 suffices hs:∃ v,(0<=v/\v < n)/\aB.p ((c,a,()),n,())=some (v,(c,a+1,()),()) by
  obtain ⟨v,hv,hp⟩:=hs
  exact ⟨v,(c,a+1,()),aj (k:=0) λk _=>(aB.af k _).trans hp,hv.1,hv.2,hc,by show 0<=a+1;omega,by show a+1<=b+1;omega⟩
 unfold aB.p
 have n1:¬ n < 1:=by omega
 have n0:¬ n=0:=by omega
 simp only[n1,n0,h1,U,decide_false,cond_false,if_false]
 by_cases hl:c.length=0
 ·have e:(c.length:Int)=0:=by omega
  simp only[e,decide_true,cond_true]
  exact ⟨_,uR (by rw[ba (by omega)];omega) hn,rfl⟩
 have e:¬ (c.length:Int)=0:=by omega
 have q0:=uR (v:=a) (n:=(c.length:Int)) ha (by omega)
 have q1:=uR (v:=a+1) (n:=(c.length:Int)) (by omega) (by omega)
 have i0:(a.tmod (c.length:Int)).toNat < c.length:=by omega
 have i1:((a+1).tmod (c.length:Int)).toNat < c.length:=by omega
 simp only[e,decide_false,cond_false,if_false,q0.1,q1.1,if_true,List.getElem?_eq_getElem i0,List.getElem?_eq_getElem i1,Option.bind_some]
 have hd:0<=a.tdiv (c.length:Int)/\a.tdiv (c.length:Int)<=a:=by
  rw[Int.tdiv_eq_ediv_of_nonneg ha]
  exact ⟨Int.ediv_nonneg ha (by omega),Int.ediv_le_self _ ha⟩
 have b0:(c[(a.tmod (c.length:Int)).toNat]).toNat < 256:=UInt8.toNat_lt _
 have b1:(c[((a+1).tmod (c.length:Int)).toNat]).toNat < 256:=UInt8.toNat_lt _
 generalize (c[(a.tmod (c.length:Int)).toNat]).toNat=x at b0 ⊢
 generalize (c[((a+1).tmod (c.length:Int)).toNat]).toNat=y at b1 ⊢
 generalize a.tdiv (c.length:Int)=d at hd ⊢
 have w1:ag (x:Int)=(x:Int):=ba (by omega)
 have w0:ag d=d:=ba (by omega)
 have w2:ag (d*37)=d*37:=ba (by omega)
 have w3:ag ((x:Int)+d*37)=(x:Int)+d*37:=ba (by omega)
 by_cases Qe:200 < n
 ·simp only[Qe,decide_true,cond_true,w0,w1,w2,w3]
  have w4:ag (((x:Int)+d*37)*251)=((x:Int)+d*37)*251:=ba (by omega)
  have w5:ag (y:Int)=(y:Int):=ba (by omega)
  have w6:ag ((y:Int)*13)=(y:Int)*13:=ba (by omega)
  have w7:ag (((x:Int)+d*37)*251+(y:Int)*13)=((x:Int)+d*37)*251+(y:Int)*13:=ba (by omega)
  have w8:ag (((x:Int)+d*37)*251+(y:Int)*13+a)=((x:Int)+d*37)*251+(y:Int)*13+a:=ba (by omega)
  simp only[w4,w5,w6,w7,w8]
  exact ⟨_,uR (by omega) hn,rfl⟩
 ·simp only[Qe,decide_false,cond_false,w0,w1,w2,w3]
  exact ⟨_,uR (by omega) hn,rfl⟩
theorem ll {s:aO} {b n:Int} (h:cA s b) (hb:b<=1000000) (hn:1<=n) (DP:n<=1000000):∃ v t,bp.aa (s,n,())=some (v,t,())/\cA t (b+1):=by
 obtain ⟨v,t,h1,_,_,U⟩:=dX h hb hn DP
 refine ⟨decide (v=0),t,aj (k:=0) λk _=>(bp.af k _).trans ?_,U⟩
 unfold bp.p
 rw[h1]
 rfl
theorem qo {s:aO} {b:Int} (h:cA s b) (hb:b<=1000000) (l:List Int) (hn:1<=l.length) (DP:l.length<=1000000):∃ v t,dm.aa (s,l,())=some (v,t,())/\v ∈ l/\cA t (b+1):=by
 obtain ⟨v,t,h1,U,h3,h4⟩:=dX (n:=(l.length:Int)) h hb (by omega) (by omega)
 have hi:v.toNat < l.length:=by omega
 refine ⟨l[v.toNat],t,aj (k:=0) λk _=>(dm.af k _).trans ?_,List.getElem_mem hi,h4⟩
 unfold dm.p
 rw[h1]
 simp only[Option.bind_some,U,if_true,List.getElem?_eq_getElem hi]
theorem BJ {α:Type} (l:List α) {v:Int} (h:0<=v/\v < (l.length:Int)):∃ x,l[v.toNat]?=some x/\x ∈ l:=by
 have hi:v.toNat < l.length:=by omega
 exact ⟨l[v.toNat],List.getElem?_eq_getElem hi,List.getElem_mem hi⟩
theorem iL {m:Nat} (h:m<=1000):ag (((m+1:Nat):Int) - 1)=(m:Int):=by rw[ba (by omega)];omega
theorem E4 {X O V:Type} (M:Int) {B:(V->Option O)->V->Option O} (enc:aO->X->Int->V) (I:Int->X->Prop) (d:Int) (hd:0<=d) (G:aO->X->Option O)
  (gB:∀ (n:Nat) (s:aO) (x:X) (b:Int),n<=1000->cA s b->b<=M->I b x->∃ s' x',cA s' (b+d)/\I (b+d) x'/\∀ self,B self (enc s x ((n+1:Nat):Int))=self (enc s' x' (n:Int)))
  (mh:∀ (s:aO) (x:X) (b:Int),cA s b->I b x->∀ self,B self (enc s x 0)=G s x) :
  ∀ (n:Nat) (s:aO) (x:X) (b:Int),n<=1000->cA s b->I b x->b+d*n<=M->∃ s' x',cA s' (b+d*n)/\I (b+d*n) x'/\∀ k,n < k->aD B k (enc s x (n:Int))=G s' x'
 | 0,s,x,b,_,hs,hI,_=>⟨s,x,by simpa using hs,by simpa using hI,λk hk=>by
   obtain ⟨j,rfl⟩:∃ j,k=j+1:=⟨k - 1,by omega⟩
   rw[lR]
   exact mh s x b hs hI _⟩
 | n+1,s,x,b,hn,hs,hI,hb=>by
  have hm:d*((n+1:Nat):Int)=d+d*(n:Int):=by rw[Int.natCast_succ,Int.mul_add,Int.mul_one,Int.add_comm]
  have hp:0<=d*(n:Int):=Int.mul_nonneg hd (by omega)
  obtain ⟨s1,x1,J,a2,a3⟩:=gB n s x b (by omega) hs (by omega) hI
  obtain ⟨s2,x2,c1,c2,c3⟩:=E4 M enc I d hd G gB mh n s1 x1 (b+d) (by omega) J a2 (by omega)
  have e:b+d*((n+1:Nat):Int)=b+d+d*(n:Int):=by omega
  refine ⟨s2,x2,e ▸ c1,e ▸ c2,λk hk=>?_⟩
  obtain ⟨j,rfl⟩:∃ j,k=j+1:=⟨k - 1,by omega⟩
  rw[lR,a3]
  exact c3 j (by omega)
theorem uS {X O V:Type} (M:Int) {B:(V->Option O)->V->Option O} (enc:aO->X->Int->V) (I:Int->X->Prop) (d:Int) (hd:0<=d) (fin:aO->X->O)
  (gB:∀ (n:Nat) (s:aO) (x:X) (b:Int),n<=1000->cA s b->b<=M->I b x->∃ s' x',cA s' (b+d)/\I (b+d) x'/\∀ self,B self (enc s x ((n+1:Nat):Int))=self (enc s' x' (n:Int)))
  (mh:∀ (s:aO) (x:X) (b:Int),cA s b->I b x->∀ self,B self (enc s x 0)=some (fin s x)) (n:Nat) (s:aO) (x:X) (b:Int) (hn:n<=1000) (hs:cA s b) (hI:I b x) (hb:b+d*n<=M) :
  ∃ s' x',cA s' (b+d*n)/\I (b+d*n) x'/\∀ k,n < k->aD B k (enc s x (n:Int))=some (fin s' x'):=
 E4 M enc I d hd (λs x=>some (fin s x)) gB mh n s x b hn hs hI hb
theorem N9 {s:aO} {b:Int} (h:cA s b) (hb:b<=799000) (n:Nat) (hn:n<=100):∃ l t,iu.aa (s,(n:Int),())=some (l,t,())/\l.length=n/\cA t (b+n):=by
 have:=uS 800000 (B:=λw v=>iu.b0 w (iu.q0 (s,(n:Int),())) (s,(n:Int),()) v) (λs (l:List UInt8) i=>(s,i,l)) (λc l=>0<=b/\(l.length:Int)=c - b) 1 (by omega) (λs l=>(l,s,()))
  (λm s x c hm hs hc hI=>by
   obtain ⟨v,t,e1,J,c1,s1⟩:=dX (n:=256) hs (by omega) (by omega) (by omega)
   refine ⟨t,x++[UInt8.ofInt v],s1,⟨hI.1,by have:=hI.2;rw[List.length_append];simp only[List.length_cons,List.length_nil];omega⟩,λself=>?_⟩
   unfold iu.b0
   have av:(0:Int) < ((m+1:Nat):Int):=by omega
   have hw:ag (((m+1:Nat):Int) - 1)=(m:Int):=iL hm
   simp only[av,decide_true,cond_true,e1,Option.bind_some,hw]
   rw[if_pos (dR (by have:=hI.1;have:=hI.2;simp only[List.length_cons,List.length_nil];omega))])
  (λs x c _ _ self=>by
   unfold iu.b0
   rw[decide_eq_false (Int.lt_irrefl _),cond_false]
   rfl) n s [] b (by omega) h ⟨by have:=h.2;omega,by simp⟩ (by omega)
 obtain ⟨t,l,J,a2,a3⟩:=this
 have a2:=a2.2
 refine ⟨l,t,aj (k:=n+1) λk hk=>(iu.af k _).trans ?_,by omega,J.mono (by omega)⟩
 exact a3 k (by omega)
theorem Nr {X O V:Type} {B:(V->Option O)->V->Option O} (enc:aO->X->Int->V) (I:X->Prop) (d:Int) (hd:0<=d) (fin:aO->X->O) (N:Nat) (hN:N<=1000)
  (gB:∀ (i:Nat) (s:aO) (x:X) (b:Int),i < N->cA s b->b<=700000->I x->∃ s' x',cA s' (b+d)/\I x'/\∀ self,B self (enc s x (i:Int))=self (enc s' x' ((i+1:Nat):Int)))
  (mh:∀ (s:aO) (x:X) (b:Int),cA s b->I x->∀ self,B self (enc s x (N:Int))=some (fin s x)) :
  ∀ (m i:Nat) (s:aO) (x:X) (b:Int),i+m=N->cA s b->I x->b+d*m<=700000->∃ s' x',cA s' (b+d*m)/\I x'/\∀ k,m < k->aD B k (enc s x (i:Int))=some (fin s' x')
 | 0,i,s,x,b,hi,hs,hI,_=>⟨s,x,by simpa using hs,hI,λk hk=>by
   obtain ⟨j,rfl⟩:∃ j,k=j+1:=⟨k - 1,by omega⟩
   rw[lR,show i=N by omega]
   exact mh s x b hs hI _⟩
 | m+1,i,s,x,b,hi,hs,hI,hb=>by
  have hm:d*((m+1:Nat):Int)=d+d*(m:Int):=by rw[Int.natCast_succ,Int.mul_add,Int.mul_one,Int.add_comm]
  have hp:0<=d*(m:Int):=Int.mul_nonneg hd (by omega)
  obtain ⟨s1,x1,J,a2,a3⟩:=gB i s x b (by omega) hs (by omega) hI
  obtain ⟨s2,x2,c1,c2,c3⟩:=Nr enc I d hd fin N hN gB mh m (i+1) s1 x1 (b+d) (by omega) J a2 (by omega)
  have e:b+d*((m+1:Nat):Int)=b+d+d*(m:Int):=by omega
  refine ⟨s2,x2,e ▸ c1,c2,λk hk=>?_⟩
  obtain ⟨j,rfl⟩:∃ j,k=j+1:=⟨k - 1,by omega⟩
  rw[lR,a3]
  exact c3 j (by omega)
theorem E5 {m:Nat} (h:m<=1000):ag ((m:Int)+1)=((m+1:Nat):Int):=by rw[ba (by omega)];omega
end OT
set_option linter.unusedVariables false
set_option linter.unusedSimpArgs false
set_option linter.unusedSectionVars false
namespace OT
open Go
def TJ (b:UInt8):List UInt8:=((List.replicate 64 b).set 0 0).set 1 64
theorem N_ (v:Int) (h:v=0\/v=7):∃ p,c9.aa (UInt8.ofInt v,())=some (p,())/\bQ p:=by
 rcases h with rfl | rfl
 ·refine ⟨xj,?_,oF.1⟩
  exact v6
 ·refine ⟨TJ 7,aj (k:=66) λk hk=>?_,lh.1 (by decide +kernel)⟩
  obtain ⟨j,rfl⟩:∃ j,k=j+66:=⟨k - 66,by omega⟩
  exact (c9.af _ _).trans (by kernel_rfl)
theorem E6 {s:aO} {b:Int} (h:cA s b) (hb:b<=400000):∃ p t,cV.aa (s,())=some (p,t,())/\bQ p/\cA t (b+500):=by
 obtain ⟨v0,t0,e0,m0,s0⟩:=qo h (by omega) [(0:Int),(0:Int),(7:Int)] (by simp) (by simp)
 obtain ⟨p0,e1,VX⟩:=N_ v0 (by simp only[List.mem_cons,List.not_mem_nil,or_false] at m0;omega)
 obtain ⟨v,t1,e2,a2,c2,s1⟩:=dX (n:=14) s0 (by omega) (by omega) (by omega)
 have:=uS 700000 (B:=λw v=>cV.b0 w (cV.q0 (s,())) (s,()) v) (λs (l:List UInt8) i=>(s,l,i)) (λ_ l=>bQ l) 20 (by omega) (λs l=>(l,s,()))
  (λm s x c hm hs hc hI=>by
   have av:(0:Int) < ((m+1:Nat):Int):=by omega
   obtain ⟨v1,t1,e1,J,c1,s1⟩:=dX (n:=14) hs (by omega) (by omega) (by omega)
   have hw:ag (1+v1)=((v1.toNat+1:Nat):Int):=by rw[ba (by omega)];omega
   obtain ⟨l,t2,e2,hl,s2⟩:=N9 s1 (by omega) (v1.toNat+1) (by omega)
   obtain ⟨v3,t3,e3,a3,c3,s3⟩:=dX (n:=5) s2 (by omega) (by omega) (by omega)
   by_cases h0:v3=0
   ·obtain ⟨v4,t4,e4,a4,c4,s4⟩:=dX (n:=6) s3 (by omega) (by omega) (by omega)
    have e5:=vS hI v4.toNat
    rw[show ((v4.toNat:Nat):Int)=v4 by omega] at e5
    by_cases hh:v4.toNat < pn x/\au x v4.toNat≠0
    ·have e6:=yI hI hh.1
     rw[show ((v4.toNat:Nat):Int)=v4 by omega] at e6
     refine ⟨t4,jC x v4.toNat,s4.mono (by omega),(vN hI hh.1).1,λself=>?_⟩
     unfold cV.b0
     simp only[av,decide_true,cond_true,e1,e2,e3,e4,e5,e6,Option.bind_some,iL hm,hw,h0,hh.1,hh.2,decide_false,Bool.not_false,Bool.and_self]
    ·refine ⟨t4,x,s4.mono (by omega),hI,λself=>?_⟩
     have e7:(decide (v4.toNat < pn x)&&!decide (au x v4.toNat=0))=false:=by
      by_cases q1:v4.toNat < pn x
      ·have q2:au x v4.toNat=0:=Decidable.byContradiction λq=>hh ⟨q1,q⟩
       simp[q2]
      ·simp[q1]
     unfold cV.b0
     simp only[av,decide_true,cond_true,e1,e2,e3,e4,e5,e7,Option.bind_some,iL hm,hw,h0,cond_false]
   by_cases h1:v3=1
   ·obtain ⟨v4,t4,e4,a4,c4,s4⟩:=dX (n:=6) s3 (by omega) (by omega) (by omega)
    have e5:=vS hI v4.toNat
    rw[show ((v4.toNat:Nat):Int)=v4 by omega] at e5
    have n10:¬ (1:Int)=0:=by omega
    by_cases hh:v4.toNat < pn x/\au x v4.toNat≠0
    ·have e6:=vZ hI l (by omega) (by omega) hh.1 hh.2
     rw[show ((v4.toNat:Nat):Int)=v4 by omega] at e6
     by_cases hz:jT x v4.toNat l=0
     ·refine ⟨t4,pM x v4.toNat l,s4.mono (by omega),(qh hI hh.1 hh.2 (by omega) hz).1,λself=>?_⟩
      unfold cV.b0
      simp only[av,decide_true,cond_true,e1,e2,e3,e4,e5,e6,Option.bind_some,iL hm,hw,h1,n10,hh.1,hh.2,decide_false,Bool.not_false,Bool.and_self,cond_false,hz,if_true]
     ·refine ⟨t4,x,s4.mono (by omega),hI,λself=>?_⟩
      unfold cV.b0
      simp only[av,decide_true,cond_true,e1,e2,e3,e4,e5,e6,Option.bind_some,iL hm,hw,h1,n10,hh.1,hh.2,decide_false,Bool.not_false,Bool.and_self,cond_false,hz,if_false]
    ·refine ⟨t4,x,s4.mono (by omega),hI,λself=>?_⟩
     have e7:(decide (v4.toNat < pn x)&&!decide (au x v4.toNat=0))=false:=by
      by_cases q1:v4.toNat < pn x
      ·have q2:au x v4.toNat=0:=Decidable.byContradiction λq=>hh ⟨q1,q⟩
       simp[q2]
      ·simp[q1]
     unfold cV.b0
     simp only[av,decide_true,cond_true,e1,e2,e3,e4,e5,e7,Option.bind_some,iL hm,hw,h1,n10,decide_false,cond_false]
   by_cases U:v3=2
   ·obtain ⟨v4,t4,e4,s4⟩:=ll (n:=3) s3 (by omega) (by omega) (by omega)
    have n20:¬ (2:Int)=0:=by omega
    have n21:¬ (2:Int)=1:=by omega
    cases v4 with
    | true=>
     refine ⟨t4,fF x,s4.mono (by omega),(kF hI).1,λself=>?_⟩
     unfold cV.b0
     simp only[av,decide_true,cond_true,e1,e2,e3,e4,ul hI,Option.bind_some,iL hm,hw,U,n20,n21,decide_false,cond_false]
    | false=>
     refine ⟨t4,x,s4.mono (by omega),hI,λself=>?_⟩
     unfold cV.b0
     simp only[av,decide_true,cond_true,e1,e2,e3,e4,Option.bind_some,iL hm,hw,U,n20,n21,decide_false,cond_false]
   have e6:=uP hI l (by omega) (by omega)
   by_cases hz:fN x l=0
   ·refine ⟨t3,jH x l,s3.mono (by omega),(nP hI (by omega) hz).1,λself=>?_⟩
    unfold cV.b0
    simp only[av,decide_true,cond_true,e1,e2,e3,e6,Option.bind_some,iL hm,hw,h0,h1,U,decide_false,cond_false,hz,if_true]
   ·refine ⟨t3,x,s3.mono (by omega),hI,λself=>?_⟩
    unfold cV.b0
    simp only[av,decide_true,cond_true,e1,e2,e3,e6,Option.bind_some,iL hm,hw,h0,h1,U,decide_false,cond_false,hz,if_false])
  (λs x c _ _ self=>by
   unfold cV.b0
   rw[decide_eq_false (Int.lt_irrefl _),cond_false]
   rfl) v.toNat t1 p0 (b+2) (by omega) (s1.mono (by omega)) VX (by omega)
 obtain ⟨t,l,xL,Ns,Kw⟩:=this
 have hv:((v.toNat:Nat):Int)=v:=by omega
 rw[hv] at Kw xL
 refine ⟨l,t,aj (k:=16) λk hk=>(cV.af k _).trans ?_,Ns,xL.mono (by omega)⟩
 unfold cV.p
 rw[e0]
 simp only[Option.bind_some,e1,e2]
 exact Kw k (by omega)
end OT
