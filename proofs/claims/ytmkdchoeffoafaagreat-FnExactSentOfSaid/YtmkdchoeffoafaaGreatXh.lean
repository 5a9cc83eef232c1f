/- The proof's parts, merged: The view of pages as the reference has it.. No conditions but those that each states. -/
import Derived.Test.YtmkdchoeffoafaaGreatXg
set_option linter.unusedVariables false
set_option linter.unusedSimpArgs false
namespace OT
open Go
abbrev k9:Type:=List (List UInt8)
def Ed {α β:Type} (g:Nat->α->List β):Nat->List α->List β
 | _,[]=>[]
 | i,x::xs=>g i x++Ed g (i+1) xs
theorem Ee {O α β:Type} (g:Nat->α->List β) (fin:List β->O):∀ (xs:List α) (i:Nat) (s:List β),bz (λi s x=>.inr (s++g i x)) fin i xs s=fin (s++Ed g i xs)
 | [],_,s=>by simp[bz,Ed]
 | x::xs,i,s=>by simp only[bz,Ed];rw[Ee g fin xs (i+1)];simp[bK]
theorem OS {α β:Type} {g:Nat->α->List β} {n:Nat}:∀ (xs:List α) (i:Nat),(∀ i x,x ∈ xs->(g i x).length<=n)->(Ed g i xs).length<=n*xs.length
 | [],_,_=>by simp[Ed]
 | x::xs,i,h=>by
  have h1:=h i x bG;have h2:=OS xs (i+1) λi y hy=>h i y (aW _ hy);simp only[Ed,aR,aO,Nat.mul_add];omega
theorem OU {α β:Type} {g:Nat->α->List β} {y:β}:∀ {xs:List α} {i:Nat},y ∈ Ed g i xs↔∃ (j:Nat) (x:α),xs[j]?=some x/\y ∈ g (i+j) x
 | [],i=>by simp[Ed]
 | x::xs,i=>by
  simp only[Ed,cJ,OU (xs:=xs)];constructor
  ·rintro (h | ⟨j,z,h1,h2⟩)
   ·exact ⟨0,x,rfl,h⟩
   ·exact ⟨j+1,z,h1,by rw[show i+(j+1)=i+1+j by omega];exact h2⟩
  ·rintro ⟨j,z,h1,h2⟩
   cases j with
   | zero=>injection h1 with h1;subst h1;exact .inl h2
   | succ j=>exact .inr ⟨j,z,h1,by rw[show i+1+j=i+(j+1) by omega];exact h2⟩
def iv (x:a8):Int:=x.2.2.1.2.1
def pq (x:a8):Int:=x.2.2.1.2.2.1
def pr (x:a8):Int:=x.2.2.1.2.2.2.1
def mQ (x:a8):Row:=x.2.2.1.2.2.2.2.1
def rz (P:Nat) (p:List UInt8) (s:Nat):List a8:=if bv p s=0 then [] else [((P:Int),(s:Int),(iu (kX p s)).1,())]
def t6 (P:Nat) (p:List UInt8):List a8:=(List.range (pn p)).flatMap (rz P p)
def cd (ps:k9):List a8:=Ed t6 0 ps
def oX (ps:k9) (a b:Int):rQ×Bool:=match ps[a.toNat]? with
 | some p=>if b.toNat < pn p/\bv p b.toNat≠0 then iu (kX p b.toNat) else (EP,false)
 | none=>(EP,false)
def vE (p:List UInt8) (s:Nat):Bool:=decide (bv p s=0)||(iu (kX p s)).2
def w9 (p:List UInt8):Int:=if w8 p=0 then (if (List.range (pn p)).all (vE p) then 0 else 5) else w8 p
def rr (ps:k9) (x:a8):Bool:=!decide (iv x=1)||((oX ps (pq x) (pr x)).2&&decide ((oX ps (pq x) (pr x)).1.2.1=2))
def w_ (x:a8):Option (Int×Int):=if iv x=1 then some (pq x,pr x) else none
def OV (x:a8) (r:Row):a8:=(x.1,x.2.1,(x.2.2.1.1,x.2.2.1.2.1,x.2.2.1.2.2.1,x.2.2.1.2.2.2.1,r,x.2.2.1.2.2.2.2.2),x.2.2.2)
def zf (ps:k9) (x:a8):a8:=if iv x=1 then OV x (oX ps (pq x) (pr x)).1.2.2.2.2.1 else x
def sb (ps:k9) (x:a8):List a8:=if iv x=2 then [] else [zf ps x]
def po (ps:k9):List a8:=(cd ps).flatMap (sb ps)
def CJ (ps:k9):Int:=
 if (cd ps).all (rr ps) then
  if ((cd ps).filterMap w_).Nodup then (if ((po ps).map λx=>rk (mQ x)).Nodup then 0 else 8) else 6
 else 4
def mH (ps:k9):Int:=if 12 < ps.length then 2 else if ox w9 ps=0 then CJ ps else ox w9 ps
def tO (ps:k9):Prop:=ps.length<=12/\∀ p ∈ ps,sa p
theorem HC {p:List UInt8} (h:w9 p=0):sa p/\∀ s,s < pn p->bv p s≠0->(iu (kX p s)).2=true:=by
 unfold w9 at h;split at h
 ·rename_i h1;split at h
  ·rename_i h2;refine ⟨D_.1 h1,λs hs hz=>?_⟩
   have:=cB.1 h2 s (dF.2 hs)
   simpa [vE,hz] using this
  ·cases h
 ·rename_i h1;exact absurd h h1
theorem xd {α:Type} {c:α->Int}:∀ {xs:List α},ox c xs=0->∀ x ∈ xs,c x=0
 | [],_,_,hx=>by cases hx
 | y::xs,h,x,hx=>by
  simp only[ox] at h;split at h
  ·rename_i hy;rcases aX.1 hx with rfl | hx
   ·exact hy
   ·exact xd h x hx
  ·rename_i hy;exact absurd h hy
theorem CK {ps:k9} (h:mH ps=0):tO ps/\ox w9 ps=0/\CJ ps=0:=by
 unfold mH at h;split at h
 ·cases h
 ·rename_i h1;split at h
  ·rename_i h2;exact ⟨⟨by omega,λp hp=>(HC (xd h2 p hp)).1⟩,h2,h⟩
  ·rename_i h2;exact absurd h h2
theorem Bl {p:List UInt8} (h:sa p) (P:Nat):(t6 P p).length<=16:=by
 have:∀ n,((List.range n).flatMap (rz P p)).length<=n:=by
  intro n
  induction n with
  | zero=>simp
  | succ n ih=>
   rw[List.range_succ,iZ,aR]
   have:(([n]:List Nat).flatMap (rz P p)).length<=1:=by
    simp only[eL,List.flatMap_nil,cD,rz];split <;> simp
   omega
 have h1:=this (pn p);have h2:=h.n;unfold t6;omega
theorem AY {ps:k9} (h:tO ps):(cd ps).length<=192:=by
 have:=OS (g:=t6) (n:=16) ps 0 λi p hp=>Bl (h.2 p hp) i;unfold cd;have:=h.1;omega
theorem CL {ps:k9} (h:tO ps):(po ps).length<=192:=by
 have:∀ xs:List a8,(xs.flatMap (sb ps)).length<=xs.length:=by
  intro xs
  induction xs with
  | nil=>simp
  | cons x xs ih=>
   have:(sb ps x).length<=1:=by unfold sb;split <;> simp
   simp only[eL,aR,aO];omega
 have h1:=this (cd ps);have h2:=AY h;unfold po;omega
theorem Mp (d:List UInt8):0<=(iu d).1.2.2.1/\0<=(iu d).1.2.2.2.1:=by
 unfold iu;split
 ·exact ⟨aK _,aK _⟩
 ·split
  ·exact ⟨fW _,fW _⟩
  ·exact ⟨fW _,fW _⟩
theorem Al {ps:k9} {x:a8}:x ∈ cd ps↔∃ (P:Nat) (p:List UInt8) (s:Nat),ps[P]?=some p/\s < pn p/\bv p s≠0/\x=((P:Int),(s:Int),(iu (kX p s)).1,()):=by
 unfold cd;rw[OU];constructor
 ·rintro ⟨j,p,h1,h2⟩;obtain ⟨s,h3,h4⟩:=eI.1 h2;unfold rz at h4;split at h4
  ·cases h4
  ·rename_i hz;rw[bR] at h4;rw[bE] at h4;exact ⟨j,p,s,h1,dF.1 h3,hz,h4⟩
 ·rintro ⟨P,p,s,h1,h2,h3,rfl⟩;refine ⟨P,p,h1,eI.2 ⟨s,dF.2 h2,?_⟩⟩
  unfold rz;rw[bB h3,bE];exact bR.2 rfl
theorem xS {ps:k9} {x:a8} (h:x ∈ cd ps):0<=pq x/\0<=pr x:=by
 obtain ⟨P,p,s,_,_,_,rfl⟩:=Al.1 h;exact Mp _
theorem Ef (ps:k9) (h:tO ps):ee.aa (ps,())=some (cd ps,()):=by
 obtain ⟨hl,hp⟩:=h;refine ah (k:=100) λk hk=>(ee.ae k _).trans ?_
 have inner:∀ (self:(k9×(List a8)×Int)->Option ee.Out) (e0:(List a8)->Option ee.Out) (i:Nat) (hi:i < ps.length) (s:List a8),s.length<=1000->ee.r1 k self e0 (ps,()) ps (i:Int) (s,(0:Int))=self (ps,s++t6 i ps[i],af ((i:Int)+1)):=λself e0 i hi s0 hs0=>by
  have bc:=hp _ (aS hi);have hn:=bc.n;have hlen:=bc.len
  have:=ze (B:=λfj v=>ee.b1 fj (λz=>ee.q0 self e0 (ps,()) ps (i:Int) z) (ps,()) ps (i:Int) v) (pn ps[i]) (λ(s:List a8) (j:Int)=>(s,j)) (λj s=>.inr (s++rz i ps[i] j)) (λs=>self (ps,s,af ((i:Int)+1))) (λj s=>s.length<=1000+j) (by omega)
   (λj hj s fj hI=>by
    show ee.b1 _ _ _ _ _ _=_;unfold ee.b1 rz;have am:(j:Int) < (pn ps[i]:Int):=by omega
    simp only[aK,aI,aH,aB hi,aA,wm hlen,am,aD,aJ,uK hlen (show j < 16 by omega)];by_cases hz:bv ps[i] j=0
    ·have:¬ ((0:Int) < (bv ps[i] j:Int)):=by omega
     rw[cH this];simp only[aG,hz,aI,cD]
    ·have:((0:Int) < (bv ps[i] j:Int)):=by omega
     rw[cG this];simp only[aJ,yG bc hj,Ak _ (bO (vD bc hj) (by omega)),aA,hz,aL]
     rw[aV (dh (by simp only[aO,bA];omega))])
   (λj hj s s' hI hf=>by
    injection hf with hf;subst hf;have:(rz i ps[i] j).length<=1:=by unfold rz;split <;> simp
    rw[aR];omega) (λs fj hI=>by
    show ee.b1 _ _ _ _ _ _=_;unfold ee.b1;simp only[aK,aI,aH,aB hi,aA,wm hlen,bC,aC,aG]
    rfl) s0 (by omega) k (by omega)
  rw[CH (rz i ps[i])] at this;exact this
 have:=d_ (B:=λself v=>ee.B0 k self (λz=>ee.q1 (ps,()) z) (ps,()) v) ps (λ(s:List a8) (i:Int)=>(ps,s,i)) (λi s p=>.inr (s++t6 i p)) (λs=>some (s,())) (λi s=>s.length<=16*i) (by rw[aq];omega)
  (λi hi s self hI=>by
   show ee.b0 _ _ _ _ _=_;unfold ee.b0;have am:(i:Int) < (ps.length:Int):=by omega
   simp only[am,aD,aJ,inner self _ i hi s (by omega)])
  (λi hi s s' hI hf=>by
   injection hf with hf;subst hf;have:=Bl (hp _ (aS hi)) i
   rw[aR];omega) (λs self _=>by
   show ee.b0 _ _ _ _ _=_;unfold ee.b0;simp only[bC,aC,aG]
   rfl) [] (by simp) k (by omega)
 rw[Ee] at this;exact this
theorem Mq (ps:k9) (hl:ps.length<=12) (hp:∀ p ∈ ps,p.length<=maxLen):fl.aa (ps,())=some (ox w9 ps,()):=by
 refine ah (k:=100) λk hk=>(fl.ae k _).trans ?_
 have inner:∀ (self:(k9×Int)->Option fl.Out) (e0:Unit->Option fl.Out) (i:Nat) (hi:i < ps.length),sa ps[i]->fl.r1 k self e0 (ps,()) ps (i:Int) (0:Int)=if (List.range (pn ps[i])).all (vE ps[i]) then self (ps,af ((i:Int)+1)) else some ((5:Int),()):=λself e0 i hi bc=>by
  have hn:=bc.n;have hlen:=bc.len
  have:=ze (B:=λfj v=>fl.b1 fj (λz=>fl.q0 self e0 (ps,()) ps (i:Int) z) (ps,()) ps (i:Int) v) (pn ps[i]) (λ(_:Unit) (j:Int)=>j) (λj _=>if vE ps[i] j then .inr () else .inl (some ((5:Int),()))) (λs=>self (ps,af ((i:Int)+1))) (λ_ _=>True) (by omega)
   (λj hj s fj hI=>by
    show fl.b1 _ _ _ _ _ _=_;unfold fl.b1 vE;have am:(j:Int) < (pn ps[i]:Int):=by omega
    simp only[aK,aI,aH,aB hi,aA,wm hlen,am,aD,aJ,uK hlen (show j < 16 by omega)];by_cases hz:bv ps[i] j=0
    ·have:¬ ((0:Int) < (bv ps[i] j:Int)):=by omega
     rw[cH this];simp only[aG,hz,aD,fQ,aI]
    ·have:((0:Int) < (bv ps[i] j:Int)):=by omega
     rw[cG this];simp only[aJ,yG bc hj,Ak _ (bO (vD bc hj) (by omega)),aA,hz,aC,dY]
     cases (iu (kX ps[i] j)).2 <;> rfl)
   (λ_ _ _ _ _ _=>trivial) (λs fj hI=>by
    show fl.b1 _ _ _ _ _ _=_;unfold fl.b1;simp only[aK,aI,aH,aB hi,aA,wm hlen,bC,aC,aG]
    rfl) () trivial k (by omega)
  rw[tZ] at this;exact this
 have:=d_ (B:=λself v=>fl.B0 k self (λz=>fl.q1 (ps,()) z) (ps,()) v) ps (λ(_:Unit) (i:Int)=>(ps,i)) (λi _ p=>if w9 p=0 then .inr () else .inl (some (w9 p,()))) (λ_=>some ((0:Int),())) (λ_ _=>True) (by rw[aq];omega)
  (λi hi s self hI=>by
   show fl.b0 _ _ _ _ _=_;unfold fl.b0 w9;have am:(i:Int) < (ps.length:Int):=by omega
   simp only[am,aD,aJ,aK,aI,aH,aB hi,aA,NA _ (hp _ (aS hi))];by_cases h0:w8 ps[i]=0
   ·rw[cG h0];simp only[aQ,aG,inner self _ i hi (D_.1 h0),h0,aI];by_cases hc:(List.range (pn ps[i])).all (vE ps[i])=true
    ·simp only[hc,aI]
    ·simp only[hc,aF,aL];rfl
   ·rw[cH h0]
    simp only[aZ,aJ,h0,aL])
  (λ_ _ _ _ _ _=>trivial) (λs self _=>by
   show fl.b0 _ _ _ _ _=_;unfold fl.b0;simp only[bC,aC,aG]
   rfl) () trivial k (by omega)
 rw[yV w9 (λc=>some (c,())) (λ_=>some ((0:Int),()))] at this;refine aU this ?_;split
 ·rename_i h;rw[h]
 ·rfl
theorem Eg (ps:k9) (h:tO ps) (a b:Int) (ha:0<=a) (hb:0<=b):mJ.aa (ps,a,b,())=some ((oX ps a b).1,(oX ps a b).2,()):=by
 obtain ⟨hl,hp⟩:=h;obtain ⟨a,rfl⟩:=dM ha;obtain ⟨b,rfl⟩:=dM hb;refine ah (k:=0) λk hk=>(mJ.ae k _).trans ?_;show mJ.p _=_;unfold mJ.p oX;have hw:af ((ps.length:Int) - 1)=(ps.length:Int) - 1:=bf (by omega);have h0:decide ((0:Int)<=(a:Int))=true:=cG (by omega);have h1:decide ((a:Int)<=(ps.length:Int) - 1)=decide (a < ps.length):=by rw[cK];omega
 simp only[nM,hw,h0,h1,aA,eX,aH];by_cases WN:a < ps.length;rotate_left
 ·rw[cH WN,cW (by omega)];rfl
 rw[cG WN];have bc:=hp _ (aS WN);simp only[aQ,aG,aK,aI,aB WN,aA,QB bc];by_cases hc:b < pn ps[a]/\bv ps[a] b≠0
 ·rw[cG hc.1,cH hc.2,aV hc];simp only[aZ,gA,aQ,aG,yG bc hc.1,Ak _ (bO (vD bc hc.1) (by omega)),aA]
 ·rw[bB hc]
  have:(decide (b < pn ps[a])&&!decide (bv ps[a] b=0))=false:=by
   rw[gN];by_cases h2:b < pn ps[a]
   ·right
    have:bv ps[a] b=0:=by
     by_cases h3:bv ps[a] b=0
     ·exact h3
     ·exact absurd ⟨h2,h3⟩ hc
    rw[cG this];rfl
   ·left;exact cH h2
  rw[this];rfl
theorem Mr (ps:k9) (h:tO ps):c_.aa (cd ps,ps,())=some (if (cd ps).all (rr ps) then (if ((cd ps).filterMap w_).Nodup then 0 else 6) else 4,()):=by
 have oo:=AY h;have Eb:∀ x ∈ cd ps,0<=pq x/\0<=pr x:=λx hx=>xS hx;generalize cd ps=xs at oo Eb ⊢;refine ah (k:=300) λk hk=>(c_.ae k _).trans ?_
 have inner:∀ (self:(List a8×Int)->Option c_.Out) (e2:Unit->Option c_.Out) (i:Nat) (hi:i < xs.length),c_.r2 k self e2 (xs,ps,()) xs (i:Int) (0:Int)=if (xs.take i).any (λy=>decide (iv xs[i]=1)&&(decide (iv y=1)&&(decide (pq xs[i]=pq y)&&decide (pr xs[i]=pr y)))) then some ((6:Int),()) else self (xs,af ((i:Int)+1)):=λself e2 i hi=>by
  have kq:(xs.take i).length=i:=by rw[bP];omega
  have:=d_ (B:=λfj v=>c_.b2 fj (λz=>c_.q1 self e2 (xs,ps,()) xs (i:Int) z) (xs,ps,()) xs (i:Int) v) (xs.take i) (λ(_:Unit) (j:Int)=>j) (λ_ _ y=>if decide (iv xs[i]=1)&&(decide (iv y=1)&&(decide (pq xs[i]=pq y)&&decide (pr xs[i]=pr y))) then .inl (some ((6:Int),())) else .inr ()) (λ_=>self (xs,af ((i:Int)+1))) (λ_ _=>True) (by rw[aq];omega)
   (λj hj s fj _=>by
    have mZ:j < i:=by omega
    have R6:j < xs.length:=by omega
    show c_.b2 _ _ _ _ _ _=_;unfold c_.b2;have am:(j:Int) < (i:Int):=by omega
    have hg:(xs.take i)[j]=xs[j]:=gS;rw[hg];simp only[am,aD,aJ,aK,aI,aH,aB hi,aB R6,aA];show (bif decide (iv xs[i]=1) then bif decide (iv xs[j]=1) then bif decide (pq xs[i]=pq xs[j]) then bif decide (pr xs[i]=pr xs[j]) then _ else _ else _ else _ else _)=_
    cases decide (iv xs[i]=1) <;> cases decide (iv xs[j]=1) <;> cases decide (pq xs[i]=pq xs[j]) <;> cases decide (pr xs[i]=pr xs[j]) <;> rfl)
   (λ_ _ _ _ _ _=>trivial) (λs fj _=>by
    rw[kq];show c_.b2 _ _ _ _ _ _=_;unfold c_.b2;simp only[bC,aC,aG]
    rfl) () trivial k (by omega)
  rw[xH] at this;exact this
 have second:c_.r1 k (xs,ps,()) (xs,(0:Int))=if (xs.filterMap w_).Nodup then some ((0:Int),()) else some ((6:Int),()):=by
  have:=d_ (B:=λself v=>c_.B1 k self (λz=>c_.q2 (xs,ps,()) z) (xs,ps,()) v) xs (λ(_:Unit) (i:Int)=>(xs,i)) (λi _ x=>if (xs.take i).any (λy=>decide (iv x=1)&&(decide (iv y=1)&&(decide (pq x=pq y)&&decide (pr x=pr y)))) then .inl (some ((6:Int),())) else .inr ()) (λ_=>some ((0:Int),())) (λ_ _=>True) (by rw[aq];omega)
   (λi hi s self _=>by
    show c_.b1 _ _ _ _ _=_;unfold c_.b1;have am:(i:Int) < (xs.length:Int):=by omega
    simp only[am,aD,aJ,inner self _ i hi]
    split <;> rfl)
   (λ_ _ _ _ _ _=>trivial) (λs self _=>by
    show c_.b1 _ _ _ _ _=_;unfold c_.b1;simp only[bC,aC,aG]
    rfl) () trivial k (by omega)
  rw[Ec w_ (some ((6:Int),())) (λ_=>some ((0:Int),())) (λx y=>decide (iv x=1)&&(decide (iv y=1)&&(decide (pq x=pq y)&&decide (pr x=pr y)))) (λx y=>?_) xs] at this
  ·exact this
  ·unfold w_;simp only[aE,bM];constructor
   ·rintro ⟨h1,h2,h3,h4⟩;exact ⟨(pq x,pr x),by rw[aV h1],by rw[aV h2,h3,h4]⟩
   ·rintro ⟨b,h1,h2⟩;by_cases c1:iv x=1
    ·by_cases c2:iv y=1
     ·rw[aV c1] at h1;rw[aV c2] at h2;injection h1 with h1;injection h2 with h2;rw[<-h2] at h1;injection h1 with h3 h4;exact ⟨c1,c2,h3,h4⟩
     ·rw[bB c2] at h2;cases h2
    ·rw[bB c1] at h1;cases h1
 have:=d_ (B:=λself v=>c_.b0 self (λz=>c_.Q0 k (xs,ps,()) z) (xs,ps,()) v) xs (λ(_:Unit) (i:Int)=>i) (λi _ x=>if rr ps x then .inr () else .inl (some ((4:Int),()))) (λ_=>c_.r1 k (xs,ps,()) (xs,(0:Int))) (λ_ _=>True) (by rw[aq];omega)
  (λi hi s self _=>by
   show c_.b0 _ _ _ _=_;unfold c_.b0 rr;have am:(i:Int) < (xs.length:Int):=by omega
   obtain ⟨g1,g2⟩:=Eb _ (aS hi);have Hd:mJ.aa (ps,(xs[i]).2.2.1.2.2.1,(xs[i]).2.2.1.2.2.2.1,())=some ((oX ps (pq xs[i]) (pr xs[i])).1,(oX ps (pq xs[i]) (pr xs[i])).2,()):=Eg ps h _ _ g1 g2;simp only[am,aD,aJ,aK,aI,aH,aB hi,aA,Hd];show (bif !decide (iv xs[i]=1) then _ else _)=_
   cases decide (iv xs[i]=1) <;> cases (oX ps (pq xs[i]) (pr xs[i])).2 <;> cases decide ((oX ps (pq xs[i]) (pr xs[i])).1.2.1=2) <;> rfl)
  (λ_ _ _ _ _ _=>trivial) (λs self _=>by
   show c_.b0 _ _ _ _=_;unfold c_.b0;simp only[bC,aC,aG]
   rfl) () trivial k (by omega)
 rw[rP (rr ps) (some ((4:Int),())) (λ_=>c_.r1 k (xs,ps,()) (xs,(0:Int)))] at this;refine aU this ?_;rw[second];split
 ·split <;> rfl
 ·rfl
theorem E9 (ps:k9) (h:tO ps):kS.aa (ps,())=some (po ps,()):=by
 refine ah (k:=300) λk hk=>(kS.ae k _).trans ?_;unfold kS.p;rw[Ef ps h];simp only[aA];have oo:=AY h;have Eb:∀ x ∈ cd ps,0<=pq x/\0<=pr x:=λx hx=>xS hx;unfold po;generalize cd ps=xs at oo Eb ⊢
 have:=d_ (B:=λself v=>kS.b0 self (λz=>kS.q0 (ps,()) xs z) (ps,()) xs v) xs (λ(s:List a8) (i:Int)=>(s,i)) (λi s x=>.inr (s++sb ps x)) (λs=>some (s,())) (λi s=>s.length<=i) (by rw[aq];omega)
  (λi hi s self hI=>by
   show kS.b0 _ _ _ _ _=_;unfold kS.b0 sb;have am:(i:Int) < (xs.length:Int):=by omega
   obtain ⟨g1,g2⟩:=Eb _ (aS hi);have Hd:mJ.aa (ps,(xs[i]).2.2.1.2.2.1,(xs[i]).2.2.1.2.2.2.1,())=some ((oX ps (pq xs[i]) (pr xs[i])).1,(oX ps (pq xs[i]) (pr xs[i])).2,()):=Eg ps h _ _ g1 g2;have ke:∀ y:a8,s.length+[y].length<=cc:=λy=>dh (by simp only[aO,bA];omega);simp only[am,aD,aJ,aK,cQ,aI,aH,aB hi,aA,Hd,ke];show (bif decide (iv xs[i]=2) then _ else bif decide (iv xs[i]=1) then _ else _)=_;unfold zf;by_cases c2:iv xs[i]=2
   ·simp only[c2,aD,aJ,aI,cD]
   ·by_cases c1:iv xs[i]=1
    ·simp only[c1,c2,aD,aC,aJ,aG,aI,aL];rfl
    ·simp only[c1,c2,aC,aG,aL])
  (λi hi s s' hI hf=>by
   injection hf with hf;subst hf;have:(sb ps xs[i]).length<=1:=by unfold sb;split <;> simp
   rw[aR];omega) (λs self _=>by
   show kS.b0 _ _ _ _ _=_;unfold kS.b0;simp only[bC,aC,aG]
   rfl) [] (by simp) k (by omega)
 rw[CH (sb ps)] at this;exact this
def QD (x:a8):Option (Int×Int):=some (rk (mQ x))
theorem Bm (ps:k9) (hp:∀ p ∈ ps,p.length<=maxLen):dp.aa (ps,())=some (mH ps,()):=by
 refine ah (k:=300) λk hk=>(dp.ae k _).trans ?_;unfold dp.p mH;by_cases hl:12 < ps.length
 ·have:(12:Int) < (ps.length:Int):=by omega
  simp only[this,aD,aJ,hl,aI]
 have wj:¬ ((12:Int) < (ps.length:Int)):=by omega
 simp only[wj,aC,aG,hl,aL,Mq ps (by omega) hp,aA];by_cases hc:ox w9 ps=0;rotate_left
 ·simp only[hc,aC,aZ,aJ,aL]
 have h:tO ps:=⟨by omega,λp hp=>(HC (xd hc p hp)).1⟩
 simp only[hc,aD,aQ,aG,aI,Ef ps h,Mr ps h,E9 ps h,aA];unfold CJ;by_cases h1:(cd ps).all (rr ps)=true;rotate_left
 ·simp only[h1,aF,aL];rfl
 by_cases h2:((cd ps).filterMap w_).Nodup;rotate_left
 ·simp only[h1,h2,aI,aL];rfl
 simp only[h1,h2,aI,aD,aQ,aG];have oo:=CL h;generalize po ps=xs at oo ⊢
 have inner:∀ (self:(List a8×Int)->Option dp.Out) (e0:Unit->Option dp.Out) (i:Nat) (hi:i < xs.length),dp.r1 k self e0 (ps,()) xs (i:Int) (0:Int)=if (xs.take i).any (λy=>decide ((mQ xs[i]).1=(mQ y).1)&&decide ((mQ xs[i]).2.1=(mQ y).2.1)) then some ((8:Int),()) else self (xs,af ((i:Int)+1)):=λself e0 i hi=>by
  have kq:(xs.take i).length=i:=by rw[bP];omega
  have:=d_ (B:=λfj v=>dp.b1 fj (λz=>dp.q0 self e0 (ps,()) xs (i:Int) z) (ps,()) xs (i:Int) v) (xs.take i) (λ(_:Unit) (j:Int)=>j) (λ_ _ y=>if decide ((mQ xs[i]).1=(mQ y).1)&&decide ((mQ xs[i]).2.1=(mQ y).2.1) then .inl (some ((8:Int),())) else .inr ()) (λ_=>self (xs,af ((i:Int)+1))) (λ_ _=>True) (by rw[aq];omega)
   (λj hj s fj _=>by
    have mZ:j < i:=by omega
    have R6:j < xs.length:=by omega
    show dp.b1 _ _ _ _ _ _=_;unfold dp.b1;have am:(j:Int) < (i:Int):=by omega
    have abP:(i:Int) < (xs.length:Int):=by omega
    have Bf:(j:Int) < (xs.length:Int):=by omega
    have hg:(xs.take i)[j]=xs[j]:=gS;rw[hg];simp only[am,abP,Bf,aD,aJ,aK,cQ,aI,aH,aB hi,aB R6,aA];show (bif decide ((mQ xs[i]).1=(mQ xs[j]).1) then bif decide ((mQ xs[i]).2.1=(mQ xs[j]).2.1) then _ else _ else _)=_
    cases decide ((mQ xs[i]).1=(mQ xs[j]).1) <;> cases decide ((mQ xs[i]).2.1=(mQ xs[j]).2.1) <;> rfl)
   (λ_ _ _ _ _ _=>trivial) (λs fj _=>by
    rw[kq];show dp.b1 _ _ _ _ _ _=_;unfold dp.b1;simp only[bC,aC,aG]
    rfl) () trivial k (by omega)
  rw[xH] at this;exact this
 have:=d_ (B:=λself v=>dp.B0 k self (λz=>dp.q1 (ps,()) z) (ps,()) v) xs (λ(_:Unit) (i:Int)=>(xs,i)) (λi _ x=>if (xs.take i).any (λy=>decide ((mQ x).1=(mQ y).1)&&decide ((mQ x).2.1=(mQ y).2.1)) then .inl (some ((8:Int),())) else .inr ()) (λ_=>some ((0:Int),())) (λ_ _=>True) (by rw[aq];omega)
  (λi hi s self _=>by
   show dp.b0 _ _ _ _ _=_;unfold dp.b0;have am:(i:Int) < (xs.length:Int):=by omega
   simp only[am,aD,aJ,inner self _ i hi]
   split <;> rfl)
  (λ_ _ _ _ _ _=>trivial) (λs self _=>by
   show dp.b0 _ _ _ _ _=_;unfold dp.b0;simp only[bC,aC,aG]
   rfl) () trivial k (by omega)
 rw[Ec QD (some ((8:Int),())) (λ_=>some ((0:Int),())) (λx y=>decide ((mQ x).1=(mQ y).1)&&decide ((mQ x).2.1=(mQ y).2.1)) (λx y=>?_) xs] at this
 ·refine aU this ?_
  have:xs.filterMap QD=xs.map λx=>rk (mQ x):=by
   unfold QD;rw[<-List.filterMap_eq_map];rfl
  rw[this];split <;> rfl
 ·unfold QD rk;simp only[aE,bM];constructor
  ·rintro ⟨h1,h2⟩;exact ⟨_,rfl,by rw[h1,h2]⟩
  ·rintro ⟨b,h1,h2⟩;injection h1 with h1;injection h2 with h2;rw[<-h2] at h1;injection h1 with h3 h4;exact ⟨h3,h4⟩
end OT
namespace OT
open Go Go.Sort
abbrev xe:Ty:=.arr 2 i64
theorem BG (a b c d:Int):Ty.eq xe [a,b] [c,d]=(decide (a=c)&&decide (b=d)):=by
 show ([(a,c),(b,d)]:List (Int×Int)).all (λp=>Ty.eq i64 p.1 p.2)=_;simp only[eH,List.all_nil,Bool.and_true];rfl
theorem Ga (a b:Int):((List.replicate 2 (0:Int)).set 0 a).set 1 b=[a,b]:=rfl
theorem Eh {α:Type} (k:Ty) (m:List (k.den×α)) (x:k.den) (y:α) (h:∀ e ∈ m,k.eq x e.1=false):nN k m x y=m++[(x,y)]:=by
 have:m.findIdx? (λe=>k.eq x e.1)=none:=by
  rw[hU];exact h
 unfold nN;rw[this]
def gz (x:a8):List Seen:=if iv x=0 then [(mQ x,x.1,x.2.1,false,x.1,x.2.1,())] else []
def ej (x:a8):List Seen:=if iv x=1 then [(Bk,x.1,x.2.1,true,pq x,pr x,())] else []
def lu (x:a8):List (List Int×Row):=if iv x=2 then [([x.1,x.2.1],mQ x)] else []
theorem CM (d:List UInt8):(iu d).2=true->(iu d).1.1=0/\((iu d).1.2.1=0\/(iu d).1.2.1=1\/(iu d).1.2.1=2):=by
 unfold iu;split
 ·intro _;exact ⟨rfl,.inr (.inl rfl)⟩
 ·split
  ·intro h;cases h
  ·rename_i h;intro _;refine ⟨rfl,?_⟩
   show ((pb d 0:Int)=0\/(pb d 0:Int)=1\/(pb d 0:Int)=2);omega
def zq (ps:k9):Prop:=tO ps/\∀ p ∈ ps,∀ s,s < pn p->bv p s≠0->(iu (kX p s)).2=true
theorem Ms {ps:k9} (hl:ps.length<=12) (h:ox w9 ps=0):zq ps:=
 ⟨⟨hl,λp hp=>(HC (xd h p hp)).1⟩,λp hp=>(HC (xd h p hp)).2⟩
theorem Td {ps:k9} (h:zq ps) {x:a8} (hx:x ∈ cd ps):iv x=0\/iv x=1\/iv x=2:=by
 obtain ⟨P,p,s,h1,h2,h3,rfl⟩:=Al.1 hx;exact (CM _ (h.2 p (cA h1) s h2 h3)).2
theorem HD (S:List a8):(S.flatMap gz).length<=S.length/\(S.flatMap ej).length<=S.length:=by
 induction S with
 | nil=>exact ⟨aN _,aN _⟩
 | cons x S ih=>
  have h1:(gz x).length<=1:=by unfold gz;split <;> simp
  have h2:(ej x).length<=1:=by unfold ej;split <;> simp
  simp only[eL,aR,aO];omega
theorem OW {ps:k9} (h:zq ps) (a b:Int) (ha:0<=a) (hb:0<=b):jk xe ((cd ps).flatMap lu) [a,b]=if (oX ps a b).2&&decide ((oX ps a b).1.2.1=2) then some (oX ps a b).1.2.2.2.2.1 else none:=by
 obtain ⟨a,rfl⟩:=dM ha;obtain ⟨b,rfl⟩:=dM hb;unfold jk
 have at_:∀ x ∈ cd ps,x.1=(a:Int)->x.2.1=(b:Int)->oX ps (a:Int) (b:Int)=(x.2.2.1,true):=λx hx e1 e2=>by
  obtain ⟨P,p,s,h1,h2,h3,rfl⟩:=Al.1 hx;have e1:(P:Int)=(a:Int):=e1;have e2:(s:Int)=(b:Int):=e2;have e1:P=a:=by omega
  have e2:s=b:=by omega
  subst e1;subst e2;unfold oX;simp only[aH,h1];rw[aV ⟨h2,h3⟩];have:=h.2 p (cA h1) s h2 h3;rw[<-this]
 cases hf:((cd ps).flatMap lu).find? (λe=>Ty.eq xe [(a:Int),(b:Int)] e.1) with
 | some e=>
  have hm:=List.mem_of_find?_eq_some hf;have hp:=List.find?_some hf;obtain ⟨x,hx,Jg⟩:=eI.1 hm;unfold lu at Jg;split at Jg
  ·rename_i h2;rw[bR] at Jg;subst Jg;rw[BG,aE,bM,bM] at hp;have hg:=at_ x hx hp.1.symm hp.2.symm;rw[hg];have:(x.2.2.1).2.1=2:=h2;simp only[this,aD,gA,aI,cC];rfl
  ·cases Jg
 | none=>
  rw[bB]
  ·rfl
  ·intro hc;rw[aE,bM] at hc;obtain ⟨c1,c2⟩:=hc
   have:∃ x ∈ cd ps,x.1=(a:Int)/\x.2.1=(b:Int)/\iv x=2:=by
    unfold oX at c1 c2;simp only[aH] at c1 c2
    cases ZL:ps[a]? with
    | none=>rw[ZL] at c1;cases c1
    | some p=>
     rw[ZL] at c1 c2;simp only at c1 c2;by_cases hc:b < pn p/\bv p b≠0
     ·rw[aV hc] at c2;exact ⟨_,Al.2 ⟨a,p,b,ZL,hc.1,hc.2,rfl⟩,rfl,rfl,c2⟩
     ·rw[bB hc] at c1;cases c1
   obtain ⟨x,hx,e1,e2,e3⟩:=this;have hm:([x.1,x.2.1],mQ x) ∈ (cd ps).flatMap lu:=eI.2 ⟨x,hx,by unfold lu;rw[aV e3];exact bR.2 rfl⟩;have:=List.find?_eq_none.1 hf _ hm;rw[BG,e1,e2] at this;simp at this
def xf (x:a8):Seen:=(mQ x,x.1,x.2.1,decide (iv x=1),(if iv x=1 then pq x else x.1),(if iv x=1 then pr x else x.2.1),())
def xg (ps:k9) (y:Seen):Seen:=(zx (jk xe ((cd ps).flatMap lu) [y.2.2.2.2.1,y.2.2.2.2.2.1]) Bk,y.2)
def EQ (ps:k9):List Seen:=(cd ps).flatMap gz++((cd ps).flatMap ej).map (xg ps)
theorem QE {ps:k9} (h:zq ps) (hs:(cd ps).all (rr ps)=true):(EQ ps).Perm ((po ps).map xf):=by
 unfold EQ po;have px:=cB.1 hs;have Az:∀ x ∈ cd ps,iv x=0\/iv x=1\/iv x=2:=λx hx=>Td h hx;have Eb:∀ x ∈ cd ps,0<=pq x/\0<=pr x:=λx hx=>xS hx
 have key:∀ S:List a8,(∀ x ∈ S,x ∈ cd ps)->(S.flatMap gz++(S.flatMap ej).map (xg ps)).Perm ((S.flatMap (sb ps)).map xf):=by
  intro S
  induction S with
  | nil=>intro _;exact gX _
  | cons x S ih=>
   intro hS;have ih:=ih λy hy=>hS y (aW _ hy);have hx:=hS x bG;simp only[eL,gM];rcases Az x hx with h0 | h1 | h2
   ·have e1:gz x=[xf (zf ps x)]:=by
     unfold gz xf zf;have n1:¬ iv x=1:=by omega
     rw[aV h0,bB n1,bB n1,bB n1,cH n1]
    have e2:ej x=[]:=by unfold ej;rw[bB (by omega)]
    have e3:sb ps x=[zf ps x]:=by unfold sb;rw[bB (by omega)]
    rw[e1,e2,e3];simp only[fU,bT,cS,cO];exact List.Perm.cons _ ih
   ·have e1:gz x=[]:=by unfold gz;rw[bB (by omega)]
    have e3:sb ps x=[zf ps x]:=by unfold sb;rw[bB (by omega)]
    have e2:(ej x).map (xg ps)=[xf (zf ps x)]:=by
     unfold ej;rw[aV h1];simp only[cS,fU];obtain ⟨g1,g2⟩:=Eb x hx;have cu:=px x hx;unfold rr at cu;rw[cG h1] at cu;simp only[aQ,dY] at cu;have hg:=OW h (pq x) (pr x) g1 g2;rw[aV cu] at hg;unfold xg;simp only[hg,zx];unfold zf;rw[aV h1];have Vj:iv (OV x (oX ps (pq x) (pr x)).1.2.2.2.2.1)=1:=h1;unfold xf;rw[aV Vj,aV Vj,cG Vj];rfl
    rw[e1,e2,e3];simp only[bT,cS,fU,cO];exact (gG).trans (List.Perm.cons _ ih)
   ·have e1:gz x=[]:=by unfold gz;rw[bB (by omega)]
    have e2:ej x=[]:=by unfold ej;rw[bB (by omega)]
    have e3:sb ps x=[]:=by unfold sb;rw[aV h2]
    rw[e1,e2,e3]
    simpa using ih
 exact key (cd ps) λx hx=>hx
def yP (x y:Seen):Bool:=bm (rk x.1) (rk y.1)
def OX (x y:Seen):Int:=if bm (x.1.1,x.1.2.1) (y.1.1,y.1.2.1) then -1 else if bm (y.1.1,y.1.2.1) (x.1.1,x.1.2.1) then 1 else 0
theorem Te:Go.Proofs.ltOf OX=yP:=by
 funext x y;exact SO x.1 y.1
theorem Vk (x y:Seen):oG.aa (x,y,())=some (OX x y,()):=by
 refine ah (k:=0) λk hk=>(oG.ae k _).trans ?_;show oG.p _=_;unfold oG.p;rw[tk];rfl
theorem abQ:SWO yP where
 irrefl x:=ju _
 trans x y z h1 h2:=oW h1 h2
 ntrans x y z h1 h2:=by
  cases h3:yP x z with
  | false=>rfl
  | true=>
   unfold yP at h1 h2 h3
   cases h4:bm (rk y.1) (rk x.1) with
   | true=>
    have:=oW h4 h3;rw[this] at h2;cases h2
   | false=>
    have:=sk h1 h4;rw[this] at h3;rw[h3] at h2;cases h2
def Ei (xs:List Seen) (x:Seen):List Seen:=xs.take (pos (xs.map (·.1)) (rk x.1))++[x]++xs.drop (pos (xs.map (·.1)) (rk x.1))
def CN (l:List Seen):List Seen:=l.foldl Ei []
theorem Vl (xs:List Seen) (x:Seen):(Ei xs x).map (·.1)=mr (xs.map (·.1)) x.1:=by
 unfold Ei mr;simp only[gM,List.map_take,List.map_drop,cS,fU]
theorem Tf (xs:List Seen) (x:Seen):(Ei xs x).Perm (x::xs):=by
 unfold Ei;rw[bK];have:=gG (a:=x) (l₁:=xs.take (pos (xs.map (·.1)) (rk x.1))) (l₂:=xs.drop (pos (xs.map (·.1)) (rk x.1)));rw[cR] at this;exact this
theorem Jy (l:List Seen):(CN l).map (·.1)=HA (l.map (·.1)):=by
 have main:∀ (l acc:List Seen),(l.foldl Ei acc).map (·.1)=(l.map (·.1)).foldl mr (acc.map (·.1)):=by
  intro l
  induction l with
  | nil=>intro acc;rfl
  | cons x l ih=>intro acc;simp only[eG,cS,ih,Vl]
 exact main l []
theorem HE (l:List Seen):(CN l).Perm l:=by
 have main:∀ (l acc:List Seen),(l.foldl Ei acc).Perm (l++acc):=by
  intro l
  induction l with
  | nil=>intro acc;exact gX _
  | cons x l ih=>
   intro acc;exact (ih (Ei acc x)).trans (((gX l).append (Tf acc x)).trans gG)
 have:=main l [];rw[cD] at this;exact this
def Jz (xs:List Seen):Prop:=xs.Pairwise λx y=>yP x y=true
theorem OY {xs:List Seen}:Jz xs↔up (xs.map (·.1)):=by
 unfold Jz up;rw[gT];rfl
theorem Mt {l r:List Seen} (hp:r.Perm l) (hr:Jz r) (hn:(l.map λx=>rk x.1).Nodup):r=CN l:=by
 refine Di (lt:=λx y=>yP x y=true) (λa b h=>Vh h) r (CN l) (hp.trans (HE l).symm) hr (OY.2 ?_);rw[Jy];refine Mo ?_;rw[iL];exact hn
theorem Tg {r:List Seen} (h:Jz r):(r.map λx=>rk x.1).Nodup:=by
 have:=Vi (OY.1 h);rw[iL] at this;exact this
def Bn:List Seen->Bool
 | x::y::l=>yP x y&&Bn (y::l)
 | _=>true
theorem Th:∀ (l:List Seen),Bn l=true->Jz l
 | [],_=>List.Pairwise.nil
 | [x],_=>gE _ _
 | x::y::l,h=>by
  simp only[Bn,aE] at h;have ih:=Th (y::l) h.2;refine eC.2 ⟨λz hz=>?_,ih⟩;rcases aX.1 hz with rfl | hz
  ·exact h.1
  ·exact oW h.1 ((eC.1 ih).1 z hz)
theorem OZ:∀ (l:List Seen),Jz l->Bn l=true
 | [],_=>rfl
 | [x],_=>rfl
 | x::y::l,h=>by
  obtain ⟨h1,h2⟩:=eC.1 h;simp only[Bn,aE];exact ⟨h1 y bG,OZ (y::l) h2⟩
theorem Ti {r:List Seen} (h:r.Pairwise λx y=>yP y x=false) (hn:(r.map λx=>rk x.1).Nodup):Jz r:=by
 unfold Jz
 have h2:r.Pairwise λx y=>rk x.1≠rk y.1:=by
  unfold List.Nodup at hn;rw[gT] at hn;exact hn
 refine (h.and h2).imp λ{x y} ⟨g1,g2⟩=>?_
 cases h3:yP x y with
 | true=>rfl
 | false=>exact absurd (sk h3 g1) g2
end OT
namespace OT
open Go Go.Sort
theorem Vm (z:List Seen) (hl:z.length<=1000):∃ r:List Seen,(∀ f:Nat×Int,oQ.aa (z,f,())=some (r,()))/\r.Perm z/\r.Pairwise λx y=>yP y x=false:=by
 have hs:SWO (Go.Proofs.ltOf OX):=by rw[Te];exact abQ
 have h1:=LI (e:=ii) (cs:=oG.aa) (cf:=OX) (λx y=>Vk x y) hs z (dh (bO hl (by omega)));have h2:=LJ (α:=ii.den) (lt:=Go.Proofs.ltOf OX) hs z;refine ⟨_,λf=>?_,h2.1,?_⟩
 ·show (xM ii oG.aa z).map (λr=>(r,()))=_;rw[h1];rfl
 ·exact h2.2.imp λ{x y} (h:Go.Proofs.ltOf (α:=Seen) OX y x=false)=>by rw[Te] at h;exact h
theorem Mu {O:Type} (r:List Seen) (bad e:O):∀ (l pre:List Seen) (x:Seen),r=pre++x::l->bz (λi (_:Unit) y=>if (match r[i]? with | some z=>yP z y | none=>true) then .inr () else .inl bad) (λ_=>e) pre.length l ()=if Bn (x::l) then e else bad
 | [],pre,x,_=>by simp[bz,Bn]
 | y::l,pre,x,h=>by
  have hx:r[pre.length]?=some x:=by rw[h,bV (aN _)];simp
  simp only[bz,hx,Bn];by_cases hc:yP x y=true;rotate_left
  ·have wz:yP x y=false:=by simpa using hc
   simp only[wz,aF,aL,jW]
  ·simp only[hc,aI,eX];have:=Mu r bad e l (pre++[x]) y (by rw[h];simp);rw[aR] at this;exact this
theorem Vn (ps:k9) (k:Nat) (hk:300<=k) (r:List Seen) (hl:r.length<=192):ak (λself v=>bp.B4 k self (λz=>bp.Q4 k (ps,()) r z) (ps,()) r v) k 1=if Bn r then some (r,(0:Int),()) else some (([]:List Seen),(8:Int),()):=by
 have:=d_ (B:=λself v=>bp.B4 k self (λz=>bp.Q4 k (ps,()) r z) (ps,()) r v) (r.drop 1) (λ(_:Unit) (i:Int)=>i+1) (λi _ y=>if (match r[i]? with | some z=>yP z y | none=>true) then .inr () else .inl (some (([]:List Seen),(8:Int),()))) (λ_=>some (r,(0:Int),())) (λ_ _=>True) (by rw[aq,bI];omega)
  (λi hi s self _=>by
   rw[bI] at hi;show bp.b4 _ _ _ _ _=_;unfold bp.b4;have am:(i:Int)+1 < (r.length:Int):=by omega
   have Bf:(i:Int) < (r.length:Int):=by omega
   have Eb:(0:Int)<=(i:Int)+1:=by omega
   have wL:af ((i:Int)+1 - 1)=(i:Int):=by rw[bf (by omega)];omega
   have wM:af ((i:Int)+1+1)=af ((i:Int)+1)+1:=by rw[bf (by omega),bf (by omega)]
   have SB:((i:Int)+1).toNat=i+1:=by omega
   have hg:(r.drop 1)[i]'(by rw[bI];omega)=r[i+1]'(by omega):=by rw[jN];congr 1;omega
   rw[hg];simp only[am,Bf,Eb,wL,wM,SB,aD,aJ,aK,cQ,aI,aH,aB (show i < r.length by omega),aB (show i+1 < r.length by omega),aA,xP];show (bif !yP r[i] (r[i+1]'(by omega)) then _ else _)=_
   cases yP r[i] (r[i+1]'(by omega)) <;> rfl)
  (λ_ _ _ _ _ _=>trivial) (λs self _=>by
   rw[bI];show bp.b4 _ _ _ _ _=_;unfold bp.b4;have am:¬ (((r.length - 1:Nat):Int)+1 < (r.length:Int)):=by omega
   simp only[am,aC,aG]
   rfl) () trivial k (by rw[bI];omega)
 refine aU this ?_
 cases r with
 | nil=>rfl
 | cons x l=>
  exact Mu (x::l) _ _ l [] x rfl
def vN (ps:k9):List Seen:=if mH ps=0 then CN ((po ps).map xf) else []
def WO (ps:k9):List Seen:=if CJ ps=0 then CN ((po ps).map xf) else []
def Kg (y:Seen):Option (Int×Int):=some (y.2.2.2.2.1,y.2.2.2.2.2.1)
def AZ (y:Seen):List Int×Bool:=([y.2.2.2.2.1,y.2.2.2.2.2.1],true)
theorem Mv (T:List Seen) (a b:Int):zx (jk xe (T.map AZ) [a,b]) false=T.any λy=>decide (a=y.2.2.2.2.1)&&decide (b=y.2.2.2.2.2.1):=by
 induction T with
 | nil=>rfl
 | cons y T ih=>
  have hk:Ty.eq xe [a,b] (AZ y).1=(decide (a=y.2.2.2.2.1)&&decide (b=y.2.2.2.2.2.1)):=BG _ _ _ _;unfold jk at ih ⊢;rw[cS,jU,fY,hk]
  cases (decide (a=y.2.2.2.2.1)&&decide (b=y.2.2.2.2.2.1)) with
  | true=>rfl
  | false=>simpa using ih
theorem Vo (S:List a8):(S.flatMap ej).filterMap Kg=S.filterMap w_:=by
 induction S with
 | nil=>rfl
 | cons x S ih=>
  rw[eL,cU,ih];unfold ej;by_cases h:iv x=1
  ·rw[aV h];have:w_ x=some (pq x,pr x):=by unfold w_;rw[aV h]
   simp[dB,this,Kg]
  ·rw[bB h];have:w_ x=none:=by unfold w_;rw[bB h]
   simp[dB,this]
theorem NC (ps:k9) (h:zq ps):bp.aa (ps,())=some (WO ps,CJ ps,()):=by
 obtain ⟨hl,hp⟩:=h.1;have oo:=AY h.1;refine ah (k:=300) λk hk=>(bp.ae k _).trans ?_
 have inner:∀ (self:(List Seen×List Seen×List (List Int×Row)×k9×Int×Int)->Option bp.Out) (e0:(List Seen×List Seen×List (List Int×Row))->Option bp.Out) (i:Nat) (hi:i < ps.length) (S:List a8),S.length<=16*i->(∀ x ∈ S,x.1 < (i:Int)) ->
   bp.r1 k self e0 (ps,()) (i:Int) ps[i] ps (ps.length:Int) (pn ps[i]:Int) (S.flatMap gz,S.flatMap ej,S.flatMap lu,(0:Int))=self ((S++t6 i ps[i]).flatMap gz,(S++t6 i ps[i]).flatMap ej,(S++t6 i ps[i]).flatMap lu,ps,(ps.length:Int),af ((i:Int)+1)):=λself e0 i hi S0 hS0 nZ=>by
  have bc:=hp _ (aS hi);have hn:=bc.n;have hlen:=bc.len;have mR:=h.2 _ (aS hi)
  have:=ze (B:=λfj v=>bp.B1 k fj (λz=>bp.Q0 k self e0 (ps,()) (i:Int) ps[i] ps (ps.length:Int) (pn ps[i]:Int) z) (ps,()) (i:Int) ps[i] ps (ps.length:Int) (pn ps[i]:Int) v) (pn ps[i]) (λ(S:List a8) (j:Int)=>(S.flatMap gz,S.flatMap ej,S.flatMap lu,j)) (λj S=>.inr (S++rz i ps[i] j)) (λS=>self (S.flatMap gz,S.flatMap ej,S.flatMap lu,ps,(ps.length:Int),af ((i:Int)+1))) (λj S=>S.length<=16*i+j/\∀ x ∈ S,x.1 < (i:Int)\/(x.1=(i:Int)/\x.2.1 < (j:Int))) (by omega)
   (λj hj S fj ⟨WP,Mw⟩=>by
    show bp.b1 _ _ _ _ _ _ _ _ _=_;unfold bp.b1 rz;have am:(j:Int) < (pn ps[i]:Int):=by omega
    simp only[am,aD,aJ,Hz bc,hj,eX,aA];by_cases hz:bv ps[i] j=0
    ·simp only[hz,aD,aQ,aZ,aJ,aI,cD]
    ·have we:=mR j hj hz;obtain ⟨f1,f2⟩:=CM _ we;obtain ⟨l1,l2⟩:=HD S;have ke:∀ (T:List Seen) (y:Seen),T.length<=S.length->T.length+[y].length<=cc:=λT y hT=>dh (by simp only[aO,bA];omega);simp only[hz,aC,aZ,aQ,aG,Dh bc hj,Dg _ (bO (vD bc hj) (by omega)),we,aI,aL,aA,f1,aD,ke _ _ l1,ke _ _ l2,Ga]
     obtain ⟨x,hx⟩:∃ x:a8,x=((i:Int),(j:Int),(iu (kX ps[i] j)).1,()):=⟨_,rfl⟩
     have ZM:iv x=(iu (kX ps[i] j)).1.2.1:=by rw[hx];rfl
     rw[<-hx];simp only[iZ,eL,List.flatMap_nil,cD];rcases f2 with g | g | g
     ·have e1:gz x=[((iu (kX ps[i] j)).1.2.2.2.2.1,(i:Int),(j:Int),false,(i:Int),(j:Int),())]:=by unfold gz;rw[aV (ZM.trans g),hx];rfl
      have e2:ej x=[]:=by unfold ej;rw[bB (by omega)]
      have e3:lu x=[]:=by unfold lu;rw[bB (by omega)]
      rw[e1,e2,e3];simp only[g,aD,aJ,cD,aO,bA,jP,dV,cX,aI]
     ·have e1:gz x=[]:=by unfold gz;rw[bB (by omega)]
      have e2:ej x=[(Bk,(i:Int),(j:Int),true,(iu (kX ps[i] j)).1.2.2.1,(iu (kX ps[i] j)).1.2.2.2.1,())]:=by unfold ej;rw[aV (ZM.trans g),hx];rfl
      have e3:lu x=[]:=by unfold lu;rw[bB (by omega)]
      rw[e1,e2,e3];have n1:¬ ((1:Int)=0):=by decide
      have n2:¬ ((1:Int)=2):=by decide
      simp only[g,n1,n2,aC,aG,cD,aO,bA,jP,dV,cX,aI]
     ·have e1:gz x=[]:=by unfold gz;rw[bB (by omega)]
      have e2:ej x=[]:=by unfold ej;rw[bB (by omega)]
      have e3:lu x=[([(i:Int),(j:Int)],(iu (kX ps[i] j)).1.2.2.2.2.1)]:=by unfold lu;rw[aV (ZM.trans g),hx];rfl
      rw[e1,e2,e3];have n1:¬ ((2:Int)=0):=by decide
      have ut:nN xe (S.flatMap lu) [(i:Int),(j:Int)] (iu (kX ps[i] j)).1.2.2.2.2.1=S.flatMap lu++[([(i:Int),(j:Int)],(iu (kX ps[i] j)).1.2.2.2.2.1)]:=Eh xe _ _ _ λe he=>by
       obtain ⟨y,hy,Tj⟩:=eI.1 he;unfold lu at Tj;split at Tj
       ·rw[bR] at Tj;subst Tj;rw[BG]
        rcases Mw y hy with c | ⟨c,d⟩
        ·rw[cH (show ¬ (i:Int)=y.1 by omega)];rfl
        ·rw[cH (show ¬ (j:Int)=y.2.1 by omega),Bool.and_false]
       ·cases Tj
      simp only[g,n1,aC,aD,aG,aJ,ut,cD,aO,bA,jP,dV,cX,aI]
      rfl)
   (λj hj S S' ⟨WP,Mw⟩ hf=>by
    injection hf with hf;subst hf;have:(rz i ps[i] j).length<=1:=by unfold rz;split <;> simp
    refine ⟨by rw[aR];omega,λx hx=>?_⟩
    rcases cJ.1 hx with hx | hx
    ·rcases Mw x hx with c | ⟨c,d⟩
     ·exact .inl c
     ·exact .inr ⟨c,by omega⟩
    ·unfold rz at hx;split at hx
     ·cases hx
     ·rw[bR] at hx;subst hx
      exact .inr ⟨rfl,by show (j:Int) < ((j+1:Nat):Int);omega⟩) (λS fj hI=>by
    show bp.b1 _ _ _ _ _ _ _ _ _=_;unfold bp.b1;simp only[bC,aC,aG]
    rfl) S0 ⟨by omega,λx hx=>.inl (nZ x hx)⟩ k (by omega)
  rw[CH (rz i ps[i])] at this;exact this
 have outer:bp.r0 k (ps,()) (([]:List Seen),([]:List Seen),([]:List (List Int×Row)),ps,(ps.length:Int),(0:Int))=bp.Q1 k (ps,()) ((cd ps).flatMap gz,(cd ps).flatMap ej,(cd ps).flatMap lu):=by
  have:=d_ (B:=λself v=>bp.B0 k self (λz=>bp.Q1 k (ps,()) z) (ps,()) v) ps (λ(S:List a8) (i:Int)=>(S.flatMap gz,S.flatMap ej,S.flatMap lu,ps,(ps.length:Int),i)) (λi S p=>.inr (S++t6 i p)) (λS=>bp.Q1 k (ps,()) (S.flatMap gz,S.flatMap ej,S.flatMap lu)) (λi S=>S.length<=16*i/\∀ x ∈ S,x.1 < (i:Int)) (by rw[aq];omega)
   (λi hi S self ⟨WP,Mw⟩=>by
    show bp.b0 _ _ _ _ _=_;unfold bp.b0;have am:(i:Int) < (ps.length:Int):=by omega
    have hlen:=(hp _ (aS hi)).len
    simp only[am,aD,aJ,aK,aI,aH,aB hi,aA,AV hlen,inner self _ i hi S WP Mw])
   (λi hi S S' ⟨WP,Mw⟩ hf=>by
    injection hf with hf;subst hf;have:=Bl (hp _ (aS hi)) i;refine ⟨by rw[aR];omega,λx hx=>?_⟩
    rcases cJ.1 hx with hx | hx
    ·have:=Mw x hx;omega
    ·obtain ⟨s,_,hs⟩:=eI.1 hx;unfold rz at hs;split at hs
     ·cases hs
     ·rw[bR] at hs;subst hs;show (i:Int) < ((i+1:Nat):Int)
      omega) (λS self hI=>by
    show bp.b0 _ _ _ _ _=_;unfold bp.b0
    simp only[bC,aC,aG]) [] ⟨by simp,λx hx=>by cases hx⟩ k (by omega)
  rw[Ee] at this;exact this
 show bp.r0 k (ps,()) (([]:List Seen),([]:List Seen),([]:List (List Int×Row)),ps,(ps.length:Int),(0:Int))=_;rw[outer];show bp.q1 _ _ _=_;unfold bp.q1;obtain ⟨gl1,gl2⟩:=HD (cd ps)
 have hT:∀ y ∈ (cd ps).flatMap ej,∃ x ∈ cd ps,iv x=1/\y=(Bk,x.1,x.2.1,true,pq x,pr x,()):=λy hy=>by
  obtain ⟨x,hx,yJ⟩:=eI.1 hy;unfold ej at yJ;split at yJ
  ·rename_i hf;exact ⟨x,hx,hf,bR.1 yJ⟩
  ·cases yJ
 have l2w:bp.r2 k (ps,()) ((cd ps).flatMap gz) ((cd ps).flatMap ej) ((cd ps).flatMap lu) (((cd ps).flatMap ej).length:Int) (0:Int)=if (cd ps).all (rr ps) then bp.Q2 k (ps,()) ((cd ps).flatMap gz) ((cd ps).flatMap ej) ((cd ps).flatMap lu) (((cd ps).flatMap ej).length:Int) () else some (([]:List Seen),(4:Int),()):=by
  obtain ⟨T,JA⟩:∃ T,T=(cd ps).flatMap ej:=⟨_,rfl⟩
  obtain ⟨M,hM⟩:∃ M,M=(cd ps).flatMap lu:=⟨_,rfl⟩
  rw[<-JA,<- hM];have hTl:T.length<=192:=by rw[JA];omega
  have:=d_ (B:=λself v=>bp.B2 k self (λz=>bp.Q2 k (ps,()) ((cd ps).flatMap gz) T M (T.length:Int) z) (ps,()) ((cd ps).flatMap gz) T M (T.length:Int) v) T (λ(_:Unit) (i:Int)=>i) (λi _ y=>if (jk xe M [y.2.2.2.2.1,y.2.2.2.2.2.1]).isSome then .inr () else .inl (some (([]:List Seen),(4:Int),()))) (λ_=>bp.Q2 k (ps,()) ((cd ps).flatMap gz) T M (T.length:Int) ()) (λ_ _=>True) (by rw[aq];omega)
   (λi hi s self _=>by
    show bp.b2 _ _ _ _ _ _ _ _=_;unfold bp.b2;have am:(i:Int) < (T.length:Int):=by omega
    simp only[am,aD,aJ,aK,cQ,aI,aH,aB hi,aA,Ga,dV,cX,show (0:Nat) < 2 by omega,show (1:Nat) < 2 by omega]
    cases (jk xe M [(T[i]).2.2.2.2.1,(T[i]).2.2.2.2.2.1]).isSome <;> rfl)
   (λ_ _ _ _ _ _=>trivial) (λs self _=>by
    show bp.b2 _ _ _ _ _ _ _ _=_;unfold bp.b2
    simp only[bC,aC,aG]) () trivial k (by omega)
  rw[rP (λy:Seen=>(jk xe M [y.2.2.2.2.1,y.2.2.2.2.2.1]).isSome) (some (([]:List Seen),(4:Int),())) (λ_=>bp.Q2 k (ps,()) ((cd ps).flatMap gz) T M (T.length:Int) ())] at this;refine aU this ?_
  have hb:T.all (λy:Seen=>(jk xe M [y.2.2.2.2.1,y.2.2.2.2.2.1]).isSome)=(cd ps).all (rr ps):=by
   have mN:∀ x ∈ cd ps,iv x=1->(jk xe M [pq x,pr x]).isSome=rr ps x:=λx hx hf=>by
    obtain ⟨g1,g2⟩:=xS hx;rw[hM,OW h _ _ g1 g2];unfold rr;rw[cG hf];cases ((oX ps (pq x) (pr x)).2&&decide ((oX ps (pq x) (pr x)).1.2.1=2)) <;> rfl
   rw[fE,cB,cB];constructor
   ·intro px x hx;by_cases hf:iv x=1
    ·rw[<-mN x hx hf]
     have hy:(Bk,x.1,x.2.1,true,pq x,pr x,()) ∈ T:=by
      rw[JA];exact eI.2 ⟨x,hx,by unfold ej;rw[aV hf];exact bR.2 rfl⟩
     exact px _ hy
    ·unfold rr;rw[cH hf];rfl
   ·intro px y hy;obtain ⟨x,hx,hf,e⟩:=hT y (JA ▸ hy);subst e;exact (mN x hx hf).trans (px x hx)
  rw[hb]
 rw[l2w];unfold WO CJ;by_cases cu:(cd ps).all (rr ps)=true;rotate_left
 ·simp only[cu,aF,aL];rfl
 simp only[cu,aI];show bp.q2 _ _ _ _ _ _ _=_;unfold bp.q2
 have l3w:bp.r3 k (ps,()) ((cd ps).flatMap gz) ((cd ps).flatMap ej) ((cd ps).flatMap lu) (((cd ps).flatMap ej).length:Int) ((cd ps).flatMap ej) ((cd ps).flatMap lu) (((cd ps).flatMap ej).length:Int) ((cd ps).flatMap gz,([]:List (List Int×Bool)),(0:Int))=if ((cd ps).filterMap w_).Nodup then bp.Q3 k (ps,()) ((cd ps).flatMap ej) ((cd ps).flatMap lu) (((cd ps).flatMap ej).length:Int) (EQ ps) else some (([]:List Seen),(6:Int),()):=by
  have WQ:=Vo (cd ps);unfold EQ
  obtain ⟨T,JA⟩:∃ T,T=(cd ps).flatMap ej:=⟨_,rfl⟩
  obtain ⟨M,hM⟩:∃ M,M=(cd ps).flatMap lu:=⟨_,rfl⟩
  obtain ⟨L,hL⟩:∃ L,L=(cd ps).flatMap gz:=⟨_,rfl⟩
  have aaY:∀ y:Seen,xg ps y=(zx (jk xe M [y.2.2.2.2.1,y.2.2.2.2.2.1]) Bk,y.2):=λy=>by unfold xg;rw[hM]
  rw[<-JA,<- hM,<- hL];rw[<-JA] at WQ;have hTl:T.length<=192:=by rw[JA];omega
  have hLl:L.length<=192:=by rw[hL];omega
  have:=d_ (B:=λself v=>bp.B3 k self (λz=>bp.Q3 k (ps,()) T M (T.length:Int) z) (ps,()) T M (T.length:Int) v) T (λ(_:Unit) (i:Int)=>(L++(T.take i.toNat).map (xg ps),(T.take i.toNat).map AZ,i)) (λi _ y=>if (T.take i).any (λz=>decide (y.2.2.2.2.1=z.2.2.2.2.1)&&decide (y.2.2.2.2.2.1=z.2.2.2.2.2.1)) then .inl (some (([]:List Seen),(6:Int),())) else .inr ()) (λ_=>bp.Q3 k (ps,()) T M (T.length:Int) (L++T.map (xg ps))) (λ_ _=>True) (by rw[aq];omega)
   (λi hi s self _=>by
    show bp.b3 _ _ _ _ _ _ _=_;unfold bp.b3;have am:(i:Int) < (T.length:Int):=by omega
    have ke:∀ y:Seen,(L++(T.take i).map (xg ps)).length+[y].length<=cc:=λy=>dh (by simp only[aR,fG,bP,aO,bA];omega);have hw:(af ((i:Int)+1)).toNat=i+1:=by rw[bf (by omega)];omega
    have nf:T.take (i+1)=T.take i++[T[i]]:=eM hi;simp only[am,aD,aJ,aK,cQ,aI,aH,aB hi,aA,Ga,dV,cX,show (0:Nat) < 2 by omega,show (1:Nat) < 2 by omega,Mv,ke,hw,nf,gM,cS,fU];have htg:=Mv (T.take i) (T[i]).2.2.2.2.1 (T[i]).2.2.2.2.2.1;refine aU (dE (λb:Bool=>bif b then (some (([]:List Seen),(6:Int),()):Option bp.Out) else self (L++(T.take i).map (xg ps)++[(zx (jk xe M [(T[i]).2.2.2.2.1,(T[i]).2.2.2.2.2.1]) ((0:Int),(0:Int),(0:Int),([]:List UInt8),()),(T[i]).2)],nN xe ((T.take i).map AZ) [(T[i]).2.2.2.2.1,(T[i]).2.2.2.2.2.1] true,af ((i:Int)+1))) htg) ?_
    cases hc:(T.take i).any (λz=>decide ((T[i]).2.2.2.2.1=z.2.2.2.2.1)&&decide ((T[i]).2.2.2.2.2.1=z.2.2.2.2.2.1)) with
    | true=>rfl
    | false=>
     simp only[aG,aF,aL]
     have ut:nN xe ((T.take i).map AZ) [(T[i]).2.2.2.2.1,(T[i]).2.2.2.2.2.1] true=(T.take i).map AZ++[AZ T[i]]:=Eh xe _ _ _ λe he=>by
      obtain ⟨z,hz,rfl⟩:=fV.1 he;have h1:=jM.1 hc z hz;have:Ty.eq xe [(T[i]).2.2.2.2.1,(T[i]).2.2.2.2.2.1] (AZ z).1=_:=BG _ _ _ _;rw[this]
      simpa using h1
     rw[ut,aaY,bK])
   (λ_ _ _ _ _ _=>trivial) (λs self _=>by
    show bp.b3 _ _ _ _ _ _ _=_;unfold bp.b3
    simp only[bC,aC,aG,aH,dX]) () trivial k (by omega)
  rw[Ec Kg (some (([]:List Seen),(6:Int),())) (λ_=>bp.Q3 k (ps,()) T M (T.length:Int) (L++T.map (xg ps))) (λy z=>decide (y.2.2.2.2.1=z.2.2.2.2.1)&&decide (y.2.2.2.2.2.1=z.2.2.2.2.2.1)) (λy z=>?_) T,WQ] at this
  ·simp only[Int.toNat_zero,jH,fU,cD] at this;exact this
  ·unfold Kg;simp only[aE,bM];constructor
   ·rintro ⟨h1,h2⟩;exact ⟨_,rfl,by rw[h1,h2]⟩
   ·rintro ⟨b,h1,h2⟩;injection h1 with h1;injection h2 with h2;rw[<-h2] at h1;injection h1 with h3 h4;exact ⟨h3,h4⟩
 rw[l3w];by_cases nf:((cd ps).filterMap w_).Nodup;rotate_left
 ·simp only[nf,aL];rfl
 simp only[nf,aI];show bp.q3 _ _ _ _ _ _=_;unfold bp.q3;have WR:=QE h cu
 have zF:(EQ ps).length<=192:=by
  have:=WR.length_eq;rw[fG] at this;have:=CL h.1;omega
 obtain ⟨r,un,vt,VM⟩:=Vm (EQ ps) (by omega);rw[un];simp only[aA];have v7:r.length<=192:=by have:=vt.length_eq;omega
 have Wn:=vt.trans WR
 have hkn:(r.map λx=>rk x.1).Nodup↔((po ps).map λx=>rk (mQ x)).Nodup:=by
  have h1:(r.map λx=>rk x.1).Perm (((po ps).map xf).map λx=>rk x.1):=Wn.map _;rw[h1.nodup_iff,iL];exact jX
 refine (Vn ps k hk r v7).trans ?_;by_cases sU:((po ps).map λx=>rk (mQ x)).Nodup
 ·have hup:=Ti VM (hkn.2 sU);have rO:=Mt Wn hup (by rw[iL];exact sU);simp only[sU,aI,OZ r hup];rw[rO]
 ·have:¬ Bn r=true:=λha=>sU (hkn.1 (Tg (Th r ha)));simp only[sU,this,aL];rfl
theorem Bo (ps:k9) (hp:∀ p ∈ ps,p.length<=maxLen):eh.aa (ps,())=some (vN ps,mH ps,()):=by
 refine ah (k:=300) λk hk=>(eh.ae k _).trans ?_;unfold eh.p vN mH;by_cases hl:12 < ps.length
 ·have:(12:Int) < (ps.length:Int):=by omega
  simp only[this,aD,aJ,hl,aI];rfl
 have wj:¬ ((12:Int) < (ps.length:Int)):=by omega
 simp only[wj,aC,aG,hl,aL]
 have inner:∀ (self:(k9×k9×Int×Int)->Option eh.Out) (e0:k9->Option eh.Out) (i:Nat) (hi:i < ps.length),sa ps[i]->eh.r1 k self e0 (ps,()) ps ps[i] ps (ps.length:Int) (i:Int) (pn ps[i]:Int) (0:Int)=if (List.range (pn ps[i])).all (vE ps[i]) then self (ps,ps,(ps.length:Int),af ((i:Int)+1)) else some (([]:List Seen),(5:Int),()):=λself e0 i hi bc=>by
  have hn:=bc.n;have hlen:=bc.len
  have:=ze (B:=λfj v=>eh.b1 fj (λz=>eh.q0 self e0 (ps,()) ps ps[i] ps (ps.length:Int) (i:Int) (pn ps[i]:Int) z) (ps,()) ps ps[i] ps (ps.length:Int) (i:Int) (pn ps[i]:Int) v) (pn ps[i]) (λ(_:Unit) (j:Int)=>j) (λj _=>if vE ps[i] j then .inr () else .inl (some (([]:List Seen),(5:Int),()))) (λ_=>self (ps,ps,(ps.length:Int),af ((i:Int)+1))) (λ_ _=>True) (by omega)
   (λj hj s fj hI=>by
    show eh.b1 _ _ _ _ _ _ _ _ _ _=_;unfold eh.b1 vE;have am:(j:Int) < (pn ps[i]:Int):=by omega
    simp only[am,aD,aJ,Hz bc,hj,eX,aA];by_cases hz:bv ps[i] j=0
    ·simp only[hz,aD,aQ,aG,fQ,aI]
    ·simp only[hz,aC,aZ,aJ,Dh bc hj,Dg _ (bO (vD bc hj) (by omega)),aA,dY]
     cases hc:(iu (kX ps[i] j)).2 with
     | true=>
      have:=(CM _ hc).1;simp only[aI,this,aD,aQ,aG]
     | false=>rfl)
   (λ_ _ _ _ _ _=>trivial) (λs fj hI=>by
    show eh.b1 _ _ _ _ _ _ _ _ _ _=_;unfold eh.b1;simp only[bC,aC,aG]
    rfl) () trivial k (by omega)
  rw[tZ] at this;exact this
 have outer:eh.r0 k (ps,()) (ps,ps,(ps.length:Int),(0:Int))=if ox w9 ps=0 then eh.q1 (ps,()) ps else some (([]:List Seen),ox w9 ps,()):=by
  have:=d_ (B:=λself v=>eh.B0 k self (λz=>eh.q1 (ps,()) z) (ps,()) v) ps (λ(_:Unit) (i:Int)=>(ps,ps,(ps.length:Int),i)) (λi _ p=>if w9 p=0 then .inr () else .inl (some (([]:List Seen),w9 p,()))) (λ_=>eh.q1 (ps,()) ps) (λ_ _=>True) (by rw[aq];omega)
   (λi hi s self hI=>by
    show eh.b0 _ _ _ _ _=_;unfold eh.b0 w9;have am:(i:Int) < (ps.length:Int):=by omega
    simp only[am,aD,aJ,aK,aI,aH,aB hi,aA,NB _ (hp _ (aS hi))];by_cases h0:w8 ps[i]=0
    ·have bc:=D_.1 h0;rw[cG h0];simp only[aQ,aG,AV bc.len,aA,inner self _ i hi bc,h0,aI];by_cases hc:(List.range (pn ps[i])).all (vE ps[i])=true
     ·simp only[hc,aI]
     ·simp only[hc,aF,aL];rfl
    ·rw[cH h0]
     simp only[aZ,aJ,h0,aL])
   (λ_ _ _ _ _ _=>trivial) (λs self _=>by
    show eh.b0 _ _ _ _ _=_;unfold eh.b0
    simp only[bC,aC,aG]) () trivial k (by omega)
  rw[yV w9 (λc=>some (([]:List Seen),c,())) (λ_=>eh.q1 (ps,()) ps)] at this;exact this
 rw[outer];by_cases hc:ox w9 ps=0
 ·simp only[hc,aI];show eh.q1 _ _=_;unfold eh.q1;rw[NC ps (Ms (by omega) hc)];rfl
 ·simp only[hc,aL]
end OT
set_option linter.unusedSectionVars false
namespace OT
open Go
structure HF (ps:k9):Prop where
 right:tO ps
 cells:zq ps
 ab6:(cd ps).all (rr ps)=true
 ach:((cd ps).filterMap w_).Nodup
 keys:((po ps).map λx=>rk (mQ x)).Nodup
 list:vN ps=CN ((po ps).map xf)
theorem va {ps:k9} (h:mH ps=0):HF ps:=by
 obtain ⟨h1,h2,h3⟩:=CK h;have hc:=Ms h1.1 h2;unfold CJ at h3;split at h3
 ·rename_i a1;split at h3
  ·rename_i a2;split at h3
   ·rename_i a3;exact ⟨h1,hc,a1,a2,a3,by unfold vN;rw[aV h]⟩
   ·cases h3
  ·cases h3
 ·cases h3
theorem QF {ps:k9} (h:HF ps):(vN ps).Perm ((po ps).map xf):=by rw[h.list];exact HE _
theorem A4 {ps:k9} (h:HF ps):(vN ps).length<=192:=by
 have:=(QF h).length_eq;rw[fG] at this;have:=CL h.right;omega
def jz (ps:k9):List Row:=(vN ps).map (·.1)
theorem Gb {ps:k9} (h:HF ps):jz ps=HA ((po ps).map mQ):=by
 unfold jz;rw[h.list,Jy,iL];rfl
theorem Mx {ps:k9} (h:HF ps):up (jz ps):=by
 rw[Gb h];refine Mo ?_;rw[iL];exact h.keys
theorem Bp (l:List Seen) (hl:l.length<=1000):lM.aa (l,())=some (l.map (·.1),()):=by
 refine ah (k:=1100) λq hq=>(lM.ae q _).trans ?_
 have:=co (B:=λself v=>lM.b0 self (λz=>lM.q0 (l,()) z) (l,()) v) l (λ(s:List Row) (i:Int)=>(s,i)) (λ_ s x=>.inr (s++[x.1])) (λs=>(s,())) (λi s=>s.length=i) (by rw[aq];omega)
  (λi hi s self hs=>by
   show lM.b0 _ _ _ _=_;unfold lM.b0;have am:(i:Int) < (l.length:Int):=by omega
   rw[cG am,aJ,aV (aK i)];simp only[aH,aB hi,aA]
   rw[aV (dh (by simp only[aO,bA];omega))])
  (λi hi s s' hs hf=>by injection hf with hf;subst hf;simp[hs]) (λs self _=>by
   show lM.b0 _ _ _ _=_;unfold lM.b0;rw[cH (bC _),aG]
   rfl) [] rfl q (by omega)
 rw[ic (g:=λ(s:List Row) (x:Seen)=>s++[x.1])] at this;refine this.trans ?_
 have hm:∀ (xs:List Seen) (s:List Row),xs.foldl (λs x=>s++[x.1]) s=s++xs.map (·.1):=by
  intro xs
  induction xs with
  | nil=>intro s;simp
  | cons x xs ih=>intro s;rw[eG,ih];simp
 rw[hm,bT]
theorem yH {ps:k9} (h:mH ps=0):h_.aa (ps,())=some (jz ps,()):=by
 have hr:=CK h;have hl:=CL hr.1;refine ah (k:=300) λk hk=>(h_.ae k _).trans ?_;unfold h_.p;rw[E9 ps hr.1];simp only[aA]
 have:=co (B:=λself v=>h_.b0 self (λz=>h_.q0 (ps,()) (po ps) z) (ps,()) (po ps) v) (po ps) (λ(s:List Row) (i:Int)=>(s,i)) (λ_ s x=>.inr (mr s (mQ x))) (λs=>(s,())) (λi s=>s.length<=i) (by rw[aq];omega)
  (λi hi s self hs=>by
   show h_.b0 _ _ _ _ _=_;unfold h_.b0;have am:(i:Int) < ((po ps).length:Int):=by omega
   rw[cG am,aJ,aV ⟨aK i,am⟩];simp only[aH,aB hi,aA];rw[CA _ _ (by omega)]
   rfl)
  (λi hi s s' hs hf=>by
   injection hf with hf;subst hf;unfold mr;simp only[aR,bP,bI,aO,bA]
   omega) (λs self _=>by
   show h_.b0 _ _ _ _ _=_;unfold h_.b0;rw[cH (bC _),aG]
   rfl) [] (aN 0) k (by omega)
 rw[ic (g:=λ(s:List Row) (x:a8)=>mr s (mQ x))] at this;refine this.trans ?_;rw[Gb (va h)];unfold HA;rw[List.foldl_map]
end OT
namespace OT
open Go
def bl (x:gu):Int:=(List.length x.2.1:Int)
def qn (s:Int) (x:gu):Sum (Int×Unit) Int:=
 if ft x.1 0 63 then (if ft (bl x) 1 64 then (if 64 < x.1+bl x then .inl (3,()) else if x.1 < s then .inl (1,()) else .inr (x.1+bl x+1)) else .inl (3,())) else .inl (3,())
def HG (s:Int) (xs:List gu):Int:=(bz (λ_ s x=>qn s x) (λ_=>((0:Int),())) 0 xs s).1
def tr (xs:List gu):Int:=if 64 < xs.length then 2 else HG 0 xs
theorem A5 {s s':Int} {x:gu} (h:qn s x=.inr s'):0<=x.1/\x.1<=63/\1<=bl x/\bl x<=64/\x.1+bl x<=64/\s<=x.1/\s'=x.1+bl x+1:=by
 unfold qn at h;split at h
 ·rename_i h1;split at h
  ·rename_i h2;split at h
   ·cases h
   ·split at h
    ·cases h
    ·injection h with h;simp only[ft,aE,bM] at h1 h2;omega
  ·cases h
 ·cases h
theorem Gc {s:Int} {x:gu} {o:Int×Unit} (h:qn s x=.inl o):o.1≠0:=by
 unfold qn at h;split at h
 ·split at h
  ·split at h
   ·injection h with h;subst h;decide
   ·split at h
    ·injection h with h;subst h;decide
    ·cases h
  ·injection h with h;subst h;decide
 ·injection h with h;subst h;decide
theorem O0 {S O α:Type} {f:S->α->Sum O S} {fin:S->O}:∀ (xs:List α) (i j:Nat) (s:S),bz (λ_ s x=>f s x) fin i xs s=bz (λ_ s x=>f s x) fin j xs s
 | [],_,_,_=>rfl
 | x::xs,i,j,s=>by
  simp only[bz];split
  ·rfl
  ·exact O0 xs _ _ _
theorem CO (s:Int) (x:gu) (xs:List gu):HG s (x::xs)=match qn s x with | .inl o=>o.1 | .inr s'=>HG s' xs:=by
 unfold HG;simp only[bz]
 cases h:qn s x with
 | inl o=>rfl
 | inr s'=>simp only;rw[O0 xs 1 0]
theorem HH:∀ (xs:List gu) (s:Int),HG s xs=0->∀ x ∈ xs,0<=x.1/\x.1<=63/\1<=bl x/\bl x<=64
 | [],_,_,_,hx=>by cases hx
 | y::ys,s,h,x,hx=>by
  rw[CO] at h
  cases hs:qn s y with
  | inl o=>rw[hs] at h;exact absurd h (Gc hs)
  | inr s'=>
   rw[hs] at h;have:=A5 hs;rcases aX.1 hx with e | e
   ·subst e;omega
   ·exact HH ys s' h x e
theorem QG {xs:List gu} (h:tr xs=0):List.length xs<=64/\∀ x ∈ xs,0<=x.1/\x.1<=63/\1<=bl x/\bl x<=64:=by
 unfold tr at h;split at h
 ·cases h
 ·exact ⟨by omega,HH xs 0 h⟩
theorem Tl {y z:gu} {ys:List gu} (h:tr (y::z::ys)=0):List.length y.2.1≠64:=by
 unfold tr at h;split at h
 ·cases h
 ·rw[CO] at h
  cases hs:qn 0 y with
  | inl o=>rw[hs] at h;exact absurd h (Gc hs)
  | inr s'=>
   rw[hs] at h;have h1:=A5 hs;simp only[CO] at h
   cases ud:qn s' z with
   | inl o=>rw[ud] at h;exact absurd h (Gc ud)
   | inr s2=>
    have h2:=A5 ud;have:bl y=(List.length y.2.1:Int):=rfl;omega
theorem ND (xs:List gu):iw.aa (xs,())=some (tr xs,()):=by
 refine ah (k:=66) λk hk=>(iw.ae k _).trans ?_;unfold iw.p tr;by_cases hl:64 < xs.length
 ·have:(64:Int) < (xs.length:Int):=by omega
  simp only[hl,this,aD,aJ,aI]
 have wj:¬ (64:Int) < (xs.length:Int):=by omega
 have:=co (B:=λself v=>iw.b0 self (λz=>iw.q0 (xs,()) z) (xs,()) v) xs (λ(s:Int) (i:Int)=>(s,i)) (λ_ s x=>qn s x) (λ_=>(0,())) (λ_ _=>True) (by rw[aq];omega)
  (λi hi s self _=>by
   show iw.b0 _ _ _ _=_;unfold iw.b0;have am:(i:Int) < (xs.length:Int):=by omega
   simp only[am,aD,aJ,aK,aI,aH,aB hi,aA,sV];generalize xs[i]=x;unfold qn bl ft;by_cases a1:(0:Int)<=x.1;rotate_left
   ·simp[a1]
   by_cases a2:x.1<=63;rotate_left
   ·simp[a2]
   by_cases a3:(1:Int)<=(List.length x.2.1:Int)
   rotate_left
   ·simp[a1,a2,a3]
   by_cases a4:(List.length x.2.1:Int)<=64;rotate_left
   ·simp[a1,a2,a4]
   have e1:af (x.1+(List.length x.2.1:Int))=x.1+(List.length x.2.1:Int):=bf (by omega);have e2:af (x.1+(List.length x.2.1:Int)+1)=x.1+(List.length x.2.1:Int)+1:=bf (by omega);simp only[a1,a2,a3,a4,e1,e2,aD,gA,aQ,aG,aI]
   by_cases a5:64 < x.1+(List.length x.2.1:Int)
   ·simp[a5]
   by_cases a6:x.1 < s
   ·simp[a5,a6]
   simp[a5,a6]) (λ_ _ _ _ _ _=>trivial) (λs self _=>by
   show iw.b0 _ _ _ _=_;unfold iw.b0
   simp[iw.q0,iw.q0]) 0 trivial k (by omega)
 simp only[hl,aL,wj,aC,aG];exact this
theorem E_ (xs:List gu):jY.aa (xs,())=some (tr xs,()):=by
 refine ah (k:=66) λk hk=>(jY.ae k _).trans ?_;unfold jY.p tr;by_cases hl:64 < xs.length
 ·have:(64:Int) < (xs.length:Int):=by omega
  simp only[hl,this,aD,aJ,aI]
 have wj:¬ (64:Int) < (xs.length:Int):=by omega
 have:=co (B:=λself v=>jY.b0 self (λz=>jY.q0 (xs,()) z) (xs,()) v) xs (λ(s:Int) (i:Int)=>i) (λ_ s x=>qn s x) (λ_=>(0,()))
  (λi s=>(i=0->s=0)/\∀ y,0 < i->xs[i - 1]?=some y->0<=y.1/\y.1<=63/\bl y<=64/\s=y.1+bl y+1) (by rw[aq];omega)
  (λi hi s self hI=>by
   show jY.b0 _ _ _ _=_;unfold jY.b0;have am:(i:Int) < (xs.length:Int):=by omega
   simp only[am,aD,aJ,aK,aI,aH,aB hi,aA,nM];generalize xs[i]=x;unfold qn bl ft;by_cases a1:(0:Int)<=x.1;rotate_left
   ·simp[a1]
   by_cases a2:x.1<=63;rotate_left
   ·simp[a2]
   by_cases a3:(1:Int)<=(List.length x.2.1:Int)
   rotate_left
   ·simp[a1,a2,a3]
   by_cases a4:(List.length x.2.1:Int)<=64;rotate_left
   ·simp[a1,a2,a4]
   have e1:af (x.1+(List.length x.2.1:Int))=x.1+(List.length x.2.1:Int):=bf (by omega);simp only[a1,a2,a3,a4,e1,aD,gA,aQ,aG,aI]
   by_cases a5:64 < x.1+(List.length x.2.1:Int)
   ·simp[a5]
   by_cases h0:i=0
   ·subst h0;have:=hI.1 rfl;subst this;have a6:¬ x.1 < 0:=by omega
    simp[a5,a6]
   ·have Hy:i - 1 < xs.length:=by omega
    obtain ⟨y0,y1,y2,y3⟩:=hI.2 xs[i - 1] (by omega) (aB Hy);have hp:(0:Int) < (i:Int):=by omega
    have ew:af ((i:Int) - 1)=((i - 1:Nat):Int):=by rw[bf (by omega)];omega
    unfold bl at y2 y3;have e2:af ((xs[i - 1]).1+(List.length (xs[i - 1]).2.1:Int))=(xs[i - 1]).1+(List.length (xs[i - 1]).2.1:Int):=bf (by omega);simp only[a5,hp,ew,e2,aD,aC,aJ,aG,aK,aI,aL,aH,aB Hy,aA];by_cases a6:x.1 < s
    ·have:x.1<=(xs[i - 1]).1+(List.length (xs[i - 1]).2.1:Int):=by omega
     simp[a6,this]
    ·have:¬ x.1<=(xs[i - 1]).1+(List.length (xs[i - 1]).2.1:Int):=by omega
     simp[a6,this])
  (λi hi s s' _ hs=>⟨λe=>by omega,λy _ hy=>by
   rw[iB,aB hi] at hy;injection hy with hy;subst hy;have:=A5 hs
   omega⟩) (λs self _=>by
   show jY.b0 _ _ _ _=_;unfold jY.b0
   simp[jY.q0,jY.q0]) 0 ⟨λ_=>rfl,λy h=>by omega⟩ k (by omega)
 simp only[hl,aL,wj,aC,aG];exact this
def HI (k:Int) (xs:List gu):Int:=match xs with
 | []=>1
 | y::_=>if decide (k=4)&&!decide (List.length y.2.1=64) then 1 else 0
def qs (r:bg):Int:=
 if !ft r.1 1 6||(!ft r.1 2 4&&(!decide (r.2.2.1=0)||decide (0 < List.length r.2.2.2.1)))||(decide (r.1=4)&&!decide (r.2.1=0)) then 1
 else if (!decide (r.1=4)&&!ft r.2.1 1 99)||!ft r.2.2.1 0 11 then 3
 else if !ft r.1 2 4 then 0
 else if tr r.2.2.2.1=0 then HI r.1 r.2.2.2.1 else tr r.2.2.2.1
theorem Ej (k:Int):nw.aa (k,())=some (ft k 2 4,()):=by
 refine ah (k:=0) λn _=>(nw.ae n _).trans ?_;show nw.p _=_;unfold nw.p;simp[nM,ft]
theorem My (k:Int):nU.aa (k,())=some (ft k 2 4,()):=by
 refine ah (k:=0) λn _=>(nU.ae n _).trans ?_;show nU.p _=_;unfold nU.p ft;by_cases h1:k=2
 ·subst h1;rfl
 by_cases h2:k=3
 ·subst h2;rfl
 by_cases h3:k=4
 ·subst h3;rfl
 have:(decide ((2:Int)<=k)&&decide (k<=4))=false:=by
  by_cases h4:(2:Int)<=k
  ·have:¬ k<=4:=by omega
   simp[this]
  ·simp[h4]
 simp[h1,h2,h3,this]
theorem HJ (r:bg):nm.aa (r,())=some (qs r,()):=by
 obtain ⟨k,t,p,xs,⟨⟩⟩:=r;refine ah (k:=0) λn _=>(nm.ae n _).trans ?_;show nm.p _=_;unfold nm.p qs;simp only[nM,Ej,E_,aA,show ∀ a b c:Int,(decide (b<=a)&&decide (a<=c))=ft a b c from λ_ _ _=>rfl];have h0:decide ((0:Int) < (xs.length:Int))=decide (0 < xs.length):=by simp
 have hj:(jY.aa (xs,()))=some (tr xs,()):=E_ xs;rw[h0]
 have hh:(bif decide ((List.length xs:Int)=0) then some ((1:Int),()) else bif decide (k=4) then (xs[0]?).bind λLQ=>bif !decide ((List.length LQ.2.1:Int)=64) then some ((1:Int),()) else some (0,()) else some (0,()))=some (HI k xs,()):=by
  cases xs with
  | nil=>rfl
  | cons y ys=>
   have:¬ ((List.length (y::ys):Int)=0):=by simp only[aO];omega
   simp only[this,aC,aG,HI,eN,aA]
   have ZN:decide ((List.length y.2.1:Int)=64)=decide (List.length y.2.1=64):=by
    by_cases h:List.length y.2.1=64
    ·simp[h]
    ·have:¬ ((List.length y.2.1:Int)=64):=by omega
     simp[h,this]
   rw[ZN];cases decide (k=4) <;> cases decide (List.length y.2.1=64) <;> rfl
 rw[hh];by_cases hr:tr xs=0
 ·simp only[hr,aD,aQ,aG,aI];cases ft k 1 6 <;> cases ft k 2 4 <;> cases decide (p=0) <;> cases decide (0 < xs.length) <;> cases decide (k=4) <;> cases decide (t=0) <;> cases ft t 1 99 <;> cases ft p 0 11 <;> rfl
 ·simp only[hr,aC,aZ,aJ,aL];cases ft k 1 6 <;> cases ft k 2 4 <;> cases decide (p=0) <;> cases decide (0 < xs.length) <;> cases decide (k=4) <;> cases decide (t=0) <;> cases ft t 1 99 <;> cases ft p 0 11 <;> rfl
theorem CP (r:bg):gx.aa (r,())=some (qs r,()):=by
 obtain ⟨k,t,p,xs,⟨⟩⟩:=r;refine ah (k:=0) λn _=>(gx.ae n _).trans ?_;show gx.p _=_;unfold gx.p qs;simp only[sV,My,OL,ND,aA,show ∀ a b c:Int,(decide (b<=a)&&decide (a<=c))=ft a b c from λ_ _ _=>rfl];have h0:decide ((0:Int) < (xs.length:Int))=decide (0 < xs.length):=by simp
 rw[h0]
 have hk:ft k 2 4=false->decide (k=4)=false:=by
  intro h;by_cases e:k=4
  ·subst e;cases h
  ·simp[e]
 have ZN:∀ y:gu,decide ((List.length y.2.1:Int)=64)=decide (List.length y.2.1=64):=λy=>by
  by_cases h:List.length y.2.1=64
  ·simp[h]
  ·have:¬ ((List.length y.2.1:Int)=64):=by omega
   simp[h,this]
 have hz:decide (0 < xs.length)=false->xs=[]:=by
  intro h
  cases xs with
  | nil=>rfl
  | cons _ _=>simp at h
 have hh:tr xs=0->(bif decide ((List.length xs:Int)=0) then some ((1:Int),()) else bif decide (k=4) then bif !decide ((List.length xs:Int)=1) then some ((1:Int),()) else (xs[0]?).bind λLQ=>bif !decide ((List.length LQ.2.1:Int)=64) then some ((1:Int),()) else some (0,()) else some (0,()))=some (HI k xs,()):=by
  intro hr
  cases xs with
  | nil=>rfl
  | cons y ys=>
   have:¬ ((List.length (y::ys):Int)=0):=by simp only[aO];omega
   simp only[this,aC,aG,HI,eN,aA,ZN]
   cases ys with
   | nil=>cases decide (k=4) <;> cases decide (List.length y.2.1=64) <;> rfl
   | cons z ys=>
    have h1:=Tl hr;have h2:¬ ((List.length (y::z::ys):Int)=1):=by simp only[aO];omega
    simp only[h1,h2,aC];cases decide (k=4) <;> rfl
 cases mw:ft k 2 4 with
 | false=>
  have hk4:=hk mw;have hr0:tr ([]:List gu)=0:=rfl;simp only[hk4]
  by_cases hx:xs=[]
  ·subst hx;cases ft k 1 6 <;> cases decide (p=0) <;> cases ft t 1 99 <;> cases ft p 0 11 <;> rfl
  ·have Gs:decide (0 < xs.length)=true:=by
    cases xs with
    | nil=>exact absurd rfl hx
    | cons _ _=>simp
   simp only[Gs];cases ft k 1 6 <;> cases decide (p=0) <;> rfl
 | true=>
  by_cases hr:tr xs=0
  ·have hh:=hh hr;simp only[hr,aD,aQ,aG,aJ,aI,hh];cases ft k 1 6 <;> cases decide (k=4) <;> cases decide (t=0) <;> cases ft t 1 99 <;> cases ft p 0 11 <;> rfl
  ·simp only[hr,aC,aZ,aJ,aL];cases ft k 1 6 <;> cases decide (k=4) <;> cases decide (t=0) <;> cases ft t 1 99 <;> cases ft p 0 11 <;> rfl
theorem uL {r:bg} (h:qs r=0):1<=r.1/\r.1<=6/\0<=r.2.1/\r.2.1<=99/\0<=r.2.2.1/\r.2.2.1<=11/\List.length r.2.2.2.1<=64/\∀ x ∈ r.2.2.2.1,0<=x.1/\x.1<=63/\1<=bl x/\bl x<=64:=by
 obtain ⟨k,t,p,xs,⟨⟩⟩:=r;unfold qs at h;split at h
 ·cases h
 rename_i h1;split at h
 ·cases h
 rename_i h2
 have hx:List.length xs<=64/\∀ x ∈ xs,0<=x.1/\x.1<=63/\1<=bl x/\bl x<=64:=by
  split at h
  ·rename_i h3;simp only[cY,aE,not_or,not_and,h3,forall_const] at h1
   cases xs with
   | nil=>exact ⟨by simp,λx hx=>by cases hx⟩
   | cons y ys=>exact absurd (by simp) h1.1.2.2
  ·split at h
   ·rename_i h4;exact QG h4
   ·rename_i h4;exact absurd h h4
 simp only[cY,aE,not_or,not_and,ft,cM,gN,eZ,bM] at h1 h2;refine ⟨?_,?_,?_,?_,?_,?_,hx⟩ <;> by_cases hk:k=4 <;> simp_all <;> omega
end OT
namespace OT
open Go
def sw (x:gu):List UInt8:=UInt8.ofInt x.1::UInt8.ofInt (List.length x.2.1:Int)::x.2.1
def kN (xs:List gu):List UInt8:=xs.flatMap sw
def tt (r:bg):List UInt8:=[(0:UInt8),UInt8.ofInt r.1,UInt8.ofInt r.2.1,UInt8.ofInt r.2.2.1,UInt8.ofInt (List.length r.2.2.2.1:Int)]
def vV (s:Int) (l:List UInt8):Int:=l.foldl (λs c=>(s*31+(c.toNat:Int)) % 65521) s
def Mz (r:bg):List UInt8:=(tt r++kN r.2.2.2.1).set 0 (UInt8.ofInt (af (((tt r++kN r.2.2.2.1).length:Int)+2)))
def zg (r:bg):List UInt8:=Mz r++[UInt8.ofInt ((vV 1 (Mz r)) / 256),UInt8.ofInt (vV 1 (Mz r))]
def HK (r:bg):Prop:=List.length r.2.2.2.1<=64/\∀ x ∈ r.2.2.2.1,List.length x.2.1<=64
theorem MA {r:bg} (h:qs r=0):HK r:=by
 have:=uL h;refine ⟨this.2.2.2.2.2.2.1,λx hx=>?_⟩
 have h2:=this.2.2.2.2.2.2.2 x hx;unfold bl at h2;omega
theorem Ek (xs ys:List gu):kN (xs++ys)=kN xs++kN ys:=iZ
theorem tu (x:gu) (xs:List gu):kN (x::xs)=sw x++kN xs:=eL
theorem El {xs:List gu} (h:∀ x ∈ xs,List.length x.2.1<=64):(kN xs).length<=66*xs.length:=by
 induction xs with
 | nil=>simp[kN]
 | cons x xs ih=>
  have h1:=ih λy hy=>h y (by simp[hy]);have h2:=h x (by simp);rw[tu];simp only[aR,aO,sw];omega
theorem XM (r:bg):(Mz r).length=5+(kN r.2.2.2.1).length:=by simp[Mz,tt];omega
theorem JB (r:bg):(zg r).length=7+(kN r.2.2.2.1).length:=by
 simp only[zg,aR,XM,aO,bA];omega
theorem NE {r:bg} (h:HK r):(zg r).length<=5000:=by
 rw[JB];have:=El h.2;have:=h.1;omega
theorem O1:∀ (l:List UInt8) (s:Int),0<=s/\s < 65521->0<=vV s l/\vV s l < 65521
 | [],s,h=>h
 | c::l,s,h=>O1 l ((s*31+(c.toNat:Int)) % 65521) ⟨Int.emod_nonneg _ (by omega),Int.emod_lt_of_pos _ (by omega)⟩
theorem Tm {s:Int} (h:0<=s):UInt8.ofInt (s.tmod 256)=UInt8.ofInt s:=by
 rw[jJ h];apply UInt8.toBitVec_inj.1;apply BitVec.eq_of_toNat_eq;simp[UInt8.ofInt,gK]
theorem Em:∀ (xs:List gu) (s:List UInt8),xs.foldl (λs x=>s++sw x) s=s++kN xs
 | [],s=>by simp[kN]
 | x::xs,s=>by rw[eG,Em,tu,bK]
theorem MB {s:Int} {c:UInt8} (h:0<=s/\s < 65521):((af ((af (s*(31:Int)))+(af (c.toNat:Int)))).tmod (65521:Int))=(s*31+(c.toNat:Int)) % 65521:=by
 have hc:=c.toNat_lt;have e1:af (s*31)=s*31:=bf (by omega);have e2:af (c.toNat:Int)=(c.toNat:Int):=bf (by omega);have e3:af (s*31+(c.toNat:Int))=s*31+(c.toNat:Int):=bf (by omega);rw[e1,e2,e3,jJ (by omega)]
theorem QH (l:List UInt8) (h:l.length<=100000):mT.aa (l,())=some (vV 1 l,()):=by
 refine ah (k:=100001) λk hk=>(mT.ae k _).trans ?_
 have:=co (B:=λself v=>mT.b0 self (λz=>mT.q0 (l,()) z) (l,()) v) l (λ(s:Int) (i:Int)=>(s,i)) (λ_ s c=>.inr ((s*31+(c.toNat:Int)) % 65521)) (λs=>(s,())) (λ_ s=>0<=s/\s < 65521) (by rw[aq];omega)
  (λi hi s self hI=>by
   show mT.b0 _ _ _ _=_;unfold mT.b0;have am:(i:Int) < (l.length:Int):=by omega
   simp only[am,aD,aJ,aK,aI,aH,aB hi,aA,MB hI])
  (λi hi s s' hI hs=>by injection hs with hs;omega) (λs self _=>by
   show mT.b0 _ _ _ _=_;unfold mT.b0
   simp[mT.q0,mT.q0]) 1 (by omega) k (by omega)
 rw[ic] at this;exact this
theorem NF (r:bg) (h:HK r):l5.aa (r,())=some (zg r,()):=by
 obtain ⟨K,T,P,xs,⟨⟩⟩:=r;obtain ⟨h1,h2⟩:=h;simp only at h1 h2;refine ah (k:=100) λk hk=>(l5.ae k _).trans ?_
 have hlen:∀ i,(kN (xs.take i)).length<=66*64:=λi=>by
  have:=El (xs:=xs.take i) (λx hx=>h2 x (eA hx));have:(xs.take i).length<=xs.length:=by simp;omega
  omega
 have:=co (B:=λself v=>l5.b0 self (λz=>l5.q0 ((K,T,P,xs,()),()) z) ((K,T,P,xs,()),()) v) xs (λ(s:List UInt8) (i:Int)=>(s,i)) (λ_ s x=>.inr (s++sw x)) (λs=>(let q:=s.set 0 (UInt8.ofInt (af ((s.length:Int)+2)));(q++[UInt8.ofInt ((vV 1 q) / 256),UInt8.ofInt (vV 1 q)],())))
  (λi s=>s=tt (K,T,P,xs,())++kN (xs.take i)) (by rw[aq];omega)
  (λi hi s self hI=>by
   show l5.b0 _ _ _ _=_;unfold l5.b0;have am:(i:Int) < (xs.length:Int):=by omega
   have hs:s.length<=5000:=by rw[hI];have:=hlen i;simp only[aR,tt,aO,bA];omega
   have hx:=h2 xs[i] (aS hi);simp only[am,aD,aJ,aK,aI,aH,aB hi,aA];generalize xs[i]=x at hx;have c1:s.length+[UInt8.ofInt x.1,UInt8.ofInt (List.length x.2.1:Int)].length<=cc:=dh (by simp only[aO,bA];omega);have c2:(s++[UInt8.ofInt x.1,UInt8.ofInt (List.length x.2.1:Int)]).length+List.length x.2.1<=cc:=dh (by simp only[aR,aO,bA];omega)
   simp only[c1,c2,aI,sw,bK,cO,bT])
  (λi hi s s' hI hs=>by
   injection hs with hs;rw[<-hs,hI,eM hi,Ek,bK]
   simp[kN]) (λs self hI=>by
   show l5.b0 _ _ _ _=_;unfold l5.b0;have hs:5<=s.length/\s.length<=5000:=by rw[hI];have:=hlen xs.length;simp only[aR,tt,aO,bA];omega
   simp only[bC,aC,aG,l5.q0,l5.q0]
   have c0:(0:Int)<=0/\(0:Int) < (s.length:Int):=⟨by omega,by omega⟩
   rw[aV c0,aB (by omega:0 < s.length)];simp only[aA];generalize hq:s.set 0 (UInt8.ofInt (af ((s.length:Int)+2)))=q;have hql:q.length=s.length:=by rw[<-hq];simp
   rw[QH q (by omega)];simp only[aA];have hb:=O1 q 1 (by omega);have c1:q.length+[UInt8.ofInt (af ((vV 1 q).tdiv 256)),UInt8.ofInt ((vV 1 q).tmod 256)].length<=cc:=dh (by simp only[aO,bA];omega)
   rw[aV c1,Tm hb.1,fR hb.1,bf (by omega)]) (tt (K,T,P,xs,())) (by simp[kN]) k (by omega)
 rw[ic,Em] at this;exact this
theorem NG (r:bg) (h:HK r):fm.aa (r,())=some (zg r,()):=by
 obtain ⟨K,T,P,xs,⟨⟩⟩:=r;obtain ⟨h1,h2⟩:=h;simp only at h1 h2;refine ah (k:=6000) λk hk=>(fm.ae k _).trans ?_
 have hlen:∀ i,(kN (xs.take i)).length<=66*64:=λi=>by
  have:=El (xs:=xs.take i) (λx hx=>h2 x (eA hx));have:(xs.take i).length<=xs.length:=by simp;omega
  omega
 have abR:∀ q:List UInt8,q.length<=5000->fm.r1 k ((K,T,P,xs,()),()) q (q.length:Int) (1,0)=some (q++[UInt8.ofInt ((vV 1 q) / 256),UInt8.ofInt (vV 1 q)],()):=λq hq=>by
  have:=co (B:=λself v=>fm.b1 self (λz=>fm.q1 ((K,T,P,xs,()),()) q (q.length:Int) z) ((K,T,P,xs,()),()) q (q.length:Int) v) q (λ(s:Int) (i:Int)=>(s,i)) (λ_ s c=>.inr ((s*31+(c.toNat:Int)) % 65521)) (λs=>(q++[UInt8.ofInt (s / 256),UInt8.ofInt s],())) (λ_ s=>0<=s/\s < 65521) (by rw[aq];omega)
   (λi hi s self hI=>by
    show fm.b1 _ _ _ _ _ _=_;unfold fm.b1;have am:(i:Int) < (q.length:Int):=by omega
    have Bf:(0:Int)<=(i:Int)/\(i:Int) < (q.length:Int):=by omega
    simp only[am,Bf,cQ,aD,aJ,aK,aI,aH,aB hi,aA,MB hI])
   (λi hi s s' hI hs=>by injection hs with hs;omega) (λs self hI=>by
    show fm.b1 _ _ _ _ _ _=_;unfold fm.b1;simp only[bC,aC,aG,fm.q1,fm.q1];have c1:q.length+[UInt8.ofInt (s.fdiv (2 ^ 8)),UInt8.ofInt s].length<=cc:=dh (by simp only[aO,bA];omega);rw[aV c1,gV s (by omega:(0:Int)<=2 ^ 8)]
    rfl) 1 (by omega) k (by omega)
  rw[ic] at this;exact this
 have:=co (B:=λself v=>fm.b0 self (λz=>fm.Q0 k ((K,T,P,xs,()),()) z) ((K,T,P,xs,()),()) v) xs (λ(s:List UInt8) (i:Int)=>(s,i)) (λ_ s x=>.inr (s++sw x)) (λs=>(let q:=s.set 0 (UInt8.ofInt (af ((s.length:Int)+2)));(q++[UInt8.ofInt ((vV 1 q) / 256),UInt8.ofInt (vV 1 q)],())))
  (λi s=>s=tt (K,T,P,xs,())++kN (xs.take i)) (by rw[aq];omega)
  (λi hi s self hI=>by
   show fm.b0 _ _ _ _=_;unfold fm.b0;have am:(i:Int) < (xs.length:Int):=by omega
   have hs:s.length<=5000:=by rw[hI];have:=hlen i;simp only[aR,tt,aO,bA];omega
   have hx:=h2 xs[i] (aS hi);simp only[am,aD,aJ,aK,aI,aH,aB hi,aA];generalize xs[i]=x at hx;have c1:s.length+[UInt8.ofInt x.1,UInt8.ofInt (List.length x.2.1:Int)].length<=cc:=dh (by simp only[aO,bA];omega);have c2:(s++[UInt8.ofInt x.1,UInt8.ofInt (List.length x.2.1:Int)]).length+List.length x.2.1<=cc:=dh (by simp only[aR,aO,bA];omega)
   simp only[c1,c2,aI,sw,bK,cO,bT])
  (λi hi s s' hI hs=>by
   injection hs with hs;rw[<-hs,hI,eM hi,Ek,bK]
   simp[kN]) (λs self hI=>by
   show fm.b0 _ _ _ _=_;unfold fm.b0;have hs:5<=s.length/\s.length<=5000:=by rw[hI];have:=hlen xs.length;simp only[aR,tt,aO,bA];omega
   simp only[bC,aC,aG,fm.Q0,fm.q0]
   have c0:(0:Int)<=0/\(0:Int) < (s.length:Int):=⟨by omega,by omega⟩
   rw[aV c0,aB (by omega:0 < s.length)];simp only[aA];generalize hq:s.set 0 (UInt8.ofInt (af ((s.length:Int)+2)))=q;have hql:q.length=s.length:=by rw[<-hq];simp
   exact abR q (by omega)) (tt (K,T,P,xs,())) (by simp[kN]) k (by omega)
 rw[ic,Em] at this;exact this
end OT
namespace OT
open Go
def cg (D:List UInt8) (i:Nat):Nat:=(D.getD i 0).toNat
theorem qu (D:List UInt8) (i:Nat):cg D i < 256:=jV _
theorem pE {D:List UInt8} {i:Nat} (h:i < D.length):D[i]?=some D[i]/\(D[i]).toNat=cg D i:=⟨aB h,by simp[cg,h]⟩
def piece (D:List UInt8) (ZO n:Nat):gu:=((cg D ZO:Int),(D.take (ZO+2+n)).drop (ZO+2),())
def pI (D:List UInt8) (e:Nat):Nat->Nat->List gu->Option (List gu×Nat)
 | 0,a,rs=>some (rs,a)
 | c+1,a,rs=>if e < a+2 then none else if e < a+2+cg D (a+1) then none else pI D e c (a+2+cg D (a+1)) (rs++[piece D a (cg D (a+1))])
def pS (D:List UInt8):Nat->Nat->List gu->List gu
 | 0,_,rs=>rs
 | c+1,a,rs=>if a+2<=D.length then (if D.length < a+2+cg D (a+1) then rs else pS D c (a+2+cg D (a+1)) (rs++[piece D a (cg D (a+1))])) else rs
theorem QI {D:List UInt8} {e:Nat} (he:e<=D.length):∀ (c a:Nat) (rs JC:List gu) (a':Nat),pI D e c a rs=some (JC,a')->pS D c a rs=JC
 | 0,a,rs,JC,a',h=>by injection h with h;injection h
 | c+1,a,rs,JC,a',h=>by
  simp only[pI] at h;split at h
  ·cases h
  ·split at h
   ·cases h
   ·simp only[pS];rw[aV (by omega),bB (by omega)];exact QI he c _ _ _ _ h
theorem O2 {e:Nat}:∀ (ys:List gu) (pre yQ:List UInt8) (rs:List gu),(∀ y ∈ ys,0<=y.1/\y.1<=63/\1<=bl y/\bl y<=64)->pre.length+(kN ys).length<=e ->
  pI (pre++kN ys++yQ) e ys.length pre.length rs=some (rs++ys,pre.length+(kN ys).length)
 | [],pre,yQ,rs,_,_=>by simp[pI,kN]
 | y::ys,pre,yQ,rs,h,he=>by
  obtain ⟨b1,b2,b3,b4⟩:=h y (by simp);unfold bl at b3 b4;have hD:pre++kN (y::ys)++yQ=(pre++sw y)++kN ys++yQ:=by rw[tu];simp only[bK]
  have L8:(sw y).length=2+List.length y.2.1:=by simp only[sw,aO];omega
  have Az:(kN (y::ys)).length=2+List.length y.2.1+(kN ys).length:=by rw[tu,aR,L8]
  have h8:∀ n:Int,0<=n->n<=64->((UInt8.ofInt n).toNat:Int)=n:=λn h1 h2=>by
   simp[UInt8.ofInt,gK];omega
  have g0:(cg (pre++kN (y::ys)++yQ) pre.length:Int)=y.1:=by
   unfold cg;rw[tu];simp only[sw,bK,eS];rw[bV (aN _)]
   simpa using h8 y.1 b1 (by omega)
  have g1:cg (pre++kN (y::ys)++yQ) (pre.length+1)=List.length y.2.1:=by
   unfold cg;rw[tu];simp only[sw,bK,eS];rw[bV (by omega)];have:=h8 (List.length y.2.1:Int) (by omega) b4;simp only[iE,cO,fM,eN,Option.getD_some];omega
  have g2:piece (pre++kN (y::ys)++yQ) pre.length (List.length y.2.1)=y:=by
   obtain ⟨yi,yb,⟨⟩⟩:=y;unfold piece;have g0:(cg (pre++kN ((yi,yb,())::ys)++yQ) pre.length:Int)=yi:=g0;rw[g0]
   have:((pre++kN ((yi,yb,())::ys)++yQ).take (pre.length+2+yb.length)).drop (pre.length+2)=yb:=by
    rw[tu];simp only[sw,bK,cO];rw[List.take_append,gY];have e1:List.take (pre.length+2+yb.length) pre=pre:=iH (by omega);have e2:pre.length+2+yb.length - pre.length=yb.length+1+1:=by omega
    rw[e1,e2];have e3:List.drop (pre.length+2) pre=[]:=dR (by omega);have e4:pre.length+2 - pre.length=1+1:=by omega
    rw[e3,e4];simp
   show (yi,((pre++kN ((yi,yb,())::ys)++yQ).take (pre.length+2+yb.length)).drop (pre.length+2),())=(yi,yb,())
   rw[this]
  simp only[aO,pI];rw[bB (by omega),g1,bB (by omega),g2,hD];have hl:(pre++sw y).length=pre.length+2+List.length y.2.1:=by rw[aR,L8];omega
  have:=O2 (e:=e) ys (pre++sw y) yQ (rs++[y]) (λz hz=>h z (by simp[hz])) (by rw[hl];omega);rw[hl] at this;rw[this,Az];simp only[bK,cO,bT];congr 2;omega
def pT (d:List UInt8):Option (bg×Nat):=
 if d.length < 7\/cg d 0 < 7\/d.length < cg d 0 then none else
 match pI (d.take (cg d 0)) (cg d 0 - 2) (cg d 4) 5 [] with
 | none=>none
 | some (rs,a)=>if a=cg d 0 - 2/\qs ((cg d 1:Int),(cg d 2:Int),(cg d 3:Int),rs,())=0/\zg ((cg d 1:Int),(cg d 2:Int),(cg d 3:Int),rs,())=d.take (cg d 0) then
   some (((cg d 1:Int),(cg d 2:Int),(cg d 3:Int),rs,()),cg d 0) else none
theorem MC {d:List UInt8} {n i:Nat} (h:i < n) (hn:n<=d.length):cg (d.take n) i=cg d i:=by
 unfold cg;simp only[eS];rw[bJ,aV h]
theorem aaZ {D:List UInt8} (hl:7<=D.length) {rs:List gu} (JD:pS D (cg D 4) 5 []=rs) {k t p:Int} (hr:qs (k,t,p,rs,())=0) (hp:zg (k,t,p,rs,())=D):pI D (D.length - 2) (cg D 4) 5 []=some (rs,D.length - 2):=by
 have hg:=uL hr;have h1:=hg.2.2.2.2.2.2.1;have h2:=hg.2.2.2.2.2.2.2;simp only at h1 h2;have hlen:=JB (k,t,p,rs,());rw[hp] at hlen;simp only at hlen
 have ZP:∃ (pre yQ:List UInt8),pre.length=5/\D=pre++kN rs++yQ/\pre[4]?=some (UInt8.ofInt (List.length rs:Int)):=by
  refine ⟨(tt (k,t,p,rs,())).set 0 (UInt8.ofInt (af (((tt (k,t,p,rs,())++kN rs).length:Int)+2))),[UInt8.ofInt ((vV 1 (Mz (k,t,p,rs,()))) / 256),UInt8.ofInt (vV 1 (Mz (k,t,p,rs,())))],by simp[tt],?_,by simp[tt]⟩
  rw[<-hp];rfl
 obtain ⟨pre,yQ,s1,s2,s3⟩:=ZP
 have h4:cg D 4=List.length rs:=by
  unfold cg;rw[s2];simp only[eS,bK];rw[bW (by omega),s3];simp[UInt8.ofInt,gK];omega
 rw[h4];have:=O2 (e:=D.length - 2) rs pre yQ [] h2 (by omega);rw[<-s2,s1] at this;rw[this];simp only[bT];congr 2;omega
theorem pF {n:Nat} (h:n<=4000000000):af (n:Int)=(n:Int):=bf (by omega)
theorem MD (a b:List UInt8) (h:a.length<=100000):d0.aa (a,b,())=some (decide (a=b),()):=by
 refine ah (k:=100001) λk hk=>(d0.ae k _).trans ?_;unfold d0.p;by_cases hl:a.length=b.length;rotate_left
 ·have h1:¬ ((a.length:Int)=(b.length:Int)):=by omega
  have h2:¬ a=b:=λe=>hl (by rw[e]);simp only[h1,h2,aC,aZ,aJ]
 have wj:(a.length:Int)=(b.length:Int):=by omega
 simp only[wj,aD,aQ,aG]
 have key:∀ (m i:Nat),a.length - i=m->i<=a.length->∀ j,m < j->ak (λself v=>d0.B0 k self (λz=>d0.Q0 k (a,b,()) z) (a,b,()) v) j (i:Int)=some (decide (a.drop i=b.drop i),()):=by
  intro m
  induction m with
  | zero=>
   intro i hm hi j hj;have:i=a.length:=by omega
   subst this
   cases j with
   | zero=>omega
   | succ j=>
    show d0.b0 _ _ _ _=_;unfold d0.b0;simp only[bC,aC,aG,d0.Q0,d0.q0];rw[List.drop_length,hl,List.drop_length];simp
  | succ m ih=>
   intro i hm hi j hj;have am:i < a.length:=by omega
   cases j with
   | zero=>omega
   | succ j=>
    show d0.b0 _ _ _ _=_;unfold d0.b0;have abS:(i:Int) < (a.length:Int):=by omega
    have WI:i < b.length:=by omega
    have hw:af ((i:Int)+1)=((i+1:Nat):Int):=by rw[bf (by omega)];omega
    simp only[abS,aD,aJ,aK,aI,aH,aB am,aB WI,aA,hw];rw[cZ am,cZ WI];by_cases he:a[i]=b[i]
    ·simp only[he,aD,aQ,aG,cV,dZ];exact ih (i+1) (by omega) (by omega) j (by omega)
    ·have:¬ (((a[i]).toNat:Int)=((b[i]).toNat:Int)):=λe=>he (jS.1 (by omega));have h2:¬ (a[i]::a.drop (i+1)=b[i]::b.drop (i+1)):=λe=>he (by injection e);simp only[this,h2,aC,aZ,aJ]
 have:=key a.length 0 (by omega) (by omega) k (by omega);simp only[eF] at this;exact this
def QJ:bg:=((0:Int),(0:Int),(0:Int),([]:List gu),())
theorem Tn {D:List UInt8} (hD:7<=D.length) (hD2:D.length<=255) {a1:kQ.Arg} {e0:(bg×Int)->Option kQ.Out} {K T P N:Int} (hN:0<=N/\N<=255) {k:Nat} :
  ∀ (c a i:Nat) (rs:List gu),(i:Int)+c=N->a<=D.length - 2->rs.length<=i->∀ j,c < j ->
   ak (λself v=>kQ.B0 k self e0 a1 D ((D.length - 2:Nat):Int) N v) j ((K,T,P,rs,()),(a:Int),(i:Int))=match pI D (D.length - 2) c a rs with
    | none=>some (QJ,(0:Int),())
    | some (JC,a')=>e0 ((K,T,P,JC,()),(a':Int)):=by
 intro c
 induction c with
 | zero=>
  intro a i rs hi ha JD j hj
  cases j with
  | zero=>omega
  | succ j=>
   show kQ.b0 _ _ a1 _ _ _ _=_;unfold kQ.b0;have:¬ (i:Int) < N:=by omega
   simp only[this,aC,aG,pI]
 | succ c ih=>
  intro a i rs hi ha JD j hj
  cases j with
  | zero=>omega
  | succ j=>
   show kQ.b0 _ _ a1 _ _ _ _=_;unfold kQ.b0;have h1:(i:Int) < N:=by omega
   have e1:af ((a:Int)+2)=((a+2:Nat):Int):=by rw[bf (by omega)];omega
   have e2:af ((a:Int)+1)=((a+1:Nat):Int):=by rw[bf (by omega)];omega
   have e3:af ((i:Int)+1)=((i+1:Nat):Int):=by rw[bf (by omega)];omega
   simp only[h1,aD,aJ,e1,e2,e3,pI];by_cases h2:D.length - 2 < a+2
   ·have:((D.length - 2:Nat):Int) < ((a+2:Nat):Int):=by omega
    simp only[this,aD,aJ,aV h2];rfl
   have Jf:¬ ((D.length - 2:Nat):Int) < ((a+2:Nat):Int):=by omega
   obtain ⟨g1,g2⟩:=pE (show a+1 < D.length by omega);obtain ⟨g3,g4⟩:=pE (show a < D.length by omega);have hb:=qu D (a+1);have Oa:=qu D a;simp only[Jf,aC,aG,bB h2,aK,aI,aH,g1,g3,aA,g2,g4,pF (show cg D (a+1)<=4000000000 by omega),pF (show cg D a<=4000000000 by omega)];have e4:af (((a+2:Nat):Int)+(cg D (a+1):Int))=((a+2+cg D (a+1):Nat):Int):=by rw[bf (by omega)];omega
   have e5:af ((2:Int)+(cg D (a+1):Int))=((2+cg D (a+1):Nat):Int):=by rw[bf (by omega)];omega
   have e6:af ((a:Int)+((2+cg D (a+1):Nat):Int))=((a+2+cg D (a+1):Nat):Int):=by rw[bf (by omega)];omega
   simp only[e4,e5,e6];by_cases h3:D.length - 2 < a+2+cg D (a+1)
   ·have:((D.length - 2:Nat):Int) < ((a+2+cg D (a+1):Nat):Int):=by omega
    simp only[this,aD,aJ,aV h3];rfl
   have K4:¬ ((D.length - 2:Nat):Int) < ((a+2+cg D (a+1):Nat):Int):=by omega
   have h4:((a+2:Nat):Int)<=((a+2+cg D (a+1):Nat):Int)/\((a+2+cg D (a+1):Nat):Int)<=(D.length:Int):=by omega
   simp only[K4,aC,aG,bB h3,h4,cQ,aI,aH];rw[vK _ (by simp only[bI,bP];omega)];have hc:rs.length+[(((cg D a:Nat):Int),((D.take (a+2+cg D (a+1))).drop (a+2)),())].length<=cc:=dh (by simp only[aO,bA];omega);simp only[aA,hc,aI];exact ih (a+2+cg D (a+1)) (i+1) _ (by omega) (by omega) (by simp;omega) j (by omega)
theorem To {D:List UInt8} (hD:7<=D.length) (hD2:D.length<=255) {e0:bg->Option lZ.Out} {K T P:Int} {k:Nat} :
  ∀ (c a i:Nat) (rs:List gu),i+c=cg D 4->a<=600->rs.length<=i->∀ j,c < j ->
   ak (λself v=>lZ.B0 k self e0 (D,()) v) j ((K,T,P,rs,()),(a:Int),(i:Int))=e0 (K,T,P,pS D c a rs,()):=by
 intro c
 induction c with
 | zero=>
  intro a i rs hi ha JD j hj
  cases j with
  | zero=>omega
  | succ j=>
   show lZ.b0 _ _ (D,()) _=_;unfold lZ.b0;obtain ⟨g1,g2⟩:=pE (show 4 < D.length by omega);have hb:=qu D 4;simp only[g1,aA,g2,pF (show cg D 4<=4000000000 by omega)];have:¬ (i:Int) < (cg D 4:Int):=by omega
   simp only[this,aC,aG,pS]
 | succ c ih=>
  intro a i rs hi ha JD j hj
  cases j with
  | zero=>omega
  | succ j=>
   show lZ.b0 _ _ (D,()) _=_;unfold lZ.b0;obtain ⟨g1,g2⟩:=pE (show 4 < D.length by omega);have hb4:=qu D 4;have h1:(i:Int) < (cg D 4:Int):=by omega
   have e1:af ((a:Int)+2)=((a+2:Nat):Int):=by rw[bf (by omega)];omega
   have e2:af ((a:Int)+1)=((a+1:Nat):Int):=by rw[bf (by omega)];omega
   have e3:af ((i:Int)+1)=((i+1:Nat):Int):=by rw[bf (by omega)];omega
   simp only[g1,aA,g2,pF (show cg D 4<=4000000000 by omega),h1,aD,aJ,e1,e2,e3,pS];by_cases h2:a+2<=D.length;rotate_left
   ·have:¬ ((a+2:Nat):Int)<=(D.length:Int):=by omega
    simp only[this,aC,aG,bB h2]
   have Jf:((a+2:Nat):Int)<=(D.length:Int):=by omega
   obtain ⟨g5,g6⟩:=pE (show a+1 < D.length by omega);obtain ⟨g3,g4⟩:=pE (show a < D.length by omega);have hb:=qu D (a+1);have Oa:=qu D a;simp only[Jf,aD,aJ,aV h2,aK,aI,aH,g5,g3,aA,g6,g4,pF (show cg D (a+1)<=4000000000 by omega),pF (show cg D a<=4000000000 by omega)];have e4:af (((a+2:Nat):Int)+(cg D (a+1):Int))=((a+2+cg D (a+1):Nat):Int):=by rw[bf (by omega)];omega
   simp only[e4];by_cases h3:D.length < a+2+cg D (a+1)
   ·have:(D.length:Int) < ((a+2+cg D (a+1):Nat):Int):=by omega
    simp only[this,aD,aJ,aV h3]
   have K4:¬ (D.length:Int) < ((a+2+cg D (a+1):Nat):Int):=by omega
   have h4:((a+2:Nat):Int)<=((a+2+cg D (a+1):Nat):Int)/\((a+2+cg D (a+1):Nat):Int)<=(D.length:Int):=by omega
   simp only[K4,aC,aG,bB h3,h4,cQ,aI,aH];rw[xO _ (by simp only[bI,bP];omega)];have hc:rs.length+[(((cg D a:Nat):Int),((D.take (a+2+cg D (a+1))).drop (a+2)),())].length<=cc:=dh (by simp only[aO,bA];omega);simp only[aA,hc,aI];exact ih (a+2+cg D (a+1)) (i+1) _ (by omega) (by omega) (by simp;omega) j (by omega)
theorem Fc (d:List UInt8) (hd:d.length<=2000000000):kQ.aa (d,())=some (match pT d with | none=>(QJ,(0:Int),()) | some (r,n)=>(r,(n:Int),())):=by
 refine ah (k:=300) λk hk=>(kQ.ae k _).trans ?_;unfold kQ.p pT;by_cases h7:d.length < 7
 ·have:(d.length:Int) < 7:=by omega
  simp only[this,aD,aJ,h7,jR,aI];rfl
 have ZQ:¬ (d.length:Int) < 7:=by omega
 obtain ⟨g1,g2⟩:=pE (show 0 < d.length by omega);have hb:=qu d 0;simp only[ZQ,aC,aG,h7,jO,g1,aA,g2,pF (show cg d 0<=4000000000 by omega)];by_cases hl:d.length < cg d 0
 ·have:(d.length:Int) < (cg d 0:Int):=by omega
  simp only[this,aD,aJ,hl,or_true,aI];rfl
 have wj:¬ (d.length:Int) < (cg d 0:Int):=by omega
 by_cases hm:cg d 0 < 7
 ·have:(cg d 0:Int) < 7:=by omega
  simp only[wj,aC,aG,this,aD,aJ,hm,jR,aI];rfl
 have BE:¬ (cg d 0:Int) < 7:=by omega
 have gg:0<=(cg d 0:Int)/\(cg d 0:Int)<=(d.length:Int):=by omega
 simp only[wj,BE,aC,aG,hl,hm,or_self,aL,gg,cQ,aI,aH,eF];generalize Tp:d.take (cg d 0)=D;have ZR:D.length=cg d 0:=by rw[<-Tp];simp;omega
 have ga:∀ i,i < cg d 0->cg D i=cg d i:=λi hi=>by rw[<-Tp];exact MC hi (by omega)
 obtain ⟨q1,q2⟩:=pE (show 1 < D.length by omega);obtain ⟨q3,q4⟩:=pE (show 2 < D.length by omega);obtain ⟨q5,q6⟩:=pE (show 3 < D.length by omega);obtain ⟨q7,q8⟩:=pE (show 4 < D.length by omega);have b1:=qu d 1;have b2:=qu d 2;have b3:=qu d 3;have b4:=qu d 4;have ew:af ((D.length:Int) - 2)=((D.length - 2:Nat):Int):=by rw[bf (by omega)];omega
 simp only[q1,q3,q5,q7,aA,q2,q4,q6,q8,ga 1 (by omega),ga 2 (by omega),ga 3 (by omega),ga 4 (by omega),ew,pF (show cg d 1<=4000000000 by omega),pF (show cg d 2<=4000000000 by omega),pF (show cg d 3<=4000000000 by omega),pF (show cg d 4<=4000000000 by omega)];have hp:=Tn (D:=D) (by omega) (by omega) (a1:=(d,())) (e0:=λz=>kQ.Q0 k (d,()) D ((D.length - 2:Nat):Int) (cg d 4:Int) z) (K:=(cg d 1:Int)) (T:=(cg d 2:Int)) (P:=(cg d 3:Int)) (N:=(cg d 4:Int)) (by omega) (k:=k) (cg d 4) 5 0 [] (by omega) (by omega) (aN _) k (by omega);refine aU hp ?_;rw[<-ZR]
 cases wP:pI D (D.length - 2) (cg d 4) 5 [] with
 | none=>rfl
 | some q=>
  obtain ⟨rs,a⟩:=q;simp only[kQ.Q0,kQ.q0];by_cases ha:a=D.length - 2;rotate_left
  ·have:¬ ((a:Int)=((D.length - 2:Nat):Int)):=by omega
   simp only[this,aC,aZ,aJ,ha,gF,aL];rfl
  subst ha;simp only[aD,aQ,aG,CP,aA,dZ];by_cases hr:qs ((cg d 1:Int),(cg d 2:Int),(cg d 3:Int),rs,())=0;rotate_left
  ·simp only[hr,aC,aZ,aJ,gF,aL];rfl
  have hs:=MA hr;have ir:=NE hs;simp only[hr,aD,aQ,aG,NG _ hs,aA,dZ];rw[MD _ _ (by omega)];by_cases he:zg ((cg d 1:Int),(cg d 2:Int),(cg d 3:Int),rs,())=D
  ·simp only[he,aD,aA,aQ,aG,aI]
  ·simp only[he,aC,aA,aZ,aJ,aL];rfl
theorem Fe (d:List UInt8) (hd:d.length<=2000000000):lk.aa (d,())=some (match pT d with | none=>(((5:Int),(0:Int),QJ,()),()) | some (r,n)=>(((0:Int),(n:Int),r,()),())):=by
 refine ah (k:=300) λk hk=>(lk.ae k _).trans ?_;show lk.p _=_;unfold lk.p pT;by_cases h7:d.length < 7
 ·have:(d.length:Int) < 7:=by omega
  simp only[this,aD,aJ,h7,jR,aI];rfl
 have ZQ:¬ (d.length:Int) < 7:=by omega
 obtain ⟨g1,g2⟩:=pE (show 0 < d.length by omega);have hb:=qu d 0;simp only[ZQ,aC,aG,h7,jO,g1,aA,g2,pF (show cg d 0<=4000000000 by omega)];by_cases hm:cg d 0 < 7
 ·have:(cg d 0:Int) < 7:=by omega
  simp only[this,aD,aJ,hm,jR,aI];rfl
 have BE:¬ (cg d 0:Int) < 7:=by omega
 by_cases hl:d.length < cg d 0
 ·have:(d.length:Int) < (cg d 0:Int):=by omega
  simp only[BE,aC,aG,this,aD,aJ,hl,or_true,aI];rfl
 have wj:¬ (d.length:Int) < (cg d 0:Int):=by omega
 have gg:0<=(cg d 0:Int)/\(cg d 0:Int)<=(d.length:Int):=by omega
 simp only[wj,BE,aC,aG,hl,hm,or_self,aL,gg,cQ,aI,aH,eF];generalize Tp:d.take (cg d 0)=D;have ZR:D.length=cg d 0:=by rw[<-Tp];simp;omega
 have ga:∀ i,i < cg d 0->cg D i=cg d i:=λi hi=>by rw[<-Tp];exact MC hi (by omega)
 have aa0:lZ.aa (D,())=some (((cg d 1:Int),(cg d 2:Int),(cg d 3:Int),pS D (cg d 4) 5 [],()),()):=by
  refine ah (k:=300) λk hk=>(lZ.ae k _).trans ?_;unfold lZ.p;obtain ⟨q1,q2⟩:=pE (show 1 < D.length by omega);obtain ⟨q3,q4⟩:=pE (show 2 < D.length by omega);obtain ⟨q5,q6⟩:=pE (show 3 < D.length by omega);have b1:=qu d 1;have b2:=qu d 2;have b3:=qu d 3;have b4:=qu d 4;simp only[q1,q3,q5,aA,q2,q4,q6,ga 1 (by omega),ga 2 (by omega),ga 3 (by omega),pF (show cg d 1<=4000000000 by omega),pF (show cg d 2<=4000000000 by omega),pF (show cg d 3<=4000000000 by omega)];have hp:=To (D:=D) (by omega) (by omega) (e0:=λz=>lZ.Q0 k (D,()) z) (K:=(cg d 1:Int)) (T:=(cg d 2:Int)) (P:=(cg d 3:Int)) (k:=k) (cg D 4) 5 0 [] (by omega) (by omega) (aN _) k (by rw[ga 4 (by omega)];omega);refine aU hp ?_;rw[ga 4 (by omega)];rfl
 rw[aa0];simp only[aA,HJ];rw[<-ZR];generalize JD:pS D (cg d 4) 5 []=rs;by_cases hr:qs ((cg d 1:Int),(cg d 2:Int),(cg d 3:Int),rs,())=0
 ·have hs:=MA hr;simp only[hr,aD,aQ,aG,NF _ hs,aA];by_cases he:zg ((cg d 1:Int),(cg d 2:Int),(cg d 3:Int),rs,())=D
  ·have h4:cg D 4=cg d 4:=ga 4 (by omega);have wP:=aaZ (D:=D) (by omega) (by rw[h4];exact JD) hr he;rw[h4] at wP;rw[wP];simp[he,hr]
  ·simp only[he,aC,aZ,aJ]
   cases wP:pI D (D.length - 2) (cg d 4) 5 [] with
   | none=>rfl
   | some q=>
    obtain ⟨JC,a'⟩:=q;have:=QI (by omega) _ _ _ _ _ wP;rw[JD] at this;subst this;simp only[he,and_false,aL];rfl
 ·simp only[hr,aC,aZ,aJ]
  cases wP:pI D (D.length - 2) (cg d 4) 5 [] with
  | none=>rfl
  | some q=>
   obtain ⟨JC,a'⟩:=q;have:=QI (by omega) _ _ _ _ _ wP;rw[JD] at this;subst this;simp only[hr,gF,and_false,aL];rfl
end OT
namespace OT
open Go
theorem wo {d:List UInt8} {r:bg} {n:Nat} (h:pT d=some (r,n)):7<=n/\n<=d.length/\qs r=0:=by
 unfold pT at h;split at h
 ·cases h
 ·rename_i hc;split at h
  ·cases h
  ·split at h
   ·rename_i hh;injection h with h;injection h with h1 h2;subst h1;omega
   ·cases h
theorem Tq:pT []=none:=rfl
def k8:Nat->List UInt8->List bg×Nat
 | 0,_=>([],0)
 | k+1,d=>match pT d with
  | none=>([],0)
  | some (r,n)=>(r::(k8 k (d.drop n)).1,n+(k8 k (d.drop n)).2)
theorem tP:∀ (k k':Nat) (d:List UInt8),d.length < k->d.length < k'->k8 k d=k8 k' d
 | 0,_,_,h,_=>by omega
 | _+1,0,_,_,h=>by omega
 | k+1,k'+1,d,h,h'=>by
  simp only[k8]
  cases hr:pT d with
  | none=>rfl
  | some q=>
   obtain ⟨r,n⟩:=q;have hn:=wo hr;have:(d.drop n).length=d.length - n:=bI;simp only;rw[tP k k' (d.drop n) (by omega) (by omega)]
def tw (d:List UInt8):List bg×Nat:=k8 (d.length+1) d
theorem CQ (d:List UInt8) (hd:d.length<=1048576):lX.aa (d,())=some ((tw d).1,((tw d).2:Int),()):=by
 refine ah (k:=1048578) λk hk=>(lX.ae k _).trans ?_
 have key:∀ (m a:Nat) (acc:List bg),d.length - a=m->a<=d.length->acc.length<=a->∀ j,m < j ->
   ak (λself v=>lX.B0 k self (d,()) v) j (acc,(a:Int))=some (acc++(k8 (m+1) (d.drop a)).1,((a+(k8 (m+1) (d.drop a)).2:Nat):Int),()):=by
  intro m
  induction m using Nat.strongRecOn with
  | ind m ih=>
  intro a acc hm ha abT j hj
  cases j with
  | zero=>omega
  | succ j=>
   show lX.b0 _ _ _=_;unfold lX.b0;have gg:(0:Int)<=(a:Int)/\(a:Int)<=(d.length:Int):=by omega
   simp only[gg,cQ,aI,aH,dX];rw[Fc _ (by simp;omega)];simp only[aA,k8]
   cases hr:pT (d.drop a) with
   | none=>simp only[aD,aJ,cD,dG];try rfl
   | some q=>
    obtain ⟨r,n⟩:=q;have hn:=wo hr;have hl:(d.drop a).length=d.length - a:=bI;have h0:¬ ((n:Int)=0):=by omega
    have hc:acc.length+[r].length<=cc:=dh (by simp only[aO,bA];omega);have ew:af ((a:Int)+(n:Int))=((a+n:Nat):Int):=by rw[bf (by omega)];omega
    simp only[h0,aC,aG,hc,aI,ew];have:=ih (d.length - (a+n)) (by omega) (a+n) (acc++[r]) rfl (by omega) (by simp;omega) j (by omega);refine aU this ?_;have AE:(d.drop a).drop n=d.drop (a+n):=by rw[dA]
    have tH:(d.drop (a+n)).length=d.length - (a+n):=bI;rw[AE,tP m (d.length - (a+n)+1) (d.drop (a+n)) (by omega) (by omega)];simp only[bK,cO,bT,cE]
 have:=key d.length 0 [] rfl (by omega) (aN _) k (by omega);simp only[eF,bT,bE] at this;exact this
theorem CR (d:List UInt8) (hd:d.length<=1048576):jo.aa (d,())=some ((tw d).1,((tw d).2:Int),()):=by
 refine ah (k:=1048578) λk hk=>(jo.ae k _).trans ?_
 have key:∀ (m a:Nat) (acc:List bg),d.length - a=m->a<=d.length->acc.length<=a->∀ j,m < j ->
   ak (λself v=>jo.B0 k self (λz=>jo.Q0 k (d,()) z) (d,()) v) j (acc,(a:Int))=some (acc++(k8 (m+1) (d.drop a)).1,((a+(k8 (m+1) (d.drop a)).2:Nat):Int),()):=by
  intro m
  induction m using Nat.strongRecOn with
  | ind m ih=>
  intro a acc hm ha abT j hj
  cases j with
  | zero=>omega
  | succ j=>
   show jo.b0 _ _ (d,()) _=_;unfold jo.b0;by_cases am:a < d.length;rotate_left
   ·have h1:¬ (a:Int) < (d.length:Int):=by omega
    have h2:d.drop a=[]:=dR (by omega);simp only[h1,aC,aG,jo.Q0,jo.q0,h2,k8,Tq,cD,dG]
    try rfl
   have sZ:(a:Int) < (d.length:Int):=by omega
   have gg:(0:Int)<=(a:Int)/\(a:Int)<=(d.length:Int):=by omega
   simp only[sZ,aD,aJ,gg,cQ,aI,aH,dX];rw[Fe _ (by simp;omega)];simp only[aA,k8]
   cases hr:pT (d.drop a) with
   | none=>
    have h5:¬ ((5:Int)=0):=by omega
    simp only[h5,aC,aZ,aJ,cD,dG,jo.Q0,jo.q0];try rfl
   | some q=>
    obtain ⟨r,n⟩:=q;have hn:=wo hr;have hl:(d.drop a).length=d.length - a:=bI;have hc:acc.length+[r].length<=cc:=dh (by simp only[aO,bA];omega);have ew:af ((a:Int)+(n:Int))=((a+n:Nat):Int):=by rw[bf (by omega)];omega
    simp only[aD,aQ,aG,hc,aI,ew];have:=ih (d.length - (a+n)) (by omega) (a+n) (acc++[r]) rfl (by omega) (by simp;omega) j (by omega);refine aU this ?_;have AE:(d.drop a).drop n=d.drop (a+n):=by rw[dA]
    have tH:(d.drop (a+n)).length=d.length - (a+n):=bI;rw[AE,tP m (d.length - (a+n)+1) (d.drop (a+n)) (by omega) (by omega)];simp only[bK,cO,bT,cE]
 have:=key d.length 0 [] rfl (by omega) (aN _) k (by omega);simp only[eF,bT,bE] at this;exact this
def WS (l:Log):Prop:=List.length l.1<=1048576/\List.length l.2.1<=1048576
def sd (d:List UInt8):Bool:=decide ((tw d).2=d.length)
def xh (l:Log):Int:=if 16000 < List.length l.1+List.length l.2.1 then 2 else if sd l.1&&sd l.2.1 then 0 else 5
theorem JE (d:List UInt8):decide (((tw d).2:Int)=(d.length:Int))=sd d:=by
 unfold sd;by_cases h:(tw d).2=d.length
 ·simp[h]
 ·have:¬ ((tw d).2:Int)=(d.length:Int):=by omega
  simp[h,this]
theorem QL (l:Log) (h:WS l):pY.aa (l,())=some (xh l,()):=by
 refine ah (k:=0) λk _=>(pY.ae k _).trans ?_;show pY.p _=_;unfold pY.p xh;obtain ⟨h1,h2⟩:=h;have ew:af ((List.length l.1:Int)+(List.length l.2.1:Int))=((List.length l.1+List.length l.2.1:Nat):Int):=by rw[bf (by omega)];omega
 simp only[ew,CR _ h1,CR _ h2,aA,JE];by_cases hc:16000 < List.length l.1+List.length l.2.1
 ·have:(16000:Int) < ((List.length l.1+List.length l.2.1:Nat):Int):=by omega
  simp only[this,hc,aD,aJ,aI]
  try rfl
 ·have:¬ (16000:Int) < ((List.length l.1+List.length l.2.1:Nat):Int):=by omega
  simp only[this,hc,aC,aG,aL];cases sd l.1 <;> cases sd l.2.1 <;> rfl
theorem size_eq (l:Log) (h:WS l):o_.aa (l,())=some (((List.length l.1+List.length l.2.1:Nat):Int),()):=by
 refine ah (k:=0) λk _=>(o_.ae k _).trans ?_;show o_.p _=_;unfold o_.p;obtain ⟨h1,h2⟩:=h;have ew:af ((List.length l.1:Int)+(List.length l.2.1:Int))=((List.length l.1+List.length l.2.1:Nat):Int):=by rw[bf (by omega)];omega
 rw[ew]
 try rfl
theorem QM (l:Log) (h:WS l):iN.aa (l,())=some (xh l,()):=by
 refine ah (k:=5) λk hk=>(iN.ae k _).trans ?_;unfold iN.p xh;rw[size_eq l h]
 have hl:∀ x ∈ [l.1,l.2.1],List.length x<=1048576:=by
  intro x hx;simp only[aX,List.not_mem_nil,or_false] at hx;rcases hx with e | e <;> subst e
  ·exact h.1
  ·exact h.2
 have:=co (B:=λself v=>iN.b0 self (λz=>iN.q0 (l,()) z) (l,()) v) [l.1,l.2.1] (λ(_:Unit) (i:Int)=>i) (λ_ _ x=>if sd x then .inr () else .inl (5,())) (λ_=>(0,())) (λ_ _=>True) (by rw[aq];simp)
  (λi hi s self hI=>by
   show iN.b0 _ _ _ _=_;unfold iN.b0;have am:(i:Int) < ([l.1,l.2.1].length:Int):=by omega
   have gg:(0:Int)<=(i:Int)/\(i:Int) < ([l.1,l.2.1].length:Int):=by omega
   simp only[am,gg,cQ,aD,aJ,aI,aH,aB hi,aA];have hx:=hl [l.1,l.2.1][i] (aS hi);generalize [l.1,l.2.1][i]=x at hx;rw[CQ x hx];simp only[aA,JE]
   cases sd x <;> rfl)
  (λ_ _ _ _ _ _=>trivial) (λs self _=>by
   show iN.b0 _ _ _ _=_;unfold iN.b0
   simp[iN.q0,iN.q0]) () trivial k (by simp only[aO,bA];omega)
 rw[rP sd (5,()) (λ_=>(0,()))] at this;have this:iN.r0 k (l,()) 0=_:=this;simp only[aA,this];by_cases hc:16000 < List.length l.1+List.length l.2.1
 ·have:(16000:Int) < ((List.length l.1+List.length l.2.1:Nat):Int):=by omega
  simp only[this,hc,aD,aJ,aI]
 ·have:¬ (16000:Int) < ((List.length l.1+List.length l.2.1:Nat):Int):=by omega
  simp only[this,hc,aC,aG,aL,eH,List.all_nil,Bool.and_true];cases sd l.1 <;> cases sd l.2.1 <;> rfl
end OT
namespace OT
open Go
theorem QN:lY.aa ((0:UInt8),())=some (Cw,()):=by
 refine ah (k:=66) λk hk=>(lY.ae k _).trans ?_;unfold lY.p
 have:=co (B:=λself v=>lY.b0 self (λz=>lY.q0 ((0:UInt8),()) z) ((0:UInt8),()) v) (List.replicate 64 (0:UInt8)) (λ(s:List UInt8) (i:Int)=>(s,i)) (λ_ s _=>.inr s) (λs=>(Cw,())) (λ_ s=>s=List.replicate 64 (0:UInt8)) (by rw[aq];simp)
  (λi hi s self hI=>by
   show lY.b0 _ _ _ _=_;unfold lY.b0;subst hI;simp only[dV] at hi ⊢;have am:(i:Int) < ((64:Nat):Int):=by omega
   have gg:(0:Int)<=(i:Int)/\(i:Int) < ((64:Nat):Int):=by omega
   have hg:(List.replicate 64 (0:UInt8))[i]?=some 0:=(gB (n:=64) (i:=i) (a:=(0:UInt8))).trans (aV hi);have hs:(List.replicate 64 (0:UInt8)).set i 0=List.replicate 64 (0:UInt8):=List.set_replicate_self
   simp only[am,gg,cQ,aD,aJ,aI,aH,hg,aA,hs])
  (λi hi s s' hI hs=>by injection hs with hs;rw[<-hs,hI]) (λs self hI=>by
   show lY.b0 _ _ _ _=_;unfold lY.b0;subst hI;simp only[dV,bC,aC,aG]
   rfl) (List.replicate 64 (0:UInt8)) rfl k (by simp;omega)
 rw[ic (g:=λs _=>s)] at this
 have hc:(0:Int)<=64/\(64:Int)<=64/\(64:Int)<=(cc:Int):=⟨by omega,by omega,by simp only[cc];omega⟩
 rw[aV hc];exact this
theorem QO:nz.aa ((0:UInt8),())=some (Cw,()):=by
 refine ah (k:=66) λk hk=>(nz.ae k _).trans ?_;unfold nz.p
 have:=co (B:=λself v=>nz.b0 self (λz=>nz.q0 ((0:UInt8),()) z) ((0:UInt8),()) v) (List.replicate 64 (0:UInt8)) (λ(s:List UInt8) (i:Int)=>(s,i)) (λ_ s _=>.inr s) (λs=>(Cw,())) (λ_ s=>s=List.replicate 64 (0:UInt8)) (by rw[aq];simp)
  (λi hi s self hI=>by
   show nz.b0 _ _ _ _=_;unfold nz.b0;subst hI;simp only[dV] at hi ⊢;have am:(i:Int) < (64:Int):=by omega
   have gg:(0:Int)<=(i:Int)/\(i:Int) < ((64:Nat):Int):=by omega
   have hg:(List.replicate 64 (0:UInt8))[i]?=some 0:=(gB (n:=64) (i:=i) (a:=(0:UInt8))).trans (aV hi);have hs:(List.replicate 64 (0:UInt8)).set i 0=List.replicate 64 (0:UInt8):=List.set_replicate_self
   simp only[am,gg,cQ,aD,aJ,aI,aH,hg,aA,hs])
  (λi hi s s' hI hs=>by injection hs with hs;rw[<-hs,hI]) (λs self hI=>by
   show nz.b0 _ _ _ _=_;unfold nz.b0;subst hI;have:¬ (((64:Nat):Int) < 64):=by omega
   simp only[dV,this,aC,aG]
   rfl) (List.replicate 64 (0:UInt8)) rfl k (by simp;omega)
 rw[ic (g:=λs _=>s)] at this
 have hc:(0:Int)<=64/\(64:Int)<=64/\(64:Int)<=(cc:Int):=⟨by omega,by omega,by simp only[cc];omega⟩
 rw[aV hc];exact this
end OT
namespace OT
open Go
def QP (p:List UInt8) (r:gu):List UInt8:=sg p r.1.toNat (min (List.length r.2.1) (p.length - r.1.toNat)) r.2.1
def HL (p:List UInt8) (rs:List gu):List UInt8:=rs.foldl QP p
theorem Gd {p:List UInt8} {r:gu} (h:r.1.toNat<=p.length):(QP p r).length=p.length:=EX _ _ (by omega) (by omega)
theorem HM:∀ (rs:List gu) (p:List UInt8),p.length=64->(∀ r ∈ rs,0<=r.1/\r.1<=63)->(HL p rs).length=64
 | [],p,h,_=>h
 | r::rs,p,h,hr=>by
  have:=hr r (by simp);exact HM rs _ (by rw[Gd (by omega)];exact h) (λx hx=>hr x (by simp[hx]))
theorem IQ (p:List UInt8) (rs:List gu) (hp:p.length=64) (hl:rs.length<=64) (hr:∀ r ∈ rs,0<=r.1/\r.1<=63):lq.aa (p,rs,())=some (HL p rs,()):=by
 refine ah (k:=66) λk hk=>(lq.ae k _).trans ?_;unfold lq.p;rw[vK _ (by show p.length<=_;omega)]
 have:=co (B:=λself v=>lq.b0 self (λz=>lq.q0 (p,rs,()) z) (p,rs,()) v) rs (λ(s:List UInt8) (i:Int)=>(s,i)) (λ_ s r=>.inr (QP s r)) (λs=>(s,())) (λ_ s=>s.length=64) (by rw[aq];omega)
  (λi hi s self hI=>by
   show lq.b0 _ _ _ _=_;unfold lq.b0;have am:(i:Int) < (rs.length:Int):=by omega
   have hx:=hr rs[i] (aS hi);have gg:(0:Int)<=(rs[i]).1/\(rs[i]).1<=(s.length:Int):=by omega
   simp only[am,aD,aJ,aK,aI,aH,aB hi,aA,gg,cQ]
   rfl)
  (λi hi s s' hI hs=>by
   injection hs with hs;have hx:=hr rs[i] (aS hi)
   rw[<-hs,Gd (by omega)];exact hI) (λs self hI=>by
   show lq.b0 _ _ _ _=_;unfold lq.b0;simp only[bC,aC,aG]
   rfl) p hp k (by omega)
 rw[ic] at this;exact this
theorem IR (p:List UInt8) (rs:List gu) (hp:p.length=64) (hl:rs.length<=64) (hr:∀ r ∈ rs,0<=r.1/\r.1<=63):lm.aa (p,rs,())=some (HL p rs,()):=by
 refine ah (k:=66) λk hk=>(lm.ae k _).trans ?_;unfold lm.p;rw[xO _ (by show p.length<=_;omega)]
 have:=co (B:=λself v=>lm.b0 self (λz=>lm.q0 (p,rs,()) z) (p,rs,()) v) rs (λ(s:List UInt8) (i:Int)=>(s,i)) (λ_ s r=>.inr (QP s r)) (λs=>(s,())) (λ_ s=>s.length=64) (by rw[aq];omega)
  (λi hi s self hI=>by
   show lm.b0 _ _ _ _=_;unfold lm.b0;have am:(i:Int) < (rs.length:Int):=by omega
   have hx:=hr rs[i] (aS hi);have gg:(0:Int)<=(rs[i]).1/\(rs[i]).1<=(s.length:Int):=by omega
   simp only[am,aD,aJ,aK,aI,aH,aB hi,aA,gg,cQ]
   rfl)
  (λi hi s s' hI hs=>by
   injection hs with hs;have hx:=hr rs[i] (aS hi)
   rw[<-hs,Gd (by omega)];exact hI) (λs self hI=>by
   show lm.b0 _ _ _ _=_;unfold lm.b0;simp only[bC,aC,aG]
   rfl) p hp k (by omega)
 rw[ic] at this;exact this
theorem Vp (ps:ma) (h:ps.length<=12):mh.aa (ps,())=some (ps,()):=by
 refine ah (k:=0) λk _=>(mh.ae k _).trans ?_;show mh.p _=_;unfold mh.p;refine Iu (λe=>by rw[show ps=[] from e]) ?_;have:([]:List (List UInt8)).length+ps.length<=cc:=dh (by simp only[bA];omega);rw[aV this,bT]
def Ge (q:ma) (r:bg):ma:=q.set r.2.2.1.toNat (HL (q.getD r.2.2.1.toNat []) r.2.2.2.1)
def nD (ps:ma) (r:bg):Sum Int ma:=
 if qs r=0 then (if ft r.1 2 4 then (if (ps.length:Int) < r.2.2.1 then .inl 1 else .inr (Ge (if r.2.2.1=(ps.length:Int) then ps++[Cw] else ps) r)) else .inr ps) else .inl (qs r)
theorem wr {ps:ma} {r:bg} {c:Int} (h:nD ps r=.inl c):c≠0:=by
 unfold nD at h;split at h
 ·split at h
  ·split at h
   ·injection h with h;subst h;decide
   ·cases h
  ·cases h
 ·rename_i hr;injection h with h;subst h;exact hr
theorem JF {q:ma} {r:bg} (hq:gp q) (hr:qs r=0) (hp:r.2.2.1.toNat < q.length):gp (Ge q r):=by
 have hg:=uL hr;refine ⟨by simp[Ge];exact hq.1,λp hm=>?_⟩
 rcases hJ hm with h | h
 ·exact hq.2 p h
 ·subst h;have hx:q.getD r.2.2.1.toNat []=q[r.2.2.1.toNat]:=by simp[hp]
  rw[hx];exact HM _ _ (hq.2 _ (aS hp)) (λx hx=>by have:=hg.2.2.2.2.2.2.2 x hx;omega)
theorem zh {ps so:ma} {r:bg} (hp:gp ps) (h:nD ps r=.inr so):gp so:=by
 unfold nD at h;split at h
 ·rename_i hr;have hg:=uL hr;split at h
  ·split at h
   ·cases h
   ·rename_i hl;injection h with h;subst h;split
    ·rename_i he;refine JF ⟨by simp;omega,λp hm=>?_⟩ hr (by simp;omega);rcases cJ.1 hm with hm | hm
     ·exact hp.2 p hm
     ·simp only[bR] at hm;subst hm;exact FY
    ·rename_i he;exact JF hp hr (by omega)
  ·injection h with h;subst h;exact hp
 ·cases h
theorem A6 (ps:ma) (r:bg) (hp:gp ps) (hr:qs r=0):lO.aa (ps,r,())=some (match nD ps r with | .inl c=>(([]:ma),c,()) | .inr so=>(so,(0:Int),())):=by
 refine ah (k:=0) λk _=>(lO.ae k _).trans ?_;show lO.p _=_;have hg:=uL hr;unfold lO.p nD;simp only[My,hr,aI,aA]
 cases ht:ft r.1 2 4 with
 | false=>rfl
 | true=>
  simp only[aQ,aG,aI];by_cases hl:(ps.length:Int) < r.2.2.1
  ·simp only[hl,aD,aJ,aI]
  have KE:¬ r.2.2.1=12:=by omega
  simp only[hl,KE,aC,aG,aL,Vp ps hp.1,aA]
  have key:∀ q:ma,gp q->r.2.2.1.toNat < q.length->(if 0<=r.2.2.1/\r.2.2.1 < (q.length:Int) then ((q[r.2.2.1.toNat]?).bind λOI=>(lq.aa (OI,r.2.2.2.1,())).bind λAc=>if 0<=r.2.2.1/\r.2.2.1 < (q.length:Int) then ((q[r.2.2.1.toNat]?).bind λx13=>some (q.set r.2.2.1.toNat Ac.1,(0:Int),())) else none) else none:Option lO.Out)=some (Ge q r,(0:Int),()):=λq hq am=>by
   have hc:0<=r.2.2.1/\r.2.2.1 < (q.length:Int):=by omega
   simp only[hc,cQ,aI,aB am,aA];rw[IQ _ _ (hq.2 _ (aS am)) hg.2.2.2.2.2.2.1 (λx hx=>by have:=hg.2.2.2.2.2.2.2 x hx;omega)];have hx:q.getD r.2.2.1.toNat []=q[r.2.2.1.toNat]:=by simp[am]
   unfold Ge;rw[hx];rfl
  by_cases he:r.2.2.1=(ps.length:Int)
  ·have Hd:ps.length+[Cw].length<=cc:=dh (by have:=hp.1;simp only[aO,bA];omega);rw[aV he];simp only[he,aD,aJ,QN,aA,Hd,aI];rw[<-he];refine key _ ⟨by simp;omega,λp hm=>?_⟩ (by simp;omega);rcases cJ.1 hm with hm | hm
   ·exact hp.2 p hm
   ·simp only[bR] at hm;subst hm;exact FY
  ·rw[bB he];simp only[he,aC,aG];exact key ps hp (by omega)
theorem NH (c:Int):pM.aa (c,())=some ((c,([]:List gu),([]:List (List UInt8)),()),()):=by
 refine ah (k:=0) λk _=>(pM.ae k _).trans ?_;rfl
theorem Dj (ps:ma) (r:bg) (hp:gp ps):dw.aa (ps,r,())=some (match nD ps r with | .inl c=>((c,([]:List gu),([]:ma),()),()) | .inr so=>(((0:Int),([]:List gu),so,()),())):=by
 refine ah (k:=14) λk hk=>(dw.ae k _).trans ?_;unfold dw.p;have KE:¬ (12:Int) < (ps.length:Int):=by have:=hp.1;omega
 simp only[KE,aC,aG]
 have main:dw.q0 (ps,r,()) ()=some (match nD ps r with | .inl c=>((c,([]:List gu),([]:ma),()),()) | .inr so=>(((0:Int),([]:List gu),so,()),())):=by
  show dw.q0 _ _=_;unfold dw.q0 nD;simp only[HJ,NH,Dc ps hp,Ej,aA];by_cases hr:qs r=0;rotate_left
  ·simp only[hr,aC,aZ,aJ,aL]
  have hg:=uL hr;simp only[hr,aD,aQ,aG,aI]
  cases ht:ft r.1 2 4 with
  | false=>rfl
  | true=>
   simp only[aQ,aG,aI];by_cases hl:(ps.length:Int) < r.2.2.1
   ·simp only[hl,aD,aJ,aI]
   have KE:¬ r.2.2.1=12:=by omega
   simp only[hl,KE,aC,aG,aL]
   have key:∀ q:ma,gp q->r.2.2.1.toNat < q.length->(if 0<=r.2.2.1/\r.2.2.1 < (q.length:Int) then ((q[r.2.2.1.toNat]?).bind λCr=>(q[r.2.2.1.toNat]?).bind λUF=>(lm.aa (UF,r.2.2.2.1,())).bind λUG=>if 0<=r.2.2.1/\r.2.2.1 < (q.length:Int) then ((q[r.2.2.1.toNat]?).bind λabA=>some (((0:Int),([]:List gu),q.set r.2.2.1.toNat UG.1,()),())) else none) else none:Option dw.Out)=some (((0:Int),([]:List gu),Ge q r,()),()):=λq hq am=>by
    have hc:0<=r.2.2.1/\r.2.2.1 < (q.length:Int):=by omega
    simp only[hc,cQ,aI,aB am,aA];rw[IR _ _ (hq.2 _ (aS am)) hg.2.2.2.2.2.2.1 (λx hx=>by have:=hg.2.2.2.2.2.2.2 x hx;omega)];have hx:q.getD r.2.2.1.toNat []=q[r.2.2.1.toNat]:=by simp[am]
    unfold Ge;rw[hx];rfl
   by_cases he:r.2.2.1=(ps.length:Int)
   ·have Hd:ps.length+[Cw].length<=cc:=dh (by have:=hp.1;simp only[aO,bA];omega);rw[aV he];simp only[he,aD,aJ,QO,aA,Hd,aI];rw[<-he];refine key _ ⟨by simp;omega,λp hm=>?_⟩ (by simp;omega);rcases cJ.1 hm with hm | hm
    ·exact hp.2 p hm
    ·simp only[bR] at hm;subst hm;exact FY
   ·rw[bB he];simp only[he,aC,aG];exact key ps hp (by omega)
 have:=co (B:=λself v=>dw.b0 self (λz=>dw.q0 (ps,r,()) z) (ps,r,()) v) ps (λ(s:Unit) (i:Int)=>i) (λ_ s x=>.inr s) (λs=>(match nD ps r with | .inl c=>((c,([]:List gu),([]:ma),()),()) | .inr so=>(((0:Int),([]:List gu),so,()),()))) (λi s=>True) (by have:=hp.1;rw[aq];omega)
  (λi hi s self hI=>by
   show dw.b0 _ _ _ _=_;unfold dw.b0;have am:(i:Int) < (ps.length:Int):=by omega
   have hx:((ps[i].length:Nat):Int)=64:=by have:=hp.2 ps[i] (aS hi);omega
   simp only[am,aD,aJ,aK,aI,aH,aB hi,aA,hx,aQ,aG])
  (λ_ _ _ _ _ _=>trivial) (λs self hI=>by
   show dw.b0 _ _ _ _=_;unfold dw.b0;simp only[bC,aC,aG]
   exact main) () trivial k (by have:=hp.1;omega)
 rw[ic (g:=λs _=>s)] at this;exact this
def vO (xs:List bg):ma×Int×Unit:=bz (λ_ ps r=>match nD ps r with | .inl c=>.inl (([]:ma),c,()) | .inr so=>.inr so) (λps=>(ps,(0:Int),())) 0 xs []
theorem HN (xs:List bg):(vO xs).2.1=0->gp (vO xs).1:=by
 have main:∀ (xs:List bg) (i:Nat) (ps:ma),gp ps->(bz (λ_ ps r=>match nD ps r with | .inl c=>.inl (([]:ma),c,()) | .inr so=>.inr so) (λps=>(ps,(0:Int),())) i xs ps).2.1=0->gp (bz (λ_ ps r=>match nD ps r with | .inl c=>.inl (([]:ma),c,()) | .inr so=>.inr so) (λps=>(ps,(0:Int),())) i xs ps).1:=by
  intro xs
  induction xs with
  | nil=>intro i ps h _;exact h
  | cons x xs ih=>
   intro i ps h;simp only[bz]
   cases hs:nD ps x with
   | inl c=>intro h0;exact absurd h0 (wr hs)
   | inr so=>exact ih _ _ (zh h hs)
 exact main xs 0 [] ⟨by simp,λ_ h=>by cases h⟩
theorem NI (xs:List bg) (hx:xs.length<=maxLen):mD.aa (xs,())=some (vO xs):=by
 refine ah (k:=xs.length+1) λk hk=>(mD.ae k _).trans ?_
 exact co (B:=λself v=>mD.b0 self (λz=>mD.q0 (xs,()) z) (xs,()) v) xs (λ(s:ma) (i:Int)=>(s,i)) (λ_ ps r=>match nD ps r with | .inl c=>.inl (([]:ma),c,()) | .inr so=>.inr so) (λps=>(ps,(0:Int),())) (λ_ s=>gp s) hx
  (λi hi s self hI=>by
   show mD.b0 _ _ _ _=_;unfold mD.b0;have am:(i:Int) < (xs.length:Int):=by omega
   simp only[am,aD,aJ,aK,aI,aH,aB hi,aA,Dj s _ hI]
   cases hs:nD s xs[i] with
   | inl c=>
    have:=wr hs;simp only[this,aC,aZ,aJ]
   | inr so=>simp only[aD,aQ,aG])
  (λi hi s s' hI hs=>by
   cases h:nD s xs[i] with
   | inl c=>rw[h] at hs;cases hs
   | inr so=>rw[h] at hs;injection hs with hs;subst hs;exact zh hI h) (λs self hI=>by
   show mD.b0 _ _ _ _=_;unfold mD.b0;simp only[bC,aC,aG]
   rfl) [] ⟨by simp,λ_ h=>by cases h⟩ k (by omega)
theorem NJ (xs:List bg) (hx:xs.length<=maxLen):pc.aa (xs,())=some (vO xs):=by
 refine ah (k:=xs.length+1) λk hk=>(pc.ae k _).trans ?_
 exact co (B:=λself v=>pc.b0 self (λz=>pc.q0 (xs,()) z) (xs,()) v) xs (λ(s:ma) (i:Int)=>(s,i)) (λ_ ps r=>match nD ps r with | .inl c=>.inl (([]:ma),c,()) | .inr so=>.inr so) (λps=>(ps,(0:Int),())) (λ_ s=>gp s) hx
  (λi hi s self hI=>by
   show pc.b0 _ _ _ _=_;unfold pc.b0;have am:(i:Int) < (xs.length:Int):=by omega
   simp only[am,aD,aJ,aK,aI,aH,aB hi,aA,CP];by_cases hr:qs xs[i]=0
   ·simp only[hr,aD,aQ,aG,A6 s _ hI hr,aA]
    cases hs:nD s xs[i] with
    | inl c=>
     have:=wr hs;simp only[this,aC,aZ,aJ]
    | inr so=>simp only[aD,aQ,aG]
   ·have hs:nD s xs[i]=.inl (qs xs[i]):=by unfold nD;rw[bB hr]
    simp only[hr,aC,aZ,aJ,hs])
  (λi hi s s' hI hs=>by
   cases h:nD s xs[i] with
   | inl c=>rw[h] at hs;cases hs
   | inr so=>rw[h] at hs;injection hs with hs;subst hs;exact zh hI h) (λs self hI=>by
   show pc.b0 _ _ _ _=_;unfold pc.b0;simp only[bC,aC,aG]
   rfl) [] ⟨by simp,λ_ h=>by cases h⟩ k (by omega)
theorem Vq (ps:ma) (h:gp ps):zz (.U (.U u8)) ps<=12*65:=by
 obtain ⟨h1,h2⟩:=h
 have main:∀ ps:ma,(∀ p ∈ ps,p.length=64)->zz (.U (.U u8)) ps=65*ps.length:=by
  intro ps
  induction ps with
  | nil=>intro _;rfl
  | cons p ps ih=>
   intro h;have h3:zz (.U (.U u8)) (p::ps)=zz (.U u8) p+1+zz (.U (.U u8)) ps:=EG (e:=.U u8) p ps;have h4:zz (.U u8) p=p.length+mz (zz u8) p:=rfl;have h5:mz (zz u8) p=0:=DT _ (λ_=>rfl) p;have h6:=ih λq hq=>h q (by simp[hq]);have h7:=h p (by simp);rw[h3,h4,h5,h6,h7,aO];omega
 rw[main ps h2];omega
end OT
namespace OT
open Go
def xo (x:Tx):Int:=if AT x=0 then tN x else AT x
theorem JG {α:Type} (c:Nat->α->Int):∀ (xs:List α) (i:Nat),bz (λi (_:Unit) y=>if c i y=0 then .inr () else .inl (c i y,())) (λ_=>((0:Int),())) i xs ()=(bz (λi (_:Unit) y=>if c i y=0 then .inr () else .inl (c i y)) (λ_=>(0:Int)) i xs (),())
 | [],_=>rfl
 | y::ys,i=>by simp only[bz];by_cases h0:c i y=0 <;> simp[h0,JG c ys (i+1)]
theorem zi {α:Type} (c:Nat->α->Int) (E:Option (Int×Unit)):∀ (xs:List α) (i:Nat),bz (λi (_:Unit) y=>if c i y=0 then .inr () else .inl (some (c i y,()))) (λ_=>E) i xs () =
  if bz (λi (_:Unit) y=>if c i y=0 then .inr () else .inl (c i y)) (λ_=>(0:Int)) i xs ()=0 then E else some (bz (λi (_:Unit) y=>if c i y=0 then .inr () else .inl (c i y)) (λ_=>(0:Int)) i xs (),())
 | [],_=>rfl
 | y::ys,i=>by simp only[bz];by_cases h0:c i y=0 <;> simp[h0,zi c E ys (i+1)]
theorem Ff {α:Type} (c:α->Int):∀ (xs:List α) (i:Nat),bz (λ_ (_:Unit) y=>if c y=0 then .inr () else .inl (c y)) (λ_=>(0:Int)) i xs ()=ox c xs
 | [],_=>rfl
 | y::ys,i=>by simp only[bz,ox];by_cases h0:c y=0 <;> simp[h0,Ff c ys (i+1)]
theorem QQ (x:Tx) (h:tl x):da.aa (x,())=some (xo x,()):=by
 obtain ⟨h1,h2,h3,h4⟩:=h;refine ah (k:=1048577) λk hk=>(da.ae k _).trans ?_
 have QR:List.length x.2.2.2.1<=12->da.r2 k (x,()) (0:Int)=some (w7 x.2.2.2.1,()):=λhl=>by
  have:=co (B:=λself v=>da.b2 self (λz=>da.q2 (x,()) z) (x,()) v) x.2.2.2.1 (λ(_:Unit) (i:Int)=>i) (λi _ y=>if qH x.2.2.2.1 i y=0 then .inr () else .inl (qH x.2.2.2.1 i y,())) (λ_=>(0,())) (λ_ _=>True) (by rw[aq];omega)
   (λi hi s self _=>by
    show da.b2 _ _ _ _=_;unfold da.b2 qH;have am:(i:Int) < (List.length x.2.2.2.1:Int):=by omega
    have gg:(0:Int)<=(i:Int)/\(i:Int)<=(List.length x.2.2.2.1:Int):=by omega
    simp only[am,gg,cQ,aD,aJ,aK,aI,aH,aB hi,aA,U_,eF];rw[contains_eq _ _ (by rw[aq];simp;omega)]
    cases xQ (x.2.2.2.1)[i] <;> cases jc (x.2.2.2.1.take i) (x.2.2.2.1)[i] <;> rfl)
   (λ_ _ _ _ _ _=>trivial) (λs self _=>by
    show da.b2 _ _ _ _=_;unfold da.b2;simp only[bC,aC,aG]
    rfl) () trivial k (by omega)
  rw[JG (qH x.2.2.2.1)] at this;exact this
 have second:List.length x.2.2.1<=8->List.length x.2.2.2.1<=12->da.r1 k (x,()) ((0:Int),(0:Int))=some (if Hx (List.length x.2.1:Int) 0 x.2.2.1 then w7 x.2.2.2.1 else 3,()):=λhm hl=>by
  have:=d_ (B:=λself v=>da.b1 self (λz=>da.Q1 k (x,()) z) (x,()) v) x.2.2.1 (λ(last:Int) (i:Int)=>(last,i)) (λ_ last m=>if ft m last (List.length x.2.1:Int) then .inr m else .inl (some ((3:Int),()))) (λ_=>some (w7 x.2.2.2.1,())) (λ_ _=>True) (by rw[aq];omega)
   (λi hi last self _=>by
    show da.b1 _ _ _ _=_;unfold da.b1;have am:(i:Int) < (List.length x.2.2.1:Int):=by omega
    simp only[am,aD,aJ,aK,aI,aH,aB hi,aA,sV];show (bif !ft (x.2.2.1)[i] last (List.length x.2.1:Int) then _ else _)=_
    cases ft (x.2.2.1)[i] last (List.length x.2.1:Int) <;> rfl)
   (λ_ _ _ _ _ _=>trivial) (λlast self _=>by
    show da.b1 _ _ _ _=_;unfold da.b1;simp only[bC,aC,aG]
    exact QR hl) 0 trivial k (by omega)
  rw[Mi] at this;refine aU this ?_;unfold Hx;cases bz (λ_ last m=>if ft m last (List.length x.2.1:Int) then .inr m else .inl false) (λ_=>true) 0 x.2.2.1 0 <;> rfl
 have after:da.Q0 k (x,()) ()=some (tN x,()):=by
  show da.q0 _ _ _=_;unfold da.q0 tN;by_cases hm:8 < List.length x.2.2.1
  ·have:(8:Int) < (List.length x.2.2.1:Int):=by omega
   simp only[this,hm,aD,aJ,fQ,aI]
   try rfl
  have BE:¬ (8:Int) < (List.length x.2.2.1:Int):=by omega
  by_cases mw:12 < List.length x.2.2.2.1
  ·have:(12:Int) < (List.length x.2.2.2.1:Int):=by omega
   simp only[this,hm,BE,mw,aD,aC,aJ,aG,dY,aI]
   try rfl
  have o6:¬ (12:Int) < (List.length x.2.2.2.1:Int):=by omega
  simp only[hm,BE,o6,mw,aC,aG,iG,aF,aL];exact second (by omega) (by omega)
 have:=d_ (B:=λself v=>da.b0 self (λz=>da.Q0 k (x,()) z) (x,()) v) x.2.1 (λ(_:Unit) (i:Int)=>i) (λ_ _ c=>if xR x.2.2.2.1 c=0 then .inr () else .inl (some (xR x.2.2.2.1 c,()))) (λ_=>some (tN x,())) (λ_ _=>True) (by rw[aq];omega)
  (λi hi s self _=>by
   show da.b0 _ _ _ _=_;unfold da.b0;have am:(i:Int) < (List.length x.2.1:Int):=by omega
   simp only[am,aD,aJ,aK,aI,aH,aB hi,aA,D3 _ (h4 _ (aS hi)),XK];rw[contains_eq _ _ (by rw[aq];omega)];unfold xR;by_cases hc:wX (x.2.1)[i]=0
   ·simp only[hc,aD,aQ,aG,aI,aA];cases jc x.2.2.2.1 (BF (x.2.1)[i]) <;> rfl
   ·simp only[hc,aC,aZ,aJ,aL])
  (λ_ _ _ _ _ _=>trivial) (λs self _=>by
   show da.b0 _ _ _ _=_;unfold da.b0;simp only[bC,aC,aG]
   exact after) () trivial k (by omega)
 rw[zi (λ_=>xR x.2.2.2.1),Ff] at this;refine aU this ?_;unfold xo AT;split <;> rfl
def qI (xs:List Tx) (k:Key):Int:=match xs with
 | []=>0
 | x::xs=>if jc x.2.2.2.1 k then x.1 else qI xs k
def Fg (xs:List Tx):Prop:=xs.length<=1048576/\∀ x ∈ xs,tl x
theorem JH (k:Key):∀ (xs:List Tx) (i:Nat),bz (λ_ (_:Unit) x=>if jc x.2.2.2.1 k then .inl (x.1,()) else .inr ()) (λ_=>((0:Int),())) i xs ()=(qI xs k,())
 | [],_=>rfl
 | x::xs,i=>by simp only[bz,qI];cases jc x.2.2.2.1 k <;> simp[JH k xs (i+1)]
theorem Vr {x:Tx} (h:tl x):List.length x.2.2.2.1<=maxLen:=by rw[aq];have:=h.2.2.1;omega
theorem NK (xs:List Tx) (k0:Key) (h:Fg xs):mC.aa (xs,k0,())=some (qI xs k0,()):=by
 obtain ⟨h1,h2⟩:=h;refine ah (k:=xs.length+1) λk hk=>(mC.ae k _).trans ?_
 have:=co (B:=λself v=>mC.b0 self (λz=>mC.q0 (xs,k0,()) z) (xs,k0,()) v) xs (λ(_:Unit) (i:Int)=>i) (λ_ _ x=>if jc x.2.2.2.1 k0 then .inl (x.1,()) else .inr ()) (λ_=>(0,())) (λ_ _=>True) (by rw[aq];omega)
  (λi hi s self _=>by
   show mC.b0 _ _ _ _=_;unfold mC.b0;have am:(i:Int) < (xs.length:Int):=by omega
   simp only[am,aD,aJ,aK,aI,aH,aB hi,aA,Mh _ _ (Vr (h2 _ (aS hi)))]
   cases jc (xs[i]).2.2.2.1 k0 <;> rfl)
  (λ_ _ _ _ _ _=>trivial) (λs self _=>by
   show mC.b0 _ _ _ _=_;unfold mC.b0;simp only[bC,aC,aG]
   rfl) () trivial k (by omega)
 rw[JH] at this;exact this
def yI (xs:List Tx):Int:=xs.foldl (λn x=>n+(List.length x.2.1:Int)) 0
theorem ME (xs:List Tx) (h:Fg xs):lN.aa (xs,())=some (yI xs,()):=by
 obtain ⟨h1,h2⟩:=h;refine ah (k:=xs.length+1) λk hk=>(lN.ae k _).trans ?_
 have:=co (B:=λself v=>lN.b0 self (λz=>lN.q0 (xs,()) z) (xs,()) v) xs (λ(n:Int) (i:Int)=>(n,i)) (λ_ n x=>.inr (n+(List.length x.2.1:Int))) (λn=>(n,())) (λi n=>0<=n/\n<=1048576*(i:Int)) (by rw[aq];omega)
  (λi hi n self hI=>by
   show lN.b0 _ _ _ _=_;unfold lN.b0;have am:(i:Int) < (xs.length:Int):=by omega
   have hx:=(h2 _ (aS hi)).1;simp only[am,aD,aJ,aK,aI,aH,aB hi,aA]
   rw[bf (n:=n+_) (by omega)])
  (λi hi n n' hI hs=>by
   injection hs with hs;have hx:=(h2 _ (aS hi)).1
   omega) (λs self _=>by
   show lN.b0 _ _ _ _=_;unfold lN.b0;simp only[bC,aC,aG]
   rfl) 0 (by omega) k (by omega)
 rw[ic] at this;exact this
theorem MF (xs:List Tx) (h:Fg xs):nx.aa (xs,())=some (yI xs,()):=by
 obtain ⟨h1,h2⟩:=h;refine ah (k:=xs.length+1) λk hk=>(nx.ae k _).trans ?_
 have:=co (B:=λself v=>nx.b0 self (λz=>nx.q0 (xs,()) z) (xs,()) v) xs (λ(n:Int) (i:Int)=>(n,i)) (λ_ n x=>.inr (n+(List.length x.2.1:Int))) (λn=>(n,())) (λi n=>0<=n/\n<=1048576*(i:Int)) (by rw[aq];omega)
  (λi hi n self hI=>by
   show nx.b0 _ _ _ _=_;unfold nx.b0;have am:(i:Int) < (xs.length:Int):=by omega
   have hx:=(h2 _ (aS hi)).1;simp only[am,aD,aJ,aK,aI,aH,aB hi,aA]
   rw[bf (n:=n+_) (by omega)])
  (λi hi n n' hI hs=>by
   injection hs with hs;have hx:=(h2 _ (aS hi)).1
   omega) (λs self _=>by
   show nx.b0 _ _ _ _=_;unfold nx.b0;simp only[bC,aC,aG]
   rfl) 0 (by omega) k (by omega)
 rw[ic] at this;exact this
def uM (xs:List Tx) (i:Nat) (x:Tx):Int:=if ft x.1 1 99 then (if 0 < i then (match xs[i - 1]? with
    | some y=>if x.1<=y.1 then 1 else xo x
    | none=>1) else xo x) else 3
def A7 (xs:List Tx):Int:=bz (λi (_:Unit) x=>if uM xs i x=0 then .inr () else .inl (uM xs i x)) (λ_=>(0:Int)) 0 xs ()
def flatK (xs:List Tx):List Key:=xs.flatMap λx=>x.2.2.2.1
def BH (xs:List Tx):Bool:=decide (flatK xs).Nodup
def Bq (xs:List Tx):Int:=if 4 < xs.length then 2 else if A7 xs=0 then (if BH xs then (if 12 < yI xs then 2 else 0) else 7) else A7 xs
theorem A8 (xs:List Tx) (h:A7 xs=0):∀ i (hi:i < xs.length),uM xs i xs[i]=0:=by
 have main:∀ (ys:List Tx) (j:Nat),(bz (λi (_:Unit) x=>if uM xs i x=0 then .inr () else .inl (uM xs i x)) (λ_=>(0:Int)) j ys ())=0->∀ i (hi:i < ys.length),uM xs (j+i) ys[i]=0:=by
  intro ys
  induction ys with
  | nil=>intro j _ i hi;simp at hi
  | cons y ys ih=>
   intro j hf i hi;simp only[bz] at hf;by_cases h0:uM xs j y=0
   ·rw[aV h0] at hf
    cases i with
    | zero=>simpa using h0
    | succ i=>
     have:=ih (j+1) hf i (by simpa using hi);rw[show j+(i+1)=j+1+i by omega]
     simpa using this
   ·rw[bB h0] at hf;exact absurd hf h0
 intro i hi;have:=main xs 0 h i hi
 rwa [bE] at this
theorem CS {xs:List Tx} {i:Nat} {x:Tx} (h:uM xs i x=0):1<=x.1/\xo x=0/\∀ y,0 < i->xs[i - 1]?=some y->y.1 < x.1:=by
 unfold uM at h;split at h
 ·rename_i hb;simp only[ft,aE,bM] at hb;split at h
  ·rename_i h0;split at h
   ·rename_i y hy;split at h
    ·cases h
    ·exact ⟨hb.1,h,λz _ hz=>by rw[hy] at hz;injection hz with hz;subst hz;omega⟩
   ·cases h
  ·exact ⟨hb.1,h,λy h0=>by omega⟩
 ·cases h
theorem Tr {xs:List Tx} (h:A7 xs=0):xs.Pairwise λx y=>x.1 < y.1:=by
 rw[eB];intro i j hi hj oE
 have key:∀ d (hd:i+d+1 < xs.length),(xs[i]).1 < (xs[i+d+1]).1:=by
  intro d
  induction d with
  | zero=>
   intro hd;exact (CS (A8 xs h (i+1) hd)).2.2 xs[i] (by omega) (by simp[hi])
  | succ d ih=>
   intro hd;have h1:=ih (by omega);have h2:=(CS (A8 xs h (i+d+1+1) hd)).2.2 xs[i+d+1] (by omega) (by rw[iB];exact aB (by omega));exact Int.lt_trans h1 h2
 have:=key (j - i - 1) (by omega);have e:i+(j - i - 1)+1=j:=by omega
 simpa only [e] using this
theorem NL {ks:List Key} (h:w7 ks=0):ks.Nodup:=by
 have main:∀ (ys:List Key) (j:Nat),(bz (λi (_:Unit) k=>if qH ks i k=0 then .inr () else .inl (qH ks i k)) (λ_=>(0:Int)) j ys ())=0->∀ i (hi:i < ys.length),qH ks (j+i) ys[i]=0:=by
  intro ys
  induction ys with
  | nil=>intro j _ i hi;simp at hi
  | cons y ys ih=>
   intro j hf i hi;simp only[bz] at hf;by_cases h0:qH ks j y=0
   ·rw[aV h0] at hf
    cases i with
    | zero=>simpa using h0
    | succ i=>
     have:=ih (j+1) hf i (by simpa using hi);rw[show j+(i+1)=j+1+i by omega]
     simpa using this
   ·rw[bB h0] at hf;exact absurd hf h0
 rw[jK,eB];intro i j hi hj oE e;have h1:=main ks 0 h j hj;rw[bE] at h1;unfold qH at h1;split at h1
 ·split at h1
  ·cases h1
  ·rename_i hn;refine hn (rp.2 ?_);rw[<-e];exact List.mem_take_iff_getElem.2 ⟨i,by omega,rfl⟩
 ·cases h1
theorem Vs {x:Tx} (h:xo x=0):(x.2.2.2.1:List Key).Nodup:=by
 unfold xo at h;split at h
 ·unfold tN at h;split at h
  ·cases h
  ·split at h
   ·exact NL h
   ·cases h
 ·rename_i hn;exact absurd h hn
end OT
namespace OT
open Go
def Am (xs:List Tx):Bool:=xs.all λx=>x.2.2.2.1.all λk=>decide (qI xs k=x.1)
theorem Vt {xs:List Tx} (hr:xs.Pairwise λx y=>x.1 < y.1) (hn:∀ x ∈ xs,(x.2.2.2.1:List Key).Nodup):Am xs=BH xs:=by
 have main:∀ (xs:List Tx),(xs.Pairwise λx y=>x.1 < y.1)->(∀ x ∈ xs,(x.2.2.2.1:List Key).Nodup)->((∀ x ∈ xs,∀ k ∈ (x.2.2.2.1:List Key),qI xs k=x.1)↔(flatK xs).Nodup):=by
  intro xs
  induction xs with
  | nil=>intro _ _;simp[flatK]
  | cons x xs ih=>
   intro hr hn;obtain ⟨h1,h2⟩:=eC.1 hr;have ih:=ih h2 (λy hy=>hn y (by simp[hy]));have Az:flatK (x::xs)=x.2.2.2.1++flatK xs:=by simp[flatK]
   rw[Az,fX];constructor
   ·intro px
    have hd:∀ y ∈ xs,∀ k ∈ (y.2.2.2.1:List Key),k ∉ (x.2.2.2.1:List Key):=λy hy k hk hx=>by
     have e1:=px y (by simp[hy]) k hk;simp only[qI,rp.2 hx,aI] at e1;have:=h1 y hy;omega
    refine ⟨hn x (by simp),ih.1 λy hy k hk=>?_,λa ha b hb e=>?_⟩
    ·have e1:=px y (by simp[hy]) k hk
     have:jc x.2.2.2.1 k=false:=by
      cases hh:jc x.2.2.2.1 k with
      | false=>rfl
      | true=>exact absurd (rp.1 hh) (hd y hy k hk)
     simp only[qI,this,aF,aL] at e1;exact e1
    ·subst e;obtain ⟨y,hy,hk⟩:=eI.1 hb;exact hd y hy a hk ha
   ·rintro ⟨g1,g2,g3⟩ y hy k hk;rcases aX.1 hy with e | e
    ·subst e;simp only[qI,rp.2 hk,aI]
    ·have hkf:k ∈ flatK xs:=eI.2 ⟨y,e,hk⟩
     have:jc x.2.2.2.1 k=false:=by
      cases hh:jc x.2.2.2.1 k with
      | false=>rfl
      | true=>exact absurd rfl (g3 k (rp.1 hh) k hkf)
     simp only[qI,this,aF,aL];exact ih.2 g2 y e k hk
 have hm:=main xs hr hn;unfold Am BH;rw[fE];simp only[cB,bM];exact hm
theorem MG (xs:List Tx) (h:Fg xs):et.aa (xs,())=some (Am xs,()):=by
 have ht:=h;obtain ⟨h1,h2⟩:=h;refine ah (k:=1048577) λk hk=>(et.ae k _).trans ?_
 have inner:∀ (self:((List Tx)×Int)->Option et.Out) (e0:Unit->Option et.Out) (i:Nat) (hi:i < xs.length),et.r1 k self e0 (xs,()) xs (i:Int) (0:Int)=if (xs[i]).2.2.2.1.any (λy=>!decide (qI xs y=(xs[i]).1)) then some (false,()) else self (xs,af ((i:Int)+1)):=λself e0 i hi=>by
  have htx:=h2 _ (aS hi);have WT:=htx.2.2.1
  have:=d_ (B:=λfj v=>et.b1 fj (λz=>et.q0 self e0 (xs,()) xs (i:Int) z) (xs,()) xs (i:Int) v) (xs[i]).2.2.2.1 (λ(_:Unit) (j:Int)=>j) (λ_ _ y=>if !decide (qI xs y=(xs[i]).1) then .inl (some (false,())) else .inr ()) (λ_=>self (xs,af ((i:Int)+1))) (λ_ _=>True) (by rw[aq];omega)
   (λj hj s fj _=>by
    show et.b1 _ _ _ _ _ _=_;unfold et.b1;have am:(j:Int) < (List.length (xs[i]).2.2.2.1:Int):=by omega
    simp only[aK,aI,aH,aB hi,aA,am,aD,aJ,aB hj,NK xs _ ht]
    cases decide (qI xs ((xs[i]).2.2.2.1)[j]=(xs[i]).1) <;> rfl)
   (λ_ _ _ _ _ _=>trivial) (λs fj _=>by
    show et.b1 _ _ _ _ _ _=_;unfold et.b1;simp only[aK,aI,aH,aB hi,aA,bC,aC,aG]
    rfl) () trivial k (by omega)
  rw[xH] at this;exact this
 have:=co (B:=λself v=>et.B0 k self (λz=>et.q1 (xs,()) z) (xs,()) v) xs (λ(_:Unit) (i:Int)=>(xs,i)) (λ_ _ x=>if x.2.2.2.1.all (λy=>decide (qI xs y=x.1)) then .inr () else .inl (false,())) (λ_=>(true,())) (λ_ _=>True) (by rw[aq];omega)
  (λi hi s self _=>by
   show et.b0 _ _ _ _ _=_;unfold et.b0;have am:(i:Int) < (xs.length:Int):=by omega
   simp only[am,aD,aJ];rw[inner self _ i hi];have:(xs[i]).2.2.2.1.any (λy=>!decide (qI xs y=(xs[i]).1))=!(xs[i]).2.2.2.1.all (λy=>decide (qI xs y=(xs[i]).1)):=by rw[List.not_all_eq_any_not]
   rw[this]
   cases (xs[i]).2.2.2.1.all (λy=>decide (qI xs y=(xs[i]).1)) <;> rfl)
  (λ_ _ _ _ _ _=>trivial) (λs self _=>by
   show et.b0 _ _ _ _ _=_;unfold et.b0;simp only[bC,aC,aG]
   rfl) () trivial k (by omega)
 rw[rP (λ(x:Tx)=>x.2.2.2.1.all (λy=>decide (qI xs y=x.1))) (false,()) (λ_=>(true,()))] at this;refine aU this ?_;unfold Am;cases xs.all λx=>x.2.2.2.1.all (λy=>decide (qI xs y=x.1)) <;> rfl
def gi (S:List Key):List (Key×Bool):=S.map λk=>(k,true)
theorem NM {α:Type} (k:Ty) (e:k.den×α) (m:List (k.den×α)) (x:k.den):jk k (e::m) x=if k.eq x e.1 then some e.2 else jk k m x:=by
 unfold jk;rw[jU];cases k.eq x e.1 <;> rfl
theorem QS {α:Type} (k:Ty) (m:List (k.den×α)) (x:k.den) (y:α) (h:∀ e ∈ m,k.eq x e.1=false):nN k m x y=m++[(x,y)]:=by
 have:m.findIdx? (λe=>k.eq x e.1)=none:=by
  rw[hU];intro e he;exact h e he
 unfold nN;rw[this]
theorem Fh (S:List Key) (k:Key):jk bh (gi S) k=if jc S k then some true else none:=by
 induction S with
 | nil=>rfl
 | cons s S ih=>
  refine (NM bh (s,true) (gi S) k).trans ?_;have hk:bh.eq k (s,true).1=decide (k=s):=CE k s;rw[hk];have hc:jc (s::S) k=(decide (s=k)||jc S k):=rfl;rw[hc];by_cases h:k=s
  ·have h2:s=k:=h.symm;simp[h2]
  ·have h2:¬ s=k:=λe=>h e.symm;simp only[h,h2,aC,dY,aF,aL];exact ih
theorem Vu (S:List Key) (k:Key):zx (jk bh (gi S) k) false=jc S k:=by
 refine aU (dE (λo=>zx o false) (Fh S k)) ?_;cases jc S k <;> rfl
theorem MH {S:List Key} {k:Key} (h:jc S k=false):nN bh (gi S) k true=gi (S++[k]):=by
 refine (QS bh (gi S) k true λe he=>?_).trans ?_
 ·obtain ⟨s,hs,rfl⟩:=fV.1 he;have hk:bh.eq k (s,true).1=decide (k=s):=CE k s;rw[hk];simp only[jc,jM,bM] at h;have:=h s hs;simp only[eZ];exact λe=>this e.symm
 ·simp only[gi,gM,cS,fU];rfl
def getM (m:List (Key×Bool)) (k:Key):Bool:=zx (jk bh m k) false
def sn (m:List (Key×Bool)) (k:Key):List (Key×Bool):=nN bh m k true
def sx:List (Key×Bool)->List Key->Option (List (Key×Bool))
 | m,[]=>some m
 | m,k::ks=>if getM m k then none else sx (sn m k) ks
theorem Fl:∀ (m:List (Key×Bool)) (a b:List Key),sx m (a++b)=(sx m a).bind λm'=>sx m' b
 | m,[],b=>rfl
 | m,k::a,b=>by
  simp only[cO,sx];split
  ·rfl
  ·exact Fl _ a b
theorem JI:∀ (ks S:List Key),S.Nodup->sx (gi S) ks=if (S++ks).Nodup then some (gi (S++ks)) else none
 | [],S,h=>by simp[sx,h]
 | k::ks,S,h=>by
  have hg:getM (gi S) k=jc S k:=Vu S k;simp only[sx,hg]
  cases hh:jc S k with
  | true=>
   have:¬ (S++k::ks).Nodup:=λhn=>by
    rw[fX] at hn;exact hn.2.2 k (rp.1 hh) k (by simp) rfl
   simp[this]
  | false=>
   have hk:k ∉ S:=λhm=>by rw[rp.2 hm] at hh;cases hh
   simp only[aF,aL];have hp:sn (gi S) k=gi (S++[k]):=MH hh;rw[hp,JI ks (S++[k]) (by rw[fX];exact ⟨h,by simp,λa ha b hb e=>by simp at hb;subst hb;subst e;exact hk ha⟩)];simp only[bK,cO,bT]
theorem JJ {O:Type} (bad:Option O) (E:List (Key×Bool)->Option O):∀ (ks:List Key) (i:Nat) (m:List (Key×Bool)),bz (λ_ m k=>if getM m k then .inl bad else .inr (sn m k)) E i ks m=match sx m ks with | none=>bad | some m'=>E m'
 | [],_,_=>rfl
 | k::ks,i,m=>by
  simp only[bz,sx];by_cases h:getM m k=true
  ·simp[h]
  ·simp only[h,aL];exact JJ bad E ks _ _
theorem HO {O:Type} (bad:Option O) (E:Option O):∀ (xs:List Tx) (i:Nat) (m:List (Key×Bool)),bz (λ_ m x=>match sx m x.2.2.2.1 with | none=>.inl bad | some m'=>.inr m') (λ_=>E) i xs m=match sx m (flatK xs) with | none=>bad | some _=>E
 | [],_,_=>rfl
 | x::xs,i,m=>by
  have Az:flatK (x::xs)=x.2.2.2.1++flatK xs:=by simp[flatK]
  rw[Az,Fl];simp only[bz]
  cases h:sx m x.2.2.2.1 with
  | none=>rfl
  | some m'=>
   simp only[aA];exact HO bad E xs _ _
theorem QT (xs:List Tx) (h:Fg xs):cn.aa (xs,())=some (Bq xs,()):=by
 have ht:=h;obtain ⟨h1,h2⟩:=h;refine ah (k:=1048577) λk hk=>(cn.ae k _).trans ?_;unfold cn.p Bq;by_cases h4:4 < xs.length
 ·have:(4:Int) < (xs.length:Int):=by omega
  simp only[this,h4,aD,aJ,aI]
  (try rfl)
 have ZS:¬ (4:Int) < (xs.length:Int):=by omega
 simp only[h4,ZS,aC,aG,aL]
 have last:cn.q2 (xs,()) xs=some (if 12 < yI xs then 2 else 0,()):=by
  show cn.q2 _ _=_;unfold cn.q2;simp only[MF xs ht,aA];by_cases hc:12 < yI xs <;> simp[hc]
 have inner:∀ (self:((List Tx)×(List (Key×Bool))×(List Tx)×Int×Int)->Option cn.Out) (e2:List Tx->Option cn.Out) (i:Nat) (hi:i < xs.length) (m:List (Key×Bool)),cn.r2 k self e2 (xs,()) xs xs (xs.length:Int) (i:Int) (xs[i]).2.2.2.1 (List.length (xs[i]).2.2.2.1:Int) (m,(0:Int))=match sx m (xs[i]).2.2.2.1 with | none=>some ((7:Int),()) | some m'=>self (xs,m',xs,(xs.length:Int),af ((i:Int)+1)):=λself e2 i hi m=>by
  have WT:=(h2 _ (aS hi)).2.2.1
  have:=d_ (B:=λfj v=>cn.b2 fj (λz=>cn.q1 self e2 (xs,()) xs xs (xs.length:Int) (i:Int) (xs[i]).2.2.2.1 (List.length (xs[i]).2.2.2.1:Int) z) (xs,()) xs xs (xs.length:Int) (i:Int) (xs[i]).2.2.2.1 (List.length (xs[i]).2.2.2.1:Int) v) (xs[i]).2.2.2.1 (λ(m:List (Key×Bool)) (j:Int)=>(m,j)) (λ_ m y=>if getM m y then .inl (some ((7:Int),())) else .inr (sn m y)) (λm=>self (xs,m,xs,(xs.length:Int),af ((i:Int)+1))) (λ_ _=>True) (by rw[aq];omega)
   (λj hj s fj _=>by
    show cn.b2 _ _ _ _ _ _ _ _ _ _=_;unfold cn.b2;have am:(j:Int) < (List.length (xs[i]).2.2.2.1:Int):=by omega
    simp only[am,aD,aJ,aK,aI,aH,aB hj,aA];show (bif getM s ((xs[i]).2.2.2.1)[j] then some ((7:Int),()) else fj (sn s ((xs[i]).2.2.2.1)[j],af ((j:Int)+1)))=_
    cases getM s ((xs[i]).2.2.2.1)[j] <;> rfl)
   (λ_ _ _ _ _ _=>trivial) (λs fj _=>by
    show cn.b2 _ _ _ _ _ _ _ _ _ _=_;unfold cn.b2;simp only[bC,aC,aG]
    rfl) m trivial k (by omega)
  rw[JJ] at this;exact this
 have apart:cn.Q0 k (xs,()) ()=some (if BH xs then (if 12 < yI xs then 2 else 0) else 7,()):=by
  have:=d_ (B:=λself v=>cn.B1 k self (λz=>cn.q2 (xs,()) z) (xs,()) v) xs (λ(m:List (Key×Bool)) (i:Int)=>(xs,m,xs,(xs.length:Int),i)) (λ_ m x=>match sx m x.2.2.2.1 with | none=>.inl (some ((7:Int),())) | some m'=>.inr m') (λ_=>some (if 12 < yI xs then 2 else 0,())) (λ_ _=>True) (by rw[aq];omega)
   (λi hi m self _=>by
    show cn.b1 _ _ _ _ _=_;unfold cn.b1;have am:(i:Int) < (xs.length:Int):=by omega
    simp only[am,aD,aJ,aK,aI,aH,aB hi,aA];rw[inner self _ i hi m]
    cases sx m (xs[i]).2.2.2.1 <;> rfl)
   (λ_ _ _ _ _ _=>trivial) (λs self _=>by
    show cn.b1 _ _ _ _ _=_;unfold cn.b1;simp only[bC,aC,aG]
    exact last) (gi []) trivial k (by omega)
  rw[HO,JI _ _ iJ] at this;refine aU this ?_;unfold BH;simp only[bT];by_cases hn:(flatK xs).Nodup <;> simp[hn]
 have:=d_ (B:=λself v=>cn.b0 self (λz=>cn.Q0 k (xs,()) z) (xs,()) v) xs (λ(_:Unit) (i:Int)=>i) (λi _ x=>if uM xs i x=0 then .inr () else .inl (some (uM xs i x,()))) (λ_=>some (if BH xs then (if 12 < yI xs then 2 else 0) else 7,())) (λ_ _=>True) (by rw[aq];omega)
  (λi hi s self _=>by
   show cn.b0 _ _ _ _=_;unfold cn.b0 uM;have am:(i:Int) < (xs.length:Int):=by omega
   simp only[am,aD,aJ,aK,aI,aH,aB hi,aA,OL,QQ _ (h2 _ (aS hi))];show (bif !ft (xs[i]).1 1 99 then _ else _)=_
   cases ft (xs[i]).1 1 99 with
   | false=>rfl
   | true=>
    simp only[aQ,aG,aI];by_cases h0:i=0
    ·subst h0;have hz:¬ (0:Int) < ((0:Nat):Int):=by omega
     simp only[hz,aC,aG,Nat.lt_irrefl,aL];by_cases hc:xo xs[0]=0
     ·simp only[hc,aD,aQ,aG,aI]
     ·simp only[hc,aC,aZ,aJ,aL]
    ·have Hy:i - 1 < xs.length:=by omega
     have hp:(0:Int) < (i:Int):=by omega
     have L9:0 < i:=by omega
     simp only[hp,L9,aD,aJ,Cy (show 0 < i by omega) (by rw[aq];omega),aK,aI,aH,aB Hy,aA];by_cases hle:(xs[i]).1<=(xs[i - 1]).1
     ·simp only[hle,aD,aJ,aI];rfl
     ·simp only[hle,aC,aG,aL];by_cases hc:xo xs[i]=0
      ·simp only[hc,aD,aQ,aG,aI]
      ·simp only[hc,aC,aZ,aJ,aL])
  (λ_ _ _ _ _ _=>trivial) (λs self _=>by
   show cn.b0 _ _ _ _=_;unfold cn.b0;simp only[bC,aC,aG]
   exact apart) () trivial k (by omega)
 rw[zi (uM xs)] at this;refine aU this ?_;unfold A7;split <;> rfl
theorem QU (xs:List Tx) (h:Fg xs):iF.aa (xs,())=some (Bq xs,()):=by
 have ht:=h;obtain ⟨h1,h2⟩:=h;refine ah (k:=1048577) λk hk=>(iF.ae k _).trans ?_;unfold iF.p Bq;by_cases h4:4 < xs.length
 ·have:(4:Int) < (xs.length:Int):=by omega
  simp only[this,h4,aD,aJ,aI]
  (try rfl)
 have ZS:¬ (4:Int) < (xs.length:Int):=by omega
 simp only[h4,ZS,aC,aG,aL]
 have last:iF.q0 (xs,()) ()=some (if Am xs then (if 12 < yI xs then 2 else 0) else 7,()):=by
  show iF.q0 _ _=_;unfold iF.q0;simp only[MG xs ht,ME xs ht,aA]
  cases Am xs with
  | false=>rfl
  | true=>by_cases hc:12 < yI xs <;> simp[hc]
 have:=d_ (B:=λself v=>iF.b0 self (λz=>iF.q0 (xs,()) z) (xs,()) v) xs (λ(_:Unit) (i:Int)=>i) (λi _ x=>if uM xs i x=0 then .inr () else .inl (some (uM xs i x,()))) (λ_=>some (if Am xs then (if 12 < yI xs then 2 else 0) else 7,())) (λ_ _=>True) (by rw[aq];omega)
  (λi hi s self _=>by
   show iF.b0 _ _ _ _=_;unfold iF.b0 uM;have am:(i:Int) < (xs.length:Int):=by omega
   simp only[am,aD,aJ,aK,aI,aH,aB hi,aA,nM,Nz _ (h2 _ (aS hi)),Mj _ (h2 _ (aS hi))]
   have hj:(bif !decide (AT xs[i]=0) then some (AT xs[i],()) else bif !decide (tN xs[i]=0) then some (tN xs[i],()) else self (af ((i:Int)+1)))=match (generalizing:=false) (if xo xs[i]=0 then .inr () else .inl (some (xo xs[i],())):Sum (Option (Int×Unit)) Unit) with | .inl o=>o | .inr _=>self (af ((i:Int)+1)):=by
    unfold xo;by_cases hu:AT xs[i]=0
    ·simp only[hu,aD,aQ,aG,aI];by_cases hm:tN xs[i]=0
     ·simp only[hm,aD,aQ,aG,aI]
     ·simp only[hm,aC,aZ,aJ,aL]
    ·simp only[hu,aC,aZ,aJ,aL]
   show (bif !ft (xs[i]).1 1 99 then _ else _)=_
   cases ft (xs[i]).1 1 99 with
   | false=>rfl
   | true=>
    simp only[aQ,aG,aI];by_cases h0:i=0
    ·subst h0;have hz:¬ (0:Int) < ((0:Nat):Int):=by omega
     simp only[hz,aC,aG,Nat.lt_irrefl,aL];refine hj.trans ?_;by_cases hc:xo xs[0]=0 <;> simp only[hc,aI,aL]
    ·have Hy:i - 1 < xs.length:=by omega
     have hp:(0:Int) < (i:Int):=by omega
     have L9:0 < i:=by omega
     simp only[hp,L9,aD,aJ,Cy (show 0 < i by omega) (by rw[aq];omega),aK,aI,aH,aB Hy,aA];by_cases hle:(xs[i]).1<=(xs[i - 1]).1
     ·simp only[hle,aD,aJ,aI];rfl
     ·simp only[hle,aC,aG,aL];refine hj.trans ?_
      by_cases hc:xo xs[i]=0 <;> simp only[hc,aI,aL])
  (λ_ _ _ _ _ _=>trivial) (λs self _=>by
   show iF.b0 _ _ _ _=_;unfold iF.b0;simp only[bC,aC,aG]
   exact last) () trivial k (by omega)
 rw[zi (uM xs)] at this;refine aU this ?_;show (if A7 xs=0 then _ else some (A7 xs,()))=_;by_cases he:A7 xs=0
 ·rw[aV he,aV he,Vt (Tr he) (λx hx=>by
   obtain ⟨i,hi,rfl⟩:=dC.1 hx
   exact Vs (CS (A8 xs he i hi)).2.1)]
 ·rw[bB he,bB he]
end OT
namespace OT
open Go
def dd (S:List Key) (ks:List Key):List Key:=ks.foldl (λS k=>if jc S k then S else S++[k]) S
def uh (rows:List Row):List Key:=rows.map λr=>(r.1,r.2.1,())
def xi (rows:List Row) (xs:List Tx):List Key:=uh rows++flatK xs
theorem NN {α:Type} (k:Ty) (m:List (k.den×α)) (x:k.den) (y:α) {i:Nat} (h:m.findIdx? (λe=>k.eq x e.1)=some i):nN k m x y=m.set i (x,y):=by
 unfold nN;rw[h]
theorem Ts {S:List Key} {k:Key} (h:jc S k=true):sn (gi S) k=gi S:=by
 have key:∀ (S:List Key) (i:Nat),(gi S).findIdx? (λe=>Ty.eq bh k e.1)=some i->(gi S)[i]?=some (k,true):=by
  intro S i hi;have h1:=fP.1 hi;have am:i < (gi S).length:=h1.1;have h2:(gi S).findIdx (λe=>Ty.eq bh k e.1) < (gi S).length:=by rw[h1.2];exact am
  have h3:=List.findIdx_getElem (xs:=gi S) (p:=λe=>Ty.eq bh k e.1) (w:=h2);simp only[h1.2] at h3;have h4:Ty.eq bh k (gi S)[i].1=decide (k=(gi S)[i].1):=CE k _;have h3:Ty.eq bh k (gi S)[i].1=true:=h3;rw[h4,bM] at h3;rw[aB am];have h5:(gi S)[i]=((gi S)[i].1,true):=by simp[gi]
  rw[h5,<- h3]
 show nN bh (gi S) k true=gi S
 cases hf:(gi S).findIdx? (λe=>Ty.eq bh k e.1) with
 | none=>
  exfalso
  have h1:jk bh (gi S) k=none:=by
   unfold jk;have h2:=hU.1 hf;have:(gi S).find? (λe=>Ty.eq bh k e.1)=none:=List.find?_eq_none.2 λe he=>by rw[h2 e he];simp
   exact dE _ this
  have h2:=Fh S k;rw[h] at h2;exact absurd (h1.symm.trans h2) (by simp)
 | some i=>
  have h1:=key S i hf;have am:=(aM.1 h1).1;refine (NN bh (gi S) k true hf).trans ?_;show (gi S).set i (k,true)=gi S;have:(gi S)[i]=(k,true):=(aM.1 h1).2;rw[<-this];exact List.set_getElem_self am
theorem Vv (S:List Key) (k:Key):sn (gi S) k=gi (if jc S k then S else S++[k]):=by
 cases h:jc S k with
 | true=>simp only[aI];exact Ts h
 | false=>simp only[aF,aL];exact MH h
theorem O3:∀ (ks S:List Key),ks.foldl sn (gi S)=gi (dd S ks)
 | [],S=>rfl
 | k::ks,S=>by
  rw[eG,Vv,O3 ks];rfl
theorem Tt (S a b:List Key):dd S (a++b)=dd (dd S a) b:=iK
theorem Tu:∀ (ks S:List Key),S.length<=(dd S ks).length
 | [],S=>aN _
 | x::ks,S=>by
  refine bO ?_ (Tu ks (if jc S x then S else S++[x]));split
  ·exact aN _
  ·simp
theorem MI:∀ (ks S:List Key),(S++ks).Nodup->dd S ks=S++ks
 | [],S,_=>by simp[dd]
 | x::ks,S,h=>by
  have hx:jc S x=false:=by
   cases hh:jc S x with
   | false=>rfl
   | true=>
    rw[fX] at h;exact absurd rfl (h.2.2 x (rp.1 hh) x (by simp))
  show dd (if jc S x then S else S++[x]) ks=_;rw[hx];simp only[aF,aL];rw[MI ks (S++[x]) (by simpa using h)];simp
theorem NO {rows:List Row} (h:up rows):(uh rows).Nodup:=by
 unfold uh;rw[jK,gT];refine h.imp λ{a b} Jv e=>?_
 have:rk a=rk b:=by
  simp only[bS,eE] at e;exact Prod.ext e.1 e.2
 rw[this,ju] at Jv;cases Jv
theorem JK {rows:List Row} {xs:List Tx} (h:up rows):rows.length<=(dd [] (xi rows xs)).length:=by
 unfold xi;rw[Tt,MI (uh rows) [] (by simpa using NO h)];refine bO ?_ (Tu _ _);simp[uh]
def En:List Key->List Key->Nat
 | _,[]=>0
 | S,k::ks=>(if jc S k then 0 else 1)+En (S++[k]) ks
theorem IS:∀ (ks S T:List Key),(∀ k,k ∈ S↔k ∈ T)->(dd S ks).length=S.length+En T ks
 | [],S,T,_=>rfl
 | x::ks,S,T,h=>by
  have hx:jc S x=jc T x:=by rw[fE,rp,rp];exact h x
  show (dd (if jc S x then S else S++[x]) ks).length=_;simp only[En,<- hx]
  cases hh:jc S x with
  | true=>
   simp only[aI];rw[IS ks S (T++[x]) λk=>?_]
   ·omega
   ·simp only[cJ,bR,<- h k];constructor
    ·exact .inl
    ·rintro (h1 | h1)
     ·exact h1
     ·subst h1;exact rp.1 hh
  | false=>
   simp only[aF,aL];rw[IS ks (S++[x]) (T++[x]) λk=>by simp only[cJ,h k]];simp only[aR,aO,bA];omega
def xT (rows:List Row) (xs:List Tx):Nat:=(dd [] (xi rows xs)).length
theorem Tv (rows:List Row) (xs:List Tx) (hr:rows.length<=1048576) (h:Fg xs):d8.aa (rows,xs,())=some (gi (dd [] (xi rows xs)),()):=by
 obtain ⟨h1,h2⟩:=h;refine ah (k:=1048577) λk hk=>(d8.ae k _).trans ?_
 have inner:∀ (self:((List (Key×Bool))×(List Tx)×Int×Int)->Option d8.Out) (e2:(List (Key×Bool))->Option d8.Out) (i:Nat) (hi:i < xs.length) (m:List (Key×Bool)),d8.r2 k self e2 (rows,xs,()) xs (xs.length:Int) (i:Int) (xs[i]).2.2.2.1 (List.length (xs[i]).2.2.2.1:Int) (m,(0:Int))=self ((xs[i]).2.2.2.1.foldl sn m,xs,(xs.length:Int),af ((i:Int)+1)):=λself e2 i hi m=>by
  have WT:=(h2 _ (aS hi)).2.2.1
  have:=d_ (B:=λfj v=>d8.b2 fj (λz=>d8.q1 self e2 (rows,xs,()) xs (xs.length:Int) (i:Int) (xs[i]).2.2.2.1 (List.length (xs[i]).2.2.2.1:Int) z) (rows,xs,()) xs (xs.length:Int) (i:Int) (xs[i]).2.2.2.1 (List.length (xs[i]).2.2.2.1:Int) v) (xs[i]).2.2.2.1 (λ(m:List (Key×Bool)) (j:Int)=>(m,j)) (λ_ m y=>.inr (sn m y)) (λm=>self (m,xs,(xs.length:Int),af ((i:Int)+1))) (λ_ _=>True) (by rw[aq];omega)
   (λj hj s fj _=>by
    show d8.b2 _ _ _ _ _ _ _ _ _=_;unfold d8.b2;have am:(j:Int) < (List.length (xs[i]).2.2.2.1:Int):=by omega
    simp only[am,aD,aJ,aK,aI,aH,aB hj,aA]
    rfl)
   (λ_ _ _ _ _ _=>trivial) (λs fj _=>by
    show d8.b2 _ _ _ _ _ _ _ _ _=_;unfold d8.b2;simp only[bC,aC,aG]
    rfl) m trivial k (by omega)
  rw[ic (g:=sn)] at this;exact this
 have second:∀ m,d8.r1 k (rows,xs,()) (m,xs,(xs.length:Int),(0:Int))=some ((flatK xs).foldl sn m,()):=λm=>by
  have:=co (B:=λself v=>d8.B1 k self (λz=>d8.q2 (rows,xs,()) z) (rows,xs,()) v) xs (λ(m:List (Key×Bool)) (i:Int)=>(m,xs,(xs.length:Int),i)) (λ_ m x=>.inr (x.2.2.2.1.foldl sn m)) (λm=>(m,())) (λ_ _=>True) (by rw[aq];omega)
   (λi hi m self _=>by
    show d8.b1 _ _ _ _ _=_;unfold d8.b1;have am:(i:Int) < (xs.length:Int):=by omega
    simp only[am,aD,aJ,aK,aI,aH,aB hi,aA]
    exact inner self _ i hi m)
   (λ_ _ _ _ _ _=>trivial) (λs self _=>by
    show d8.b1 _ _ _ _ _=_;unfold d8.b1;simp only[bC,aC,aG]
    rfl) m trivial k (by omega)
  rw[ic (g:=λm (x:Tx)=>x.2.2.2.1.foldl sn m)] at this;refine aU this ?_
  have:∀ (xs:List Tx) (m:List (Key×Bool)),xs.foldl (λm (x:Tx)=>x.2.2.2.1.foldl sn m) m=(flatK xs).foldl sn m:=by
   intro xs
   induction xs with
   | nil=>intro m;rfl
   | cons x xs ih=>intro m;rw[eG,ih];simp[flatK,iK]
  rw[this]
 have:=d_ (B:=λself v=>d8.b0 self (λz=>d8.Q0 k (rows,xs,()) z) (rows,xs,()) v) rows (λ(m:List (Key×Bool)) (i:Int)=>(m,i)) (λ_ m r=>.inr (sn m (r.1,r.2.1,()))) (λm=>some ((flatK xs).foldl sn m,())) (λ_ _=>True) (by rw[aq];omega)
  (λi hi m self _=>by
   show d8.b0 _ _ _ _=_;unfold d8.b0;have am:(i:Int) < (rows.length:Int):=by omega
   simp only[am,aD,aJ,aK,aI,aH,aB hi,aA]
   rfl)
  (λ_ _ _ _ _ _=>trivial) (λs self _=>by
   show d8.b0 _ _ _ _=_;unfold d8.b0;simp only[bC,aC,aG]
   exact second s) (gi []) trivial k (by omega)
 rw[ic (g:=λm (r:Row)=>sn m (r.1,r.2.1,()))] at this;refine aU this ?_;have e1:rows.foldl (λm (r:Row)=>sn m (r.1,r.2.1,())) (gi [])=(uh rows).foldl sn (gi []):=by unfold uh;rw[List.foldl_map]
 rw[e1,<- iK];exact dE (λm=>some (m,())) (O3 (xi rows xs) [])
theorem Fm {O:Type} (x:Key) (E:Bool->Option O):∀ (ys:List Key) (j:Nat) (b:Bool),bz (λ_ b y=>if b then .inr (!decide (y=x)) else .inl (E false)) E j ys b=if b then E (!jc ys x) else E false
 | [],_,b=>by cases b <;> rfl
 | y::ys,j,b=>by
  cases b with
  | false=>simp[bz]
  | true=>
   simp only[bz,aI];rw[Fm x E ys];have:jc (y::ys) x=(decide (y=x)||jc ys x):=rfl;rw[this];cases decide (y=x) <;> simp
theorem MJ {O:Type} (all:List Key) (E:Int->O):∀ (ys pre:List Key) (n:Int),all=pre++ys->bz (λi n x=>.inr (if jc (all.take i) x then n else n+1)) E pre.length ys n=E (n+(En pre ys:Int))
 | [],pre,n,_=>by simp[bz,En]
 | y::ys,pre,n,h=>by
  simp only[bz];have ht:all.take pre.length=pre:=by rw[h];simp
  rw[ht];have:=MJ all E ys (pre++[y]) (if jc pre y then n else n+1) (by rw[h];simp);rw[aR] at this;refine aU this ?_;congr 1;simp only[En];cases jc pre y <;> simp <;> omega
def JL (k:Key):List Key:=if k.2.1=0 then [] else [k]
def QV (rows:List Row) (xs:List Tx) (k:Key):Nat:=(dd [] (xi rows xs++JL k)).length
theorem MK (rows:List Row) (xs:List Tx) (kk:Key) (hr:rows.length<=1048576) (hx:xs.length<=1000) (h:∀ x ∈ xs,List.length x.2.2.2.1<=1000):bY.aa (rows,xs,kk,())=some ((QV rows xs kk:Int),()):=by
 refine ah (k:=3000000) λk hk=>(bY.ae k _).trans ?_
 have Az:(flatK xs).length<=1000*xs.length:=by
  clear hx
  induction xs with
  | nil=>simp[flatK]
  | cons x xs ih=>
   have h1:=h x (by simp);have h2:=ih λy hy=>h y (by simp[hy]);have:flatK (x::xs)=x.2.2.2.1++flatK xs:=by simp[flatK]
   rw[this,aR,aO];omega
 have QR:∀ all:List Key,all.length<=2100000->bY.r2 k (rows,xs,kk,()) (all,(0:Int),(0:Int))=some ((En [] all:Int),()):=λall px=>by
  have inner:∀ (self:((List Key)×Int×Int)->Option bY.Out) (e4:Int->Option bY.Out) (i:Nat) (hi:i < all.length) (n:Int),bY.r3 k self e4 (rows,xs,kk,()) all n (i:Int) (true,(0:Int))=if jc (all.take i) all[i] then self (all,n,af ((i:Int)+1)) else self (all,af (n+1),af ((i:Int)+1)):=λself e4 i hi n=>by
   have kq:(all.take i).length=i:=by simp;omega
   have:=d_ (B:=λfj v=>bY.b3 fj (λz=>bY.q2 self e4 (rows,xs,kk,()) all n (i:Int) z) (rows,xs,kk,()) all n (i:Int) v) (all.take i) (λ(b:Bool) (j:Int)=>(b,j)) (λ_ b y=>if b then .inr (!decide (y=all[i])) else .inl (if false then self (all,af (n+1),af ((i:Int)+1)) else self (all,n,af ((i:Int)+1)))) (λb=>if b then self (all,af (n+1),af ((i:Int)+1)) else self (all,n,af ((i:Int)+1))) (λ_ _=>True) (by rw[aq];omega)
    (λj hj b fj _=>by
     show bY.b3 _ _ _ _ _ _ _=_;unfold bY.b3;rw[kq] at hj;have am:(j:Int) < (i:Int):=by omega
     have Oz:j < all.length:=by omega
     have c1:(0:Int)<=(j:Int)/\(j:Int) < (all.length:Int):=by omega
     have c2:(0:Int)<=(i:Int)/\(i:Int) < (all.length:Int):=by omega
     simp only[am,c1,c2,cQ,aD,aJ,aI,aH,aB Oz,aB hi,aA,CE,gS]
     cases b <;> rfl)
    (λ_ _ _ _ _ _=>trivial) (λb fj _=>by
     show bY.b3 _ _ _ _ _ _ _=_;unfold bY.b3;simp only[kq,bC,aC,aG]
     cases b <;> rfl) true trivial k (by omega)
   have e:=Fm all[i] (λb=>if b then self (all,af (n+1),af ((i:Int)+1)) else self (all,n,af ((i:Int)+1))) (all.take i) 0 true;refine (aU this e).trans ?_;cases jc (all.take i) all[i] <;> rfl
  have:=co (B:=λself v=>bY.B2 k self (λz=>bY.q3 (rows,xs,kk,()) z) (rows,xs,kk,()) v) all (λ(n:Int) (i:Int)=>(all,n,i)) (λi n x=>.inr (if jc (all.take i) x then n else n+1)) (λn=>(n,())) (λi n=>0<=n/\n<=(i:Int)) (by rw[aq];omega)
   (λi hi n self hI=>by
    show bY.b2 _ _ _ _ _=_;unfold bY.b2;have am:(i:Int) < (all.length:Int):=by omega
    simp only[am,aD,aJ];rw[inner self _ i hi n,bf (n:=n+1) (by omega)]
    cases jc (all.take i) all[i] <;> rfl)
   (λi hi n n' hI hs=>by
    injection hs with hs;rw[<-hs]
    split <;> omega) (λs self _=>by
    show bY.b2 _ _ _ _ _=_;unfold bY.b2;simp only[bC,aC,aG]
    rfl) 0 (by omega) k (by omega)
  have e:=MJ all (λn=>(n,())) all [] 0 rfl;refine (aU this (dE some e)).trans ?_;rw[Int.zero_add]
 have second:bY.r1 k (rows,xs,kk,()) (uh rows,(0:Int))=some ((En [] (xi rows xs++JL kk):Int),()):=by
  have v7:(uh rows).length=rows.length:=by simp[uh]
  have:=d_ (B:=λself v=>bY.b1 self (λz=>bY.Q1 k (rows,xs,kk,()) z) (rows,xs,kk,()) v) xs (λ(s:List Key) (i:Int)=>(s,i)) (λ_ s x=>.inr (s++x.2.2.2.1)) (λs=>bY.r2 k (rows,xs,kk,()) (s++JL kk,(0:Int),(0:Int))) (λi s=>s.length<=1048576+1000*i) (by rw[aq];omega)
   (λi hi s self hI=>by
    show bY.b1 _ _ _ _=_;unfold bY.b1;have am:(i:Int) < (xs.length:Int):=by omega
    have WT:=h _ (aS hi);have hc:s.length+List.length (xs[i]).2.2.2.1<=cc:=dh (by omega)
    simp only[am,aD,aJ,aK,aI,aH,aB hi,aA,hc])
   (λi hi s s' hI hs=>by
    injection hs with hs;have WT:=h _ (aS hi)
    rw[<-hs,aR];omega) (λs self hI=>by
    show bY.b1 _ _ _ _=_;unfold bY.b1;simp only[bC,aC,aG];show bY.q1 _ _ _=_;unfold bY.q1 JL;have hc:s.length+[kk].length<=cc:=dh (by simp only[aO,bA];omega);by_cases h0:kk.2.1=0
    ·simp only[h0,aD,aQ,aG,aI,cD]
    ·simp only[h0,aC,aZ,aJ,aL,hc,aI]) (uh rows) (by omega) k (by omega)
  rw[ic (g:=λs (x:Tx)=>s++x.2.2.2.1)] at this;refine aU this ?_
  have e:∀ (xs:List Tx) (s:List Key),xs.foldl (λs (x:Tx)=>s++x.2.2.2.1) s=s++flatK xs:=by
   intro xs
   induction xs with
   | nil=>intro s;simp[flatK]
   | cons x xs ih=>intro s;rw[eG,ih];simp[flatK]
  rw[e];have hex:(JL kk).length<=1:=by unfold JL;split <;> simp
  exact QR _ (by rw[aR,aR,v7];omega)
 have:=d_ (B:=λself v=>bY.b0 self (λz=>bY.Q0 k (rows,xs,kk,()) z) (rows,xs,kk,()) v) rows (λ(s:List Key) (i:Int)=>(s,i)) (λ_ s r=>.inr (s++[(r.1,r.2.1,())])) (λs=>bY.r1 k (rows,xs,kk,()) (s,(0:Int))) (λi s=>s.length=i) (by rw[aq];omega)
  (λi hi s self hI=>by
   show bY.b0 _ _ _ _=_;unfold bY.b0;have am:(i:Int) < (rows.length:Int):=by omega
   have hc:s.length+[((rows[i]).1,(rows[i]).2.1,())].length<=cc:=dh (by simp only[aO,bA];omega);simp only[am,aD,aJ,aK,aI,aH,aB hi,aA]
   rw[aV hc])
  (λi hi s s' hI hs=>by injection hs with hs;rw[<-hs];simp[hI]) (λs self _=>by
   show bY.b0 _ _ _ _=_;unfold bY.b0;simp only[bC,aC,aG]
   rfl) [] rfl k (by omega)
 rw[ic (g:=λs (r:Row)=>s++[(r.1,r.2.1,())])] at this
 have e:∀ (rows:List Row) (s:List Key),rows.foldl (λs (r:Row)=>s++[(r.1,r.2.1,())]) s=s++uh rows:=by
  intro rows
  induction rows with
  | nil=>intro s;simp[uh]
  | cons r rows ih=>intro s;rw[eG,ih];simp[uh]
 rw[e,bT,second] at this;refine aU this ?_;have:=IS (xi rows xs++JL kk) [] [] (λ_=>jX);simp only[bA,bE] at this;unfold QV;rw[this]
theorem NP (rows:List Row) (xs:List Tx) (hr:rows.length<=1048576) (hx:xs.length<=1000) (h:∀ x ∈ xs,List.length x.2.2.2.1<=1000):bY.aa (rows,xs,((0:Int),(0:Int),()),())=some ((xT rows xs:Int),()):=by
 rw[MK rows xs _ hr hx h];unfold QV JL;simp only[aI,cD];rfl
theorem Tw {ks:List Key} (h:w7 ks=0):∀ k ∈ ks,xQ k=true:=by
 have main:∀ (ys:List Key) (j:Nat),(bz (λi (_:Unit) k=>if qH ks i k=0 then .inr () else .inl (qH ks i k)) (λ_=>(0:Int)) j ys ())=0->∀ y ∈ ys,xQ y=true:=by
  intro ys
  induction ys with
  | nil=>intro j _ y hy;cases hy
  | cons y ys ih=>
   intro j hf z hz;simp only[bz] at hf;by_cases h0:qH ks j y=0
   ·rw[aV h0] at hf;rcases aX.1 hz with rfl | hz
    ·unfold qH at h0;split at h0
     ·assumption
     ·cases h0
    ·exact ih (j+1) hf z hz
   ·rw[bB h0] at hf;exact absurd hf h0
 exact main ks 0 h
structure QW (xs:List Tx):Prop where
 len:xs.length<=4
 ch:∀ x ∈ xs,∀ c ∈ (x.2.1:List Change),ug c=0
 aa1:∀ x ∈ xs,List.length x.2.2.2.1<=12
 QX:∀ x ∈ xs,List.length x.2.1<=12
 keys:∀ x ∈ xs,∀ k ∈ (x.2.2.2.1:List Key),xQ k=true
theorem Fo {α:Type} {c:α->Int}:∀ {xs:List α},ox c xs=0->∀ x ∈ xs,c x=0
 | [],_,_,h=>by cases h
 | y::ys,h,x,hx=>by
  simp only[ox] at h;split at h
  ·rcases aX.1 hx with e | e
   ·subst e;assumption
   ·exact Fo h x e
  ·rename_i hn;exact absurd h hn
theorem O4:∀ (xs:List Tx) (n:Int),0<=n->n<=xs.foldl (λn x=>n+(List.length x.2.1:Int)) n/\∀ x ∈ xs,(List.length x.2.1:Int)<=xs.foldl (λn x=>n+(List.length x.2.1:Int)) n
 | [],n,h=>⟨fW _,λx hx=>by cases hx⟩
 | y::ys,n,h=>by
  obtain ⟨h1,h2⟩:=O4 ys (n+(List.length y.2.1:Int)) (by omega);simp only[eG];refine ⟨by omega,λx hx=>?_⟩
  rcases aX.1 hx with e | e
  ·subst e;omega
  ·exact h2 x e
theorem Tz {xs:List Tx} (h:Bq xs=0):QW xs:=by
 unfold Bq at h;split at h
 ·cases h
 ·rename_i hl;split at h
  ·rename_i he;split at h
   ·split at h
    ·cases h
    ·rename_i hc
     have each:∀ x ∈ xs,xo x=0:=λx hx=>by
      obtain ⟨i,hi,rfl⟩:=dC.1 hx;exact (CS (A8 xs he i hi)).2.1
     refine ⟨by omega,λx hx c hcm=>?_,λx hx=>?_,λx hx=>?_,λx hx=>?_⟩
     ·have h1:=each x hx;unfold xo at h1;split at h1
      ·rename_i hu;have h2:=Fo hu c hcm;unfold xR at h2;split at h2
       ·rename_i hs;unfold wX at hs;split at hs
        ·assumption
        ·rename_i hn;exact absurd hs hn
       ·rename_i hn;exact absurd h2 hn
      ·rename_i hn;exact absurd h1 hn
     ·have h1:=each x hx;unfold xo at h1;split at h1
      ·unfold tN at h1;split at h1
       ·cases h1
       ·rename_i hm;simp only[cY,bM,not_or] at hm;omega
      ·rename_i hn;exact absurd h1 hn
     ·have:=(O4 xs 0 (fW _)).2 x hx;unfold yI at hc;omega
     ·have h1:=each x hx;unfold xo at h1;split at h1
      ·unfold tN at h1;split at h1
       ·cases h1
       ·split at h1
        ·exact Tw h1
        ·cases h1
      ·rename_i hn;exact absurd h1 hn
   ·cases h
  ·rename_i hn;exact absurd h hn
end OT
namespace OT
open Go
def Eo (c:Change):Change:=(c.2.2.1,c.2.2.2.1,c.1,c.2.1,())
def oY (cs:List Change):List Change:=cs.reverse.map Eo
theorem ER (cs:List Change):(oY cs).length=cs.length:=by simp[oY]
theorem O5 {cs:List Change} {c:Change} (h:c ∈ oY cs):∃ d ∈ cs,c=Eo d:=by
 unfold oY at h;obtain ⟨d,h1,h2⟩:=fV.1 h;exact ⟨d,List.mem_reverse.1 h1,h2.symm⟩
theorem ML (a b:Row):sameKey a b=sameKey b a:=by
 rw[Cz,Cz];by_cases h:rk a=rk b
 ·simp[h]
 ·have:¬ rk b=rk a:=λe=>h e.symm;simp[h,this]
theorem XN {c:Change} (h:ug c=0):ug (Eo c)=0:=by
 obtain ⟨a,ra,b,rb,⟨⟩⟩:=c;unfold ug at h ⊢;simp only[Eo];have hk:=ML ra rb;cases a <;> cases b
 ·exact h
 ·simp at h ⊢;by_cases hr:oh rb=0
  ·exact λ_=>hr
  ·simp[hr] at h
 ·simp at h ⊢;by_cases hr:oh ra=0
  ·exact hr
  ·simp[hr] at h
 ·simp only[hk] at h;by_cases hs:sameKey rb ra=true
  ·by_cases hr:oh ra=0
   ·by_cases hb:oh rb=0
    ·simp[hs,hr,hb] at h ⊢
     try omega
    ·simp[hs,hr,hb] at h ⊢
   ·by_cases hb:oh rb=0
    ·simp[hs,hr,hb] at h ⊢
    ·simp[hs,hr,hb] at h ⊢
  ·simp[hs] at h
theorem Ep (cs:List Change) (hl:cs.length<=1048576) {O:Type} {B:((List Change×Int)->Option O)->(List Change×Int)->Option O} {E:List Change->Option O}
  (gg:∀ (m:Nat) (hm:m < cs.length) acc self,acc.length<=1048576->B self (acc,(m:Int))=self (acc++[Eo cs[m]],af ((m:Int) - 1))) (kf:∀ acc self,B self (acc,(-1:Int))=E acc) :
  ∀ k,cs.length < k->ak B k ([],af ((cs.length:Int) - 1))=E (oY cs):=by
 have main:∀ (m:Nat) (acc:List Change),m<=cs.length->acc.length+m<=cs.length->∀ k,m < k->ak B k (acc,(m:Int) - 1)=E (acc++(cs.take m).reverse.map Eo):=by
  intro m
  induction m with
  | zero=>
   intro acc _ _ k hk
   cases k with
   | zero=>omega
   | succ k=>
    show B (ak B k) _=_;have:((0:Nat):Int) - 1=-1:=by omega
    rw[this,kf];simp
  | succ m ih=>
   intro acc hm ha k hk
   cases k with
   | zero=>omega
   | succ k=>
    show B (ak B k) _=_;have e:((m+1:Nat):Int) - 1=(m:Int):=by omega
    rw[e,gg m (by omega) acc _ (by omega),bf (by omega),ih _ (by omega) (by simp;omega) k (by omega),eM (by omega),List.reverse_append,gM,bK];rfl
 intro k hk;have:=main cs.length [] (aN _) (by simp) k hk;rw[bf (by omega)]
 simpa [oY] using this
theorem QY (cs:List Change) (hl:cs.length<=1048576):ku.aa (cs,())=some (oY cs,()):=by
 refine ah (k:=cs.length+1) λk hk=>(ku.ae k _).trans ?_;refine Ep cs hl (B:=λself v=>ku.b0 self (λz=>ku.q0 (cs,()) z) (cs,()) v) (E:=λz=>some (z,())) (λm hm acc self ha=>?_) (λacc self=>?_) k (by omega)
 ·show ku.b0 _ _ _ _=_;unfold ku.b0;have hc:acc.length+[Eo cs[m]].length<=cc:=dh (by simp only[aO,bA];omega);simp only[aK,aD,aJ,aI,aH,aB hm,aA];exact aV hc
 ·show ku.b0 _ _ _ _=_;unfold ku.b0;rfl
theorem QZ (cs:List Change) (hl:cs.length<=1048576):mF.aa (cs,())=some (oY cs,()):=by
 refine ah (k:=cs.length+1) λk hk=>(mF.ae k _).trans ?_;refine Ep cs hl (B:=λself v=>mF.b0 self (λz=>mF.q0 (cs,()) z) (cs,()) v) (E:=λz=>some (z,())) (λm hm acc self ha=>?_) (λacc self=>?_) k (by omega)
 ·show mF.b0 _ _ _ _=_;unfold mF.b0;have hc:acc.length+[Eo cs[m]].length<=cc:=dh (by simp only[aO,bA];omega);simp only[aK,aD,aJ,aI,aH,aB hm,aA];exact aV hc
 ·show mF.b0 _ _ _ _=_;unfold mF.b0;rfl
def mt:List Row->List Change->Option (List Row)
 | s,[]=>some s
 | s,c::cs=>if vL s c then mt (tm s c) cs else none
theorem back_append:∀ (a b:List Change) (s:List Row),mt s (a++b)=(mt s a).bind λt=>mt t b
 | [],b,s=>rfl
 | c::a,b,s=>by
  simp only[cO,mt];split
  ·exact back_append a b _
  ·rfl
theorem JM {O:Type} (bad:O) (fin:List Row->O):∀ (cs:List Change) (i:Nat) (s:List Row),bz (λ_ s c=>if vL s c then .inr (tm s c) else .inl bad) fin i cs s=match mt s cs with | some t=>fin t | none=>bad
 | [],_,_=>rfl
 | c::cs,i,s=>by
  simp only[bz,mt];by_cases h:vL s c=true
  ·simp only[h,aI];exact JM bad fin cs _ _
  ·simp[h]
theorem Er:∀ (cs:List Change) (s t:List Row),Good s->(∀ c ∈ cs,ug c=0)->mt s cs=some t->Good t/\t.length<=s.length+cs.length
 | [],s,t,h,_,hb=>by injection hb with hb;subst hb;exact ⟨h,by simp⟩
 | c::cs,s,t,h,hc,hb=>by
  simp only[mt] at hb;split at hb
  ·have h1:=Er cs (tm s c) t (AS h (hc c (by simp))) (λd hd=>hc d (by simp[hd])) hb;have h2:=CC s c;exact ⟨h1.1,by simp only[aO];omega⟩
  ·cases hb
theorem MM {O α:Type} {f:Nat->Unit->α->Sum O Unit} {fin:Unit->O}:∀ (xs:List α) (j:Nat),(∀ i (hi:i < xs.length),f (j+i) () xs[i]=.inr ())->bz f fin j xs ()=fin ()
 | [],_,_=>rfl
 | x::xs,j,h=>by
  have h0:=h 0 (by simp);simp only[dG,List.getElem_cons_zero] at h0;simp only[bz,h0]
  exact MM xs (j+1) λi hi=>by
   have:=h (i+1) (by simp;omega);rw[show j+1+i=j+(i+1) by omega]
   simpa using this
theorem Q5 {xs:List Row} (h:Good xs) (hl:xs.length<=60):tn xs=0:=by
 unfold tn;rw[bB (by omega),MM xs 0 λi hi=>?_];unfold sm;rw[aV (h.ok _ (aS hi)),bE];by_cases h0:0 < i
 ·rw[aV h0,aB (show i - 1 < xs.length by omega)];have hu:=h.up;unfold up at hu;rw[eB] at hu;have:=hu (i - 1) i (by omega) hi (by omega);simp only[this,aI]
 ·rw[bB h0]
theorem Q6 {s:List Row} {cs:List Change} (h:Good s) (hc:∀ c ∈ cs,ug c=0) (hl:s.length+cs.length<=60):Hw s cs=match mt s cs with | some t=>((0:Int),t,()) | none=>((8:Int),([]:List Row),()):=by
 unfold Hw;rw[aV (Q5 h (by omega))]
 have main:∀ (cs:List Change) (s:List Row) (i:Nat),Good s->(∀ c ∈ cs,ug c=0)->s.length+cs.length<=60->(bz uJ Aj i cs s).1=match mt s cs with | some t=>((0:Int),t,()) | none=>((8:Int),([]:List Row),()):=by
  intro cs
  induction cs with
  | nil=>
   intro s i h _ hl;simp only[bz,Aj,mt];rw[bB (by simp at hl;omega)]
  | cons c cs ih=>
   intro s i h hc hl;simp only[bz,uJ,mt,hc c (by simp),aI];by_cases hf:vL s c=true
   ·simp only[hf,aI];have:=CC s c;exact ih _ _ (AS h (hc c (by simp))) (λd hd=>hc d (by simp[hd])) (by simp at hl;omega)
   ·simp[hf]
 exact main cs s 0 h hc hl
def xj (xs:List Tx):List Change:=xs.flatMap λx=>oY x.2.1
theorem CT {O:Type} (bad:O) (fin:List Row->O):∀ (xs:List Tx) (i:Nat) (s:List Row),bz (λ_ s x=>match mt s (oY x.2.1) with | some t=>.inr t | none=>.inl bad) fin i xs s=match mt s (xj xs) with | some t=>fin t | none=>bad
 | [],_,_=>rfl
 | x::xs,i,s=>by
  have hb:xj (x::xs)=oY x.2.1++xj xs:=by simp[xj]
  rw[hb,back_append];simp only[bz]
  cases mt s (oY x.2.1) with
  | none=>rfl
  | some t=>simp only[aA];exact CT bad fin xs _ _
theorem HP {cs:List Change} (h:∀ c ∈ cs,ug c=0):∀ c ∈ oY cs,ug c=0:=λc hc=>by
 obtain ⟨d,h1,rfl⟩:=O5 hc;exact XN (h d h1)
theorem ZT {cs:List Change} (h:∀ c ∈ cs,cl c):∀ c ∈ oY cs,cl c:=λc hc=>by
 obtain ⟨d,h1,rfl⟩:=O5 hc;exact ⟨(h d h1).2,(h d h1).1⟩
theorem XO {s:List Row} (h:Good s):∀ x ∈ s,rl x:=λx hx=>by
 have:=SW (h.ok x hx);unfold rl;rw[aq];omega
theorem MN (s:List Row) (cs:List Change) (h:Good s) (hc:∀ c ∈ cs,ug c=0) (hl:s.length+cs.length<=1000):lT.aa (s,cs,())=some (match mt s (oY cs) with | some t=>(t,true,()) | none=>(([]:List Row),false,())):=by
 refine ah (k:=1001) λk hk=>(lT.ae k _).trans ?_;unfold lT.p;rw[QY cs (by omega)];simp only[aA];have hlen:=ER cs;have WU:=HP hc
 have:=co (B:=λself v=>lT.b0 self (λz=>lT.q0 (s,cs,()) (oY cs) z) (s,cs,()) (oY cs) v) (oY cs) (λ(s:List Row) (i:Int)=>(s,i)) (λ_ s c=>if vL s c then .inr (tm s c) else .inl (([]:List Row),false,())) (λs=>(s,true,())) (λi t=>Good t/\t.length<=s.length+i) (by rw[aq];omega)
  (λi hi t self hI=>by
   show lT.b0 _ _ _ _ _=_;unfold lT.b0;have am:(i:Int) < ((oY cs).length:Int):=by omega
   have gg:(0:Int)<=(i:Int)/\(i:Int) < ((oY cs).length:Int):=by omega
   simp only[am,gg,cQ,aD,aJ,aI,aH,aB hi,aA];rw[SQ t _ hI.1.up (by omega) (OP (WU _ (aS hi))).1]
   cases vL t (oY cs)[i] <;> rfl)
  (λi hi t t' hI hs=>by
   split at hs
   ·injection hs with hs;subst hs;have:=CC t (oY cs)[i];exact ⟨AS hI.1 (WU _ (aS hi)),by omega⟩
   ·cases hs) (λt self _=>by
   show lT.b0 _ _ _ _ _=_;unfold lT.b0;simp only[bC,aC,aG]
   rfl) s ⟨h,by omega⟩ k (by omega)
 rw[JM] at this;refine aU this ?_;cases mt s (oY cs) <;> rfl
theorem NQ (rows:List Row) (xs:List Tx) (h:Good rows) (hl:rows.length<=12) (hx:QW xs):lU.aa (rows,xs,())=some (match mt rows (xj xs) with | some t=>(t,true,()) | none=>(([]:List Row),false,())):=by
 refine ah (k:=10) λk hk=>(lU.ae k _).trans ?_;unfold lU.p;have hc:([]:List Row).length+rows.length<=cc:=dh (by simp only[bA];omega);rw[aV hc,bT];have hx4:=hx.len
 have:=co (B:=λself v=>lU.b0 self (λz=>lU.q0 (rows,xs,()) z) (rows,xs,()) v) xs (λ(s:List Row) (i:Int)=>(s,i)) (λ_ s x=>match mt s (oY x.2.1) with | some t=>.inr t | none=>.inl (([]:List Row),false,())) (λs=>(s,true,())) (λi t=>Good t/\t.length<=12+12*i) (by rw[aq];omega)
  (λi hi t self hI=>by
   show lU.b0 _ _ _ _=_;unfold lU.b0;have am:(i:Int) < (xs.length:Int):=by omega
   have hu:=hx.QX _ (aS hi);simp only[am,aD,aJ,aK,aI,aH,aB hi,aA];rw[MN t _ hI.1 (hx.ch _ (aS hi)) (by omega)]
   cases mt t (oY (xs[i]).2.1) <;> rfl)
  (λi hi t t' hI hs=>by
   have hu:=hx.QX _ (aS hi)
   cases hb:mt t (oY (xs[i]).2.1) with
   | none=>rw[hb] at hs;cases hs
   | some q=>
    rw[hb] at hs;injection hs with hs;subst hs;have:=Er _ _ _ hI.1 (HP (hx.ch _ (aS hi))) hb;rw[ER] at this
    exact ⟨this.1,by omega⟩) (λt self _=>by
   show lU.b0 _ _ _ _=_;unfold lU.b0;simp only[bC,aC,aG]
   rfl) rows ⟨h,by omega⟩ k (by omega)
 rw[CT] at this;refine aU this ?_;cases mt rows (xj xs) <;> rfl
theorem MO (rows:List Row) (xs:List Tx) (h:Good rows) (hl:rows.length<=12) (hx:QW xs) (ht:Fg xs):iy.aa (rows,xs,())=some (match mt rows (xj xs) with | some t=>(t,(0:Int),()) | none=>(([]:List Row),(8:Int),())):=by
 refine ah (k:=10) λk hk=>(iy.ae k _).trans ?_;unfold iy.p;have hx4:=hx.len
 have:=co (B:=λself v=>iy.b0 self (λz=>iy.q0 (rows,xs,()) z) (rows,xs,()) v) xs (λ(s:List Row) (i:Int)=>(s,i)) (λ_ s x=>match mt s (oY x.2.1) with | some t=>.inr t | none=>.inl (([]:List Row),(8:Int),())) (λs=>(s,(0:Int),())) (λi t=>Good t/\t.length<=12+12*i) (by rw[aq];omega)
  (λi hi t self hI=>by
   show iy.b0 _ _ _ _=_;unfold iy.b0;have am:(i:Int) < (xs.length:Int):=by omega
   have hu:=hx.QX _ (aS hi);have WU:=HP (hx.ch _ (aS hi));have htl:=ht.2 _ (aS hi);simp only[am,aD,aJ,aK,aI,aH,aB hi,aA];rw[QZ _ htl.1];simp only[aA];have V5:=ER (xs[i]).2.1;rw[Ma t _ (by rw[aq];omega) (XO hI.1) (by omega) (ZT htl.2.2.2),Q6 hI.1 WU (by omega)]
   cases mt t (oY (xs[i]).2.1) <;> rfl)
  (λi hi t t' hI hs=>by
   have hu:=hx.QX _ (aS hi)
   cases hb:mt t (oY (xs[i]).2.1) with
   | none=>rw[hb] at hs;cases hs
   | some q=>
    rw[hb] at hs;injection hs with hs;subst hs;have:=Er _ _ _ hI.1 (HP (hx.ch _ (aS hi))) hb;rw[ER] at this
    exact ⟨this.1,by omega⟩) (λt self hI=>by
   show iy.b0 _ _ _ _=_;unfold iy.b0;simp only[bC,aC,aG,iy.q0,iy.q0];rw[E6 t (by omega)]
   rfl) rows ⟨h,by omega⟩ k (by omega)
 rw[CT] at this;refine aU this ?_;cases mt rows (xj xs) <;> rfl
def HQ (n:Int) (xs:List Tx):Bool:=match xs[xs.length - 1]? with
 | some x=>decide (n<=x.1)
 | none=>false
def yp (p:Plain):Int:=
 if tn p.1=0 then
  if Bq p.2.1=0 then
   if ft p.2.2.1 1 100&&!HQ p.2.2.1 p.2.1 then
    if 12 < xT p.1 p.2.1 then 2 else (match mt p.1 (xj p.2.1) with | some _=>0 | none=>8)
   else 3
  else Bq p.2.1
 else tn p.1
def WV (p:Plain):Prop:=List.length p.1<=1048576/\(∀ x ∈ (p.1:List Row),rl x)/\Fg p.2.1
theorem O6 {O:Type} (n:Int) (xs:List Tx) (hl:xs.length<=1048576) (bad j:Option O) :
  (bif decide ((0:Int) < (xs.length:Int)) then (if 0<=af ((xs.length:Int) - (1:Int)) then ((xs[(af ((xs.length:Int) - (1:Int))).toNat]?).bind λx5=>bif decide (n<=x5.1) then bad else j) else none) else j)=if HQ n xs then bad else j:=by
 unfold HQ;by_cases h:0 < xs.length
 ·have h1:(0:Int) < (xs.length:Int):=by omega
  have h2:af ((xs.length:Int) - 1)=((xs.length - 1:Nat):Int):=by rw[bf (by omega)];omega
  have h3:xs.length - 1 < xs.length:=by omega
  simp only[h1,h2,aD,aJ,aK,aI,aH,aB h3,aA];cases decide (n<=(xs[xs.length - 1]).1) <;> rfl
 ·have h0:xs=[]:=bH (by omega);subst h0;rfl
theorem MP (p:Plain) (h:WV p):nI.aa (p,())=some (yp p,()):=by
 obtain ⟨rows,xs,n,⟨⟩⟩:=p;obtain ⟨h1,h2,h3⟩:=h;simp only at h1 h2 h3;refine ah (k:=0) λk _=>(nI.ae k _).trans ?_;show nI.p _=_;unfold nI.p yp;simp only[E5 rows (by rw[aq];omega) h2,QT xs h3,sV,Tv rows xs h1 h3,aA];by_cases hr:tn rows=0;rotate_left
 ·simp only[hr,aC,aZ,aJ,aL]
 by_cases ht:Bq xs=0;rotate_left
 ·simp only[hr,ht,aD,aC,aQ,aZ,aJ,aG,aI,aL]
 obtain ⟨hg,_⟩:=CB hr;have bc:=Tz ht;simp only[hr,ht,aD,aQ,aG,aI];have gg:(decide ((1:Int)<=n)&&decide (n<=100))=ft n 1 100:=rfl;rw[gg]
 cases ft n 1 100 with
 | false=>rfl
 | true=>
  simp only[aQ,aG,eX];rw[O6 n xs h3.1]
  cases HQ n xs with
  | true=>rfl
  | false=>
   simp only[aZ,aF,aL,aI];have hlen:(gi (dd [] (xi rows xs))).length=xT rows xs:=by simp[gi,xT]
   by_cases pK:12 < xT rows xs
   ·have:(12:Int) < ((gi (dd [] (xi rows xs))).length:Int):=by rw[hlen];omega
    simp only[this,pK,aD,aJ,aI]
   ·have:¬ (12:Int) < ((gi (dd [] (xi rows xs))).length:Int):=by rw[hlen];omega
    have v7:rows.length<=12:=by
     have:=JK (xs:=xs) hg.up;unfold xT at pK;omega
    simp only[this,pK,aC,aG,aL,MO rows xs hg v7 bc h3,aA];cases mt rows (xj xs) <;> rfl
theorem MQ (p:Plain) (h:WV p):o9.aa (p,())=some (yp p,()):=by
 obtain ⟨rows,xs,n,⟨⟩⟩:=p;obtain ⟨h1,h2,h3⟩:=h;simp only at h1 h2 h3;refine ah (k:=0) λk _=>(o9.ae k _).trans ?_;show o9.p _=_;unfold o9.p yp;simp only[Nu rows (by rw[aq];omega) h2,QU xs h3,nM,aA];by_cases hr:tn rows=0;rotate_left
 ·simp only[hr,aC,aZ,aJ,aL]
 by_cases ht:Bq xs=0;rotate_left
 ·simp only[hr,ht,aD,aC,aQ,aZ,aJ,aG,aI,aL]
 obtain ⟨hg,_⟩:=CB hr;have bc:=Tz ht;have ZU:=NP rows xs h1 (by have:=bc.len;omega) (λx hx=>by have:=bc.aa1 x hx;omega);simp only[hr,ht,aD,aQ,aG,aI,ZU,aA];have gg:(decide ((1:Int)<=n)&&decide (n<=100))=ft n 1 100:=rfl;rw[gg]
 cases ft n 1 100 with
 | false=>rfl
 | true=>
  simp only[aQ,aG,eX];rw[O6 n xs h3.1]
  cases HQ n xs with
  | true=>rfl
  | false=>
   simp only[aZ,aF,aL,aI];by_cases pK:12 < xT rows xs
   ·have:(12:Int) < (xT rows xs:Int):=by omega
    simp only[this,pK,aD,aJ,aI]
   ·have:¬ (12:Int) < (xT rows xs:Int):=by omega
    have v7:rows.length<=12:=by
     have:=JK (xs:=xs) hg.up;unfold xT at pK;omega
    simp only[this,pK,aC,aG,aL,NQ rows xs hg v7 bc,aA];cases mt rows (xj xs) <;> rfl
theorem Vw {p:Plain} (hv:sH BC p) (hz:zz BC p<=1048576):WV p:=by
 obtain ⟨rows,xs,n,⟨⟩⟩:=p;obtain ⟨hr,hx,_⟩:=hv;replace hz:zz (.U ba) rows+(zz (.U de) xs+(0+0))<=1048576:=hz;refine ⟨bO (vz (e:=ba) rows) (by omega),λx hm=>Qt (hr.2 x hm),bO (vz (e:=de) xs) (by omega),λx hm=>?_⟩
 have h1:zz de x+1<=zz (.U de) xs:=Hc (e:=de) hm;have h2:zz de x=0+(zz (.U ai) x.2.1+(zz (.U i64) x.2.2.1+(zz (.U bh) x.2.2.2.1+0))):=rfl;have h3:List.length x.2.1<=zz (.U ai) x.2.1:=vz (e:=ai) x.2.1;have h4:List.length x.2.2.1<=zz (.U i64) x.2.2.1:=vz (e:=i64) x.2.2.1;have h5:List.length x.2.2.2.1<=zz (.U bh) x.2.2.2.1:=vz (e:=bh) x.2.2.2.1;exact ⟨by omega,by omega,by omega,λc hc=>aaU ((hx.2 x hm).2.1.2 c hc)⟩
end OT
namespace OT
open Go
end OT
namespace OT
open Go
theorem BI {a b:List UInt8} {i:Nat} (h:i < a.length):cg (a++b) i=cg a i:=by
 unfold cg;simp only[eS];rw[bW h]
theorem TA {a b:List UInt8} {q:bg×Nat} (h:pT a=some q):pT (a++b)=some q:=by
 have h0:=h;unfold pT at h;split at h
 ·cases h
 ·rename_i hc;have l0:7<=a.length:=by omega
  have l1:cg a 0<=a.length:=by omega
  unfold pT;have e0:cg (a++b) 0=cg a 0:=BI (by omega);have e1:cg (a++b) 1=cg a 1:=BI (by omega);have e2:cg (a++b) 2=cg a 2:=BI (by omega);have e3:cg (a++b) 3=cg a 3:=BI (by omega);have e4:cg (a++b) 4=cg a 4:=BI (by omega);rw[e0,e1,e2,e3,e4,dK l1,bB (by rw[aR];omega)];exact h
theorem Fq (b:List UInt8):∀ (k:Nat) (a:List UInt8),a.length < k->(k8 k a).2=a.length->k8 (k+b.length) (a++b)=((k8 k a).1++(tw b).1,a.length+(tw b).2)
 | 0,_,h,_=>by omega
 | k+1,a,hk,h=>by
  cases hr:pT a with
  | none=>
   simp only[k8,hr] at h;have:a=[]:=bH h.symm;subst this;rw[bT,tP (k+1+b.length) (b.length+1) b (by omega) (by omega)];simp[k8,hr,tw]
  | some q=>
   obtain ⟨r,n⟩:=q;have hn:=wo hr;have hd:(a.drop n).length=a.length - n:=bI;simp only[k8,hr] at h;have ih:=Fq b k (a.drop n) (by omega) (by omega);have e:k+1+b.length=(k+b.length)+1:=by omega
   rw[e];simp only[k8,hr,TA hr,dL hn.2.1,ih,cO];rw[hd];congr 1;omega
theorem TB {a b:List UInt8} (h:sd a=true):tw (a++b)=((tw a).1++(tw b).1,a.length+(tw b).2):=by
 have:=Fq b (a.length+1) a (by omega) (of_decide_eq_true h);unfold tw;rw[aR,tP (a.length+b.length+1) (a.length+1+b.length) _ (by rw[aR];omega) (by rw[aR];omega)];exact this
def tz (l:Log):List bg:=(tw l.1).1++(tw l.2.1).1
theorem An:∀ (k:Nat) (d:List UInt8),(k8 k d).1.length<=d.length
 | 0,d=>aY _
 | k+1,d=>by
  simp only[k8]
  cases hr:pT d with
  | none=>exact aY _
  | some q=>
   obtain ⟨r,n⟩:=q;have hn:=wo hr;have hd:(d.drop n).length=d.length - n:=bI;have:=An k (d.drop n);simp only[aO];omega
theorem wt {l:Log} (h:xh l=0):List.length l.1+List.length l.2.1<=16000/\sd l.1=true/\sd l.2.1=true:=by
 unfold xh at h;split at h
 ·cases h
 ·split at h
  ·rename_i a b;rw[aE] at b;exact ⟨by omega,b.1,b.2⟩
  ·cases h
theorem Gf {l:Log} (h:xh l=0):(tz l).length<=16000:=by
 have h1:=wt h;unfold tz;rw[aR];have a:=An (List.length l.1+1) l.1;have b:=An (List.length l.2.1+1) l.2.1;unfold tw;omega
theorem NR {l:Log} (h:xh l=0):og.aa (l,())=some (tz l,()):=by
 have h1:=wt h;have h2:=Gf h;refine ah (k:=0) λk _=>(og.ae k _).trans ?_;unfold og.p;simp only[CQ l.1 (by omega),CQ l.2.1 (by omega),aA];rw[aV (dh (by unfold tz at h2;rw[aR] at h2;omega))];rfl
theorem MR (d:List UInt8) (hd:d.length<=1048576):gr.aa (d,())=some (d,()):=xO d (by omega)
theorem NS {l:Log} (h:xh l=0):oL.aa (l,())=some (tz l,()):=by
 have h1:=wt h;refine ah (k:=0) λk _=>(oL.ae k _).trans ?_;unfold oL.p;simp only[MR l.1 (by omega),aA];rw[aV (dh (by omega)),CR _ (by rw[aR];omega)];rw[TB h1.2.1];rfl
theorem Gg {α:Type} [DecidableEq α]:∀ {a b:List α},a.length=b.length->z8 (λx y=>decide (x=y)) a b=decide (a=b)
 | [],[],_=>by simp[z8]
 | x::a,y::b,h=>by
  have ih:=Gg (a:=a) (b:=b) (by simpa using h);unfold z8 at ih ⊢;simp only[iA,eH,ih];by_cases h1:x=y <;> by_cases h2:a=b <;> simp[h1,h2]
 | [],_::_,h=>by cases h
 | _::_,[],h=>by cases h
theorem NT (a b:List (List UInt8)) (hl:a.length<=1000):lV.aa (a,b,())=some (decide (a=b),()):=by
 refine ah (k:=1002) λk hk=>(lV.ae k _).trans ?_;unfold lV.p;by_cases hlen:a.length=b.length;rotate_left
 ·have e1:¬ ((a.length:Int)=(b.length:Int)):=by omega
  have e2:¬ a=b:=λh=>hlen (by rw[h]);simp only[e1,e2,aC,aZ,aJ]
 have e1:((a.length:Int)=(b.length:Int)):=by omega
 simp only[e1,aD,aQ,aG]
 have:=FU (B:=λself v=>lV.b0 self (λz=>lV.q0 (a,b,()) z) (a,b,()) v) (xs:=a) (ys:=b) (λx y=>decide (x=y)) hlen (by rw[aq];omega)
  (λi hx hy self=>by
   show lV.b0 _ _ _ _=_;unfold lV.b0;have am:(i:Int) < (a.length:Int):=by omega
   simp only[am,aD,aJ,aK,aI,aH,aB hx,aB hy,aA]
   by_cases h:a[i]=b[i] <;> simp[h]) (λself=>by
   show lV.b0 _ _ _ _=_;unfold lV.b0;rw[cH (bC _),aG]
   rfl) k (by omega)
 refine this.trans ?_;rw[Gg hlen]
theorem NU (a b:List (List UInt8)) (hl:a.length<=1000) (ha:∀ x ∈ a,x.length<=100000):py.aa (a,b,())=some (decide (a=b),()):=by
 refine ah (k:=0) λk _=>(py.ae k _).trans ?_;unfold py.p
 have:∀ f:Nat×Int,ed.aa (a,b,f,())=some (decide (a=b),()):=λf=>by
  refine ah (k:=1002) λk hk=>(ed.ae k _).trans ?_;unfold ed.p;by_cases hlen:a.length=b.length;rotate_left
  ·have e1:¬ ((a.length:Int)=(b.length:Int)):=by omega
   have e2:¬ a=b:=λh=>hlen (by rw[h]);simp only[e1,e2,aC,aZ,aJ]
  have e1:((a.length:Int)=(b.length:Int)):=by omega
  simp only[e1,aD,aQ,aG]
  have:=FU (B:=λself v=>ed.b0 self (λz=>ed.q0 (a,b,f,()) z) (a,b,f,()) v) (xs:=a) (ys:=b) (λx y=>decide (x=y)) hlen (by rw[aq];omega)
   (λi hx hy self=>by
    show ed.b0 _ _ _ _=_;unfold ed.b0;have am:(i:Int) < (a.length:Int):=by omega
    simp only[am,aD,aJ,aK,aI,aH,aB hx,aB hy,aA,MD _ _ (ha _ (aS hx))]
    by_cases h:a[i]=b[i] <;> simp[h]) (λself=>by
    show ed.b0 _ _ _ _=_;unfold ed.b0;rw[cH (bC _),aG]
    rfl) k (by omega)
  refine this.trans ?_;rw[Gg hlen]
 rw[this];rfl
theorem MS {d:List UInt8} (h:d.length<=64):List.length (iu d).1.2.2.2.2.1.2.2.2.1<=64:=by
 unfold iu;split
 ·exact aY _
 ·split
  ·exact aY _
  ·show (d.drop 6).length<=64;rw[bI];omega
theorem MT {p:List UInt8} (s:Nat) (h:p.length<=64):(kX p s).length<=64:=by
 unfold kX;rw[bP,bI];omega
theorem Vx {ps:k9} (h:tO ps) (a b:Int):List.length (oX ps a b).1.2.2.2.2.1.2.2.2.1<=64:=by
 unfold oX
 cases hp:ps[a.toNat]? with
 | none=>exact aY _
 | some p=>
  have hm:=h.2 p (cA hp);simp only;split
  ·exact MS (MT _ (by rw[hm.len];omega))
  ·exact aY _
theorem IT {ps:k9} (h:mH ps=0):∀ r ∈ jz ps,List.length r.2.2.2.1<=64:=λr hr=>by
 have hv:=CK h;rw[Gb (va h),(QC _).mem_iff,fV] at hr;obtain ⟨x,hx,rfl⟩:=hr;unfold po at hx;rw[eI] at hx;obtain ⟨y,hy,hx⟩:=hx;unfold sb at hx;split at hx
 ·cases hx
 ·rw[bR] at hx;subst hx;unfold zf;split
  ·exact Vx hv.1 _ _
  ·obtain ⟨P,p,t,h1,h2,h3,rfl⟩:=Al.1 hy;exact MS (MT _ (by rw[(hv.1.2 p (cA h1)).len];omega))
theorem XP {ps:k9} (h:mH ps=0):∀ r ∈ jz ps,rl r:=λr hr=>by
 have:=IT h r hr;unfold rl;rw[aq];omega
theorem vW {ps:k9} (h:mH ps=0):(jz ps).length<=192:=by
 unfold jz;rw[fG];exact A4 (va h)
def MU (s:kJ):Prop:=WS s.2.2.1/\(∀ p ∈ (s.2.1:k9),p.length<=maxLen)/\Fg s.2.2.2.1
theorem TC {s:kJ} (h:MU s) (hv:mH s.2.1=0):WV (jz s.2.1,s.2.2.2.1,s.2.2.2.2.1,()):=
 ⟨by have:=vW hv;show (jz s.2.1).length<=1048576;omega,XP hv,h.2.2⟩
def Q7 (s:kJ):Int:=if decide (0 < List.length s.2.1)||(decide (0 < List.length s.2.2.2.1)||decide (0 < List.length s.2.2.1.2.1)) then 1 else if ft s.2.2.2.2.1 1 100 then 0 else 3
def ZV (s:kJ):Int:=if mH s.2.1=0 then
        if yp (jz s.2.1,s.2.2.2.1,s.2.2.2.2.1,())=0 then
         if (vO (tz s.2.2.1)).2.1=0/\(vO (tz s.2.2.1)).1=s.2.1 then 0 else 8
        else yp (jz s.2.1,s.2.2.2.1,s.2.2.2.2.1,())
   else mH s.2.1
def sN (s:kJ):Int:=if xh s.2.2.1=0 then (bif s.1 then ZV s else Q7 s) else xh s.2.2.1
theorem O7 (s:kJ) (A:Option (Bool×Unit)) (h:A=some (ft s.2.2.2.2.1 1 100,())) :
  (bif decide ((0:Int) < (List.length s.2.1:Int)) then (some ((1:Int),())) else bif decide ((0:Int) < (List.length s.2.2.2.1:Int)) then (some ((1:Int),())) else bif decide ((0:Int) < (List.length s.2.2.1.2.1:Int)) then (some ((1:Int),())) else A.bind λr3=>bif !r3.1 then (some ((3:Int),())) else some ((0:Int),()))=some (Q7 s,()):=by
 have e:∀ n:Nat,decide ((0:Int) < (n:Int))=decide (0 < n):=λn=>by rw[cK];omega
 rw[h,e,e,e];unfold Q7;cases decide (0 < List.length s.2.1) <;> cases decide (0 < List.length s.2.2.2.1) <;> cases decide (0 < List.length s.2.2.1.2.1) <;> try rfl
 simp only[aA];cases ft s.2.2.2.2.1 1 100 <;> rfl
theorem MV {s:kJ} (h:MU s):oS.aa (s,())=some (sN s,()):=by
 refine ah (k:=0) λk _=>(oS.ae k _).trans ?_;unfold oS.p sN;simp only[QM _ h.1,aA];by_cases h0:xh s.2.2.1=0;rotate_left
 ·simp only[h0,aC,aZ,aJ,aL]
 simp only[h0,aD,aQ,aG,aI]
 cases hu:s.1 with
 | false=>exact O7 s _ (sV _ _ _)
 | true=>
  simp only[aQ,aG,aJ];unfold ZV;rw[Bo s.2.1 h.2.1];simp only[aA];by_cases h1:mH s.2.1=0;rotate_left
  ·simp only[h1,aC,aZ,aJ,aL]
  simp only[h1,aD,aQ,aG,aI];rw[Bp _ (by have:=A4 (va h1);omega)];simp only[aA];have hp:=MP _ (TC h h1);unfold jz at hp ⊢;rw[hp];simp only[aA];generalize yp ((vN s.2.1).map (·.1),s.2.2.2.1,s.2.2.2.2.1,())=c;by_cases h2:c=0;rotate_left
  ·simp only[h2,aC,aZ,aJ,aL]
  simp only[h2,aD,aQ,aG,aI,NR h0,aA,NJ _ (show (tz s.2.2.1).length<=maxLen by have:=Gf h0;rw[aq];omega)];by_cases h3:(vO (tz s.2.2.1)).2.1=0;rotate_left
  ·simp only[h3,aC,aZ,aJ,gF,aL]
  have hg:=HN _ h3;simp only[h3,aD,aQ,aG,dZ,NU _ s.2.1 (show List.length (vO (tz s.2.2.1)).1<=1000 by have:=hg.1;omega) (λx hx=>by have:=hg.2 x hx;omega),aA];by_cases h4:(vO (tz s.2.2.1)).1=s.2.1
  ·simp only[h4,aD,aQ,aG,aI]
  ·simp only[h4,aC,aZ,aJ,aL]
theorem IU {s:kJ} (h:MU s):qp.aa (s,())=some (sN s,()):=by
 refine ah (k:=0) λk _=>(qp.ae k _).trans ?_;unfold qp.p sN;simp only[QL _ h.1,aA];by_cases h0:xh s.2.2.1=0;rotate_left
 ·simp only[h0,aC,aZ,aJ,aL]
 simp only[h0,aD,aQ,aG,aI]
 cases hu:s.1 with
 | false=>exact O7 s _ (nM _ _ _)
 | true=>
  simp only[aQ,aG,aJ];unfold ZV;rw[Bm s.2.1 h.2.1];simp only[aA];by_cases h1:mH s.2.1=0;rotate_left
  ·simp only[h1,aC,aZ,aJ,aL]
  simp only[h1,aD,aQ,aG,aI];rw[yH h1];simp only[aA];rw[MQ _ (TC h h1)];simp only[aA];generalize yp (jz s.2.1,s.2.2.2.1,s.2.2.2.2.1,())=c;by_cases h2:c=0;rotate_left
  ·simp only[h2,aC,aZ,aJ,aL]
  simp only[h2,aD,aQ,aG,aI,NS h0,aA,NI _ (show (tz s.2.2.1).length<=maxLen by have:=Gf h0;rw[aq];omega)];by_cases h3:(vO (tz s.2.2.1)).2.1=0;rotate_left
  ·simp only[h3,aC,aZ,aJ,gF,aL]
  have hg:=HN _ h3;simp only[h3,aD,aQ,aG,dZ,NT _ s.2.1 (show List.length (vO (tz s.2.2.1)).1<=1000 by have:=hg.1;omega),aA];by_cases h4:(vO (tz s.2.2.1)).1=s.2.1
  ·simp only[h4,aD,aQ,aG,aI]
  ·simp only[h4,aC,aZ,aJ,aL]
end OT
namespace OT
open Go
def qf (xs:List Buffer) (t:Int):Int:=vC (λb=>decide (b.1=t)) 0 xs
def Gh (xs:List Buffer) (i:Nat) (b:Buffer):Sum (Int×Unit) Unit:=
 if ft b.1 1 99 then (if u_ b.2.1=0 then (if qf xs b.1=(i:Int) then .inr () else .inl (6,())) else .inl (u_ b.2.1,())) else .inl (3,())
def yq (m:dg):Int:=if mH m.1=0 then (if 8 < List.length m.2.1 then 2 else (bz (λi (_:Unit) b=>Gh m.2.1 i b) (λ_=>((0:Int),())) 0 m.2.1 ()).1) else mH m.1
structure ZW (m:dg):Prop where
 pl:List.length m.1<=1048576
 Kh:∀ p ∈ (m.1:k9),p.length<=maxLen
 bl:List.length m.2.1<=1048576
 buf:∀ b ∈ (m.2.1:List Buffer),List.length b.2.1<=1048576/\∀ c ∈ (b.2.1:List Change),cl c
theorem zj (m:dg) (t:Int) (h:List.length m.2.1<=1048576):jx.aa (m,t,())=some (qf m.2.1 t,()):=by
 refine ah (k:=1048577) λk hk=>(jx.ae k _).trans ?_
 have:=co (B:=λself v=>jx.b0 self (λz=>jx.q0 (m,t,()) z) (m,t,()) v) m.2.1 (λ(_:Unit) (i:Int)=>i) (λi _ b=>if decide (b.1=t) then .inl ((i:Int),()) else .inr ()) (λ_=>((-1:Int),())) (λ_ _=>True) (by rw[aq];omega)
  (λi hi s self _=>by
   show jx.b0 _ _ _ _=_;unfold jx.b0;have am:(i:Int) < (List.length m.2.1:Int):=by omega
   simp only[am,aD,aJ,aK,aI,aH,aB hi,aA]
   cases decide ((m.2.1[i]).1=t) <;> rfl)
  (λ_ _ _ _ _ _=>trivial) (λs self _=>by
   show jx.b0 _ _ _ _=_;unfold jx.b0;simp only[bC,aC,aG]
   rfl) () trivial k (by omega)
 rw[zb (λb:Buffer=>decide (b.1=t))] at this;exact this
theorem Q8 (m:dg) (t:Int) (h:List.length m.2.1<=1048576):nJ.aa (m,t,())=some (qf m.2.1 t,()):=by
 have mN:∀ b:Buffer,o3.aa (b,t,())=some (decide (b.1=t),()):=λb=>by
  refine ah (k:=0) λk hk=>(o3.ae k _).trans ?_;rfl
 have Uh:∀ f:Nat,eg.aa (m.2.1,((f,t):Nat×Int),())=some (qf m.2.1 t,()):=λf=>by
  refine ah (k:=1048577) λk hk=>(eg.ae k _).trans ?_
  have:=co (B:=λself v=>eg.b0 self (λz=>eg.q0 (m.2.1,(f,t),()) z) (m.2.1,(f,t),()) v) m.2.1 (λ(_:Unit) (i:Int)=>i) (λi _ b=>if decide (b.1=t) then .inl ((i:Int),()) else .inr ()) (λ_=>((-1:Int),())) (λ_ _=>True) (by rw[aq];omega)
   (λi hi s self _=>by
    show eg.b0 _ _ _ _=_;unfold eg.b0;have am:(i:Int) < (List.length m.2.1:Int):=by omega
    simp only[am,aD,aJ,aK,aI,aH,aB hi,aA,mN]
    cases decide ((m.2.1[i]).1=t) <;> rfl)
   (λ_ _ _ _ _ _=>trivial) (λs self _=>by
    show eg.b0 _ _ _ _=_;unfold eg.b0;simp only[bC,aC,aG]
    rfl) () trivial k (by omega)
  rw[zb (λb:Buffer=>decide (b.1=t))] at this;exact this
 refine ah (k:=0) λk hk=>(nJ.ae k _).trans ?_;show nJ.p _=_;unfold nJ.p;rw[Uh];rfl
theorem Es (m:dg) (h:ZW m):ln.aa (m,())=some (yq m,()):=by
 refine ah (k:=1048577) λk hk=>(ln.ae k _).trans ?_;unfold ln.p yq;rw[Bm m.1 h.Kh];simp only[aA];by_cases hv:mH m.1=0;rotate_left
 ·simp only[hv,aC,aZ,aJ,aL]
 simp only[hv,aD,aQ,aG,aI];by_cases h8:8 < List.length m.2.1
 ·have:(8:Int) < (List.length m.2.1:Int):=by omega
  simp only[this,h8,aD,aJ,aI]
 have h8':¬ ((8:Int) < (List.length m.2.1:Int)):=by omega
 simp only[h8,h8',aC,aG,aL];have hb:=h.bl
 exact co (B:=λself v=>ln.b0 self (λz=>ln.q0 (m,()) z) (m,()) v) m.2.1 (λ(_:Unit) (i:Int)=>i) (λi _ b=>Gh m.2.1 i b) (λ_=>((0:Int),())) (λ_ _=>True) (by rw[aq];omega)
  (λi hi s self _=>by
   show ln.b0 _ _ _ _=_;unfold ln.b0 Gh;have am:(i:Int) < (List.length m.2.1:Int):=by omega
   obtain ⟨g1,g2⟩:=h.buf _ (aS hi);simp only[am,aD,aJ,aK,aI,aH,aB hi,aA,nM,E7 _ (show List.length (m.2.1[i]).2.1<=maxLen by rw[aq];omega) g2,zj m _ hb];unfold ft
   cases (decide ((1:Int)<=(m.2.1[i]).1)&&decide ((m.2.1[i]).1<=99)) with
   | false=>rfl
   | true=>
    simp only[aQ,aG,aI];by_cases hf:u_ (m.2.1[i]).2.1=0
    ·simp only[hf,aD,aQ,aG,aI]
     by_cases ht:qf m.2.1 (m.2.1[i]).1=(i:Int)
     ·simp only[ht,aD,aQ,aG,aI]
     ·simp only[ht,aC,aZ,aJ,aL]
    ·simp only[hf,aC,aZ,aJ,aL])
  (λ_ _ _ _ _ _=>trivial) (λs self _=>by
   show ln.b0 _ _ _ _=_;unfold ln.b0;simp only[bC,aC,aG]
   rfl) () trivial k (by omega)
def Q9 (c:di):Int:=if yq c.1=0 then (if yq c.2.2.1=0 then (if ft c.2.1 0 16000&&ft c.2.2.2.1 0 c.2.1 then 0 else 3) else yq c.2.2.1) else yq c.1
theorem NV (c:di) (h1:ZW c.1) (h2:ZW c.2.2.1):nS.aa (c,())=some (Q9 c,()):=by
 refine ah (k:=0) λk hk=>(nS.ae k _).trans ?_;show nS.p _=_;unfold nS.p Q9;simp only[Es _ h1,Es _ h2,nM,aA];by_cases c1:yq c.1=0;rotate_left
 ·simp only[c1,aC,aZ,aJ,aL]
 by_cases c2:yq c.2.2.1=0;rotate_left
 ·simp only[c1,c2,aD,aC,aQ,aZ,aJ,aG,aI,aL]
 simp only[c1,c2,aD,aQ,aG,aI];unfold ft;cases (decide ((0:Int)<=c.2.1)&&decide (c.2.1<=16000)) <;> cases (decide ((0:Int)<=c.2.2.2.1)&&decide (c.2.2.2.1<=c.2.1)) <;> rfl
theorem Vy {ps:k9} (h:tO ps):gp ps:=⟨h.1,λp hp=>(h.2 p hp).len⟩
structure Q_ (m:dg):Prop where
 Kh:gp m.1
 bl:List.length m.2.1<=1048576
 buf:∀ b ∈ (m.2.1:List Buffer),List.length b.2.1<=1048576
abbrev WW:gk:=((0:Int),(0:Int),([]:List Change),())
abbrev HR:dg:=(([]:List (List UInt8)),([]:List Buffer),())
abbrev se:di:=(HR,(0:Int),HR,(0:Int),())
def BJ (k:Int):ql:=(k,false,WW,se,())
end OT
namespace OT
open Go
theorem IV (xs:List Buffer) (hl:xs.length<=1048576) (h:∀ b ∈ xs,List.length b.2.1<=1048576):k_.aa (xs,())=some (xs,()):=by
 refine ah (k:=1048577) λk hk=>(k_.ae k _).trans ?_
 have:=co (B:=λself v=>k_.b0 self (λz=>k_.q0 (xs,()) z) (xs,()) v) xs (λ(s:List Buffer) (i:Int)=>(s,i)) (λ_ s b=>.inr (s++[b])) (λs=>(s,())) (λi s=>s.length<=i) (by rw[aq];omega)
  (λi hi s self hI=>by
   show k_.b0 _ _ _ _=_;unfold k_.b0;have am:(i:Int) < (xs.length:Int):=by omega
   have hb:=h _ (aS hi);simp only[am,aD,aJ,aK,aI,aH,aB hi,aA];rw[aV (dh (by simp only[bA];omega)),aV (dh (by simp only[aO,bA];omega))]
   rfl)
  (λi hi s s' hI hf=>by
   injection hf with hf;subst hf
   rw[aR,aO,bA];omega) (λs self _=>by
   show k_.b0 _ _ _ _=_;unfold k_.b0;simp only[bC,aC,aG]
   rfl) [] (by simp) k (by omega)
 rw[ic,ym] at this;exact this
theorem sO (m:dg) (h:Q_ m):fw.aa (m,())=some (m,()):=by
 refine ah (k:=0) λk hk=>(fw.ae k _).trans ?_;show fw.p _=_;unfold fw.p;simp only[Dc m.1 h.Kh,IV m.2.1 h.bl h.buf,aA]
theorem NW (k:Int):pN.aa (k,())=some (BJ k,()):=by
 refine ah (k:=0) λk hk=>(pN.ae k _).trans ?_;rfl
end OT
