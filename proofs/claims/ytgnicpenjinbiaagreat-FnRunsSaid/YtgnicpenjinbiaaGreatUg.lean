/- The proof's parts, merged: Pages of bytes  what the program and the reference find at fault with them  the reads of the directory.. No conditions but those that each states. -/
import Derived.Test.YtgnicpenjinbiaaGreatUf
set_option linter.unusedVariables false
set_option linter.unusedSimpArgs false
namespace OT
open Go
theorem Pk {i:Nat} (h:i < 1000):ae ((3:Int)+ae ((2:Int)*(i:Int)))=((3+2*i:Nat):Int):=by
 grind [bf]
theorem HH {i:Nat} (h:i < 1000):ae ((2:Int)+ae ((2:Int)*(i:Int)))=((2+2*i:Nat):Int):=by
 grind [bf]
theorem Ep (p:List UInt8) (i:Nat):ae ((pb p i:Nat):Int)=((pb p i:Nat):Int):=by
 grind [qa,bf]
theorem gr {R:Type} {p:List UInt8} {i:Nat} (h:i < p.length) (K:UInt8->Option R):(p[i]?).bind K=K p[i]:=by grind
section
variable {p:List UInt8} (hp:p.length=64)
include hp
theorem rK:eh.ab (p,())=some ((pn p:Int),()):=by
 refine ag (k:=0) λk _=>(eh.af k _).trans ?_;show eh.p _=_;unfold eh.p;simp only[gr (show 0 < p.length by omega),(kK (show 0 < p.length by omega)).2,Ep];rfl
theorem vR:fj.ab (p,())=some ((pn p:Int),()):=by
 refine ag (k:=0) λk _=>(fj.af k _).trans ?_;show fj.p _=_;unfold fj.p;simp only[gr (show 0 < p.length by omega),(kK (show 0 < p.length by omega)).2,Ep];rfl
theorem Vs:rr.ab (p,())=some ((fh p:Int),()):=by
 refine ag (k:=0) λk _=>(rr.af k _).trans ?_;show rr.p _=_;unfold rr.p;simp only[gr (show 1 < p.length by omega),(kK (show 1 < p.length by omega)).2,Ep];rfl
theorem xA {i:Nat} (hi:i < 16):fa.ab (p,(i:Int),())=some ((bj p i:Int),()):=by
 refine ag (k:=0) λk _=>(fa.af k _).trans ?_;show fa.p _=_;unfold fa.p;simp only[Pk (show i < 1000 by omega),aR,aL,aD,gr (show 3+2*i < p.length by omega),(kK (show 3+2*i < p.length by omega)).2,Ep];rfl
theorem Pm {i:Nat} (hi:i < 16):o4.ab (p,(i:Int),())=some ((pat p i:Int),()):=by
 refine ag (k:=0) λk _=>(o4.af k _).trans ?_;show o4.p _=_;unfold o4.p;simp only[HH (show i < 1000 by omega),aR,aL,aD,gr (show 2+2*i < p.length by omega),(kK (show 2+2*i < p.length by omega)).2,Ep];rfl
theorem Dv {i:Nat} (hi:i < 16):mZ.ab (p,(i:Int),())=some ((pat p i:Int),(bj p i:Int),()):=by
 refine ag (k:=0) λk _=>(mZ.af k _).trans ?_;show mZ.p _=_;unfold mZ.p;simp only[HH (show i < 1000 by omega),Pk (show i < 1000 by omega),aR,aL,aD,gr (show 2+2*i < p.length by omega),(kK (show 2+2*i < p.length by omega)).2,gr (show 3+2*i < p.length by omega),(kK (show 3+2*i < p.length by omega)).2,Ep];rfl
end
theorem Kp {O:Type} (q:Nat->Bool) (bad e:O):∀ (xs:List Nat) (i:Nat),bu (λ_ (_:Unit) x=>if q x then .inr () else .inl bad) (λ_=>e) i xs ()=if xs.all q then e else bad:=λxs i=>vZ q bad (λ_=>e) xs i
theorem Iz {S O:Type} (q:Nat->Bool) (g:Nat->S) (bad e:O):∀ (xs:List Nat) (i:Nat) (s:S),bu (λ_ s x=>if q x then .inl bad else .inr (g x)) (λ_=>e) i xs s=if xs.any q then bad else e
 | [],_,_=>rfl
 | x::xs,i,s=>by
  simp only[bu,gL];by_cases h:q x=true
  ·simp[h]
  ·simp[h,Iz q g bad e xs (i+1)]
def AI (p:List UInt8) (i t:Nat):List Bool:=(List.range 64).map λj=>uX p i j||decide (pat p i<=j/\j < pat p i+t)
def JT (p:List UInt8) (i:Nat):Bool:=(List.range (bj p i)).any λt=>uX p i (pat p i+t)
theorem ZA (p:List UInt8) (i:Nat):AI p i 0=(List.range 64).map (uX p i):=by
 grind [AI,List.map_congr_left]
theorem ZB (p:List UInt8) (i:Nat):AI p i (bj p i)=(List.range 64).map (uX p (i+1)):=rfl
theorem Ll (p:List UInt8) (i t j:Nat) (h:j < 64):(AI p i t)[j]?=some (uX p i j||decide (pat p i<=j/\j < pat p i+t)):=by
 grind [AI]
theorem Lm (p:List UInt8) (i t:Nat):(AI p i t).length=64:=by simp[AI]
theorem ZC (p:List UInt8) (i t:Nat) (h:pat p i+t < 64):(AI p i t).set (pat p i+t) true=AI p i (t+1):=by
 refine eC λj=>?_;rw[fC,Lm];by_cases hj:j < 64
 ·rw[Ll p i t j hj,Ll p i (t+1) j hj];by_cases e:pat p i+t=j
  ·subst e;grind
  ·rw[aN e];have:(pat p i<=j/\j < pat p i+t)↔(pat p i<=j/\j < pat p i+(t+1)):=by omega
   grind
 grind [Lm]
theorem Sk {p:List UInt8}:∀ {k j:Nat},uX p k j=true↔∃ i,i < k/\pat p i<=j/\j < pat p i+bj p i
 | 0,j=>by simp[uX]
 | k+1,j=>by
  simp only[uX,cN,bE,Sk (k:=k)];grind
theorem Xq (p:List UInt8) (i:Nat):JT p i=!(List.range i).all (Du p i):=by
 rw[fR];simp only[JT,eL,cD,Sk,cB,List.all_eq_false,Bool.not_eq_true];constructor
 ·rintro ⟨t,ht,k,hk,h1,h2⟩;refine ⟨k,hk,?_⟩
  grind [Du]
 ·rintro ⟨k,hk,h⟩;have hn:¬ (bj p i≠0->bj p k≠0->pat p i+bj p i<=pat p k\/pat p k+bj p k<=pat p i):=λh2=>by rw[GN.2 h2] at h;cases h
  by_cases c1:bj p i=0
  ·grind
  ·by_cases c2:bj p k=0
   ·grind
   ·have c3:¬ (pat p i+bj p i<=pat p k):=λh3=>hn λ_ _=>.inl h3;have c4:¬ (pat p k+bj p k<=pat p i):=λh3=>hn λ_ _=>.inr h3;exact ⟨max (pat p i) (pat p k) - pat p i,by omega,k,hk,by omega,by omega⟩
theorem abx (p:List UInt8) (n:Nat):(List.range n).any (JT p)=!(List.range n).all (λi=>(List.range i).all (Du p i)):=by
 grind [Xq]
theorem Bc (p:List UInt8) (hl:p.length<=maxLen):bi.ab (p,())=some (Eo p,()):=by
 refine ag (k:=300) λk hk=>(bi.af k _).trans ?_;unfold bi.p Eo;have e0:decide ((p.length:Int)=64)=decide (p.length=64):=by grind
 rw[e0];by_cases hp:p.length=64;rotate_left
 ·grind
 have hn:pn p < 256:=qa p 0;have za:fh p < 256:=qa p 1;have hw:ae ((2:Int)+ae ((2:Int)*(pn p:Int)))=((2+2*pn p:Nat):Int):=HH Bys;have hb1:((p[1]'Bys).toNat)=fh p:=(kK (show 1 < p.length by omega)).2;have hwl:ae (fh p:Int)=(fh p:Int):=Ep p 1;simp only[hp,aP,aW,aE,gr (show 1 < p.length by omega),hb1,hwl,vR hp,aA,hw,aL];by_cases c1:pn p<=16;rotate_left
 ·grind
 have n1:¬ ((16:Int) < (pn p:Int)):=by omega
 simp only[n1,aI,aE,c1,eQ];by_cases c2:2+2*pn p<=fh p;rotate_left
 ·grind
 have n2:¬ ((fh p:Int) < ((2+2*pn p:Nat):Int)):=by omega
 simp only[n2,aI,aE,c2,eQ];by_cases c3:fh p<=64;rotate_left
 ·grind
 have n3:¬ ((64:Int) < (fh p:Int)):=by omega
 simp only[n3,aI,aE,c3,aL]
 have first:bi.r0 k (p,()) (pn p:Int) (fh p:Int) (0:Int)=if (List.range (pn p)).all (GK p) then bi.Q0 k (p,()) (pn p:Int) (fh p:Int) () else some ((3:Int),()):=by
  have:=ff (B:=λself v=>bi.b0 self (λz=>bi.Q0 k (p,()) (pn p:Int) (fh p:Int) z) (p,()) (pn p:Int) (fh p:Int) v) (List.range (pn p)) (λ(_:Unit) (i:Int)=>i) (λ_ _ x=>if GK p x then .inr () else .inl (some ((3:Int),()))) (λ_=>bi.Q0 k (p,()) (pn p:Int) (fh p:Int) ()) (λ_ _=>True) (by grind)
   (λi hi s self _=>by
    rw[eF] at hi
    grind [bi.b0,pat,qa,bj,bf,Dv,GK])
   (λ_ _ _ _ _ _=>trivial) (λs self _=>by
    grind [bi.b0]) () trivial k (by grind)
  rw[Kp] at this;exact this
 rw[first];by_cases oH:(List.range (pn p)).all (GK p)=true;rotate_left
 ·grind
 simp only[oH,aL];have hs:∀ i,i < pn p->bj p i≠0->fh p<=pat p i/\pat p i+bj p i<=64:=λi hi=>((Iy Bys).1 (bJ.1 oH i (cD.2 hi))).1
 have inner:∀ (self:((List UInt8)×Int×(List Bool)×Int×Int)->Option bi.O) (e2:((List UInt8)×Int)->Option bi.O) (i:Nat) (hi:i < pn p),bi.r2 k self e2 (p,()) p (pn p:Int) (pat p i:Int) (bj p i:Int) (pn p:Int) (i:Int) ((List.range 64).map (uX p i),(pat p i:Int))=if JT p i then some ((8:Int),()) else self (p,(pn p:Int),(List.range 64).map (uX p (i+1)),(pn p:Int),ae ((i:Int)+1)):=λself e2 i hi=>by
  have h1:pat p i < 256:=qa p _;have h2:bj p i < 256:=qa p _;have Dg:ae ((pat p i:Int)+(bj p i:Int))=((pat p i+bj p i:Nat):Int):=by grind [bf]
  have:=ff (B:=λko v=>bi.b2 ko (λz=>bi.q1 self e2 (p,()) p (pn p:Int) (pat p i:Int) (bj p i:Int) (pn p:Int) (i:Int) z) (p,()) p (pn p:Int) (pat p i:Int) (bj p i:Int) (pn p:Int) (i:Int) v) (List.range (bj p i)) (λ(s:List Bool) (t:Int)=>(s,(pat p i:Int)+t)) (λ_ s t=>if uX p i (pat p i+t) then .inl (some ((8:Int),())) else .inr (AI p i (t+1))) (λ_=>self (p,(pn p:Int),(List.range 64).map (uX p (i+1)),(pn p:Int),ae ((i:Int)+1))) (λt s=>s=AI p i t) (by grind)
   (λt ht s ko hI=>by
    rw[eF] at ht;subst hI;obtain ⟨g1,g2⟩:=hs i hi Bys;show bi.b2 _ _ _ _ _ _ _ _ _ _=_;unfold bi.b2;have bc:(pat p i:Int)+(t:Int) < ((pat p i+bj p i:Nat):Int):=by omega
    have Sl:(0:Int)<=(pat p i:Int)+(t:Int):=by omega
    have hlen:(pat p i:Int)+(t:Int) < ((AI p i t).length:Int):=by rw[Lm];omega
    have htn:((pat p i:Int)+(t:Int)).toNat=pat p i+t:=by omega
    have aeD:¬ (pat p i<=pat p i+t/\pat p i+t < pat p i+t):=by omega
    have hwt:ae ((pat p i:Int)+(t:Int)+1)=(pat p i:Int)+ae ((t:Int)+1):=by grind [bf]
    grind [Ll,ZC])
   (λt ht s s' hI hf=>by
    grind) (λs ko hI=>by
    rw[eF] at hI ⊢;show bi.b2 _ _ _ _ _ _ _ _ _ _=_;unfold bi.b2;have bc:¬ ((pat p i:Int)+(bj p i:Int) < ((pat p i+bj p i:Nat):Int)):=by omega
    simp only[Dg,bc,aI,aE];rw[hI,ZB]
    rfl) (AI p i 0) rfl k (by grind)
  rw[Iz] at this;rw[<-ZA];simp only[Int.add_zero] at this;exact this
 have outer:bi.r1 k (p,()) (pn p:Int) (fh p:Int) (p,(pn p:Int),List.replicate 64 false,(pn p:Int),(0:Int))=if (List.range (pn p)).any (JT p) then some ((8:Int),()) else bi.q2 (p,()) (p,(pn p:Int)):=by
  have:=ff (B:=λself v=>bi.B1 k self (λz=>bi.q2 (p,()) z) (p,()) v) (List.range (pn p)) (λ(s:List Bool) (i:Int)=>(p,(pn p:Int),s,(pn p:Int),i)) (λ_ s x=>if JT p x then .inl (some ((8:Int),())) else .inr ((List.range 64).map (uX p (x+1)))) (λ_=>bi.q2 (p,()) (p,(pn p:Int))) (λi s=>s=(List.range 64).map (uX p i)) (by grind)
   (λi hi s self hI=>by
    rw[eF] at hi;subst hI;show bi.b1 _ _ _ _ _=_
    grind [bi.b1,Dv])
   (λi hi s s' hI hf=>by
    grind) (λs self _=>by
    rw[eF];show bi.b1 _ _ _ _ _=_
    grind [bi.b1]) (List.replicate 64 false) (by show _=(List.range 64).map (λ_=>false);decide) k (by grind)
  rw[Iz] at this;exact this
 show bi.q0 _ _ _ _ _=_;unfold bi.q0;rw[outer,abx];by_cases Dh:(List.range (pn p)).all (λi=>(List.range i).all (Du p i))=true;rotate_left
 ·grind
 simp only[Dh,aW,aF,aU,aL];show bi.q2 _ _=_;unfold bi.q2;by_cases h0:0 < pn p
 ·have bc:(0:Int) < (pn p:Int):=by omega
  have hwm:ae (ae ((2:Int)*(pn p:Int))+1)=((2*pn p+1:Nat):Int):=by grind [bf]
  have hz:((p[2*pn p+1]'Bys).toNat)=bj p (pn p - 1):=by
   rw[(kK (show 2*pn p+1 < p.length by omega)).2];show pb p _=pb p _;congr 1;omega
  simp only[bc,aP,aM,hwm,aR,aL,aD,gr (show 2*pn p+1 < p.length by omega),hz,h0,eQ];grind
 grind
theorem rt {V S O:Type} {B:(V->Option O)->V->Option O} (n:Nat) (enc:S->Int->V) (f:Nat->S->Sum (Option O) S) (fin:S->Option O) (I:Nat->S->Prop) (hn:n<=1048576)
  (gb:∀ (i:Nat),i < n->∀ (s:S) self,I i s->B self (enc s (i:Int))=match f i s with | .inl o=>o | .inr s'=>self (enc s' (ae ((i:Int)+1))))
  (hI:∀ (i:Nat),i < n->∀ (s s':S),I i s->f i s=.inr s'->I (i+1) s')
  (qW:∀ (s:S) self,I n s->B self (enc s (n:Int))=fin s) (s:S) (h0:I 0 s) (k:Nat) (hk:n < k):ao B k (enc s 0)=bu (λ_ s x=>f x s) fin 0 (List.range n) s:=
 ff (List.range n) enc (λ_ s x=>f x s) fin I (by grind [an])
  (λi hi s self h=>by grind)
  (λi hi s s' h hf=>by grind)
  (λs self h=>by grind) s h0 k (by grind)
theorem GV {O α β:Type} (g:α->List β) (fin:List β->O):∀ (xs:List α) (i:Nat) (s:List β),bu (λ_ s x=>.inr (s++g x)) fin i xs s=fin (s++xs.flatMap g)
 | [],_,s=>by simp[bu]
 | x::xs,i,s=>by simp only[bu];rw[GV g fin xs (i+1)];simp[bV]
abbrev Dw:Row:=((0:Int),(0:Int),(0:Int),([]:List UInt8),())
abbrev MR:uw:=((0:Int),(0:Int),(0:Int),(0:Int),Dw,())
abbrev GW:uw:=((5:Int),(0:Int),(0:Int),(0:Int),Dw,())
def wj (d:List UInt8):Row:=((pb d 1:Int),(pb d 2:Int),(pb d 3:Int)*256+(pb d 4:Int),d.drop 6,())
def ef (d:List UInt8):uw×Bool:=
 if d.length=3/\pb d 0=1 then (((0:Int),(1:Int),(pb d 1:Int),(pb d 2:Int),Dw,()),decide (pb d 1<=11)&&decide (pb d 2<=15))
 else if d.length < 6\/pb d 0=1\/2 < pb d 0\/d.length≠6+pb d 5 then (MR,false)
 else (((0:Int),(pb d 0:Int),(0:Int),(0:Int),wj d,()),decide (gz (wj d)=0))
theorem aby {a b:Nat} (ha:a < 256) (hb:b < 256):((BitVec.ofInt 64 (ae ((a:Int)*2 ^ 8)) ||| BitVec.ofInt 64 (b:Int)).toNat:Int)=(a:Int)*256+(b:Int):=by
 have e1:ae ((a:Int)*2 ^ 8)=((2 ^ 8*a:Nat):Int):=by grind [bf]
 rw[e1,BitVec.toNat_or]
 have e2:(BitVec.ofInt 64 ((2 ^ 8*a:Nat):Int)).toNat=2 ^ 8*a:=by
  rw[gZ];omega
 have e3:(BitVec.ofInt 64 (b:Int)).toNat=b:=by
  grind
 rw[e2,e3,<- Nat.two_pow_add_eq_or_of_lt Bys a];omega
theorem IA (d:List UInt8) (hd:d.length<=100):pX.ab (d,())=some ((ef d).1,(ef d).2,()):=by
 refine ag (k:=0) λk _=>(pX.af k _).trans ?_;show pX.p _=_;unfold pX.p ef;have b0:=qa d 0;have b1:=qa d 1;have b2:=qa d 2;have b3:=qa d 3;have b4:=qa d 4;have b5:=qa d 5;by_cases h3:d.length=3
 ·have e3:decide ((d.length:Int)=3)=true:=aS Bys;have e6:decide ((d.length:Int) < 6)=true:=aS Bys;have hl6:d.length < 6:=by omega
  simp only[e3,e6,aM,gr (show 0 < d.length by omega),(kK (show 0 < d.length by omega)).2];by_cases h1:pb d 0=1
  ·have e1:decide ((pb d 0:Int)=1)=true:=aS Bys;rw[aH ⟨h3,h1⟩];simp only[e1,aM,gr (show 1 < d.length by omega),(kK (show 1 < d.length by omega)).2,gr (show 2 < d.length by omega),(kK (show 2 < d.length by omega)).2,Ep]
   have i9:tU.ab ((pb d 1:Int),(pb d 2:Int),())=some (decide (pb d 1<=11)&&decide (pb d 2<=15),()):=by
    refine ag (k:=0) λk _=>(tU.af k _).trans ?_;grind [tU.p,o5,decide]
   grind
  grind
 ·have e3:decide ((d.length:Int)=3)=false:=aK Bys;simp only[e3,aE,h3,false_and,aU];by_cases h6:d.length < 6
  ·grind
  ·have e6:decide ((d.length:Int) < 6)=false:=aK Bys;simp only[e6,aE,gr (show 0 < d.length by omega),(kK (show 0 < d.length by omega)).2,h6,false_or];by_cases h1:pb d 0=1
   ·grind
   have e1:decide ((pb d 0:Int)=1)=false:=aK Bys;simp only[e1,aE,h1,false_or];by_cases h2:2 < pb d 0
   ·grind
   have e2:decide ((2:Int) < (pb d 0:Int))=false:=aK Bys;have w6:ae ((6:Int)+(pb d 5:Int))=((6+pb d 5:Nat):Int):=by grind [bf]
   simp only[e2,aE,h2,false_or,gr (show 5 < d.length by omega),(kK (show 5 < d.length by omega)).2,Ep,w6];by_cases h5:d.length=6+pb d 5;rotate_left
   ·grind
   have e5:decide ((d.length:Int)=((6+pb d 5:Nat):Int))=true:=aS Bys;have h6':(0:Int)<=6/\(6:Int)<=(d.length:Int):=by omega
   have w3:ae (ae ((pb d 3:Int)*256)+(pb d 4:Int))=(pb d 3:Int)*256+(pb d 4:Int):=by grind [bf]
   have ht:(d.take d.length).drop 6=d.drop 6:=by rw[eJ]
   have hr:g_.ab (wj d,())=some (gz (wj d),()):=z7 (wj d) (by grind [an,wj]);unfold wj at hr;rw[aN (λh=>h h5)]
   simp only[e5,aW,aE,gr (show 1 < d.length by omega),(kK (show 1 < d.length by omega)).2,gr (show 2 < d.length by omega),(kK (show 2 < d.length by omega)).2,
    gr (show 3 < d.length by omega),(kK (show 3 < d.length by omega)).2,gr (show 4 < d.length by omega),(kK (show 4 < d.length by omega)).2,Ep,w3,ht,hr,aA]
   rw[aH Bys];rfl
theorem HI (d:List UInt8) (hd:d.length<=100):lD.ab (d,())=some (if (ef d).2 then (ef d).1 else GW,()):=by
 refine ag (k:=0) λk _=>(lD.af k _).trans ?_;show lD.p _=_;unfold lD.p;have b0:=qa d 0;have b1:=qa d 1;have b2:=qa d 2;have b3:=qa d 3;have b4:=qa d 4;have b5:=qa d 5;by_cases h3:d.length=3
 ·grind [pb,ef,Ep]
 ·have e3:decide ((d.length:Int)=3)=false:=aK Bys;simp only[e3,aE];by_cases h6:d.length < 6
  ·grind [ef]
  ·have e6:decide ((d.length:Int) < 6)=false:=aK Bys
   have hc:ef d=if pb d 0=1\/2 < pb d 0\/d.length≠6+pb d 5 then (MR,false) else (((0:Int),(pb d 0:Int),(0:Int),(0:Int),wj d,()),decide (gz (wj d)=0)):=by
    grind [ef]
   have hlen:∀ i,i < 6->i < d.length:=λi hi=>by omega
   have w6:ae ((6:Int)+(pb d 5:Int))=((6+pb d 5:Nat):Int):=by grind [bf]
   have h6':(0:Int)<=6/\(6:Int)<=(d.length:Int):=by omega
   have w3:ae ((BitVec.ofInt 64 (ae ((pb d 3:Int)*2 ^ 8)) ||| BitVec.ofInt 64 (pb d 4:Int)).toNat:Int)=(pb d 3:Int)*256+(pb d 4:Int):=by rw[aby b3 b4,bf Bys]
   have ht:(d.take d.length).drop 6=d.drop 6:=by rw[eJ]
   have hr:d9.ab (wj d,())=some (gz (wj d),()):=z8 (wj d) (by grind [an,wj]);unfold wj at hr
   simp only[e6,aE,gr (show 0 < d.length by omega),(kK (show 0 < d.length by omega)).2,gr (show 5 < d.length by omega),(kK (show 5 < d.length by omega)).2,gr (show 1 < d.length by omega),(kK (show 1 < d.length by omega)).2,gr (show 2 < d.length by omega),(kK (show 2 < d.length by omega)).2,
    gr (show 3 < d.length by omega),(kK (show 3 < d.length by omega)).2,gr (show 4 < d.length by omega),(kK (show 4 < d.length by omega)).2,Ep,w6,h6'.2,show (0:Int)<=6 by omega,cP,aL,w3,ht,hr,aA]
   have e5:decide ((d.length:Int)=((6+pb d 5:Nat):Int))=decide (d.length=6+pb d 5):=by grind
   have e0:decide ((pb d 0:Int)=0)=decide (pb d 0=0):=by grind
   have e2:decide ((pb d 0:Int)=2)=decide (pb d 0=2):=by grind
   rw[e5,e0,e2]
   have fin:∀ (c5:d.length=6+pb d 5) (c0:¬ (pb d 0=1\/2 < pb d 0\/d.length≠6+pb d 5)),(bif !decide (gz ((pb d 1:Int),(pb d 2:Int),(pb d 3:Int)*256+(pb d 4:Int),d.drop 6,())=0) then some (GW,()) else some (((0:Int),(pb d 0:Int),(0:Int),(0:Int),((pb d 1:Int),(pb d 2:Int),(pb d 3:Int)*256+(pb d 4:Int),d.drop 6,()),()),()))=some (if (ef d).2 then (ef d).1 else GW,()):=λc5 c0=>by
    rw[hc,aN c0];show (bif !decide (gz (wj d)=0) then some (GW,()) else some (((0:Int),(pb d 0:Int),(0:Int),(0:Int),wj d,()),()))=some (if decide (gz (wj d)=0)=true then ((0:Int),(pb d 0:Int),(0:Int),(0:Int),wj d,()) else GW,());grind
   have bad:(pb d 0=1\/2 < pb d 0\/d.length≠6+pb d 5)->(some (GW,()):Option lD.O)=some (if (ef d).2 then (ef d).1 else GW,()):=λh=>by
    grind
   by_cases c5:d.length=6+pb d 5
   ·rw[aS c5];by_cases c0:pb d 0=0
    ·simp_all
    grind
   grind
section
variable {p:List UInt8} (hp:iw p)
include hp
theorem Aa (s:Nat):jd.ab (p,(s:Int),())=some (decide (s < pn p)&&!decide (bj p s=0),()):=by
 refine ag (k:=0) λk _=>(jd.af k _).trans ?_;show jd.p _=_;unfold jd.p;have h0:(0:Int)<=(s:Int):=by omega
 have hn:=hp.n;have hl:=hp.len;grind [vR,decide,bj,kK,Pk]
theorem Xr (s:Nat):uC.ab (p,(s:Int),())=some (decide (s < pn p)&&!decide (bj p s=0),()):=by
 refine ag (k:=0) λk _=>(uC.af k _).trans ?_;show uC.p _=_;unfold uC.p;have hn:=hp.n;have hl:=hp.len;grind [bf,rK,o5,decide_eq_false,xA]
theorem Om {s:Nat} (hs:s < pn p):pat p s+bj p s<=64:=by
 by_cases hz:bj p s=0
 ·have:=hp.zero s hs hz;omega
 ·exact (hp.slot s hs hz).2
theorem B7 {s:Nat} (hs:s < pn p):nz.ab (p,(s:Int),())=some (jP p s,()):=by
 refine ag (k:=0) λk _=>(nz.af k _).trans ?_;show nz.p _=_;unfold nz.p jP;have hn:=hp.n;have hl:=hp.len;have hc:=Om hp hs;grind [bf,Dv,Int.toNat_natCast,List.drop_take]
theorem B8 {s:Nat} (hs:s < pn p):nA.ab (p,(s:Int),())=some (jP p s,()):=by
 refine ag (k:=0) λk _=>(nA.af k _).trans ?_;show nA.p _=_;unfold nA.p jP;have hn:=hp.n;have hl:=hp.len;have hc:=Om hp hs;have hw:ae ((pat p s:Int)+(bj p s:Int))=((pat p s+bj p s:Nat):Int):=by grind [bf]
 grind [Pm,xA,cr,List.drop_take]
end
theorem Bd {p:List UInt8} (hp:iw p) {s:Nat} (hs:s < pn p):(jP p s).length<=64:=by
 have:=qu hp hs;have:=Om hp hs;omega
def rk (x:Row):Int×Int:=(x.1,x.2.1)
theorem GX (a b:Int×Int):jZ a b=true↔a.1 < b.1\/(a.1=b.1/\a.2 < b.2):=by grind [jZ]
theorem wk {a b c:Int×Int} (h1:jZ a b=true) (h2:jZ b c=true):jZ a c=true:=by
 grind [GX]
theorem wl (a:Int×Int):jZ a a=false:=by
 grind [GX]
theorem ZD {a b:Int×Int} (h:jZ a b=true):jZ b a=false:=by
 grind [GX]
theorem AJ {a b:Int×Int} (h1:jZ a b=false) (h2:jZ b a=false):a=b:=by
 grind [GX]
def up (xs:List Row):Prop:=xs.Pairwise (λa b=>jZ (rk a) (rk b)=true)
theorem Fu {x:Row} {xs:List Row}:up (x::xs)↔(∀ y ∈ xs,jZ (rk x) (rk y)=true)/\up xs:=dM
def pos:List Row->Int×Int->Nat
 | [],_=>0
 | x::xs,k=>if jZ (rk x) k then pos xs k+1 else 0
theorem IB:∀ (xs:List Row) (k:Int×Int),pos xs k<=xs.length
 | [],_=>aG _
 | x::xs,k=>by simp only[pos];split <;> simp[IB xs k]
theorem Dx:∀ (xs:List Row) (k:Int×Int) (i:Nat) (h:i < xs.length),i < pos xs k->jZ (rk xs[i]) k=true
 | x::xs,k,i,h,hp=>by
  simp only[pos] at hp;split at hp
  ·rename_i hx
   cases i with
   | zero=>exact hx
   | succ i=>exact Dx xs k i (by simpa using h) Bys
  ·omega
theorem Ab:∀ (xs:List Row) (k:Int×Int) (i:Nat) (h:i < xs.length),up xs->pos xs k<=i->jZ (rk xs[i]) k=false
 | x::xs,k,i,h,hu,hp=>by
  simp only[pos] at hp;split at hp
  ·cases i with
   | zero=>omega
   | succ i=>exact Ab xs k i (by simpa using h) (Fu.1 hu).2 Bys
  ·rename_i hx;have hx:jZ (rk x) k=false:=by simpa using hx
   cases i with
   | zero=>exact hx
   | succ i=>
    have vP:i < xs.length:=by simpa using h
    have hm:jZ (rk x) (rk xs[i])=true:=(Fu.1 hu).1 _ (aJ _);grind [wk]
def oQ (xs:List Row) (k:Int×Int):Bool:=match xs[pos xs k]? with
 | some x=>decide (rk x=k)
 | none=>false
theorem wK {xs:List Row} {k:Int×Int} (h:oQ xs k=true):∃ hp:pos xs k < xs.length,rk xs[pos xs k]=k:=by
 grind [oQ]
theorem ZE (a b:Row):decide ((if jZ (a.1,a.2.1) (b.1,b.2.1) then (-1:Int) else if jZ (b.1,b.2.1) (a.1,a.2.1) then 1 else 0) < 0)=jZ (rk a) (rk b):=by
 grind [rk]
theorem GY (a b:Row):sameKey a b=decide (rk a=rk b):=by
 grind [sameKey,rk]
theorem half (lo hi:Nat) (h:lo+hi<=4611686018427387904):ae ((IntKind.wrap .u64 (ae ((lo:Int)+(hi:Int)))).fdiv (2 ^ 1))=(((lo+hi) / 2:Nat):Int):=by
 grind [bf,IntKind.wrap,IntKind.bits]
theorem IC (xs:List Row) (key:Row) (f:Nat×Int) (hu:up xs) (hl:xs.length<=2000000):bY.ab (xs,key,f,())=some ((pos xs (rk key):Int),oQ xs (rk key),()):=by
 have hp:=IB xs (rk key)
 have hq:bY.q0 (xs,key,f,()) (pos xs (rk key):Int)=some ((pos xs (rk key):Int),oQ xs (rk key),()):=by
  grind [bY.q0,oQ,GI,MO,GY]
 refine ag (k:=xs.length+1) λk hk=>(bY.af k _).trans ?_
 refine vY (B:=λself v=>bY.b0 self (λz=>bY.q0 (xs,key,f,()) z) (xs,key,f,()) v) (λ_=>((pos xs (rk key):Int),oQ xs (rk key),()))
  (λv=>∃ lo hi:Nat,v=((lo:Int),(hi:Int))/\lo<=pos xs (rk key)/\pos xs (rk key)<=hi/\hi<=xs.length) (λv=>(v.2 - v.1).toNat) (λv hv self=>?_) k (0,(xs.length:Int)) ⟨0,xs.length,rfl,by omega,hp,by omega⟩ (by simp;omega)
 obtain ⟨lo,hi,rfl,h1,h2,h3⟩:=hv;by_cases bc:lo < hi
 ·right;have F7:(lo:Int) < (hi:Int):=by omega
  have hm:(lo+hi) / 2 < xs.length:=by omega
  have hb:∀ self,bY.b0 self (λz=>bY.q0 (xs,key,f,()) z) (xs,key,f,()) ((lo:Int),(hi:Int))=if jZ (rk xs[(lo+hi) / 2]) (rk key) then self (ae ((((lo+hi) / 2:Nat):Int)+1),(hi:Int)) else self ((lo:Int),(((lo+hi) / 2:Nat):Int)):=λself=>by
   grind [bY.b0,half,Int.toNat_natCast,GI,ZE]
  cases hc:jZ (rk xs[(lo+hi) / 2]) (rk key) with
  | true=>
   refine ⟨((((lo+hi) / 2+1:Nat):Int),(hi:Int)),?_,rfl,⟨_,_,rfl,?_,h2,h3⟩,by grind⟩
   all_goals grind [bf,Ab]
  | false=>
   refine ⟨((lo:Int),(((lo+hi) / 2:Nat):Int)),?_,rfl,⟨_,_,rfl,h1,?_,by omega⟩,by grind⟩
   all_goals grind [Dx]
 grind [bY.b0]
def sK (xs:List Row) (c:Change):Bool:=(oQ xs (ck c) == c.1)&&(!oQ xs (ck c)||(match xs[pos xs (ck c)]? with | some x=>Ty.eq ay x c.2.1 | none=>true))
def nC (xs:List Row) (c:Change):List Row:=xs.take (pos xs (ck c))++(if c.2.2.1 then [c.2.2.2.1] else [])++xs.drop (pos xs (ck c)+if oQ xs (ck c) then 1 else 0)
theorem ZF (c:Change):rk (BB c)=ck c:=zh c
theorem Pn (c:Change) (xs:List Row) (hu:up xs) (hl:xs.length<=2000000):ln.ab (c,xs,())=some (sK xs c,()):=by
 refine ag (k:=0) λk _=>(ln.af k _).trans ?_;grind [ln.p,sK,xV,IC,ZF,wK]
theorem Xs (xs:List Row) (c:Change) (hu:up xs) (hl:xs.length<=2000000):sv.ab (xs,c,())=some (nC xs c,()):=by
 refine ag (k:=0) λk _=>(sv.af k _).trans ?_;show sv.p _=_;unfold sv.p nC;have hp:=IB xs (ck c);have Kj:0<=((pos xs (ck c):Nat):Int)/\((pos xs (ck c):Nat):Int)<=(xs.length:Int):=by omega
 have c1:([]:List Row).length+(List.take (pos xs (ck c)) xs).length<=be:=cr (by simp;omega);simp only[xV,IC xs _ _ hu hl,ZF,aA,Kj,cP,aL,aD,c1,eD,cJ,eJ];have c2:(List.take (pos xs (ck c)) xs).length+[c.2.2.2.1].length<=be:=cr (by simp;omega);have hd:∀ (p7:List Row) (n:Nat),p7.length<=2000001->p7.length+(List.drop n xs).length<=be:=λp7 n h=>cr (by grind);have hw:ae (((pos xs (ck c):Nat):Int)+1)=((pos xs (ck c)+1:Nat):Int):=by grind [bf]
 have c3:=hd (List.take (pos xs (ck c)) xs++[c.2.2.2.1]);have c4:=hd (List.take (pos xs (ck c)) xs);have l3:(List.take (pos xs (ck c)) xs++[c.2.2.2.1]).length<=2000001:=by simp;omega
 have l4:(List.take (pos xs (ck c)) xs).length<=2000001:=by simp;omega
 cases hf:oQ xs (ck c) with
 | false=>
  grind
 | true=>
  obtain ⟨i9,_⟩:=wK hf;grind
theorem HJ (a b:Row):ph.ab (a,b,())=some (jZ (rk a) (rk b),()):=by
 refine ag (k:=0) λk _=>(ph.af k _).trans ?_;grind [ph.p,jZ,rk]
theorem Vt {xs:List Row} {k:Int×Int} (h:oQ xs k=true):∃ y ∈ xs,rk y=k:=by
 obtain ⟨hp,hk⟩:=wK h;grind
theorem Vu (k:Int×Int):∀ (xs:List Row) (j:Nat),up xs->bu (λi (_:Unit) x=>if rk x=k then .inl ((i:Int),()) else .inr ()) (λ_=>((-1:Int),())) j xs ()=if oQ xs k then (((j+pos xs k:Nat):Int),()) else (-1,())
 | [],j,_=>by simp[bu,oQ]
 | x::xs,j,hu=>by
  have hu:=Fu.1 hu;simp only[bu];by_cases hx:rk x=k
  ·grind [wl,oQ,pos]
  ·simp only[hx,aU];rw[Vu k xs (j+1) hu.2];grind [pos,oQ]
def BC (xs:List Row) (k:Int×Int):Int:=if oQ xs k then (pos xs k:Int) else -1
theorem ID (xs:List Row) (t k:Int) (hu:up xs) (hl:xs.length<=2000000):mB.ab (xs,t,k,())=some (BC xs (t,k),()):=by
 refine ag (k:=xs.length+1) λf hf=>(mB.af f _).trans ?_
 have:=cy (B:=λself v=>mB.b0 self (λz=>mB.q0 (xs,t,k,()) z) (xs,t,k,()) v) xs (λ(_:Unit) (i:Int)=>i) (λi _ x=>if rk x=(t,k) then .inl ((i:Int),()) else .inr ()) (λ_=>((-1:Int),())) (λ_ _=>True) (by rw[an];omega)
  (λi hi _ self _=>by
   grind [mB.b0,rk]) (λ_ _ _ _ _ _=>trivial) (λ_ self _=>by
   grind [mB.b0,mB.q0]) () trivial f Bys
 rw[Vu (t,k) xs 0 hu] at this;have this:mB.r0 f (xs,t,k,()) 0=_:=this;grind [mB.p,BC]
theorem Sm {O:Type} (k:Int×Int) (g:Nat->O) (n:Nat):∀ (xs:List Row) (j:Nat),j+xs.length=n->bu (λi (_:Unit) x=>if jZ (rk x) k then .inr () else .inl (g i)) (λ_=>g n) j xs ()=g (j+pos xs k)
 | [],j,h=>by grind [bu,pos]
 | x::xs,j,h=>by
  simp only[bu,pos]
  cases hb:jZ (rk x) k with
  | true=>
   simp only[aL];rw[Sm k g n xs (j+1) (by grind)];congr 1;omega
  | false=>simp
def sW (xs:List Row) (r:Row):List Row:=xs.take (pos xs (rk r))++[r]++xs.drop (pos xs (rk r))
theorem MS (xs:List Row) (r:Row) (hl:xs.length<=2000000):mA.ab (xs,r,())=some (sW xs r,()):=by
 refine ag (k:=xs.length+1) λf hf=>(mA.af f _).trans ?_
 have hq:∀ i:Nat,i<=xs.length->mA.q0 (xs,r,()) (i:Int)=some (xs.take i++[r]++xs.drop i,()):=λi hi=>by
  show mA.q0 _ _=_;unfold mA.q0;have Kj:0<=(i:Int)/\(i:Int)<=(xs.length:Int):=by omega
  have c1:([]:List Row).length+(List.take i xs).length<=be:=cr (by simp;omega);have c2:(List.take i xs).length+[r].length<=be:=cr (by simp;omega);have c3:(List.take i xs++[r]).length+(List.drop i xs).length<=be:=cr (by simp;omega);grind
 have:=cy (B:=λself v=>mA.b0 self (λz=>mA.q0 (xs,r,()) z) (xs,r,()) v) xs (λ(_:Unit) (i:Int)=>i) (λi _ x=>if jZ (rk x) (rk r) then .inr () else .inl (xs.take i++[r]++xs.drop i,())) (λ_=>(xs.take xs.length++[r]++xs.drop xs.length,())) (λ_ _=>True) (by rw[an];omega)
  (λi hi _ self _=>by
   show mA.b0 _ _ _ _=_;unfold mA.b0;have bc:(i:Int) < (xs.length:Int):=by omega
   simp only[bc,aP,aM,aR,aL,aD,aB hi,aA,HJ]
   cases jZ (rk xs[i]) (rk r) <;> grind) (λ_ _ _ _ _ _=>trivial) (λ_ self _=>by
   grind [mA.b0]) () trivial f Bys
 rw[Sm (rk r) (λi=>(xs.take i++[r]++xs.drop i,())) xs.length xs 0 Bys] at this;refine this.trans ?_;simp[sW]
theorem Ln (t:Int):∀ (xs:List Row) (j:Nat) (s:List Row),bu (O:=List Row×Unit) (λi s x=>if (i:Int)=t then .inr s else .inr (s++[x])) (λs=>(s,())) j xs s=(s++(if (j:Int)<=t/\t < j+xs.length then xs.take (t - j).toNat++xs.drop ((t - j).toNat+1) else xs),())
 | [],j,s=>by
  grind [bu]
 | x::xs,j,s=>by
  simp only[bu];by_cases h:(j:Int)=t
  ·have h1:¬ (((j+1:Nat):Int)<=t/\t < ((j+1:Nat):Int)+(xs.length:Int)):=by omega
   have h2:(j:Int)<=t/\t < (j:Int)+((x::xs).length:Int):=by simp;omega
   have h3:(t - j).toNat=0:=by omega
   simp only[h,aL];rw[Ln t xs (j+1) s,aN h1];grind
  ·simp only[h,aU];rw[Ln t xs (j+1) (s++[x])];grind
def Lo (xs:List Row) (k:Int×Int):List Row:=if oQ xs k then xs.take (pos xs k)++xs.drop (pos xs k+1) else xs
theorem MT (k:Int×Int):∀ (l1 l2:List Row),(∀ x ∈ l1,jZ (rk x) k=true)->pos (l1++l2) k=l1.length+pos l2 k
 | [],l2,_=>by simp
 | x::l1,l2,h=>by
  simp only[cY,pos,h x bF,aL,bI];rw[MT k l1 l2 λy hy=>h y (bA _ hy)];omega
theorem Dy {xs:List Row} {k:Int×Int} {x:Row} (h:x ∈ xs.take (pos xs k)):jZ (rk x) k=true:=by
 obtain ⟨i,hi,e⟩:=dD.1 h;grind [Dx]
theorem abz {xs:List Row} {k:Int×Int} (hu:up xs) {n:Nat} (hn:pos xs k<=n):pos (xs.drop n) k=0:=by
 grind [List.drop_eq_nil_of_le,List.drop_eq_getElem_cons,pos,Ab]
theorem adD {xs:List Row} {k:Int×Int} {r:Row} (hu:up xs) (hk:rk r=k):sW (Lo xs k) r=xs.take (pos xs k)++[r]++xs.drop (pos xs k+if oQ xs k then 1 else 0):=by
 have hp:=IB xs k
 have key:∀ n,pos xs k<=n->pos (xs.take (pos xs k)++xs.drop n) k=pos xs k:=λn hn=>by
  grind [MT,Dy,abz]
 have hl:(xs.take (pos xs k)).length=pos xs k:=by grind
 unfold sW Lo;grind
theorem Po (xs:List Row) (c:Change) (hu:up xs) (hl:xs.length<=2000000) (hc:c.2.2.1=true->rk c.2.2.2.1=ck c):lr.ab (xs,c,())=some (if sK xs c then (nC xs c,true,()) else ([],false,())):=by
 refine ag (k:=xs.length+1) λf hf=>(lr.af f _).trans ?_;have hp:=IB xs (ck c)
 have ZG:=cy (B:=λself v=>lr.b0 self (λz=>lr.q0 (xs,c,()) (BC xs (ck c)) z) (xs,c,()) (BC xs (ck c)) v) (O:=List Row×Bool×Unit) xs (λ(s:List Row) (i:Int)=>(s,i)) (λi s x=>if (i:Int)=BC xs (ck c) then .inr s else .inr (s++[x]))
  (λs=>(if c.2.2.1 then sW s c.2.2.2.1 else s,true,())) (λi s=>s.length<=i) (by rw[an];omega)
  (λi hi s self hI=>by
   grind [lr.b0,cr]) (λi hi s s' hI hf=>by
   grind) (λs self hI=>by
   grind [lr.b0,lr.q0,MS]) [] (aG _) f Bys
 have Ir:∀ (xs0:List Row) (j:Nat) (s:List Row),bu (O:=List Row×Bool×Unit) (λi s x=>if (i:Int)=BC xs (ck c) then .inr s else .inr (s++[x])) (λs=>(if c.2.2.1 then sW s c.2.2.2.1 else s,true,())) j xs0 s
   = (λs=>(if c.2.2.1 then sW s c.2.2.2.1 else s,true,())) (bu (O:=List Row×Unit) (λi s x=>if (i:Int)=BC xs (ck c) then .inr s else .inr (s++[x])) (λs=>(s,())) j xs0 s).1:=by
  intro xs0
  induction xs0 <;> grind [bu]
 rw[Ir,Ln (BC xs (ck c)) xs 0 []] at ZG
 have aif:([]++(if ((0:Nat):Int)<=BC xs (ck c)/\BC xs (ck c) < ((0:Nat):Int)+(xs.length:Int) then xs.take (BC xs (ck c) - ((0:Nat):Int)).toNat++xs.drop ((BC xs (ck c) - ((0:Nat):Int)).toNat+1) else xs))=Lo xs (ck c):=by
  grind [BC,Lo,oQ]
 simp only[aif] at ZG;have ZG:lr.r0 f (xs,c,()) (BC xs (ck c)) (([]:List Row),(0:Int))=_:=ZG;unfold lr.p sK;simp only[z_,ID xs _ _ hu hl,aA,ZG]
 have aiD:(if c.2.2.1 then sW (Lo xs (ck c)) c.2.2.2.1 else Lo xs (ck c))=nC xs c:=by
  unfold nC
  cases hi:c.2.2.1 with
  | true=>grind [adD]
  | false=>
   simp only[aF,aU,cZ];unfold Lo;cases oQ xs (ck c) <;> simp_all
 grind [oQ,BC,Int.toNat_natCast]
def uZ (xs:List Row) (i:Nat) (x:Row):Sum (Int×Unit) Unit:=
 if gz x=0 then (if 0 < i then (match xs[i - 1]? with | some y=>if jZ (rk y) (rk x) then .inr () else .inl (1,()) | none=>.inl (1,())) else .inr ()) else .inl (gz x,())
def nk (xs:List Row):Int:=if 60 < xs.length then 2 else (bu (λi (_:Unit) x=>uZ xs i x) (λ_=>((0:Int),())) 0 xs ()).1
theorem Kq (xs:List Row) (hl:xs.length<=maxLen) (h:∀ c ∈ xs,rl c):lq.ab (xs,())=some (nk xs,()):=by
 refine ag (k:=xs.length+1) λk hk=>(lq.af k _).trans ?_
 have:=cy (B:=λself v=>lq.b0 self (λz=>lq.q0 (xs,()) z) (xs,()) v) xs (λ(_:Unit) (i:Int)=>i) (λi _ x=>uZ xs i x) (λ_=>(0,())) (λ_ _=>True) hl
  (λi hi _ self _=>by
   show lq.b0 _ _ _ _=_;unfold lq.b0 uZ;have bc:(i:Int) < (xs.length:Int):=by omega
   simp only[bc,aP,aM,aR,aL,aD,aB hi,aA,z7 _ (h _ (aJ hi))]
   grind [MP,Int.toNat_natCast,HJ]) (λ_ _ _ _ _ _=>trivial) (λ_ self _=>by
   grind [lq.b0,lq.q0]) () trivial k Bys
 have this:lq.r0 k (xs,()) 0=_:=this;grind [lq.p,nk]
theorem ER (xs:List Row) (hl:xs.length<=maxLen) (h:∀ c ∈ xs,rl c):gd.ab (xs,())=some (nk xs,()):=by
 refine ag (k:=xs.length+1) λk hk=>(gd.af k _).trans ?_
 have:=cy (B:=λself v=>gd.b0 self (λz=>gd.q0 (xs,()) z) (xs,()) v) xs (λ(_:Unit) (i:Int)=>i) (λi _ x=>uZ xs i x) (λ_=>(0,())) (λ_ _=>True) hl
  (λi hi _ self _=>by
   show gd.b0 _ _ _ _=_;unfold gd.b0 uZ rk;have bc:(i:Int) < (xs.length:Int):=by omega
   simp only[bc,aP,aM,aR,aL,aD,aB hi,aA,z8 _ (h _ (aJ hi))]
   grind [MP,Int.toNat_natCast,EQ]) (λ_ _ _ _ _ _=>trivial) (λ_ self _=>by
   grind [gd.b0,gd.q0]) () trivial k Bys
 have this:gd.r0 k (xs,()) 0=_:=this;grind [gd.p,nk]
theorem Pp {α:Type} {f:Nat->Unit->α->Sum (Int×Unit) Unit} (hf:∀ i s x o,f i s x=.inl o->o.1≠0):∀ (xs:List α) (j:Nat),(bu f (λ_=>((0:Int),())) j xs ()).1=0->∀ i (hi:i < xs.length),f (j+i) () xs[i]=.inr ()
 | x::xs,j,h,i,hi=>by
  simp only[bu] at h
  cases hx:f j () x with
  | inl o=>grind
  | inr u=>
   rw[hx] at h
   cases i with
   | zero=>exact hx
   | succ i=>
    have:=Pp hf xs (j+1) h i (by simpa using hi);grind
theorem ZH:∀ (xs:List Row),(∀ i (hi:i < xs.length),0 < i->jZ (rk (xs[i - 1]'Bys)) (rk xs[i])=true)->up xs
 | [],_=>List.Pairwise.nil
 | [x],_=>fW _ _
 | x::y::xs,h=>by
  have hu:up (y::xs):=ZH (y::xs) λi hi h0=>by
   have:=h (i+1) (by grind) Bys;grind
  have ur:jZ (rk x) (rk y)=true:=h 1 (by simp) Bys;refine Fu.2 ⟨λz hz=>?_,hu⟩;rcases aZ.1 hz with rfl | hz
  ·exact ur
  ·exact wk ur ((Fu.1 hu).1 z hz)
theorem zi {x:Row} (h:gz x=0):List.length x.2.2.2.1<=8:=by
 grind [gz,A_]
structure Good (xs:List Row):Prop where
 up:up xs
 ok:∀ x ∈ xs,gz x=0
theorem uF {xs:List Row} (h:nk xs=0):Good xs/\xs.length<=60:=by
 unfold nk at h;split at h
 ·cases h
 ·rename_i hl
  have hn:=Pp (f:=λi (_:Unit) x=>uZ xs i x) (λi s x o ho=>by
   grind [uZ]) xs 0 h
  have h1:∀ i (hi:i < xs.length),gz xs[i]=0:=λi hi=>by
   grind [uZ]
  refine ⟨⟨ZH xs λi hi h0=>?_,λx hx=>?_⟩,by omega⟩
  ·grind [uZ]
  ·obtain ⟨i,hi,rfl⟩:=dD.1 hx;exact h1 i hi
theorem pw {c:Change} (h:lg c=0):(c.2.2.1=true->rk c.2.2.2.1=ck c)/\(c.2.2.1=true->gz c.2.2.2.1=0):=by
 grind [rk,ck,lg]
theorem rL {xs:List Row} {c:Change} (h:Good xs) (hc:lg c=0):Good (nC xs c):=by
 obtain ⟨hk,hr⟩:=pw hc;have hb:=h.up;constructor
 ·unfold nC up;have h1:(xs.take (pos xs (ck c))).Pairwise (λa b=>jZ (rk a) (rk b)=true):=hb.sublist (List.take_sublist _ _);have L8:∀ n,(xs.drop n).Pairwise (λa b=>jZ (rk a) (rk b)=true):=λn=>hb.sublist (List.drop_sublist _ _)
  have aft:∀ y ∈ xs.drop (pos xs (ck c)+if oQ xs (ck c) then 1 else 0),jZ (ck c) (rk y)=true:=λy hy=>by
   obtain ⟨i,e⟩:=fA.1 hy;rw[bP] at e;obtain ⟨bc,e1⟩:=aO.1 e;have hn:=Ab xs (ck c) _ bc hb Bys;rw[e1] at hn;clear e1 bc
   cases Ie:jZ (ck c) (rk y) with
   | true=>rfl
   | false=>
    have he:=AJ Ie hn;exfalso
    cases hf:oQ xs (ck c) with
    | true=>
     obtain ⟨hp,OS⟩:=wK hf;rw[hf] at e;simp only[aL] at e;obtain ⟨bc,e⟩:=aO.1 e;have:=bM.1 hb (pos xs (ck c)) (pos xs (ck c)+1+i) hp bc Bys;grind
    | false=>
     rw[hf] at e;simp only[aF,aU,eM] at e;obtain ⟨bc,e⟩:=aO.1 e;have hp:pos xs (ck c) < xs.length:=by omega
     have HA:=Ab xs (ck c) _ hp hb (aG _)
     have i7:rk xs[pos xs (ck c)]≠ck c:=λe2=>by
      grind [oQ]
     have aiX:jZ (ck c) (rk xs[pos xs (ck c)])=true:=by
      grind [AJ]
     cases i with
     | zero=>
      grind
     | succ i=>
      have:=bM.1 hb (pos xs (ck c)) (pos xs (ck c)+(i+1)) hp bc Bys;grind
  have aiu:∀ a ∈ xs.take (pos xs (ck c)),∀ y ∈ xs.drop (pos xs (ck c)+if oQ xs (ck c) then 1 else 0),jZ (rk a) (rk y)=true:=λa ha y hy=>wk (Dy ha) (aft y hy);grind [Dy]
 ·intro x hx;unfold nC at hx;rcases bG.1 hx with hx | hx
  ·rcases bG.1 hx with hx | hx
   ·exact h.ok x (cX hx)
   grind
  ·exact h.ok x (bZ hx)
theorem Dz (xs:List Row) (c:Change):(nC xs c).length<=xs.length+1:=by
 grind [nC]
def xB (i:Nat) (s:List Row) (c:Change):Sum (Cs×Unit) (List Row):=if lg c=0 then (if sK s c then .inr (nC s c) else .inl ((8,[],()),())) else .inl ((lg c,[],()),())
def DA (s:List Row):Cs×Unit:=if 60 < s.length then ((2,[],()),()) else ((0,s,()),())
def MU (xs:List Row) (cs:List Change):Cs:=if nk xs=0 then (bu xB DA 0 cs xs).1 else (nk xs,[],())
theorem abA (n i:Nat) (s s':List Row) (c:Change) (h:Good s/\s.length<=60+i) (hf:xB n s c=.inr s'):Good s'/\s'.length<=60+(i+1):=by
 grind [xB,rL,Dz]
theorem ES (xs:List Row) (h:xs.length<=1048576):ju.ab (xs,())=some (xs,()):=by
 refine ag (k:=0) λk _=>(ju.af k _).trans ?_;show ju.p _=_;unfold ju.p;have c1:([]:List Row).length+xs.length<=be:=cr (by grind);exact Fm (λe=>by grind) (by grind)
theorem IE (xs:List Row) (cs:List Change) (hl:xs.length<=maxLen) (h:∀ x ∈ xs,rl x) (vz:cs.length<=1048576) (hc:∀ c ∈ cs,cl c):gj.ab (xs,cs,())=some (MU xs cs,()):=by
 refine ag (k:=cs.length+1) λk hk=>(gj.af k _).trans ?_;unfold gj.p MU;simp only[ER xs hl h,aA];by_cases h0:nk xs=0
 ·obtain ⟨hg,hn⟩:=uF h0;simp only[h0,aP,aW,aE,aL,ES xs Bys,aA]
  exact cy (B:=λself v=>gj.b0 self (λz=>gj.q0 (xs,cs,()) z) (xs,cs,()) v) cs (λ(s:List Row) (i:Int)=>(s,i)) xB DA (λi s=>Good s/\s.length<=60+i) (by rw[an];omega)
   (λi hi s self hI=>by
    show gj.b0 _ _ _ _=_;unfold gj.b0 xB;have bc:(i:Int) < (cs.length:Int):=by omega
    simp only[bc,aP,aM,aR,aL,aD,aB hi,aA,B6 _ (hc _ (aJ hi)),Pn _ s hI.1.up Bys,Xs s _ hI.1.up Bys]
    grind) (λi hi s s' hI hf=>abA _ i s s' _ hI hf) (λs self hI=>by
    grind [gj.b0,DA,gj.q0]) xs ⟨hg,by omega⟩ k Bys
 grind
theorem On:∀ {xs:List Row},(∀ x ∈ xs,gz x=0)->zz (.aa ay) xs<=9*xs.length
 | [],_=>aG _
 | x::xs,h=>by
  have h1:zz (.aa ay) (x::xs:List Row)=zz ay x+1+zz (.aa ay) xs:=Vk (e:=ay) x xs;have h2:=zi (h x bF);have h3:zz ay x=0+(0+(0+(List.length x.2.2.2.1+0))):=rfl;have h4:=On λy hy=>h y (bA _ hy);grind
theorem Sn {α β O:Type} [DecidableEq β] (g:α->Option β) (bad:O) (fin:Unit->O) (p:α->α->Bool) (hp:∀ x y,p x y=true↔∃ b,g x=some b/\g y=some b) (all:List α):∀ (xs pre:List α),all=pre++xs->(pre.filterMap g).Nodup->bu (λi _ x=>if (all.take i).any (p x) then .inl bad else .inr ()) fin pre.length xs ()=if (all.filterMap g).Nodup then fin () else bad
 | [],pre,h,hn=>by
  rw[cZ] at h;subst h;simp only[bu,hn,aL]
 | x::xs,pre,h,hn=>by
  have ht:all.take pre.length=pre:=by rw[h];exact List.take_left
  simp only[bu,ht];have st:all.filterMap g=pre.filterMap g++([x].filterMap g++xs.filterMap g):=by rw[h,<- gG (x:=x),cS,cS]
  cases hc:pre.any (p x) with
  | true=>
   simp only[aL];obtain ⟨y,hy,hpy⟩:=eL.1 hc;obtain ⟨b,h1,h2⟩:=(hp x y).1 hpy;rw[aN];intro vD;rw[st,dE] at vD;exact vD.2.2 b (hB.2 ⟨y,hy,h2⟩) b (by simp[h1]) rfl
  | false=>
   simp only[aF,aU]
   have:=Sn g bad fin p hp all xs (pre++[x]) (by rw[h];simp) (by
    rw[cS,dE];refine ⟨hn,?_,λa ha b hb e=>?_⟩
    ·cases hg:g x with
     | none=>simp[hg]
     | some b=>simp[hg]
    ·subst e;obtain ⟨y,hy,hgy⟩:=hB.1 ha;obtain ⟨z,hz,hgz⟩:=hB.1 hb;rw[bC] at hz;subst hz;have:pre.any (p z)=true:=eL.2 ⟨y,hy,(hp z y).2 ⟨a,hgz,hgy⟩⟩
     rw[this] at hc;cases hc)
   rw[bQ] at this;exact this
theorem ZI {α β O:Type} [DecidableEq β] (g:α->Option β) (bad:O) (fin:Unit->O) (p:α->α->Bool) (hp:∀ x y,p x y=true↔∃ b,g x=some b/\g y=some b) (xs:List α):bu (λi _ x=>if (xs.take i).any (p x) then .inl bad else .inr ()) fin 0 xs ()=if (xs.filterMap g).Nodup then fin () else bad:=
 Sn g bad fin p hp xs xs [] rfl fG
theorem B9 {α:Type} {lt:α->α->Prop} (has:∀ a b,lt a b->¬ lt b a):∀ (xs ys:List α),xs.Perm ys->xs.Pairwise lt->ys.Pairwise lt->xs=ys
 | [],ys,h,_,_=>(List.nil_perm.1 h).symm
 | x::xs,[],h,_,_=>by have:=h.length_eq;cases this
 | x::xs,y::ys,h,h1,h2=>by
  obtain ⟨a1,a2⟩:=dM.1 h1;obtain ⟨b1,b2⟩:=dM.1 h2;by_cases ur:x=y
  ·subst ur;rw[B9 has xs ys ((List.perm_cons x).1 h) a2 b2]
  ·have hx:x ∈ ys:=by
    have:=h.mem_iff.1 (bF (a:=x) (l:=xs));rcases aZ.1 this with e | e
    ·exact absurd e ur
    ·exact e
   have hy:y ∈ xs:=by
    have:=h.mem_iff.2 (bF (a:=y) (l:=ys));rcases aZ.1 this with e | e
    ·exact absurd e.symm ur
    ·exact e
   exact absurd (b1 x hx) (has _ _ (a1 y hy))
theorem Pq (xs:List Row) (r:Row):(sW xs r).Perm (r::xs):=by
 unfold sW;rw[bV];have:=gK (a:=r) (l₁:=xs.take (pos xs (rk r))) (l₂:=xs.drop (pos xs (rk r)));rw[cA] at this;exact this
theorem Vv {xs:List Row} {k:Int×Int} {x:Row} (hu:up xs) (h:x ∈ xs.drop (pos xs k)):jZ (rk x) k=false:=by
 obtain ⟨i,hi,e⟩:=dD.1 h;rw[cC] at hi;rw[iI] at e;rw[<-e];exact Ab xs k _ _ hu Bys
theorem adE {xs:List Row} {r:Row} (hu:up xs) (hn:∀ x ∈ xs,rk x≠rk r):up (sW xs r):=by
 unfold sW up;rw[bV,gO];have hd:=hu.drop (i:=pos xs (rk r));refine ⟨hu.take,?_,λa ha b hb=>?_⟩
 ·rw[gG,dM];refine ⟨λb hb=>?_,hd⟩
  have h1:=Vv hu hb;have h2:=hn b (bZ hb)
  cases h3:jZ (rk r) (rk b) with
  | true=>rfl
  | false=>exact absurd (AJ h1 h3) h2
 ·have h1:=Dy ha;rw[gG] at hb;rcases aZ.1 hb with e | e
  ·subst e;exact h1
  ·have h2:=Vv hu e;have h3:=hn b (bZ e)
   cases h4:jZ (rk a) (rk b) with
   | true=>rfl
   | false=>
    cases h5:jZ (rk b) (rk a) with
    | true=>rw[wk h5 h1] at h2;cases h2
    | false=>
     have:=AJ h4 h5;rw[this] at h1;rw[h1] at h2;cases h2
def MV (l:List Row):List Row:=l.foldl sW []
theorem MW:∀ (l acc:List Row),(l.foldl sW acc).Perm (l++acc)
 | [],acc=>jF _
 | r::l,acc=>by
  have h1:=MW l (sW acc r);have h2:(l++sW acc r).Perm (l++r::acc):=(jF l).append (Pq acc r);exact h1.trans (h2.trans gK)
theorem Cx (l:List Row):(MV l).Perm l:=by
 have:=MW l [];rw[cZ] at this;exact this
theorem So:∀ (l acc:List Row),up acc->(l.map rk++acc.map rk).Nodup->up (l.foldl sW acc)
 | [],acc,h,_=>h
 | r::l,acc,h,hn=>by
  simp only[dW,cY,cO,bG,jI] at hn;refine So l (sW acc r) (adE h λx hx e=>hn.1.2 (dT.2 ⟨x,hx,e⟩)) ?_
  have:(l.map rk++(sW acc r).map rk).Perm (rk r::(l.map rk++acc.map rk)):=by
   refine ((jF _).append ((Pq acc r).map rk)).trans ?_;rw[dW];exact gK
  rw[this.nodup_iff,cO,bG,jI];exact hn
theorem Sp {l:List Row} (h:(l.map rk).Nodup):up (MV l):=So l [] List.Pairwise.nil (by simpa using h)
theorem Sq {a b:Int×Int} (h:jZ a b=true):¬ jZ b a=true:=by rw[ZD h];exact λh=>by cases h
theorem ZJ {xs ys:List Row} (hp:xs.Perm ys) (hx:up xs) (hy:up ys):xs=ys:=B9 (λa b h=>Sq h) xs ys hp hx hy
theorem GZ {xs:List Row} (h:up xs):(xs.map rk).Nodup:=by
 unfold List.Nodup;rw[fZ];refine h.imp λh1 e=>?_;rw[e,wl] at h1;cases h1
abbrev bp:Type:=List (List UInt8)
def DB {α β:Type} (g:Nat->α->List β):Nat->List α->List β
 | _,[]=>[]
 | i,x::xs=>g i x++DB g (i+1) xs
theorem IF {O α β:Type} (g:Nat->α->List β) (fin:List β->O):∀ (xs:List α) (i:Nat) (s:List β),bu (λi s x=>.inr (s++g i x)) fin i xs s=fin (s++DB g i xs)
 | [],_,s=>by simp[bu,DB]
 | x::xs,i,s=>by simp only[bu,DB];rw[IF g fin xs (i+1)];simp[bV]
theorem Vw {α β:Type} {g:Nat->α->List β} {n:Nat}:∀ (xs:List α) (i:Nat),(∀ i x,x ∈ xs->(g i x).length<=n)->(DB g i xs).length<=n*xs.length
 | [],_,_=>by simp[DB]
 | x::xs,i,h=>by
  have h1:=h i x bF;have h2:=Vw xs (i+1) λi y hy=>h i y (bA _ hy);grind [DB,Nat.mul_add]
theorem Vx {α β:Type} {g:Nat->α->List β} {y:β}:∀ {xs:List α} {i:Nat},y ∈ DB g i xs↔∃ (j:Nat) (x:α),xs[j]?=some x/\y ∈ g (i+j) x
 | [],i=>by simp[DB]
 | x::xs,i=>by
  simp only[DB,bG,Vx (xs:=xs)];constructor
  ·rintro (h | ⟨j,z,h1,h2⟩)
   ·exact ⟨0,x,rfl,h⟩
   ·exact ⟨j+1,z,h1,by grind⟩
  grind
def iq (x:bd):Int:=x.2.2.1.2.1
def vF (x:bd):Int:=x.2.2.1.2.2.1
def vG (x:bd):Int:=x.2.2.1.2.2.2.1
def kR (x:bd):Row:=x.2.2.1.2.2.2.2.1
def sL (P:Nat) (p:List UInt8) (s:Nat):List bd:=if bj p s=0 then [] else [((P:Int),(s:Int),(ef (jP p s)).1,())]
def sM (P:Nat) (p:List UInt8):List bd:=(List.range (pn p)).flatMap (sL P p)
def dc (ps:bp):List bd:=DB sM 0 ps
def rO (ps:bp) (a b:Int):uw×Bool:=match ps[a.toNat]? with
 | some p=>if b.toNat < pn p/\bj p b.toNat≠0 then ef (jP p b.toNat) else (MR,false)
 | none=>(MR,false)
def Fx (p:List UInt8) (s:Nat):Bool:=decide (bj p s=0)||(ef (jP p s)).2
def DC (p:List UInt8):Int:=if Eo p=0 then (if (List.range (pn p)).all (Fx p) then 0 else 5) else Eo p
def vH (ps:bp) (x:bd):Bool:=!decide (iq x=1)||((rO ps (vF x) (vG x)).2&&decide ((rO ps (vF x) (vG x)).1.2.1=2))
def G0 (x:bd):Option (Int×Int):=if iq x=1 then some (vF x,vG x) else none
def Vy (x:bd) (r:Row):bd:=(x.1,x.2.1,(x.2.2.1.1,x.2.2.1.2.1,x.2.2.1.2.2.1,x.2.2.1.2.2.2.1,r,x.2.2.1.2.2.2.2.2),x.2.2.2)
def xW (ps:bp) (x:bd):bd:=if iq x=1 then Vy x (rO ps (vF x) (vG x)).1.2.2.2.2.1 else x
def ub (ps:bp) (x:bd):List bd:=if iq x=2 then [] else [xW ps x]
def kV (ps:bp):List bd:=(dc ps).flatMap (ub ps)
def G3 (ps:bp):Int:=
 if (dc ps).all (vH ps) then
  if ((dc ps).filterMap G0).Nodup then (if ((kV ps).map λx=>rk (kR x)).Nodup then 0 else 8) else 6
 else 4
def ja (ps:bp):Int:=if 12 < ps.length then 2 else if pQ DC ps=0 then G3 ps else pQ DC ps
def nO (ps:bp):Prop:=ps.length<=12/\∀ p ∈ ps,iw p
theorem Sr {p:List UInt8} (h:DC p=0):iw p/\∀ s,s < pn p->bj p s≠0->(ef (jP p s)).2=true:=by
 unfold DC at h;split at h
 ·rename_i h1;split at h
  ·rename_i h2;refine ⟨xy.1 h1,λs hs hz=>?_⟩
   have:=bJ.1 h2 s (cD.2 hs);grind [Fx]
  ·cases h
 grind
theorem Cy {α:Type} {c:α->Int}:∀ {xs:List α},pQ c xs=0->∀ x ∈ xs,c x=0
 | [],_,_,hx=>by cases hx
 | y::xs,h,x,hx=>by
  simp only[pQ] at h;split at h
  ·rename_i hy;rcases aZ.1 hx with rfl | hx
   ·exact hy
   ·exact Cy h x hx
  grind
theorem Cz {ps:bp} (h:ja ps=0):nO ps/\pQ DC ps=0/\G3 ps=0:=by
 unfold ja at h;split at h
 ·cases h
 ·rename_i h1;split at h
  ·rename_i h2;exact ⟨⟨by omega,λp hp=>(Sr (Cy h2 p hp)).1⟩,h2,h⟩
  grind
theorem ET {p:List UInt8} (h:iw p) (P:Nat):(sM P p).length<=16:=by
 have:∀ n,((List.range n).flatMap (sL P p)).length<=n:=by
  intro n
  induction n with
  | zero=>simp
  | succ n ih=>
   rw[gP,eG,bQ]
   have:(([n]:List Nat).flatMap (sL P p)).length<=1:=by
    simp only[dU,iQ,cZ,sL];split <;> simp
   omega
 have h1:=this (pn p);have h2:=h.n;grind [sM]
theorem IG {ps:bp} (h:nO ps):(dc ps).length<=192:=by
 have:=Vw (g:=sM) (n:=16) ps 0 λi p hp=>ET (h.2 p hp) i;unfold dc;have:=h.1;omega
theorem G4 {ps:bp} (h:nO ps):(kV ps).length<=192:=by
 have:∀ xs:List bd,(xs.flatMap (ub ps)).length<=xs.length:=by
  intro xs
  induction xs <;> grind [ub]
 grind [IG,kV]
theorem IH (d:List UInt8):0<=(ef d).1.2.2.1/\0<=(ef d).1.2.2.2.1:=by
 grind [ef]
theorem yR {ps:bp} {x:bd}:x ∈ dc ps↔∃ (P:Nat) (p:List UInt8) (s:Nat),ps[P]?=some p/\s < pn p/\bj p s≠0/\x=((P:Int),(s:Int),(ef (jP p s)).1,()):=by
 unfold dc;rw[Vx];constructor
 ·rintro ⟨j,p,h1,h2⟩;obtain ⟨s,h3,h4⟩:=cM.1 h2;grind [sL]
 ·rintro ⟨P,p,s,h1,h2,h3,rfl⟩;refine ⟨P,p,h1,cM.2 ⟨s,cD.2 h2,?_⟩⟩
  grind [sL]
theorem Be {ps:bp} {x:bd} (h:x ∈ dc ps):0<=vF x/\0<=vG x:=by
 obtain ⟨P,p,s,_,_,_,rfl⟩:=yR.1 h;exact IH _
theorem Ss (ps:bp) (h:nO ps):it.ab (ps,())=some (dc ps,()):=by
 obtain ⟨hl,hp⟩:=h;refine ag (k:=100) λk hk=>(it.af k _).trans ?_
 have inner:∀ (self:(bp×(List bd)×Int)->Option it.O) (e0:(List bd)->Option it.O) (i:Nat) (hi:i < ps.length) (s:List bd),s.length<=1000->it.r1 k self e0 (ps,()) ps (i:Int) (s,(0:Int))=self (ps,s++sM i ps[i],ae ((i:Int)+1)):=λself e0 i hi s0 hs0=>by
  have a_:=hp _ (aJ hi);have hn:=a_.n;have hlen:=a_.len
  have:=rt (B:=λko v=>it.b1 ko (λz=>it.q0 self e0 (ps,()) ps (i:Int) z) (ps,()) ps (i:Int) v) (pn ps[i]) (λ(s:List bd) (j:Int)=>(s,j)) (λj s=>.inr (s++sL i ps[i] j)) (λs=>self (ps,s,ae ((i:Int)+1))) (λj s=>s.length<=1000+j) Bys
   (λj hj s ko hI=>by
    show it.b1 _ _ _ _ _ _=_;unfold it.b1 sL;have bc:(j:Int) < (pn ps[i]:Int):=by omega
    simp only[aR,aL,aD,aB hi,aA,rK hlen,bc,aP,aM,xA hlen (show j < 16 by omega)]
    grind [B8,IA,Bd,cr])
   (λj hj s s' hI hf=>by
    grind [sL]) (λs ko hI=>by
    show it.b1 _ _ _ _ _ _=_;unfold it.b1;simp only[aR,aL,aD,aB hi,aA,rK hlen,aY,aI,aE]
    rfl) s0 Bys k Bys
  rw[GV (sL i ps[i])] at this;exact this
 have:=ff (B:=λself v=>it.B0 k self (λz=>it.q1 (ps,()) z) (ps,()) v) ps (λ(s:List bd) (i:Int)=>(ps,s,i)) (λi s p=>.inr (s++sM i p)) (λs=>some (s,())) (λi s=>s.length<=16*i) (by rw[an];omega)
  (λi hi s self hI=>by
   show it.b0 _ _ _ _ _=_
   grind [it.b0])
  (λi hi s s' hI hf=>by
   grind [ET]) (λs self _=>by
   show it.b0 _ _ _ _ _=_;unfold it.b0;simp only[aY,aI,aE]
   rfl) [] (by simp) k Bys
 rw[IF] at this;exact this
theorem Su (ps:bp) (h:nO ps) (a b:Int) (ha:0<=a) (hb:0<=b):sf.ab (ps,a,b,())=some ((rO ps a b).1,(rO ps a b).2,()):=by
 obtain ⟨hl,hp⟩:=h;obtain ⟨a,rfl⟩:=dJ ha;obtain ⟨b,rfl⟩:=dJ hb;refine ag (k:=0) λk hk=>(sf.af k _).trans ?_;show sf.p _=_;unfold sf.p rO;have hw:ae ((ps.length:Int) - 1)=(ps.length:Int) - 1:=bf Bys;have h0:decide ((0:Int)<=(a:Int))=true:=aS Bys;have h1:decide ((a:Int)<=(ps.length:Int) - 1)=decide (a < ps.length):=by grind
 simp only[o5,hw,h0,h1,aA,eB,aD];by_cases hal:a < ps.length;rotate_left
 ·grind
 rw[aS hal];have a_:=hp _ (aJ hal);simp only[aW,aE,aR,aL,aB hal,aA,Xr a_];by_cases hc:b < pn ps[a]/\bj ps[a] b≠0
 ·grind [B8,IA,Bd]
 grind
theorem Kr (ps:bp) (h:nO ps):lZ.ab (ps,())=some (kV ps,()):=by
 refine ag (k:=300) λk hk=>(lZ.af k _).trans ?_;unfold lZ.p;rw[Ss ps h];simp only[aA];have oH:=IG h;have Sl:∀ x ∈ dc ps,0<=vF x/\0<=vG x:=λx hx=>Be hx;unfold kV;generalize dc ps=xs at oH Sl ⊢
 have:=ff (B:=λself v=>lZ.b0 self (λz=>lZ.q0 (ps,()) xs z) (ps,()) xs v) xs (λ(s:List bd) (i:Int)=>(s,i)) (λi s x=>.inr (s++ub ps x)) (λs=>some (s,())) (λi s=>s.length<=i) (by rw[an];omega)
  (λi hi s self hI=>by
   show lZ.b0 _ _ _ _ _=_;unfold lZ.b0 ub;have bc:(i:Int) < (xs.length:Int):=by omega
   obtain ⟨g1,g2⟩:=Sl _ (aJ hi);have hcc:sf.ab (ps,(xs[i]).2.2.1.2.2.1,(xs[i]).2.2.1.2.2.2.1,())=some ((rO ps (vF xs[i]) (vG xs[i])).1,(rO ps (vF xs[i]) (vG xs[i])).2,()):=Su ps h _ _ g1 g2;have oc:∀ y:bd,s.length+[y].length<=be:=λy=>cr (by grind);simp only[bc,aP,aM,aR,cP,aL,aD,aB hi,aA,hcc,oc];show (bif decide (iq xs[i]=2) then _ else bif decide (iq xs[i]=1) then _ else _)=_;unfold xW;by_cases c2:iq xs[i]=2
   ·grind
   ·by_cases c1:iq xs[i]=1
    ·simp only[c1,c2,aP,aI,aM,aE,aL,aU];rfl
    grind)
  (λi hi s s' hI hf=>by
   grind [ub]) (λs self _=>by
   show lZ.b0 _ _ _ _ _=_;unfold lZ.b0;simp only[aY,aI,aE]
   rfl) [] (by simp) k Bys
 rw[GV (ub ps)] at this;exact this
end OT
namespace OT
open Go Go.Sort
abbrev Fy:Ty:=.arr 2 i64
theorem Fz (a b c d:Int):Ty.eq Fy [a,b] [c,d]=(decide (a=c)&&decide (b=d)):=by
 simp_all [Ty.eq]
theorem Lp (a b:Int):((List.replicate 2 (0:Int)).set 0 a).set 1 b=[a,b]:=rfl
theorem II {α:Type} (k:Ty) (m:List (k.den×α)) (x:k.den) (y:α) (h:∀ e ∈ m,k.eq x e.1=false):oU k m x y=m++[(x,y)]:=by
 grind [oU]
def kq (x:bd):List Seen:=if iq x=0 then [(kR x,x.1,x.2.1,false,x.1,x.2.1,())] else []
def ip (x:bd):List Seen:=if iq x=1 then [(Dw,x.1,x.2.1,true,vF x,vG x,())] else []
def nP (x:bd):List (List Int×Row):=if iq x=2 then [([x.1,x.2.1],kR x)] else []
theorem G5 (d:List UInt8):(ef d).2=true->(ef d).1.1=0/\((ef d).1.2.1=0\/(ef d).1.2.1=1\/(ef d).1.2.1=2):=by
 grind [ef]
def CL (ps:bp):Prop:=nO ps/\∀ p ∈ ps,∀ s,s < pn p->bj p s≠0->(ef (jP p s)).2=true
theorem Sv {ps:bp} (hl:ps.length<=12) (h:pQ DC ps=0):CL ps:=
 ⟨⟨hl,λp hp=>(Sr (Cy h p hp)).1⟩,λp hp=>(Sr (Cy h p hp)).2⟩
theorem ZK {ps:bp} (h:CL ps) {x:bd} (hx:x ∈ dc ps):iq x=0\/iq x=1\/iq x=2:=by
 obtain ⟨P,p,s,h1,h2,h3,rfl⟩:=yR.1 hx;exact (G5 _ (h.2 p (bT h1) s h2 h3)).2
theorem MX (S:List bd):(S.flatMap kq).length<=S.length/\(S.flatMap ip).length<=S.length:=by
 induction S <;> grind [kq,ip]
theorem Vz {ps:bp} (h:CL ps) (a b:Int) (ha:0<=a) (hb:0<=b):lm Fy ((dc ps).flatMap nP) [a,b]=if (rO ps a b).2&&decide ((rO ps a b).1.2.1=2) then some (rO ps a b).1.2.2.2.2.1 else none:=by
 obtain ⟨a,rfl⟩:=dJ ha;obtain ⟨b,rfl⟩:=dJ hb;unfold lm
 have at_:∀ x ∈ dc ps,x.1=(a:Int)->x.2.1=(b:Int)->rO ps (a:Int) (b:Int)=(x.2.2.1,true):=λx hx e1 e2=>by
  obtain ⟨P,p,s,h1,h2,h3,rfl⟩:=yR.1 hx;have e1:(P:Int)=(a:Int):=e1;have e2:(s:Int)=(b:Int):=e2;have e1:P=a:=by omega
  have e2:s=b:=by omega
  subst e1;subst e2;unfold rO;simp only[aD,h1];rw[aH ⟨h2,h3⟩];have:=h.2 p (bT h1) s h2 h3;rw[<-this]
 cases hf:((dc ps).flatMap nP).find? (λe=>Ty.eq Fy [(a:Int),(b:Int)] e.1) with
 | some e=>
  have hm:=cU hf;have hp:=gQ hf;obtain ⟨x,hx,Va⟩:=cM.1 hm;unfold nP at Va;split at Va
  ·rename_i h2;rw[bC] at Va;subst Va;rw[Fz,aC,bE,bE] at hp;have hg:=at_ x hx hp.1.symm hp.2.symm;rw[hg];have:(x.2.2.1).2.1=2:=h2;simp only[this,aP,iL,aL,bR];rfl
  ·cases Va
 | none=>
  rw[aN]
  ·rfl
  ·intro hc;rw[aC,bE] at hc;obtain ⟨c1,c2⟩:=hc
   have:∃ x ∈ dc ps,x.1=(a:Int)/\x.2.1=(b:Int)/\iq x=2:=by
    unfold rO at c1 c2;simp only[aD] at c1 c2
    cases hpa:ps[a]? with
    | none=>grind
    | some p=>
     rw[hpa] at c1 c2;simp only at c1 c2;by_cases hc:b < pn p/\bj p b≠0
     ·rw[aH hc] at c2;exact ⟨_,yR.2 ⟨a,p,b,hpa,hc.1,hc.2,rfl⟩,rfl,rfl,c2⟩
     grind
   grind [nP,Fz]
def rP (x:bd):Seen:=(kR x,x.1,x.2.1,decide (iq x=1),(if iq x=1 then vF x else x.1),(if iq x=1 then vG x else x.2.1),())
def Bf (ps:bp) (y:Seen):Seen:=(DZ (lm Fy ((dc ps).flatMap nP) [y.2.2.2.2.1,y.2.2.2.2.2.1]) Dw,y.2)
def JU (ps:bp):List Seen:=(dc ps).flatMap kq++((dc ps).flatMap ip).map (Bf ps)
theorem Xt {ps:bp} (h:CL ps) (hs:(dc ps).all (vH ps)=true):(JU ps).Perm ((kV ps).map rP):=by
 unfold JU kV;have st:=bJ.1 hs;have Cf:∀ x ∈ dc ps,iq x=0\/iq x=1\/iq x=2:=λx hx=>ZK h hx;have Sl:∀ x ∈ dc ps,0<=vF x/\0<=vG x:=λx hx=>Be hx
 have key:∀ S:List bd,(∀ x ∈ S,x ∈ dc ps)->(S.flatMap kq++(S.flatMap ip).map (Bf ps)).Perm ((S.flatMap (ub ps)).map rP):=by
  intro S
  induction S with
  | nil=>grind
  | cons x S ih=>
   intro hS;have ih:=ih λy hy=>hS y (bA _ hy);have hx:=hS x bF;simp only[dU,fK];rcases Cf x hx with h0 | h1 | h2
   ·simp_all [kq,rP,xW,ip,ub]
   ·have e1:kq x=[]:=by grind [kq]
    have e3:ub ps x=[xW ps x]:=by grind [ub]
    have e2:(ip x).map (Bf ps)=[rP (xW ps x)]:=by
     unfold ip;rw[aH h1];simp only[dW,iU];obtain ⟨g1,g2⟩:=Sl x hx;have dm:=st x hx;unfold vH at dm;rw[aS h1] at dm;simp only[aW,dQ] at dm;have hg:=Vz h (vF x) (vG x) g1 g2;rw[aH dm] at hg;unfold Bf;simp only[hg,DZ];unfold xW;rw[aH h1];have abB:iq (Vy x (rO ps (vF x) (vG x)).1.2.2.2.2.1)=1:=h1;unfold rP;rw[aH abB,aH abB,aS abB];rfl
    grind
   grind [kq,ip,ub]
 grind
def FA (x y:Seen):Bool:=jZ (rk x.1) (rk y.1)
def VA (x y:Seen):Int:=if jZ (x.1.1,x.1.2.1) (y.1.1,y.1.2.1) then -1 else if jZ (y.1.1,y.1.2.1) (x.1.1,x.1.2.1) then 1 else 0
theorem ZL:Go.Proofs.ltOf VA=FA:=by
 funext x y;exact ZE x.1 y.1
theorem abC (x y:Seen):qL.ab (x,y,())=some (VA x y,()):=by
 refine ag (k:=0) λk hk=>(qL.af k _).trans ?_;show qL.p _=_;unfold qL.p;rw[GI];rfl
theorem aig:SWO FA where
 irrefl x:=wl _
 trans x y z h1 h2:=wk h1 h2
 ntrans x y z h1 h2:=by
  grind [FA,wk,AJ]
def Lq (xs:List Seen) (x:Seen):List Seen:=xs.take (pos (xs.map (·.1)) (rk x.1))++[x]++xs.drop (pos (xs.map (·.1)) (rk x.1))
def G6 (l:List Seen):List Seen:=l.foldl Lq []
theorem abD (xs:List Seen) (x:Seen):(Lq xs x).map (·.1)=sW (xs.map (·.1)) x.1:=by
 grind [Lq,sW,List.map_take,List.map_drop]
theorem ZM (xs:List Seen) (x:Seen):(Lq xs x).Perm (x::xs):=by
 grind [Lq,List.take_append_drop]
theorem Pr (l:List Seen):(G6 l).map (·.1)=MV (l.map (·.1)):=by
 have main:∀ (l acc:List Seen),(l.foldl Lq acc).map (·.1)=(l.map (·.1)).foldl sW (acc.map (·.1)):=by
  intro l
  induction l <;> grind [abD]
 exact main l []
theorem MY (l:List Seen):(G6 l).Perm l:=by
 have main:∀ (l acc:List Seen),(l.foldl Lq acc).Perm (l++acc):=by
  intro l
  induction l <;> grind [ZM]
 have:=main l [];rw[cZ] at this;exact this
def Ps (xs:List Seen):Prop:=xs.Pairwise λx y=>FA x y=true
theorem VB {xs:List Seen}:Ps xs↔up (xs.map (·.1)):=by
 unfold Ps up;rw[fZ];rfl
theorem Sw {l r:List Seen} (hp:r.Perm l) (hr:Ps r) (hn:(l.map λx=>rk x.1).Nodup):r=G6 l:=by
 refine B9 (lt:=λx y=>FA x y=true) (λa b h=>Sq h) r (G6 l) (hp.trans (MY l).symm) hr (VB.2 ?_);grind [Pr,Sp]
theorem ZN {r:List Seen} (h:Ps r):(r.map λx=>rk x.1).Nodup:=by
 have:=GZ (VB.1 h);grind
def G7:List Seen->Bool
 | x::y::l=>FA x y&&G7 (y::l)
 | _=>true
theorem ZO:∀ (l:List Seen),G7 l=true->Ps l
 | [],_=>List.Pairwise.nil
 | [x],_=>fW _ _
 | x::y::l,h=>by
  simp only[G7,aC] at h;have ih:=ZO (y::l) h.2;refine dM.2 ⟨λz hz=>?_,ih⟩;rcases aZ.1 hz with rfl | hz
  ·exact h.1
  ·exact wk h.1 ((dM.1 ih).1 z hz)
theorem VC:∀ (l:List Seen),Ps l->G7 l=true
 | [],_=>rfl
 | [x],_=>rfl
 | x::y::l,h=>by
  obtain ⟨h1,h2⟩:=dM.1 h;simp only[G7,aC];exact ⟨h1 y bF,VC (y::l) h2⟩
theorem ZP {r:List Seen} (h:r.Pairwise λx y=>FA y x=false) (hn:(r.map λx=>rk x.1).Nodup):Ps r:=by
 unfold Ps
 have h2:r.Pairwise λx y=>rk x.1≠rk y.1:=by
  grind
 refine (h.and h2).imp λ{x y} ⟨g1,g2⟩=>?_;grind [FA,AJ]
end OT
namespace OT
open Go Go.Sort
theorem abE (z:List Seen) (hl:z.length<=1000):∃ r:List Seen,(∀ f:Nat×Int,rh.ab (z,f,())=some (r,()))/\r.Perm z/\r.Pairwise λx y=>FA y x=false:=by
 have hs:SWO (Go.Proofs.ltOf VA):=by rw[ZL];exact aig
 have h1:=R5 (e:=ij) (cs:=qL.ab) (cf:=VA) (λx y=>abC x y) hs z (cr (bB hl Bys));have h2:=R6 (α:=ij.den) (lt:=Go.Proofs.ltOf VA) hs z;refine ⟨_,λf=>?_,h2.1,?_⟩
 ·show (Cr ij qL.ab z).map (λr=>(r,()))=_;rw[h1];rfl
 ·exact h2.2.imp λ{x y} (h:Go.Proofs.ltOf (α:=Seen) VA y x=false)=>by simp_all [ZL]
theorem Sx {O:Type} (r:List Seen) (bad e:O):∀ (l pre:List Seen) (x:Seen),r=pre++x::l->bu (λi (_:Unit) y=>if (match r[i]? with | some z=>FA z y | none=>true) then .inr () else .inl bad) (λ_=>e) pre.length l ()=if G7 (x::l) then e else bad
 | [],pre,x,_=>by simp[bu,G7]
 | y::l,pre,x,h=>by
  have hx:r[pre.length]?=some x:=by grind
  simp only[bu,hx,G7];by_cases hc:FA x y=true;rotate_left
  ·grind
  ·simp only[hc,aL,eB];have:=Sx r bad e l (pre++[x]) y (by rw[h];simp);grind
theorem abF (ps:bp) (k:Nat) (hk:300<=k) (r:List Seen) (hl:r.length<=192):ao (λself v=>cg.B4 k self (λz=>cg.Q4 k (ps,()) r z) (ps,()) r v) k 1=if G7 r then some (r,(0:Int),()) else some (([]:List Seen),(8:Int),()):=by
 have:=ff (B:=λself v=>cg.B4 k self (λz=>cg.Q4 k (ps,()) r z) (ps,()) r v) (r.drop 1) (λ(_:Unit) (i:Int)=>i+1) (λi _ y=>if (match r[i]? with | some z=>FA z y | none=>true) then .inr () else .inl (some (([]:List Seen),(8:Int),()))) (λ_=>some (r,(0:Int),())) (λ_ _=>True) (by grind [an])
  (λi hi s self _=>by
   rw[cC] at hi;show cg.b4 _ _ _ _ _=_;unfold cg.b4;have bc:(i:Int)+1 < (r.length:Int):=by omega
   have aih:(i:Int) < (r.length:Int):=by omega
   have Sl:(0:Int)<=(i:Int)+1:=by omega
   have yj:ae ((i:Int)+1 - 1)=(i:Int):=by grind [bf]
   have Dg:ae ((i:Int)+1+1)=ae ((i:Int)+1)+1:=by grind [bf]
   have htn:((i:Int)+1).toNat=i+1:=by omega
   have hg:(r.drop 1)[i]'(by grind)=r[i+1]'Bys:=by grind
   rw[hg];simp only[bc,aih,Sl,yj,Dg,htn,aP,aM,aR,cP,aL,aD,aB (show i < r.length by omega),aB (show i+1 < r.length by omega),aA,EQ];show (bif !FA r[i] (r[i+1]'Bys) then _ else _)=_
   grind)
  (λ_ _ _ _ _ _=>trivial) (λs self _=>by
   rw[cC];show cg.b4 _ _ _ _ _=_;unfold cg.b4;have bc:¬ (((r.length - 1:Nat):Int)+1 < (r.length:Int)):=by omega
   simp only[bc,aI,aE]
   rfl) () trivial k (by grind)
 refine aV this ?_
 cases r with
 | nil=>rfl
 | cons x l=>
  exact Sx (x::l) _ _ l [] x rfl
def Ac (ps:bp):List Seen:=if ja ps=0 then G6 ((kV ps).map rP) else []
def acZ (ps:bp):List Seen:=if G3 ps=0 then G6 ((kV ps).map rP) else []
def QC (y:Seen):Option (Int×Int):=some (y.2.2.2.2.1,y.2.2.2.2.2.1)
def QD (y:Seen):List Int×Bool:=([y.2.2.2.2.1,y.2.2.2.2.2.1],true)
theorem Sy (T:List Seen) (a b:Int):DZ (lm Fy (T.map QD) [a,b]) false=T.any λy=>decide (a=y.2.2.2.2.1)&&decide (b=y.2.2.2.2.2.1):=by
 induction T with
 | nil=>rfl
 | cons y T ih=>
  have hk:Ty.eq Fy [a,b] (QD y).1=(decide (a=y.2.2.2.2.1)&&decide (b=y.2.2.2.2.2.1)):=Fz _ _ _ _;unfold lm at ih ⊢;rw[dW,jA,gL,hk]
  cases (decide (a=y.2.2.2.2.1)&&decide (b=y.2.2.2.2.2.1)) with
  | true=>rfl
  | false=>simpa using ih
theorem abG (S:List bd):(S.flatMap ip).filterMap QC=S.filterMap G0:=by
 induction S <;> grind [ip,G0,QC]
theorem T9 (ps:bp) (h:CL ps):cg.ab (ps,())=some (acZ ps,G3 ps,()):=by
 obtain ⟨hl,hp⟩:=h.1;have oH:=IG h.1;refine ag (k:=300) λk hk=>(cg.af k _).trans ?_
 have inner:∀ (self:(List Seen×List Seen×List (List Int×Row)×bp×Int×Int)->Option cg.O) (e0:(List Seen×List Seen×List (List Int×Row))->Option cg.O) (i:Nat) (hi:i < ps.length) (S:List bd),S.length<=16*i->(∀ x ∈ S,x.1 < (i:Int)) ->
   cg.r1 k self e0 (ps,()) (i:Int) ps[i] ps (ps.length:Int) (pn ps[i]:Int) (S.flatMap kq,S.flatMap ip,S.flatMap nP,(0:Int))=self ((S++sM i ps[i]).flatMap kq,(S++sM i ps[i]).flatMap ip,(S++sM i ps[i]).flatMap nP,ps,(ps.length:Int),ae ((i:Int)+1)):=λself e0 i hi S0 hS0 pk=>by
  have a_:=hp _ (aJ hi);have hn:=a_.n;have hlen:=a_.len;have uu:=h.2 _ (aJ hi)
  have:=rt (B:=λko v=>cg.B1 k ko (λz=>cg.Q0 k self e0 (ps,()) (i:Int) ps[i] ps (ps.length:Int) (pn ps[i]:Int) z) (ps,()) (i:Int) ps[i] ps (ps.length:Int) (pn ps[i]:Int) v) (pn ps[i]) (λ(S:List bd) (j:Int)=>(S.flatMap kq,S.flatMap ip,S.flatMap nP,j)) (λj S=>.inr (S++sL i ps[i] j)) (λS=>self (S.flatMap kq,S.flatMap ip,S.flatMap nP,ps,(ps.length:Int),ae ((i:Int)+1))) (λj S=>S.length<=16*i+j/\∀ x ∈ S,x.1 < (i:Int)\/(x.1=(i:Int)/\x.2.1 < (j:Int))) Bys
   (λj hj S ko ⟨hI1,hI2⟩=>by
    show cg.b1 _ _ _ _ _ _ _ _ _=_;unfold cg.b1 sL;have bc:(j:Int) < (pn ps[i]:Int):=by omega
    simp only[bc,aP,aM,Aa a_,hj,eB,aA];by_cases hz:bj ps[i] j=0
    ·grind
    ·have D7:=uu j hj hz;obtain ⟨f1,f2⟩:=G5 _ D7;obtain ⟨l1,l2⟩:=MX S;have oc:∀ (T:List Seen) (y:Seen),T.length<=S.length->T.length+[y].length<=be:=λT y hT=>cr (by grind);simp only[hz,aI,bO,aW,aE,B7 a_ hj,HI _ (bB (Bd a_ hj) Bys),D7,aL,aU,aA,f1,aP,oc _ _ l1,oc _ _ l2,Lp]
     obtain ⟨x,hx⟩:∃ x:bd,x=((i:Int),(j:Int),(ef (jP ps[i] j)).1,()):=⟨_,rfl⟩
     have hxf:iq x=(ef (jP ps[i] j)).1.2.1:=by rw[hx];rfl
     rw[<-hx];simp only[eG,dU,iQ,cZ];rcases f2 with g | g | g
     ·have e1:kq x=[((ef (jP ps[i] j)).1.2.2.2.2.1,(i:Int),(j:Int),false,(i:Int),(j:Int),())]:=by unfold kq;rw[aH (hxf.trans g),hx];rfl
      grind [ip,nP]
     ·have e1:kq x=[]:=by grind [kq]
      have e2:ip x=[(Dw,(i:Int),(j:Int),true,(ef (jP ps[i] j)).1.2.2.1,(ef (jP ps[i] j)).1.2.2.2.1,())]:=by unfold ip;rw[aH (hxf.trans g),hx];rfl
      grind [nP]
     ·have e1:kq x=[]:=by grind [kq]
      have e2:ip x=[]:=by grind [ip]
      have e3:nP x=[([(i:Int),(j:Int)],(ef (jP ps[i] j)).1.2.2.2.2.1)]:=by unfold nP;rw[aH (hxf.trans g),hx];rfl
      rw[e1,e2,e3];have n1:¬ ((2:Int)=0):=by decide
      have C7:oU Fy (S.flatMap nP) [(i:Int),(j:Int)] (ef (jP ps[i] j)).1.2.2.2.2.1=S.flatMap nP++[([(i:Int),(j:Int)],(ef (jP ps[i] j)).1.2.2.2.2.1)]:=II Fy _ _ _ λe he=>by
       grind [nP,Fz]
      grind)
   (λj hj S S' ⟨hI1,hI2⟩ hf=>by
    grind [sL]) (λS ko hI=>by
    show cg.b1 _ _ _ _ _ _ _ _ _=_;unfold cg.b1;simp only[aY,aI,aE]
    rfl) S0 ⟨by omega,λx hx=>.inl (pk x hx)⟩ k Bys
  rw[GV (sL i ps[i])] at this;exact this
 have outer:cg.r0 k (ps,()) (([]:List Seen),([]:List Seen),([]:List (List Int×Row)),ps,(ps.length:Int),(0:Int))=cg.Q1 k (ps,()) ((dc ps).flatMap kq,(dc ps).flatMap ip,(dc ps).flatMap nP):=by
  have:=ff (B:=λself v=>cg.B0 k self (λz=>cg.Q1 k (ps,()) z) (ps,()) v) ps (λ(S:List bd) (i:Int)=>(S.flatMap kq,S.flatMap ip,S.flatMap nP,ps,(ps.length:Int),i)) (λi S p=>.inr (S++sM i p)) (λS=>cg.Q1 k (ps,()) (S.flatMap kq,S.flatMap ip,S.flatMap nP)) (λi S=>S.length<=16*i/\∀ x ∈ S,x.1 < (i:Int)) (by rw[an];omega)
   (λi hi S self ⟨hI1,hI2⟩=>by
    show cg.b0 _ _ _ _ _=_;unfold cg.b0;have bc:(i:Int) < (ps.length:Int):=by omega
    have hlen:=(hp _ (aJ hi)).len
    grind [vR])
   (λi hi S S' ⟨hI1,hI2⟩ hf=>by
    injection hf with hf;subst hf;have:=ET (hp _ (aJ hi)) i;refine ⟨by grind,λx hx=>?_⟩
    rcases bG.1 hx with hx | hx
    ·grind
    ·obtain ⟨s,_,hs⟩:=cM.1 hx
     grind [sL]) (λS self hI=>by
    show cg.b0 _ _ _ _ _=_
    grind [cg.b0]) [] ⟨by simp,λx hx=>by cases hx⟩ k Bys
  rw[IF] at this;exact this
 show cg.r0 k (ps,()) (([]:List Seen),([]:List Seen),([]:List (List Int×Row)),ps,(ps.length:Int),(0:Int))=_;rw[outer];show cg.q1 _ _ _=_;unfold cg.q1;obtain ⟨gl1,gl2⟩:=MX (dc ps)
 have hT:∀ y ∈ (dc ps).flatMap ip,∃ x ∈ dc ps,iq x=1/\y=(Dw,x.1,x.2.1,true,vF x,vG x,()):=λy hy=>by
  grind [ip]
 have l2w:cg.r2 k (ps,()) ((dc ps).flatMap kq) ((dc ps).flatMap ip) ((dc ps).flatMap nP) (((dc ps).flatMap ip).length:Int) (0:Int)=if (dc ps).all (vH ps) then cg.Q2 k (ps,()) ((dc ps).flatMap kq) ((dc ps).flatMap ip) ((dc ps).flatMap nP) (((dc ps).flatMap ip).length:Int) () else some (([]:List Seen),(4:Int),()):=by
  obtain ⟨T,hTd⟩:∃ T,T=(dc ps).flatMap ip:=⟨_,rfl⟩
  obtain ⟨M,hM⟩:∃ M,M=(dc ps).flatMap nP:=⟨_,rfl⟩
  rw[<-hTd,<- hM];have hTl:T.length<=192:=by grind
  have:=ff (B:=λself v=>cg.B2 k self (λz=>cg.Q2 k (ps,()) ((dc ps).flatMap kq) T M (T.length:Int) z) (ps,()) ((dc ps).flatMap kq) T M (T.length:Int) v) T (λ(_:Unit) (i:Int)=>i) (λi _ y=>if (lm Fy M [y.2.2.2.2.1,y.2.2.2.2.2.1]).isSome then .inr () else .inl (some (([]:List Seen),(4:Int),()))) (λ_=>cg.Q2 k (ps,()) ((dc ps).flatMap kq) T M (T.length:Int) ()) (λ_ _=>True) (by rw[an];omega)
   (λi hi s self _=>by
    grind [cg.b2,Int.toNat_natCast,Lp,List.length_replicate])
   (λ_ _ _ _ _ _=>trivial) (λs self _=>by
    grind [cg.b2]) () trivial k Bys
  rw[vZ (λy:Seen=>(lm Fy M [y.2.2.2.2.1,y.2.2.2.2.2.1]).isSome) (some (([]:List Seen),(4:Int),())) (λ_=>cg.Q2 k (ps,()) ((dc ps).flatMap kq) T M (T.length:Int) ())] at this;refine aV this ?_
  have hb:T.all (λy:Seen=>(lm Fy M [y.2.2.2.2.1,y.2.2.2.2.2.1]).isSome)=(dc ps).all (vH ps):=by
   have qS:∀ x ∈ dc ps,iq x=1->(lm Fy M [vF x,vG x]).isSome=vH ps x:=λx hx hf=>by
    grind [Be,Vz,vH]
   grind [ip,vH]
  rw[hb]
 rw[l2w];unfold acZ G3;by_cases dm:(dc ps).all (vH ps)=true;rotate_left
 ·grind
 simp only[dm,aL];show cg.q2 _ _ _ _ _ _ _=_;unfold cg.q2
 have l3w:cg.r3 k (ps,()) ((dc ps).flatMap kq) ((dc ps).flatMap ip) ((dc ps).flatMap nP) (((dc ps).flatMap ip).length:Int) ((dc ps).flatMap ip) ((dc ps).flatMap nP) (((dc ps).flatMap ip).length:Int) ((dc ps).flatMap kq,([]:List (List Int×Bool)),(0:Int))=if ((dc ps).filterMap G0).Nodup then cg.Q3 k (ps,()) ((dc ps).flatMap ip) ((dc ps).flatMap nP) (((dc ps).flatMap ip).length:Int) (JU ps) else some (([]:List Seen),(6:Int),()):=by
  have QE:=abG (dc ps);unfold JU
  obtain ⟨T,hTd⟩:∃ T,T=(dc ps).flatMap ip:=⟨_,rfl⟩
  obtain ⟨M,hM⟩:∃ M,M=(dc ps).flatMap nP:=⟨_,rfl⟩
  obtain ⟨L,hL⟩:∃ L,L=(dc ps).flatMap kq:=⟨_,rfl⟩
  have aiE:∀ y:Seen,Bf ps y=(DZ (lm Fy M [y.2.2.2.2.1,y.2.2.2.2.2.1]) Dw,y.2):=λy=>by grind [Bf]
  rw[<-hTd,<- hM,<- hL];rw[<-hTd] at QE;have hTl:T.length<=192:=by grind
  have hLl:L.length<=192:=by rw[hL];omega
  have:=ff (B:=λself v=>cg.B3 k self (λz=>cg.Q3 k (ps,()) T M (T.length:Int) z) (ps,()) T M (T.length:Int) v) T (λ(_:Unit) (i:Int)=>(L++(T.take i.toNat).map (Bf ps),(T.take i.toNat).map QD,i)) (λi _ y=>if (T.take i).any (λz=>decide (y.2.2.2.2.1=z.2.2.2.2.1)&&decide (y.2.2.2.2.2.1=z.2.2.2.2.2.1)) then .inl (some (([]:List Seen),(6:Int),())) else .inr ()) (λ_=>cg.Q3 k (ps,()) T M (T.length:Int) (L++T.map (Bf ps))) (λ_ _=>True) (by rw[an];omega)
   (λi hi s self _=>by
    show cg.b3 _ _ _ _ _ _ _=_;unfold cg.b3;have bc:(i:Int) < (T.length:Int):=by omega
    have oc:∀ y:Seen,(L++(T.take i).map (Bf ps)).length+[y].length<=be:=λy=>cr (by grind);have hw:(ae ((i:Int)+1)).toNat=i+1:=by grind [bf]
    have sF:T.take (i+1)=T.take i++[T[i]]:=gA hi;simp only[bc,aP,aM,aR,cP,aL,aD,aB hi,aA,Lp,cL,bW,show (0:Nat) < 2 by omega,show (1:Nat) < 2 by omega,Sy,oc,hw,sF,fK,dW,iU];have htg:=Sy (T.take i) (T[i]).2.2.2.2.1 (T[i]).2.2.2.2.2.1
    grind [QD,II,Fz])
   (λ_ _ _ _ _ _=>trivial) (λs self _=>by
    grind [cg.b3,List.take_length]) () trivial k Bys
  rw[ZI QC (some (([]:List Seen),(6:Int),())) (λ_=>cg.Q3 k (ps,()) T M (T.length:Int) (L++T.map (Bf ps))) (λy z=>decide (y.2.2.2.2.1=z.2.2.2.2.1)&&decide (y.2.2.2.2.2.1=z.2.2.2.2.2.1)) (λy z=>?_) T,QE] at this
  ·simp only[Int.toNat_zero,jE,iU,cZ] at this;exact this
  ·unfold QC;simp only[aC,bE];constructor
   all_goals grind
 rw[l3w];by_cases sF:((dc ps).filterMap G0).Nodup;rotate_left
 ·grind
 simp only[sF,aL];show cg.q3 _ _ _ _ _ _=_;unfold cg.q3;have ac0:=Xt h dm
 have UX:(JU ps).length<=192:=by
  have:=ac0.length_eq;rw[jC] at this;have:=G4 h.1;omega
 obtain ⟨r,xl,vd,UV⟩:=abE (JU ps) Bys;rw[xl];simp only[aA];have vv:r.length<=192:=by have:=vd.length_eq;omega
 have hrp:=vd.trans ac0
 have hkn:(r.map λx=>rk x.1).Nodup↔((kV ps).map λx=>rk (kR x)).Nodup:=by
  have h1:(r.map λx=>rk x.1).Perm (((kV ps).map rP).map λx=>rk x.1):=hrp.map _;rw[h1.nodup_iff,List.map_map];exact iH
 refine (abF ps k hk r vv).trans ?_;by_cases vD:((kV ps).map λx=>rk (kR x)).Nodup
 all_goals grind [ZP,Sw,VC,ZN,ZO]
theorem EU (ps:bp) (hp:∀ p ∈ ps,p.length<=maxLen):fe.ab (ps,())=some (Ac ps,ja ps,()):=by
 refine ag (k:=300) λk hk=>(fe.af k _).trans ?_;unfold fe.p Ac ja;by_cases hl:12 < ps.length
 ·grind
 have Eb:¬ ((12:Int) < (ps.length:Int)):=by omega
 simp only[Eb,aI,aE,hl,aU]
 have inner:∀ (self:(bp×bp×Int×Int)->Option fe.O) (e0:bp->Option fe.O) (i:Nat) (hi:i < ps.length),iw ps[i]->fe.r1 k self e0 (ps,()) ps ps[i] ps (ps.length:Int) (i:Int) (pn ps[i]:Int) (0:Int)=if (List.range (pn ps[i])).all (Fx ps[i]) then self (ps,ps,(ps.length:Int),ae ((i:Int)+1)) else some (([]:List Seen),(5:Int),()):=λself e0 i hi a_=>by
  have hn:=a_.n;have hlen:=a_.len
  have:=rt (B:=λko v=>fe.b1 ko (λz=>fe.q0 self e0 (ps,()) ps ps[i] ps (ps.length:Int) (i:Int) (pn ps[i]:Int) z) (ps,()) ps ps[i] ps (ps.length:Int) (i:Int) (pn ps[i]:Int) v) (pn ps[i]) (λ(_:Unit) (j:Int)=>j) (λj _=>if Fx ps[i] j then .inr () else .inl (some (([]:List Seen),(5:Int),()))) (λ_=>self (ps,ps,(ps.length:Int),ae ((i:Int)+1))) (λ_ _=>True) Bys
   (λj hj s ko hI=>by
    show fe.b1 _ _ _ _ _ _ _ _ _ _=_;unfold fe.b1 Fx;have bc:(j:Int) < (pn ps[i]:Int):=by omega
    simp only[bc,aP,aM,Aa a_,hj,eB,aA];by_cases hz:bj ps[i] j=0
    ·grind
    ·simp only[hz,aI,bO,aM,B7 a_ hj,HI _ (bB (Bd a_ hj) Bys),aA,dQ]
     grind [G5])
   (λ_ _ _ _ _ _=>trivial) (λs ko hI=>by
    show fe.b1 _ _ _ _ _ _ _ _ _ _=_;unfold fe.b1;simp only[aY,aI,aE]
    rfl) () trivial k Bys
  rw[Kp] at this;exact this
 have outer:fe.r0 k (ps,()) (ps,ps,(ps.length:Int),(0:Int))=if pQ DC ps=0 then fe.q1 (ps,()) ps else some (([]:List Seen),pQ DC ps,()):=by
  have:=ff (B:=λself v=>fe.B0 k self (λz=>fe.q1 (ps,()) z) (ps,()) v) ps (λ(_:Unit) (i:Int)=>(ps,ps,(ps.length:Int),i)) (λi _ p=>if DC p=0 then .inr () else .inl (some (([]:List Seen),DC p,()))) (λ_=>fe.q1 (ps,()) ps) (λ_ _=>True) (by rw[an];omega)
   (λi hi s self hI=>by
    show fe.b0 _ _ _ _ _=_;unfold fe.b0 DC;have bc:(i:Int) < (ps.length:Int):=by omega
    simp only[bc,aP,aM,aR,aL,aD,aB hi,aA,Bc _ (hp _ (aJ hi))];by_cases h0:Eo ps[i]=0
    ·have a_:=xy.1 h0;rw[aS h0];simp only[aW,aE,vR a_.len,aA,inner self _ i hi a_,h0,aL];grind
    grind)
   (λ_ _ _ _ _ _=>trivial) (λs self _=>by
    show fe.b0 _ _ _ _ _=_
    grind [fe.b0]) () trivial k Bys
  rw[Gx DC (λc=>some (([]:List Seen),c,())) (λ_=>fe.q1 (ps,()) ps)] at this;exact this
 rw[outer];by_cases hc:pQ DC ps=0
 ·simp only[hc,aL];show fe.q1 _ _=_;unfold fe.q1;rw[T9 ps (Sv Bys hc)];rfl
 grind
end OT
set_option linter.unusedSectionVars false
namespace OT
open Go
structure xX (ps:bp):Prop where
 right:nO ps
 cells:CL ps
 ac1:(dc ps).all (vH ps)=true
 aii:((dc ps).filterMap G0).Nodup
 keys:((kV ps).map λx=>rk (kR x)).Nodup
 list:Ac ps=G6 ((kV ps).map rP)
theorem rY {ps:bp} (h:ja ps=0):xX ps:=by
 obtain ⟨h1,h2,h3⟩:=Cz h;have hc:=Sv h1.1 h2;unfold G3 at h3;split at h3
 ·rename_i a1;split at h3
  ·rename_i a2;split at h3
   ·rename_i a3;exact ⟨h1,hc,a1,a2,a3,by unfold Ac;rw[aH h]⟩
   ·cases h3
  ·cases h3
 ·cases h3
theorem MZ {ps:bp} (h:xX ps):(Ac ps).Perm ((kV ps).map rP):=by rw[h.list];exact MY _
theorem Er {ps:bp} (h:xX ps):(Ac ps).length<=192:=by
 have:=(MZ h).length_eq;rw[jC] at this;have:=G4 h.right;omega
def aT (ps:bp):List Row:=(Ac ps).map (·.1)
theorem AK {ps:bp} (h:xX ps):aT ps=MV ((kV ps).map kR):=by
 unfold aT;rw[h.list,Pr,List.map_map];rfl
theorem yS {ps:bp} (h:xX ps):up (aT ps):=by
 rw[AK h];refine Sp ?_;rw[List.map_map];exact h.keys
theorem EV (l:List Seen) (hl:l.length<=1000):lT.ab (l,())=some (l.map (·.1),()):=by
 refine ag (k:=1100) λq hq=>(lT.af q _).trans ?_
 have:=cy (B:=λself v=>lT.b0 self (λz=>lT.q0 (l,()) z) (l,()) v) l (λ(s:List Row) (i:Int)=>(s,i)) (λ_ s x=>.inr (s++[x.1])) (λs=>(s,())) (λi s=>s.length=i) (by rw[an];omega)
  (λi hi s self hs=>by
   show lT.b0 _ _ _ _=_;unfold lT.b0;have bc:(i:Int) < (l.length:Int):=by omega
   rw[aS bc,aM,aH (aR i)];simp only[aD,aB hi,aA]
   rw[aH (cr (by simp only[bI,cE];omega))])
  (λi hi s s' hs hf=>by injection hf with hf;subst hf;simp[hs]) (λs self _=>by
   show lT.b0 _ _ _ _=_;unfold lT.b0;rw[aK (aY _),aE]
   rfl) [] rfl q Bys
 rw[ik (g:=λ(s:List Row) (x:Seen)=>s++[x.1])] at this;refine this.trans ?_
 have hm:∀ (xs:List Seen) (s:List Row),xs.foldl (λs x=>s++[x.1]) s=s++xs.map (·.1):=by
  intro xs
  induction xs with
  | nil=>intro s;simp
  | cons x xs ih=>intro s;rw[eS,ih];simp
 rw[hm,cJ]
theorem Qg {ps:bp} (h:ja ps=0):mh.ab (ps,())=some (aT ps,()):=by
 have hr:=Cz h;have hl:=G4 hr.1;refine ag (k:=300) λk hk=>(mh.af k _).trans ?_;unfold mh.p;rw[Kr ps hr.1];simp only[aA]
 have:=cy (B:=λself v=>mh.b0 self (λz=>mh.q0 (ps,()) (kV ps) z) (ps,()) (kV ps) v) (kV ps) (λ(s:List Row) (i:Int)=>(s,i)) (λ_ s x=>.inr (sW s (kR x))) (λs=>(s,())) (λi s=>s.length<=i) (by rw[an];omega)
  (λi hi s self hs=>by
   show mh.b0 _ _ _ _ _=_;unfold mh.b0;have bc:(i:Int) < ((kV ps).length:Int):=by omega
   rw[aS bc,aM,aH ⟨aR i,bc⟩];simp only[aD,aB hi,aA];rw[MS _ _ Bys]
   rfl)
  (λi hi s s' hs hf=>by
   injection hf with hf;subst hf;unfold sW;simp only[bQ,dG,cC,bI,cE]
   omega) (λs self _=>by
   show mh.b0 _ _ _ _ _=_;unfold mh.b0;rw[aK (aY _),aE]
   rfl) [] (aG 0) k Bys
 rw[ik (g:=λ(s:List Row) (x:bd)=>sW s (kR x))] at this;refine this.trans ?_;rw[AK (rY h)];unfold MV;rw[List.foldl_map]
theorem Sz {p:List UInt8} {i n:Nat} (h:pb p i=n) (hn:n < 256):p.set i (UInt8.ofNat n)=p:=by
 grind [Dt,List.length_set,vE,ofNat_toNat]
theorem wm (n:Nat):UInt8.ofInt ((n:Nat):Int)=UInt8.ofNat n:=by
 refine fS.1 ?_;grind [UInt8.toNat_ofNat',UInt8.ofInt]
theorem G8 {O:Type} (p:List UInt8) (g:Nat->O):∀ (m a i:Nat),bu (λ_ (_:Unit) (x:Nat)=>if bj p x=0 then .inl (g x) else .inr ()) (λ_=>g (a+m)) i (List.range' a m) ()=g (xz p m a)
 | 0,a,i=>rfl
 | m+1,a,i=>by
  rw[iP];simp only[bu,xz];by_cases h:bj p a=0
  ·grind
  ·simp only[h,aU];have:=G8 p g m (a+1) (i+1);grind
theorem IJ (p:List UInt8) (b:Int):∀ n,(List.range n).foldl (λs x=>s - (bj p x:Int)) b=b - (om p n:Int)
 | 0=>by simp[om]
 | n+1=>by rw[gP,iJ,IJ p b n];grind [om]
theorem Oo (p:List UInt8):∀ n,om p n<=256*n
 | 0=>by simp[om]
 | n+1=>by have:=Oo p n;grind [qa,om,bj]
section
variable {p:List UInt8} (hp:iw p)
include hp
theorem SA:lP.ab (p,())=some ((gn p:Int),()):=by
 have hn:=hp.n;refine ag (k:=100) λk hk=>(lP.af k _).trans ?_
 have:=rt (B:=λself v=>lP.b0 self (λz=>lP.q0 (p,()) z) (p,()) v) (pn p) (λ(_:Unit) (i:Int)=>i) (λx _=>if bj p x=0 then .inl (some ((x:Int),())) else .inr ()) (λ_=>some ((pn p:Int),())) (λ_ _=>True) Bys
  (λi hi s self _=>by
   show lP.b0 _ _ _ _=_;unfold lP.b0;have bc:(i:Int) < (pn p:Int):=by omega
   simp only[rK hp.len,aA,bc,aP,aM,xA hp.len (show i < 16 by omega)]
   grind)
  (λ_ _ _ _ _ _=>trivial) (λs self _=>by
   show lP.b0 _ _ _ _=_;unfold lP.b0;simp only[rK hp.len,aA,aY,aI,aE];show lP.q0 _ _=_;unfold lP.q0
   simp only[rK hp.len,aA]) () trivial k Bys
 refine this.trans ?_;rw[fO];have h2:=G8 p (λn=>(some ((n:Int),()):Option lP.O)) (pn p) 0 0;simp only[bS] at h2;exact h2
theorem Ks:l5.ab (p,())=some (ua p,()):=by
 have hn:=hp.n;have hw:ae ((62:Int) - ae ((2:Int)*(pn p:Int)))=62 - 2*(pn p:Int):=by grind [bf]
 refine ag (k:=100) λk hk=>(l5.af k _).trans ?_;unfold l5.p;simp only[rK hp.len,aA,hw]
 have:=rt (B:=λself v=>l5.b0 self (λz=>l5.q0 (p,()) z) (p,()) v) (pn p) (λ(s:Int) (i:Int)=>(s,i)) (λx s=>.inr (s - (bj p x:Int))) (λs=>some (s,())) (λi s=>s=62 - 2*(pn p:Int) - (om p i:Int)) Bys
  (λi hi s self hs=>by
   show l5.b0 _ _ _ _=_;unfold l5.b0;have bc:(i:Int) < (pn p:Int):=by omega
   have h1:=qa p (3+2*i);have h2:=Oo p i;have h3:bj p i < 256:=h1;simp only[rK hp.len,aA,bc,aP,aM,xA hp.len (show i < 16 by omega)]
   grind [bf])
  (λi hi s s' hs hf=>by grind [om]) (λs self _=>by
   show l5.b0 _ _ _ _=_;unfold l5.b0;simp only[rK hp.len,aA,aY,aI,aE]
   rfl) (62 - 2*(pn p:Int)) (by simp[om]) k Bys
 rw[ik (g:=λs x=>s - (bj p x:Int)),IJ] at this;exact this
theorem Kt:lY.ab (p,())=some (ua p,()):=by
 have hn:=hp.n;have hw:ae ((62:Int) - ae ((2:Int)*(pn p:Int)))=62 - 2*(pn p:Int):=by grind [bf]
 refine ag (k:=100) λk hk=>(lY.af k _).trans ?_;unfold lY.p;simp only[vR hp.len,aA,hw]
 have:=rt (B:=λself v=>lY.b0 self (λz=>lY.q0 (p,()) (pn p:Int) z) (p,()) (pn p:Int) v) (pn p) (λ(s:Int) (i:Int)=>(s,i)) (λx s=>.inr (s - (bj p x:Int))) (λs=>some (s,())) (λi s=>s=62 - 2*(pn p:Int) - (om p i:Int)) Bys
  (λi hi s self hs=>by
   show lY.b0 _ _ _ _ _=_;unfold lY.b0;have bc:(i:Int) < (pn p:Int):=by omega
   have h1:=qa p (3+2*i);have h2:=Oo p i;have h3:bj p i < 256:=h1;simp only[aA,bc,aP,aM,Dv hp.len (show i < 16 by omega)]
   grind [bf])
  (λi hi s s' hs hf=>by grind [om]) (λs self _=>by
   show lY.b0 _ _ _ _ _=_;unfold lY.b0;simp only[aA,aY,aI,aE]
   rfl) (62 - 2*(pn p:Int)) (by simp[om]) k Bys
 rw[ik (g:=λs x=>s - (bj p x:Int)),IJ] at this;exact this
end
theorem Ad {p c:List UInt8} {s a:Nat} (hp:p.length=64) (hs:s < 16) (h:a+c.length<=64):ld.ab (p,(s:Int),(a:Int),c,())=some (ng p s a c,()):=by
 refine ag (k:=0) λk _=>(ld.af k _).trans ?_;show ld.p _=_;unfold ld.p ng;have h1:(0:Int)<=(a:Int)/\(a:Int)<=(p.length:Int):=by omega
 have hm:min c.length (p.length - a)=c.length:=by omega
 have hl:(pO p a c.length c).length=64:=by grind [tt]
 grind [HH,Pk,wm]
theorem DD {p c:List UInt8} {s a:Nat} (hp:p.length=64) (hs:s < 16) (h:a+c.length<=64):pr.ab (p,(s:Int),(a:Int),c,())=some (ng p s a c,()):=by
 refine ag (k:=0) λk _=>(pr.af k _).trans ?_;show pr.p _=_;unfold pr.p ng;have h1:(0:Int)<=(a:Int)/\(a:Int)<=(p.length:Int):=by omega
 have hm:min c.length (p.length - a)=c.length:=by omega
 have hl:(pO p a c.length c).length=64:=by grind [tt]
 grind [nl,Int.toNat_natCast,HH,Pk,wm]
section
variable {p:List UInt8} (hp:iw p) (c:List UInt8) (lh:1<=c.length) (hc:c.length<=20)
include hp lh hc
theorem SB:∀ m:Nat,wh p=m->m<=1->¬ (gn p=pn p/\16<=pn p)->gn p < 16->∀ (d:Int),d=2*(m:Int)->∀ (e:Int),e=((pn p+m:Nat):Int) ->
   (bif decide (ua p < ae ((c.length:Int)+d)) then (some (([]:List UInt8),(0:Int),(9:Int),()):Option pt.O) else
    bif decide (ae ((fh p:Int) - (c.length:Int)) < ae ((2:Int)+ae ((2:Int)*e))) then some (([]:List UInt8),(0:Int),(8:Int),()) else
     if 0<=(0:Int)/\(0:Int) < (p.length:Int) then ((p[0]?).bind λx18=>if 0<=(1:Int)/\(1:Int) < ((p.set 0 (UInt8.ofInt e)).length:Int) then (((p.set 0 (UInt8.ofInt e))[1]?).bind λVo=>(ld.ab ((p.set 0 (UInt8.ofInt e)).set 1 (UInt8.ofInt (ae ((fh p:Int) - (c.length:Int)))),(gn p:Int),ae ((fh p:Int) - (c.length:Int)),c,())).bind λFs=>some (Fs.1,(gn p:Int),(0:Int),())) else none) else none) =
    some (if nw p c=0 then sV p c else [],if nw p c=0 then (gn p:Int) else 0,nw p c,()):=by
 intro m hm Hx sa he d hd e hee;have hn:=hp.n;have za:=hp.lo;have Ka:=hp.hi;obtain ⟨e1,e2,e3⟩:=wR p;obtain ⟨f1,f2⟩:=Ft hp;subst hd;subst hee;unfold nw;rw[aN sa,hm];have w1:ae ((c.length:Int)+2*(m:Int))=(c.length:Int)+2*(m:Int):=bf Bys;rw[w1];by_cases c1:ua p < (c.length:Int)+2*(m:Int)
 ·grind
 have w2:ae ((fh p:Int) - (c.length:Int))=(fh p:Int) - (c.length:Int):=bf Bys;have w3:ae ((2:Int)+ae ((2:Int)*((pn p+m:Nat):Int)))=((2+2*(pn p+m):Nat):Int):=HH Bys;simp only[c1,aI,aE,aU,w2,w3];by_cases c2:fh p < 2+2*(pn p+m)+c.length
 ·grind
 have n2:¬ ((fh p:Int) - (c.length:Int) < ((2+2*(pn p+m):Nat):Int)):=by omega
 have hl:=hp.len;have g1:(0:Int)<=0/\(0:Int) < (p.length:Int):=by omega
 have g2:(0:Int)<=1/\(1:Int) < (p.length:Int):=by omega
 have w4:(fh p:Int) - (c.length:Int)=((fh p - c.length:Nat):Int):=by omega
 have n4:¬ (((fh p - c.length:Nat):Int) < ((2+2*(pn p+m):Nat):Int)):=by omega
 simp only[c2,n4,aI,aE,aU,g1,g2,cP,aL,bW,w4,wm];rw[gr Bys,gr (by grind)];rw[Ad (by grind) he Bys];simp only[aA]
 have:ng ((p.set 0 (UInt8.ofNat (pn p+m))).set 1 (UInt8.ofNat (fh p - c.length))) (gn p) (fh p - c.length) c=sV p c:=by
  unfold sV;rw[hm];have zd:(ng p (gn p) (fh p - c.length) c).length=64:=sC hl _ Bys;refine Dt ?_ λj hj=>?_
  all_goals grind [sC,AF,vE]
 rw[this]
theorem Oq:pt.ab (p,c,())=some (if nw p c=0 then sV p c else [],if nw p c=0 then (gn p:Int) else 0,nw p c,()):=by
 have hn:=hp.n;have za:=hp.lo;have Ka:=hp.hi;obtain ⟨e1,e2,e3⟩:=wR p;refine ag (k:=0) λk _=>(pt.af k _).trans ?_;show pt.p _=_;unfold pt.p;obtain ⟨f1,f2⟩:=Ft hp;simp only[SA hp,rK hp.len,Ks hp,Vs hp.len,pY p (by have:=hp.len;omega),aA];by_cases he:gn p=pn p
 ·have My:(gn p:Int)=(pn p:Int):=by omega
  rw[aS My,aM];by_cases ZQ:16<=pn p
  ·grind [nw]
  ·have abH:¬ (16:Int)<=(pn p:Int):=by omega
   simp only[abH,aI,aE];have hw:ae ((pn p:Int)+1)=((pn p+1:Nat):Int):=by grind [bf]
   have:=SB hp c lh hc 1 (by grind [wh]) Bys (λh=>ZQ h.2) Bys 2 Bys (ae ((pn p:Int)+1)) hw;exact this
 ·have My:¬ ((gn p:Int)=(pn p:Int)):=by omega
  simp only[My,aI,aE];exact SB hp c lh hc 0 (by grind [wh]) Bys (λh=>he h.1) Bys 0 Bys (pn p:Int) Bys
end
section
variable {p:List UInt8} (hp:iw p) (c:List UInt8) (lh:1<=c.length) (hc:c.length<=20)
include hp lh hc
theorem IK:nr.ab (p,c,())=some ((0:Int),()):=by
 refine ag (k:=0) λk _=>(nr.af k _).trans ?_;show nr.p _=_;unfold nr.p;rw[Bc p (by rw[hp.len,an];omega),xy.2 hp];grind
theorem G9:jf.ab (p,c,())=some ((nw p c,if nw p c=0 then (gn p:Int) else 0,if nw p c=0 then sV p c else [],()),()):=by
 have hn:=hp.n;have za:=hp.lo;have Ka:=hp.hi;have hl:=hp.len;obtain ⟨e1,e2,e3⟩:=wR p;obtain ⟨f1,f2⟩:=Ft hp;refine ag (k:=100) λk hk=>(jf.af k _).trans ?_;unfold jf.p;simp only[IK hp c lh hc,vR hp.len,aA,aP,aW,aE]
 have:=rt (B:=λself v=>jf.b0 self (λz=>jf.q0 (p,c,()) (pn p:Int) z) (p,c,()) (pn p:Int) v) (pn p) (λ(_:Unit) (i:Int)=>i) (λx _=>if bj p x=0 then .inl (jf.q0 (p,c,()) (pn p:Int) (x:Int)) else .inr ()) (λ_=>jf.q0 (p,c,()) (pn p:Int) (pn p:Int)) (λ_ _=>True) Bys
  (λi hi s self _=>by
   show jf.b0 _ _ _ _ _=_;unfold jf.b0;have bc:(i:Int) < (pn p:Int):=by omega
   simp only[bc,aP,aM,Pk (show i < 1000 by omega),aR,aL,aD,gr (show 3+2*i < p.length by omega),(kK (show 3+2*i < p.length by omega)).2]
   grind [bj])
  (λ_ _ _ _ _ _=>trivial) (λs self _=>by
   grind [jf.b0]) () trivial k Bys
 refine this.trans ?_;rw[fO];have h2:=G8 p (λn=>jf.q0 (p,c,()) (pn p:Int) (n:Int)) (pn p) 0 0;simp only[bS] at h2;refine h2.trans ?_;show jf.q0 _ _ (gn p:Int)=_;unfold jf.q0;simp only[Kt hp,aA,gr (show 1 < p.length by omega),(kK (show 1 < p.length by omega)).2,Ep];show (bif decide ((gn p:Int)=(pn p:Int)) then _ else _)=_
 have key:∀ m:Nat,wh p=m->m<=1->¬ (gn p=pn p/\16<=pn p)->gn p < 16->∀ (d:Int),d=2*(m:Int) ->
   (bif decide (ua p < ae ((c.length:Int)+d)) then (some (((9:Int),(0:Int),([]:List UInt8),()),()):Option jf.O) else
    bif decide (ae ((fh p:Int) - (ae ((ae ((2:Int)+(ae ((2:Int)*(pn p:Int)))))+d))) < (c.length:Int)) then some (((8:Int),(0:Int),([]:List UInt8),()),()) else
     (pr.ab (p,(gn p:Int),ae ((fh p:Int) - (c.length:Int)),c,())).bind λyp=>if 0<=(0:Int)/\(0:Int) < (yp.1.length:Int) then ((yp.1[0]?).bind λah1=>let Gz:=yp.1.set 0 (UInt8.ofInt (ae ((pn p:Int)+(ae (d.tdiv (2:Int))))));if 0<=(1:Int)/\(1:Int) < (Gz.length:Int) then ((Gz[1]?).bind λah2=>let Sa:=Gz.set 1 (UInt8.ofInt (ae ((fh p:Int) - (c.length:Int))));some (((0:Int),(gn p:Int),Sa,()),())) else none) else none) =
    some ((nw p c,if nw p c=0 then (gn p:Int) else 0,if nw p c=0 then sV p c else [],()),()):=by
  intro m hm Hx sa he d hd;subst hd;unfold nw;rw[aN sa,hm];have w1:ae ((c.length:Int)+2*(m:Int))=(c.length:Int)+2*(m:Int):=bf Bys;rw[w1];by_cases c1:ua p < (c.length:Int)+2*(m:Int)
  ·grind
  have w2:ae ((fh p:Int) - (c.length:Int))=(fh p:Int) - (c.length:Int):=bf Bys
  have w3:ae ((fh p:Int) - (ae ((ae ((2:Int)+ae ((2:Int)*(pn p:Int))))+2*(m:Int))))=(fh p:Int) - ((2+2*(pn p+m):Nat):Int):=by
   grind [bf]
  have w5:ae ((pn p:Int)+ae ((2*(m:Int)).tdiv 2))=((pn p+m:Nat):Int):=by
   grind [bf]
  simp only[c1,aI,aE,aU,w2,w3,w5];grind [sC,DD,wm,sV]
 by_cases he:gn p=pn p
 ·have My:(gn p:Int)=(pn p:Int):=by omega
  rw[aS My,aM];by_cases ZQ:pn p=16
  ·grind [nw]
  ·have abH:¬ (pn p:Int)=16:=by omega
   rw[aK abH,aE];have:=key 1 (by grind [wh]) Bys (λh=>ZQ Bys) Bys 2 Bys;exact this
 ·have My:¬ ((gn p:Int)=(pn p:Int)):=by omega
  simp only[My,aI,aE];exact key 0 (by grind [wh]) Bys (λh=>he h.1) Bys 0 Bys
variable {s:Nat} (hs:s < pn p) (hz:bj p s≠0)
include hs hz
theorem M0:tj.ab (p,(s:Int),c,())=some (if sD p s c=0 then AH p s c else [],sD p s c,()):=by
 have hn:=hp.n;have za:=hp.lo;have Ka:=hp.hi;have hl:=hp.len;obtain ⟨f1,f2⟩:=Ft hp;obtain ⟨s1,s2⟩:=hp.slot s hs hz;refine ag (k:=0) λk _=>(tj.af k _).trans ?_;show tj.p _=_;unfold tj.p sD AH;simp only[xA hl (show s < 16 by omega),pY p Bys,Pm hl (show s < 16 by omega),Ks hp,Vs hl,rK hl,aA];by_cases c1:c.length<=bj p s
 ·grind [bf,Ad]
 have c1':¬ (c.length:Int)<=(bj p s:Int):=by omega
 have w2:ae (ua p+(bj p s:Int))=ua p+(bj p s:Int):=bf Bys;simp only[c1,c1',aI,aE,aU,w2];by_cases c2:ua p+(bj p s:Int) < (c.length:Int)
 ·grind
 have w3:ae ((fh p:Int) - (c.length:Int))=(fh p:Int) - (c.length:Int):=bf Bys;simp only[c2,aI,aE,aU,w3,HH (show pn p < 1000 by omega)];by_cases c3:fh p < 2+2*pn p+c.length
 ·grind
 have n3:¬ ((fh p:Int) - (c.length:Int) < ((2+2*pn p:Nat):Int)):=by omega
 have w4:(fh p:Int) - (c.length:Int)=((fh p - c.length:Nat):Int):=by omega
 have n4:¬ (((fh p - c.length:Nat):Int) < ((2+2*pn p:Nat):Int)):=by omega
 have g2:(0:Int)<=1/\(1:Int) < (p.length:Int):=by omega
 simp only[c3,n4,aI,aE,aU,w4,g2,cP,aL,wm];rw[gr Bys,Ad (by grind) Bys Bys];simp only[aA]
 have:ng (p.set 1 (UInt8.ofNat (fh p - c.length))) s (fh p - c.length) c=(ng p s (fh p - c.length) c).set 1 (UInt8.ofNat (fh p - c.length)):=by
  have zd:(ng p s (fh p - c.length) c).length=64:=sC hl _ Bys;refine Dt ?_ λj hj=>?_
  all_goals grind [sC,AF,vE]
 rw[this]
theorem M1:rn.ab (p,(s:Int),c,())=some ((sD p s c,if sD p s c=0 then (s:Int) else 0,if sD p s c=0 then AH p s c else [],()),()):=by
 have hn:=hp.n;have za:=hp.lo;have Ka:=hp.hi;have hl:=hp.len;obtain ⟨f1,f2⟩:=Ft hp;obtain ⟨s1,s2⟩:=hp.slot s hs hz;refine ag (k:=0) λk _=>(rn.af k _).trans ?_;show rn.p _=_;unfold rn.p sD AH;have yn:(decide (s < pn p)&&!decide (bj p s=0))=true:=by simp[hs,hz]
 simp only[IK hp c lh hc,Aa hp s,yn,Dv hl (show s < 16 by omega),Kt hp,vR hl,aA,aP,aW,aE,gr (show 1 < p.length by omega),(kK (show 1 < p.length by omega)).2,Ep];by_cases c1:c.length<=bj p s
 ·grind [bf,DD]
 have c1':¬ (c.length:Int)<=(bj p s:Int):=by omega
 have w2:ae (ua p+(bj p s:Int))=ua p+(bj p s:Int):=bf Bys;simp only[c1,c1',aI,aE,aU,w2];by_cases c2:ua p+(bj p s:Int) < (c.length:Int)
 ·grind
 have e1:pb p 1=fh p:=rfl;grind [bf,sC,DD,wm]
end
def CA (v:List UInt8):List UInt8:=v.set 0 (UInt8.ofNat (wi v (pn v)))
theorem M2 {v w:List UInt8} (h:∀ i,bj v i=bj w i):∀ m,wi v m=wi w m
 | 0=>rfl
 | m+1=>by simp only[wi,h,M2 h m]
theorem Pt {v:List UInt8} (hl:v.length=64) (h0:0 < pn v) (hz:bj v (pn v - 1)=0):CA (v.set 0 (UInt8.ofNat (pn v - 1)))=CA v/\pn (v.set 0 (UInt8.ofNat (pn v - 1)))=pn v - 1:=by
 have bc:pn v < 256:=qa v 0
 have Kn:pn (v.set 0 (UInt8.ofNat (pn v - 1)))=pn v - 1:=by
  show pb _ 0=_;grind [vE,ofNat_toNat]
 refine ⟨?_,Kn⟩
 have hs:∀ i,bj (v.set 0 (UInt8.ofNat (pn v - 1))) i=bj v i:=λi=>by
  show pb _ _=pb _ _;grind [vE]
 unfold CA;rw[Kn,M2 hs,List.set_set]
 obtain ⟨n,hn⟩:∃ n,pn v=n+1:=⟨pn v - 1,by omega⟩
 grind [wi]
theorem Es {v:List UInt8} (h:pn v=0\/bj v (pn v - 1)≠0):CA v=v:=by
 grind [CA,Sz,pn,GQ,qa]
theorem VD {v:List UInt8} (hl:v.length=64) (h0:0 < pn v):UInt8.ofInt ((((v[0]'Bys).toNat:Nat):Int) - 1)=UInt8.ofNat (pn v - 1):=by
 have h1:(v[0]'Bys).toNat=pn v:=(kK (show 0 < v.length by omega)).2;grind [wm]
section
variable {p:List UInt8} (hp:iw p) {s:Nat} (hs:s < pn p)
include hp hs
theorem Pu:(uE p s).length=64:=by unfold uE;rw[bW,bW,hp.len]
theorem Lr:pn (uE p s)=pn p:=by
 show pb _ 0=pb _ 0;grind [uE,vE]
theorem M3:tm p s=CA (uE p s):=by grind [tm,CA,Lr]
theorem T_:qO.ab (p,(s:Int),())=some (tm p s,()):=by
 have hn:=hp.n;have hl:=hp.len;refine ag (k:=100) λk hk=>(qO.af k _).trans ?_;unfold qO.p;have i2:(0:Int)<=((2+2*s:Nat):Int)/\((2+2*s:Nat):Int) < (p.length:Int):=by omega
 have i3:(0:Int)<=((3+2*s:Nat):Int)/\((3+2*s:Nat):Int) < (p.length:Int):=by omega
 simp only[pY p Bys,aA,HH (show s < 1000 by omega),Pk (show s < 1000 by omega),i2,i3,cP,aL,aD,bW];rw[gr Bys,gr (by grind),M3 hp hs];have hd:=Lr hp hs;refine vY (λv=>(CA v,())) (λv=>v.length=64/\pn v<=16) pn (λv ⟨hv,hvn⟩ self=>?_) k (uE p s) ⟨Pu hp hs,by omega⟩ Bys;show qO.b0 _ _ _ _=_\/∃ v',qO.b0 _ _ _ _=_/\_;unfold qO.b0;have g:(0:Int)<=0/\(0:Int) < (v.length:Int):=by omega
 have e0:((v[0]'Bys).toNat:Nat)=pn v:=(kK (show 0 < v.length by omega)).2;simp only[g,cP,aL,gr (show 0 < v.length by omega)];by_cases h0:pn v=0
 ·left;have:¬ ((0:Int) < (((v[0]'Bys).toNat:Nat):Int)):=by rw[e0];omega
  rw[aK this,Es (Or.inl h0)];rfl
 have h1:(0:Int) < (((v[0]'Bys).toNat:Nat):Int):=by rw[e0];omega
 have hw:ae ((ae (((v[0]'Bys).toNat:Nat):Int)) - 1)=((pn v - 1:Nat):Int):=by
  grind [bf]
 rw[aS h1,hw,xA hv (show pn v - 1 < 16 by omega)];simp only[aA,aM];by_cases hz:bj v (pn v - 1)=0
 ·grind [Pt,VD]
 ·left;have:¬ ((bj v (pn v - 1):Int)=0):=by omega
  rw[aK this,Es (Or.inr hz)];rfl
theorem Ua (hz:bj p s≠0):pg.ab (p,(s:Int),())=some (((0:Int),(s:Int),tm p s,()),()):=by
 have hn:=hp.n;have hl:=hp.len;refine ag (k:=100) λk hk=>(pg.af k _).trans ?_;unfold pg.p;have i2:(0:Int)<=((2+2*s:Nat):Int)/\((2+2*s:Nat):Int) < (p.length:Int):=by omega
 have i3:(0:Int)<=((3+2*s:Nat):Int)/\((3+2*s:Nat):Int) < (p.length:Int):=by omega
 have yn:(decide (s < pn p)&&!decide (bj p s=0))=true:=by simp[hs,hz]
 rw[Bc p (by grind [an]),xy.2 hp];simp only[nl p Bys,Aa hp s,yn,aA,aP,aW,aE,HH (show s < 1000 by omega),Pk (show s < 1000 by omega),i2,i3,cP,aL,aD,bW];rw[gr Bys,gr (by grind),M3 hp hs];have hd:=Lr hp hs;refine vY (λv=>(((0:Int),(s:Int),CA v,()),())) (λv=>v.length=64/\pn v<=16) pn (λv ⟨hv,hvn⟩ self=>?_) k (uE p s) ⟨Pu hp hs,by omega⟩ Bys;show pg.b0 _ _ _ _=_\/∃ v',pg.b0 _ _ _ _=_/\_;unfold pg.b0;have g:(0:Int)<=0/\(0:Int) < (v.length:Int):=by omega
 have e0:((v[0]'Bys).toNat:Nat)=pn v:=(kK (show 0 < v.length by omega)).2;simp only[g,cP,aL,gr (show 0 < v.length by omega)];by_cases h0:pn v=0
 ·left;have:¬ ((0:Int) < (((v[0]'Bys).toNat:Nat):Int)):=by rw[e0];omega
  rw[aK this,Es (Or.inl h0)];rfl
 have h1:(0:Int) < (((v[0]'Bys).toNat:Nat):Int):=by rw[e0];omega
 have hw:ae ((ae ((2:Int)*(ae (((v[0]'Bys).toNat:Nat):Int))))+1)=((3+2*(pn v - 1):Nat):Int):=by
  grind [bf]
 have g3:(0:Int)<=((3+2*(pn v - 1):Nat):Int)/\((3+2*(pn v - 1):Nat):Int) < (v.length:Int):=by omega
 rw[aS h1,hw];simp only[g3,cP,aL,aD,gr (show 3+2*(pn v - 1) < v.length by omega),(kK (show 3+2*(pn v - 1) < v.length by omega)).2,aM];show (bif decide ((bj v (pn v - 1):Int)=0) then _ else _)=_\/∃ v',(bif decide ((bj v (pn v - 1):Int)=0) then _ else _)=_/\_;by_cases hz:bj v (pn v - 1)=0
 ·grind [Pt,VD]
 ·left;have:¬ ((bj v (pn v - 1):Int)=0):=by omega
  rw[aK this,Es (Or.inr hz)];rfl
end
theorem afu (a b:List UInt8) (j:Nat):pb (a++b) j=if j < a.length then pb a j else pb b (j - a.length):=by
 unfold pb;simp only[dN];split
 ·rename_i h;rw[cT h]
 ·rename_i h;rw[eX Bys]
theorem VE (n j:Nat):pb (List.replicate n (0:UInt8)) j=0:=by
 unfold pb;simp only[dN,fX];split <;> rfl
section
variable {p:List UInt8} (hp:iw p)
include hp
theorem SC:pO (List.replicate 64 (0:UInt8)) 0 (min ((p.take (2+2*pn p)).drop 0).length (List.replicate 64 (0:UInt8)).length) ((p.take (2+2*pn p)).drop 0)=Bb p:=by
 have hn:=hp.n;have hl:=hp.len;have ht:(p.take (2+2*pn p)).length=2+2*pn p:=by rw[dG];omega
 rw[eD,cL,show min (p.take (2+2*pn p)).length 64=(p.take (2+2*pn p)).length by omega];refine Dt ?_ λj hj=>?_
 ·rw[tt _ _ (by rw[cL];omega) (aG _)];unfold Bb;rw[bQ,cL,cL];omega
 ·rw[Oj (by rw[cL];omega)];unfold Bb;rw[afu,ht,VE,VE];by_cases h:j < 2+2*pn p
  ·rw[aH ⟨by omega,by omega⟩,aH h,Nat.sub_zero]
  ·rw[aN Bys,aN h]
theorem VF {k:Nat} (hk:k < pn p) (hz:bj p k≠0):(kL p k).1.length=64/\bj p k<=(kL p k).2/\(kL p k).2<=64/\bj (kL p k).1 k=bj p k/\2+2*pn p<=(kL p k).2 - bj p k:=by
 have I:=GT hp k Bys;have zI:=GP hp;have hm:=tD p (show k+1<=pn p from hk);have za:=hp.lo;have ha:=I.a;simp only[om] at hm;exact ⟨I.len,by omega,by omega,I.sz k hk,by omega⟩
theorem SE:(kL p (pn p)).1.length=64/\(kL p (pn p)).2<=64:=by
 have I:=GT hp (pn p) (aG _);have ha:=I.a;exact ⟨I.len,by omega⟩
theorem Ku:im.ab (p,())=some (nh p,()):=by
 have hn:=hp.n;have hl:=hp.len;refine ag (k:=100) λk hk=>(im.af k _).trans ?_;unfold im.p;have g1:(0:Int)<=64/\(64:Int)<=64/\(64:Int)<=(be:Int):=by unfold be;omega
 have g2:(0:Int)<=((2+2*pn p:Nat):Int)/\((2+2*pn p:Nat):Int)<=(p.length:Int):=by omega
 simp only[rK hl,aA,HH (show pn p < 1000 by omega),g1,g2,cP,aL,aD];rw[SC hp]
 have:=rt (B:=λself v=>im.b0 self (λz=>im.q0 (p,()) (pn p:Int) z) (p,()) (pn p:Int) v) (pn p) (λ(s:List UInt8×Nat) (i:Int)=>(s.1,(s.2:Int),i)) (λx s=>.inr (Cw p s x)) (λs=>some (s.1.set 1 (UInt8.ofNat s.2),())) (λi s=>s=kL p i) Bys
  (λi hi s self hs=>by
   subst hs;show im.b0 _ _ _ _ _=_;unfold im.b0 Cw;have bc:(i:Int) < (pn p:Int):=by omega
   simp only[bc,aP,aM,xA hl (show i < 16 by omega),aA];by_cases hz:bj p i=0
   ·simp only[hz,Int.natCast_zero,aP,aM,aL]
   ·have hz':¬ ((bj p i:Int)=0):=by omega
    obtain ⟨c1,c2,c3,c4,c5⟩:=VF hp hi hz;have vz:=qu hp hi;have hw:ae (((kL p i).2:Int) - (bj p i:Int))=(((kL p i).2 - bj p i:Nat):Int):=by rw[bf Bys];omega
    simp only[hz,hz',aI,aE,aU,B8 hp hi,aA,vz,hw,Ad c1 (show i < 16 by omega) (show (kL p i).2 - bj p i+(jP p i).length<=64 by omega)])
  (λi hi s s' hs hf=>by injection hf with hf;subst hf;rw[hs,GS]) (λs self hs=>by
   subst hs;obtain ⟨c1,c2⟩:=SE hp;show im.b0 _ _ _ _ _=_;unfold im.b0;simp only[aY,aI,aE];show im.q0 _ _ _=_;unfold im.q0;have g:(0:Int)<=1/\(1:Int) < ((kL p (pn p)).1.length:Int):=by omega
   simp only[g,cP,aL,wm]
   rw[gr Bys]) (Bb p,64) rfl k Bys
 rw[ik (g:=λs x=>Cw p s x)] at this;exact this
theorem Ub:iN.ab (p,())=some (((0:Int),(0:Int),nh p,()),()):=by
 have hn:=hp.n;have hl:=hp.len;refine ag (k:=100) λk hk=>(iN.af k _).trans ?_;unfold iN.p;have g1:(0:Int)<=64/\(64:Int)<=64/\(64:Int)<=(be:Int):=by unfold be;omega
 have g2:(0:Int)<=((2+2*pn p:Nat):Int)/\((2+2*pn p:Nat):Int)<=(p.length:Int):=by omega
 rw[Bc p (by rw[hp.len,an];omega),xy.2 hp];simp only[vR hl,aA,aP,aW,aE,HH (show pn p < 1000 by omega),g1,g2,cP,aL,aD];rw[SC hp]
 have:=rt (B:=λself v=>iN.b0 self (λz=>iN.q0 (p,()) (pn p:Int) z) (p,()) (pn p:Int) v) (pn p) (λ(s:List UInt8×Nat) (i:Int)=>(s.1,(s.2:Int),i)) (λx s=>.inr (Cw p s x)) (λs=>some (((0:Int),(0:Int),s.1.set 1 (UInt8.ofNat s.2),()),())) (λi s=>s=kL p i) Bys
  (λi hi s self hs=>by
   subst hs;show iN.b0 _ _ _ _ _=_;unfold iN.b0 Cw;have bc:(i:Int) < (pn p:Int):=by omega
   simp only[bc,aP,aM,Aa hp i,aA];by_cases hz:bj p i=0
   ·simp only[hz,aP,aW,hJ,bO,aM,aL]
   ·obtain ⟨c1,c2,c3,c4,c5⟩:=VF hp hi hz;have vz:=qu hp hi;have hw:ae (((kL p i).2:Int) - (bj p i:Int))=(((kL p i).2 - bj p i:Nat):Int):=by rw[bf Bys];omega
    have yn:(decide (i < pn p)&&!decide (bj p i=0))=true:=by simp[hi,hz]
    have g3:(0:Int)<=(((kL p i).2 - bj p i:Nat):Int)/\(((kL p i).2 - bj p i:Nat):Int)<=((kL p i).1.length:Int):=by omega
    have hm:min (bj p i) ((kL p i).1.length - ((kL p i).2 - bj p i))=bj p i:=by omega
    have Hv:(pO (kL p i).1 ((kL p i).2 - bj p i) (bj p i) (jP p i)).length=64:=by rw[tt _ _ Bys Bys,c1]
    have g4:(0:Int)<=((2+2*i:Nat):Int)/\((2+2*i:Nat):Int) < ((64:Nat):Int):=by omega
    rw[yn];simp only[aW,aE,aN hz,B7 hp hi,aA,vz,hw,g3,cP,aL,aD,hm,HH (show i < 1000 by omega),Hv,g4,wm];rw[gr Bys]
    have dm:ng (kL p i).1 i ((kL p i).2 - bj p i) (jP p i)=(pO (kL p i).1 ((kL p i).2 - bj p i) (bj p i) (jP p i)).set (2+2*i) (UInt8.ofNat ((kL p i).2 - bj p i)):=by
     unfold ng;rw[vz];refine Sz ?_ Bys;rw[vE,aN Bys,<- vz,Oj Bys,aN Bys,vz];exact c4
    rw[dm])
  (λi hi s s' hs hf=>by injection hf with hf;subst hf;rw[hs,GS]) (λs self hs=>by
   subst hs;obtain ⟨c1,c2⟩:=SE hp;show iN.b0 _ _ _ _ _=_;unfold iN.b0;simp only[aY,aI,aE];show iN.q0 _ _ _=_;unfold iN.q0;have g:(0:Int)<=1/\(1:Int) < ((kL p (pn p)).1.length:Int):=by omega
   simp only[g,cP,aL,wm]
   rw[gr Bys]) (Bb p,64) rfl k Bys
 rw[ik (g:=λs x=>Cw p s x)] at this;exact this
end
theorem G_:jw.ab ((0:UInt8),())=some (wg,()):=by
 refine ag (k:=66) λk hk=>(jw.af k _).trans ?_;unfold jw.p
 have:=cy (B:=λself v=>jw.b0 self (λz=>jw.q0 ((0:UInt8),()) z) ((0:UInt8),()) v) (List.replicate 64 (0:UInt8)) (λ(s:List UInt8) (i:Int)=>(s,i)) (λ_ s _=>.inr s) (λs=>(wg,())) (λ_ s=>s=List.replicate 64 (0:UInt8)) (by rw[an];simp)
  (λi hi s self hI=>by
   show jw.b0 _ _ _ _=_;unfold jw.b0;subst hI;simp only[cL] at hi ⊢;have bc:(i:Int) < ((64:Nat):Int):=by omega
   have gb:(0:Int)<=(i:Int)/\(i:Int) < ((64:Nat):Int):=by omega
   have hg:(List.replicate 64 (0:UInt8))[i]?=some 0:=(fX (n:=64) (i:=i) (a:=(0:UInt8))).trans (aH hi);have hs:(List.replicate 64 (0:UInt8)).set i 0=List.replicate 64 (0:UInt8):=List.set_replicate_self
   simp only[bc,gb,cP,aP,aM,aL,aD,hg,aA,hs])
  (λi hi s s' hI hs=>by injection hs with hs;rw[<-hs,hI]) (λs self hI=>by
   show jw.b0 _ _ _ _=_;unfold jw.b0;subst hI;simp only[cL,aY,aI,aE]
   rfl) (List.replicate 64 (0:UInt8)) rfl k (by simp;omega)
 rw[ik (g:=λs _=>s)] at this
 have hc:(0:Int)<=64/\(64:Int)<=64/\(64:Int)<=(be:Int):=⟨by omega,by omega,by simp only[be];omega⟩
 rw[aH hc];exact this
theorem M4:nf.ab ((0:UInt8),())=some (wg,()):=by
 refine ag (k:=66) λk hk=>(nf.af k _).trans ?_;unfold nf.p
 have:=cy (B:=λself v=>nf.b0 self (λz=>nf.q0 ((0:UInt8),()) z) ((0:UInt8),()) v) (List.replicate 64 (0:UInt8)) (λ(s:List UInt8) (i:Int)=>(s,i)) (λ_ s _=>.inr s) (λs=>(wg,())) (λ_ s=>s=List.replicate 64 (0:UInt8)) (by rw[an];simp)
  (λi hi s self hI=>by
   show nf.b0 _ _ _ _=_;unfold nf.b0;subst hI;simp only[cL] at hi ⊢;have bc:(i:Int) < (64:Int):=by omega
   have gb:(0:Int)<=(i:Int)/\(i:Int) < ((64:Nat):Int):=by omega
   have hg:(List.replicate 64 (0:UInt8))[i]?=some 0:=(fX (n:=64) (i:=i) (a:=(0:UInt8))).trans (aH hi);have hs:(List.replicate 64 (0:UInt8)).set i 0=List.replicate 64 (0:UInt8):=List.set_replicate_self
   simp only[bc,gb,cP,aP,aM,aL,aD,hg,aA,hs])
  (λi hi s s' hI hs=>by injection hs with hs;rw[<-hs,hI]) (λs self hI=>by
   show nf.b0 _ _ _ _=_;unfold nf.b0;subst hI;have:¬ (((64:Nat):Int) < 64):=by omega
   simp only[cL,this,aI,aE]
   rfl) (List.replicate 64 (0:UInt8)) rfl k (by simp;omega)
 rw[ik (g:=λs _=>s)] at this
 have hc:(0:Int)<=64/\(64:Int)<=64/\(64:Int)<=(be:Int):=⟨by omega,by omega,by simp only[be];omega⟩
 rw[aH hc];exact this
def gf (ps:bp) (P:Nat):List UInt8:=ps.getD P []
theorem o7 {ps:bp} {P:Nat} (h:P < ps.length):ps[P]?=some (gf ps P):=by
 grind [gf]
theorem Ls {ps:bp} {P:Nat} (h:P < ps.length):gf ps P ∈ ps:=bT (o7 h)
theorem qv {ps:bp} (h:nO ps) {P:Nat} (hP:P < ps.length):iw (gf ps P):=h.2 _ (Ls hP)
theorem SF (ps:bp) (P Q:Nat) (b:List UInt8):gf (ps.set P b) Q=if P=Q/\P < ps.length then b else gf ps Q:=by
 grind [gf]
theorem SG (ps:bp) (Q:Nat) (b:List UInt8):gf (ps++[b]) Q=if Q=ps.length then b else gf ps Q:=by
 grind [gf]
def bt (ps:bp) (P s:Nat):List UInt8:=cellOf (gf ps P) s
theorem Ot {ps:bp} {P s:Nat} (h:ps.length<=P):bt ps P s=[]:=by
 have:gf ps P=[]:=by grind [gf]
 unfold bt;rw[this];rfl
theorem uG {ps:bp} (h:nO ps) {P s:Nat} (hc:bt ps P s≠[]):P < ps.length/\s < pn (gf ps P)/\bj (gf ps P) s≠0:=by
 grind [Ot,bt,cellOf,si,qv]
def nD (w:ca) (P:Nat) (b:List UInt8):ca:=
 if P=List.length w.1 then (w.1++[b],w.2.1++[((P:Int),b,())],())
 else if gf w.1 P=b then w else (List.set w.1 P b,w.2.1++[((P:Int),b,())],())
structure okW (w:ca) (n:Nat):Prop where
 jQ:nO w.1
 el:List.length w.2.1<=n
 eb:∀ e ∈ (w.2.1:List qF),List.length e.2.1=64
theorem okW.mono {w:ca} {n m:Nat} (h:okW w n) (hm:n<=m):okW w m:=⟨h.jQ,by have:=h.el;omega,h.eb⟩
theorem uH {w:ca} {P:Nat} (hP:P < List.length w.1) (b:List UInt8):(nD w P b).1=List.set w.1 P b:=by
 unfold nD;rw[aN Bys];split
 ·rename_i h;refine eC λi=>?_;grind [o7]
 ·rfl
theorem Lt (w:ca) (b:List UInt8):(nD w (List.length w.1) b).1=w.1++[b]:=by
 grind [nD]
theorem AL {w:ca} {n P:Nat} (h:okW w n) {b:List UInt8} (hb:iw b) (hP:P<=List.length w.1) (Ae:P < 12):okW (nD w P b) (n+1):=by
 have hl:=h.el
 have he:∀ e ∈ ((w.2.1++[((P:Int),b,())]):List qF),List.length e.2.1=64:=λe he=>by
  rcases bG.1 he with he | he
  ·exact h.eb e he
  ·rw[bC.1 he];exact hb.len
 unfold nD;split
 ·rename_i h1;refine ⟨⟨?_,λp hp=>?_⟩,?_,he⟩
  ·grind
  ·rcases bG.1 hp with hp | hp
   ·exact h.jQ.2 p hp
   grind
  grind
 ·split
  ·exact h.mono Bys
  ·refine ⟨⟨?_,λp hp=>?_⟩,?_,he⟩
   ·rw[bW];exact h.jQ.1
   ·rcases eH hp with hp | hp
    ·exact h.jQ.2 p hp
    grind
   grind
theorem xY {w:ca} {P:Nat} (hP:P < List.length w.1) (b:List UInt8) (Q s:Nat):bt (nD w P b).1 Q s=if Q=P then cellOf b s else bt w.1 Q s:=by
 grind [uH,bt,SF]
theorem tE {w:ca} {n P:Nat} (h:okW w n) (hn:n<=1000) {b:List UInt8} (hb:b.length=64) (hP:P<=List.length w.1):jN.ab (w,(P:Int),b,())=some (nD w P b,()):=by
 refine ag (k:=0) λk _=>(jN.af k _).trans ?_;show jN.p _=_;unfold jN.p nD;have hl:=h.jQ.1;have he:=h.el;simp only[pY b Bys,aA];grind [cr,gf]
theorem u0 {w:ca} {n P:Nat} (h:okW w n) (hn:n<=1000) {b:List UInt8} (hb:b.length=64) (hP:P<=List.length w.1):gy.ab (w,(P:Int),b,())=some (nD w P b,()):=by
 refine ag (k:=0) λk _=>(gy.af k _).trans ?_;show gy.p _=_;unfold gy.p nD;have hl:=h.jQ.1;have he:=h.el;simp only[nl b Bys,aA];grind [cr,gf]
def px (w:ca) (P:Nat):ca:=nD w P (nh (gf w.1 P))
theorem Ha {w:ca} {P:Nat} (hP:P < List.length w.1):gf (px w P).1 P=nh (gf w.1 P):=by
 grind [px,uH,SF]
theorem tF {w:ca} {P:Nat} (hP:P < List.length w.1):List.length (px w P).1=List.length w.1:=by
 grind [px,uH]
theorem xC {w:ca} {n P:Nat} (h:okW w n) (hP:P < List.length w.1):okW (px w P) (n+1):=
 AL h (uY (qv h.jQ hP)).1 Bys (by have:=h.jQ.1;omega)
theorem Bg {w:ca} {n P:Nat} (h:okW w n) (hP:P < List.length w.1) (Q s:Nat):bt (px w P).1 Q s=bt w.1 Q s:=by
 unfold px;rw[xY hP];split
 ·rename_i hq;subst hq;exact (uY (qv h.jQ hP)).2.1 s
 ·rfl
theorem IL {w:ca} {n P:Nat} (h:okW w n) (hn:n<=1000) (hP:P < List.length w.1):lc.ab (w,(P:Int),())=some (px w P,()):=by
 refine ag (k:=0) λk _=>(lc.af k _).trans ?_;show lc.p _=_;unfold lc.p px;have hp:=qv h.jQ hP;have g:(0:Int)<=(P:Int)/\(P:Int) < (List.length w.1:Int):=by omega
 rw[aH g];simp only[aD,o7 hP,aA,Ub hp,u0 h hn (uY hp).1.len (dX hP)]
def sj (w:ca) (P:Nat) (c:List UInt8):Option Nat×ca:=
 if nw (gf w.1 P) c=8 then
  if nw (nh (gf w.1 P)) c=0 then (some (gn (nh (gf w.1 P))),nD (px w P) P (sV (nh (gf w.1 P)) c)) else (none,px w P)
 else if nw (gf w.1 P) c=0 then (some (gn (gf w.1 P)),nD w P (sV (gf w.1 P) c)) else (none,w)
structure afv (w:ca) (n P:Nat) (c:List UInt8) (r:Option Nat×ca):Prop where
 ok:okW r.2 (n+2)
 len:List.length r.2.1=List.length w.1
 no:r.1=none->∀ Q s,bt r.2.1 Q s=bt w.1 Q s
 yes:∀ t,r.1=some t->t < 16/\bt w.1 P t=[]/\∀ Q s,bt r.2.1 Q s=if Q=P/\s=t then c else bt w.1 Q s
theorem Pv {p c:List UInt8} (h:iw p) (hc:nw p c=0):gn p < 16:=by
 have:=(wR p).1;have:=h.n;grind [nw]
theorem yT {w:ca} {n P:Nat} (h:okW w n) (hP:P < List.length w.1) {c:List UInt8} (hc:1<=c.length):afv w n P c (sj w P c):=by
 have hp:=qv h.jQ hP;have Ae:=h.jQ.1;unfold sj;split
 ·obtain ⟨q1,q2,q3⟩:=uY hp;have hw:=xC h hP;have hl:=tF hP;split
  ·rename_i h0;obtain ⟨r1,r2,r3⟩:=AG q1 hc h0;have hP':P < List.length (px w P).1:=by omega
   refine ⟨AL hw r1 Bys Bys,?_,λhh=>(by cases hh),λt ht=>?_⟩
   ·grind [uH]
   ·injection ht with ht;subst ht;refine ⟨Pv q1 h0,?_,λQ s=>?_⟩
    ·show cellOf (gf w.1 P) _=[]
     grind
    ·rw[xY hP',r2,Bg h hP];by_cases hq:Q=P
     ·subst hq;by_cases hs:s=gn (nh (gf w.1 Q))
      ·grind
      ·rw[aH rfl,aN hs,aN (λhh=>hs hh.2),q2];rfl
     grind
  ·exact ⟨hw.mono Bys,hl,λ_=>Bg h hP,λt ht=>by cases ht⟩
 ·split
  ·rename_i h0;obtain ⟨r1,r2,r3⟩:=AG hp hc h0;refine ⟨(AL h r1 Bys Bys).mono Bys,?_,λhh=>(by cases hh),λt ht=>?_⟩
   ·rw[uH hP,bW]
   ·injection ht with ht;subst ht;refine ⟨Pv hp h0,r3,λQ s=>?_⟩
    rw[xY hP,r2];by_cases hq:Q=P
    ·subst hq;by_cases hs:s=gn (gf w.1 Q)
     ·grind
     ·rw[aH rfl,aN hs,aN (λhh=>hs hh.2)];rfl
    grind
  ·exact ⟨h.mono Bys,rfl,λ_ _ _=>rfl,λt ht=>by cases ht⟩
def ZR (r:Option Nat×ca):Int×Bool×ca×Unit:=match r.1 with
 | some t=>((t:Int),true,r.2,())
 | none=>((0:Int),false,r.2,())
theorem SH {w:ca} {n P:Nat} (h:okW w n) (hn:n<=900) (hP:P < List.length w.1) {c:List UInt8} (lh:1<=c.length) (hc:c.length<=20):sB.ab (w,(P:Int),c,())=some (ZR (sj w P c)):=by
 refine ag (k:=0) λk _=>(sB.af k _).trans ?_;show sB.p _=_;unfold sB.p sj;have hp:=qv h.jQ hP;obtain ⟨q1,q2,q3⟩:=uY hp;have hw:=xC h hP;have hl:=tF hP;have g:(0:Int)<=(P:Int)/\(P:Int) < (List.length w.1:Int):=by omega
 have g2:(0:Int)<=(P:Int)/\(P:Int) < (List.length (px w P).1:Int):=by omega
 have ec:nD w P (nh (gf w.1 P))=px w P:=rfl;rw[aH g];simp only[aD,o7 hP,aA,Oq hp c lh hc,Ku hp,tE h Bys q1.len (dX hP),ec,o7 (show P < List.length (px w P).1 by omega),Ha hP,Oq q1 c lh hc];by_cases h8:nw (gf w.1 P) c=8
 ·rw[aS h8,aM,aH h8,aH g,aH g2];by_cases h0:nw (nh (gf w.1 P)) c=0
  ·rw[aS h0,aH h0,aH h0,aH h0,aW,aE,tE hw Bys (AG q1 lh h0).1.len Bys];rfl
  ·rw[aK h0,bO,aM,aN h0];rfl
 ·rw[aK h8,aE,aN h8];by_cases h0:nw (gf w.1 P) c=0
  ·rw[aS h0,aH h0,aH h0,aH h0,aW,aE,tE h Bys (AG hp lh h0).1.len Bys];rfl
  ·rw[aK h0,bO,aM,aN h0];rfl
def kW (w:ca) (P s:Nat) (c:List UInt8):Bool×ca:=
 if sD (gf w.1 P) s c=8 then
  if sD (nh (gf w.1 P)) s c=0 then (true,nD (px w P) P (AH (nh (gf w.1 P)) s c)) else (false,px w P)
 else if sD (gf w.1 P) s c=0 then (true,nD w P (AH (gf w.1 P) s c)) else (false,w)
theorem IM {p:List UInt8} (h:iw p) {s:Nat} (hs:s < pn p) (hz:bj p s≠0):s < pn (nh p)/\bj (nh p) s≠0:=by
 obtain ⟨q1,q2,q3⟩:=uY h;refine ⟨by omega,λh0=>hz ?_⟩
 rw[<-si h hs,<- q2,si q1 Bys];exact h0
structure ZS (w:ca) (n P s:Nat) (c:List UInt8) (r:Bool×ca):Prop where
 ok:okW r.2 (n+2)
 len:List.length r.2.1=List.length w.1
 no:r.1=false->∀ Q t,bt r.2.1 Q t=bt w.1 Q t
 yes:r.1=true->∀ Q t,bt r.2.1 Q t=if Q=P/\t=s then c else bt w.1 Q t
theorem qi {w:ca} {n P s:Nat} (h:okW w n) (ey:bt w.1 P s≠[]) {c:List UInt8} (hc:1<=c.length):ZS w n P s c (kW w P s c):=by
 obtain ⟨hP,hs,hz⟩:=uG h.jQ ey;have hp:=qv h.jQ hP;have Ae:=h.jQ.1;unfold kW;split
 ·obtain ⟨q1,q2,q3⟩:=uY hp;obtain ⟨z1,z2⟩:=IM hp hs hz;have hw:=xC h hP;have hl:=tF hP;split
  ·rename_i h0;obtain ⟨r1,r2⟩:=CK q1 z1 z2 hc h0;have hP':P < List.length (px w P).1:=by omega
   refine ⟨AL hw r1 Bys Bys,?_,λhh=>(by cases hh),λ_ Q t=>?_⟩
   ·grind [uH]
   ·rw[xY hP',r2,Bg h hP];by_cases hq:Q=P
    ·subst hq;by_cases ht:t=s
     ·grind
     ·rw[aH rfl,aN ht,aN (λhh=>ht hh.2),q2];rfl
    grind
  ·exact ⟨hw.mono Bys,hl,λ_=>Bg h hP,λht=>by cases ht⟩
 ·split
  ·rename_i h0;obtain ⟨r1,r2⟩:=CK hp hs hz hc h0;refine ⟨(AL h r1 Bys Bys).mono Bys,?_,λhh=>(by cases hh),λ_ Q t=>?_⟩
   ·rw[uH hP,bW]
   ·rw[xY hP,r2];by_cases hq:Q=P
    ·subst hq;by_cases ht:t=s
     ·grind
     ·rw[aH rfl,aN ht,aN (λhh=>ht hh.2)];rfl
    grind
  ·exact ⟨h.mono Bys,rfl,λ_ _ _=>rfl,λht=>by cases ht⟩
theorem Af {w:ca} {n P s:Nat} (h:okW w n) (hn:n<=900) (ey:bt w.1 P s≠[]) {c:List UInt8} (lh:1<=c.length) (hc:c.length<=20):pu.ab (w,(P:Int),(s:Int),c,())=some ((kW w P s c).1,(kW w P s c).2,()):=by
 refine ag (k:=0) λk _=>(pu.af k _).trans ?_;show pu.p _=_;unfold pu.p kW;obtain ⟨hP,hs,hz⟩:=uG h.jQ ey;have hp:=qv h.jQ hP;obtain ⟨q1,q2,q3⟩:=uY hp;obtain ⟨z1,z2⟩:=IM hp hs hz;have hw:=xC h hP;have hl:=tF hP;have g:(0:Int)<=(P:Int)/\(P:Int) < (List.length w.1:Int):=by omega
 have g2:(0:Int)<=(P:Int)/\(P:Int) < (List.length (px w P).1:Int):=by omega
 have ec:nD w P (nh (gf w.1 P))=px w P:=rfl;rw[aH g];simp only[aD,o7 hP,aA,M0 hp c lh hc hs hz,Ku hp,tE h Bys q1.len (dX hP),ec,o7 (show P < List.length (px w P).1 by omega),Ha hP,M0 q1 c lh hc z1 z2];by_cases h8:sD (gf w.1 P) s c=8
 ·rw[aS h8,aM,aH h8,aH g,aH g2];by_cases h0:sD (nh (gf w.1 P)) s c=0
  ·rw[aS h0,aH h0,aH h0,aW,aE,tE hw Bys (CK q1 z1 z2 lh h0).1.len Bys];rfl
  grind
 ·rw[aK h8,aE,aN h8];by_cases h0:sD (gf w.1 P) s c=0
  ·rw[aS h0,aH h0,aH h0,aW,aE,tE h Bys (CK hp hs hz lh h0).1.len Bys];rfl
  grind
theorem IN {w:ca} {n P s:Nat} (h:okW w n) (hn:n<=900) (ey:bt w.1 P s≠[]) {c:List UInt8} (lh:1<=c.length) (hc:c.length<=20):ns.ab (w,(P:Int),(s:Int),c,())=some ((kW w P s c).1,(kW w P s c).2,()):=by
 refine ag (k:=0) λk _=>(ns.af k _).trans ?_;show ns.p _=_;unfold ns.p kW;obtain ⟨hP,hs,hz⟩:=uG h.jQ ey;have hp:=qv h.jQ hP;obtain ⟨q1,q2,q3⟩:=uY hp;obtain ⟨z1,z2⟩:=IM hp hs hz;have hw:=xC h hP;have hl:=tF hP;have g:(0:Int)<=(P:Int)/\(P:Int) < (List.length w.1:Int):=by omega
 have g2:(0:Int)<=(P:Int)/\(P:Int) < (List.length (px w P).1:Int):=by omega
 rw[aH g];simp only[aD,o7 hP,aA,M1 hp c lh hc hs hz,IL h Bys hP,o7 (show P < List.length (px w P).1 by omega),Ha hP,M1 q1 c lh hc z1 z2];by_cases h8:sD (gf w.1 P) s c=8
 ·rw[aS h8,aM,aH h8,aH g2];by_cases h0:sD (nh (gf w.1 P)) s c=0
  ·rw[aS h0,aH h0,aH h0,aW,aE,u0 hw Bys (CK q1 z1 z2 lh h0).1.len Bys];rfl
  grind
 ·rw[aK h8,aE,aN h8];by_cases h0:sD (gf w.1 P) s c=0
  ·rw[aS h0,aH h0,aH h0,aW,aE,u0 h Bys (CK hp hs hz lh h0).1.len Bys];rfl
  grind
def kM (w:ca) (P s:Nat):ca:=nD w P (tm (gf w.1 P) s)
theorem qw {w:ca} {n P s:Nat} (h:okW w n) (ey:bt w.1 P s≠[]):okW (kM w P s) (n+1)/\List.length (kM w P s).1=List.length w.1/\∀ Q t,bt (kM w P s).1 Q t=if Q=P/\t=s then [] else bt w.1 Q t:=by
 obtain ⟨hP,hs,hz⟩:=uG h.jQ ey;have hp:=qv h.jQ hP;have Ae:=h.jQ.1;obtain ⟨r1,r2⟩:=Li hp hs;refine ⟨AL h r1 Bys Bys,?_,λQ t=>?_⟩
 ·grind [kM,uH]
 ·unfold kM;rw[xY hP,r2];by_cases hq:Q=P
  ·subst hq;by_cases ht:t=s
   ·grind
   ·rw[aH rfl,aN ht,aN (λhh=>ht hh.2)];rfl
  grind
theorem B_ {w:ca} {n P s:Nat} (h:okW w n) (hn:n<=900) (ey:bt w.1 P s≠[]):pj.ab (w,(P:Int),(s:Int),())=some (kM w P s,()):=by
 refine ag (k:=0) λk _=>(pj.af k _).trans ?_;show pj.p _=_;unfold pj.p kM;obtain ⟨hP,hs,hz⟩:=uG h.jQ ey;have hp:=qv h.jQ hP;have g:(0:Int)<=(P:Int)/\(P:Int) < (List.length w.1:Int):=by omega
 rw[aH g];simp only[aD,o7 hP,aA,T_ hp hs,tE h Bys (Li hp hs).1.len (dX hP)]
theorem Ca {w:ca} {n P s:Nat} (h:okW w n) (hn:n<=900) (ey:bt w.1 P s≠[]):ly.ab (w,(P:Int),(s:Int),())=some (kM w P s,()):=by
 refine ag (k:=0) λk _=>(ly.af k _).trans ?_;show ly.p _=_;unfold ly.p kM;obtain ⟨hP,hs,hz⟩:=uG h.jQ ey;have hp:=qv h.jQ hP;have g:(0:Int)<=(P:Int)/\(P:Int) < (List.length w.1:Int):=by omega
 rw[aH g];simp only[aD,o7 hP,aA,Ua hp hs hz,u0 h Bys (Li hp hs).1.len (dX hP)]
theorem Et {α β:Type} {f:α->β}:∀ {l:List α},(l.map f).Nodup->∀ {x y:α},x ∈ l->y ∈ l->f x=f y->x=y
 | z::l,h,x,y,hx,hy,he=>by
  rw[dW,cO] at h;rcases aZ.1 hx with By | By
  ·rcases aZ.1 hy with HK | HK
   ·rw[By,HK]
   ·rw[By] at he;exact absurd (he ▸ gS HK) h.1
  ·rcases aZ.1 hy with HK | HK
   ·rw[HK] at he;exact absurd (he ▸ gS By) h.1
   ·exact Et h.2 By HK he
theorem ZT {α β K:Type} [DecidableEq K] {l:List α} {l':List β} {g:α->β} {ka:α->K} {kb:β->K} (hk:∀ x,kb (g x)=ka x) (hp:l'.Perm (l.map g)) (hn:(l.map ka).Nodup) (k:K):l'.find? (λy=>decide (kb y=k))=(l.find? (λx=>decide (ka x=k))).map g:=by
 cases h:l.find? (λx=>decide (ka x=k)) with
 | none=>
  rw[eY] at h;show _=none;rw[eY];intro y hy;obtain ⟨x,hx,rfl⟩:=dT.1 (hp.mem_iff.1 hy);rw[hk];exact h x hx
 | some x=>
  have hx:=cU h;have Pw:ka x=k:=by have:=gQ h;simpa using this
  show _=some (g x)
  cases h2:l'.find? (λy=>decide (kb y=k)) with
  | none=>
   rw[eY] at h2;have:=h2 (g x) (hp.mem_iff.2 (gS hx));rw[hk,Pw] at this;simp at this
  | some y=>
   have hy:=cU h2;have hyk:kb y=k:=by have:=gQ h2;simpa using this
   obtain ⟨z,hz,rfl⟩:=dT.1 (hp.mem_iff.1 hy);rw[hk] at hyk;rw[Et hn hz hx (hyk.trans Pw.symm)]
theorem IP {α O:Type} (p:α->Bool) (g:α->O) (e:O):∀ (xs:List α) (i:Nat),bu (λ_ (_:Unit) x=>if p x then .inl (g x) else .inr ()) (λ_=>e) i xs ()=match xs.find? p with | some x=>g x | none=>e
 | [],_=>rfl
 | x::xs,i=>by
  simp only[bu,jA]
  cases h:p x with
  | true=>simp only[aL]
  | false=>simp only[aF,aU];exact IP p g e xs (i+1)
abbrev ac2:bd:=((0:Int),(0:Int),((0:Int),(0:Int),(0:Int),(0:Int),Dw,()),())
abbrev ac3:Seen:=(Dw,(0:Int),(0:Int),false,(0:Int),(0:Int),())
def vq (ps:bp) (t k:Int):Option bd:=(kV ps).find? (λx=>decide (rk (kR x)=(t,k)))
def Xu (l:List Seen) (t k:Int):Option Seen:=l.find? (λy=>decide (rk y.1=(t,k)))
theorem ZU (r:Row) (t k:Int):decide (rk r=(t,k))=(decide (r.1=t)&&decide (r.2.1=k)):=by
 unfold rk;by_cases h1:r.1=t <;> by_cases h2:r.2.1=k <;> simp[h1,h2]
theorem Uc (ps:bp) (h:nO ps) (t k:Int):oA.ab (ps,t,k,())=some (match vq ps t k with | some x=>(x,true,()) | none=>(ac2,false,())):=by
 refine ag (k:=300) λq hq=>(oA.af q _).trans ?_;unfold oA.p;rw[Kr ps h];simp only[aA];have oH:=G4 h;unfold vq;generalize kV ps=xs at oH ⊢
 have:=cy (B:=λself v=>oA.b0 self (λz=>oA.q0 (ps,t,k,()) xs z) (ps,t,k,()) xs v) xs (λ(_:Unit) (i:Int)=>i) (λ_ _ x=>if decide (rk (kR x)=(t,k)) then .inl (x,true,()) else .inr ()) (λ_=>((ac2,false,()):bd×Bool×Unit)) (λ_ _=>True) (by rw[an];omega)
  (λi hi s self _=>by
   show oA.b0 _ _ _ _ _=_;unfold oA.b0;have bc:(i:Int) < (xs.length:Int):=by omega
   have g:(0:Int)<=(i:Int)/\(i:Int) < (xs.length:Int):=by omega
   rw[aS bc,aM,aH g,ZU];simp only[aD,aB hi,aA,aH g];show (bif decide ((kR xs[i]).1=t) then (bif decide ((kR xs[i]).2.1=k) then _ else _) else _)=_
   cases decide ((kR xs[i]).1=t) <;> cases decide ((kR xs[i]).2.1=k) <;> rfl)
  (λ_ _ _ _ _ _=>trivial) (λs self _=>by
   show oA.b0 _ _ _ _ _=_;unfold oA.b0;rw[aK (aY _),aE]
   rfl) () trivial q Bys
 rw[IP] at this;refine this.trans (cV some ?_);cases List.find? (λx=>decide (rk (kR x)=(t,k))) xs <;> rfl
theorem Ud (l:List Seen) (hl:l.length<=1000) (t k:Int):rA.ab (l,t,k,())=some (match Xu l t k with | some x=>(x,true,()) | none=>(ac3,false,())):=by
 refine ag (k:=1100) λq hq=>(rA.af q _).trans ?_;unfold Xu
 have:=cy (B:=λself v=>rA.b0 self (λz=>rA.q0 (l,t,k,()) z) (l,t,k,()) v) l (λ(_:Unit) (i:Int)=>i) (λ_ _ x=>if decide (rk x.1=(t,k)) then .inl (x,true,()) else .inr ()) (λ_=>((ac3,false,()):Seen×Bool×Unit)) (λ_ _=>True) (by rw[an];omega)
  (λi hi s self _=>by
   show rA.b0 _ _ _ _=_;unfold rA.b0;have bc:(i:Int) < (l.length:Int):=by omega
   have g:(0:Int)<=(i:Int):=by omega
   rw[aS bc,aM,aH g,ZU];simp only[aD,aB hi,aA];show (bif decide (l[i].1.1=t) then (bif decide (l[i].1.2.1=k) then _ else _) else _)=_
   cases decide (l[i].1.1=t) <;> cases decide (l[i].1.2.1=k) <;> rfl)
  (λ_ _ _ _ _ _=>trivial) (λs self _=>by
   show rA.b0 _ _ _ _=_;unfold rA.b0;rw[aK (aY _),aE]
   rfl) () trivial q Bys
 rw[IP] at this;refine this.trans (cV some ?_);cases List.find? (λx:Seen=>decide (rk x.1=(t,k))) l <;> rfl
theorem ZV {ps:bp} (h:xX ps) (t k:Int):Xu (Ac ps) t k=(vq ps t k).map rP:=
 ZT (g:=rP) (ka:=λx=>rk (kR x)) (kb:=λy=>rk y.1) (λ_=>rfl) (MZ h) h.keys (t,k)
theorem abI {ps:bp} {a b:Int} (h:(rO ps a b).2=true):bt ps a.toNat b.toNat≠[]/\(nO ps->(rO ps a b)=ef (bt ps a.toNat b.toNat)):=by
 unfold rO at h ⊢
 cases hg:ps[a.toNat]? with
 | none=>rw[hg] at h;cases h
 | some p=>
  rw[hg] at h;simp only at h ⊢;split at h
  ·rename_i hc;have hp:gf ps a.toNat=p:=by unfold gf;rw[dN,hg];rfl
   have e:bt ps a.toNat b.toNat=jP p b.toNat:=by unfold bt cellOf;rw[hp,aH hc.1]
   rw[e,aH hc];refine ⟨λh0=>?_,λ_=>rfl⟩
   rw[h0] at h;exact absurd h (by decide)
  ·cases h
theorem Lu {ps:bp} (h:xX ps) {x:bd} (hx:x ∈ kV ps):∃ P s:Nat,x.1=(P:Int)/\x.2.1=(s:Int)/\bt ps P s≠[]/\(iq x=1->∃ Q t:Nat,vF x=(Q:Int)/\vG x=(t:Int)/\bt ps Q t≠[]/\(ef (bt ps Q t)).1.2.1=2)/\(ef (bt ps P s)).1.2.1=iq x:=by
 unfold kV at hx;obtain ⟨y,hy,ur⟩:=cM.1 hx;obtain ⟨n1,n2⟩:=Be hy;have dm:=bJ.1 h.ac1 y hy;obtain ⟨P,p,s,h1,h2,h3,h4⟩:=yR.1 hy;unfold ub at ur;split at ur
 ·cases ur
 ·have By:=bC.1 ur
  have hP:P < ps.length:=by
   rcases cR P ps.length with g | g
   ·exact g
   ·rw[gE g] at h1;cases h1
  have hp:gf ps P=p:=by unfold gf;rw[dN,h1];rfl
  have hpo:=qv h.right hP;rw[hp] at hpo
  have hc:bt ps P s≠[]:=by
   unfold bt;rw[hp];exact λh0=>h3 ((si hpo h2).1 h0)
  have e1:x.1=y.1/\x.2.1=y.2.1/\iq x=iq y/\vF x=vF y/\vG x=vG y:=by
   rw[By];unfold xW;split <;> exact ⟨rfl,rfl,rfl,rfl,rfl⟩
  have e2:y.1=(P:Int)/\y.2.1=(s:Int):=by rw[h4];exact ⟨rfl,rfl⟩
  have e3:bt ps P s=jP p s:=by unfold bt cellOf;rw[hp,aH h2]
  refine ⟨P,s,by rw[e1.1,e2.1],by rw[e1.2.1,e2.2],hc,λhf=>?_,by rw[e1.2.2.1,e3,h4];rfl⟩
  rw[e1.2.2.1] at hf;unfold vH at dm;rw[aS hf,aW,dQ,aC] at dm;obtain ⟨c1,c2⟩:=abI dm.1;refine ⟨(vF y).toNat,(vG y).toNat,by rw[e1.2.2.2.1];omega,by rw[e1.2.2.2.2];omega,c1,?_⟩
  rw[<-c2 h.right]
  simpa using dm.2
theorem IQ {ps:bp} (h:xX ps) (t k:Int):(match vq ps t k with
  | some x=>oQ (aT ps) (t,k)=true/\(aT ps)[pos (aT ps) (t,k)]?=some (kR x)/\x ∈ kV ps/\rk (kR x)=(t,k)
  | none=>oQ (aT ps) (t,k)=false):=by
 have BX:∀ r,r ∈ aT ps↔∃ x ∈ kV ps,kR x=r:=λr=>by
  rw[AK h,(Cx _).mem_iff,dT]
 cases hf:vq ps t k with
 | none=>
  simp only;unfold vq at hf;rw[eY] at hf
  cases hb:oQ (aT ps) (t,k) with
  | false=>rfl
  | true=>
   obtain ⟨y,hy,hyk⟩:=Vt hb;obtain ⟨x,hx,rfl⟩:=(BX y).1 hy;have:=hf x hx;rw[hyk] at this;simp at this
 | some x=>
  simp only;unfold vq at hf;have hx:=cU hf;have Pw:rk (kR x)=(t,k):=by have:=gQ hf;simpa using this
  have hb:oQ (aT ps) (t,k)=true:=by
   cases hb:oQ (aT ps) (t,k) with
   | true=>rfl
   | false=>
    exfalso;have hm:=(BX (kR x)).2 ⟨x,hx,rfl⟩;obtain ⟨i,hi,he⟩:=bL hm;have hu:=yS h
    have hnb:¬ i < pos (aT ps) (t,k):=λbc=>by
     have:=Dx (aT ps) (t,k) i hi bc;rw[he,Pw,wl] at this;cases this
    have i9:pos (aT ps) (t,k) < (aT ps).length:=by omega
    unfold oQ at hb;rw[aB i9] at hb;simp only[dY] at hb;by_cases Kj:pos (aT ps) (t,k)=i
    ·refine hb ?_;have:(aT ps)[pos (aT ps) (t,k)]=(aT ps)[i]:=by congr
     rw[this,he,Pw]
    ·have h1:=Ab (aT ps) (t,k) (pos (aT ps) (t,k)) i9 hu (aG _);have h2:=bM.1 hu (pos (aT ps) (t,k)) i i9 hi Bys;rw[he,Pw] at h2;rw[h2] at h1;cases h1
  refine ⟨hb,?_,hx,Pw⟩
  obtain ⟨hp,hk⟩:=wK hb;rw[aB hp];congr 1;obtain ⟨y,hy,he⟩:=(BX _).1 (aJ hp);have:y=x:=Et h.keys hy hx (by show rk (kR y)=rk (kR x);rw[he,hk,Pw]);rw[<-he,this]
def dv (f:Nat) (r:Row):List UInt8:=[UInt8.ofNat f,UInt8.ofInt r.1,UInt8.ofInt r.2.1,UInt8.ofInt (r.2.2.1 / 256),UInt8.ofInt (r.2.2.1 % 256),UInt8.ofInt (List.length r.2.2.2.1:Int)]++r.2.2.2.1
theorem wS {r:Row} (h:gz r=0):(0<=r.1/\r.1<=3)/\(1<=r.2.1/\r.2.1<=99)/\(0<=r.2.2.1/\r.2.2.1<=999)/\A_ r.2.2.2.1=true:=by
 grind [gz,dr]
theorem BD {s:List UInt8} (h:A_ s=true):s.length<=8:=by
 grind [A_]
theorem gc {f:Nat} {r:Row} (h:gz r=0):1<=(dv f r).length/\(dv f r).length<=14:=by
 simp_all [BD,wS,dv]
theorem afw (n:Int):UInt8.ofInt (n % 256)=UInt8.ofInt n:=by
 grind [UInt8.ofInt]
theorem Bh {f:Nat} {r:Row} (h:gz r=0):kO.ab ((f:Int),r,())=some (dv f r,()):=by
 obtain ⟨_,_,h3,h4⟩:=wS h;have h1:=BD h4;refine ag (k:=0) λk _=>(kO.af k _).trans ?_;grind [kO.p,dv,bf,cr,wm]
theorem EW {f:Nat} {r:Row} (h:gz r=0):pK.ab ((f:Int),r,())=some (dv f r,()):=by
 obtain ⟨_,_,h3,h4⟩:=wS h;have h1:=BD h4;refine ag (k:=0) λk _=>(pK.af k _).trans ?_;grind [pK.p,dv,cr,afw,wm]
def kX (P t:Nat):List UInt8:=[(1:UInt8),UInt8.ofNat P,UInt8.ofNat t]
theorem Kv (P t:Nat):qP.ab ((P:Int),(t:Int),())=some (kX P t,()):=by
 refine ag (k:=0) λk _=>(qP.af k _).trans ?_;grind [qP.p,kX,wm]
theorem Ue (P t:Nat):vQ.ab ((P:Int),(t:Int),())=some (kX P t,()):=by
 refine ag (k:=0) λk _=>(vQ.af k _).trans ?_;grind [vQ.p,kX,wm]
def jO (c:List UInt8) (no:Int):List Nat->ca->Option (Nat×Nat)×ca
 | [],w=>(none,w)
 | P::l,w=>if (P:Int)=no then jO c no l w else match (sj w P c).1 with
  | some t=>(some (P,t),(sj w P c).2)
  | none=>jO c no l (sj w P c).2
def mU (w:ca) (no:Int) (c:List UInt8):Option (Nat×Nat)×ca:=
 match (jO c no (List.range (List.length w.1)) w).1 with
 | some a=>jO c no (List.range (List.length w.1)) w
 | none=>if 12<=List.length w.1 then (none,(jO c no (List.range (List.length w.1)) w).2) else (some (List.length w.1,0),nD (jO c no (List.range (List.length w.1)) w).2 (List.length w.1) (sV vp c))
structure M5 (w:ca) (n m:Nat) (c:List UInt8) (r:Option (Nat×Nat)×ca):Prop where
 ok:okW r.2 (n+m)
 no:r.1=none->List.length r.2.1=List.length w.1/\∀ Q s,bt r.2.1 Q s=bt w.1 Q s
 yes:∀ P t,r.1=some (P,t)->P < 12/\t < 16/\bt w.1 P t=[]/\∀ Q s,bt r.2.1 Q s=if Q=P/\s=t then c else bt w.1 Q s
theorem wo {c:List UInt8} (hc:1<=c.length) (no:Int):∀ (l:List Nat) (w:ca) (n:Nat),okW w n->(∀ P ∈ l,P < List.length w.1)->M5 w n (2*l.length) c (jO c no l w)
 | [],w,n,h,_=>⟨h.mono Bys,λ_=>⟨rfl,λ_ _=>rfl⟩,λP t ht=>by cases ht⟩
 | P::l,w,n,h,hl=>by
  unfold jO;split
  ·have:=wo hc no l w n h λQ hQ=>hl Q (bA _ hQ);exact ⟨this.ok.mono (by grind),this.no,this.yes⟩
  ·have hP:=hl P bF;have R:=yT h hP hc;split
   ·rename_i t ht;obtain ⟨y1,y2,y3⟩:=R.yes t ht;refine ⟨R.ok.mono (by grind),λhh=>(by cases hh),λP' t' hh=>?_⟩
    injection hh with hh;injection hh with h1 h2;subst h1;subst h2;exact ⟨by have:=h.jQ.1;omega,y1,y2,y3⟩
   ·rename_i ht;have e:=R.no ht;have:=wo hc no l (sj w P c).2 (n+2) R.ok λQ hQ=>by rw[R.len];grind
    refine ⟨this.ok.mono (by grind),λhh=>?_,λP' t' hh=>?_⟩
    ·obtain ⟨a1,a2⟩:=this.no hh;exact ⟨by rw[a1,R.len],λQ s=>by rw[a2,e]⟩
    ·obtain ⟨a1,a2,a3,a4⟩:=this.yes P' t' hh;grind
theorem JV {c:List UInt8} (lh:1<=c.length) (hc:c.length<=20):nw vp c=0/\gn vp=0/\iw (sV vp c)/\∀ s,cellOf (sV vp c) s=if s=0 then c else []:=by
 have e0:gn vp=0:=by decide +kernel
 have hn:pn vp=0:=by decide +kernel
 have hl:fh vp=64:=by decide +kernel
 have hf:ua vp=62:=by decide +kernel
 have h0:nw vp c=0:=by
  grind [nw,wh]
 obtain ⟨r1,r2,r3⟩:=AG GU.1 lh h0;refine ⟨h0,e0,r1,λs=>?_⟩
 rw[r2,e0,GU.2]
theorem tG {w:ca} {n:Nat} (h:okW w n) {c:List UInt8} (lh:1<=c.length) (hc:c.length<=20) (no:Int):M5 w n 25 c (mU w no c):=by
 have R:=wo lh no (List.range (List.length w.1)) w n h λP hP=>cD.1 hP;have Ae:=h.jQ.1;rw[eF] at R;unfold mU;split
 ·exact ⟨R.ok.mono Bys,R.no,R.yes⟩
 ·rename_i h0;obtain ⟨a1,a2⟩:=R.no h0;split
  ·exact ⟨R.ok.mono Bys,λ_=>⟨a1,a2⟩,λP t ht=>by cases ht⟩
  ·rename_i bc;obtain ⟨n1,n2,n3,n4⟩:=JV lh hc;have hk:=AL R.ok n3 (P:=List.length w.1) Bys Bys;refine ⟨hk.mono Bys,λhh=>(by cases hh),λP t ht=>?_⟩
   injection ht with ht;injection ht with t1 t2;subst t1;subst t2;refine ⟨by omega,by omega,Ot (aG _),λQ s=>?_⟩
   have e:=Lt (jO c no (List.range (List.length w.1)) w).2 (sV vp c);rw[a1] at e;show bt (nD (jO c no (List.range (List.length w.1)) w).2 (List.length w.1) (sV vp c)).1 Q s=_;rw[e];unfold bt;rw[SG,a1];by_cases hq:Q=List.length w.1
   ·rw[aH hq,n4];by_cases hs:s=0
    ·grind
    ·rw[aN hs,aN (λhh=>hs hh.2)];subst hq;exact (Ot (aG _)).symm
   ·rw[aN hq,aN (λhh=>hq hh.1)];exact a2 Q s
def wr (r:Option (Nat×Nat)×ca):Int×Int×Bool×ca×Unit:=match r.1 with
 | some a=>((a.1:Int),(a.2:Int),true,r.2,())
 | none=>((0:Int),(0:Int),false,r.2,())
def BE (c:List UInt8) (no:Int) (P:Nat) (w:ca):Sum (Option (Int×Int×Bool×ca×Unit)) ca:=
 if (P:Int)=no then .inr w else match (sj w P c).1 with
  | some t=>.inl (some ((P:Int),(t:Int),true,(sj w P c).2,()))
  | none=>.inr (sj w P c).2
theorem CB {c:List UInt8} {no:Int} {fin:ca->Option (Int×Int×Bool×ca×Unit)}:∀ (l:List Nat) (i:Nat) (w:ca),bu (λ_ s x=>BE c no x s) fin i l w=match (jO c no l w).1 with
  | some a=>some ((a.1:Int),(a.2:Int),true,(jO c no l w).2,())
  | none=>fin (jO c no l w).2
 | [],i,w=>rfl
 | P::l,i,w=>by
  simp only[bu,BE,jO];by_cases hn:(P:Int)=no
  ·rw[aH hn,aH hn];exact CB l (i+1) w
  ·rw[aN hn,aN hn]
   cases (sj w P c).1 with
   | some t=>rfl
   | none=>exact CB l (i+1) _
theorem SI:wg=vp:=rfl
theorem DE {w:ca} {n:Nat} (h:okW w n) (hn:n<=800) {c:List UInt8} (lh:1<=c.length) (hc:c.length<=20) (no:Int):jx.ab (w,no,c,())=some (wr (mU w no c)):=by
 have Ae:=h.jQ.1;refine ag (k:=100) λk hk=>(jx.af k _).trans ?_;obtain ⟨n1,n2,n3,n4⟩:=JV lh hc
 have:=rt (B:=λself v=>jx.b0 self (λz=>jx.q0 (w,no,c,()) z) (w,no,c,()) v) (List.length w.1) (λ(s:ca) (i:Int)=>(s,i)) (BE c no) (λs=>jx.q0 (w,no,c,()) s) (λi s=>okW s (n+2*i)/\List.length s.1=List.length w.1) Bys
  (λi hi s self ⟨hs,oH⟩=>by
   grind [jx.b0,BE,SH,ZR])
  (λi hi s s' ⟨hs,oH⟩ hf=>by
   unfold BE at hf;have R:=yT hs (show i < List.length s.1 by omega) lh;split at hf
   ·injection hf with hf;subst hf;exact ⟨hs.mono Bys,oH⟩
   ·split at hf
    ·cases hf
    ·injection hf with hf;subst hf
     exact ⟨R.ok.mono Bys,by rw[R.len,oH]⟩)
  (λs self ⟨hs,oH⟩=>by
   grind [jx.b0]) w ⟨h,rfl⟩ k Bys
 refine this.trans ?_;rw[CB];unfold mU wr;have R:=wo lh no (List.range (List.length w.1)) w n h λP hP=>cD.1 hP;rw[eF] at R
 cases hg:(jO c no (List.range (List.length w.1)) w).1 with
 | some a=>simp only[hg]
 | none=>
  obtain ⟨a1,a2⟩:=R.no hg;simp only;show jx.q0 _ _=_;unfold jx.q0;rw[a1];by_cases hl:12<=List.length w.1
  ·grind
  ·have:¬ (12:Int)<=(List.length w.1:Int):=by omega
   rw[aK this,aE,aN hl,M4];simp only[aA,SI,Oq GU.1 c lh hc,n1,n2,aL,tE R.ok Bys n3.len (show List.length w.1<=List.length (jO c no (List.range (List.length w.1)) w).2.1 by omega)];grind [Lt,bf]
theorem IR {w:ca} {n:Nat} (h:okW w n) (hn:n<=800) {c:List UInt8} (lh:1<=c.length) (hc:c.length<=20) (no:Int):gw.ab (w,c,no,())=some (wr (mU w no c)):=by
 have Ae:=h.jQ.1;refine ag (k:=100) λk hk=>(gw.af k _).trans ?_;obtain ⟨n1,n2,n3,n4⟩:=JV lh hc
 have:=rt (B:=λself v=>gw.b0 self (λz=>gw.q0 (w,c,no,()) z) (w,c,no,()) v) (List.length w.1) (λ(s:ca) (i:Int)=>(s,i)) (BE c no) (λs=>gw.q0 (w,c,no,()) s) (λi s=>okW s (n+2*i)/\List.length s.1=List.length w.1) Bys
  (λi hi s self ⟨hs,oH⟩=>by
   show gw.b0 _ _ _ _=_;unfold gw.b0 BE;have bc:(i:Int) < (List.length w.1:Int):=by omega
   rw[aS bc,aM];by_cases sa:(i:Int)=no
   ·grind
   ·rw[aK sa,aE,aN sa];have hP:i < List.length s.1:=by omega
    have hp:=qv hs.jQ hP;obtain ⟨q1,q2,q3⟩:=uY hp;have hw:=xC hs hP;have hl:=tF hP;have g:(0:Int)<=(i:Int)/\(i:Int) < (List.length s.1:Int):=by omega
    have g2:(0:Int)<=(i:Int)/\(i:Int) < (List.length (px s i).1:Int):=by omega
    rw[aH g];unfold sj;simp only[aD,o7 hP,aA,G9 hp c lh hc,IL hs Bys hP,o7 (show i < List.length (px s i).1 by omega),Ha hP,G9 q1 c lh hc];by_cases h8:nw (gf s.1 i) c=8
    ·rw[aS h8,aM,aH h8,aH g2];by_cases h0:nw (nh (gf s.1 i)) c=0
     ·rw[aS h0,aM,aH h0,aH h0,aH h0,u0 hw Bys (AG q1 lh h0).1.len Bys];rfl
     grind
    ·rw[aK h8,aE,aN h8];by_cases h0:nw (gf s.1 i) c=0
     ·rw[aS h0,aM,aH h0,aH h0,aH h0,u0 hs Bys (AG hp lh h0).1.len Bys];rfl
     grind)
  (λi hi s s' ⟨hs,oH⟩ hf=>by
   unfold BE at hf;have R:=yT hs (show i < List.length s.1 by omega) lh;split at hf
   ·injection hf with hf;subst hf;exact ⟨hs.mono Bys,oH⟩
   ·split at hf
    ·cases hf
    ·injection hf with hf;subst hf
     exact ⟨R.ok.mono Bys,by rw[R.len,oH]⟩)
  (λs self ⟨hs,oH⟩=>by
   grind [gw.b0]) w ⟨h,rfl⟩ k Bys
 refine this.trans ?_;rw[CB];unfold mU wr;have R:=wo lh no (List.range (List.length w.1)) w n h λP hP=>cD.1 hP;rw[eF] at R
 cases hg:(jO c no (List.range (List.length w.1)) w).1 with
 | some a=>simp only[hg]
 | none=>
  obtain ⟨a1,a2⟩:=R.no hg;simp only;show gw.q0 _ _=_;unfold gw.q0;rw[a1];by_cases hl:12<=List.length w.1
  ·grind
  ·have:¬ (List.length w.1:Int)=12:=by omega
   rw[aK this,aE,aN hl,G_];simp only[aA,SI,G9 GU.1 c lh hc,n1,n2,aL,u0 R.ok Bys n3.len (show List.length w.1<=List.length (jO c no (List.range (List.length w.1)) w).2.1 by omega)];grind [Lt,bf]
theorem DF {α β:Type} {g:α->Option β}:∀ {l:List α},l.Nodup->((l.filterMap g).Nodup↔∀ x ∈ l,∀ y ∈ l,∀ b,g x=some b->g y=some b->x=y)
 | [],_=>by simp
 | z::l,h=>by
  rw[cO] at h;have ih:=DF (g:=g) h.2;grind
abbrev qx:Type:=Nat->Nat->List UInt8
def gg (d:List UInt8):Int:=(ef d).1.2.1
def o8 (d:List UInt8):Nat:=(ef d).1.2.2.1.toNat
def o9 (d:List UInt8):Nat:=(ef d).1.2.2.2.1.toNat
def IS (d:List UInt8):Row:=(ef d).1.2.2.2.2.1
def rowAt (f:qx) (P s:Nat):Row:=if gg (f P s)=1 then IS (f (o8 (f P s)) (o9 (f P s))) else IS (f P s)
structure vI (f:qx):Prop where
 read:∀ P s,f P s≠[]->(ef (f P s)).2=true
 stub:∀ P s,f P s≠[]->gg (f P s)=1->f (o8 (f P s)) (o9 (f P s))≠[]/\gg (f (o8 (f P s)) (o9 (f P s)))=2
 VG:∀ P s Q t,f P s≠[]->f Q t≠[]->gg (f P s)=1->gg (f Q t)=1->o8 (f P s)=o8 (f Q t)->o9 (f P s)=o9 (f Q t)->P=Q/\s=t
 key:∀ P s Q t,f P s≠[]->f Q t≠[]->gg (f P s)≠2->gg (f Q t)≠2->rk (rowAt f P s)=rk (rowAt f Q t)->P=Q/\s=t
def sk (f:qx) (r:Row):Prop:=∃ P s,f P s≠[]/\gg (f P s)≠2/\rowAt f P s=r
def uI (ps:bp) (P s:Nat):bd:=((P:Int),(s:Int),(ef (bt ps P s)).1,())
theorem rZ {ps:bp} (h:nO ps) {x:bd}:x ∈ dc ps↔∃ P s,bt ps P s≠[]/\x=uI ps P s:=by
 grind [yR,Nat.lt_or_ge,bt,cellOf,uI,si,qv,uG,o7]
theorem Bi (ps:bp):(dc ps).Nodup:=by
 have h1:∀ (P:Nat) (p:List UInt8),(sM P p).Pairwise (λx y=>x.2.1 < y.2.1)/\∀ x ∈ sM P p,x.1=(P:Int):=by
  intro P p
  have key:∀ n,((List.range n).flatMap (sL P p)).Pairwise (λx y=>x.2.1 < y.2.1)/\∀ x ∈ (List.range n).flatMap (sL P p),x.1=(P:Int)/\x.2.1 < (n:Int):=by
   intro n
   induction n with
   | zero=>simp_all
   | succ n ih=>
    rw[gP,eG]
    have hs:∀ x ∈ ([n]:List Nat).flatMap (sL P p),x.1=(P:Int)/\x.2.1=(n:Int):=λx hx=>by
     simp_all [sL]
    constructor
    ·rw[gO];grind [sL]
    grind
  exact ⟨(key (pn p)).1,λx hx=>((key (pn p)).2 x hx).1⟩
 have main:∀ (xs:bp) (i:Nat),(DB sM i xs).Nodup/\∀ x ∈ DB sM i xs,(i:Int)<=x.1:=by
  intro xs
  induction xs with
  | nil=>intro i;exact ⟨List.Pairwise.nil,λx hx=>by cases hx⟩
  | cons p xs ih=>
   intro i;obtain ⟨a1,a2⟩:=h1 i p;obtain ⟨b1,b2⟩:=ih (i+1);refine ⟨?_,λx hx=>?_⟩
   ·unfold DB;rw[dE];refine ⟨a1.imp λ{x y} bc he=>by grind,b1,λx hx y hy he=>?_⟩
    grind
   grind [DB]
 exact (main ps 0).1
theorem SJ (ps:bp):(kV ps).map (λx=>rk (kR x))=(dc ps).filterMap (λx=>if iq x=2 then none else some (rk (kR (xW ps x)))):=by
 unfold kV;generalize dc ps=l
 induction l <;> grind [ub]
theorem IT (d:List UInt8):(ef d).1.2.2.1=(o8 d:Int)/\(ef d).1.2.2.2.1=(o9 d:Int):=by
 obtain ⟨h1,h2⟩:=IH d;unfold o8 o9;omega
theorem Px {ps:bp} (h:nO ps) (P s:Nat):rO ps (P:Int) (s:Int)=if bt ps P s=[] then (MR,false) else ef (bt ps P s):=by
 unfold rO;rw[aD,aD];grind [bt,si,qv,uG,o7,cellOf]
theorem xD {ps:bp} (h:nO ps) (P s:Nat) (dm:gg (bt ps P s)=1->bt ps (o8 (bt ps P s)) (o9 (bt ps P s))≠[]):kR (xW ps (uI ps P s))=rowAt (bt ps) P s:=by
 unfold xW rowAt;have e1:iq (uI ps P s)=gg (bt ps P s):=rfl;rw[e1];by_cases hf:gg (bt ps P s)=1
 ·rw[aH hf,aH hf];obtain ⟨t1,t2⟩:=IT (bt ps P s);have e2:vF (uI ps P s)=(o8 (bt ps P s):Int):=t1;have e3:vG (uI ps P s)=(o9 (bt ps P s):Int):=t2;rw[e2,e3,Px h,aN (dm hf)];rfl
 ·rw[aN hf,aN hf];rfl
theorem DG {α:Type} {c:α->Int}:∀ {xs:List α},(∀ x ∈ xs,c x=0)->pQ c xs=0
 | [],_=>rfl
 | x::xs,h=>by
  unfold pQ;rw[aH (h x bF)];exact DG λy hy=>h y (bA _ hy)
theorem M6 {ps:bp} (h:nO ps) (P s:Nat) (hr:∀ Q t,bt ps Q t≠[]->(ef (bt ps Q t)).2=true):vH ps (uI ps P s)=true↔(gg (bt ps P s)=1->bt ps (o8 (bt ps P s)) (o9 (bt ps P s))≠[]/\gg (bt ps (o8 (bt ps P s)) (o9 (bt ps P s)))=2):=by
 grind [vH,iq,uI,gg,IT,vF,vG,Px]
theorem pE {ps:bp}:ja ps=0↔nO ps/\vI (bt ps):=by
 constructor
 ·intro hv;have V:=rY hv;have hr:=V.right
  have ac4:∀ P s,bt ps P s≠[]->(ef (bt ps P s)).2=true:=λP s hc=>by
   obtain ⟨a1,a2,a3⟩:=uG hr hc;have:=V.cells.2 _ (Ls a1) s a2 a3;grind [bt,cellOf]
  have Xv:∀ P s,bt ps P s≠[]->gg (bt ps P s)=1->bt ps (o8 (bt ps P s)) (o9 (bt ps P s))≠[]/\gg (bt ps (o8 (bt ps P s)) (o9 (bt ps P s)))=2:=λP s hc=>
   (M6 hr P s ac4).1 (bJ.1 V.ac1 _ ((rZ hr).2 ⟨P,s,hc,rfl⟩))
  refine ⟨hr,ac4,Xv,λP s Q t h1 h2 f1 f2 e1 e2=>?_,λP s Q t h1 h2 f1 f2 e=>?_⟩
  ·have:=(DF (Bi ps)).1 V.aii _ ((rZ hr).2 ⟨P,s,h1,rfl⟩) _ ((rZ hr).2 ⟨Q,t,h2,rfl⟩) ((o8 (bt ps P s):Int),(o9 (bt ps P s):Int))
    (by unfold G0;rw[aH (show iq (uI ps P s)=1 from f1)];show some ((ef (bt ps P s)).1.2.2.1,(ef (bt ps P s)).1.2.2.2.1)=_;grind [IT])
    (by unfold G0;rw[aH (show iq (uI ps Q t)=1 from f2)];show some ((ef (bt ps Q t)).1.2.2.1,(ef (bt ps Q t)).1.2.2.2.1)=_;grind [IT])
   have g1:((P:Int))=(Q:Int):=cV (λx:bd=>x.1) this;have g2:((s:Int))=(t:Int):=cV (λx:bd=>x.2.1) this;omega
  ·have hk:=V.keys;rw[SJ] at hk
   have:=(DF (Bi ps)).1 hk _ ((rZ hr).2 ⟨P,s,h1,rfl⟩) _ ((rZ hr).2 ⟨Q,t,h2,rfl⟩) (rk (rowAt (bt ps) P s))
    (by rw[aN (show ¬ iq (uI ps P s)=2 from f1),xD hr P s λhf=>(Xv P s h1 hf).1])
    (by rw[aN (show ¬ iq (uI ps Q t)=2 from f2),xD hr Q t λhf=>(Xv Q t h2 hf).1,e])
   have g1:((P:Int))=(Q:Int):=cV (λx:bd=>x.1) this;have g2:((s:Int))=(t:Int):=cV (λx:bd=>x.2.1) this;omega
 ·rintro ⟨hr,S⟩
  have hf:pQ DC ps=0:=DG λp hp=>by
   obtain ⟨P,hP,he⟩:=bL hp;have hpg:gf ps P=p:=by grind [gf]
   have a_:=hr.2 p hp;unfold DC;rw[aH (xy.2 a_),aH];refine bJ.2 λs hs=>?_;have hs:=cD.1 hs;unfold Fx;by_cases hz:bj p s=0
   ·grind
   ·have hc:bt ps P s≠[]:=λh0=>hz (by
     grind [bt,si])
    have:=S.read P s hc;grind [bt,cellOf]
  have hl:¬ 12 < ps.length:=by have:=hr.1;omega
  unfold ja;rw[aN hl,aH hf];unfold G3;rw[aH,aH,aH]
  ·rw[SJ];refine (DF (Bi ps)).2 λx hx y hy b h1 h2=>?_;obtain ⟨P,s,c1,rfl⟩:=(rZ hr).1 hx;obtain ⟨Q,t,c2,rfl⟩:=(rZ hr).1 hy;split at h1
   ·cases h1
   ·rename_i f1;split at h2
    ·cases h2
    ·rename_i f2;rw[xD hr P s λhf=>(S.stub P s c1 hf).1] at h1;rw[xD hr Q t λhf=>(S.stub Q t c2 hf).1] at h2;obtain ⟨rfl,rfl⟩:=S.key P s Q t c1 c2 f1 f2 (by grind);rfl
  ·refine (DF (Bi ps)).2 λx hx y hy b h1 h2=>?_;obtain ⟨P,s,c1,rfl⟩:=(rZ hr).1 hx;obtain ⟨Q,t,c2,rfl⟩:=(rZ hr).1 hy;unfold G0 at h1 h2;split at h1
   ·rename_i f1;split at h2
    ·rename_i f2;injection h1 with h1;injection h2 with h2;have h3:=h1.trans h2.symm;injection h3 with h3 h4;obtain ⟨rfl,rfl⟩:=S.VG P s Q t c1 c2 f1 f2 (cV Int.toNat h3) (cV Int.toNat h4);rfl
    ·cases h2
   ·cases h1
  ·refine bJ.2 λx hx=>?_;obtain ⟨P,s,c1,rfl⟩:=(rZ hr).1 hx;exact (M6 hr P s S.read).2 (S.stub P s c1)
theorem AM {ps:bp} (hv:ja ps=0) (r:Row):r ∈ aT ps↔sk (bt ps) r:=by
 have V:=rY hv;have hr:=V.right;have S:=(pE.1 hv).2;rw[AK V,(Cx _).mem_iff,dT];constructor
 ·rintro ⟨x,hx,rfl⟩;unfold kV at hx;obtain ⟨y,hy,ur⟩:=cM.1 hx;obtain ⟨P,s,c1,rfl⟩:=(rZ hr).1 hy;unfold ub at ur;split at ur
  ·cases ur
  ·rename_i f1;rw[bC.1 ur,xD hr P s λhf=>(S.stub P s c1 hf).1];exact ⟨P,s,c1,f1,rfl⟩
 ·rintro ⟨P,s,c1,f1,rfl⟩;refine ⟨xW ps (uI ps P s),?_,xD hr P s λhf=>(S.stub P s c1 hf).1⟩
  unfold kV;refine cM.2 ⟨_,(rZ hr).2 ⟨P,s,c1,rfl⟩,?_⟩;unfold ub;rw[aN (show ¬ iq (uI ps P s)=2 from f1)];exact bC.2 rfl
def nx (f:qx) (P s:Nat) (c:List UInt8):qx:=λQ t=>if Q=P/\t=s then c else f Q t
theorem tX (f:qx) (P s:Nat) (c:List UInt8):nx f P s c P s=c:=aH ⟨rfl,rfl⟩
theorem lB {f:qx} {P s:Nat} {c:List UInt8} {Q t:Nat} (h:¬ (Q=P/\t=s)):nx f P s c Q t=f Q t:=aN h
def lone (f:qx) (A B:Nat):Prop:=∀ Q t,f Q t≠[]->gg (f Q t)=1->¬ (o8 (f Q t)=A/\o9 (f Q t)=B)
theorem u7 {f g:qx} {Q u:Nat} (h1:g Q u=f Q u) (h2:gg (f Q u)=1->g (o8 (f Q u)) (o9 (f Q u))=f (o8 (f Q u)) (o9 (f Q u))):rowAt g Q u=rowAt f Q u:=by
 grind [rowAt]
section
variable {f:qx} (S:vI f)
include S
theorem ZW {P t:Nat} {c:List UInt8} (h0:f P t=[]) (hc:(ef c).2=true) (h2:gg c=2):vI (nx f P t c)/\(∀ r,sk (nx f P t c) r↔sk f r)/\lone (nx f P t c) P t:=by
 have off:∀ {Q u},f Q u≠[]->nx f P t c Q u=f Q u:=λ{Q u} hq=>lB λ⟨e1,e2⟩=>hq (by grind);have SK:∀ {Q u},gg (nx f P t c Q u)≠2->nx f P t c Q u=f Q u:=λ{Q u} hq=>lB λ⟨e1,e2⟩=>hq (by grind [tX]);have row:∀ {Q u},f Q u≠[]->rowAt (nx f P t c) Q u=rowAt f Q u:=λ{Q u} hq=>u7 (off hq) λhf=>off (S.stub Q u hq hf).1;refine ⟨⟨λQ u hq=>?_,λQ u hq hf=>?_,λQ u R v hq hr f1 f2 e1 e2=>?_,λQ u R v hq hr f1 f2 e=>?_⟩,λr=>?_,λQ u hq hf hh=>?_⟩
 ·by_cases he:Q=P/\u=t
  ·grind [tX]
  ·rw[lB he] at hq ⊢;exact S.read Q u hq
 ·have e:=SK (Q:=Q) (u:=u) (by rw[hf];decide);rw[e] at hq hf ⊢;obtain ⟨a1,a2⟩:=S.stub Q u hq hf;grind
 ·have g1:=SK (Q:=Q) (u:=u) (by rw[f1];decide);have g2:=SK (Q:=R) (u:=v) (by rw[f2];decide);rw[g1] at hq f1 e1 e2;rw[g2] at hr f2 e1 e2;exact S.VG Q u R v hq hr f1 f2 e1 e2
 ·have g1:=SK f1;have g2:=SK f2;rw[g1] at hq f1;rw[g2] at hr f2;rw[row hq,row hr] at e;exact S.key Q u R v hq hr f1 f2 e
 ·constructor
  ·rintro ⟨Q,u,hq,f1,e⟩;rw[SK f1] at hq f1;rw[row hq] at e;exact ⟨Q,u,hq,f1,e⟩
  ·rintro ⟨Q,u,hq,f1,e⟩;exact ⟨Q,u,by grind,by grind,by grind⟩
 ·have e:=SK (Q:=Q) (u:=u) (by rw[hf];decide);rw[e] at hq hf hh;have:=(S.stub Q u hq hf).1;grind
theorem Xw {A B:Nat} (h2:gg (f A B)=2) (hl:lone f A B):vI (nx f A B [])/\(∀ r,sk (nx f A B []) r↔sk f r):=by
 have ne:∀ {Q u},nx f A B [] Q u≠[]->¬ (Q=A/\u=B):=λ{Q u} hq he=>hq (by grind [tX]);have tg:∀ {Q u},f Q u≠[]->gg (f Q u)=1->nx f A B [] (o8 (f Q u)) (o9 (f Q u))=f (o8 (f Q u)) (o9 (f Q u)):=λ{Q u} hq hf=>lB (hl Q u hq hf);refine ⟨⟨λQ u hq=>?_,λQ u hq hf=>?_,λQ u R v hq hr f1 f2 e1 e2=>?_,λQ u R v hq hr f1 f2 e=>?_⟩,λr=>?_⟩
 ·have:=ne hq;rw[lB this] at hq ⊢;exact S.read Q u hq
 ·have:=ne hq;rw[lB this] at hq hf ⊢;rw[tg hq hf];exact S.stub Q u hq hf
 ·have n1:=ne hq;have n2:=ne hr;rw[lB n1] at hq f1 e1 e2;rw[lB n2] at hr f2 e1 e2;exact S.VG Q u R v hq hr f1 f2 e1 e2
 ·have n1:=ne hq;have n2:=ne hr;have g1:=lB (f:=f) (c:=[]) n1;have g2:=lB (f:=f) (c:=[]) n2;rw[g1] at hq f1;rw[g2] at hr f2;rw[u7 g1 (tg hq),u7 g2 (tg hr)] at e;exact S.key Q u R v hq hr f1 f2 e
 ·constructor
  ·rintro ⟨Q,u,hq,f1,e⟩;have g1:=lB (f:=f) (c:=[]) (ne hq);rw[g1] at hq f1;rw[u7 g1 (tg hq)] at e;exact ⟨Q,u,hq,f1,e⟩
  ·rintro ⟨Q,u,hq,f1,e⟩;have g1:nx f A B [] Q u=f Q u:=lB λhe=>f1 (by grind);exact ⟨Q,u,by grind,by grind,by grind [u7]⟩
theorem ZX {P s:Nat} (h0:f P s≠[]) (h2:gg (f P s)≠2):vI (nx f P s [])/\(∀ r,sk (nx f P s []) r↔sk f r/\rk r≠rk (rowAt f P s))/\(gg (f P s)=1->lone (nx f P s []) (o8 (f P s)) (o9 (f P s))):=by
 have ne:∀ {Q u},nx f P s [] Q u≠[]->¬ (Q=P/\u=s):=λ{Q u} hq he=>hq (by grind [tX])
 have tg:∀ {Q u},f Q u≠[]->gg (f Q u)=1->nx f P s [] (o8 (f Q u)) (o9 (f Q u))=f (o8 (f Q u)) (o9 (f Q u)):=λ{Q u} hq hf=>lB λhe=>h2 (by
  have:=(S.stub Q u hq hf).2
  grind)
 refine ⟨⟨λQ u hq=>?_,λQ u hq hf=>?_,λQ u R v hq hr f1 f2 e1 e2=>?_,λQ u R v hq hr f1 f2 e=>?_⟩,λr=>?_,λh1 Q u hq hf hh=>?_⟩
 ·have:=ne hq;rw[lB this] at hq ⊢;exact S.read Q u hq
 ·have:=ne hq;rw[lB this] at hq hf ⊢;rw[tg hq hf];exact S.stub Q u hq hf
 ·have n1:=ne hq;have n2:=ne hr;rw[lB n1] at hq f1 e1 e2;rw[lB n2] at hr f2 e1 e2;exact S.VG Q u R v hq hr f1 f2 e1 e2
 ·have g1:=lB (f:=f) (c:=[]) (ne hq);have g2:=lB (f:=f) (c:=[]) (ne hr);rw[g1] at hq f1;rw[g2] at hr f2;rw[u7 g1 (tg hq),u7 g2 (tg hr)] at e;exact S.key Q u R v hq hr f1 f2 e
 ·constructor
  ·rintro ⟨Q,u,hq,f1,e⟩;have n1:=ne hq;have g1:=lB (f:=f) (c:=[]) n1;rw[g1] at hq f1;rw[u7 g1 (tg hq)] at e;refine ⟨⟨Q,u,hq,f1,e⟩,λhk=>n1 ?_⟩
   rw[<-e] at hk;exact S.key Q u P s hq h0 f1 h2 hk
  ·rintro ⟨⟨Q,u,hq,f1,e⟩,hk⟩;have g1:nx f P s [] Q u=f Q u:=lB λhe=>hk (by grind);exact ⟨Q,u,by grind,by grind,by grind [u7]⟩
 ·have n1:=ne hq;rw[lB n1] at hq hf hh;exact n1 (S.VG Q u P s hq h0 hf h1 hh.1 hh.2)
theorem Py {P s:Nat} {c:List UInt8} {r:Row} (h0:f P s=[]) (hc:(ef c).2=true) (hn:c≠[]) (hr:(gg c=0/\IS c=r)\/(gg c=1/\f (o8 c) (o9 c)≠[]/\gg (f (o8 c) (o9 c))=2/\lone f (o8 c) (o9 c)/\IS (f (o8 c) (o9 c))=r)) (hk:∀ r',sk f r'->rk r'≠rk r):vI (nx f P s c)/\(∀ r',sk (nx f P s c) r'↔sk f r'\/r'=r):=by
 have off:∀ {Q u},f Q u≠[]->nx f P s c Q u=f Q u:=λ{Q u} hq=>lB λ⟨e1,e2⟩=>hq (by grind);have row:∀ {Q u},f Q u≠[]->rowAt (nx f P s c) Q u=rowAt f Q u:=λ{Q u} hq=>u7 (off hq) λhf=>off (S.stub Q u hq hf).1;have h2:gg c≠2:=by grind
 have abJ:rowAt (nx f P s c) P s=r:=by
  grind [rowAt,tX]
 have cut:∀ {Q u},nx f P s c Q u≠[]->(Q=P/\u=s)\/(f Q u≠[]/\nx f P s c Q u=f Q u):=λ{Q u} hq=>by
  grind [lB]
 refine ⟨⟨λQ u hq=>?_,λQ u hq hf=>?_,λQ u R v hq hv f1 f2 e1 e2=>?_,λQ u R v hq hv f1 f2 e=>?_⟩,λr'=>?_⟩
 ·rcases cut hq with ⟨rfl,rfl⟩ | ⟨a,e⟩
  ·grind [tX]
  ·rw[e];exact S.read Q u a
 ·rcases cut hq with ⟨rfl,rfl⟩ | ⟨a,e⟩
  ·grind [tX]
  ·rw[e] at hf ⊢;obtain ⟨b1,b2⟩:=S.stub Q u a hf;grind
 ·rcases cut hq with ⟨rfl,rfl⟩ | ⟨a,g1⟩
  ·rcases cut hv with ⟨rfl,rfl⟩ | ⟨b,g2⟩
   ·grind
   ·rw[tX] at f1 e1 e2;rw[g2] at f2 e1 e2
    rcases hr with ⟨h,_⟩ | ⟨h,_,_,h5,_⟩
    ·grind
    ·exact absurd ⟨e1.symm,e2.symm⟩ (h5 R v b f2)
  ·rcases cut hv with ⟨rfl,rfl⟩ | ⟨b,g2⟩
   ·rw[tX] at f2 e1 e2;rw[g1] at f1 e1 e2
    rcases hr with ⟨h,_⟩ | ⟨h,_,_,h5,_⟩
    ·grind
    ·exact absurd ⟨e1,e2⟩ (h5 Q u a f1)
   ·rw[g1] at f1 e1 e2;rw[g2] at f2 e1 e2;exact S.VG Q u R v a b f1 f2 e1 e2
 ·rcases cut hq with ⟨rfl,rfl⟩ | ⟨a,g1⟩
  ·rcases cut hv with ⟨rfl,rfl⟩ | ⟨b,g2⟩
   ·grind
   ·rw[g2] at f2;rw[abJ,row b] at e;exact absurd e.symm (hk _ ⟨R,v,b,f2,rfl⟩)
  ·rcases cut hv with ⟨rfl,rfl⟩ | ⟨b,g2⟩
   ·rw[g1] at f1;rw[abJ,row a] at e;exact absurd e (hk _ ⟨Q,u,a,f1,rfl⟩)
   ·rw[g1] at f1;rw[g2] at f2;rw[row a,row b] at e;exact S.key Q u R v a b f1 f2 e
 ·constructor
  ·rintro ⟨Q,u,hq,f1,e⟩
   rcases cut hq with ⟨rfl,rfl⟩ | ⟨a,g1⟩
   ·grind
   ·rw[g1] at f1;rw[row a] at e;exact .inl ⟨Q,u,a,f1,e⟩
  ·rintro (⟨Q,u,hq,f1,e⟩ | rfl)
   ·exact ⟨Q,u,by grind,by grind,by grind⟩
   ·exact ⟨P,s,by grind [tX],by grind [tX],abJ⟩
end
theorem IU {n:Int} (h:0<=n) (h2:n < 256):((UInt8.ofInt n).toNat:Int)=n:=by
 have:n=((n.toNat:Nat):Int):=by omega
 grind [wm,ofNat_toNat]
theorem Xx {n:Nat} (hn:n=0\/n=2) {r:Row} (hr:gz r=0):ef (dv n r)=(((0:Int),(n:Int),(0:Int),(0:Int),r,()),true):=by
 obtain ⟨h1,h2,h3,h4⟩:=wS hr;have h5:=BD h4;have hl:(dv n r).length=6+List.length r.2.2.2.1:=by grind [dv]
 have b0:pb (dv n r) 0=n:=by
  show (UInt8.ofNat n).toNat=n;grind [ofNat_toNat]
 have b1:(pb (dv n r) 1:Int)=r.1:=by
  show ((UInt8.ofInt r.1).toNat:Int)=r.1;grind [IU]
 have b2:(pb (dv n r) 2:Int)=r.2.1:=by
  show ((UInt8.ofInt r.2.1).toNat:Int)=r.2.1;grind [IU]
 have b3:(pb (dv n r) 3:Int)=r.2.2.1 / 256:=by
  show ((UInt8.ofInt (r.2.2.1 / 256)).toNat:Int)=_;grind [IU]
 have b4:(pb (dv n r) 4:Int)=r.2.2.1 % 256:=by
  show ((UInt8.ofInt (r.2.2.1 % 256)).toNat:Int)=_;grind [IU]
 have b5:(pb (dv n r) 5:Int)=(List.length r.2.2.2.1:Int):=by
  show ((UInt8.ofInt (List.length r.2.2.2.1:Int)).toNat:Int)=_;grind [IU]
 have hd:(dv n r).drop 6=r.2.2.2.1:=rfl;grind [wj,ef]
theorem Xy {P t:Nat} (hP:P<=11) (ht:t<=15):ef (kX P t)=(((0:Int),(1:Int),(P:Int),(t:Int),Dw,()),true):=by
 have b1:pb (kX P t) 1=P:=by
  show (UInt8.ofNat P).toNat=P;grind [ofNat_toNat]
 have b2:pb (kX P t) 2=t:=by
  show (UInt8.ofNat t).toNat=t;grind [ofNat_toNat]
 unfold ef;rw[aH ⟨rfl,rfl⟩,b1,b2,aS hP,aS ht];rfl
theorem Xz {d:List UInt8} (h:(ef d).2=true) (h1:gg d=1):d=kX (o8 d) (o9 d)/\o8 d<=11/\o9 d<=15:=by
 unfold gg at h1;unfold o8 o9;unfold ef at h h1 ⊢;split at h
 ·rename_i hc;rw[aH hc];simp only[aC,bE] at h;refine ⟨?_,by simpa using h.1,by simpa using h.2⟩
  refine Dt (by rw[hc.1];rfl) λj hj=>?_;rw[hc.1] at hj;have e1:=qa d 1;have e2:=qa d 2
  match j,hj with
  | 0,_=>rw[hc.2];rfl
  | 1,_=>show _=(UInt8.ofNat _).toNat;grind [ofNat_toNat]
  | 2,_=>show _=(UInt8.ofNat _).toNat;grind [ofNat_toNat]
 grind
theorem BF {xs:List Row} {k:Int×Int} (hu:up xs) {i:Nat} (hi:i < xs.length) (hk:rk xs[i]=k):oQ xs k=true/\pos xs k=i:=by
 have h1:¬ i < pos xs k:=λbc=>by
  have:=Dx xs k i hi bc;rw[hk,wl] at this;cases this
 have hp:pos xs k < xs.length:=by omega
 have h2:pos xs k=i:=by
  by_cases he:pos xs k=i
  ·exact he
  ·have h3:=bM.1 hu (pos xs k) i hp hi Bys;have h4:=Ab xs k (pos xs k) hp hu (aG _);rw[hk] at h3;rw[h3] at h4;cases h4
 refine ⟨?_,h2⟩
 unfold oQ;rw[h2,aB hi]
 simpa using hk
theorem wt {xs:List Row} (hu:up xs) (c:Change) (r:Row):r ∈ nC xs c↔(r ∈ xs/\rk r≠ck c)\/(c.2.2.1=true/\r=c.2.2.2.1):=by
 have key:(r ∈ xs.take (pos xs (ck c))\/r ∈ xs.drop (pos xs (ck c)+if oQ xs (ck c) then 1 else 0))↔(r ∈ xs/\rk r≠ck c):=by
  constructor
  ·rintro (h | h)
   ·exact ⟨cX h,λhe=>by have:=Dy h;rw[he,wl] at this;cases this⟩
   ·refine ⟨bZ h,λhe=>?_⟩
    obtain ⟨i,hi,hr⟩:=bL h;rw[iI] at hr;rw[cC] at hi;obtain ⟨f1,f2⟩:=BF hu (i:=pos xs (ck c)+(if oQ xs (ck c) then 1 else 0)+i) (k:=ck c) Bys (by rw[hr];exact he);rw[f1] at f2;simp only[aL] at f2;omega
  ·rintro ⟨h,i7⟩;obtain ⟨i,hi,hr⟩:=bL h;by_cases h1:i < pos xs (ck c)
   ·left;rw[iE];exact ⟨i,by omega,hr⟩
   ·right;rw[List.mem_drop_iff_getElem];by_cases hf:oQ xs (ck c)=true
    ·rw[aH hf];obtain ⟨hp,hk⟩:=wK hf;have:i≠pos xs (ck c):=λhe=>i7 (by subst he;rw[<-hr];exact hk);exact ⟨i - (pos xs (ck c)+1),by omega,by rw[<-hr];congr 1;omega⟩
    ·rw[aN hf];exact ⟨i - (pos xs (ck c)+0),by omega,by rw[<-hr];congr 1;omega⟩
 unfold nC;rw[bG,bG];constructor
 ·rintro ((h | h) | h)
  ·exact .inl (key.1 (.inl h))
  ·cases hi:c.2.2.1 with
   | true=>rw[hi] at h;exact .inr ⟨rfl,bC.1 h⟩
   | false=>rw[hi] at h;cases h
  ·exact .inl (key.1 (.inr h))
 ·rintro (h | ⟨hi,rfl⟩)
  ·rcases key.2 h with h | h
   ·exact .inl (.inl h)
   ·exact .inr h
  ·rw[hi];exact .inl (.inr (bC.2 rfl))
theorem ZY {a b:Row} (h:Ty.eq ay a b=true):a=b:=by
 have e:Ty.eq ay a b=(decide (a.1=b.1)&&(decide (a.2.1=b.2.1)&&(decide (a.2.2.1=b.2.2.1)&&(decide (a.2.2.2.1=b.2.2.2.1)&&true)))):=rfl;rw[e] at h;simp only[aC,bE,eU] at h;obtain ⟨a1,a2,a3,a4,⟨⟩⟩:=a;obtain ⟨b1,b2,b3,b4,⟨⟩⟩:=b;obtain ⟨h1,h2,h3,h4⟩:=h;simp only at h1 h2 h3 h4;rw[h1,h2,h3,h4]
def d7 (ps:bp):ca:=(ps,([]:List qF),())
theorem r_ {ps:bp} (h:nO ps):okW (d7 ps) 0:=⟨h,aG _,λe he=>by cases he⟩
theorem XA {ps:bp} (h:nO ps):gp ps:=⟨h.1,λp hp=>(h.2 p hp).len⟩
theorem DH {ps:bp} (h:nO ps):mD.ab (ps,())=some (d7 ps,()):=by
 refine ag (k:=0) λk _=>(mD.af k _).trans ?_;show mD.p _=_;unfold mD.p;rw[B5 ps (XA h)];rfl
theorem SL {ps:bp} (h:nO ps):tz.ab (ps,())=some (d7 ps,()):=by
 refine ag (k:=0) λk _=>(tz.af k _).trans ?_;show tz.p _=_;unfold tz.p;rw[HF ps (XA h)];rfl
def Hc (k:Int):ek:=(k,([]:List qF),([]:List (List UInt8)),())
def wu (ok:Bool) (w:ca):ek:=if ok then ((0:Int),w.2.1,w.1,()) else Hc 9
theorem EX (k:Int):kI.ab (k,())=some (Hc k,()):=ag (k:=0) λq _=>(kI.af q _).trans rfl
theorem DI (w:ca):l6.ab (w,())=some (wu true w,()):=ag (k:=0) λq _=>(l6.af q _).trans rfl
theorem Kw (w:ca):mN.ab (w,())=some (wu true w,()):=ag (k:=0) λq _=>(mN.af q _).trans rfl
theorem DJ (w:ca) (ok:Bool):ov.ab (w,ok,())=some (wu ok w,()):=by
 refine ag (k:=0) λk _=>(ov.af k _).trans ?_;show ov.p _=_;unfold ov.p;rw[Kw];cases ok <;> rfl
def vJ (w:ca) (r:Row):Option (Nat×Nat)×ca:=mU w (-1) (dv 0 r)
theorem Ou {w:ca} {n:Nat} (h:okW w n) {r:Row} (hr:gz r=0):M5 w n 25 (dv 0 r) (vJ w r):=
 tG h (gc hr).1 (by grind [gc]) _
theorem XB {w:ca} {n:Nat} (h:okW w n) (hn:n<=800) {r:Row} (hr:gz r=0):qh.ab (w,r,())=some ((vJ w r).1.isSome,(vJ w r).2,()):=by
 refine ag (k:=0) λk _=>(qh.af k _).trans ?_;grind [qh.p,dv,EW,IR,gc,wr,vJ]
theorem XC {ps:bp} (h:nO ps) {r:Row} (hr:gz r=0):rG.ab (ps,r,())=some (wu (vJ (d7 ps) r).1.isSome (vJ (d7 ps) r).2,()):=by
 refine ag (k:=0) λk _=>(rG.af k _).trans ?_;show rG.p _=_;unfold rG.p;have e:kO.ab ((0:Int),r,())=some (dv 0 r,()):=Bh (f:=0) hr;simp only[e,DH h,aA,DE (r_ h) Bys (gc hr).1 (show (dv 0 r).length<=20 by grind [gc]),EX,DI];unfold wr vJ;cases (mU (d7 ps) (-1) (dv 0 r)).1 <;> rfl
def py (w:ca) (P s A B:Nat) (mv:Bool) (r:Row):Bool×ca:=
 if (kW w A B (dv (bif mv then 2 else 0) r)).1=true then (true,(kW w A B (dv (bif mv then 2 else 0) r)).2)
 else match (mU (kW w A B (dv (bif mv then 2 else 0) r)).2 (A:Int) (dv 2 r)).1 with
  | none=>(false,(mU (kW w A B (dv (bif mv then 2 else 0) r)).2 (A:Int) (dv 2 r)).2)
  | some a=>(true,bif mv then kM (kW (mU (kW w A B (dv (bif mv then 2 else 0) r)).2 (A:Int) (dv 2 r)).2 P s (kX a.1 a.2)).2 A B else (kW (mU (kW w A B (dv (bif mv then 2 else 0) r)).2 (A:Int) (dv 2 r)).2 P s (kX a.1 a.2)).2)
theorem jM {f:Nat} {r:Row}:dv f r≠[]:=by grind [dv]
theorem qy (P t:Nat):(kX P t).length=3:=rfl
theorem tH {w:ca} {n m:Nat} {c:List UInt8} {r:Option (Nat×Nat)×ca} (R:M5 w n m c r) {Q t:Nat} (h:bt w.1 Q t≠[]) (hc:c≠[]):bt r.2.1 Q t≠[]:=by
 cases hr:r.1 with
 | none=>rw[(R.no hr).2];exact h
 | some a=>
  rw[(R.yes a.1 a.2 hr).2.2.2];grind
theorem nW {w:ca} {n P s:Nat} {c:List UInt8} {r:Bool×ca} (R:ZS w n P s c r) {Q t:Nat} (h:bt w.1 Q t≠[]) (hc:c≠[]):bt r.2.1 Q t≠[]:=by
 cases hr:r.1 with
 | false=>rw[R.no hr];exact h
 | true=>
  rw[R.yes hr];grind
section
variable {w:ca} {n:Nat} (h:okW w n) (hn:n<=400) {P s A B:Nat} (h1:bt w.1 P s≠[]) (h2:bt w.1 A B≠[]) (mv:Bool) {r:Row} (hr:gz r=0)
include h hn h1 h2 hr
theorem CM:okW (py w P s A B mv r).2 (n+40):=by
 have R1:=qi h h2 (gc (f:=bif mv then 2 else 0) hr).1;have R2:=tG R1.ok (gc (f:=2) hr).1 (by grind [gc]) (A:Int);unfold py;split
 ·exact R1.ok.mono Bys
 ·split
  ·exact R2.ok.mono Bys
  ·rename_i a ha;have k1:=tH R2 (nW R1 h1 jM) jM;have k2:=tH R2 (nW R1 h2 jM) jM;have R3:=qi R2.ok k1 (c:=kX a.1 a.2) (by rw[qy];omega)
   cases mv with
   | false=>exact R3.ok.mono Bys
   | true=>
    have k3:=nW R3 k2 (by grind [kX]);exact (qw R3.ok k3).1.mono Bys
theorem M7 (r0:Row):lN.ab (w,(r0,(P:Int),(s:Int),mv,(A:Int),(B:Int),()),r,())=some (if Ty.eq ay r0 r=true then (true,w,()) else ((py w P s A B mv r).1,(py w P s A B mv r).2,())):=by
 refine ag (k:=0) λk _=>(lN.af k _).trans ?_;show lN.p _=_;unfold lN.p;show (bif Ty.eq ay r0 r then _ else _)=_
 cases Ty.eq ay r0 r with
 | true=>rfl
 | false=>
  have FB:∀ f,(dv f r).length<=20:=λf=>by grind [gc]
  have l1:∀ f,1<=(dv f r).length:=λf=>(gc (f:=f) hr).1
  have main:∀ f:Nat,f=(bif mv then 2 else 0)->((pK.ab ((f:Int),r,())).bind λnJ=>(ns.ab (w,(A:Int),(B:Int),nJ.1,())).bind λqb=>bif qb.1 then (some (true,qb.2.1,()):Option lN.O) else (pK.ab ((2:Int),r,())).bind λzg=>(gw.ab (qb.2.1,zg.1,(A:Int),())).bind λxx=>bif !xx.2.2.1 then (some (false,xx.2.2.2.1,())) else (vQ.ab (xx.1,xx.2.1,())).bind λEl=>(ns.ab (xx.2.2.2.1,(P:Int),(s:Int),El.1,())).bind λFo=>bif mv then ((ly.ab (Fo.2.1,(A:Int),(B:Int),())).bind λEh=>some (true,Eh.1,())) else some (true,Fo.2.1,()))=some ((py w P s A B mv r).1,(py w P s A B mv r).2,()):=by
   intro f hf;have R1:=qi h h2 (l1 f);have R2:=tG R1.ok (l1 2) (FB 2) (A:Int);have e2:pK.ab ((2:Int),r,())=some (dv 2 r,()):=EW (f:=2) hr;unfold py;rw[<-hf];simp only[EW (f:=f) hr,e2,aA,IN h Bys h2 (l1 f) (FB f)]
   cases hb:(kW w A B (dv f r)).1 with
   | true=>grind
   | false=>
    simp only[aE,aF,aU,IR R1.ok (show n+2<=800 by omega) (l1 2) (FB 2),aA];unfold wr
    cases hg:(mU (kW w A B (dv f r)).2 (A:Int) (dv 2 r)).1 with
    | none=>rfl
    | some a=>
     have k1:=tH R2 (nW R1 h1 jM) jM;have k2:=tH R2 (nW R1 h2 jM) jM;have l3:1<=(kX a.1 a.2).length:=by rw[qy];omega
     have R3:=qi R2.ok k1 l3;have k3:=nW R3 k2 (by grind);simp only[aW,aE,Ue,aA,IN R2.ok (show n+2+25<=900 by omega) k1 l3 (show (kX a.1 a.2).length<=20 by rw[qy];omega)]
     cases mv with
     | false=>rfl
     | true=>simp only[aM,Ca R3.ok (show n+2+25+2<=900 by omega) k3,aA]
  grind
theorem Uf (x:bd) (x3:x.2.2.1.2.2.1=(A:Int)) (x4:x.2.2.1.2.2.2.1=(B:Int)) (x1:x.1=(P:Int)) (x2:x.2.1=(s:Int)):tB.ab (w,x,r,())=some ((py w P s A B true r).1,(py w P s A B true r).2,()):=by
 refine ag (k:=0) λk _=>(tB.af k _).trans ?_;show tB.p _=_;unfold tB.p;have FB:∀ f,(dv f r).length<=20:=λf=>by grind [gc]
 have l1:∀ f,1<=(dv f r).length:=λf=>(gc (f:=f) hr).1;have R1:=qi h h2 (l1 2);have R2:=tG R1.ok (l1 2) (FB 2) (A:Int);have e2:kO.ab ((2:Int),r,())=some (dv 2 r,()):=Bh (f:=2) hr;unfold py;simp only[e2,x1,x2,x3,x4,aA,Af h Bys h2 (l1 2) (FB 2),aM]
 cases hb:(kW w A B (dv 2 r)).1 with
 | true=>grind
 | false=>
  simp only[aE,aF,aU,DE R1.ok (show n+2<=800 by omega) (l1 2) (FB 2),aA];unfold wr
  cases hg:(mU (kW w A B (dv 2 r)).2 (A:Int) (dv 2 r)).1 with
  | none=>rfl
  | some a=>
   have k1:=tH R2 (nW R1 h1 jM) jM;have k2:=tH R2 (nW R1 h2 jM) jM;have l3:1<=(kX a.1 a.2).length:=by rw[qy];omega
   have R3:=qi R2.ok k1 l3;have k3:=nW R3 k2 (by grind);simp only[aW,aE,Kv,aA,Af R2.ok (show n+2+25<=900 by omega) k1 l3 (show (kX a.1 a.2).length<=20 by rw[qy];omega),B_ R3.ok (show n+2+25+2<=900 by omega) k3]
end
def DK (ps:bp) (x:bd) (r:Row):ek:=
 if Ty.eq ay (kR x) r=true then wu true (d7 ps) else
  wu (py (d7 ps) x.1.toNat x.2.1.toNat (if iq x=1 then vF x else x.1).toNat (if iq x=1 then vG x else x.2.1).toNat (decide (iq x=1)) r).1 (py (d7 ps) x.1.toNat x.2.1.toNat (if iq x=1 then vF x else x.1).toNat (if iq x=1 then vG x else x.2.1).toNat (decide (iq x=1)) r).2
theorem XD {ps:bp} (h:xX ps) {x:bd} (hx:x ∈ kV ps) {r:Row} (hr:gz r=0):rI.ab (ps,x,r,())=some (DK ps x r,()):=by
 obtain ⟨P,s,x1,x2,c1,c2,c3⟩:=Lu h hx;have ho:=r_ h.right;refine ag (k:=0) λk _=>(rI.af k _).trans ?_;show rI.p _=_;unfold rI.p DK;simp only[DH h.right,DI,EX,aA];show (bif Ty.eq ay (kR x) r then _ else _)=_
 cases Ty.eq ay (kR x) r with
 | true=>rfl
 | false=>
  simp only[aE,aF,aU];show (bif decide (iq x=1) then _ else _)=_;by_cases hf:iq x=1
  ·obtain ⟨Q,t,x3,x4,c4,c5⟩:=c2 hf;rw[aS hf,aM,Uf ho Bys c1 c4 hr x x3 x4 x1 x2];simp only[aH hf,x1,x2,x3,x4,aD,aA];cases (py (d7 ps) P s Q t true r).1 <;> rfl
  ·rw[aK hf,aE];simp only[aN hf,x1,x2,aD];have FB:∀ f,(dv f r).length<=20:=λf=>by grind [gc]
   have l1:∀ f,1<=(dv f r).length:=λf=>(gc (f:=f) hr).1;have R1:=qi ho c1 (l1 0);have R2:=tG R1.ok (l1 2) (FB 2) (P:Int);have e0:kO.ab ((0:Int),r,())=some (dv 0 r,()):=Bh (f:=0) hr;have e2:kO.ab ((2:Int),r,())=some (dv 2 r,()):=Bh (f:=2) hr;unfold py;simp only[e0,e2,aA,Af ho Bys c1 (l1 0) (FB 0),aE]
   cases hb:(kW (d7 ps) P s (dv 0 r)).1 with
   | true=>rfl
   | false=>
    simp only[aE,aF,aU,DE R1.ok (show 0+2<=800 by omega) (l1 2) (FB 2),aA];unfold wr
    cases hg:(mU (kW (d7 ps) P s (dv 0 r)).2 (P:Int) (dv 2 r)).1 with
    | none=>rfl
    | some a=>
     have k1:=tH R2 (nW R1 c1 jM) jM;have l3:1<=(kX a.1 a.2).length:=by rw[qy];omega
     simp only[aW,aE,Kv,aA,Af R2.ok (show 0+2+25<=900 by omega) k1 l3 (show (kX a.1 a.2).length<=20 by rw[qy];omega)]
theorem Ug {ps:bp} (h:xX ps) {x:bd} (hx:x ∈ kV ps) {r:Row} (hr:gz r=0):((lN.ab (d7 ps,rP x,r,())).bind λqb=>ov.ab (qb.2.1,qb.1,()))=some (DK ps x r,()):=by
 obtain ⟨P,s,x1,x2,c1,c2,c3⟩:=Lu h hx;have ho:=r_ h.right;unfold DK;by_cases hf:iq x=1
 ·obtain ⟨Q,t,x3,x4,c4,c5⟩:=c2 hf;have hc:rP x=(kR x,(P:Int),(s:Int),true,(Q:Int),(t:Int),()):=by grind [rP]
  rw[hc,M7 ho Bys c1 c4 true hr (kR x),aS hf];grind [Int.toNat_natCast,DJ]
 ·have hc:rP x=(kR x,(P:Int),(s:Int),false,(P:Int),(s:Int),()):=by grind [rP]
  rw[hc,M7 ho Bys c1 c1 false hr (kR x),aK hf];grind [DJ]
def Hd (ps:bp) (x:bd):ek:=wu true (if iq x=1 then kM (kM (d7 ps) x.1.toNat x.2.1.toNat) (vF x).toNat (vG x).toNat else kM (d7 ps) x.1.toNat x.2.1.toNat)
theorem ZZ {ps:bp} (h:xX ps) {x:bd} (hx:x ∈ kV ps):∃ P s:Nat,x.1=(P:Int)/\x.2.1=(s:Int)/\bt ps P s≠[]/\(iq x=1->∃ Q t:Nat,vF x=(Q:Int)/\vG x=(t:Int)/\bt (kM (d7 ps) P s).1 Q t≠[]):=by
 obtain ⟨P,s,x1,x2,c1,c2,c3⟩:=Lu h hx;refine ⟨P,s,x1,x2,c1,λhf=>?_⟩
 obtain ⟨Q,t,x3,x4,c4,c5⟩:=c2 hf;refine ⟨Q,t,x3,x4,?_⟩
 rw[(qw (r_ h.right) c1).2.2,aN]
 ·exact c4
 grind
theorem XE {ps:bp} (h:xX ps) {x:bd} (hx:x ∈ kV ps):rH.ab (ps,x,())=some (Hd ps x,()):=by
 obtain ⟨P,s,x1,x2,c1,c2⟩:=ZZ h hx;have ho:=r_ h.right;have hd:=(qw ho c1).1;refine ag (k:=0) λk _=>(rH.af k _).trans ?_;show rH.p _=_;unfold rH.p Hd;simp only[DH h.right,DI,aA,x1,x2,B_ ho Bys c1,aD];show (bif decide (iq x=1) then _ else _)=_;by_cases hf:iq x=1
 ·obtain ⟨Q,t,x3,x4,c4⟩:=c2 hf;rw[aS hf,aM,aH hf];have e3:x.2.2.1.2.2.1=(Q:Int):=x3;have e4:x.2.2.1.2.2.2.1=(t:Int):=x4;grind [B_]
 grind
theorem XF {ps:bp} (h:xX ps) {x:bd} (hx:x ∈ kV ps):((mO.ab (d7 ps,rP x,())).bind λr28=>mN.ab (r28.1,()))=some (Hd ps x,()):=by
 obtain ⟨P,s,x1,x2,c1,c2⟩:=ZZ h hx;have ho:=r_ h.right;have hd:=(qw ho c1).1
 have e:mO.ab (d7 ps,rP x,())=some (if iq x=1 then kM (kM (d7 ps) x.1.toNat x.2.1.toNat) (vF x).toNat (vG x).toNat else kM (d7 ps) x.1.toNat x.2.1.toNat,()):=by
  refine ag (k:=0) λk _=>(mO.af k _).trans ?_;show mO.p _=_;unfold mO.p rP;simp only[x1,x2,aD];rw[Ca ho Bys c1];grind [Ca]
 rw[e,aA,Kw];rfl
def ud (f:qx) (P s:Nat):qx:=if gg (f P s)=1 then nx (nx f P s []) (o8 (f P s)) (o9 (f P s)) [] else nx f P s []
theorem SM {f:qx} (S:vI f) {P s:Nat} (h0:f P s≠[]) (h2:gg (f P s)≠2):vI (ud f P s)/\(∀ r,sk (ud f P s) r↔sk f r/\rk r≠rk (rowAt f P s)):=by
 obtain ⟨S1,r1,l1⟩:=ZX S h0 h2;unfold ud;split
 ·rename_i hf;obtain ⟨a1,a2⟩:=S.stub P s h0 hf;grind [Xw,lB]
 grind
theorem Z0 (f:qx) (P s:Nat):ud f P s P s=[]:=by
 unfold ud;grind [nx]
theorem drop_nil {f:qx} {P s Q t:Nat} (h:f Q t=[]):ud f P s Q t=[]:=by
 have one:∀ (g:qx) (A B:Nat),g Q t=[]->nx g A B [] Q t=[]:=λg A B hg=>by
  grind [tX,lB]
 unfold ud;grind
theorem Pz {n:Nat} (hn:n=0\/n=2) {r:Row} (hr:gz r=0):(ef (dv n r)).2=true/\gg (dv n r)=n/\IS (dv n r)=r:=by
 grind [gg,IS,Xx]
theorem SN {h:qx} (S:vI h) {P s:Nat} (h0:h P s=[]) {r:Row} (hr:gz r=0) (hk:∀ r',sk h r'->rk r'≠rk r):vI (nx h P s (dv 0 r))/\(∀ r',sk (nx h P s (dv 0 r)) r'↔sk h r'\/r'=r):=by
 simp_all [Pz,Py,jM]
theorem adF {h:qx} (S:vI h) {P s X Y:Nat} (h0:h P s=[]) (h1:h X Y=[]) (i7:¬ (X=P/\Y=s)) (hX:X<=11) (hY:Y<=15) {r:Row} (hr:gz r=0) (hk:∀ r',sk h r'->rk r'≠rk r):vI (nx (nx h X Y (dv 2 r)) P s (kX X Y))/\(∀ r',sk (nx (nx h X Y (dv 2 r)) P s (kX X Y)) r'↔sk h r'\/r'=r):=by
 obtain ⟨c1,c2,c3⟩:=Pz (n:=2) (.inr rfl) hr;obtain ⟨S1,r1,l1⟩:=ZW S h1 c1 c2;have hs:=Xy hX hY;have e1:gg (kX X Y)=1:=by grind [gg]
 have e2:o8 (kX X Y)=X:=by grind [o8]
 have e3:o9 (kX X Y)=Y:=by grind [o9]
 have:=Py S1 (P:=P) (s:=s) (c:=kX X Y) (r:=r) (by grind [lB]) (by rw[hs]) (by grind [kX])
  (.inr ⟨e1,by grind [tX,jM],by grind [tX],by grind,by grind [tX]⟩) (λr' hr'=>hk r' ((r1 r').1 hr'))
 grind
theorem zj {ps:bp} {g:qx} (h:∀ Q t,bt ps Q t=g Q t):bt ps=g:=funext λQ=>funext λt=>h Q t
theorem JW {ps:bp} (hv:ja ps=0) {x:bd} (hx:x ∈ kV ps):∃ P s:Nat,bt ps P s≠[]/\gg (bt ps P s)≠2/\x.1=(P:Int)/\x.2.1=(s:Int)/\iq x=gg (bt ps P s)/\vF x=(o8 (bt ps P s):Int)/\vG x=(o9 (bt ps P s):Int)/\kR x=rowAt (bt ps) P s:=by
 have V:=rY hv;have S:=(pE.1 hv).2;unfold kV at hx;obtain ⟨y,hy,ur⟩:=cM.1 hx;obtain ⟨P,s,c1,rfl⟩:=(rZ V.right).1 hy;unfold ub at ur;split at ur
 ·cases ur
 ·rename_i f1;have By:=bC.1 ur;have e:=xD V.right P s λhf=>(S.stub P s c1 hf).1;obtain ⟨t1,t2⟩:=IT (bt ps P s);refine ⟨P,s,c1,f1,?_⟩
  rw[By];refine ⟨?_,?_,?_,?_,?_,e⟩
  all_goals (unfold xW;split)
  all_goals first | rfl | exact t1 | exact t2
theorem abK {w:ca} {n P s:Nat} (h:okW w n) (ey:bt w.1 P s≠[]) {c:List UInt8} (hc:c.length<=(bt w.1 P s).length):(kW w P s c).1=true:=by
 obtain ⟨hP,hs,hz⟩:=uG h.jQ ey;have hp:=qv h.jQ hP;grind [bt,cellOf,qu,sD,kW]
theorem Z1 {d:List UInt8} (h:(ef d).2=true):3<=d.length:=by
 grind [ef]
theorem abL {ps:bp} (hv:ja ps=0) {r:Row} (hr:gz r=0) (hk:∀ r' ∈ aT ps,rk r'≠rk r) {a:Nat×Nat} (ha:(vJ (d7 ps) r).1=some a):ja (vJ (d7 ps) r).2.1=0/\∀ r',r' ∈ aT (vJ (d7 ps) r).2.1↔r' ∈ aT ps\/r'=r:=by
 obtain ⟨hR,S⟩:=pE.1 hv;have R:=Ou (r_ hR) hr;obtain ⟨y1,y2,y3,y4⟩:=R.yes a.1 a.2 ha;have e:bt (vJ (d7 ps) r).2.1=nx (bt ps) a.1 a.2 (dv 0 r):=zj y4;obtain ⟨S1,r1⟩:=SN S y3 hr λr' h'=>hk r' ((AM hv r').2 h');have hv':ja (vJ (d7 ps) r).2.1=0:=pE.2 ⟨R.ok.jQ,by grind⟩;grind [AM]
section
variable {ps:bp} (hv:ja ps=0) {P s:Nat} (c1:bt ps P s≠[]) (c2:gg (bt ps P s)≠2)
include hv c1 c2
theorem Z2 {r:Row} (hr:gz r=0) (mv:Bool) {A B:Nat} (hm:if mv then gg (bt ps P s)=1/\A=o8 (bt ps P s)/\B=o9 (bt ps P s) else gg (bt ps P s)≠1/\A=P/\B=s) (XG:(py (d7 ps) P s A B mv r).1=true) :
  ∃ g:qx,bt (py (d7 ps) P s A B mv r).2.1=g/\(g=nx (ud (bt ps) P s) P s (dv 0 r)\/∃ X Y,ud (bt ps) P s X Y=[]/\¬ (X=P/\Y=s)/\X<=11/\Y<=15/\g=nx (nx (ud (bt ps) P s) X Y (dv 2 r)) P s (kX X Y)):=by
 obtain ⟨hR,S⟩:=pE.1 hv;have ho:=r_ hR;have FB:∀ f,(dv f r).length<=20:=λf=>by grind [gc]
 have l1:∀ f,1<=(dv f r).length:=λf=>(gc (f:=f) hr).1
 have hAB:bt ps A B≠[]/\(mv=true->gg (bt ps A B)=2/\¬ (A=P/\B=s)/\bt ps P s=kX A B/\A<=11/\B<=15):=by
  cases mv with
  | false=>grind
  | true=>
   obtain ⟨m1,m2,m3⟩:=hm;obtain ⟨a1,a2⟩:=S.stub P s c1 m1;obtain ⟨b1,b2,b3⟩:=Xz (S.read P s c1) m1;grind
 obtain ⟨cAB,hmv⟩:=hAB
 have hd:∀ Q t,ud (bt ps) P s Q t=if (Q=P/\t=s)\/(mv=true/\Q=A/\t=B) then [] else bt ps Q t:=by
  intro Q t;unfold ud nx
  cases mv with
  | false=>
   simp_all
  | true=>
   obtain ⟨m1,m2,m3⟩:=hm;rw[aH m1,<- m2,<- m3];grind
 have R1:=qi ho (P:=A) (s:=B) cAB (l1 (bif mv then 2 else 0));have R2:=tG R1.ok (l1 2) (FB 2) (A:Int);refine ⟨_,rfl,?_⟩
 unfold py at XG ⊢;split at XG
 ·rename_i hb;rw[aH hb];have e:=R1.yes hb
  cases mv with
  | false=>
   left;obtain ⟨m1,m2,m3⟩:=hm;refine zj λQ t=>?_;rw[e Q t];unfold nx;rw[m2,m3,hd];by_cases h:Q=P/\t=s
   ·grind
   ·rw[aN h,aN h,aN (λhh=>by grind)];rfl
  | true=>
   right;obtain ⟨m4,m5,m6,m7,m8⟩:=hmv rfl;refine ⟨A,B,by grind,m5,m7,m8,zj λQ t=>?_⟩
   rw[e Q t];unfold nx;rw[hd];by_cases h:Q=P/\t=s
   ·rw[aH h,aN (λhh=>m5 ⟨hh.1.symm.trans h.1,hh.2.symm.trans h.2⟩),h.1,h.2];exact m6
   ·rw[aN h];by_cases h2:Q=A/\t=B
    ·grind
    ·rw[aN h2,aN h2,aN (λhh=>by grind)];rfl
 ·rename_i hb;rw[aN hb];have hbf:(kW (d7 ps) A B (dv (bif mv then 2 else 0) r)).1=false:=by simpa using hb
  have e:=R1.no hbf
  cases hg:(mU (kW (d7 ps) A B (dv (bif mv then 2 else 0) r)).2 (A:Int) (dv 2 r)).1 with
  | none=>grind
  | some a=>
   obtain ⟨y1,y2,y3,y4⟩:=R2.yes a.1 a.2 hg;rw[e] at y3;have y3':bt ps a.1 a.2=[]:=y3;have k1:=tH R2 (nW R1 (Q:=P) (t:=s) c1 jM) jM;have k2:=tH R2 (nW R1 (Q:=A) (t:=B) cAB jM) jM;have n1:¬ (a.1=P/\a.2=s):=λhe=>c1 (by grind);have n2:¬ (a.1=A/\a.2=B):=λhe=>cAB (by grind);have R3:=qi R2.ok k1 (c:=kX a.1 a.2) (by rw[qy];omega)
   have uu:bt (mU (kW (d7 ps) A B (dv (bif mv then 2 else 0) r)).2 (A:Int) (dv 2 r)).2.1 P s=bt ps P s:=by
    rw[y4,aN (λhe=>n1 ⟨he.1.symm,he.2.symm⟩),e];rfl
   have dm:=abK R2.ok k1 (c:=kX a.1 a.2) (by rw[uu,qy];exact Z1 (S.read P s c1));have e3:=R3.yes dm;right;refine ⟨a.1,a.2,drop_nil y3',n1,by omega,by omega,zj λQ t=>?_⟩
   have base:∀ Q t,bt (kW (mU (kW (d7 ps) A B (dv (bif mv then 2 else 0) r)).2 (A:Int) (dv 2 r)).2 P s (kX a.1 a.2)).2.1 Q t=if Q=P/\t=s then kX a.1 a.2 else if Q=a.1/\t=a.2 then dv 2 r else bt ps Q t:=λQ t=>by
    rw[e3,y4,e];rfl
   simp only;unfold nx;rw[hd]
   cases mv with
   | false=>
    grind
   | true=>
    obtain ⟨m4,m5,m6,m7,m8⟩:=hmv rfl;have k3:=nW R3 k2 (by grind [kX]);show bt (kM (kW _ P s (kX a.1 a.2)).2 A B).1 Q t=_;rw[(qw R3.ok k3).2.2,base];grind
theorem SO {r:Row} (hr:gz r=0) (hk:rk (rowAt (bt ps) P s)=rk r) (mv:Bool) {A B:Nat} (hm:if mv then gg (bt ps P s)=1/\A=o8 (bt ps P s)/\B=o9 (bt ps P s) else gg (bt ps P s)≠1/\A=P/\B=s) (a_:nO (py (d7 ps) P s A B mv r).2.1) (XG:(py (d7 ps) P s A B mv r).1=true) :
  ja (py (d7 ps) P s A B mv r).2.1=0/\∀ r',r' ∈ aT (py (d7 ps) P s A B mv r).2.1↔(r' ∈ aT ps/\rk r'≠rk r)\/r'=r:=by
 obtain ⟨hR,S⟩:=pE.1 hv;obtain ⟨S1,r1⟩:=SM S c1 c2;rw[hk] at r1;have sa:∀ r',sk (ud (bt ps) P s) r'->rk r'≠rk r:=λr' h'=>((r1 r').1 h').2;obtain ⟨g,hg,aiF⟩:=Z2 hv c1 c2 hr mv hm XG
 have fin:vI g/\∀ r',sk g r'↔sk (ud (bt ps) P s) r'\/r'=r:=by
  grind [SN,Z0,adF]
 have hv':ja (py (d7 ps) P s A B mv r).2.1=0:=pE.2 ⟨a_,by grind⟩;grind [AM]
end
theorem SP {xs:List Row} (h:(xs.map rk).Nodup):xs.Nodup:=List.Pairwise.of_map rk (λa b h he=>h (cV rk he)) h
theorem abM {ps:bp} (hv:ja ps=0) {x:bd} (hx:x ∈ kV ps):∃ w:ca,Hd ps x=wu true w/\okW w 2/\ja w.1=0/\∀ r',r' ∈ aT w.1↔r' ∈ aT ps/\rk r'≠rk (kR x):=by
 obtain ⟨hR,S⟩:=pE.1 hv;obtain ⟨P,s,c1,c2,x1,x2,x3,x4,x5,x6⟩:=JW hv hx;have ho:=r_ hR;obtain ⟨d1,d2,d3⟩:=qw ho c1;obtain ⟨S1,r1⟩:=SM S c1 c2;unfold Hd;rw[x1,x2,x4,x5,aD,aD,aD,aD,x3,x6];by_cases hf:gg (bt ps P s)=1
 ·rw[aH hf];obtain ⟨a1,a2⟩:=S.stub P s c1 hf
  have ne:¬ (o8 (bt ps P s)=P/\o9 (bt ps P s)=s):=λhe=>by
   grind
  have k1:bt (kM (d7 ps) P s).1 (o8 (bt ps P s)) (o9 (bt ps P s))≠[]:=by rw[d3,aN ne];exact a1
  obtain ⟨e1,e2,e3⟩:=qw d1 k1
  have e:bt (kM (kM (d7 ps) P s) (o8 (bt ps P s)) (o9 (bt ps P s))).1=ud (bt ps) P s:=zj λQ t=>by
   rw[e3,d3];unfold ud;rw[aH hf];rfl
  have hv':=pE.2 ⟨e1.jQ,by grind⟩;grind [AM]
 ·rw[aN hf]
  have e:bt (kM (d7 ps) P s).1=ud (bt ps) P s:=zj λQ t=>by
   rw[d3];unfold ud;rw[aN hf];rfl
  have hv':=pE.2 ⟨d1.jQ,by grind⟩;exact ⟨_,rfl,d1.mono Bys,hv',λr'=>by grind [AM]⟩
theorem Z3 {ps:bp} (hv:ja ps=0) {x:bd} (hx:x ∈ kV ps) {r:Row} (hr:gz r=0) (hk:rk (kR x)=rk r):DK ps x r=Hc 9\/∃ w:ca,DK ps x r=wu true w/\okW w 40/\ja w.1=0/\∀ r',r' ∈ aT w.1↔(r' ∈ aT ps/\rk r'≠rk r)\/r'=r:=by
 obtain ⟨hR,S⟩:=pE.1 hv;obtain ⟨P,s,c1,c2,x1,x2,x3,x4,x5,x6⟩:=JW hv hx;have ho:=r_ hR;have V:=rY hv;unfold DK;by_cases he:Ty.eq ay (kR x) r=true
 ·rw[aH he];right
  have Vg:kR x=r:=by
   exact ZY he
  refine ⟨d7 ps,rfl,ho.mono Bys,hv,λr'=>?_⟩
  have gb:r ∈ aT ps:=by
   grind [AK,Cx]
  constructor
  ·intro h;by_cases oC:rk r'=rk r
   ·right;have hn:=GZ (yS V);exact Et hn h gb oC
   ·exact .inl ⟨h,oC⟩
  ·rintro (h | rfl)
   ·exact h.1
   ·exact gb
 ·rw[aN he];by_cases hf:gg (bt ps P s)=1
  ·obtain ⟨a1,a2⟩:=S.stub P s c1 hf
   have hm:if (true:Bool) then gg (bt ps P s)=1/\o8 (bt ps P s)=o8 (bt ps P s)/\o9 (bt ps P s)=o9 (bt ps P s) else gg (bt ps P s)≠1/\o8 (bt ps P s)=P/\o9 (bt ps P s)=s:=⟨hf,rfl,rfl⟩
   rw[x3,aH hf,aH hf,x1,x2,x4,x5,aS hf,aD,aD,aD,aD];have a_:=CM ho Bys c1 a1 true hr
   cases hy:(py (d7 ps) P s (o8 (bt ps P s)) (o9 (bt ps P s)) true r).1 with
   | false=>exact .inl rfl
   | true=>
    right;obtain ⟨v1,v2⟩:=SO hv c1 c2 hr (by grind) true hm a_.jQ hy;grind
  ·have hm:if (false:Bool) then gg (bt ps P s)=1/\P=o8 (bt ps P s)/\s=o9 (bt ps P s) else gg (bt ps P s)≠1/\P=P/\s=s:=⟨hf,rfl,rfl⟩
   rw[x3,aN hf,aN hf,x1,x2,aK hf,aD,aD];have a_:=CM ho Bys c1 c1 false hr
   cases hy:(py (d7 ps) P s P s false r).1 with
   | false=>exact .inl rfl
   | true=>
    right;obtain ⟨v1,v2⟩:=SO hv c1 c2 hr (by grind) false hm a_.jQ hy;grind
theorem VH {xs ys:List Row} (hx:up xs) (hy:up ys) (h:∀ r,r ∈ xs↔r ∈ ys):xs=ys:=by
 have n1:xs.Nodup:=SP (GZ hx);have n2:ys.Nodup:=SP (GZ hy);exact ZJ ((List.perm_ext_iff_of_nodup n1 n2).2 h) hx hy
def kB (ps:bp) (c:Change):ek:=
 if ja ps=0 then
  if lg c=0 then
   match vq ps (ck c).1 (ck c).2 with
   | some x=>if c.1&&Ty.eq ay (kR x) c.2.1 then (if c.2.2.1 then DK ps x c.2.2.2.1 else Hd ps x) else Hc 8
   | none=>if c.1 then Hc 8 else wu (vJ (d7 ps) c.2.2.2.1).1.isSome (vJ (d7 ps) c.2.2.2.1).2
  else Hc (lg c)
 else Hc (ja ps)
section
variable {ps:bp} (hp:∀ p ∈ ps,p.length<=maxLen)
include hp
theorem FC {c:Change} (h:lg c=0) (hw:c.1=false):c.2.2.1=true:=by
 grind [lg]
theorem SQ {c:Change} (hv:ja ps=0) (hf:lg c=0):tk.ab (ps,c,())=some (match vq ps (ck c).1 (ck c).2 with
  | some x=>if c.1&&Ty.eq ay (kR x) c.2.1 then (if c.2.2.1 then DK ps x c.2.2.2.1 else Hd ps x) else Hc 8
  | none=>if c.1 then Hc 8 else wu (vJ (d7 ps) c.2.2.2.1).1.isSome (vJ (d7 ps) c.2.2.2.1).2,()):=by
 have hV:=rY hv;refine ag (k:=0) λk _=>(tk.af k _).trans ?_;show tk.p _=_;unfold tk.p;rw[z_];simp only[aA,Uc ps hV.right,EX]
 cases hx:vq ps (ck c).1 (ck c).2 with
 | none=>
  simp only
  cases hw:c.1 with
  | true=>rfl
  | false=>
   have hi:=(pw hf).2 (FC hp hf hw);rw[XC hV.right hi];rfl
 | some x=>
  have hm:=cU hx;grind [kR,XE,XD,pw]
theorem Uh {c:Change} (hc:cl c):rB.ab (ps,c,())=some (kB ps c,()):=by
 refine ag (k:=0) λk _=>(rB.af k _).trans ?_;show rB.p _=_;unfold rB.p kB;rw[EU ps hp];simp only[aA,B6 c hc,xV];by_cases hv:ja ps=0
 ·rw[aH hv,aS hv,aM];by_cases hf:lg c=0
  ·have hV:=rY hv;have hl:=Er hV;have ho:=r_ hV.right;rw[aH hf,aS hf,aW,aE,EV _ Bys,SL hV.right];simp only[aA];have vv:(aT ps).length<=2000000:=by grind [aT]
   rw[show (Ac ps).map (·.1)=aT ps from rfl,Pn c (aT ps) (yS hV) vv];have OZ:(BB c).1=(ck c).1:=by rw[<-zh c]
   have oC:(BB c).2.1=(ck c).2:=by rw[<-zh c]
   simp only[aA,OZ,oC,Ud _ (show (Ac ps).length<=1000 by omega),ZV hV];have pk:=IQ hV (ck c).1 (ck c).2
   cases hx:vq ps (ck c).1 (ck c).2 with
   | none=>
    rw[hx] at pk;simp only at pk
    have e:sK (aT ps) c=!c.1:=by
     grind [sK]
    rw[e]
    cases hw:c.1 with
    | true=>rfl
    | false=>
     have hi:=(pw hf).2 (FC hp hf hw);grind [XB,DJ]
   | some x=>
    have hm:=cU hx;rw[hx] at pk;obtain ⟨f1,f2,f3,f4⟩:=pk
    have e:sK (aT ps) c=(c.1&&Ty.eq ay (kR x) c.2.1):=by
     grind [sK]
    rw[e];dsimp only
    cases hw:c.1 with
    | false=>rfl
    | true=>
     cases Ty.eq ay (kR x) c.2.1 with
     | false=>rfl
     | true=>
      simp only[bR,iL,aW,aE,aL]
      cases hi:c.2.2.1 with
      | true=>
       have e:=Ug hV hm ((pw hf).2 hi);simp only[aM,aL];cases hu:lN.ab (d7 ps,rP x,c.2.2.2.1,()) <;> grind
      | false=>
       have e:=XF hV hm;simp only[aE,aF,aU];cases hu:mO.ab (d7 ps,rP x,()) <;> grind
  ·rw[aN hf,aK hf,bO,aM];rfl
 ·rw[aN hv,aK hv,aE,bO,aM];rfl
end
theorem xZ {ok:Bool} {w:ca} (h:(wu ok w).1=0):ok=true/\wu ok w=((0:Int),w.2.1,w.1,()):=by
 unfold wu at h ⊢
 cases ok with
 | true=>exact ⟨rfl,rfl⟩
 | false=>exact absurd h (show ¬ (9:Int)=0 by decide)
theorem Z4 {ps:bp} (hv:ja ps=0) {r:Row} (hr:gz r=0) (hn:vq ps r.1 r.2.1=none) (h0:(wu (vJ (d7 ps) r).1.isSome (vJ (d7 ps) r).2).1=0):ja (vJ (d7 ps) r).2.1=0/\∀ r',r' ∈ aT (vJ (d7 ps) r).2.1↔r' ∈ aT ps\/r'=r:=by
 have V:=rY hv;obtain ⟨ha,_⟩:=xZ h0;obtain ⟨a,ha⟩:=eN.1 ha;refine abL hv hr (λr' hr' he=>?_) ha;have hf:=IQ V r.1 r.2.1;rw[hn] at hf;simp only at hf;obtain ⟨i,hi,hx⟩:=bL hr';have:=(BF (yS V) hi (k:=(r.1,r.2.1)) (by rw[hx];exact he)).1;rw[hf] at this;cases this
theorem VI {d:List UInt8} (h:(ef d).2=true) (h1:gg d≠1):gz (IS d)=0:=by
 unfold gg at h1;unfold IS;unfold ef at h h1 ⊢;split at h
 ·rename_i hc;rw[aH hc] at h1;exact absurd rfl h1
 ·rename_i hc;rw[aN hc];split at h
  ·cases h
  ·rename_i D7;rw[aN D7]
   simpa using h
theorem Z5 {ps:bp} (hv:ja ps=0):Good (aT ps):=by
 refine ⟨yS (rY hv),λr hr=>?_⟩
 have S:=(pE.1 hv).2;obtain ⟨P,s,c1,f1,rfl⟩:=(AM hv r).1 hr;unfold rowAt;split
 ·rename_i hf;obtain ⟨a1,a2⟩:=S.stub P s c1 hf;exact VI (S.read _ _ a1) (by rw[a2];decide)
 ·rename_i hf;exact VI (S.read _ _ c1) hf
theorem PA {ps:bp} (hv:ja ps=0) {c:Change} (hc:lg c=0) (h0:(kB ps c).1=0):ja (kB ps c).2.2.1=0/\aT (kB ps c).2.2.1=nC (aT ps) c:=by
 have V:=rY hv;have hu:=yS V;have hdu:up (nC (aT ps) c):=(rL (Z5 hv) hc).up
 have fin:∀ {w:ca},ja w.1=0->(∀ r',r' ∈ aT w.1↔(r' ∈ aT ps/\rk r'≠ck c)\/(c.2.2.1=true/\r'=c.2.2.2.1))->ja w.1=0/\aT w.1=nC (aT ps) c:=λ{w} h1 h2=>
  ⟨h1,VH (yS (rY h1)) hdu λr'=>by rw[h2,wt hu]⟩
 unfold kB at h0 ⊢;rw[aH hv,aH hc] at h0 ⊢;have pk:=IQ V (ck c).1 (ck c).2
 cases hx:vq ps (ck c).1 (ck c).2 with
 | none=>
  rw[hx] at pk h0;simp only at pk h0 ⊢
  cases hw:c.1 with
  | true=>rw[hw] at h0;exact absurd h0 (show ¬ (8:Int)=0 by decide)
  | false=>
   rw[hw] at h0;simp only[aF,aU] at h0 ⊢;have hi:=FC (ps:=[]) (λp hp=>by cases hp) hc hw;have hr:=(pw hc).2 hi;have hk:=(pw hc).1 hi
   have hn:vq ps c.2.2.2.1.1 c.2.2.2.1.2.1=none:=by
    have:rk c.2.2.2.1=((ck c).1,(ck c).2):=hk;unfold rk at this;injection this with e1 e2;rw[e1,e2];exact hx
   obtain ⟨v1,v2⟩:=Z4 hv hr hn h0;rw[(xZ h0).2];refine fin v1 λr'=>?_;rw[v2];constructor
   ·rintro (h | h)
    ·refine .inl ⟨h,λhe=>?_⟩;obtain ⟨i,hi2,yk⟩:=bL h;have:=(BF hu hi2 (k:=ck c) (by rw[yk];exact he)).1;rw[show ck c=((ck c).1,(ck c).2) from rfl,pk] at this;cases this
    ·exact .inr ⟨hi,h⟩
   ·rintro (h | h)
    ·exact .inl h.1
    ·exact .inr h.2
 | some x=>
  have hm:=cU hx;rw[hx] at pk h0;obtain ⟨f1,f2,f3,f4⟩:=pk;simp only at h0 ⊢;have f4':rk (kR x)=ck c:=f4
  cases hb:(c.1&&Ty.eq ay (kR x) c.2.1) with
  | false=>rw[hb] at h0;exact absurd h0 (show ¬ (8:Int)=0 by decide)
  | true=>
   rw[hb] at h0;simp only[aL] at h0 ⊢
   cases hi:c.2.2.1 with
   | true=>
    rw[hi] at h0;simp only[aL] at h0 ⊢;have hr:=(pw hc).2 hi;have hk:=(pw hc).1 hi
    rcases Z3 hv hm hr (by rw[f4',hk]) with e | ⟨w,e,ok,v1,v2⟩
    ·rw[e] at h0;exact absurd h0 (show ¬ (9:Int)=0 by decide)
    ·rw[e];refine fin v1 λr'=>?_;rw[v2,hk];simp only[hi,eQ]
   | false=>
    rw[hi] at h0;simp only[aF,aU] at h0 ⊢;obtain ⟨w,e,ok,v1,v2⟩:=abM hv hm;rw[e];refine fin v1 λr'=>?_;rw[v2,f4'];simp only[hi,aF,false_and,gB]
def mV (ps:bp) (e:qF):bp:=if e.1.toNat=ps.length then ps++[e.2.1] else ps.set e.1.toNat e.2.1
def HL (ps:bp) (es:List qF):bp:=es.foldl mV ps
theorem VJ (ps:bp) (es:List qF) (e:qF):HL ps (es++[e])=mV (HL ps es) e:=by
 grind [HL]
def Lv (ps:bp) (e:qF):Prop:=List.length e.2.1=64/\0<=e.1/\e.1<=(ps.length:Int)/\e.1 < 12
def Ag:bp->List qF->Prop
 | _,[]=>True
 | ps,e::es=>Lv ps e/\Ag (mV ps e) es
theorem IV {ps:bp}:∀ {es:List qF} {e:qF},Ag ps es->Lv (HL ps es) e->Ag ps (es++[e])
 | [],e,_,h=>⟨h,trivial⟩
 | x::es,e,h,h2=>⟨h.1,IV (ps:=mV ps x) h.2 h2⟩
theorem VK {ps:bp} {P:Nat} {b:List UInt8} (h:nO (mV ps ((P:Int),b,()))) (hP:P<=ps.length):Lv ps ((P:Int),b,()):=by
 have hm:b ∈ mV ps ((P:Int),b,())/\P < (mV ps ((P:Int),b,())).length:=by
  grind [mV,List.mem_set]
 have Ae:=h.1;exact ⟨(h.2 b hm.1).len,by grind,by grind,by grind⟩
def afx (ps:bp) (es:List qF) (B:Nat->List Row):Prop:=∀ j,j<=es.length->ja (HL ps (es.take j))=0/\aT (HL ps (es.take j))=B j
structure aiv (ps:bp) (w:ca) (B0:List Row):Prop where
 at_:HL ps w.2.1=w.1
 ed:Ag ps w.2.1
 way:afx ps w.2.1 λ_=>B0
structure air (ps:bp) (w:ca) (B0 B1:List Row):Prop where
 at_:HL ps w.2.1=w.1
 ed:Ag ps w.2.1
 way:∃ m,m<=List.length w.2.1/\afx ps w.2.1 λj=>if j < m then B0 else B1
theorem M8 {w:ca} {P:Nat} (hP:P<=List.length w.1) (b:List UInt8):nD w P b=w\/((nD w P b).2.1=w.2.1++[((P:Int),b,())]/\(nD w P b).1=mV w.1 ((P:Int),b,())):=by
 grind [nD,mV]
def sameAt {α:Type} [DecidableEq α] (ys:List α) (i:Nat) (x:α):Bool:=match ys[i]? with | some y=>decide (x=y) | none=>true
theorem M9 {α:Type} [DecidableEq α] {ys:List α} {i:Nat} (h:i < ys.length) (x:α):sameAt ys i x=decide (x=ys[i]):=by unfold sameAt;rw[aB h]
theorem PB {α:Type} [DecidableEq α] (ys:List α):∀ (l:List α) (j:Nat),j+l.length=ys.length->bu (λi (_:Unit) x=>if sameAt ys i x then .inr () else .inl (false,())) (λ_=>(true,())) j l ()=(decide (l=ys.drop j),())
 | [],j,h=>by
  have:ys.drop j=[]:=fY (by simpa using dI h.symm);simp[bu,this]
 | x::l,j,h=>by
  have hj:j < ys.length:=by simp only[bI] at h;omega
  have hd:ys.drop j=ys[j]::ys.drop (j+1):=(cI hj)
  simp only[bu,M9 hj];by_cases hx:x=ys[j]
  ·rw[aH (by simpa using hx)];have:=PB ys l (j+1) (by simp only[bI] at h;omega);refine this.trans ?_;rw[hd,hx];congr 1;exact decide_eq_decide.2 ⟨λh=>by rw[h],λh=>by injection h⟩
  ·rw[aN (by simpa using hx),hd];have i7:¬ x::l=ys[j]::ys.drop (j+1):=λh=>hx (by injection h);rw[aK i7]
theorem XH (xs ys:bp) (h:xs.length<=1000):nv.ab (xs,ys,())=some (decide (xs=ys),()):=by
 have hs:∀ a b:List UInt8,pW.ab (a,b,())=some (decide (a=b),()):=λa b=>ag (k:=0) λk _=>(pW.af k _).trans rfl;refine ag (k:=1100) λk hk=>(nv.af k _).trans ?_;unfold nv.p;by_cases hl:xs.length=ys.length;rotate_left
 ·have Eb:¬ ((xs.length:Int)=(ys.length:Int)):=by omega
  have i7:¬ xs=ys:=λhe=>hl (by rw[he]);rw[aK Eb,bO,aM,aK i7]
 have Eb:(xs.length:Int)=(ys.length:Int):=by omega
 rw[aS Eb,aW,aE]
 have:=cy (B:=λself v=>nv.b0 self (λz=>nv.q0 (xs,ys,()) z) (xs,ys,()) v) xs (λ(_:Unit) (i:Int)=>i) (λi _ x=>if sameAt ys i x then .inr () else .inl (false,())) (λ_=>(true,())) (λ_ _=>True) (by rw[an];omega)
  (λi hi s self _=>by
   show nv.b0 _ _ _ _=_;unfold nv.b0;have bc:(i:Int) < (xs.length:Int):=by omega
   rw[aS bc,aM,aH (aR i)];simp only[aD,aB hi,aB (show i < ys.length by omega),aA,hs];rw[aH (aR i)];rw[M9 (show i < ys.length by omega)];by_cases hx:xs[i]=ys[i]'Bys
   ·rw[aS hx];rfl
   ·rw[aK hx];rfl)
  (λ_ _ _ _ _ _=>trivial) (λs self _=>by
   show nv.b0 _ _ _ _=_;unfold nv.b0;rw[aK (aY _),aE]
   rfl) () trivial k Bys
 rw[PB ys xs 0 Bys] at this;exact this
def kD (s:fl) (b:Int):Prop:=List.length s.1<=1048576/\0<=s.2.1/\s.2.1<=b
theorem kD.mono {s:fl} {a b:Int} (h:kD s a) (hb:a<=b):kD s b:=⟨h.1,h.2.1,iT h.2.2 hb⟩
theorem zk {v n:Int} (hv:0<=v) (hn:1<=n):0<=v.tmod n/\v.tmod n < n:=by
 rw[Int.tmod_eq_emod_of_nonneg hv];exact ⟨Int.emod_nonneg _ Bys,Int.emod_lt_of_pos _ Bys⟩
theorem vK {s:fl} {b n:Int} (h:kD s b) (hb:b<=1000000) (hn:1<=n) (Ig:n<=1000000):∃ v t,cb.ab (s,n,())=some (v,t,())/\0<=v/\v < n/\kD t (b+1):=by
 obtain ⟨c,a,⟨⟩⟩:=s;obtain ⟨hc,ha,SR⟩:=h;replace hc:c.length<=1048576:=hc;replace ha:0<=a:=ha;replace SR:a<=b:=SR;have h1:ae (a+1)=a+1:=bf Bys;have h2:ae (a+1 - 1)=a:=by grind [bf]
 suffices hs:∃ v,(0<=v/\v < n)/\cb.p ((c,a,()),n,())=some (v,(c,a+1,()),()) by
  obtain ⟨v,hv,hp⟩:=hs;exact ⟨v,(c,a+1,()),ag (k:=0) λk _=>(cb.af k _).trans hp,hv.1,hv.2,hc,by grind,by grind⟩
 unfold cb.p;have n1:¬ n < 1:=by omega
 have n0:¬ n=0:=by omega
 simp only[n1,n0,h1,h2,aI,aE,aU];by_cases hl:c.length=0
 ·have e:(c.length:Int)=0:=by omega
  simp only[e,aP,aM];exact ⟨_,zk (by grind [bf]) hn,rfl⟩
 have e:¬ (c.length:Int)=0:=by omega
 have q0:=zk (v:=a) (n:=(c.length:Int)) ha Bys;have q1:=zk (v:=a+1) (n:=(c.length:Int)) Bys Bys;have i0:(a.tmod (c.length:Int)).toNat < c.length:=by omega
 have i1:((a+1).tmod (c.length:Int)).toNat < c.length:=by omega
 simp only[e,aI,aE,aU,q0.1,q1.1,aL,aB i0,aB i1,aA]
 have hd:0<=a.tdiv (c.length:Int)/\a.tdiv (c.length:Int)<=a:=by
  simp_all [iA,iY,iM]
 have b0:(c[(a.tmod (c.length:Int)).toNat]).toNat < 256:=fN _;have b1:(c[((a+1).tmod (c.length:Int)).toNat]).toNat < 256:=fN _;generalize (c[(a.tmod (c.length:Int)).toNat]).toNat=x at b0 ⊢;generalize (c[((a+1).tmod (c.length:Int)).toNat]).toNat=y at b1 ⊢;generalize a.tdiv (c.length:Int)=d at hd ⊢;have w1:ae (x:Int)=(x:Int):=bf Bys;have w0:ae d=d:=bf Bys;have w2:ae (d*37)=d*37:=bf Bys;have w3:ae ((x:Int)+d*37)=(x:Int)+d*37:=bf Bys;by_cases XI:200 < n
 ·simp only[XI,aP,aM,w0,w1,w2,w3];have w4:ae (((x:Int)+d*37)*251)=((x:Int)+d*37)*251:=bf Bys;have w5:ae (y:Int)=(y:Int):=bf Bys;have w6:ae ((y:Int)*13)=(y:Int)*13:=bf Bys;have w7:ae (((x:Int)+d*37)*251+(y:Int)*13)=((x:Int)+d*37)*251+(y:Int)*13:=bf Bys;have w8:ae (((x:Int)+d*37)*251+(y:Int)*13+a)=((x:Int)+d*37)*251+(y:Int)*13+a:=bf Bys;simp only[w4,w5,w6,w7,w8];exact ⟨_,zk Bys hn,rfl⟩
 ·simp only[XI,aI,aE,w0,w1,w2,w3];exact ⟨_,zk Bys hn,rfl⟩
theorem Z6 {s:fl} {b n:Int} (h:kD s b) (hb:b<=1000000) (hn:1<=n) (Ig:n<=1000000):∃ v t,p6.ab (s,n,())=some (v,t,())/\kD t (b+1):=by
 obtain ⟨v,t,h1,_,_,h2⟩:=vK h hb hn Ig;refine ⟨decide (v=0),t,ag (k:=0) λk _=>(p6.af k _).trans ?_,h2⟩
 grind [p6.p]
theorem CN {s:fl} {b:Int} (h:kD s b) (hb:b<=1000000) (l:List Int) (hn:1<=l.length) (Ig:l.length<=1000000):∃ v t,di.ab (s,l,())=some (v,t,())/\v ∈ l/\kD t (b+1):=by
 obtain ⟨v,t,h1,h2,h3,h4⟩:=vK (n:=(l.length:Int)) h hb Bys Bys;have hi:v.toNat < l.length:=by omega
 refine ⟨l[v.toNat],t,ag (k:=0) λk _=>(di.af k _).trans ?_,aJ hi,h4⟩
 grind [di.p]
theorem Ov {α:Type} (l:List α) {v:Int} (h:0<=v/\v < (l.length:Int)):∃ x,l[v.toNat]?=some x/\x ∈ l:=by
 simp_all
theorem Z7 {m:Nat} (h:m<=1000):ae (((m+1:Nat):Int) - 1)=(m:Int):=by grind [bf]
theorem SS {X O V:Type} (M:Int) {B:(V->Option O)->V->Option O} (enc:fl->X->Int->V) (I:Int->X->Prop) (d:Int) (hd:0<=d) (G:fl->X->Option O)
  (gb:∀ (n:Nat) (s:fl) (x:X) (b:Int),n<=1000->kD s b->b<=M->I b x->∃ s' x',kD s' (b+d)/\I (b+d) x'/\∀ self,B self (enc s x ((n+1:Nat):Int))=self (enc s' x' (n:Int)))
  (qW:∀ (s:fl) (x:X) (b:Int),kD s b->I b x->∀ self,B self (enc s x 0)=G s x) :
  ∀ (n:Nat) (s:fl) (x:X) (b:Int),n<=1000->kD s b->I b x->b+d*n<=M->∃ s' x',kD s' (b+d*n)/\I (b+d*n) x'/\∀ k,n < k->ao B k (enc s x (n:Int))=G s' x'
 | 0,s,x,b,_,hs,hI,_=>⟨s,x,by simpa using hs,by simpa using hI,λk hk=>by
   obtain ⟨j,rfl⟩:∃ j,k=j+1:=⟨k - 1,by omega⟩
   grind [zO]⟩
 | n+1,s,x,b,hn,hs,hI,hb=>by
  have hm:d*((n+1:Nat):Int)=d+d*(n:Int):=by grind
  have hp:0<=d*(n:Int):=Int.mul_nonneg hd Bys;obtain ⟨s1,x1,a1,a2,a3⟩:=gb n s x b Bys hs Bys hI;obtain ⟨s2,x2,c1,c2,c3⟩:=SS M enc I d hd G gb qW n s1 x1 (b+d) Bys a1 a2 Bys;have e:b+d*((n+1:Nat):Int)=b+d+d*(n:Int):=by omega
  refine ⟨s2,x2,e ▸ c1,e ▸ c2,λk hk=>?_⟩
  obtain ⟨j,rfl⟩:∃ j,k=j+1:=⟨k - 1,by omega⟩
  grind [zO]
theorem adG {X O V:Type} (M:Int) {B:(V->Option O)->V->Option O} (enc:fl->X->Int->V) (I:Int->X->Prop) (d:Int) (hd:0<=d) (fin:fl->X->O)
  (gb:∀ (n:Nat) (s:fl) (x:X) (b:Int),n<=1000->kD s b->b<=M->I b x->∃ s' x',kD s' (b+d)/\I (b+d) x'/\∀ self,B self (enc s x ((n+1:Nat):Int))=self (enc s' x' (n:Int)))
  (qW:∀ (s:fl) (x:X) (b:Int),kD s b->I b x->∀ self,B self (enc s x 0)=some (fin s x)) (n:Nat) (s:fl) (x:X) (b:Int) (hn:n<=1000) (hs:kD s b) (hI:I b x) (hb:b+d*n<=M) :
  ∃ s' x',kD s' (b+d*n)/\I (b+d*n) x'/\∀ k,n < k->ao B k (enc s x (n:Int))=some (fin s' x'):=
 SS M enc I d hd (λs x=>some (fin s x)) gb qW n s x b hn hs hI hb
end OT
