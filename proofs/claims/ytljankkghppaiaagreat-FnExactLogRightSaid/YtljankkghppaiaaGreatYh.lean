/- The proof's parts, merged: The view of pages as the reference has it.. No conditions but those that each states. -/
import Derived.Test.YtljankkghppaiaaGreatYg
set_option linter.unusedVariables false
set_option linter.unusedSimpArgs false
namespace OT
open Go
abbrev kX:Type:=List (List UInt8)
def DM {α β:Type} (g:Nat->α->List β):Nat->List α->List β
 | _,[]=>[]
 | i,x::xs=>g i x++DM g (i+1) xs
theorem DN {O α β:Type} (g:Nat->α->List β) (fin:List β->O):∀ (xs:List α) (i:Nat) (s:List β),bn (fun i s x=>.inr (s++g i x)) fin i xs s=fin (s++DM g i xs)
 | [],_,s=>by simp[bn,DM]
 | x::xs,i,s=>by simp only[bn,DM];rw[DN g fin xs (i+1)];simp[bL]
theorem N7 {α β:Type} {g:Nat->α->List β} {n:Nat}:∀ (xs:List α) (i:Nat),(∀ i x,x ∈ xs->(g i x).length<=n)->(DM g i xs).length<=n*xs.length
 | [],_,_=>by simp[DM]
 | x::xs,i,h=>by
  have h1:=h i x bG;have h2:=N7 xs (i+1) fun i y hy=>h i y (aZ _ hy);simp only[DM,aS,aP,Nat.mul_add];omega
theorem N8 {α β:Type} {g:Nat->α->List β} {y:β}:∀ {xs:List α} {i:Nat},y ∈ DM g i xs↔∃ (j:Nat) (x:α),xs[j]?=some x/\y ∈ g (i+j) x
 | [],i=>by simp[DM]
 | x::xs,i=>by
  simp only[DM,cJ,N8 (xs:=xs)];constructor
  ·rintro (h | ⟨j,z,h1,h2⟩)
   ·exact ⟨0,x,rfl,h⟩
   ·exact ⟨j+1,z,h1,by rw[show i+(j+1)=i+1+j by omega];exact h2⟩
  ·rintro ⟨j,z,h1,h2⟩
   cases j with
   | zero=>injection h1 with h1;subst h1;exact .inl h2
   | succ j=>exact .inr ⟨j,z,h1,by rw[show i+1+j=i+(j+1) by omega];exact h2⟩
def it (x:a8):Int:=x.2.2.1.2.1
def pw (x:a8):Int:=x.2.2.1.2.2.1
def px (x:a8):Int:=x.2.2.1.2.2.2.1
def mR (x:a8):Row:=x.2.2.1.2.2.2.2.1
def rn (P:Nat) (p:List UInt8) (s:Nat):List a8:=if bu p s=0 then [] else [((P:Int),(s:Int),(ir (kU p s)).1,())]
def tL (P:Nat) (p:List UInt8):List a8:=(List.range (pn p)).flatMap (rn P p)
def cc (ps:kX):List a8:=DM tL 0 ps
def oW (ps:kX) (a b:Int):rF×Bool:=match ps[a.toNat]? with
 | some p=>if b.toNat < pn p/\bu p b.toNat≠0 then ir (kU p b.toNat) else (Et,false)
 | none=>(Et,false)
def vo (p:List UInt8) (s:Nat):Bool:=decide (bu p s=0)||(ir (kU p s)).2
def wI (p:List UInt8):Int:=if wH p=0 then (if (List.range (pn p)).all (vo p) then 0 else 5) else wH p
def rg (ps:kX) (x:a8):Bool:=!decide (it x=1)||((oW ps (pw x) (px x)).2&&decide ((oW ps (pw x) (px x)).1.2.1=2))
def wJ (x:a8):Option (Int×Int):=if it x=1 then some (pw x,px x) else none
def N9 (x:a8) (r:Row):a8:=(x.1,x.2.1,(x.2.2.1.1,x.2.2.1.2.1,x.2.2.1.2.2.1,x.2.2.1.2.2.2.1,r,x.2.2.1.2.2.2.2.2),x.2.2.2)
def yG (ps:kX) (x:a8):a8:=if it x=1 then N9 x (oW ps (pw x) (px x)).1.2.2.2.2.1 else x
def rS (ps:kX) (x:a8):List a8:=if it x=2 then [] else [yG ps x]
def pv (ps:kX):List a8:=(cc ps).flatMap (rS ps)
def Ce (ps:kX):Int:=
 if (cc ps).all (rg ps) then
  if ((cc ps).filterMap wJ).Nodup then (if ((pv ps).map fun x=>rk (mR x)).Nodup then 0 else 8) else 6
 else 4
def mN (ps:kX):Int:=if 12 < ps.length then 2 else if mU wI ps=0 then Ce ps else mU wI ps
def tD (ps:kX):Prop:=ps.length<=12/\∀ p ∈ ps,rR p
theorem Ha {p:List UInt8} (h:wI p=0):rR p/\∀ s,s < pn p->bu p s≠0->(ir (kU p s)).2=true:=by
 unfold wI at h;split at h
 ·rename_i h1;split at h
  ·rename_i h2;refine ⟨DI.1 h1,fun s hs hz=>?_⟩
   have:=cC.1 h2 s (dF.2 hs)
   simpa [vo,hz] using this
  ·cases h
 ·rename_i h1;exact absurd h h1
theorem wK {α:Type} {c:α->Int}:∀ {xs:List α},mU c xs=0->∀ x ∈ xs,c x=0
 | [],_,_,hx=>by cases hx
 | y::xs,h,x,hx=>by
  simp only[mU] at h;split at h
  ·rename_i hy;rcases aY.1 hx with rfl | hx
   ·exact hy
   ·exact wK h x hx
  ·rename_i hy;exact absurd h hy
theorem Cf {ps:kX} (h:mN ps=0):tD ps/\mU wI ps=0/\Ce ps=0:=by
 unfold mN at h;split at h
 ·cases h
 ·rename_i h1;split at h
  ·rename_i h2;exact ⟨⟨by omega,fun p hp=>(Ha (wK h2 p hp)).1⟩,h2,h⟩
  ·rename_i h2;exact absurd h h2
theorem AK {p:List UInt8} (h:rR p) (P:Nat):(tL P p).length<=16:=by
 have:∀ n,((List.range n).flatMap (rn P p)).length<=n:=by
  intro n
  induction n with
  | zero=>simp
  | succ n ih=>
   rw[List.range_succ,iX,aS]
   have:(([n]:List Nat).flatMap (rn P p)).length<=1:=by
    simp only[eL,List.flatMap_nil,cH,rn];split <;> simp
   omega
 have h1:=this (pn p);have h2:=h.n;unfold tL;omega
theorem Am {ps:kX} (h:tD ps):(cc ps).length<=192:=by
 have:=N7 (g:=tL) (n:=16) ps 0 fun i p hp=>AK (h.2 p hp) i;unfold cc;have:=h.1;omega
theorem Cg {ps:kX} (h:tD ps):(pv ps).length<=192:=by
 have:∀ xs:List a8,(xs.flatMap (rS ps)).length<=xs.length:=by
  intro xs
  induction xs with
  | nil=>simp
  | cons x xs ih=>
   have:(rS ps x).length<=1:=by unfold rS;split <;> simp
   simp only[eL,aS,aP];omega
 have h1:=this (cc ps);have h2:=Am h;unfold pv;omega
theorem LL (d:List UInt8):0<=(ir d).1.2.2.1/\0<=(ir d).1.2.2.2.1:=by
 unfold ir;split
 ·exact ⟨aK _,aK _⟩
 ·split
  ·exact ⟨gE _,gE _⟩
  ·exact ⟨gE _,gE _⟩
theorem zK {ps:kX} {x:a8}:x ∈ cc ps↔∃ (P:Nat) (p:List UInt8) (s:Nat),ps[P]?=some p/\s < pn p/\bu p s≠0/\x=((P:Int),(s:Int),(ir (kU p s)).1,()):=by
 unfold cc;rw[N8];constructor
 ·rintro ⟨j,p,h1,h2⟩;obtain ⟨s,h3,h4⟩:=eH.1 h2;unfold rn at h4;split at h4
  ·cases h4
  ·rename_i hz;rw[bU] at h4;rw[bE] at h4;exact ⟨j,p,s,h1,dF.1 h3,hz,h4⟩
 ·rintro ⟨P,p,s,h1,h2,h3,rfl⟩;refine ⟨P,p,h1,eH.2 ⟨s,dF.2 h2,?_⟩⟩
  unfold rn;rw[bA h3,bE];exact bU.2 rfl
theorem xt {ps:kX} {x:a8} (h:x ∈ cc ps):0<=pw x/\0<=px x:=by
 obtain ⟨P,p,s,_,_,_,rfl⟩:=zK.1 h;exact LL _
theorem DO (ps:kX) (h:tD ps):eh.aa (ps,())=some (cc ps,()):=by
 obtain ⟨hl,hp⟩:=h;refine ah (k:=100) fun k hk=>(eh.ae k _).trans ?_
 have inner:∀ (self:(kX×(List a8)×Int)->Option eh.Out) (e0:(List a8)->Option eh.Out) (i:Nat) (hi:i < ps.length) (s:List a8),s.length<=1000->eh.r1 k self e0 (ps,()) ps (i:Int) (s,(0:Int))=self (ps,s++tL i ps[i],af ((i:Int)+1)):=fun self e0 i hi s0 hs0=>by
  have bc:=hp _ (aQ hi);have hn:=bc.n;have hlen:=bc.len
  have:=yF (B:=fun fl v=>eh.b1 fl (fun z=>eh.q0 self e0 (ps,()) ps (i:Int) z) (ps,()) ps (i:Int) v) (pn ps[i]) (fun (s:List a8) (j:Int)=>(s,j)) (fun j s=>.inr (s++rn i ps[i] j)) (fun s=>self (ps,s,af ((i:Int)+1))) (fun j s=>s.length<=1000+j) (by omega)
   (fun j hj s fl hI=>by
    show eh.b1 _ _ _ _ _ _=_;unfold eh.b1 rn;have aj:(j:Int) < (pn ps[i]:Int):=by omega
    simp only[aK,aI,aH,aA hi,aB,vW hlen,aj,aC,aJ,uw hlen (show j < 16 by omega)];by_cases hz:bu ps[i] j=0
    ·have:¬ ((0:Int) < (bu ps[i] j:Int)):=by omega
     rw[cA this];simp only[aE,hz,aI,cH]
    ·have:((0:Int) < (bu ps[i] j:Int)):=by omega
     rw[cG this];simp only[aJ,xZ bc hj,zJ _ (bJ (vn bc hj) (by omega)),aB,hz,aL]
     rw[aU (da (by simp only[aP,bB];omega))])
   (fun j hj s s' hI hf=>by
    injection hf with hf;subst hf;have:(rn i ps[i] j).length<=1:=by unfold rn;split <;> simp
    rw[aS];omega) (fun s fl hI=>by
    show eh.b1 _ _ _ _ _ _=_;unfold eh.b1;simp only[aK,aI,aH,aA hi,aB,vW hlen,bC,aD,aE]
    rfl) s0 (by omega) k (by omega)
  rw[Cc (rn i ps[i])] at this;exact this
 have:=eb (B:=fun self v=>eh.B0 k self (fun z=>eh.q1 (ps,()) z) (ps,()) v) ps (fun (s:List a8) (i:Int)=>(ps,s,i)) (fun i s p=>.inr (s++tL i p)) (fun s=>some (s,())) (fun i s=>s.length<=16*i) (by rw[ai];omega)
  (fun i hi s self hI=>by
   show eh.b0 _ _ _ _ _=_;unfold eh.b0;have aj:(i:Int) < (ps.length:Int):=by omega
   simp only[aj,aC,aJ,inner self _ i hi s (by omega)])
  (fun i hi s s' hI hf=>by
   injection hf with hf;subst hf;have:=AK (hp _ (aQ hi)) i
   rw[aS];omega) (fun s self _=>by
   show eh.b0 _ _ _ _ _=_;unfold eh.b0;simp only[bC,aD,aE]
   rfl) [] (by simp) k (by omega)
 rw[DN] at this;exact this
theorem LM (ps:kX) (hl:ps.length<=12) (hp:∀ p ∈ ps,p.length<=maxLen):fq.aa (ps,())=some (mU wI ps,()):=by
 refine ah (k:=100) fun k hk=>(fq.ae k _).trans ?_
 have inner:∀ (self:(kX×Int)->Option fq.Out) (e0:Unit->Option fq.Out) (i:Nat) (hi:i < ps.length),rR ps[i]->fq.r1 k self e0 (ps,()) ps (i:Int) (0:Int)=if (List.range (pn ps[i])).all (vo ps[i]) then self (ps,af ((i:Int)+1)) else some ((5:Int),()):=fun self e0 i hi bc=>by
  have hn:=bc.n;have hlen:=bc.len
  have:=yF (B:=fun fl v=>fq.b1 fl (fun z=>fq.q0 self e0 (ps,()) ps (i:Int) z) (ps,()) ps (i:Int) v) (pn ps[i]) (fun (_:Unit) (j:Int)=>j) (fun j _=>if vo ps[i] j then .inr () else .inl (some ((5:Int),()))) (fun s=>self (ps,af ((i:Int)+1))) (fun _ _=>True) (by omega)
   (fun j hj s fl hI=>by
    show fq.b1 _ _ _ _ _ _=_;unfold fq.b1 vo;have aj:(j:Int) < (pn ps[i]:Int):=by omega
    simp only[aK,aI,aH,aA hi,aB,vW hlen,aj,aC,aJ,uw hlen (show j < 16 by omega)];by_cases hz:bu ps[i] j=0
    ·have:¬ ((0:Int) < (bu ps[i] j:Int)):=by omega
     rw[cA this];simp only[aE,hz,aC,fO,aI]
    ·have:((0:Int) < (bu ps[i] j:Int)):=by omega
     rw[cG this];simp only[aJ,xZ bc hj,zJ _ (bJ (vn bc hj) (by omega)),aB,hz,aD,dX]
     cases (ir (kU ps[i] j)).2 <;> rfl)
   (fun _ _ _ _ _ _=>trivial) (fun s fl hI=>by
    show fq.b1 _ _ _ _ _ _=_;unfold fq.b1;simp only[aK,aI,aH,aA hi,aB,vW hlen,bC,aD,aE]
    rfl) () trivial k (by omega)
  rw[tK] at this;exact this
 have:=eb (B:=fun self v=>fq.B0 k self (fun z=>fq.q1 (ps,()) z) (ps,()) v) ps (fun (_:Unit) (i:Int)=>(ps,i)) (fun i _ p=>if wI p=0 then .inr () else .inl (some (wI p,()))) (fun _=>some ((0:Int),())) (fun _ _=>True) (by rw[ai];omega)
  (fun i hi s self hI=>by
   show fq.b0 _ _ _ _ _=_;unfold fq.b0 wI;have aj:(i:Int) < (ps.length:Int):=by omega
   simp only[aj,aC,aJ,aK,aI,aH,aA hi,aB,MV _ (hp _ (aQ hi))];by_cases h0:wH ps[i]=0
   ·rw[cG h0];simp only[aO,aE,inner self _ i hi (DI.1 h0),h0,aI];by_cases hc:(List.range (pn ps[i])).all (vo ps[i])=true
    ·simp only[hc,aI]
    ·simp only[hc,aG,aL];rfl
   ·rw[cA h0]
    simp only[aV,aJ,h0,aL])
  (fun _ _ _ _ _ _=>trivial) (fun s self _=>by
   show fq.b0 _ _ _ _ _=_;unfold fq.b0;simp only[bC,aD,aE]
   rfl) () trivial k (by omega)
 rw[uH wI (fun c=>some (c,())) (fun _=>some ((0:Int),()))] at this;refine aX this ?_;split
 ·rename_i h;rw[h]
 ·rfl
theorem DP (ps:kX) (h:tD ps) (a b:Int) (ha:0<=a) (hb:0<=b):mP.aa (ps,a,b,())=some ((oW ps a b).1,(oW ps a b).2,()):=by
 obtain ⟨hl,hp⟩:=h;obtain ⟨a,rfl⟩:=dJ ha;obtain ⟨b,rfl⟩:=dJ hb;refine ah (k:=0) fun k hk=>(mP.ae k _).trans ?_;show mP.p _=_;unfold mP.p oW;have hw:af ((ps.length:Int) - 1)=(ps.length:Int) - 1:=bt (by omega);have h0:decide ((0:Int)<=(a:Int))=true:=cG (by omega);have h1:decide ((a:Int)<=(ps.length:Int) - 1)=decide (a < ps.length):=by rw[cK];omega
 simp only[nq,hw,h0,h1,aB,eG,aH];by_cases VM:a < ps.length;rotate_left
 ·rw[cA VM,cW (by omega)];rfl
 rw[cG VM];have bc:=hp _ (aQ VM);simp only[aO,aE,aK,aI,aA VM,aB,PW bc];by_cases hc:b < pn ps[a]/\bu ps[a] b≠0
 ·rw[cG hc.1,cA hc.2,aU hc];simp only[aV,fX,aO,aE,xZ bc hc.1,zJ _ (bJ (vn bc hc.1) (by omega)),aB]
 ·rw[bA hc]
  have:(decide (b < pn ps[a])&&!decide (bu ps[a] b=0))=false:=by
   rw[gK];by_cases h2:b < pn ps[a]
   ·right
    have:bu ps[a] b=0:=by
     by_cases h3:bu ps[a] b=0
     ·exact h3
     ·exact absurd ⟨h2,h3⟩ hc
    rw[cG this];rfl
   ·left;exact cA h2
  rw[this];rfl
theorem LN (ps:kX) (h:tD ps):de.aa (cc ps,ps,())=some (if (cc ps).all (rg ps) then (if ((cc ps).filterMap wJ).Nodup then 0 else 6) else 4,()):=by
 have oq:=Am h;have DK:∀ x ∈ cc ps,0<=pw x/\0<=px x:=fun x hx=>xt hx;generalize cc ps=xs at oq DK ⊢;refine ah (k:=300) fun k hk=>(de.ae k _).trans ?_
 have inner:∀ (self:(List a8×Int)->Option de.Out) (e2:Unit->Option de.Out) (i:Nat) (hi:i < xs.length),de.r2 k self e2 (xs,ps,()) xs (i:Int) (0:Int)=if (xs.take i).any (fun y=>decide (it xs[i]=1)&&(decide (it y=1)&&(decide (pw xs[i]=pw y)&&decide (px xs[i]=px y)))) then some ((6:Int),()) else self (xs,af ((i:Int)+1)):=fun self e2 i hi=>by
  have kS:(xs.take i).length=i:=by rw[bQ];omega
  have:=eb (B:=fun fl v=>de.b2 fl (fun z=>de.q1 self e2 (xs,ps,()) xs (i:Int) z) (xs,ps,()) xs (i:Int) v) (xs.take i) (fun (_:Unit) (j:Int)=>j) (fun _ _ y=>if decide (it xs[i]=1)&&(decide (it y=1)&&(decide (pw xs[i]=pw y)&&decide (px xs[i]=px y))) then .inl (some ((6:Int),())) else .inr ()) (fun _=>self (xs,af ((i:Int)+1))) (fun _ _=>True) (by rw[ai];omega)
   (fun j hj s fl _=>by
    have mZ:j < i:=by omega
    have Rk:j < xs.length:=by omega
    show de.b2 _ _ _ _ _ _=_;unfold de.b2;have aj:(j:Int) < (i:Int):=by omega
    have hg:(xs.take i)[j]=xs[j]:=gP;rw[hg];simp only[aj,aC,aJ,aK,aI,aH,aA hi,aA Rk,aB];show (bif decide (it xs[i]=1) then bif decide (it xs[j]=1) then bif decide (pw xs[i]=pw xs[j]) then bif decide (px xs[i]=px xs[j]) then _ else _ else _ else _ else _)=_
    cases decide (it xs[i]=1) <;> cases decide (it xs[j]=1) <;> cases decide (pw xs[i]=pw xs[j]) <;> cases decide (px xs[i]=px xs[j]) <;> rfl)
   (fun _ _ _ _ _ _=>trivial) (fun s fl _=>by
    rw[kS];show de.b2 _ _ _ _ _ _=_;unfold de.b2;simp only[bC,aD,aE]
    rfl) () trivial k (by omega)
  rw[xh] at this;exact this
 have second:de.r1 k (xs,ps,()) (xs,(0:Int))=if (xs.filterMap wJ).Nodup then some ((0:Int),()) else some ((6:Int),()):=by
  have:=eb (B:=fun self v=>de.B1 k self (fun z=>de.q2 (xs,ps,()) z) (xs,ps,()) v) xs (fun (_:Unit) (i:Int)=>(xs,i)) (fun i _ x=>if (xs.take i).any (fun y=>decide (it x=1)&&(decide (it y=1)&&(decide (pw x=pw y)&&decide (px x=px y)))) then .inl (some ((6:Int),())) else .inr ()) (fun _=>some ((0:Int),())) (fun _ _=>True) (by rw[ai];omega)
   (fun i hi s self _=>by
    show de.b1 _ _ _ _ _=_;unfold de.b1;have aj:(i:Int) < (xs.length:Int):=by omega
    simp only[aj,aC,aJ,inner self _ i hi]
    split <;> rfl)
   (fun _ _ _ _ _ _=>trivial) (fun s self _=>by
    show de.b1 _ _ _ _ _=_;unfold de.b1;simp only[bC,aD,aE]
    rfl) () trivial k (by omega)
  rw[DL wJ (some ((6:Int),())) (fun _=>some ((0:Int),())) (fun x y=>decide (it x=1)&&(decide (it y=1)&&(decide (pw x=pw y)&&decide (px x=px y)))) (fun x y=>?_) xs] at this
  ·exact this
  ·unfold wJ;simp only[aF,bO];constructor
   ·rintro ⟨h1,h2,h3,h4⟩;exact ⟨(pw x,px x),by rw[aU h1],by rw[aU h2,h3,h4]⟩
   ·rintro ⟨b,h1,h2⟩;by_cases c1:it x=1
    ·by_cases c2:it y=1
     ·rw[aU c1] at h1;rw[aU c2] at h2;injection h1 with h1;injection h2 with h2;rw[<-h2] at h1;injection h1 with h3 h4;exact ⟨c1,c2,h3,h4⟩
     ·rw[bA c2] at h2;cases h2
    ·rw[bA c1] at h1;cases h1
 have:=eb (B:=fun self v=>de.b0 self (fun z=>de.Q0 k (xs,ps,()) z) (xs,ps,()) v) xs (fun (_:Unit) (i:Int)=>i) (fun i _ x=>if rg ps x then .inr () else .inl (some ((4:Int),()))) (fun _=>de.r1 k (xs,ps,()) (xs,(0:Int))) (fun _ _=>True) (by rw[ai];omega)
  (fun i hi s self _=>by
   show de.b0 _ _ _ _=_;unfold de.b0 rg;have aj:(i:Int) < (xs.length:Int):=by omega
   obtain ⟨g1,g2⟩:=DK _ (aQ hi);have GN:mP.aa (ps,(xs[i]).2.2.1.2.2.1,(xs[i]).2.2.1.2.2.2.1,())=some ((oW ps (pw xs[i]) (px xs[i])).1,(oW ps (pw xs[i]) (px xs[i])).2,()):=DP ps h _ _ g1 g2;simp only[aj,aC,aJ,aK,aI,aH,aA hi,aB,GN];show (bif !decide (it xs[i]=1) then _ else _)=_
   cases decide (it xs[i]=1) <;> cases (oW ps (pw xs[i]) (px xs[i])).2 <;> cases decide ((oW ps (pw xs[i]) (px xs[i])).1.2.1=2) <;> rfl)
  (fun _ _ _ _ _ _=>trivial) (fun s self _=>by
   show de.b0 _ _ _ _=_;unfold de.b0;simp only[bC,aD,aE]
   rfl) () trivial k (by omega)
 rw[rE (rg ps) (some ((4:Int),())) (fun _=>de.r1 k (xs,ps,()) (xs,(0:Int)))] at this;refine aX this ?_;rw[second];split
 ·split <;> rfl
 ·rfl
theorem EM (ps:kX) (h:tD ps):kR.aa (ps,())=some (pv ps,()):=by
 refine ah (k:=300) fun k hk=>(kR.ae k _).trans ?_;unfold kR.p;rw[DO ps h];simp only[aB];have oq:=Am h;have DK:∀ x ∈ cc ps,0<=pw x/\0<=px x:=fun x hx=>xt hx;unfold pv;generalize cc ps=xs at oq DK ⊢
 have:=eb (B:=fun self v=>kR.b0 self (fun z=>kR.q0 (ps,()) xs z) (ps,()) xs v) xs (fun (s:List a8) (i:Int)=>(s,i)) (fun i s x=>.inr (s++rS ps x)) (fun s=>some (s,())) (fun i s=>s.length<=i) (by rw[ai];omega)
  (fun i hi s self hI=>by
   show kR.b0 _ _ _ _ _=_;unfold kR.b0 rS;have aj:(i:Int) < (xs.length:Int):=by omega
   obtain ⟨g1,g2⟩:=DK _ (aQ hi);have GN:mP.aa (ps,(xs[i]).2.2.1.2.2.1,(xs[i]).2.2.1.2.2.2.1,())=some ((oW ps (pw xs[i]) (px xs[i])).1,(oW ps (pw xs[i]) (px xs[i])).2,()):=DP ps h _ _ g1 g2;have k_:∀ y:a8,s.length+[y].length<=bz:=fun y=>da (by simp only[aP,bB];omega);simp only[aj,aC,aJ,aK,cU,aI,aH,aA hi,aB,GN,k_];show (bif decide (it xs[i]=2) then _ else bif decide (it xs[i]=1) then _ else _)=_;unfold yG;by_cases c2:it xs[i]=2
   ·simp only[c2,aC,aJ,aI,cH]
   ·by_cases c1:it xs[i]=1
    ·simp only[c1,c2,aC,aD,aJ,aE,aI,aL];rfl
    ·simp only[c1,c2,aD,aE,aL])
  (fun i hi s s' hI hf=>by
   injection hf with hf;subst hf;have:(rS ps xs[i]).length<=1:=by unfold rS;split <;> simp
   rw[aS];omega) (fun s self _=>by
   show kR.b0 _ _ _ _ _=_;unfold kR.b0;simp only[bC,aD,aE]
   rfl) [] (by simp) k (by omega)
 rw[Cc (rS ps)] at this;exact this
def PY (x:a8):Option (Int×Int):=some (rk (mR x))
theorem AL (ps:kX) (hp:∀ p ∈ ps,p.length<=maxLen):di.aa (ps,())=some (mN ps,()):=by
 refine ah (k:=300) fun k hk=>(di.ae k _).trans ?_;unfold di.p mN;by_cases hl:12 < ps.length
 ·have:(12:Int) < (ps.length:Int):=by omega
  simp only[this,aC,aJ,hl,aI]
 have nH:¬ ((12:Int) < (ps.length:Int)):=by omega
 simp only[nH,aD,aE,hl,aL,LM ps (by omega) hp,aB];by_cases hc:mU wI ps=0;rotate_left
 ·simp only[hc,aD,aV,aJ,aL]
 have h:tD ps:=⟨by omega,fun p hp=>(Ha (wK hc p hp)).1⟩
 simp only[hc,aC,aO,aE,aI,DO ps h,LN ps h,EM ps h,aB];unfold Ce;by_cases h1:(cc ps).all (rg ps)=true;rotate_left
 ·simp only[h1,aG,aL];rfl
 by_cases h2:((cc ps).filterMap wJ).Nodup;rotate_left
 ·simp only[h1,h2,aI,aL];rfl
 simp only[h1,h2,aI,aC,aO,aE];have oq:=Cg h;generalize pv ps=xs at oq ⊢
 have inner:∀ (self:(List a8×Int)->Option di.Out) (e0:Unit->Option di.Out) (i:Nat) (hi:i < xs.length),di.r1 k self e0 (ps,()) xs (i:Int) (0:Int)=if (xs.take i).any (fun y=>decide ((mR xs[i]).1=(mR y).1)&&decide ((mR xs[i]).2.1=(mR y).2.1)) then some ((8:Int),()) else self (xs,af ((i:Int)+1)):=fun self e0 i hi=>by
  have kS:(xs.take i).length=i:=by rw[bQ];omega
  have:=eb (B:=fun fl v=>di.b1 fl (fun z=>di.q0 self e0 (ps,()) xs (i:Int) z) (ps,()) xs (i:Int) v) (xs.take i) (fun (_:Unit) (j:Int)=>j) (fun _ _ y=>if decide ((mR xs[i]).1=(mR y).1)&&decide ((mR xs[i]).2.1=(mR y).2.1) then .inl (some ((8:Int),())) else .inr ()) (fun _=>self (xs,af ((i:Int)+1))) (fun _ _=>True) (by rw[ai];omega)
   (fun j hj s fl _=>by
    have mZ:j < i:=by omega
    have Rk:j < xs.length:=by omega
    show di.b1 _ _ _ _ _ _=_;unfold di.b1;have aj:(j:Int) < (i:Int):=by omega
    have aa5:(i:Int) < (xs.length:Int):=by omega
    have ru:(j:Int) < (xs.length:Int):=by omega
    have hg:(xs.take i)[j]=xs[j]:=gP;rw[hg];simp only[aj,aa5,ru,aC,aJ,aK,cU,aI,aH,aA hi,aA Rk,aB];show (bif decide ((mR xs[i]).1=(mR xs[j]).1) then bif decide ((mR xs[i]).2.1=(mR xs[j]).2.1) then _ else _ else _)=_
    cases decide ((mR xs[i]).1=(mR xs[j]).1) <;> cases decide ((mR xs[i]).2.1=(mR xs[j]).2.1) <;> rfl)
   (fun _ _ _ _ _ _=>trivial) (fun s fl _=>by
    rw[kS];show di.b1 _ _ _ _ _ _=_;unfold di.b1;simp only[bC,aD,aE]
    rfl) () trivial k (by omega)
  rw[xh] at this;exact this
 have:=eb (B:=fun self v=>di.B0 k self (fun z=>di.q1 (ps,()) z) (ps,()) v) xs (fun (_:Unit) (i:Int)=>(xs,i)) (fun i _ x=>if (xs.take i).any (fun y=>decide ((mR x).1=(mR y).1)&&decide ((mR x).2.1=(mR y).2.1)) then .inl (some ((8:Int),())) else .inr ()) (fun _=>some ((0:Int),())) (fun _ _=>True) (by rw[ai];omega)
  (fun i hi s self _=>by
   show di.b0 _ _ _ _ _=_;unfold di.b0;have aj:(i:Int) < (xs.length:Int):=by omega
   simp only[aj,aC,aJ,inner self _ i hi]
   split <;> rfl)
  (fun _ _ _ _ _ _=>trivial) (fun s self _=>by
   show di.b0 _ _ _ _ _=_;unfold di.b0;simp only[bC,aD,aE]
   rfl) () trivial k (by omega)
 rw[DL PY (some ((8:Int),())) (fun _=>some ((0:Int),())) (fun x y=>decide ((mR x).1=(mR y).1)&&decide ((mR x).2.1=(mR y).2.1)) (fun x y=>?_) xs] at this
 ·refine aX this ?_
  have:xs.filterMap PY=xs.map fun x=>rk (mR x):=by
   unfold PY;rw[<-List.filterMap_eq_map];rfl
  rw[this];split <;> rfl
 ·unfold PY rk;simp only[aF,bO];constructor
  ·rintro ⟨h1,h2⟩;exact ⟨_,rfl,by rw[h1,h2]⟩
  ·rintro ⟨b,h1,h2⟩;injection h1 with h1;injection h2 with h2;rw[<-h2] at h1;injection h1 with h3 h4;exact ⟨h3,h4⟩
end OT
namespace OT
open Go Go.Sort
abbrev wL:Ty:=.arr 2 i64
theorem Ba (a b c d:Int):Ty.eq wL [a,b] [c,d]=(decide (a=c)&&decide (b=d)):=by
 show ([(a,c),(b,d)]:List (Int×Int)).all (fun p=>Ty.eq i64 p.1 p.2)=_;simp only[eF,List.all_nil,Bool.and_true];rfl
theorem FJ (a b:Int):((List.replicate 2 (0:Int)).set 0 a).set 1 b=[a,b]:=rfl
theorem DQ {α:Type} (k:Ty) (m:List (k.den×α)) (x:k.den) (y:α) (h:∀ e ∈ m,k.eq x e.1=false):nP k m x y=m++[(x,y)]:=by
 have:m.findIdx? (fun e=>k.eq x e.1)=none:=by
  rw[gY];exact h
 unfold nP;rw[this]
def gy (x:a8):List Seen:=if it x=0 then [(mR x,x.1,x.2.1,false,x.1,x.2.1,())] else []
def ek (x:a8):List Seen:=if it x=1 then [(AJ,x.1,x.2.1,true,pw x,px x,())] else []
def lu (x:a8):List (List Int×Row):=if it x=2 then [([x.1,x.2.1],mR x)] else []
theorem Ch (d:List UInt8):(ir d).2=true->(ir d).1.1=0/\((ir d).1.2.1=0\/(ir d).1.2.1=1\/(ir d).1.2.1=2):=by
 unfold ir;split
 ·intro _;exact ⟨rfl,.inr (.inl rfl)⟩
 ·split
  ·intro h;cases h
  ·rename_i h;intro _;refine ⟨rfl,?_⟩
   show ((pb d 0:Int)=0\/(pb d 0:Int)=1\/(pb d 0:Int)=2);omega
def yS (ps:kX):Prop:=tD ps/\∀ p ∈ ps,∀ s,s < pn p->bu p s≠0->(ir (kU p s)).2=true
theorem LO {ps:kX} (hl:ps.length<=12) (h:mU wI ps=0):yS ps:=
 ⟨⟨hl,fun p hp=>(Ha (wK h p hp)).1⟩,fun p hp=>(Ha (wK h p hp)).2⟩
theorem So {ps:kX} (h:yS ps) {x:a8} (hx:x ∈ cc ps):it x=0\/it x=1\/it x=2:=by
 obtain ⟨P,p,s,h1,h2,h3,rfl⟩:=zK.1 hx;exact (Ch _ (h.2 p (cB h1) s h2 h3)).2
theorem Hc (S:List a8):(S.flatMap gy).length<=S.length/\(S.flatMap ek).length<=S.length:=by
 induction S with
 | nil=>exact ⟨aN _,aN _⟩
 | cons x S ih=>
  have h1:(gy x).length<=1:=by unfold gy;split <;> simp
  have h2:(ek x).length<=1:=by unfold ek;split <;> simp
  simp only[eL,aS,aP];omega
theorem N_ {ps:kX} (h:yS ps) (a b:Int) (ha:0<=a) (hb:0<=b):jm wL ((cc ps).flatMap lu) [a,b]=if (oW ps a b).2&&decide ((oW ps a b).1.2.1=2) then some (oW ps a b).1.2.2.2.2.1 else none:=by
 obtain ⟨a,rfl⟩:=dJ ha;obtain ⟨b,rfl⟩:=dJ hb;unfold jm
 have at_:∀ x ∈ cc ps,x.1=(a:Int)->x.2.1=(b:Int)->oW ps (a:Int) (b:Int)=(x.2.2.1,true):=fun x hx e1 e2=>by
  obtain ⟨P,p,s,h1,h2,h3,rfl⟩:=zK.1 hx;have e1:(P:Int)=(a:Int):=e1;have e2:(s:Int)=(b:Int):=e2;have e1:P=a:=by omega
  have e2:s=b:=by omega
  subst e1;subst e2;unfold oW;simp only[aH,h1];rw[aU ⟨h2,h3⟩];have:=h.2 p (cB h1) s h2 h3;rw[<-this]
 cases hf:((cc ps).flatMap lu).find? (fun e=>Ty.eq wL [(a:Int),(b:Int)] e.1) with
 | some e=>
  have hm:=List.mem_of_find?_eq_some hf;have hp:=List.find?_some hf;obtain ⟨x,hx,II⟩:=eH.1 hm;unfold lu at II;split at II
  ·rename_i h2;rw[bU] at II;subst II;rw[Ba,aF,bO,bO] at hp;have hg:=at_ x hx hp.1.symm hp.2.symm;rw[hg];have:(x.2.2.1).2.1=2:=h2;simp only[this,aC,fX,aI,cD];rfl
  ·cases II
 | none=>
  rw[bA]
  ·rfl
  ·intro hc;rw[aF,bO] at hc;obtain ⟨c1,c2⟩:=hc
   have:∃ x ∈ cc ps,x.1=(a:Int)/\x.2.1=(b:Int)/\it x=2:=by
    unfold oW at c1 c2;simp only[aH] at c1 c2
    cases Yw:ps[a]? with
    | none=>rw[Yw] at c1;cases c1
    | some p=>
     rw[Yw] at c1 c2;simp only at c1 c2;by_cases hc:b < pn p/\bu p b≠0
     ·rw[aU hc] at c2;exact ⟨_,zK.2 ⟨a,p,b,Yw,hc.1,hc.2,rfl⟩,rfl,rfl,c2⟩
     ·rw[bA hc] at c1;cases c1
   obtain ⟨x,hx,e1,e2,e3⟩:=this;have hm:([x.1,x.2.1],mR x) ∈ (cc ps).flatMap lu:=eH.2 ⟨x,hx,by unfold lu;rw[aU e3];exact bU.2 rfl⟩;have:=List.find?_eq_none.1 hf _ hm;rw[Ba,e1,e2] at this;simp at this
def wM (x:a8):Seen:=(mR x,x.1,x.2.1,decide (it x=1),(if it x=1 then pw x else x.1),(if it x=1 then px x else x.2.1),())
def wN (ps:kX) (y:Seen):Seen:=(yY (jm wL ((cc ps).flatMap lu) [y.2.2.2.2.1,y.2.2.2.2.2.1]) AJ,y.2)
def Eu (ps:kX):List Seen:=(cc ps).flatMap gy++((cc ps).flatMap ek).map (wN ps)
theorem PZ {ps:kX} (h:yS ps) (hs:(cc ps).all (rg ps)=true):(Eu ps).Perm ((pv ps).map wM):=by
 unfold Eu pv;have pD:=cC.1 hs;have I0:∀ x ∈ cc ps,it x=0\/it x=1\/it x=2:=fun x hx=>So h hx;have DK:∀ x ∈ cc ps,0<=pw x/\0<=px x:=fun x hx=>xt hx
 have key:∀ S:List a8,(∀ x ∈ S,x ∈ cc ps)->(S.flatMap gy++(S.flatMap ek).map (wN ps)).Perm ((S.flatMap (rS ps)).map wM):=by
  intro S
  induction S with
  | nil=>intro _;exact gU _
  | cons x S ih=>
   intro hS;have ih:=ih fun y hy=>hS y (aZ _ hy);have hx:=hS x bG;simp only[eL,gJ];rcases I0 x hx with h0 | h1 | h2
   ·have e1:gy x=[wM (yG ps x)]:=by
     unfold gy wM yG;have n1:¬ it x=1:=by omega
     rw[aU h0,bA n1,bA n1,bA n1,cA n1]
    have e2:ek x=[]:=by unfold ek;rw[bA (by omega)]
    have e3:rS ps x=[yG ps x]:=by unfold rS;rw[bA (by omega)]
    rw[e1,e2,e3];simp only[fS,bP,cR,cO];exact List.Perm.cons _ ih
   ·have e1:gy x=[]:=by unfold gy;rw[bA (by omega)]
    have e3:rS ps x=[yG ps x]:=by unfold rS;rw[bA (by omega)]
    have e2:(ek x).map (wN ps)=[wM (yG ps x)]:=by
     unfold ek;rw[aU h1];simp only[cR,fS];obtain ⟨g1,g2⟩:=DK x hx;have c6:=pD x hx;unfold rg at c6;rw[cG h1] at c6;simp only[aO,dX] at c6;have hg:=N_ h (pw x) (px x) g1 g2;rw[aU c6] at hg;unfold wN;simp only[hg,yY];unfold yG;rw[aU h1];have Ul:it (N9 x (oW ps (pw x) (px x)).1.2.2.2.2.1)=1:=h1;unfold wM;rw[aU Ul,aU Ul,cG Ul];rfl
    rw[e1,e2,e3];simp only[bP,cR,fS,cO];exact (gC).trans (List.Perm.cons _ ih)
   ·have e1:gy x=[]:=by unfold gy;rw[bA (by omega)]
    have e2:ek x=[]:=by unfold ek;rw[bA (by omega)]
    have e3:rS ps x=[]:=by unfold rS;rw[aU h2]
    rw[e1,e2,e3]
    simpa using ih
 exact key (cc ps) fun x hx=>hx
def ym (x y:Seen):Bool:=bi (rk x.1) (rk y.1)
def Oa (x y:Seen):Int:=if bi (x.1.1,x.1.2.1) (y.1.1,y.1.2.1) then -1 else if bi (y.1.1,y.1.2.1) (x.1.1,x.1.2.1) then 1 else 0
theorem Sp:Go.Proofs.ltOf Oa=ym:=by
 funext x y;exact R7 x.1 y.1
theorem Um (x y:Seen):oF.aa (x,y,())=some (Oa x y,()):=by
 refine ah (k:=0) fun k hk=>(oF.ae k _).trans ?_;show oF.p _=_;unfold oF.p;rw[sY];rfl
theorem aa6:SWO ym where
 irrefl x:=jU _
 trans x y z h1 h2:=oV h1 h2
 ntrans x y z h1 h2:=by
  cases h3:ym x z with
  | false=>rfl
  | true=>
   unfold ym at h1 h2 h3
   cases h4:bi (rk y.1) (rk x.1) with
   | true=>
    have:=oV h4 h3;rw[this] at h2;cases h2
   | false=>
    have:=r_ h1 h4;rw[this] at h3;rw[h3] at h2;cases h2
def DR (xs:List Seen) (x:Seen):List Seen:=xs.take (pos (xs.map (·.1)) (rk x.1))++[x]++xs.drop (pos (xs.map (·.1)) (rk x.1))
def Ci (l:List Seen):List Seen:=l.foldl DR []
theorem Un (xs:List Seen) (x:Seen):(DR xs x).map (·.1)=my (xs.map (·.1)) x.1:=by
 unfold DR my;simp only[gJ,List.map_take,List.map_drop,cR,fS]
theorem Sq (xs:List Seen) (x:Seen):(DR xs x).Perm (x::xs):=by
 unfold DR;rw[bL];have:=gC (a:=x) (l₁:=xs.take (pos (xs.map (·.1)) (rk x.1))) (l₂:=xs.drop (pos (xs.map (·.1)) (rk x.1)));rw[cQ] at this;exact this
theorem I1 (l:List Seen):(Ci l).map (·.1)=G9 (l.map (·.1)):=by
 have main:∀ (l acc:List Seen),(l.foldl DR acc).map (·.1)=(l.map (·.1)).foldl my (acc.map (·.1)):=by
  intro l
  induction l with
  | nil=>intro acc;rfl
  | cons x l ih=>intro acc;simp only[eE,cR,ih,Un]
 exact main l []
theorem Hd (l:List Seen):(Ci l).Perm l:=by
 have main:∀ (l acc:List Seen),(l.foldl DR acc).Perm (l++acc):=by
  intro l
  induction l with
  | nil=>intro acc;exact gU _
  | cons x l ih=>
   intro acc;exact (ih (DR acc x)).trans (((gU l).append (Sq acc x)).trans gC)
 have:=main l [];rw[cH] at this;exact this
def I2 (xs:List Seen):Prop:=xs.Pairwise fun x y=>ym x y=true
theorem Ob {xs:List Seen}:I2 xs↔up (xs.map (·.1)):=by
 unfold I2 up;rw[gQ];rfl
theorem LP {l r:List Seen} (hp:r.Perm l) (hr:I2 r) (hn:(l.map fun x=>rk x.1).Nodup):r=Ci l:=by
 refine CP (lt:=fun x y=>ym x y=true) (fun a b h=>Uj h) r (Ci l) (hp.trans (Hd l).symm) hr (Ob.2 ?_);rw[I1];refine LK ?_;rw[iJ];exact hn
theorem Sr {r:List Seen} (h:I2 r):(r.map fun x=>rk x.1).Nodup:=by
 have:=Uk (Ob.1 h);rw[iJ] at this;exact this
def AM:List Seen->Bool
 | x::y::l=>ym x y&&AM (y::l)
 | _=>true
theorem Ss:∀ (l:List Seen),AM l=true->I2 l
 | [],_=>List.Pairwise.nil
 | [x],_=>gA _ _
 | x::y::l,h=>by
  simp only[AM,aF] at h;have ih:=Ss (y::l) h.2;refine eB.2 ⟨fun z hz=>?_,ih⟩;rcases aY.1 hz with rfl | hz
  ·exact h.1
  ·exact oV h.1 ((eB.1 ih).1 z hz)
theorem Oc:∀ (l:List Seen),I2 l->AM l=true
 | [],_=>rfl
 | [x],_=>rfl
 | x::y::l,h=>by
  obtain ⟨h1,h2⟩:=eB.1 h;simp only[AM,aF];exact ⟨h1 y bG,Oc (y::l) h2⟩
theorem Su {r:List Seen} (h:r.Pairwise fun x y=>ym y x=false) (hn:(r.map fun x=>rk x.1).Nodup):I2 r:=by
 unfold I2
 have h2:r.Pairwise fun x y=>rk x.1≠rk y.1:=by
  unfold List.Nodup at hn;rw[gQ] at hn;exact hn
 refine (h.and h2).imp fun {x y} ⟨g1,g2⟩=>?_
 cases h3:ym x y with
 | true=>rfl
 | false=>exact absurd (r_ h3 g1) g2
end OT
namespace OT
open Go Go.Sort
theorem Uo (z:List Seen) (hl:z.length<=1000):∃ r:List Seen,(∀ f:Nat×Int,oQ.aa (z,f,())=some (r,()))/\r.Perm z/\r.Pairwise fun x y=>ym y x=false:=by
 have hs:SWO (Go.Proofs.ltOf Oa):=by rw[Sp];exact aa6
 have h1:=K7 (e:=ig) (cs:=oF.aa) (cf:=Oa) (fun x y=>Um x y) hs z (da (bJ hl (by omega)));have h2:=K8 (α:=ig.den) (lt:=Go.Proofs.ltOf Oa) hs z;refine ⟨_,fun f=>?_,h2.1,?_⟩
 ·show (xm ig oF.aa z).map (fun r=>(r,()))=_;rw[h1];rfl
 ·exact h2.2.imp fun {x y} (h:Go.Proofs.ltOf (α:=Seen) Oa y x=false)=>by rw[Sp] at h;exact h
theorem LQ {O:Type} (r:List Seen) (bad e:O):∀ (l pre:List Seen) (x:Seen),r=pre++x::l->bn (fun i (_:Unit) y=>if (match r[i]? with | some z=>ym z y | none=>true) then .inr () else .inl bad) (fun _=>e) pre.length l ()=if AM (x::l) then e else bad
 | [],pre,x,_=>by simp[bn,AM]
 | y::l,pre,x,h=>by
  have hx:r[pre.length]?=some x:=by rw[h,bV (aN _)];simp
  simp only[bn,hx,AM];by_cases hc:ym x y=true;rotate_left
  ·have wb:ym x y=false:=by simpa using hc
   simp only[wb,aG,aL,iI]
  ·simp only[hc,aI,eG];have:=LQ r bad e l (pre++[x]) y (by rw[h];simp);rw[aS] at this;exact this
theorem Up (ps:kX) (k:Nat) (hk:300<=k) (r:List Seen) (hl:r.length<=192):aq (fun self v=>bk.B4 k self (fun z=>bk.Q4 k (ps,()) r z) (ps,()) r v) k 1=if AM r then some (r,(0:Int),()) else some (([]:List Seen),(8:Int),()):=by
 have:=eb (B:=fun self v=>bk.B4 k self (fun z=>bk.Q4 k (ps,()) r z) (ps,()) r v) (r.drop 1) (fun (_:Unit) (i:Int)=>i+1) (fun i _ y=>if (match r[i]? with | some z=>ym z y | none=>true) then .inr () else .inl (some (([]:List Seen),(8:Int),()))) (fun _=>some (r,(0:Int),())) (fun _ _=>True) (by rw[ai,bI];omega)
  (fun i hi s self _=>by
   rw[bI] at hi;show bk.b4 _ _ _ _ _=_;unfold bk.b4;have aj:(i:Int)+1 < (r.length:Int):=by omega
   have ru:(i:Int) < (r.length:Int):=by omega
   have DK:(0:Int)<=(i:Int)+1:=by omega
   have wo:af ((i:Int)+1 - 1)=(i:Int):=by rw[bt (by omega)];omega
   have wr:af ((i:Int)+1+1)=af ((i:Int)+1)+1:=by rw[bt (by omega),bt (by omega)]
   have RS:((i:Int)+1).toNat=i+1:=by omega
   have hg:(r.drop 1)[i]'(by rw[bI];omega)=r[i+1]'(by omega):=by rw[jJ];congr 1;omega
   rw[hg];simp only[aj,ru,DK,wo,wr,RS,aC,aJ,aK,cU,aI,aH,aA (show i < r.length by omega),aA (show i+1 < r.length by omega),aB,xp];show (bif !ym r[i] (r[i+1]'(by omega)) then _ else _)=_
   cases ym r[i] (r[i+1]'(by omega)) <;> rfl)
  (fun _ _ _ _ _ _=>trivial) (fun s self _=>by
   rw[bI];show bk.b4 _ _ _ _ _=_;unfold bk.b4;have aj:¬ (((r.length - 1:Nat):Int)+1 < (r.length:Int)):=by omega
   simp only[aj,aD,aE]
   rfl) () trivial k (by rw[bI];omega)
 refine aX this ?_
 cases r with
 | nil=>rfl
 | cons x l=>
  exact LQ (x::l) _ _ l [] x rfl
def vx (ps:kX):List Seen:=if mN ps=0 then Ci ((pv ps).map wM) else []
def VN (ps:kX):List Seen:=if Ce ps=0 then Ci ((pv ps).map wM) else []
def JI (y:Seen):Option (Int×Int):=some (y.2.2.2.2.1,y.2.2.2.2.2.1)
def An (y:Seen):List Int×Bool:=([y.2.2.2.2.1,y.2.2.2.2.2.1],true)
theorem LR (T:List Seen) (a b:Int):yY (jm wL (T.map An) [a,b]) false=T.any fun y=>decide (a=y.2.2.2.2.1)&&decide (b=y.2.2.2.2.2.1):=by
 induction T with
 | nil=>rfl
 | cons y T ih=>
  have hk:Ty.eq wL [a,b] (An y).1=(decide (a=y.2.2.2.2.1)&&decide (b=y.2.2.2.2.2.1)):=Ba _ _ _ _;unfold jm at ih ⊢;rw[cR,jR,fV,hk]
  cases (decide (a=y.2.2.2.2.1)&&decide (b=y.2.2.2.2.2.1)) with
  | true=>rfl
  | false=>simpa using ih
theorem Uq (S:List a8):(S.flatMap ek).filterMap JI=S.filterMap wJ:=by
 induction S with
 | nil=>rfl
 | cons x S ih=>
  rw[eL,cT,ih];unfold ek;by_cases h:it x=1
  ·rw[aU h];have:wJ x=some (pw x,px x):=by unfold wJ;rw[aU h]
   simp[dC,this,JI]
  ·rw[bA h];have:wJ x=none:=by unfold wJ;rw[bA h]
   simp[dC,this]
theorem MX (ps:kX) (h:yS ps):bk.aa (ps,())=some (VN ps,Ce ps,()):=by
 obtain ⟨hl,hp⟩:=h.1;have oq:=Am h.1;refine ah (k:=300) fun k hk=>(bk.ae k _).trans ?_
 have inner:∀ (self:(List Seen×List Seen×List (List Int×Row)×kX×Int×Int)->Option bk.Out) (e0:(List Seen×List Seen×List (List Int×Row))->Option bk.Out) (i:Nat) (hi:i < ps.length) (S:List a8),S.length<=16*i->(∀ x ∈ S,x.1 < (i:Int)) ->
   bk.r1 k self e0 (ps,()) (i:Int) ps[i] ps (ps.length:Int) (pn ps[i]:Int) (S.flatMap gy,S.flatMap ek,S.flatMap lu,(0:Int))=self ((S++tL i ps[i]).flatMap gy,(S++tL i ps[i]).flatMap ek,(S++tL i ps[i]).flatMap lu,ps,(ps.length:Int),af ((i:Int)+1)):=fun self e0 i hi S0 hS0 n_=>by
  have bc:=hp _ (aQ hi);have hn:=bc.n;have hlen:=bc.len;have mS:=h.2 _ (aQ hi)
  have:=yF (B:=fun fl v=>bk.B1 k fl (fun z=>bk.Q0 k self e0 (ps,()) (i:Int) ps[i] ps (ps.length:Int) (pn ps[i]:Int) z) (ps,()) (i:Int) ps[i] ps (ps.length:Int) (pn ps[i]:Int) v) (pn ps[i]) (fun (S:List a8) (j:Int)=>(S.flatMap gy,S.flatMap ek,S.flatMap lu,j)) (fun j S=>.inr (S++rn i ps[i] j)) (fun S=>self (S.flatMap gy,S.flatMap ek,S.flatMap lu,ps,(ps.length:Int),af ((i:Int)+1))) (fun j S=>S.length<=16*i+j/\∀ x ∈ S,x.1 < (i:Int)\/(x.1=(i:Int)/\x.2.1 < (j:Int))) (by omega)
   (fun j hj S fl ⟨VO,LS⟩=>by
    show bk.b1 _ _ _ _ _ _ _ _ _=_;unfold bk.b1 rn;have aj:(j:Int) < (pn ps[i]:Int):=by omega
    simp only[aj,aC,aJ,G8 bc,hj,eG,aB];by_cases hz:bu ps[i] j=0
    ·simp only[hz,aC,aO,aV,aJ,aI,cH]
    ·have vQ:=mS j hj hz;obtain ⟨f1,f2⟩:=Ch _ vQ;obtain ⟨l1,l2⟩:=Hc S;have k_:∀ (T:List Seen) (y:Seen),T.length<=S.length->T.length+[y].length<=bz:=fun T y hT=>da (by simp only[aP,bB];omega);simp only[hz,aD,aV,aO,aE,CO bc hj,CN _ (bJ (vn bc hj) (by omega)),vQ,aI,aL,aB,f1,aC,k_ _ _ l1,k_ _ _ l2,FJ]
     obtain ⟨x,hx⟩:∃ x:a8,x=((i:Int),(j:Int),(ir (kU ps[i] j)).1,()):=⟨_,rfl⟩
     have Yx:it x=(ir (kU ps[i] j)).1.2.1:=by rw[hx];rfl
     rw[<-hx];simp only[iX,eL,List.flatMap_nil,cH];rcases f2 with g | g | g
     ·have e1:gy x=[((ir (kU ps[i] j)).1.2.2.2.2.1,(i:Int),(j:Int),false,(i:Int),(j:Int),())]:=by unfold gy;rw[aU (Yx.trans g),hx];rfl
      have e2:ek x=[]:=by unfold ek;rw[bA (by omega)]
      have e3:lu x=[]:=by unfold lu;rw[bA (by omega)]
      rw[e1,e2,e3];simp only[g,aC,aJ,cH,aP,bB,jL,dR,fM,aI]
     ·have e1:gy x=[]:=by unfold gy;rw[bA (by omega)]
      have e2:ek x=[(AJ,(i:Int),(j:Int),true,(ir (kU ps[i] j)).1.2.2.1,(ir (kU ps[i] j)).1.2.2.2.1,())]:=by unfold ek;rw[aU (Yx.trans g),hx];rfl
      have e3:lu x=[]:=by unfold lu;rw[bA (by omega)]
      rw[e1,e2,e3];have n1:¬ ((1:Int)=0):=by decide
      have n2:¬ ((1:Int)=2):=by decide
      simp only[g,n1,n2,aD,aE,cH,aP,bB,jL,dR,fM,aI]
     ·have e1:gy x=[]:=by unfold gy;rw[bA (by omega)]
      have e2:ek x=[]:=by unfold ek;rw[bA (by omega)]
      have e3:lu x=[([(i:Int),(j:Int)],(ir (kU ps[i] j)).1.2.2.2.2.1)]:=by unfold lu;rw[aU (Yx.trans g),hx];rfl
      rw[e1,e2,e3];have n1:¬ ((2:Int)=0):=by decide
      have ue:nP wL (S.flatMap lu) [(i:Int),(j:Int)] (ir (kU ps[i] j)).1.2.2.2.2.1=S.flatMap lu++[([(i:Int),(j:Int)],(ir (kU ps[i] j)).1.2.2.2.2.1)]:=DQ wL _ _ _ fun e he=>by
       obtain ⟨y,hy,Sv⟩:=eH.1 he;unfold lu at Sv;split at Sv
       ·rw[bU] at Sv;subst Sv;rw[Ba]
        rcases LS y hy with c | ⟨c,d⟩
        ·rw[cA (show ¬ (i:Int)=y.1 by omega)];rfl
        ·rw[cA (show ¬ (j:Int)=y.2.1 by omega),Bool.and_false]
       ·cases Sv
      simp only[g,n1,aD,aC,aE,aJ,ue,cH,aP,bB,jL,dR,fM,aI]
      rfl)
   (fun j hj S S' ⟨VO,LS⟩ hf=>by
    injection hf with hf;subst hf;have:(rn i ps[i] j).length<=1:=by unfold rn;split <;> simp
    refine ⟨by rw[aS];omega,fun x hx=>?_⟩
    rcases cJ.1 hx with hx | hx
    ·rcases LS x hx with c | ⟨c,d⟩
     ·exact .inl c
     ·exact .inr ⟨c,by omega⟩
    ·unfold rn at hx;split at hx
     ·cases hx
     ·rw[bU] at hx;subst hx
      exact .inr ⟨rfl,by show (j:Int) < ((j+1:Nat):Int);omega⟩) (fun S fl hI=>by
    show bk.b1 _ _ _ _ _ _ _ _ _=_;unfold bk.b1;simp only[bC,aD,aE]
    rfl) S0 ⟨by omega,fun x hx=>.inl (n_ x hx)⟩ k (by omega)
  rw[Cc (rn i ps[i])] at this;exact this
 have outer:bk.r0 k (ps,()) (([]:List Seen),([]:List Seen),([]:List (List Int×Row)),ps,(ps.length:Int),(0:Int))=bk.Q1 k (ps,()) ((cc ps).flatMap gy,(cc ps).flatMap ek,(cc ps).flatMap lu):=by
  have:=eb (B:=fun self v=>bk.B0 k self (fun z=>bk.Q1 k (ps,()) z) (ps,()) v) ps (fun (S:List a8) (i:Int)=>(S.flatMap gy,S.flatMap ek,S.flatMap lu,ps,(ps.length:Int),i)) (fun i S p=>.inr (S++tL i p)) (fun S=>bk.Q1 k (ps,()) (S.flatMap gy,S.flatMap ek,S.flatMap lu)) (fun i S=>S.length<=16*i/\∀ x ∈ S,x.1 < (i:Int)) (by rw[ai];omega)
   (fun i hi S self ⟨VO,LS⟩=>by
    show bk.b0 _ _ _ _ _=_;unfold bk.b0;have aj:(i:Int) < (ps.length:Int):=by omega
    have hlen:=(hp _ (aQ hi)).len
    simp only[aj,aC,aJ,aK,aI,aH,aA hi,aB,Ak hlen,inner self _ i hi S VO LS])
   (fun i hi S S' ⟨VO,LS⟩ hf=>by
    injection hf with hf;subst hf;have:=AK (hp _ (aQ hi)) i;refine ⟨by rw[aS];omega,fun x hx=>?_⟩
    rcases cJ.1 hx with hx | hx
    ·have:=LS x hx;omega
    ·obtain ⟨s,_,hs⟩:=eH.1 hx;unfold rn at hs;split at hs
     ·cases hs
     ·rw[bU] at hs;subst hs;show (i:Int) < ((i+1:Nat):Int)
      omega) (fun S self hI=>by
    show bk.b0 _ _ _ _ _=_;unfold bk.b0
    simp only[bC,aD,aE]) [] ⟨by simp,fun x hx=>by cases hx⟩ k (by omega)
  rw[DN] at this;exact this
 show bk.r0 k (ps,()) (([]:List Seen),([]:List Seen),([]:List (List Int×Row)),ps,(ps.length:Int),(0:Int))=_;rw[outer];show bk.q1 _ _ _=_;unfold bk.q1;obtain ⟨gl1,gl2⟩:=Hc (cc ps)
 have hT:∀ y ∈ (cc ps).flatMap ek,∃ x ∈ cc ps,it x=1/\y=(AJ,x.1,x.2.1,true,pw x,px x,()):=fun y hy=>by
  obtain ⟨x,hx,yd⟩:=eH.1 hy;unfold ek at yd;split at yd
  ·rename_i hf;exact ⟨x,hx,hf,bU.1 yd⟩
  ·cases yd
 have l2w:bk.r2 k (ps,()) ((cc ps).flatMap gy) ((cc ps).flatMap ek) ((cc ps).flatMap lu) (((cc ps).flatMap ek).length:Int) (0:Int)=if (cc ps).all (rg ps) then bk.Q2 k (ps,()) ((cc ps).flatMap gy) ((cc ps).flatMap ek) ((cc ps).flatMap lu) (((cc ps).flatMap ek).length:Int) () else some (([]:List Seen),(4:Int),()):=by
  obtain ⟨T,I3⟩:∃ T,T=(cc ps).flatMap ek:=⟨_,rfl⟩
  obtain ⟨M,hM⟩:∃ M,M=(cc ps).flatMap lu:=⟨_,rfl⟩
  rw[<-I3,<- hM];have hTl:T.length<=192:=by rw[I3];omega
  have:=eb (B:=fun self v=>bk.B2 k self (fun z=>bk.Q2 k (ps,()) ((cc ps).flatMap gy) T M (T.length:Int) z) (ps,()) ((cc ps).flatMap gy) T M (T.length:Int) v) T (fun (_:Unit) (i:Int)=>i) (fun i _ y=>if (jm wL M [y.2.2.2.2.1,y.2.2.2.2.2.1]).isSome then .inr () else .inl (some (([]:List Seen),(4:Int),()))) (fun _=>bk.Q2 k (ps,()) ((cc ps).flatMap gy) T M (T.length:Int) ()) (fun _ _=>True) (by rw[ai];omega)
   (fun i hi s self _=>by
    show bk.b2 _ _ _ _ _ _ _ _=_;unfold bk.b2;have aj:(i:Int) < (T.length:Int):=by omega
    simp only[aj,aC,aJ,aK,cU,aI,aH,aA hi,aB,FJ,dR,fM,show (0:Nat) < 2 by omega,show (1:Nat) < 2 by omega]
    cases (jm wL M [(T[i]).2.2.2.2.1,(T[i]).2.2.2.2.2.1]).isSome <;> rfl)
   (fun _ _ _ _ _ _=>trivial) (fun s self _=>by
    show bk.b2 _ _ _ _ _ _ _ _=_;unfold bk.b2
    simp only[bC,aD,aE]) () trivial k (by omega)
  rw[rE (fun y:Seen=>(jm wL M [y.2.2.2.2.1,y.2.2.2.2.2.1]).isSome) (some (([]:List Seen),(4:Int),())) (fun _=>bk.Q2 k (ps,()) ((cc ps).flatMap gy) T M (T.length:Int) ())] at this;refine aX this ?_
  have hb:T.all (fun y:Seen=>(jm wL M [y.2.2.2.2.1,y.2.2.2.2.2.1]).isSome)=(cc ps).all (rg ps):=by
   have mQ:∀ x ∈ cc ps,it x=1->(jm wL M [pw x,px x]).isSome=rg ps x:=fun x hx hf=>by
    obtain ⟨g1,g2⟩:=xt hx;rw[hM,N_ h _ _ g1 g2];unfold rg;rw[cG hf];cases ((oW ps (pw x) (px x)).2&&decide ((oW ps (pw x) (px x)).1.2.1=2)) <;> rfl
   rw[fB,cC,cC];constructor
   ·intro pD x hx;by_cases hf:it x=1
    ·rw[<-mQ x hx hf]
     have hy:(AJ,x.1,x.2.1,true,pw x,px x,()) ∈ T:=by
      rw[I3];exact eH.2 ⟨x,hx,by unfold ek;rw[aU hf];exact bU.2 rfl⟩
     exact pD _ hy
    ·unfold rg;rw[cA hf];rfl
   ·intro pD y hy;obtain ⟨x,hx,hf,e⟩:=hT y (I3 ▸ hy);subst e;exact (mQ x hx hf).trans (pD x hx)
  rw[hb]
 rw[l2w];unfold VN Ce;by_cases c6:(cc ps).all (rg ps)=true;rotate_left
 ·simp only[c6,aG,aL];rfl
 simp only[c6,aI];show bk.q2 _ _ _ _ _ _ _=_;unfold bk.q2
 have l3w:bk.r3 k (ps,()) ((cc ps).flatMap gy) ((cc ps).flatMap ek) ((cc ps).flatMap lu) (((cc ps).flatMap ek).length:Int) ((cc ps).flatMap ek) ((cc ps).flatMap lu) (((cc ps).flatMap ek).length:Int) ((cc ps).flatMap gy,([]:List (List Int×Bool)),(0:Int))=if ((cc ps).filterMap wJ).Nodup then bk.Q3 k (ps,()) ((cc ps).flatMap ek) ((cc ps).flatMap lu) (((cc ps).flatMap ek).length:Int) (Eu ps) else some (([]:List Seen),(6:Int),()):=by
  have VP:=Uq (cc ps);unfold Eu
  obtain ⟨T,I3⟩:∃ T,T=(cc ps).flatMap ek:=⟨_,rfl⟩
  obtain ⟨M,hM⟩:∃ M,M=(cc ps).flatMap lu:=⟨_,rfl⟩
  obtain ⟨L,hL⟩:∃ L,L=(cc ps).flatMap gy:=⟨_,rfl⟩
  have ZM:∀ y:Seen,wN ps y=(yY (jm wL M [y.2.2.2.2.1,y.2.2.2.2.2.1]) AJ,y.2):=fun y=>by unfold wN;rw[hM]
  rw[<-I3,<- hM,<- hL];rw[<-I3] at VP;have hTl:T.length<=192:=by rw[I3];omega
  have hLl:L.length<=192:=by rw[hL];omega
  have:=eb (B:=fun self v=>bk.B3 k self (fun z=>bk.Q3 k (ps,()) T M (T.length:Int) z) (ps,()) T M (T.length:Int) v) T (fun (_:Unit) (i:Int)=>(L++(T.take i.toNat).map (wN ps),(T.take i.toNat).map An,i)) (fun i _ y=>if (T.take i).any (fun z=>decide (y.2.2.2.2.1=z.2.2.2.2.1)&&decide (y.2.2.2.2.2.1=z.2.2.2.2.2.1)) then .inl (some (([]:List Seen),(6:Int),())) else .inr ()) (fun _=>bk.Q3 k (ps,()) T M (T.length:Int) (L++T.map (wN ps))) (fun _ _=>True) (by rw[ai];omega)
   (fun i hi s self _=>by
    show bk.b3 _ _ _ _ _ _ _=_;unfold bk.b3;have aj:(i:Int) < (T.length:Int):=by omega
    have k_:∀ y:Seen,(L++(T.take i).map (wN ps)).length+[y].length<=bz:=fun y=>da (by simp only[aS,fE,bQ,aP,bB];omega);have hw:(af ((i:Int)+1)).toNat=i+1:=by rw[bt (by omega)];omega
    have ng:T.take (i+1)=T.take i++[T[i]]:=eM hi;simp only[aj,aC,aJ,aK,cU,aI,aH,aA hi,aB,FJ,dR,fM,show (0:Nat) < 2 by omega,show (1:Nat) < 2 by omega,LR,k_,hw,ng,gJ,cR,fS];have htg:=LR (T.take i) (T[i]).2.2.2.2.1 (T[i]).2.2.2.2.2.1;refine aX (dB (fun b:Bool=>bif b then (some (([]:List Seen),(6:Int),()):Option bk.Out) else self (L++(T.take i).map (wN ps)++[(yY (jm wL M [(T[i]).2.2.2.2.1,(T[i]).2.2.2.2.2.1]) ((0:Int),(0:Int),(0:Int),([]:List UInt8),()),(T[i]).2)],nP wL ((T.take i).map An) [(T[i]).2.2.2.2.1,(T[i]).2.2.2.2.2.1] true,af ((i:Int)+1))) htg) ?_
    cases hc:(T.take i).any (fun z=>decide ((T[i]).2.2.2.2.1=z.2.2.2.2.1)&&decide ((T[i]).2.2.2.2.2.1=z.2.2.2.2.2.1)) with
    | true=>rfl
    | false=>
     simp only[aE,aG,aL]
     have ue:nP wL ((T.take i).map An) [(T[i]).2.2.2.2.1,(T[i]).2.2.2.2.2.1] true=(T.take i).map An++[An T[i]]:=DQ wL _ _ _ fun e he=>by
      obtain ⟨z,hz,rfl⟩:=fT.1 he;have h1:=jI.1 hc z hz;have:Ty.eq wL [(T[i]).2.2.2.2.1,(T[i]).2.2.2.2.2.1] (An z).1=_:=Ba _ _ _ _;rw[this]
      simpa using h1
     rw[ue,ZM,bL])
   (fun _ _ _ _ _ _=>trivial) (fun s self _=>by
    show bk.b3 _ _ _ _ _ _ _=_;unfold bk.b3
    simp only[bC,aD,aE,aH,dV]) () trivial k (by omega)
  rw[DL JI (some (([]:List Seen),(6:Int),())) (fun _=>bk.Q3 k (ps,()) T M (T.length:Int) (L++T.map (wN ps))) (fun y z=>decide (y.2.2.2.2.1=z.2.2.2.2.1)&&decide (y.2.2.2.2.2.1=z.2.2.2.2.2.1)) (fun y z=>?_) T,VP] at this
  ·simp only[Int.toNat_zero,jD,fS,cH] at this;exact this
  ·unfold JI;simp only[aF,bO];constructor
   ·rintro ⟨h1,h2⟩;exact ⟨_,rfl,by rw[h1,h2]⟩
   ·rintro ⟨b,h1,h2⟩;injection h1 with h1;injection h2 with h2;rw[<-h2] at h1;injection h1 with h3 h4;exact ⟨h3,h4⟩
 rw[l3w];by_cases ng:((cc ps).filterMap wJ).Nodup;rotate_left
 ·simp only[ng,aL];rfl
 simp only[ng,aI];show bk.q3 _ _ _ _ _ _=_;unfold bk.q3;have VQ:=PZ h c6
 have zb:(Eu ps).length<=192:=by
  have:=VQ.length_eq;rw[fE] at this;have:=Cg h.1;omega
 obtain ⟨r,t8,vd,UM⟩:=Uo (Eu ps) (by omega);rw[t8];simp only[aB];have uS:r.length<=192:=by have:=vd.length_eq;omega
 have Vo:=vd.trans VQ
 have hkn:(r.map fun x=>rk x.1).Nodup↔((pv ps).map fun x=>rk (mR x)).Nodup:=by
  have h1:(r.map fun x=>rk x.1).Perm (((pv ps).map wM).map fun x=>rk x.1):=Vo.map _;rw[h1.nodup_iff,iJ];exact jT
 refine (Up ps k hk r uS).trans ?_;by_cases sF:((pv ps).map fun x=>rk (mR x)).Nodup
 ·have hup:=Su UM (hkn.2 sF);have rD:=LP Vo hup (by rw[iJ];exact sF);simp only[sF,aI,Oc r hup];rw[rD]
 ·have:¬ AM r=true:=fun ha=>sF (hkn.1 (Sr (Ss r ha)));simp only[sF,this,aL];rfl
theorem AN (ps:kX) (hp:∀ p ∈ ps,p.length<=maxLen):ej.aa (ps,())=some (vx ps,mN ps,()):=by
 refine ah (k:=300) fun k hk=>(ej.ae k _).trans ?_;unfold ej.p vx mN;by_cases hl:12 < ps.length
 ·have:(12:Int) < (ps.length:Int):=by omega
  simp only[this,aC,aJ,hl,aI];rfl
 have nH:¬ ((12:Int) < (ps.length:Int)):=by omega
 simp only[nH,aD,aE,hl,aL]
 have inner:∀ (self:(kX×kX×Int×Int)->Option ej.Out) (e0:kX->Option ej.Out) (i:Nat) (hi:i < ps.length),rR ps[i]->ej.r1 k self e0 (ps,()) ps ps[i] ps (ps.length:Int) (i:Int) (pn ps[i]:Int) (0:Int)=if (List.range (pn ps[i])).all (vo ps[i]) then self (ps,ps,(ps.length:Int),af ((i:Int)+1)) else some (([]:List Seen),(5:Int),()):=fun self e0 i hi bc=>by
  have hn:=bc.n;have hlen:=bc.len
  have:=yF (B:=fun fl v=>ej.b1 fl (fun z=>ej.q0 self e0 (ps,()) ps ps[i] ps (ps.length:Int) (i:Int) (pn ps[i]:Int) z) (ps,()) ps ps[i] ps (ps.length:Int) (i:Int) (pn ps[i]:Int) v) (pn ps[i]) (fun (_:Unit) (j:Int)=>j) (fun j _=>if vo ps[i] j then .inr () else .inl (some (([]:List Seen),(5:Int),()))) (fun _=>self (ps,ps,(ps.length:Int),af ((i:Int)+1))) (fun _ _=>True) (by omega)
   (fun j hj s fl hI=>by
    show ej.b1 _ _ _ _ _ _ _ _ _ _=_;unfold ej.b1 vo;have aj:(j:Int) < (pn ps[i]:Int):=by omega
    simp only[aj,aC,aJ,G8 bc,hj,eG,aB];by_cases hz:bu ps[i] j=0
    ·simp only[hz,aC,aO,aE,fO,aI]
    ·simp only[hz,aD,aV,aJ,CO bc hj,CN _ (bJ (vn bc hj) (by omega)),aB,dX]
     cases hc:(ir (kU ps[i] j)).2 with
     | true=>
      have:=(Ch _ hc).1;simp only[aI,this,aC,aO,aE]
     | false=>rfl)
   (fun _ _ _ _ _ _=>trivial) (fun s fl hI=>by
    show ej.b1 _ _ _ _ _ _ _ _ _ _=_;unfold ej.b1;simp only[bC,aD,aE]
    rfl) () trivial k (by omega)
  rw[tK] at this;exact this
 have outer:ej.r0 k (ps,()) (ps,ps,(ps.length:Int),(0:Int))=if mU wI ps=0 then ej.q1 (ps,()) ps else some (([]:List Seen),mU wI ps,()):=by
  have:=eb (B:=fun self v=>ej.B0 k self (fun z=>ej.q1 (ps,()) z) (ps,()) v) ps (fun (_:Unit) (i:Int)=>(ps,ps,(ps.length:Int),i)) (fun i _ p=>if wI p=0 then .inr () else .inl (some (([]:List Seen),wI p,()))) (fun _=>ej.q1 (ps,()) ps) (fun _ _=>True) (by rw[ai];omega)
   (fun i hi s self hI=>by
    show ej.b0 _ _ _ _ _=_;unfold ej.b0 wI;have aj:(i:Int) < (ps.length:Int):=by omega
    simp only[aj,aC,aJ,aK,aI,aH,aA hi,aB,MW _ (hp _ (aQ hi))];by_cases h0:wH ps[i]=0
    ·have bc:=DI.1 h0;rw[cG h0];simp only[aO,aE,Ak bc.len,aB,inner self _ i hi bc,h0,aI];by_cases hc:(List.range (pn ps[i])).all (vo ps[i])=true
     ·simp only[hc,aI]
     ·simp only[hc,aG,aL];rfl
    ·rw[cA h0]
     simp only[aV,aJ,h0,aL])
   (fun _ _ _ _ _ _=>trivial) (fun s self _=>by
    show ej.b0 _ _ _ _ _=_;unfold ej.b0
    simp only[bC,aD,aE]) () trivial k (by omega)
  rw[uH wI (fun c=>some (([]:List Seen),c,())) (fun _=>ej.q1 (ps,()) ps)] at this;exact this
 rw[outer];by_cases hc:mU wI ps=0
 ·simp only[hc,aI];show ej.q1 _ _=_;unfold ej.q1;rw[MX ps (LO (by omega) hc)];rfl
 ·simp only[hc,aL]
end OT
set_option linter.unusedSectionVars false
namespace OT
open Go
structure He (ps:kX):Prop where
 right:tD ps
 cells:yS ps
 abp:(cc ps).all (rg ps)=true
 abB:((cc ps).filterMap wJ).Nodup
 keys:((pv ps).map fun x=>rk (mR x)).Nodup
 list:vx ps=Ci ((pv ps).map wM)
theorem uP {ps:kX} (h:mN ps=0):He ps:=by
 obtain ⟨h1,h2,h3⟩:=Cf h;have hc:=LO h1.1 h2;unfold Ce at h3;split at h3
 ·rename_i a1;split at h3
  ·rename_i a2;split at h3
   ·rename_i a3;exact ⟨h1,hc,a1,a2,a3,by unfold vx;rw[aU h]⟩
   ·cases h3
  ·cases h3
 ·cases h3
theorem P0 {ps:kX} (h:He ps):(vx ps).Perm ((pv ps).map wM):=by rw[h.list];exact Hd _
theorem Ao {ps:kX} (h:He ps):(vx ps).length<=192:=by
 have:=(P0 h).length_eq;rw[fE] at this;have:=Cg h.right;omega
def jY (ps:kX):List Row:=(vx ps).map (·.1)
theorem FK {ps:kX} (h:He ps):jY ps=G9 ((pv ps).map mR):=by
 unfold jY;rw[h.list,I1,iJ];rfl
theorem LT {ps:kX} (h:He ps):up (jY ps):=by
 rw[FK h];refine LK ?_;rw[iJ];exact h.keys
theorem AP (l:List Seen) (hl:l.length<=1000):lU.aa (l,())=some (l.map (·.1),()):=by
 refine ah (k:=1100) fun q hq=>(lU.ae q _).trans ?_
 have:=b9 (B:=fun self v=>lU.b0 self (fun z=>lU.q0 (l,()) z) (l,()) v) l (fun (s:List Row) (i:Int)=>(s,i)) (fun _ s x=>.inr (s++[x.1])) (fun s=>(s,())) (fun i s=>s.length=i) (by rw[ai];omega)
  (fun i hi s self hs=>by
   show lU.b0 _ _ _ _=_;unfold lU.b0;have aj:(i:Int) < (l.length:Int):=by omega
   rw[cG aj,aJ,aU (aK i)];simp only[aH,aA hi,aB]
   rw[aU (da (by simp only[aP,bB];omega))])
  (fun i hi s s' hs hf=>by injection hf with hf;subst hf;simp[hs]) (fun s self _=>by
   show lU.b0 _ _ _ _=_;unfold lU.b0;rw[cA (bC _),aE]
   rfl) [] rfl q (by omega)
 rw[h_ (g:=fun (s:List Row) (x:Seen)=>s++[x.1])] at this;refine this.trans ?_
 have hm:∀ (xs:List Seen) (s:List Row),xs.foldl (fun s x=>s++[x.1]) s=s++xs.map (·.1):=by
  intro xs
  induction xs with
  | nil=>intro s;simp
  | cons x xs ih=>intro s;rw[eE,ih];simp
 rw[hm,bP]
theorem x9 {ps:kX} (h:mN ps=0):g_.aa (ps,())=some (jY ps,()):=by
 have hr:=Cf h;have hl:=Cg hr.1;refine ah (k:=300) fun k hk=>(g_.ae k _).trans ?_;unfold g_.p;rw[EM ps hr.1];simp only[aB]
 have:=b9 (B:=fun self v=>g_.b0 self (fun z=>g_.q0 (ps,()) (pv ps) z) (ps,()) (pv ps) v) (pv ps) (fun (s:List Row) (i:Int)=>(s,i)) (fun _ s x=>.inr (my s (mR x))) (fun s=>(s,())) (fun i s=>s.length<=i) (by rw[ai];omega)
  (fun i hi s self hs=>by
   show g_.b0 _ _ _ _ _=_;unfold g_.b0;have aj:(i:Int) < ((pv ps).length:Int):=by omega
   rw[cG aj,aJ,aU ⟨aK i,aj⟩];simp only[aH,aA hi,aB];rw[B7 _ _ (by omega)]
   rfl)
  (fun i hi s s' hs hf=>by
   injection hf with hf;subst hf;unfold my;simp only[aS,bQ,bI,aP,bB]
   omega) (fun s self _=>by
   show g_.b0 _ _ _ _ _=_;unfold g_.b0;rw[cA (bC _),aE]
   rfl) [] (aN 0) k (by omega)
 rw[h_ (g:=fun (s:List Row) (x:a8)=>my s (mR x))] at this;refine this.trans ?_;rw[FK (uP h)];unfold G9;rw[List.foldl_map]
end OT
namespace OT
open Go
def bl (x:gi):Int:=(List.length x.2.1:Int)
def qo (s:Int) (x:gi):Sum (Int×Unit) Int:=
 if fi x.1 0 63 then (if fi (bl x) 1 64 then (if 64 < x.1+bl x then .inl (3,()) else if x.1 < s then .inl (1,()) else .inr (x.1+bl x+1)) else .inl (3,())) else .inl (3,())
def Hf (s:Int) (xs:List gi):Int:=(bn (fun _ s x=>qo s x) (fun _=>((0:Int),())) 0 xs s).1
def s_ (xs:List gi):Int:=if 64 < xs.length then 2 else Hf 0 xs
theorem Ap {s s':Int} {x:gi} (h:qo s x=.inr s'):0<=x.1/\x.1<=63/\1<=bl x/\bl x<=64/\x.1+bl x<=64/\s<=x.1/\s'=x.1+bl x+1:=by
 unfold qo at h;split at h
 ·rename_i h1;split at h
  ·rename_i h2;split at h
   ·cases h
   ·split at h
    ·cases h
    ·injection h with h;simp only[fi,aF,bO] at h1 h2;omega
  ·cases h
 ·cases h
theorem FL {s:Int} {x:gi} {o:Int×Unit} (h:qo s x=.inl o):o.1≠0:=by
 unfold qo at h;split at h
 ·split at h
  ·split at h
   ·injection h with h;subst h;decide
   ·split at h
    ·injection h with h;subst h;decide
    ·cases h
  ·injection h with h;subst h;decide
 ·injection h with h;subst h;decide
theorem Od {S O α:Type} {f:S->α->Sum O S} {fin:S->O}:∀ (xs:List α) (i j:Nat) (s:S),bn (fun _ s x=>f s x) fin i xs s=bn (fun _ s x=>f s x) fin j xs s
 | [],_,_,_=>rfl
 | x::xs,i,j,s=>by
  simp only[bn];split
  ·rfl
  ·exact Od xs _ _ _
theorem Cj (s:Int) (x:gi) (xs:List gi):Hf s (x::xs)=match qo s x with | .inl o=>o.1 | .inr s'=>Hf s' xs:=by
 unfold Hf;simp only[bn]
 cases h:qo s x with
 | inl o=>rfl
 | inr s'=>simp only;rw[Od xs 1 0]
theorem Hg:∀ (xs:List gi) (s:Int),Hf s xs=0->∀ x ∈ xs,0<=x.1/\x.1<=63/\1<=bl x/\bl x<=64
 | [],_,_,_,hx=>by cases hx
 | y::ys,s,h,x,hx=>by
  rw[Cj] at h
  cases hs:qo s y with
  | inl o=>rw[hs] at h;exact absurd h (FL hs)
  | inr s'=>
   rw[hs] at h;have:=Ap hs;rcases aY.1 hx with e | e
   ·subst e;omega
   ·exact Hg ys s' h x e
theorem P1 {xs:List gi} (h:s_ xs=0):List.length xs<=64/\∀ x ∈ xs,0<=x.1/\x.1<=63/\1<=bl x/\bl x<=64:=by
 unfold s_ at h;split at h
 ·cases h
 ·exact ⟨by omega,Hg xs 0 h⟩
theorem Sw {y z:gi} {ys:List gi} (h:s_ (y::z::ys)=0):List.length y.2.1≠64:=by
 unfold s_ at h;split at h
 ·cases h
 ·rw[Cj] at h
  cases hs:qo 0 y with
  | inl o=>rw[hs] at h;exact absurd h (FL hs)
  | inr s'=>
   rw[hs] at h;have h1:=Ap hs;simp only[Cj] at h
   cases uW:qo s' z with
   | inl o=>rw[uW] at h;exact absurd h (FL uW)
   | inr s2=>
    have h2:=Ap uW;have:bl y=(List.length y.2.1:Int):=rfl;omega
theorem MY (xs:List gi):iw.aa (xs,())=some (s_ xs,()):=by
 refine ah (k:=66) fun k hk=>(iw.ae k _).trans ?_;unfold iw.p s_;by_cases hl:64 < xs.length
 ·have:(64:Int) < (xs.length:Int):=by omega
  simp only[hl,this,aC,aJ,aI]
 have nH:¬ (64:Int) < (xs.length:Int):=by omega
 have:=b9 (B:=fun self v=>iw.b0 self (fun z=>iw.q0 (xs,()) z) (xs,()) v) xs (fun (s:Int) (i:Int)=>(s,i)) (fun _ s x=>qo s x) (fun _=>(0,())) (fun _ _=>True) (by rw[ai];omega)
  (fun i hi s self _=>by
   show iw.b0 _ _ _ _=_;unfold iw.b0;have aj:(i:Int) < (xs.length:Int):=by omega
   simp only[aj,aC,aJ,aK,aI,aH,aA hi,aB,rO];generalize xs[i]=x;unfold qo bl fi;by_cases a1:(0:Int)<=x.1;rotate_left
   ·simp[a1]
   by_cases a2:x.1<=63;rotate_left
   ·simp[a2]
   by_cases a3:(1:Int)<=(List.length x.2.1:Int)
   rotate_left
   ·simp[a1,a2,a3]
   by_cases a4:(List.length x.2.1:Int)<=64;rotate_left
   ·simp[a1,a2,a4]
   have e1:af (x.1+(List.length x.2.1:Int))=x.1+(List.length x.2.1:Int):=bt (by omega);have e2:af (x.1+(List.length x.2.1:Int)+1)=x.1+(List.length x.2.1:Int)+1:=bt (by omega);simp only[a1,a2,a3,a4,e1,e2,aC,fX,aO,aE,aI]
   by_cases a5:64 < x.1+(List.length x.2.1:Int)
   ·simp[a5]
   by_cases a6:x.1 < s
   ·simp[a5,a6]
   simp[a5,a6]) (fun _ _ _ _ _ _=>trivial) (fun s self _=>by
   show iw.b0 _ _ _ _=_;unfold iw.b0
   simp[iw.q0,iw.q0]) 0 trivial k (by omega)
 simp only[hl,aL,nH,aD,aE];exact this
theorem EN (xs:List gi):j6.aa (xs,())=some (s_ xs,()):=by
 refine ah (k:=66) fun k hk=>(j6.ae k _).trans ?_;unfold j6.p s_;by_cases hl:64 < xs.length
 ·have:(64:Int) < (xs.length:Int):=by omega
  simp only[hl,this,aC,aJ,aI]
 have nH:¬ (64:Int) < (xs.length:Int):=by omega
 have:=b9 (B:=fun self v=>j6.b0 self (fun z=>j6.q0 (xs,()) z) (xs,()) v) xs (fun (s:Int) (i:Int)=>i) (fun _ s x=>qo s x) (fun _=>(0,()))
  (fun i s=>(i=0->s=0)/\∀ y,0 < i->xs[i - 1]?=some y->0<=y.1/\y.1<=63/\bl y<=64/\s=y.1+bl y+1) (by rw[ai];omega)
  (fun i hi s self hI=>by
   show j6.b0 _ _ _ _=_;unfold j6.b0;have aj:(i:Int) < (xs.length:Int):=by omega
   simp only[aj,aC,aJ,aK,aI,aH,aA hi,aB,nq];generalize xs[i]=x;unfold qo bl fi;by_cases a1:(0:Int)<=x.1;rotate_left
   ·simp[a1]
   by_cases a2:x.1<=63;rotate_left
   ·simp[a2]
   by_cases a3:(1:Int)<=(List.length x.2.1:Int)
   rotate_left
   ·simp[a1,a2,a3]
   by_cases a4:(List.length x.2.1:Int)<=64;rotate_left
   ·simp[a1,a2,a4]
   have e1:af (x.1+(List.length x.2.1:Int))=x.1+(List.length x.2.1:Int):=bt (by omega);simp only[a1,a2,a3,a4,e1,aC,fX,aO,aE,aI]
   by_cases a5:64 < x.1+(List.length x.2.1:Int)
   ·simp[a5]
   by_cases h0:i=0
   ·subst h0;have:=hI.1 rfl;subst this;have a6:¬ x.1 < 0:=by omega
    simp[a5,a6]
   ·have G7:i - 1 < xs.length:=by omega
    obtain ⟨y0,y1,y2,y3⟩:=hI.2 xs[i - 1] (by omega) (aA G7);have hp:(0:Int) < (i:Int):=by omega
    have ew:af ((i:Int) - 1)=((i - 1:Nat):Int):=by rw[bt (by omega)];omega
    unfold bl at y2 y3;have e2:af ((xs[i - 1]).1+(List.length (xs[i - 1]).2.1:Int))=(xs[i - 1]).1+(List.length (xs[i - 1]).2.1:Int):=bt (by omega);simp only[a5,hp,ew,e2,aC,aD,aJ,aE,aK,aI,aL,aH,aA G7,aB];by_cases a6:x.1 < s
    ·have:x.1<=(xs[i - 1]).1+(List.length (xs[i - 1]).2.1:Int):=by omega
     simp[a6,this]
    ·have:¬ x.1<=(xs[i - 1]).1+(List.length (xs[i - 1]).2.1:Int):=by omega
     simp[a6,this])
  (fun i hi s s' _ hs=>⟨fun e=>by omega,fun y _ hy=>by
   rw[hU,aA hi] at hy;injection hy with hy;subst hy;have:=Ap hs
   omega⟩) (fun s self _=>by
   show j6.b0 _ _ _ _=_;unfold j6.b0
   simp[j6.q0,j6.q0]) 0 ⟨fun _=>rfl,fun y h=>by omega⟩ k (by omega)
 simp only[hl,aL,nH,aD,aE];exact this
def Hh (k:Int) (xs:List gi):Int:=match xs with
 | []=>1
 | y::_=>if decide (k=4)&&!decide (List.length y.2.1=64) then 1 else 0
def qs (r:bf):Int:=
 if !fi r.1 1 6||(!fi r.1 2 4&&(!decide (r.2.2.1=0)||decide (0 < List.length r.2.2.2.1)))||(decide (r.1=4)&&!decide (r.2.1=0)) then 1
 else if (!decide (r.1=4)&&!fi r.2.1 1 99)||!fi r.2.2.1 0 11 then 3
 else if !fi r.1 2 4 then 0
 else if s_ r.2.2.2.1=0 then Hh r.1 r.2.2.2.1 else s_ r.2.2.2.1
theorem DS (k:Int):nu.aa (k,())=some (fi k 2 4,()):=by
 refine ah (k:=0) fun n _=>(nu.ae n _).trans ?_;show nu.p _=_;unfold nu.p;simp[nq,fi]
theorem LU (k:Int):nZ.aa (k,())=some (fi k 2 4,()):=by
 refine ah (k:=0) fun n _=>(nZ.ae n _).trans ?_;show nZ.p _=_;unfold nZ.p fi;by_cases h1:k=2
 ·subst h1;rfl
 by_cases h2:k=3
 ·subst h2;rfl
 by_cases h3:k=4
 ·subst h3;rfl
 have:(decide ((2:Int)<=k)&&decide (k<=4))=false:=by
  by_cases h4:(2:Int)<=k
  ·have:¬ k<=4:=by omega
   simp[this]
  ·simp[h4]
 simp[h1,h2,h3,this]
theorem Hj (r:bf):no.aa (r,())=some (qs r,()):=by
 obtain ⟨k,t,p,xs,⟨⟩⟩:=r;refine ah (k:=0) fun n _=>(no.ae n _).trans ?_;show no.p _=_;unfold no.p qs;simp only[nq,DS,EN,aB,show ∀ a b c:Int,(decide (b<=a)&&decide (a<=c))=fi a b c from fun _ _ _=>rfl];have h0:decide ((0:Int) < (xs.length:Int))=decide (0 < xs.length):=by simp
 have hj:(j6.aa (xs,()))=some (s_ xs,()):=EN xs;rw[h0]
 have hh:(bif decide ((List.length xs:Int)=0) then some ((1:Int),()) else bif decide (k=4) then (xs[0]?).bind fun Lf=>bif !decide ((List.length Lf.2.1:Int)=64) then some ((1:Int),()) else some (0,()) else some (0,()))=some (Hh k xs,()):=by
  cases xs with
  | nil=>rfl
  | cons y ys=>
   have:¬ ((List.length (y::ys):Int)=0):=by simp only[aP];omega
   simp only[this,aD,aE,Hh,eN,aB]
   have Yy:decide ((List.length y.2.1:Int)=64)=decide (List.length y.2.1=64):=by
    by_cases h:List.length y.2.1=64
    ·simp[h]
    ·have:¬ ((List.length y.2.1:Int)=64):=by omega
     simp[h,this]
   rw[Yy];cases decide (k=4) <;> cases decide (List.length y.2.1=64) <;> rfl
 rw[hh];by_cases hr:s_ xs=0
 ·simp only[hr,aC,aO,aE,aI];cases fi k 1 6 <;> cases fi k 2 4 <;> cases decide (p=0) <;> cases decide (0 < xs.length) <;> cases decide (k=4) <;> cases decide (t=0) <;> cases fi t 1 99 <;> cases fi p 0 11 <;> rfl
 ·simp only[hr,aD,aV,aJ,aL];cases fi k 1 6 <;> cases fi k 2 4 <;> cases decide (p=0) <;> cases decide (0 < xs.length) <;> cases decide (k=4) <;> cases decide (t=0) <;> cases fi t 1 99 <;> cases fi p 0 11 <;> rfl
theorem Ck (r:bf):gw.aa (r,())=some (qs r,()):=by
 obtain ⟨k,t,p,xs,⟨⟩⟩:=r;refine ah (k:=0) fun n _=>(gw.ae n _).trans ?_;show gw.p _=_;unfold gw.p qs;simp only[rO,LU,Ib,MY,aB,show ∀ a b c:Int,(decide (b<=a)&&decide (a<=c))=fi a b c from fun _ _ _=>rfl];have h0:decide ((0:Int) < (xs.length:Int))=decide (0 < xs.length):=by simp
 rw[h0]
 have hk:fi k 2 4=false->decide (k=4)=false:=by
  intro h;by_cases e:k=4
  ·subst e;cases h
  ·simp[e]
 have Yy:∀ y:gi,decide ((List.length y.2.1:Int)=64)=decide (List.length y.2.1=64):=fun y=>by
  by_cases h:List.length y.2.1=64
  ·simp[h]
  ·have:¬ ((List.length y.2.1:Int)=64):=by omega
   simp[h,this]
 have hz:decide (0 < xs.length)=false->xs=[]:=by
  intro h
  cases xs with
  | nil=>rfl
  | cons _ _=>simp at h
 have hh:s_ xs=0->(bif decide ((List.length xs:Int)=0) then some ((1:Int),()) else bif decide (k=4) then bif !decide ((List.length xs:Int)=1) then some ((1:Int),()) else (xs[0]?).bind fun Lf=>bif !decide ((List.length Lf.2.1:Int)=64) then some ((1:Int),()) else some (0,()) else some (0,()))=some (Hh k xs,()):=by
  intro hr
  cases xs with
  | nil=>rfl
  | cons y ys=>
   have:¬ ((List.length (y::ys):Int)=0):=by simp only[aP];omega
   simp only[this,aD,aE,Hh,eN,aB,Yy]
   cases ys with
   | nil=>cases decide (k=4) <;> cases decide (List.length y.2.1=64) <;> rfl
   | cons z ys=>
    have h1:=Sw hr;have h2:¬ ((List.length (y::z::ys):Int)=1):=by simp only[aP];omega
    simp only[h1,h2,aD];cases decide (k=4) <;> rfl
 cases mB:fi k 2 4 with
 | false=>
  have hk4:=hk mB;have hr0:s_ ([]:List gi)=0:=rfl;simp only[hk4]
  by_cases hx:xs=[]
  ·subst hx;cases fi k 1 6 <;> cases decide (p=0) <;> cases fi t 1 99 <;> cases fi p 0 11 <;> rfl
  ·have F7:decide (0 < xs.length)=true:=by
    cases xs with
    | nil=>exact absurd rfl hx
    | cons _ _=>simp
   simp only[F7];cases fi k 1 6 <;> cases decide (p=0) <;> rfl
 | true=>
  by_cases hr:s_ xs=0
  ·have hh:=hh hr;simp only[hr,aC,aO,aE,aJ,aI,hh];cases fi k 1 6 <;> cases decide (k=4) <;> cases decide (t=0) <;> cases fi t 1 99 <;> cases fi p 0 11 <;> rfl
  ·simp only[hr,aD,aV,aJ,aL];cases fi k 1 6 <;> cases decide (k=4) <;> cases decide (t=0) <;> cases fi t 1 99 <;> cases fi p 0 11 <;> rfl
theorem ux {r:bf} (h:qs r=0):1<=r.1/\r.1<=6/\0<=r.2.1/\r.2.1<=99/\0<=r.2.2.1/\r.2.2.1<=11/\List.length r.2.2.2.1<=64/\∀ x ∈ r.2.2.2.1,0<=x.1/\x.1<=63/\1<=bl x/\bl x<=64:=by
 obtain ⟨k,t,p,xs,⟨⟩⟩:=r;unfold qs at h;split at h
 ·cases h
 rename_i h1;split at h
 ·cases h
 rename_i h2
 have hx:List.length xs<=64/\∀ x ∈ xs,0<=x.1/\x.1<=63/\1<=bl x/\bl x<=64:=by
  split at h
  ·rename_i h3;simp only[cX,aF,not_or,not_and,h3,forall_const] at h1
   cases xs with
   | nil=>exact ⟨by simp,fun x hx=>by cases hx⟩
   | cons y ys=>exact absurd (by simp) h1.1.2.2
  ·split at h
   ·rename_i h4;exact P1 h4
   ·rename_i h4;exact absurd h h4
 simp only[cX,aF,not_or,not_and,fi,cM,gK,eY,bO] at h1 h2;refine ⟨?_,?_,?_,?_,?_,?_,hx⟩ <;> by_cases hk:k=4 <;> simp_all <;> omega
end OT
namespace OT
open Go
def sj (x:gi):List UInt8:=UInt8.ofInt x.1::UInt8.ofInt (List.length x.2.1:Int)::x.2.1
def kM (xs:List gi):List UInt8:=xs.flatMap sj
def ta (r:bf):List UInt8:=[(0:UInt8),UInt8.ofInt r.1,UInt8.ofInt r.2.1,UInt8.ofInt r.2.2.1,UInt8.ofInt (List.length r.2.2.2.1:Int)]
def vF (s:Int) (l:List UInt8):Int:=l.foldl (fun s c=>(s*31+(c.toNat:Int)) % 65521) s
def LV (r:bf):List UInt8:=(ta r++kM r.2.2.2.1).set 0 (UInt8.ofInt (af (((ta r++kM r.2.2.2.1).length:Int)+2)))
def yH (r:bf):List UInt8:=LV r++[UInt8.ofInt ((vF 1 (LV r)) / 256),UInt8.ofInt (vF 1 (LV r))]
def Hk (r:bf):Prop:=List.length r.2.2.2.1<=64/\∀ x ∈ r.2.2.2.1,List.length x.2.1<=64
theorem LW {r:bf} (h:qs r=0):Hk r:=by
 have:=ux h;refine ⟨this.2.2.2.2.2.2.1,fun x hx=>?_⟩
 have h2:=this.2.2.2.2.2.2.2 x hx;unfold bl at h2;omega
theorem DT (xs ys:List gi):kM (xs++ys)=kM xs++kM ys:=iX
theorem tc (x:gi) (xs:List gi):kM (x::xs)=sj x++kM xs:=eL
theorem DU {xs:List gi} (h:∀ x ∈ xs,List.length x.2.1<=64):(kM xs).length<=66*xs.length:=by
 induction xs with
 | nil=>simp[kM]
 | cons x xs ih=>
  have h1:=ih fun y hy=>h y (by simp[hy]);have h2:=h x (by simp);rw[tc];simp only[aS,aP,sj];omega
theorem WA (r:bf):(LV r).length=5+(kM r.2.2.2.1).length:=by simp[LV,ta];omega
theorem I4 (r:bf):(yH r).length=7+(kM r.2.2.2.1).length:=by
 simp only[yH,aS,WA,aP,bB];omega
theorem MZ {r:bf} (h:Hk r):(yH r).length<=5000:=by
 rw[I4];have:=DU h.2;have:=h.1;omega
theorem Oe:∀ (l:List UInt8) (s:Int),0<=s/\s < 65521->0<=vF s l/\vF s l < 65521
 | [],s,h=>h
 | c::l,s,h=>Oe l ((s*31+(c.toNat:Int)) % 65521) ⟨Int.emod_nonneg _ (by omega),Int.emod_lt_of_pos _ (by omega)⟩
theorem Sx {s:Int} (h:0<=s):UInt8.ofInt (s.tmod 256)=UInt8.ofInt s:=by
 rw[jF h];apply UInt8.toBitVec_inj.1;apply BitVec.eq_of_toNat_eq;simp[UInt8.ofInt,gH]
theorem DV:∀ (xs:List gi) (s:List UInt8),xs.foldl (fun s x=>s++sj x) s=s++kM xs
 | [],s=>by simp[kM]
 | x::xs,s=>by rw[eE,DV,tc,bL]
theorem LX {s:Int} {c:UInt8} (h:0<=s/\s < 65521):((af ((af (s*(31:Int)))+(af (c.toNat:Int)))).tmod (65521:Int))=(s*31+(c.toNat:Int)) % 65521:=by
 have hc:=c.toNat_lt;have e1:af (s*31)=s*31:=bt (by omega);have e2:af (c.toNat:Int)=(c.toNat:Int):=bt (by omega);have e3:af (s*31+(c.toNat:Int))=s*31+(c.toNat:Int):=bt (by omega);rw[e1,e2,e3,jF (by omega)]
theorem P2 (l:List UInt8) (h:l.length<=100000):mX.aa (l,())=some (vF 1 l,()):=by
 refine ah (k:=100001) fun k hk=>(mX.ae k _).trans ?_
 have:=b9 (B:=fun self v=>mX.b0 self (fun z=>mX.q0 (l,()) z) (l,()) v) l (fun (s:Int) (i:Int)=>(s,i)) (fun _ s c=>.inr ((s*31+(c.toNat:Int)) % 65521)) (fun s=>(s,())) (fun _ s=>0<=s/\s < 65521) (by rw[ai];omega)
  (fun i hi s self hI=>by
   show mX.b0 _ _ _ _=_;unfold mX.b0;have aj:(i:Int) < (l.length:Int):=by omega
   simp only[aj,aC,aJ,aK,aI,aH,aA hi,aB,LX hI])
  (fun i hi s s' hI hs=>by injection hs with hs;omega) (fun s self _=>by
   show mX.b0 _ _ _ _=_;unfold mX.b0
   simp[mX.q0,mX.q0]) 1 (by omega) k (by omega)
 rw[h_] at this;exact this
theorem M0 (r:bf) (h:Hk r):mm.aa (r,())=some (yH r,()):=by
 obtain ⟨K,T,P,xs,⟨⟩⟩:=r;obtain ⟨h1,h2⟩:=h;simp only at h1 h2;refine ah (k:=100) fun k hk=>(mm.ae k _).trans ?_
 have hlen:∀ i,(kM (xs.take i)).length<=66*64:=fun i=>by
  have:=DU (xs:=xs.take i) (fun x hx=>h2 x (dZ hx));have:(xs.take i).length<=xs.length:=by simp;omega
  omega
 have:=b9 (B:=fun self v=>mm.b0 self (fun z=>mm.q0 ((K,T,P,xs,()),()) z) ((K,T,P,xs,()),()) v) xs (fun (s:List UInt8) (i:Int)=>(s,i)) (fun _ s x=>.inr (s++sj x)) (fun s=>(let q:=s.set 0 (UInt8.ofInt (af ((s.length:Int)+2)));(q++[UInt8.ofInt ((vF 1 q) / 256),UInt8.ofInt (vF 1 q)],())))
  (fun i s=>s=ta (K,T,P,xs,())++kM (xs.take i)) (by rw[ai];omega)
  (fun i hi s self hI=>by
   show mm.b0 _ _ _ _=_;unfold mm.b0;have aj:(i:Int) < (xs.length:Int):=by omega
   have hs:s.length<=5000:=by rw[hI];have:=hlen i;simp only[aS,ta,aP,bB];omega
   have hx:=h2 xs[i] (aQ hi);simp only[aj,aC,aJ,aK,aI,aH,aA hi,aB];generalize xs[i]=x at hx;have c1:s.length+[UInt8.ofInt x.1,UInt8.ofInt (List.length x.2.1:Int)].length<=bz:=da (by simp only[aP,bB];omega);have c2:(s++[UInt8.ofInt x.1,UInt8.ofInt (List.length x.2.1:Int)]).length+List.length x.2.1<=bz:=da (by simp only[aS,aP,bB];omega)
   simp only[c1,c2,aI,sj,bL,cO,bP])
  (fun i hi s s' hI hs=>by
   injection hs with hs;rw[<-hs,hI,eM hi,DT,bL]
   simp[kM]) (fun s self hI=>by
   show mm.b0 _ _ _ _=_;unfold mm.b0;have hs:5<=s.length/\s.length<=5000:=by rw[hI];have:=hlen xs.length;simp only[aS,ta,aP,bB];omega
   simp only[bC,aD,aE,mm.q0,mm.q0]
   have c0:(0:Int)<=0/\(0:Int) < (s.length:Int):=⟨by omega,by omega⟩
   rw[aU c0,aA (by omega:0 < s.length)];simp only[aB];generalize hq:s.set 0 (UInt8.ofInt (af ((s.length:Int)+2)))=q;have hql:q.length=s.length:=by rw[<-hq];simp
   rw[P2 q (by omega)];simp only[aB];have hb:=Oe q 1 (by omega);have c1:q.length+[UInt8.ofInt (af ((vF 1 q).tdiv 256)),UInt8.ofInt ((vF 1 q).tmod 256)].length<=bz:=da (by simp only[aP,bB];omega)
   rw[aU c1,Sx hb.1,Int.tdiv_eq_ediv_of_nonneg hb.1,bt (by omega)]) (ta (K,T,P,xs,())) (by simp[kM]) k (by omega)
 rw[h_,DV] at this;exact this
theorem M1 (r:bf) (h:Hk r):ft.aa (r,())=some (yH r,()):=by
 obtain ⟨K,T,P,xs,⟨⟩⟩:=r;obtain ⟨h1,h2⟩:=h;simp only at h1 h2;refine ah (k:=6000) fun k hk=>(ft.ae k _).trans ?_
 have hlen:∀ i,(kM (xs.take i)).length<=66*64:=fun i=>by
  have:=DU (xs:=xs.take i) (fun x hx=>h2 x (dZ hx));have:(xs.take i).length<=xs.length:=by simp;omega
  omega
 have aa7:∀ q:List UInt8,q.length<=5000->ft.r1 k ((K,T,P,xs,()),()) q (q.length:Int) (1,0)=some (q++[UInt8.ofInt ((vF 1 q) / 256),UInt8.ofInt (vF 1 q)],()):=fun q hq=>by
  have:=b9 (B:=fun self v=>ft.b1 self (fun z=>ft.q1 ((K,T,P,xs,()),()) q (q.length:Int) z) ((K,T,P,xs,()),()) q (q.length:Int) v) q (fun (s:Int) (i:Int)=>(s,i)) (fun _ s c=>.inr ((s*31+(c.toNat:Int)) % 65521)) (fun s=>(q++[UInt8.ofInt (s / 256),UInt8.ofInt s],())) (fun _ s=>0<=s/\s < 65521) (by rw[ai];omega)
   (fun i hi s self hI=>by
    show ft.b1 _ _ _ _ _ _=_;unfold ft.b1;have aj:(i:Int) < (q.length:Int):=by omega
    have ru:(0:Int)<=(i:Int)/\(i:Int) < (q.length:Int):=by omega
    simp only[aj,ru,cU,aC,aJ,aK,aI,aH,aA hi,aB,LX hI])
   (fun i hi s s' hI hs=>by injection hs with hs;omega) (fun s self hI=>by
    show ft.b1 _ _ _ _ _ _=_;unfold ft.b1;simp only[bC,aD,aE,ft.q1,ft.q1];have c1:q.length+[UInt8.ofInt (s.fdiv (2 ^ 8)),UInt8.ofInt s].length<=bz:=da (by simp only[aP,bB];omega);rw[aU c1,gS s (by omega:(0:Int)<=2 ^ 8)]
    rfl) 1 (by omega) k (by omega)
  rw[h_] at this;exact this
 have:=b9 (B:=fun self v=>ft.b0 self (fun z=>ft.Q0 k ((K,T,P,xs,()),()) z) ((K,T,P,xs,()),()) v) xs (fun (s:List UInt8) (i:Int)=>(s,i)) (fun _ s x=>.inr (s++sj x)) (fun s=>(let q:=s.set 0 (UInt8.ofInt (af ((s.length:Int)+2)));(q++[UInt8.ofInt ((vF 1 q) / 256),UInt8.ofInt (vF 1 q)],())))
  (fun i s=>s=ta (K,T,P,xs,())++kM (xs.take i)) (by rw[ai];omega)
  (fun i hi s self hI=>by
   show ft.b0 _ _ _ _=_;unfold ft.b0;have aj:(i:Int) < (xs.length:Int):=by omega
   have hs:s.length<=5000:=by rw[hI];have:=hlen i;simp only[aS,ta,aP,bB];omega
   have hx:=h2 xs[i] (aQ hi);simp only[aj,aC,aJ,aK,aI,aH,aA hi,aB];generalize xs[i]=x at hx;have c1:s.length+[UInt8.ofInt x.1,UInt8.ofInt (List.length x.2.1:Int)].length<=bz:=da (by simp only[aP,bB];omega);have c2:(s++[UInt8.ofInt x.1,UInt8.ofInt (List.length x.2.1:Int)]).length+List.length x.2.1<=bz:=da (by simp only[aS,aP,bB];omega)
   simp only[c1,c2,aI,sj,bL,cO,bP])
  (fun i hi s s' hI hs=>by
   injection hs with hs;rw[<-hs,hI,eM hi,DT,bL]
   simp[kM]) (fun s self hI=>by
   show ft.b0 _ _ _ _=_;unfold ft.b0;have hs:5<=s.length/\s.length<=5000:=by rw[hI];have:=hlen xs.length;simp only[aS,ta,aP,bB];omega
   simp only[bC,aD,aE,ft.Q0,ft.q0]
   have c0:(0:Int)<=0/\(0:Int) < (s.length:Int):=⟨by omega,by omega⟩
   rw[aU c0,aA (by omega:0 < s.length)];simp only[aB];generalize hq:s.set 0 (UInt8.ofInt (af ((s.length:Int)+2)))=q;have hql:q.length=s.length:=by rw[<-hq];simp
   exact aa7 q (by omega)) (ta (K,T,P,xs,())) (by simp[kM]) k (by omega)
 rw[h_,DV] at this;exact this
end OT
namespace OT
open Go
def cd (D:List UInt8) (i:Nat):Nat:=(D.getD i 0).toNat
theorem qu (D:List UInt8) (i:Nat):cd D i < 256:=jS _
theorem pG {D:List UInt8} {i:Nat} (h:i < D.length):D[i]?=some D[i]/\(D[i]).toNat=cd D i:=⟨aA h,by simp[cd,h]⟩
def piece (D:List UInt8) (Yz n:Nat):gi:=((cd D Yz:Int),(D.take (Yz+2+n)).drop (Yz+2),())
def pI (D:List UInt8) (e:Nat):Nat->Nat->List gi->Option (List gi×Nat)
 | 0,a,rs=>some (rs,a)
 | c+1,a,rs=>if e < a+2 then none else if e < a+2+cd D (a+1) then none else pI D e c (a+2+cd D (a+1)) (rs++[piece D a (cd D (a+1))])
def pS (D:List UInt8):Nat->Nat->List gi->List gi
 | 0,_,rs=>rs
 | c+1,a,rs=>if a+2<=D.length then (if D.length < a+2+cd D (a+1) then rs else pS D c (a+2+cd D (a+1)) (rs++[piece D a (cd D (a+1))])) else rs
theorem P3 {D:List UInt8} {e:Nat} (he:e<=D.length):∀ (c a:Nat) (rs I5:List gi) (a':Nat),pI D e c a rs=some (I5,a')->pS D c a rs=I5
 | 0,a,rs,I5,a',h=>by injection h with h;injection h
 | c+1,a,rs,I5,a',h=>by
  simp only[pI] at h;split at h
  ·cases h
  ·split at h
   ·cases h
   ·simp only[pS];rw[aU (by omega),bA (by omega)];exact P3 he c _ _ _ _ h
theorem Of {e:Nat}:∀ (ys:List gi) (pre yn:List UInt8) (rs:List gi),(∀ y ∈ ys,0<=y.1/\y.1<=63/\1<=bl y/\bl y<=64)->pre.length+(kM ys).length<=e ->
  pI (pre++kM ys++yn) e ys.length pre.length rs=some (rs++ys,pre.length+(kM ys).length)
 | [],pre,yn,rs,_,_=>by simp[pI,kM]
 | y::ys,pre,yn,rs,h,he=>by
  obtain ⟨b1,b2,b3,b4⟩:=h y (by simp);unfold bl at b3 b4;have hD:pre++kM (y::ys)++yn=(pre++sj y)++kM ys++yn:=by rw[tc];simp only[bL]
  have Ls:(sj y).length=2+List.length y.2.1:=by simp only[sj,aP];omega
  have I0:(kM (y::ys)).length=2+List.length y.2.1+(kM ys).length:=by rw[tc,aS,Ls]
  have h8:∀ n:Int,0<=n->n<=64->((UInt8.ofInt n).toNat:Int)=n:=fun n h1 h2=>by
   simp[UInt8.ofInt,gH];omega
  have g0:(cd (pre++kM (y::ys)++yn) pre.length:Int)=y.1:=by
   unfold cd;rw[tc];simp only[sj,bL,eS];rw[bV (aN _)]
   simpa using h8 y.1 b1 (by omega)
  have g1:cd (pre++kM (y::ys)++yn) (pre.length+1)=List.length y.2.1:=by
   unfold cd;rw[tc];simp only[sj,bL,eS];rw[bV (by omega)];have:=h8 (List.length y.2.1:Int) (by omega) b4;simp only[iB,cO,fJ,eN,jM];omega
  have g2:piece (pre++kM (y::ys)++yn) pre.length (List.length y.2.1)=y:=by
   obtain ⟨yi,yb,⟨⟩⟩:=y;unfold piece;have g0:(cd (pre++kM ((yi,yb,())::ys)++yn) pre.length:Int)=yi:=g0;rw[g0]
   have:((pre++kM ((yi,yb,())::ys)++yn).take (pre.length+2+yb.length)).drop (pre.length+2)=yb:=by
    rw[tc];simp only[sj,bL,cO];rw[List.take_append,gV];have e1:List.take (pre.length+2+yb.length) pre=pre:=iD (by omega);have e2:pre.length+2+yb.length - pre.length=yb.length+1+1:=by omega
    rw[e1,e2];have e3:List.drop (pre.length+2) pre=[]:=dN (by omega);have e4:pre.length+2 - pre.length=1+1:=by omega
    rw[e3,e4];simp
   show (yi,((pre++kM ((yi,yb,())::ys)++yn).take (pre.length+2+yb.length)).drop (pre.length+2),())=(yi,yb,())
   rw[this]
  simp only[aP,pI];rw[bA (by omega),g1,bA (by omega),g2,hD];have hl:(pre++sj y).length=pre.length+2+List.length y.2.1:=by rw[aS,Ls];omega
  have:=Of (e:=e) ys (pre++sj y) yn (rs++[y]) (fun z hz=>h z (by simp[hz])) (by rw[hl];omega);rw[hl] at this;rw[this,I0];simp only[bL,cO,bP];congr 2;omega
def pT (d:List UInt8):Option (bf×Nat):=
 if d.length < 7\/cd d 0 < 7\/d.length < cd d 0 then none else
 match pI (d.take (cd d 0)) (cd d 0 - 2) (cd d 4) 5 [] with
 | none=>none
 | some (rs,a)=>if a=cd d 0 - 2/\qs ((cd d 1:Int),(cd d 2:Int),(cd d 3:Int),rs,())=0/\yH ((cd d 1:Int),(cd d 2:Int),(cd d 3:Int),rs,())=d.take (cd d 0) then
   some (((cd d 1:Int),(cd d 2:Int),(cd d 3:Int),rs,()),cd d 0) else none
theorem LY {d:List UInt8} {n i:Nat} (h:i < n) (hn:n<=d.length):cd (d.take n) i=cd d i:=by
 unfold cd;simp only[eS];rw[bK,aU h]
theorem ZN {D:List UInt8} (hl:7<=D.length) {rs:List gi} (I6:pS D (cd D 4) 5 []=rs) {k t p:Int} (hr:qs (k,t,p,rs,())=0) (hp:yH (k,t,p,rs,())=D):pI D (D.length - 2) (cd D 4) 5 []=some (rs,D.length - 2):=by
 have hg:=ux hr;have h1:=hg.2.2.2.2.2.2.1;have h2:=hg.2.2.2.2.2.2.2;simp only at h1 h2;have hlen:=I4 (k,t,p,rs,());rw[hp] at hlen;simp only at hlen
 have YA:∃ (pre yn:List UInt8),pre.length=5/\D=pre++kM rs++yn/\pre[4]?=some (UInt8.ofInt (List.length rs:Int)):=by
  refine ⟨(ta (k,t,p,rs,())).set 0 (UInt8.ofInt (af (((ta (k,t,p,rs,())++kM rs).length:Int)+2))),[UInt8.ofInt ((vF 1 (LV (k,t,p,rs,()))) / 256),UInt8.ofInt (vF 1 (LV (k,t,p,rs,())))],by simp[ta],?_,by simp[ta]⟩
  rw[<-hp];rfl
 obtain ⟨pre,yn,s1,s2,s3⟩:=YA
 have h4:cd D 4=List.length rs:=by
  unfold cd;rw[s2];simp only[eS,bL];rw[bW (by omega),s3];simp[UInt8.ofInt,gH];omega
 rw[h4];have:=Of (e:=D.length - 2) rs pre yn [] h2 (by omega);rw[<-s2,s1] at this;rw[this];simp only[bP];congr 2;omega
theorem pH {n:Nat} (h:n<=4000000000):af (n:Int)=(n:Int):=bt (by omega)
theorem LZ (a b:List UInt8) (h:a.length<=100000):d0.aa (a,b,())=some (decide (a=b),()):=by
 refine ah (k:=100001) fun k hk=>(d0.ae k _).trans ?_;unfold d0.p;by_cases hl:a.length=b.length;rotate_left
 ·have h1:¬ ((a.length:Int)=(b.length:Int)):=by omega
  have h2:¬ a=b:=fun e=>hl (by rw[e]);simp only[h1,h2,aD,aV,aJ]
 have nH:(a.length:Int)=(b.length:Int):=by omega
 simp only[nH,aC,aO,aE]
 have key:∀ (m i:Nat),a.length - i=m->i<=a.length->∀ j,m < j->aq (fun self v=>d0.B0 k self (fun z=>d0.Q0 k (a,b,()) z) (a,b,()) v) j (i:Int)=some (decide (a.drop i=b.drop i),()):=by
  intro m
  induction m with
  | zero=>
   intro i hm hi j hj;have:i=a.length:=by omega
   subst this
   cases j with
   | zero=>omega
   | succ j=>
    show d0.b0 _ _ _ _=_;unfold d0.b0;simp only[bC,aD,aE,d0.Q0,d0.q0];rw[List.drop_length,hl,List.drop_length];simp
  | succ m ih=>
   intro i hm hi j hj;have aj:i < a.length:=by omega
   cases j with
   | zero=>omega
   | succ j=>
    show d0.b0 _ _ _ _=_;unfold d0.b0;have aa8:(i:Int) < (a.length:Int):=by omega
    have VH:i < b.length:=by omega
    have hw:af ((i:Int)+1)=((i+1:Nat):Int):=by rw[bt (by omega)];omega
    simp only[aa8,aC,aJ,aK,aI,aH,aA aj,aA VH,aB,hw];rw[cZ aj,cZ VH];by_cases he:a[i]=b[i]
    ·simp only[he,aC,aO,aE,cV,dY];exact ih (i+1) (by omega) (by omega) j (by omega)
    ·have:¬ (((a[i]).toNat:Int)=((b[i]).toNat:Int)):=fun e=>he (jP.1 (by omega));have h2:¬ (a[i]::a.drop (i+1)=b[i]::b.drop (i+1)):=fun e=>he (by injection e);simp only[this,h2,aD,aV,aJ]
 have:=key a.length 0 (by omega) (by omega) k (by omega);simp only[eD] at this;exact this
def P4:bf:=((0:Int),(0:Int),(0:Int),([]:List gi),())
theorem Sy {D:List UInt8} (hD:7<=D.length) (hD2:D.length<=255) {a1:kP.Arg} {e0:(bf×Int)->Option kP.Out} {K T P N:Int} (hN:0<=N/\N<=255) {k:Nat} :
  ∀ (c a i:Nat) (rs:List gi),(i:Int)+c=N->a<=D.length - 2->rs.length<=i->∀ j,c < j ->
   aq (fun self v=>kP.B0 k self e0 a1 D ((D.length - 2:Nat):Int) N v) j ((K,T,P,rs,()),(a:Int),(i:Int))=match pI D (D.length - 2) c a rs with
    | none=>some (P4,(0:Int),())
    | some (I5,a')=>e0 ((K,T,P,I5,()),(a':Int)):=by
 intro c
 induction c with
 | zero=>
  intro a i rs hi ha I6 j hj
  cases j with
  | zero=>omega
  | succ j=>
   show kP.b0 _ _ a1 _ _ _ _=_;unfold kP.b0;have:¬ (i:Int) < N:=by omega
   simp only[this,aD,aE,pI]
 | succ c ih=>
  intro a i rs hi ha I6 j hj
  cases j with
  | zero=>omega
  | succ j=>
   show kP.b0 _ _ a1 _ _ _ _=_;unfold kP.b0;have h1:(i:Int) < N:=by omega
   have e1:af ((a:Int)+2)=((a+2:Nat):Int):=by rw[bt (by omega)];omega
   have e2:af ((a:Int)+1)=((a+1:Nat):Int):=by rw[bt (by omega)];omega
   have e3:af ((i:Int)+1)=((i+1:Nat):Int):=by rw[bt (by omega)];omega
   simp only[h1,aC,aJ,e1,e2,e3,pI];by_cases h2:D.length - 2 < a+2
   ·have:((D.length - 2:Nat):Int) < ((a+2:Nat):Int):=by omega
    simp only[this,aC,aJ,aU h2];rfl
   have IH:¬ ((D.length - 2:Nat):Int) < ((a+2:Nat):Int):=by omega
   obtain ⟨g1,g2⟩:=pG (show a+1 < D.length by omega);obtain ⟨g3,g4⟩:=pG (show a < D.length by omega);have hb:=qu D (a+1);have Ny:=qu D a;simp only[IH,aD,aE,bA h2,aK,aI,aH,g1,g3,aB,g2,g4,pH (show cd D (a+1)<=4000000000 by omega),pH (show cd D a<=4000000000 by omega)];have e4:af (((a+2:Nat):Int)+(cd D (a+1):Int))=((a+2+cd D (a+1):Nat):Int):=by rw[bt (by omega)];omega
   have e5:af ((2:Int)+(cd D (a+1):Int))=((2+cd D (a+1):Nat):Int):=by rw[bt (by omega)];omega
   have e6:af ((a:Int)+((2+cd D (a+1):Nat):Int))=((a+2+cd D (a+1):Nat):Int):=by rw[bt (by omega)];omega
   simp only[e4,e5,e6];by_cases h3:D.length - 2 < a+2+cd D (a+1)
   ·have:((D.length - 2:Nat):Int) < ((a+2+cd D (a+1):Nat):Int):=by omega
    simp only[this,aC,aJ,aU h3];rfl
   have Ku:¬ ((D.length - 2:Nat):Int) < ((a+2+cd D (a+1):Nat):Int):=by omega
   have h4:((a+2:Nat):Int)<=((a+2+cd D (a+1):Nat):Int)/\((a+2+cd D (a+1):Nat):Int)<=(D.length:Int):=by omega
   simp only[Ku,aD,aE,bA h3,h4,cU,aI,aH];rw[vv _ (by simp only[bI,bQ];omega)];have hc:rs.length+[(((cd D a:Nat):Int),((D.take (a+2+cd D (a+1))).drop (a+2)),())].length<=bz:=da (by simp only[aP,bB];omega);simp only[aB,hc,aI];exact ih (a+2+cd D (a+1)) (i+1) _ (by omega) (by omega) (by simp;omega) j (by omega)
theorem Sz {D:List UInt8} (hD:7<=D.length) (hD2:D.length<=255) {e0:bf->Option ml.Out} {K T P:Int} {k:Nat} :
  ∀ (c a i:Nat) (rs:List gi),i+c=cd D 4->a<=600->rs.length<=i->∀ j,c < j ->
   aq (fun self v=>ml.B0 k self e0 (D,()) v) j ((K,T,P,rs,()),(a:Int),(i:Int))=e0 (K,T,P,pS D c a rs,()):=by
 intro c
 induction c with
 | zero=>
  intro a i rs hi ha I6 j hj
  cases j with
  | zero=>omega
  | succ j=>
   show ml.b0 _ _ (D,()) _=_;unfold ml.b0;obtain ⟨g1,g2⟩:=pG (show 4 < D.length by omega);have hb:=qu D 4;simp only[g1,aB,g2,pH (show cd D 4<=4000000000 by omega)];have:¬ (i:Int) < (cd D 4:Int):=by omega
   simp only[this,aD,aE,pS]
 | succ c ih=>
  intro a i rs hi ha I6 j hj
  cases j with
  | zero=>omega
  | succ j=>
   show ml.b0 _ _ (D,()) _=_;unfold ml.b0;obtain ⟨g1,g2⟩:=pG (show 4 < D.length by omega);have hb4:=qu D 4;have h1:(i:Int) < (cd D 4:Int):=by omega
   have e1:af ((a:Int)+2)=((a+2:Nat):Int):=by rw[bt (by omega)];omega
   have e2:af ((a:Int)+1)=((a+1:Nat):Int):=by rw[bt (by omega)];omega
   have e3:af ((i:Int)+1)=((i+1:Nat):Int):=by rw[bt (by omega)];omega
   simp only[g1,aB,g2,pH (show cd D 4<=4000000000 by omega),h1,aC,aJ,e1,e2,e3,pS];by_cases h2:a+2<=D.length;rotate_left
   ·have:¬ ((a+2:Nat):Int)<=(D.length:Int):=by omega
    simp only[this,aD,aE,bA h2]
   have IH:((a+2:Nat):Int)<=(D.length:Int):=by omega
   obtain ⟨g5,g6⟩:=pG (show a+1 < D.length by omega);obtain ⟨g3,g4⟩:=pG (show a < D.length by omega);have hb:=qu D (a+1);have Ny:=qu D a;simp only[IH,aC,aJ,aU h2,aK,aI,aH,g5,g3,aB,g6,g4,pH (show cd D (a+1)<=4000000000 by omega),pH (show cd D a<=4000000000 by omega)];have e4:af (((a+2:Nat):Int)+(cd D (a+1):Int))=((a+2+cd D (a+1):Nat):Int):=by rw[bt (by omega)];omega
   simp only[e4];by_cases h3:D.length < a+2+cd D (a+1)
   ·have:(D.length:Int) < ((a+2+cd D (a+1):Nat):Int):=by omega
    simp only[this,aC,aJ,aU h3]
   have Ku:¬ (D.length:Int) < ((a+2+cd D (a+1):Nat):Int):=by omega
   have h4:((a+2:Nat):Int)<=((a+2+cd D (a+1):Nat):Int)/\((a+2+cd D (a+1):Nat):Int)<=(D.length:Int):=by omega
   simp only[Ku,aD,aE,bA h3,h4,cU,aI,aH];rw[xo _ (by simp only[bI,bQ];omega)];have hc:rs.length+[(((cd D a:Nat):Int),((D.take (a+2+cd D (a+1))).drop (a+2)),())].length<=bz:=da (by simp only[aP,bB];omega);simp only[aB,hc,aI];exact ih (a+2+cd D (a+1)) (i+1) _ (by omega) (by omega) (by simp;omega) j (by omega)
theorem EO (d:List UInt8) (hd:d.length<=2000000000):kP.aa (d,())=some (match pT d with | none=>(P4,(0:Int),()) | some (r,n)=>(r,(n:Int),())):=by
 refine ah (k:=300) fun k hk=>(kP.ae k _).trans ?_;unfold kP.p pT;by_cases h7:d.length < 7
 ·have:(d.length:Int) < 7:=by omega
  simp only[this,aC,aJ,h7,jO,aI];rfl
 have YB:¬ (d.length:Int) < 7:=by omega
 obtain ⟨g1,g2⟩:=pG (show 0 < d.length by omega);have hb:=qu d 0;simp only[YB,aD,aE,h7,jK,g1,aB,g2,pH (show cd d 0<=4000000000 by omega)];by_cases hl:d.length < cd d 0
 ·have:(d.length:Int) < (cd d 0:Int):=by omega
  simp only[this,aC,aJ,hl,or_true,aI];rfl
 have nH:¬ (d.length:Int) < (cd d 0:Int):=by omega
 by_cases hm:cd d 0 < 7
 ·have:(cd d 0:Int) < 7:=by omega
  simp only[nH,aD,aE,this,aC,aJ,hm,jO,aI];rfl
 have A9:¬ (cd d 0:Int) < 7:=by omega
 have jd:0<=(cd d 0:Int)/\(cd d 0:Int)<=(d.length:Int):=by omega
 simp only[nH,A9,aD,aE,hl,hm,or_self,aL,jd,cU,aI,aH,eD];generalize SA:d.take (cd d 0)=D;have YC:D.length=cd d 0:=by rw[<-SA];simp;omega
 have ga:∀ i,i < cd d 0->cd D i=cd d i:=fun i hi=>by rw[<-SA];exact LY hi (by omega)
 obtain ⟨q1,q2⟩:=pG (show 1 < D.length by omega);obtain ⟨q3,q4⟩:=pG (show 2 < D.length by omega);obtain ⟨q5,q6⟩:=pG (show 3 < D.length by omega);obtain ⟨q7,q8⟩:=pG (show 4 < D.length by omega);have b1:=qu d 1;have b2:=qu d 2;have b3:=qu d 3;have b4:=qu d 4;have ew:af ((D.length:Int) - 2)=((D.length - 2:Nat):Int):=by rw[bt (by omega)];omega
 simp only[q1,q3,q5,q7,aB,q2,q4,q6,q8,ga 1 (by omega),ga 2 (by omega),ga 3 (by omega),ga 4 (by omega),ew,pH (show cd d 1<=4000000000 by omega),pH (show cd d 2<=4000000000 by omega),pH (show cd d 3<=4000000000 by omega),pH (show cd d 4<=4000000000 by omega)];have hp:=Sy (D:=D) (by omega) (by omega) (a1:=(d,())) (e0:=fun z=>kP.Q0 k (d,()) D ((D.length - 2:Nat):Int) (cd d 4:Int) z) (K:=(cd d 1:Int)) (T:=(cd d 2:Int)) (P:=(cd d 3:Int)) (N:=(cd d 4:Int)) (by omega) (k:=k) (cd d 4) 5 0 [] (by omega) (by omega) (aN _) k (by omega);refine aX hp ?_;rw[<-YC]
 cases wv:pI D (D.length - 2) (cd d 4) 5 [] with
 | none=>rfl
 | some q=>
  obtain ⟨rs,a⟩:=q;simp only[kP.Q0,kP.q0];by_cases ha:a=D.length - 2;rotate_left
  ·have:¬ ((a:Int)=((D.length - 2:Nat):Int)):=by omega
   simp only[this,aD,aV,aJ,ha,gB,aL];rfl
  subst ha;simp only[aC,aO,aE,Ck,aB,dY];by_cases hr:qs ((cd d 1:Int),(cd d 2:Int),(cd d 3:Int),rs,())=0;rotate_left
  ·simp only[hr,aD,aV,aJ,gB,aL];rfl
  have hs:=LW hr;have ip:=MZ hs;simp only[hr,aC,aO,aE,M1 _ hs,aB,dY];rw[LZ _ _ (by omega)];by_cases he:yH ((cd d 1:Int),(cd d 2:Int),(cd d 3:Int),rs,())=D
  ·simp only[he,aC,aB,aO,aE,aI]
  ·simp only[he,aD,aB,aV,aJ,aL];rfl
theorem EP (d:List UInt8) (hd:d.length<=2000000000):lr.aa (d,())=some (match pT d with | none=>(((5:Int),(0:Int),P4,()),()) | some (r,n)=>(((0:Int),(n:Int),r,()),())):=by
 refine ah (k:=300) fun k hk=>(lr.ae k _).trans ?_;show lr.p _=_;unfold lr.p pT;by_cases h7:d.length < 7
 ·have:(d.length:Int) < 7:=by omega
  simp only[this,aC,aJ,h7,jO,aI];rfl
 have YB:¬ (d.length:Int) < 7:=by omega
 obtain ⟨g1,g2⟩:=pG (show 0 < d.length by omega);have hb:=qu d 0;simp only[YB,aD,aE,h7,jK,g1,aB,g2,pH (show cd d 0<=4000000000 by omega)];by_cases hm:cd d 0 < 7
 ·have:(cd d 0:Int) < 7:=by omega
  simp only[this,aC,aJ,hm,jO,aI];rfl
 have A9:¬ (cd d 0:Int) < 7:=by omega
 by_cases hl:d.length < cd d 0
 ·have:(d.length:Int) < (cd d 0:Int):=by omega
  simp only[A9,aD,aE,this,aC,aJ,hl,or_true,aI];rfl
 have nH:¬ (d.length:Int) < (cd d 0:Int):=by omega
 have jd:0<=(cd d 0:Int)/\(cd d 0:Int)<=(d.length:Int):=by omega
 simp only[nH,A9,aD,aE,hl,hm,or_self,aL,jd,cU,aI,aH,eD];generalize SA:d.take (cd d 0)=D;have YC:D.length=cd d 0:=by rw[<-SA];simp;omega
 have ga:∀ i,i < cd d 0->cd D i=cd d i:=fun i hi=>by rw[<-SA];exact LY hi (by omega)
 have ZO:ml.aa (D,())=some (((cd d 1:Int),(cd d 2:Int),(cd d 3:Int),pS D (cd d 4) 5 [],()),()):=by
  refine ah (k:=300) fun k hk=>(ml.ae k _).trans ?_;unfold ml.p;obtain ⟨q1,q2⟩:=pG (show 1 < D.length by omega);obtain ⟨q3,q4⟩:=pG (show 2 < D.length by omega);obtain ⟨q5,q6⟩:=pG (show 3 < D.length by omega);have b1:=qu d 1;have b2:=qu d 2;have b3:=qu d 3;have b4:=qu d 4;simp only[q1,q3,q5,aB,q2,q4,q6,ga 1 (by omega),ga 2 (by omega),ga 3 (by omega),pH (show cd d 1<=4000000000 by omega),pH (show cd d 2<=4000000000 by omega),pH (show cd d 3<=4000000000 by omega)];have hp:=Sz (D:=D) (by omega) (by omega) (e0:=fun z=>ml.Q0 k (D,()) z) (K:=(cd d 1:Int)) (T:=(cd d 2:Int)) (P:=(cd d 3:Int)) (k:=k) (cd D 4) 5 0 [] (by omega) (by omega) (aN _) k (by rw[ga 4 (by omega)];omega);refine aX hp ?_;rw[ga 4 (by omega)];rfl
 rw[ZO];simp only[aB,Hj];rw[<-YC];generalize I6:pS D (cd d 4) 5 []=rs;by_cases hr:qs ((cd d 1:Int),(cd d 2:Int),(cd d 3:Int),rs,())=0
 ·have hs:=LW hr;simp only[hr,aC,aO,aE,M0 _ hs,aB];by_cases he:yH ((cd d 1:Int),(cd d 2:Int),(cd d 3:Int),rs,())=D
  ·have h4:cd D 4=cd d 4:=ga 4 (by omega);have wv:=ZN (D:=D) (by omega) (by rw[h4];exact I6) hr he;rw[h4] at wv;rw[wv];simp[he,hr]
  ·simp only[he,aD,aV,aJ]
   cases wv:pI D (D.length - 2) (cd d 4) 5 [] with
   | none=>rfl
   | some q=>
    obtain ⟨I5,a'⟩:=q;have:=P3 (by omega) _ _ _ _ _ wv;rw[I6] at this;subst this;simp only[he,and_false,aL];rfl
 ·simp only[hr,aD,aV,aJ]
  cases wv:pI D (D.length - 2) (cd d 4) 5 [] with
  | none=>rfl
  | some q=>
   obtain ⟨I5,a'⟩:=q;have:=P3 (by omega) _ _ _ _ _ wv;rw[I6] at this;subst this;simp only[hr,gB,and_false,aL];rfl
end OT
namespace OT
open Go
theorem vX {d:List UInt8} {r:bf} {n:Nat} (h:pT d=some (r,n)):7<=n/\n<=d.length/\qs r=0:=by
 unfold pT at h;split at h
 ·cases h
 ·rename_i hc;split at h
  ·cases h
  ·split at h
   ·rename_i hh;injection h with h;injection h with h1 h2;subst h1;omega
   ·cases h
theorem SB:pT []=none:=rfl
def kW:Nat->List UInt8->List bf×Nat
 | 0,_=>([],0)
 | k+1,d=>match pT d with
  | none=>([],0)
  | some (r,n)=>(r::(kW k (d.drop n)).1,n+(kW k (d.drop n)).2)
theorem tE:∀ (k k':Nat) (d:List UInt8),d.length < k->d.length < k'->kW k d=kW k' d
 | 0,_,_,h,_=>by omega
 | _+1,0,_,_,h=>by omega
 | k+1,k'+1,d,h,h'=>by
  simp only[kW]
  cases hr:pT d with
  | none=>rfl
  | some q=>
   obtain ⟨r,n⟩:=q;have hn:=vX hr;have:(d.drop n).length=d.length - n:=bI;simp only;rw[tE k k' (d.drop n) (by omega) (by omega)]
def td (d:List UInt8):List bf×Nat:=kW (d.length+1) d
theorem Cl (d:List UInt8) (hd:d.length<=1048576):ma.aa (d,())=some ((td d).1,((td d).2:Int),()):=by
 refine ah (k:=1048578) fun k hk=>(ma.ae k _).trans ?_
 have key:∀ (m a:Nat) (acc:List bf),d.length - a=m->a<=d.length->acc.length<=a->∀ j,m < j ->
   aq (fun self v=>ma.B0 k self (d,()) v) j (acc,(a:Int))=some (acc++(kW (m+1) (d.drop a)).1,((a+(kW (m+1) (d.drop a)).2:Nat):Int),()):=by
  intro m
  induction m using Nat.strongRecOn with
  | ind m ih=>
  intro a acc hm ha aa9 j hj
  cases j with
  | zero=>omega
  | succ j=>
   show ma.b0 _ _ _=_;unfold ma.b0;have jd:(0:Int)<=(a:Int)/\(a:Int)<=(d.length:Int):=by omega
   simp only[jd,cU,aI,aH,dV];rw[EO _ (by simp;omega)];simp only[aB,kW]
   cases hr:pT (d.drop a) with
   | none=>simp only[aC,aJ,cH,cY];try rfl
   | some q=>
    obtain ⟨r,n⟩:=q;have hn:=vX hr;have hl:(d.drop a).length=d.length - a:=bI;have h0:¬ ((n:Int)=0):=by omega
    have hc:acc.length+[r].length<=bz:=da (by simp only[aP,bB];omega);have ew:af ((a:Int)+(n:Int))=((a+n:Nat):Int):=by rw[bt (by omega)];omega
    simp only[h0,aD,aE,hc,aI,ew];have:=ih (d.length - (a+n)) (by omega) (a+n) (acc++[r]) rfl (by omega) (by simp;omega) j (by omega);refine aX this ?_;have zY:(d.drop a).drop n=d.drop (a+n):=by rw[dA]
    have to:(d.drop (a+n)).length=d.length - (a+n):=bI;rw[zY,tE m (d.length - (a+n)+1) (d.drop (a+n)) (by omega) (by omega)];simp only[bL,cO,bP,cE]
 have:=key d.length 0 [] rfl (by omega) (aN _) k (by omega);simp only[eD,bP,bE] at this;exact this
theorem Cm (d:List UInt8) (hd:d.length<=1048576):jq.aa (d,())=some ((td d).1,((td d).2:Int),()):=by
 refine ah (k:=1048578) fun k hk=>(jq.ae k _).trans ?_
 have key:∀ (m a:Nat) (acc:List bf),d.length - a=m->a<=d.length->acc.length<=a->∀ j,m < j ->
   aq (fun self v=>jq.B0 k self (fun z=>jq.Q0 k (d,()) z) (d,()) v) j (acc,(a:Int))=some (acc++(kW (m+1) (d.drop a)).1,((a+(kW (m+1) (d.drop a)).2:Nat):Int),()):=by
  intro m
  induction m using Nat.strongRecOn with
  | ind m ih=>
  intro a acc hm ha aa9 j hj
  cases j with
  | zero=>omega
  | succ j=>
   show jq.b0 _ _ (d,()) _=_;unfold jq.b0;by_cases aj:a < d.length;rotate_left
   ·have h1:¬ (a:Int) < (d.length:Int):=by omega
    have h2:d.drop a=[]:=dN (by omega);simp only[h1,aD,aE,jq.Q0,jq.q0,h2,kW,SB,cH,cY]
    try rfl
   have sN:(a:Int) < (d.length:Int):=by omega
   have jd:(0:Int)<=(a:Int)/\(a:Int)<=(d.length:Int):=by omega
   simp only[sN,aC,aJ,jd,cU,aI,aH,dV];rw[EP _ (by simp;omega)];simp only[aB,kW]
   cases hr:pT (d.drop a) with
   | none=>
    have h5:¬ ((5:Int)=0):=by omega
    simp only[h5,aD,aV,aJ,cH,cY,jq.Q0,jq.q0];try rfl
   | some q=>
    obtain ⟨r,n⟩:=q;have hn:=vX hr;have hl:(d.drop a).length=d.length - a:=bI;have hc:acc.length+[r].length<=bz:=da (by simp only[aP,bB];omega);have ew:af ((a:Int)+(n:Int))=((a+n:Nat):Int):=by rw[bt (by omega)];omega
    simp only[aC,aO,aE,hc,aI,ew];have:=ih (d.length - (a+n)) (by omega) (a+n) (acc++[r]) rfl (by omega) (by simp;omega) j (by omega);refine aX this ?_;have zY:(d.drop a).drop n=d.drop (a+n):=by rw[dA]
    have to:(d.drop (a+n)).length=d.length - (a+n):=bI;rw[zY,tE m (d.length - (a+n)+1) (d.drop (a+n)) (by omega) (by omega)];simp only[bL,cO,bP,cE]
 have:=key d.length 0 [] rfl (by omega) (aN _) k (by omega);simp only[eD,bP,bE] at this;exact this
def VR (l:Log):Prop:=List.length l.1<=1048576/\List.length l.2.1<=1048576
def rT (d:List UInt8):Bool:=decide ((td d).2=d.length)
def wO (l:Log):Int:=if 16000 < List.length l.1+List.length l.2.1 then 2 else if rT l.1&&rT l.2.1 then 0 else 5
theorem I7 (d:List UInt8):decide (((td d).2:Int)=(d.length:Int))=rT d:=by
 unfold rT;by_cases h:(td d).2=d.length
 ·simp[h]
 ·have:¬ ((td d).2:Int)=(d.length:Int):=by omega
  simp[h,this]
theorem P5 (l:Log) (h:VR l):qc.aa (l,())=some (wO l,()):=by
 refine ah (k:=0) fun k _=>(qc.ae k _).trans ?_;show qc.p _=_;unfold qc.p wO;obtain ⟨h1,h2⟩:=h;have ew:af ((List.length l.1:Int)+(List.length l.2.1:Int))=((List.length l.1+List.length l.2.1:Nat):Int):=by rw[bt (by omega)];omega
 simp only[ew,Cm _ h1,Cm _ h2,aB,I7];by_cases hc:16000 < List.length l.1+List.length l.2.1
 ·have:(16000:Int) < ((List.length l.1+List.length l.2.1:Nat):Int):=by omega
  simp only[this,hc,aC,aJ,aI]
  try rfl
 ·have:¬ (16000:Int) < ((List.length l.1+List.length l.2.1:Nat):Int):=by omega
  simp only[this,hc,aD,aE,aL];cases rT l.1 <;> cases rT l.2.1 <;> rfl
theorem size_eq (l:Log) (h:VR l):pg.aa (l,())=some (((List.length l.1+List.length l.2.1:Nat):Int),()):=by
 refine ah (k:=0) fun k _=>(pg.ae k _).trans ?_;show pg.p _=_;unfold pg.p;obtain ⟨h1,h2⟩:=h;have ew:af ((List.length l.1:Int)+(List.length l.2.1:Int))=((List.length l.1+List.length l.2.1:Nat):Int):=by rw[bt (by omega)];omega
 rw[ew]
 try rfl
theorem P6 (l:Log) (h:VR l):iN.aa (l,())=some (wO l,()):=by
 refine ah (k:=5) fun k hk=>(iN.ae k _).trans ?_;unfold iN.p wO;rw[size_eq l h]
 have hl:∀ x ∈ [l.1,l.2.1],List.length x<=1048576:=by
  intro x hx;simp only[aY,List.not_mem_nil,or_false] at hx;rcases hx with e | e <;> subst e
  ·exact h.1
  ·exact h.2
 have:=b9 (B:=fun self v=>iN.b0 self (fun z=>iN.q0 (l,()) z) (l,()) v) [l.1,l.2.1] (fun (_:Unit) (i:Int)=>i) (fun _ _ x=>if rT x then .inr () else .inl (5,())) (fun _=>(0,())) (fun _ _=>True) (by rw[ai];simp)
  (fun i hi s self hI=>by
   show iN.b0 _ _ _ _=_;unfold iN.b0;have aj:(i:Int) < ([l.1,l.2.1].length:Int):=by omega
   have jd:(0:Int)<=(i:Int)/\(i:Int) < ([l.1,l.2.1].length:Int):=by omega
   simp only[aj,jd,cU,aC,aJ,aI,aH,aA hi,aB];have hx:=hl [l.1,l.2.1][i] (aQ hi);generalize [l.1,l.2.1][i]=x at hx;rw[Cl x hx];simp only[aB,I7]
   cases rT x <;> rfl)
  (fun _ _ _ _ _ _=>trivial) (fun s self _=>by
   show iN.b0 _ _ _ _=_;unfold iN.b0
   simp[iN.q0,iN.q0]) () trivial k (by simp only[aP,bB];omega)
 rw[rE rT (5,()) (fun _=>(0,()))] at this;have this:iN.r0 k (l,()) 0=_:=this;simp only[aB,this];by_cases hc:16000 < List.length l.1+List.length l.2.1
 ·have:(16000:Int) < ((List.length l.1+List.length l.2.1:Nat):Int):=by omega
  simp only[this,hc,aC,aJ,aI]
 ·have:¬ (16000:Int) < ((List.length l.1+List.length l.2.1:Nat):Int):=by omega
  simp only[this,hc,aD,aE,aL,eF,List.all_nil,Bool.and_true];cases rT l.1 <;> cases rT l.2.1 <;> rfl
end OT
namespace OT
open Go
theorem P7:l8.aa ((0:UInt8),())=some (BY,()):=by
 refine ah (k:=66) fun k hk=>(l8.ae k _).trans ?_;unfold l8.p
 have:=b9 (B:=fun self v=>l8.b0 self (fun z=>l8.q0 ((0:UInt8),()) z) ((0:UInt8),()) v) (List.replicate 64 (0:UInt8)) (fun (s:List UInt8) (i:Int)=>(s,i)) (fun _ s _=>.inr s) (fun s=>(BY,())) (fun _ s=>s=List.replicate 64 (0:UInt8)) (by rw[ai];simp)
  (fun i hi s self hI=>by
   show l8.b0 _ _ _ _=_;unfold l8.b0;subst hI;simp only[dR] at hi ⊢;have aj:(i:Int) < ((64:Nat):Int):=by omega
   have jd:(0:Int)<=(i:Int)/\(i:Int) < ((64:Nat):Int):=by omega
   have hg:(List.replicate 64 (0:UInt8))[i]?=some 0:=(fY (n:=64) (i:=i) (a:=(0:UInt8))).trans (aU hi);have hs:(List.replicate 64 (0:UInt8)).set i 0=List.replicate 64 (0:UInt8):=List.set_replicate_self
   simp only[aj,jd,cU,aC,aJ,aI,aH,hg,aB,hs])
  (fun i hi s s' hI hs=>by injection hs with hs;rw[<-hs,hI]) (fun s self hI=>by
   show l8.b0 _ _ _ _=_;unfold l8.b0;subst hI;simp only[dR,bC,aD,aE]
   rfl) (List.replicate 64 (0:UInt8)) rfl k (by simp;omega)
 rw[h_ (g:=fun s _=>s)] at this
 have hc:(0:Int)<=64/\(64:Int)<=64/\(64:Int)<=(bz:Int):=⟨by omega,by omega,by simp only[bz];omega⟩
 rw[aU hc];exact this
theorem P8:ny.aa ((0:UInt8),())=some (BY,()):=by
 refine ah (k:=66) fun k hk=>(ny.ae k _).trans ?_;unfold ny.p
 have:=b9 (B:=fun self v=>ny.b0 self (fun z=>ny.q0 ((0:UInt8),()) z) ((0:UInt8),()) v) (List.replicate 64 (0:UInt8)) (fun (s:List UInt8) (i:Int)=>(s,i)) (fun _ s _=>.inr s) (fun s=>(BY,())) (fun _ s=>s=List.replicate 64 (0:UInt8)) (by rw[ai];simp)
  (fun i hi s self hI=>by
   show ny.b0 _ _ _ _=_;unfold ny.b0;subst hI;simp only[dR] at hi ⊢;have aj:(i:Int) < (64:Int):=by omega
   have jd:(0:Int)<=(i:Int)/\(i:Int) < ((64:Nat):Int):=by omega
   have hg:(List.replicate 64 (0:UInt8))[i]?=some 0:=(fY (n:=64) (i:=i) (a:=(0:UInt8))).trans (aU hi);have hs:(List.replicate 64 (0:UInt8)).set i 0=List.replicate 64 (0:UInt8):=List.set_replicate_self
   simp only[aj,jd,cU,aC,aJ,aI,aH,hg,aB,hs])
  (fun i hi s s' hI hs=>by injection hs with hs;rw[<-hs,hI]) (fun s self hI=>by
   show ny.b0 _ _ _ _=_;unfold ny.b0;subst hI;have:¬ (((64:Nat):Int) < 64):=by omega
   simp only[dR,this,aD,aE]
   rfl) (List.replicate 64 (0:UInt8)) rfl k (by simp;omega)
 rw[h_ (g:=fun s _=>s)] at this
 have hc:(0:Int)<=64/\(64:Int)<=64/\(64:Int)<=(bz:Int):=⟨by omega,by omega,by simp only[bz];omega⟩
 rw[aU hc];exact this
end OT
namespace OT
open Go
def P9 (p:List UInt8) (r:gi):List UInt8:=rX p r.1.toNat (min (List.length r.2.1) (p.length - r.1.toNat)) r.2.1
def Hl (p:List UInt8) (rs:List gi):List UInt8:=rs.foldl P9 p
theorem FM {p:List UInt8} {r:gi} (h:r.1.toNat<=p.length):(P9 p r).length=p.length:=EC _ _ (by omega) (by omega)
theorem Hm:∀ (rs:List gi) (p:List UInt8),p.length=64->(∀ r ∈ rs,0<=r.1/\r.1<=63)->(Hl p rs).length=64
 | [],p,h,_=>h
 | r::rs,p,h,hr=>by
  have:=hr r (by simp);exact Hm rs _ (by rw[FM (by omega)];exact h) (fun x hx=>hr x (by simp[hx]))
theorem Ij (p:List UInt8) (rs:List gi) (hp:p.length=64) (hl:rs.length<=64) (hr:∀ r ∈ rs,0<=r.1/\r.1<=63):lq.aa (p,rs,())=some (Hl p rs,()):=by
 refine ah (k:=66) fun k hk=>(lq.ae k _).trans ?_;unfold lq.p;rw[vv _ (by show p.length<=_;omega)]
 have:=b9 (B:=fun self v=>lq.b0 self (fun z=>lq.q0 (p,rs,()) z) (p,rs,()) v) rs (fun (s:List UInt8) (i:Int)=>(s,i)) (fun _ s r=>.inr (P9 s r)) (fun s=>(s,())) (fun _ s=>s.length=64) (by rw[ai];omega)
  (fun i hi s self hI=>by
   show lq.b0 _ _ _ _=_;unfold lq.b0;have aj:(i:Int) < (rs.length:Int):=by omega
   have hx:=hr rs[i] (aQ hi);have jd:(0:Int)<=(rs[i]).1/\(rs[i]).1<=(s.length:Int):=by omega
   simp only[aj,aC,aJ,aK,aI,aH,aA hi,aB,jd,cU]
   rfl)
  (fun i hi s s' hI hs=>by
   injection hs with hs;have hx:=hr rs[i] (aQ hi)
   rw[<-hs,FM (by omega)];exact hI) (fun s self hI=>by
   show lq.b0 _ _ _ _=_;unfold lq.b0;simp only[bC,aD,aE]
   rfl) p hp k (by omega)
 rw[h_] at this;exact this
theorem Ik (p:List UInt8) (rs:List gi) (hp:p.length=64) (hl:rs.length<=64) (hr:∀ r ∈ rs,0<=r.1/\r.1<=63):ln.aa (p,rs,())=some (Hl p rs,()):=by
 refine ah (k:=66) fun k hk=>(ln.ae k _).trans ?_;unfold ln.p;rw[xo _ (by show p.length<=_;omega)]
 have:=b9 (B:=fun self v=>ln.b0 self (fun z=>ln.q0 (p,rs,()) z) (p,rs,()) v) rs (fun (s:List UInt8) (i:Int)=>(s,i)) (fun _ s r=>.inr (P9 s r)) (fun s=>(s,())) (fun _ s=>s.length=64) (by rw[ai];omega)
  (fun i hi s self hI=>by
   show ln.b0 _ _ _ _=_;unfold ln.b0;have aj:(i:Int) < (rs.length:Int):=by omega
   have hx:=hr rs[i] (aQ hi);have jd:(0:Int)<=(rs[i]).1/\(rs[i]).1<=(s.length:Int):=by omega
   simp only[aj,aC,aJ,aK,aI,aH,aA hi,aB,jd,cU]
   rfl)
  (fun i hi s s' hI hs=>by
   injection hs with hs;have hx:=hr rs[i] (aQ hi)
   rw[<-hs,FM (by omega)];exact hI) (fun s self hI=>by
   show ln.b0 _ _ _ _=_;unfold ln.b0;simp only[bC,aD,aE]
   rfl) p hp k (by omega)
 rw[h_] at this;exact this
theorem Ur (ps:mn) (h:ps.length<=12):mr.aa (ps,())=some (ps,()):=by
 refine ah (k:=0) fun k _=>(mr.ae k _).trans ?_;show mr.p _=_;unfold mr.p;refine HY (fun e=>by rw[show ps=[] from e]) ?_;have:([]:List (List UInt8)).length+ps.length<=bz:=da (by simp only[bB];omega);rw[aU this,bP]
def FN (q:mn) (r:bf):mn:=q.set r.2.2.1.toNat (Hl (q.getD r.2.2.1.toNat []) r.2.2.2.1)
def nB (ps:mn) (r:bf):Sum Int mn:=
 if qs r=0 then (if fi r.1 2 4 then (if (ps.length:Int) < r.2.2.1 then .inl 1 else .inr (FN (if r.2.2.1=(ps.length:Int) then ps++[BY] else ps) r)) else .inr ps) else .inl (qs r)
theorem vY {ps:mn} {r:bf} {c:Int} (h:nB ps r=.inl c):c≠0:=by
 unfold nB at h;split at h
 ·split at h
  ·split at h
   ·injection h with h;subst h;decide
   ·cases h
  ·cases h
 ·rename_i hr;injection h with h;subst h;exact hr
theorem I8 {q:mn} {r:bf} (hq:gp q) (hr:qs r=0) (hp:r.2.2.1.toNat < q.length):gp (FN q r):=by
 have hg:=ux hr;refine ⟨by simp[FN];exact hq.1,fun p hm=>?_⟩
 rcases gX hm with h | h
 ·exact hq.2 p h
 ·subst h;have hx:q.getD r.2.2.1.toNat []=q[r.2.2.1.toNat]:=by simp[hp]
  rw[hx];exact Hm _ _ (hq.2 _ (aQ hp)) (fun x hx=>by have:=hg.2.2.2.2.2.2.2 x hx;omega)
theorem yI {ps se:mn} {r:bf} (hp:gp ps) (h:nB ps r=.inr se):gp se:=by
 unfold nB at h;split at h
 ·rename_i hr;have hg:=ux hr;split at h
  ·split at h
   ·cases h
   ·rename_i hl;injection h with h;subst h;split
    ·rename_i he;refine I8 ⟨by simp;omega,fun p hm=>?_⟩ hr (by simp;omega);rcases cJ.1 hm with hm | hm
     ·exact hp.2 p hm
     ·simp only[bU] at hm;subst hm;exact FA
    ·rename_i he;exact I8 hp hr (by omega)
  ·injection h with h;subst h;exact hp
 ·cases h
theorem Aq (ps:mn) (r:bf) (hp:gp ps) (hr:qs r=0):lW.aa (ps,r,())=some (match nB ps r with | .inl c=>(([]:mn),c,()) | .inr se=>(se,(0:Int),())):=by
 refine ah (k:=0) fun k _=>(lW.ae k _).trans ?_;show lW.p _=_;have hg:=ux hr;unfold lW.p nB;simp only[LU,hr,aI,aB]
 cases ht:fi r.1 2 4 with
 | false=>rfl
 | true=>
  simp only[aO,aE,aI];by_cases hl:(ps.length:Int) < r.2.2.1
  ·simp only[hl,aC,aJ,aI]
  have J7:¬ r.2.2.1=12:=by omega
  simp only[hl,J7,aD,aE,aL,Ur ps hp.1,aB]
  have key:∀ q:mn,gp q->r.2.2.1.toNat < q.length->(if 0<=r.2.2.1/\r.2.2.1 < (q.length:Int) then ((q[r.2.2.1.toNat]?).bind fun N0=>(lq.aa (N0,r.2.2.2.1,())).bind fun CG=>if 0<=r.2.2.1/\r.2.2.1 < (q.length:Int) then ((q[r.2.2.1.toNat]?).bind fun x13=>some (q.set r.2.2.1.toNat CG.1,(0:Int),())) else none) else none:Option lW.Out)=some (FN q r,(0:Int),()):=fun q hq aj=>by
   have hc:0<=r.2.2.1/\r.2.2.1 < (q.length:Int):=by omega
   simp only[hc,cU,aI,aA aj,aB];rw[Ij _ _ (hq.2 _ (aQ aj)) hg.2.2.2.2.2.2.1 (fun x hx=>by have:=hg.2.2.2.2.2.2.2 x hx;omega)];have hx:q.getD r.2.2.1.toNat []=q[r.2.2.1.toNat]:=by simp[aj]
   unfold FN;rw[hx];rfl
  by_cases he:r.2.2.1=(ps.length:Int)
  ·have GN:ps.length+[BY].length<=bz:=da (by have:=hp.1;simp only[aP,bB];omega);rw[aU he];simp only[he,aC,aJ,P7,aB,GN,aI];rw[<-he];refine key _ ⟨by simp;omega,fun p hm=>?_⟩ (by simp;omega);rcases cJ.1 hm with hm | hm
   ·exact hp.2 p hm
   ·simp only[bU] at hm;subst hm;exact FA
  ·rw[bA he];simp only[he,aD,aE];exact key ps hp (by omega)
theorem M2 (c:Int):pN.aa (c,())=some ((c,([]:List gi),([]:List (List UInt8)),()),()):=by
 refine ah (k:=0) fun k _=>(pN.ae k _).trans ?_;rfl
theorem CQ (ps:mn) (r:bf) (hp:gp ps):dq.aa (ps,r,())=some (match nB ps r with | .inl c=>((c,([]:List gi),([]:mn),()),()) | .inr se=>(((0:Int),([]:List gi),se,()),())):=by
 refine ah (k:=14) fun k hk=>(dq.ae k _).trans ?_;unfold dq.p;have J7:¬ (12:Int) < (ps.length:Int):=by have:=hp.1;omega
 simp only[J7,aD,aE]
 have main:dq.q0 (ps,r,()) ()=some (match nB ps r with | .inl c=>((c,([]:List gi),([]:mn),()),()) | .inr se=>(((0:Int),([]:List gi),se,()),())):=by
  show dq.q0 _ _=_;unfold dq.q0 nB;simp only[Hj,M2,CI ps hp,DS,aB];by_cases hr:qs r=0;rotate_left
  ·simp only[hr,aD,aV,aJ,aL]
  have hg:=ux hr;simp only[hr,aC,aO,aE,aI]
  cases ht:fi r.1 2 4 with
  | false=>rfl
  | true=>
   simp only[aO,aE,aI];by_cases hl:(ps.length:Int) < r.2.2.1
   ·simp only[hl,aC,aJ,aI]
   have J7:¬ r.2.2.1=12:=by omega
   simp only[hl,J7,aD,aE,aL]
   have key:∀ q:mn,gp q->r.2.2.1.toNat < q.length->(if 0<=r.2.2.1/\r.2.2.1 < (q.length:Int) then ((q[r.2.2.1.toNat]?).bind fun Pr=>(q[r.2.2.1.toNat]?).bind fun TQ=>(ln.aa (TQ,r.2.2.2.1,())).bind fun TR=>if 0<=r.2.2.1/\r.2.2.1 < (q.length:Int) then ((q[r.2.2.1.toNat]?).bind fun aaL=>some (((0:Int),([]:List gi),q.set r.2.2.1.toNat TR.1,()),())) else none) else none:Option dq.Out)=some (((0:Int),([]:List gi),FN q r,()),()):=fun q hq aj=>by
    have hc:0<=r.2.2.1/\r.2.2.1 < (q.length:Int):=by omega
    simp only[hc,cU,aI,aA aj,aB];rw[Ik _ _ (hq.2 _ (aQ aj)) hg.2.2.2.2.2.2.1 (fun x hx=>by have:=hg.2.2.2.2.2.2.2 x hx;omega)];have hx:q.getD r.2.2.1.toNat []=q[r.2.2.1.toNat]:=by simp[aj]
    unfold FN;rw[hx];rfl
   by_cases he:r.2.2.1=(ps.length:Int)
   ·have GN:ps.length+[BY].length<=bz:=da (by have:=hp.1;simp only[aP,bB];omega);rw[aU he];simp only[he,aC,aJ,P8,aB,GN,aI];rw[<-he];refine key _ ⟨by simp;omega,fun p hm=>?_⟩ (by simp;omega);rcases cJ.1 hm with hm | hm
    ·exact hp.2 p hm
    ·simp only[bU] at hm;subst hm;exact FA
   ·rw[bA he];simp only[he,aD,aE];exact key ps hp (by omega)
 have:=b9 (B:=fun self v=>dq.b0 self (fun z=>dq.q0 (ps,r,()) z) (ps,r,()) v) ps (fun (s:Unit) (i:Int)=>i) (fun _ s x=>.inr s) (fun s=>(match nB ps r with | .inl c=>((c,([]:List gi),([]:mn),()),()) | .inr se=>(((0:Int),([]:List gi),se,()),()))) (fun i s=>True) (by have:=hp.1;rw[ai];omega)
  (fun i hi s self hI=>by
   show dq.b0 _ _ _ _=_;unfold dq.b0;have aj:(i:Int) < (ps.length:Int):=by omega
   have hx:((ps[i].length:Nat):Int)=64:=by have:=hp.2 ps[i] (aQ hi);omega
   simp only[aj,aC,aJ,aK,aI,aH,aA hi,aB,hx,aO,aE])
  (fun _ _ _ _ _ _=>trivial) (fun s self hI=>by
   show dq.b0 _ _ _ _=_;unfold dq.b0;simp only[bC,aD,aE]
   exact main) () trivial k (by have:=hp.1;omega)
 rw[h_ (g:=fun s _=>s)] at this;exact this
def vy (xs:List bf):mn×Int×Unit:=bn (fun _ ps r=>match nB ps r with | .inl c=>.inl (([]:mn),c,()) | .inr se=>.inr se) (fun ps=>(ps,(0:Int),())) 0 xs []
theorem Hn (xs:List bf):(vy xs).2.1=0->gp (vy xs).1:=by
 have main:∀ (xs:List bf) (i:Nat) (ps:mn),gp ps->(bn (fun _ ps r=>match nB ps r with | .inl c=>.inl (([]:mn),c,()) | .inr se=>.inr se) (fun ps=>(ps,(0:Int),())) i xs ps).2.1=0->gp (bn (fun _ ps r=>match nB ps r with | .inl c=>.inl (([]:mn),c,()) | .inr se=>.inr se) (fun ps=>(ps,(0:Int),())) i xs ps).1:=by
  intro xs
  induction xs with
  | nil=>intro i ps h _;exact h
  | cons x xs ih=>
   intro i ps h;simp only[bn]
   cases hs:nB ps x with
   | inl c=>intro h0;exact absurd h0 (vY hs)
   | inr se=>exact ih _ _ (yI h hs)
 exact main xs 0 [] ⟨by simp,fun _ h=>by cases h⟩
theorem M3 (xs:List bf) (hx:xs.length<=maxLen):mL.aa (xs,())=some (vy xs):=by
 refine ah (k:=xs.length+1) fun k hk=>(mL.ae k _).trans ?_
 exact b9 (B:=fun self v=>mL.b0 self (fun z=>mL.q0 (xs,()) z) (xs,()) v) xs (fun (s:mn) (i:Int)=>(s,i)) (fun _ ps r=>match nB ps r with | .inl c=>.inl (([]:mn),c,()) | .inr se=>.inr se) (fun ps=>(ps,(0:Int),())) (fun _ s=>gp s) hx
  (fun i hi s self hI=>by
   show mL.b0 _ _ _ _=_;unfold mL.b0;have aj:(i:Int) < (xs.length:Int):=by omega
   simp only[aj,aC,aJ,aK,aI,aH,aA hi,aB,CQ s _ hI]
   cases hs:nB s xs[i] with
   | inl c=>
    have:=vY hs;simp only[this,aD,aV,aJ]
   | inr se=>simp only[aC,aO,aE])
  (fun i hi s s' hI hs=>by
   cases h:nB s xs[i] with
   | inl c=>rw[h] at hs;cases hs
   | inr se=>rw[h] at hs;injection hs with hs;subst hs;exact yI hI h) (fun s self hI=>by
   show mL.b0 _ _ _ _=_;unfold mL.b0;simp only[bC,aD,aE]
   rfl) [] ⟨by simp,fun _ h=>by cases h⟩ k (by omega)
theorem M4 (xs:List bf) (hx:xs.length<=maxLen):ph.aa (xs,())=some (vy xs):=by
 refine ah (k:=xs.length+1) fun k hk=>(ph.ae k _).trans ?_
 exact b9 (B:=fun self v=>ph.b0 self (fun z=>ph.q0 (xs,()) z) (xs,()) v) xs (fun (s:mn) (i:Int)=>(s,i)) (fun _ ps r=>match nB ps r with | .inl c=>.inl (([]:mn),c,()) | .inr se=>.inr se) (fun ps=>(ps,(0:Int),())) (fun _ s=>gp s) hx
  (fun i hi s self hI=>by
   show ph.b0 _ _ _ _=_;unfold ph.b0;have aj:(i:Int) < (xs.length:Int):=by omega
   simp only[aj,aC,aJ,aK,aI,aH,aA hi,aB,Ck];by_cases hr:qs xs[i]=0
   ·simp only[hr,aC,aO,aE,Aq s _ hI hr,aB]
    cases hs:nB s xs[i] with
    | inl c=>
     have:=vY hs;simp only[this,aD,aV,aJ]
    | inr se=>simp only[aC,aO,aE]
   ·have hs:nB s xs[i]=.inl (qs xs[i]):=by unfold nB;rw[bA hr]
    simp only[hr,aD,aV,aJ,hs])
  (fun i hi s s' hI hs=>by
   cases h:nB s xs[i] with
   | inl c=>rw[h] at hs;cases hs
   | inr se=>rw[h] at hs;injection hs with hs;subst hs;exact yI hI h) (fun s self hI=>by
   show ph.b0 _ _ _ _=_;unfold ph.b0;simp only[bC,aD,aE]
   rfl) [] ⟨by simp,fun _ h=>by cases h⟩ k (by omega)
theorem Us (ps:mn) (h:gp ps):zz (.U (.U u8)) ps<=12*65:=by
 obtain ⟨h1,h2⟩:=h
 have main:∀ ps:mn,(∀ p ∈ ps,p.length=64)->zz (.U (.U u8)) ps=65*ps.length:=by
  intro ps
  induction ps with
  | nil=>intro _;rfl
  | cons p ps ih=>
   intro h;have h3:zz (.U (.U u8)) (p::ps)=zz (.U u8) p+1+zz (.U (.U u8)) ps:=Ei (e:=.U u8) p ps;have h4:zz (.U u8) p=p.length+pp (zz u8) p:=rfl;have h5:pp (zz u8) p=0:=xH _ (fun _=>rfl) p;have h6:=ih fun q hq=>h q (by simp[hq]);have h7:=h p (by simp);rw[h3,h4,h5,h6,h7,aP];omega
 rw[main ps h2];omega
end OT
namespace OT
open Go
def wV (x:Tx):Int:=if Ai x=0 then tC x else Ai x
theorem I9 {α:Type} (c:Nat->α->Int):∀ (xs:List α) (i:Nat),bn (fun i (_:Unit) y=>if c i y=0 then .inr () else .inl (c i y,())) (fun _=>((0:Int),())) i xs ()=(bn (fun i (_:Unit) y=>if c i y=0 then .inr () else .inl (c i y)) (fun _=>(0:Int)) i xs (),())
 | [],_=>rfl
 | y::ys,i=>by simp only[bn];by_cases h0:c i y=0 <;> simp[h0,I9 c ys (i+1)]
theorem yJ {α:Type} (c:Nat->α->Int) (E:Option (Int×Unit)):∀ (xs:List α) (i:Nat),bn (fun i (_:Unit) y=>if c i y=0 then .inr () else .inl (some (c i y,()))) (fun _=>E) i xs () =
  if bn (fun i (_:Unit) y=>if c i y=0 then .inr () else .inl (c i y)) (fun _=>(0:Int)) i xs ()=0 then E else some (bn (fun i (_:Unit) y=>if c i y=0 then .inr () else .inl (c i y)) (fun _=>(0:Int)) i xs (),())
 | [],_=>rfl
 | y::ys,i=>by simp only[bn];by_cases h0:c i y=0 <;> simp[h0,yJ c E ys (i+1)]
theorem EQ {α:Type} (c:α->Int):∀ (xs:List α) (i:Nat),bn (fun _ (_:Unit) y=>if c y=0 then .inr () else .inl (c y)) (fun _=>(0:Int)) i xs ()=mU c xs
 | [],_=>rfl
 | y::ys,i=>by simp only[bn,mU];by_cases h0:c y=0 <;> simp[h0,EQ c ys (i+1)]
theorem P_ (x:Tx) (h:tl x):db.aa (x,())=some (wV x,()):=by
 obtain ⟨h1,h2,h3,h4⟩:=h;refine ah (k:=1048577) fun k hk=>(db.ae k _).trans ?_
 have Qa:List.length x.2.2.2.1<=12->db.r2 k (x,()) (0:Int)=some (wG x.2.2.2.1,()):=fun hl=>by
  have:=b9 (B:=fun self v=>db.b2 self (fun z=>db.q2 (x,()) z) (x,()) v) x.2.2.2.1 (fun (_:Unit) (i:Int)=>i) (fun i _ y=>if qC x.2.2.2.1 i y=0 then .inr () else .inl (qC x.2.2.2.1 i y,())) (fun _=>(0,())) (fun _ _=>True) (by rw[ai];omega)
   (fun i hi s self _=>by
    show db.b2 _ _ _ _=_;unfold db.b2 qC;have aj:(i:Int) < (List.length x.2.2.2.1:Int):=by omega
    have jd:(0:Int)<=(i:Int)/\(i:Int)<=(List.length x.2.2.2.1:Int):=by omega
    simp only[aj,jd,cU,aC,aJ,aK,aI,aH,aA hi,aB,Ub,eD];rw[contains_eq _ _ (by rw[ai];simp;omega)]
    cases xq (x.2.2.2.1)[i] <;> cases jc (x.2.2.2.1.take i) (x.2.2.2.1)[i] <;> rfl)
   (fun _ _ _ _ _ _=>trivial) (fun s self _=>by
    show db.b2 _ _ _ _=_;unfold db.b2;simp only[bC,aD,aE]
    rfl) () trivial k (by omega)
  rw[I9 (qC x.2.2.2.1)] at this;exact this
 have second:List.length x.2.2.1<=8->List.length x.2.2.2.1<=12->db.r1 k (x,()) ((0:Int),(0:Int))=some (if G6 (List.length x.2.1:Int) 0 x.2.2.1 then wG x.2.2.2.1 else 3,()):=fun hm hl=>by
  have:=eb (B:=fun self v=>db.b1 self (fun z=>db.Q1 k (x,()) z) (x,()) v) x.2.2.1 (fun (last:Int) (i:Int)=>(last,i)) (fun _ last m=>if fi m last (List.length x.2.1:Int) then .inr m else .inl (some ((3:Int),()))) (fun _=>some (wG x.2.2.2.1,())) (fun _ _=>True) (by rw[ai];omega)
   (fun i hi last self _=>by
    show db.b1 _ _ _ _=_;unfold db.b1;have aj:(i:Int) < (List.length x.2.2.1:Int):=by omega
    simp only[aj,aC,aJ,aK,aI,aH,aA hi,aB,rO];show (bif !fi (x.2.2.1)[i] last (List.length x.2.1:Int) then _ else _)=_
    cases fi (x.2.2.1)[i] last (List.length x.2.1:Int) <;> rfl)
   (fun _ _ _ _ _ _=>trivial) (fun last self _=>by
    show db.b1 _ _ _ _=_;unfold db.b1;simp only[bC,aD,aE]
    exact Qa hl) 0 trivial k (by omega)
  rw[LD] at this;refine aX this ?_;unfold G6;cases bn (fun _ last m=>if fi m last (List.length x.2.1:Int) then .inr m else .inl false) (fun _=>true) 0 x.2.2.1 0 <;> rfl
 have after:db.Q0 k (x,()) ()=some (tC x,()):=by
  show db.q0 _ _ _=_;unfold db.q0 tC;by_cases hm:8 < List.length x.2.2.1
  ·have:(8:Int) < (List.length x.2.2.1:Int):=by omega
   simp only[this,hm,aC,aJ,fO,aI]
   try rfl
  have A9:¬ (8:Int) < (List.length x.2.2.1:Int):=by omega
  by_cases mB:12 < List.length x.2.2.2.1
  ·have:(12:Int) < (List.length x.2.2.2.1:Int):=by omega
   simp only[this,hm,A9,mB,aC,aD,aJ,aE,dX,aI]
   try rfl
  have o7:¬ (12:Int) < (List.length x.2.2.2.1:Int):=by omega
  simp only[hm,A9,o7,mB,aD,aE,iC,aG,aL];exact second (by omega) (by omega)
 have:=eb (B:=fun self v=>db.b0 self (fun z=>db.Q0 k (x,()) z) (x,()) v) x.2.1 (fun (_:Unit) (i:Int)=>i) (fun _ _ c=>if xr x.2.2.2.1 c=0 then .inr () else .inl (some (xr x.2.2.2.1 c,()))) (fun _=>some (tC x,())) (fun _ _=>True) (by rw[ai];omega)
  (fun i hi s self _=>by
   show db.b0 _ _ _ _=_;unfold db.b0;have aj:(i:Int) < (List.length x.2.1:Int):=by omega
   simp only[aj,aC,aJ,aK,aI,aH,aA hi,aB,Dz _ (h4 _ (aQ hi)),Wy];rw[contains_eq _ _ (by rw[ai];omega)];unfold xr;by_cases hc:wC (x.2.1)[i]=0
   ·simp only[hc,aC,aO,aE,aI,aB];cases jc x.2.2.2.1 (A_ (x.2.1)[i]) <;> rfl
   ·simp only[hc,aD,aV,aJ,aL])
  (fun _ _ _ _ _ _=>trivial) (fun s self _=>by
   show db.b0 _ _ _ _=_;unfold db.b0;simp only[bC,aD,aE]
   exact after) () trivial k (by omega)
 rw[yJ (fun _=>xr x.2.2.2.1),EQ] at this;refine aX this ?_;unfold wV Ai;split <;> rfl
def qD (xs:List Tx) (k:Key):Int:=match xs with
 | []=>0
 | x::xs=>if jc x.2.2.2.1 k then x.1 else qD xs k
def ER (xs:List Tx):Prop:=xs.length<=1048576/\∀ x ∈ xs,tl x
theorem I_ (k:Key):∀ (xs:List Tx) (i:Nat),bn (fun _ (_:Unit) x=>if jc x.2.2.2.1 k then .inl (x.1,()) else .inr ()) (fun _=>((0:Int),())) i xs ()=(qD xs k,())
 | [],_=>rfl
 | x::xs,i=>by simp only[bn,qD];cases jc x.2.2.2.1 k <;> simp[I_ k xs (i+1)]
theorem Ut {x:Tx} (h:tl x):List.length x.2.2.2.1<=maxLen:=by rw[ai];have:=h.2.2.1;omega
theorem M5 (xs:List Tx) (k0:Key) (h:ER xs):mG.aa (xs,k0,())=some (qD xs k0,()):=by
 obtain ⟨h1,h2⟩:=h;refine ah (k:=xs.length+1) fun k hk=>(mG.ae k _).trans ?_
 have:=b9 (B:=fun self v=>mG.b0 self (fun z=>mG.q0 (xs,k0,()) z) (xs,k0,()) v) xs (fun (_:Unit) (i:Int)=>i) (fun _ _ x=>if jc x.2.2.2.1 k0 then .inl (x.1,()) else .inr ()) (fun _=>(0,())) (fun _ _=>True) (by rw[ai];omega)
  (fun i hi s self _=>by
   show mG.b0 _ _ _ _=_;unfold mG.b0;have aj:(i:Int) < (xs.length:Int):=by omega
   simp only[aj,aC,aJ,aK,aI,aH,aA hi,aB,LC _ _ (Ut (h2 _ (aQ hi)))]
   cases jc (xs[i]).2.2.2.1 k0 <;> rfl)
  (fun _ _ _ _ _ _=>trivial) (fun s self _=>by
   show mG.b0 _ _ _ _=_;unfold mG.b0;simp only[bC,aD,aE]
   rfl) () trivial k (by omega)
 rw[I_] at this;exact this
def x_ (xs:List Tx):Int:=xs.foldl (fun n x=>n+(List.length x.2.1:Int)) 0
theorem L1 (xs:List Tx) (h:ER xs):lV.aa (xs,())=some (x_ xs,()):=by
 obtain ⟨h1,h2⟩:=h;refine ah (k:=xs.length+1) fun k hk=>(lV.ae k _).trans ?_
 have:=b9 (B:=fun self v=>lV.b0 self (fun z=>lV.q0 (xs,()) z) (xs,()) v) xs (fun (n:Int) (i:Int)=>(n,i)) (fun _ n x=>.inr (n+(List.length x.2.1:Int))) (fun n=>(n,())) (fun i n=>0<=n/\n<=1048576*(i:Int)) (by rw[ai];omega)
  (fun i hi n self hI=>by
   show lV.b0 _ _ _ _=_;unfold lV.b0;have aj:(i:Int) < (xs.length:Int):=by omega
   have hx:=(h2 _ (aQ hi)).1;simp only[aj,aC,aJ,aK,aI,aH,aA hi,aB]
   rw[bt (n:=n+_) (by omega)])
  (fun i hi n n' hI hs=>by
   injection hs with hs;have hx:=(h2 _ (aQ hi)).1
   omega) (fun s self _=>by
   show lV.b0 _ _ _ _=_;unfold lV.b0;simp only[bC,aD,aE]
   rfl) 0 (by omega) k (by omega)
 rw[h_] at this;exact this
theorem L2 (xs:List Tx) (h:ER xs):nt.aa (xs,())=some (x_ xs,()):=by
 obtain ⟨h1,h2⟩:=h;refine ah (k:=xs.length+1) fun k hk=>(nt.ae k _).trans ?_
 have:=b9 (B:=fun self v=>nt.b0 self (fun z=>nt.q0 (xs,()) z) (xs,()) v) xs (fun (n:Int) (i:Int)=>(n,i)) (fun _ n x=>.inr (n+(List.length x.2.1:Int))) (fun n=>(n,())) (fun i n=>0<=n/\n<=1048576*(i:Int)) (by rw[ai];omega)
  (fun i hi n self hI=>by
   show nt.b0 _ _ _ _=_;unfold nt.b0;have aj:(i:Int) < (xs.length:Int):=by omega
   have hx:=(h2 _ (aQ hi)).1;simp only[aj,aC,aJ,aK,aI,aH,aA hi,aB]
   rw[bt (n:=n+_) (by omega)])
  (fun i hi n n' hI hs=>by
   injection hs with hs;have hx:=(h2 _ (aQ hi)).1
   omega) (fun s self _=>by
   show nt.b0 _ _ _ _=_;unfold nt.b0;simp only[bC,aD,aE]
   rfl) 0 (by omega) k (by omega)
 rw[h_] at this;exact this
def uy (xs:List Tx) (i:Nat) (x:Tx):Int:=if fi x.1 1 99 then (if 0 < i then (match xs[i - 1]? with
    | some y=>if x.1<=y.1 then 1 else wV x
    | none=>1) else wV x) else 3
def Ar (xs:List Tx):Int:=bn (fun i (_:Unit) x=>if uy xs i x=0 then .inr () else .inl (uy xs i x)) (fun _=>(0:Int)) 0 xs ()
def flatK (xs:List Tx):List Key:=xs.flatMap fun x=>x.2.2.2.1
def Bb (xs:List Tx):Bool:=decide (flatK xs).Nodup
def zL (xs:List Tx):Int:=if 4 < xs.length then 2 else if Ar xs=0 then (if Bb xs then (if 12 < x_ xs then 2 else 0) else 7) else Ar xs
theorem As (xs:List Tx) (h:Ar xs=0):∀ i (hi:i < xs.length),uy xs i xs[i]=0:=by
 have main:∀ (ys:List Tx) (j:Nat),(bn (fun i (_:Unit) x=>if uy xs i x=0 then .inr () else .inl (uy xs i x)) (fun _=>(0:Int)) j ys ())=0->∀ i (hi:i < ys.length),uy xs (j+i) ys[i]=0:=by
  intro ys
  induction ys with
  | nil=>intro j _ i hi;simp at hi
  | cons y ys ih=>
   intro j hf i hi;simp only[bn] at hf;by_cases h0:uy xs j y=0
   ·rw[aU h0] at hf
    cases i with
    | zero=>simpa using h0
    | succ i=>
     have:=ih (j+1) hf i (by simpa using hi);rw[show j+(i+1)=j+1+i by omega]
     simpa using this
   ·rw[bA h0] at hf;exact absurd hf h0
 intro i hi;have:=main xs 0 h i hi
 rwa [bE] at this
theorem Cn {xs:List Tx} {i:Nat} {x:Tx} (h:uy xs i x=0):1<=x.1/\wV x=0/\∀ y,0 < i->xs[i - 1]?=some y->y.1 < x.1:=by
 unfold uy at h;split at h
 ·rename_i hb;simp only[fi,aF,bO] at hb;split at h
  ·rename_i h0;split at h
   ·rename_i y hy;split at h
    ·cases h
    ·exact ⟨hb.1,h,fun z _ hz=>by rw[hy] at hz;injection hz with hz;subst hz;omega⟩
   ·cases h
  ·exact ⟨hb.1,h,fun y h0=>by omega⟩
 ·cases h
theorem SC {xs:List Tx} (h:Ar xs=0):xs.Pairwise fun x y=>x.1 < y.1:=by
 rw[eA];intro i j hi hj oD
 have key:∀ d (hd:i+d+1 < xs.length),(xs[i]).1 < (xs[i+d+1]).1:=by
  intro d
  induction d with
  | zero=>
   intro hd;exact (Cn (As xs h (i+1) hd)).2.2 xs[i] (by omega) (by simp[hi])
  | succ d ih=>
   intro hd;have h1:=ih (by omega);have h2:=(Cn (As xs h (i+d+1+1) hd)).2.2 xs[i+d+1] (by omega) (by rw[hU];exact aA (by omega));exact Int.lt_trans h1 h2
 have:=key (j - i - 1) (by omega);have e:i+(j - i - 1)+1=j:=by omega
 simpa only [e] using this
theorem M6 {ks:List Key} (h:wG ks=0):ks.Nodup:=by
 have main:∀ (ys:List Key) (j:Nat),(bn (fun i (_:Unit) k=>if qC ks i k=0 then .inr () else .inl (qC ks i k)) (fun _=>(0:Int)) j ys ())=0->∀ i (hi:i < ys.length),qC ks (j+i) ys[i]=0:=by
  intro ys
  induction ys with
  | nil=>intro j _ i hi;simp at hi
  | cons y ys ih=>
   intro j hf i hi;simp only[bn] at hf;by_cases h0:qC ks j y=0
   ·rw[aU h0] at hf
    cases i with
    | zero=>simpa using h0
    | succ i=>
     have:=ih (j+1) hf i (by simpa using hi);rw[show j+(i+1)=j+1+i by omega]
     simpa using this
   ·rw[bA h0] at hf;exact absurd hf h0
 rw[jG,eA];intro i j hi hj oD e;have h1:=main ks 0 h j hj;rw[bE] at h1;unfold qC at h1;split at h1
 ·split at h1
  ·cases h1
  ·rename_i hn;refine hn (q_.2 ?_);rw[<-e];exact List.mem_take_iff_getElem.2 ⟨i,by omega,rfl⟩
 ·cases h1
theorem Uu {x:Tx} (h:wV x=0):(x.2.2.2.1:List Key).Nodup:=by
 unfold wV at h;split at h
 ·unfold tC at h;split at h
  ·cases h
  ·split at h
   ·exact M6 h
   ·cases h
 ·rename_i hn;exact absurd h hn
end OT
namespace OT
open Go
def zM (xs:List Tx):Bool:=xs.all fun x=>x.2.2.2.1.all fun k=>decide (qD xs k=x.1)
theorem Uv {xs:List Tx} (hr:xs.Pairwise fun x y=>x.1 < y.1) (hn:∀ x ∈ xs,(x.2.2.2.1:List Key).Nodup):zM xs=Bb xs:=by
 have main:∀ (xs:List Tx),(xs.Pairwise fun x y=>x.1 < y.1)->(∀ x ∈ xs,(x.2.2.2.1:List Key).Nodup)->((∀ x ∈ xs,∀ k ∈ (x.2.2.2.1:List Key),qD xs k=x.1)↔(flatK xs).Nodup):=by
  intro xs
  induction xs with
  | nil=>intro _ _;simp[flatK]
  | cons x xs ih=>
   intro hr hn;obtain ⟨h1,h2⟩:=eB.1 hr;have ih:=ih h2 (fun y hy=>hn y (by simp[hy]));have I0:flatK (x::xs)=x.2.2.2.1++flatK xs:=by simp[flatK]
   rw[I0,fU];constructor
   ·intro pD
    have hd:∀ y ∈ xs,∀ k ∈ (y.2.2.2.1:List Key),k ∉ (x.2.2.2.1:List Key):=fun y hy k hk hx=>by
     have e1:=pD y (by simp[hy]) k hk;simp only[qD,q_.2 hx,aI] at e1;have:=h1 y hy;omega
    refine ⟨hn x (by simp),ih.1 fun y hy k hk=>?_,fun a ha b hb e=>?_⟩
    ·have e1:=pD y (by simp[hy]) k hk
     have:jc x.2.2.2.1 k=false:=by
      cases hh:jc x.2.2.2.1 k with
      | false=>rfl
      | true=>exact absurd (q_.1 hh) (hd y hy k hk)
     simp only[qD,this,aG,aL] at e1;exact e1
    ·subst e;obtain ⟨y,hy,hk⟩:=eH.1 hb;exact hd y hy a hk ha
   ·rintro ⟨g1,g2,g3⟩ y hy k hk;rcases aY.1 hy with e | e
    ·subst e;simp only[qD,q_.2 hk,aI]
    ·have hkf:k ∈ flatK xs:=eH.2 ⟨y,e,hk⟩
     have:jc x.2.2.2.1 k=false:=by
      cases hh:jc x.2.2.2.1 k with
      | false=>rfl
      | true=>exact absurd rfl (g3 k (q_.1 hh) k hkf)
     simp only[qD,this,aG,aL];exact ih.2 g2 y e k hk
 have hm:=main xs hr hn;unfold zM Bb;rw[fB];simp only[cC,bO];exact hm
theorem L3 (xs:List Tx) (h:ER xs):eu.aa (xs,())=some (zM xs,()):=by
 have ht:=h;obtain ⟨h1,h2⟩:=h;refine ah (k:=1048577) fun k hk=>(eu.ae k _).trans ?_
 have inner:∀ (self:((List Tx)×Int)->Option eu.Out) (e0:Unit->Option eu.Out) (i:Nat) (hi:i < xs.length),eu.r1 k self e0 (xs,()) xs (i:Int) (0:Int)=if (xs[i]).2.2.2.1.any (fun y=>!decide (qD xs y=(xs[i]).1)) then some (false,()) else self (xs,af ((i:Int)+1)):=fun self e0 i hi=>by
  have htx:=h2 _ (aQ hi);have VS:=htx.2.2.1
  have:=eb (B:=fun fl v=>eu.b1 fl (fun z=>eu.q0 self e0 (xs,()) xs (i:Int) z) (xs,()) xs (i:Int) v) (xs[i]).2.2.2.1 (fun (_:Unit) (j:Int)=>j) (fun _ _ y=>if !decide (qD xs y=(xs[i]).1) then .inl (some (false,())) else .inr ()) (fun _=>self (xs,af ((i:Int)+1))) (fun _ _=>True) (by rw[ai];omega)
   (fun j hj s fl _=>by
    show eu.b1 _ _ _ _ _ _=_;unfold eu.b1;have aj:(j:Int) < (List.length (xs[i]).2.2.2.1:Int):=by omega
    simp only[aK,aI,aH,aA hi,aB,aj,aC,aJ,aA hj,M5 xs _ ht]
    cases decide (qD xs ((xs[i]).2.2.2.1)[j]=(xs[i]).1) <;> rfl)
   (fun _ _ _ _ _ _=>trivial) (fun s fl _=>by
    show eu.b1 _ _ _ _ _ _=_;unfold eu.b1;simp only[aK,aI,aH,aA hi,aB,bC,aD,aE]
    rfl) () trivial k (by omega)
  rw[xh] at this;exact this
 have:=b9 (B:=fun self v=>eu.B0 k self (fun z=>eu.q1 (xs,()) z) (xs,()) v) xs (fun (_:Unit) (i:Int)=>(xs,i)) (fun _ _ x=>if x.2.2.2.1.all (fun y=>decide (qD xs y=x.1)) then .inr () else .inl (false,())) (fun _=>(true,())) (fun _ _=>True) (by rw[ai];omega)
  (fun i hi s self _=>by
   show eu.b0 _ _ _ _ _=_;unfold eu.b0;have aj:(i:Int) < (xs.length:Int):=by omega
   simp only[aj,aC,aJ];rw[inner self _ i hi];have:(xs[i]).2.2.2.1.any (fun y=>!decide (qD xs y=(xs[i]).1))=!(xs[i]).2.2.2.1.all (fun y=>decide (qD xs y=(xs[i]).1)):=by rw[List.not_all_eq_any_not]
   rw[this]
   cases (xs[i]).2.2.2.1.all (fun y=>decide (qD xs y=(xs[i]).1)) <;> rfl)
  (fun _ _ _ _ _ _=>trivial) (fun s self _=>by
   show eu.b0 _ _ _ _ _=_;unfold eu.b0;simp only[bC,aD,aE]
   rfl) () trivial k (by omega)
 rw[rE (fun (x:Tx)=>x.2.2.2.1.all (fun y=>decide (qD xs y=x.1))) (false,()) (fun _=>(true,()))] at this;refine aX this ?_;unfold zM;cases xs.all fun x=>x.2.2.2.1.all (fun y=>decide (qD xs y=x.1)) <;> rfl
def ge (S:List Key):List (Key×Bool):=S.map fun k=>(k,true)
theorem M7 {α:Type} (k:Ty) (e:k.den×α) (m:List (k.den×α)) (x:k.den):jm k (e::m) x=if k.eq x e.1 then some e.2 else jm k m x:=by
 unfold jm;rw[jR];cases k.eq x e.1 <;> rfl
theorem Qb {α:Type} (k:Ty) (m:List (k.den×α)) (x:k.den) (y:α) (h:∀ e ∈ m,k.eq x e.1=false):nP k m x y=m++[(x,y)]:=by
 have:m.findIdx? (fun e=>k.eq x e.1)=none:=by
  rw[gY];intro e he;exact h e he
 unfold nP;rw[this]
theorem ES (S:List Key) (k:Key):jm bq (ge S) k=if jc S k then some true else none:=by
 induction S with
 | nil=>rfl
 | cons s S ih=>
  refine (M7 bq (s,true) (ge S) k).trans ?_;have hk:bq.eq k (s,true).1=decide (k=s):=B_ k s;rw[hk];have hc:jc (s::S) k=(decide (s=k)||jc S k):=rfl;rw[hc];by_cases h:k=s
  ·have h2:s=k:=h.symm;simp[h2]
  ·have h2:¬ s=k:=fun e=>h e.symm;simp only[h,h2,aD,dX,aG,aL];exact ih
theorem Uw (S:List Key) (k:Key):yY (jm bq (ge S) k) false=jc S k:=by
 refine aX (dB (fun o=>yY o false) (ES S k)) ?_;cases jc S k <;> rfl
theorem L4 {S:List Key} {k:Key} (h:jc S k=false):nP bq (ge S) k true=ge (S++[k]):=by
 refine (Qb bq (ge S) k true fun e he=>?_).trans ?_
 ·obtain ⟨s,hs,rfl⟩:=fT.1 he;have hk:bq.eq k (s,true).1=decide (k=s):=B_ k s;rw[hk];simp only[jc,jI,bO] at h;have:=h s hs;simp only[eY];exact fun e=>this e.symm
 ·simp only[ge,gJ,cR,fS];rfl
def getM (m:List (Key×Bool)) (k:Key):Bool:=yY (jm bq m k) false
def sd (m:List (Key×Bool)) (k:Key):List (Key×Bool):=nP bq m k true
def sk:List (Key×Bool)->List Key->Option (List (Key×Bool))
 | m,[]=>some m
 | m,k::ks=>if getM m k then none else sk (sd m k) ks
theorem ET:∀ (m:List (Key×Bool)) (a b:List Key),sk m (a++b)=(sk m a).bind fun m'=>sk m' b
 | m,[],b=>rfl
 | m,k::a,b=>by
  simp only[cO,sk];split
  ·rfl
  ·exact ET _ a b
theorem Ja:∀ (ks S:List Key),S.Nodup->sk (ge S) ks=if (S++ks).Nodup then some (ge (S++ks)) else none
 | [],S,h=>by simp[sk,h]
 | k::ks,S,h=>by
  have hg:getM (ge S) k=jc S k:=Uw S k;simp only[sk,hg]
  cases hh:jc S k with
  | true=>
   have:¬ (S++k::ks).Nodup:=fun hn=>by
    rw[fU] at hn;exact hn.2.2 k (q_.1 hh) k (by simp) rfl
   simp[this]
  | false=>
   have hk:k ∉ S:=fun hm=>by rw[q_.2 hm] at hh;cases hh
   simp only[aG,aL];have hp:sd (ge S) k=ge (S++[k]):=L4 hh;rw[hp,Ja ks (S++[k]) (by rw[fU];exact ⟨h,by simp,fun a ha b hb e=>by simp at hb;subst hb;subst e;exact hk ha⟩)];simp only[bL,cO,bP]
theorem Jb {O:Type} (bad:Option O) (E:List (Key×Bool)->Option O):∀ (ks:List Key) (i:Nat) (m:List (Key×Bool)),bn (fun _ m k=>if getM m k then .inl bad else .inr (sd m k)) E i ks m=match sk m ks with | none=>bad | some m'=>E m'
 | [],_,_=>rfl
 | k::ks,i,m=>by
  simp only[bn,sk];by_cases h:getM m k=true
  ·simp[h]
  ·simp only[h,aL];exact Jb bad E ks _ _
theorem Ho {O:Type} (bad:Option O) (E:Option O):∀ (xs:List Tx) (i:Nat) (m:List (Key×Bool)),bn (fun _ m x=>match sk m x.2.2.2.1 with | none=>.inl bad | some m'=>.inr m') (fun _=>E) i xs m=match sk m (flatK xs) with | none=>bad | some _=>E
 | [],_,_=>rfl
 | x::xs,i,m=>by
  have I0:flatK (x::xs)=x.2.2.2.1++flatK xs:=by simp[flatK]
  rw[I0,ET];simp only[bn]
  cases h:sk m x.2.2.2.1 with
  | none=>rfl
  | some m'=>
   simp only[aB];exact Ho bad E xs _ _
theorem Qc (xs:List Tx) (h:ER xs):cn.aa (xs,())=some (zL xs,()):=by
 have ht:=h;obtain ⟨h1,h2⟩:=h;refine ah (k:=1048577) fun k hk=>(cn.ae k _).trans ?_;unfold cn.p zL;by_cases h4:4 < xs.length
 ·have:(4:Int) < (xs.length:Int):=by omega
  simp only[this,h4,aC,aJ,aI]
  (try rfl)
 have YD:¬ (4:Int) < (xs.length:Int):=by omega
 simp only[h4,YD,aD,aE,aL]
 have last:cn.q2 (xs,()) xs=some (if 12 < x_ xs then 2 else 0,()):=by
  show cn.q2 _ _=_;unfold cn.q2;simp only[L2 xs ht,aB];by_cases hc:12 < x_ xs <;> simp[hc]
 have inner:∀ (self:((List Tx)×(List (Key×Bool))×(List Tx)×Int×Int)->Option cn.Out) (e2:List Tx->Option cn.Out) (i:Nat) (hi:i < xs.length) (m:List (Key×Bool)),cn.r2 k self e2 (xs,()) xs xs (xs.length:Int) (i:Int) (xs[i]).2.2.2.1 (List.length (xs[i]).2.2.2.1:Int) (m,(0:Int))=match sk m (xs[i]).2.2.2.1 with | none=>some ((7:Int),()) | some m'=>self (xs,m',xs,(xs.length:Int),af ((i:Int)+1)):=fun self e2 i hi m=>by
  have VS:=(h2 _ (aQ hi)).2.2.1
  have:=eb (B:=fun fl v=>cn.b2 fl (fun z=>cn.q1 self e2 (xs,()) xs xs (xs.length:Int) (i:Int) (xs[i]).2.2.2.1 (List.length (xs[i]).2.2.2.1:Int) z) (xs,()) xs xs (xs.length:Int) (i:Int) (xs[i]).2.2.2.1 (List.length (xs[i]).2.2.2.1:Int) v) (xs[i]).2.2.2.1 (fun (m:List (Key×Bool)) (j:Int)=>(m,j)) (fun _ m y=>if getM m y then .inl (some ((7:Int),())) else .inr (sd m y)) (fun m=>self (xs,m,xs,(xs.length:Int),af ((i:Int)+1))) (fun _ _=>True) (by rw[ai];omega)
   (fun j hj s fl _=>by
    show cn.b2 _ _ _ _ _ _ _ _ _ _=_;unfold cn.b2;have aj:(j:Int) < (List.length (xs[i]).2.2.2.1:Int):=by omega
    simp only[aj,aC,aJ,aK,aI,aH,aA hj,aB];show (bif getM s ((xs[i]).2.2.2.1)[j] then some ((7:Int),()) else fl (sd s ((xs[i]).2.2.2.1)[j],af ((j:Int)+1)))=_
    cases getM s ((xs[i]).2.2.2.1)[j] <;> rfl)
   (fun _ _ _ _ _ _=>trivial) (fun s fl _=>by
    show cn.b2 _ _ _ _ _ _ _ _ _ _=_;unfold cn.b2;simp only[bC,aD,aE]
    rfl) m trivial k (by omega)
  rw[Jb] at this;exact this
 have apart:cn.Q0 k (xs,()) ()=some (if Bb xs then (if 12 < x_ xs then 2 else 0) else 7,()):=by
  have:=eb (B:=fun self v=>cn.B1 k self (fun z=>cn.q2 (xs,()) z) (xs,()) v) xs (fun (m:List (Key×Bool)) (i:Int)=>(xs,m,xs,(xs.length:Int),i)) (fun _ m x=>match sk m x.2.2.2.1 with | none=>.inl (some ((7:Int),())) | some m'=>.inr m') (fun _=>some (if 12 < x_ xs then 2 else 0,())) (fun _ _=>True) (by rw[ai];omega)
   (fun i hi m self _=>by
    show cn.b1 _ _ _ _ _=_;unfold cn.b1;have aj:(i:Int) < (xs.length:Int):=by omega
    simp only[aj,aC,aJ,aK,aI,aH,aA hi,aB];rw[inner self _ i hi m]
    cases sk m (xs[i]).2.2.2.1 <;> rfl)
   (fun _ _ _ _ _ _=>trivial) (fun s self _=>by
    show cn.b1 _ _ _ _ _=_;unfold cn.b1;simp only[bC,aD,aE]
    exact last) (ge []) trivial k (by omega)
  rw[Ho,Ja _ _ iG] at this;refine aX this ?_;unfold Bb;simp only[bP];by_cases hn:(flatK xs).Nodup <;> simp[hn]
 have:=eb (B:=fun self v=>cn.b0 self (fun z=>cn.Q0 k (xs,()) z) (xs,()) v) xs (fun (_:Unit) (i:Int)=>i) (fun i _ x=>if uy xs i x=0 then .inr () else .inl (some (uy xs i x,()))) (fun _=>some (if Bb xs then (if 12 < x_ xs then 2 else 0) else 7,())) (fun _ _=>True) (by rw[ai];omega)
  (fun i hi s self _=>by
   show cn.b0 _ _ _ _=_;unfold cn.b0 uy;have aj:(i:Int) < (xs.length:Int):=by omega
   simp only[aj,aC,aJ,aK,aI,aH,aA hi,aB,Ib,P_ _ (h2 _ (aQ hi))];show (bif !fi (xs[i]).1 1 99 then _ else _)=_
   cases fi (xs[i]).1 1 99 with
   | false=>rfl
   | true=>
    simp only[aO,aE,aI];by_cases h0:i=0
    ·subst h0;have hz:¬ (0:Int) < ((0:Nat):Int):=by omega
     simp only[hz,aD,aE,Nat.lt_irrefl,aL];by_cases hc:wV xs[0]=0
     ·simp only[hc,aC,aO,aE,aI]
     ·simp only[hc,aD,aV,aJ,aL]
    ·have G7:i - 1 < xs.length:=by omega
     have hp:(0:Int) < (i:Int):=by omega
     have Lt:0 < i:=by omega
     simp only[hp,Lt,aC,aJ,B5 (show 0 < i by omega) (by rw[ai];omega),aK,aI,aH,aA G7,aB];by_cases hle:(xs[i]).1<=(xs[i - 1]).1
     ·simp only[hle,aC,aJ,aI];rfl
     ·simp only[hle,aD,aE,aL];by_cases hc:wV xs[i]=0
      ·simp only[hc,aC,aO,aE,aI]
      ·simp only[hc,aD,aV,aJ,aL])
  (fun _ _ _ _ _ _=>trivial) (fun s self _=>by
   show cn.b0 _ _ _ _=_;unfold cn.b0;simp only[bC,aD,aE]
   exact apart) () trivial k (by omega)
 rw[yJ (uy xs)] at this;refine aX this ?_;unfold Ar;split <;> rfl
theorem Qd (xs:List Tx) (h:ER xs):iF.aa (xs,())=some (zL xs,()):=by
 have ht:=h;obtain ⟨h1,h2⟩:=h;refine ah (k:=1048577) fun k hk=>(iF.ae k _).trans ?_;unfold iF.p zL;by_cases h4:4 < xs.length
 ·have:(4:Int) < (xs.length:Int):=by omega
  simp only[this,h4,aC,aJ,aI]
  (try rfl)
 have YD:¬ (4:Int) < (xs.length:Int):=by omega
 simp only[h4,YD,aD,aE,aL]
 have last:iF.q0 (xs,()) ()=some (if zM xs then (if 12 < x_ xs then 2 else 0) else 7,()):=by
  show iF.q0 _ _=_;unfold iF.q0;simp only[L3 xs ht,L1 xs ht,aB]
  cases zM xs with
  | false=>rfl
  | true=>by_cases hc:12 < x_ xs <;> simp[hc]
 have:=eb (B:=fun self v=>iF.b0 self (fun z=>iF.q0 (xs,()) z) (xs,()) v) xs (fun (_:Unit) (i:Int)=>i) (fun i _ x=>if uy xs i x=0 then .inr () else .inl (some (uy xs i x,()))) (fun _=>some (if zM xs then (if 12 < x_ xs then 2 else 0) else 7,())) (fun _ _=>True) (by rw[ai];omega)
  (fun i hi s self _=>by
   show iF.b0 _ _ _ _=_;unfold iF.b0 uy;have aj:(i:Int) < (xs.length:Int):=by omega
   simp only[aj,aC,aJ,aK,aI,aH,aA hi,aB,nq,MU _ (h2 _ (aQ hi)),LE _ (h2 _ (aQ hi))]
   have hj:(bif !decide (Ai xs[i]=0) then some (Ai xs[i],()) else bif !decide (tC xs[i]=0) then some (tC xs[i],()) else self (af ((i:Int)+1)))=match (generalizing:=false) (if wV xs[i]=0 then .inr () else .inl (some (wV xs[i],())):Sum (Option (Int×Unit)) Unit) with | .inl o=>o | .inr _=>self (af ((i:Int)+1)):=by
    unfold wV;by_cases hu:Ai xs[i]=0
    ·simp only[hu,aC,aO,aE,aI];by_cases hm:tC xs[i]=0
     ·simp only[hm,aC,aO,aE,aI]
     ·simp only[hm,aD,aV,aJ,aL]
    ·simp only[hu,aD,aV,aJ,aL]
   show (bif !fi (xs[i]).1 1 99 then _ else _)=_
   cases fi (xs[i]).1 1 99 with
   | false=>rfl
   | true=>
    simp only[aO,aE,aI];by_cases h0:i=0
    ·subst h0;have hz:¬ (0:Int) < ((0:Nat):Int):=by omega
     simp only[hz,aD,aE,Nat.lt_irrefl,aL];refine hj.trans ?_;by_cases hc:wV xs[0]=0 <;> simp only[hc,aI,aL]
    ·have G7:i - 1 < xs.length:=by omega
     have hp:(0:Int) < (i:Int):=by omega
     have Lt:0 < i:=by omega
     simp only[hp,Lt,aC,aJ,B5 (show 0 < i by omega) (by rw[ai];omega),aK,aI,aH,aA G7,aB];by_cases hle:(xs[i]).1<=(xs[i - 1]).1
     ·simp only[hle,aC,aJ,aI];rfl
     ·simp only[hle,aD,aE,aL];refine hj.trans ?_
      by_cases hc:wV xs[i]=0 <;> simp only[hc,aI,aL])
  (fun _ _ _ _ _ _=>trivial) (fun s self _=>by
   show iF.b0 _ _ _ _=_;unfold iF.b0;simp only[bC,aD,aE]
   exact last) () trivial k (by omega)
 rw[yJ (uy xs)] at this;refine aX this ?_;show (if Ar xs=0 then _ else some (Ar xs,()))=_;by_cases he:Ar xs=0
 ·rw[aU he,aU he,Uv (SC he) (fun x hx=>by
   obtain ⟨i,hi,rfl⟩:=dD.1 hx
   exact Uu (Cn (As xs he i hi)).2.1)]
 ·rw[bA he,bA he]
end OT
namespace OT
open Go
def dd (S:List Key) (ks:List Key):List Key:=ks.foldl (fun S k=>if jc S k then S else S++[k]) S
def tV (rows:List Row):List Key:=rows.map fun r=>(r.1,r.2.1,())
def wP (rows:List Row) (xs:List Tx):List Key:=tV rows++flatK xs
theorem M8 {α:Type} (k:Ty) (m:List (k.den×α)) (x:k.den) (y:α) {i:Nat} (h:m.findIdx? (fun e=>k.eq x e.1)=some i):nP k m x y=m.set i (x,y):=by
 unfold nP;rw[h]
theorem SE {S:List Key} {k:Key} (h:jc S k=true):sd (ge S) k=ge S:=by
 have key:∀ (S:List Key) (i:Nat),(ge S).findIdx? (fun e=>Ty.eq bq k e.1)=some i->(ge S)[i]?=some (k,true):=by
  intro S i hi;have h1:=fN.1 hi;have aj:i < (ge S).length:=h1.1;have h2:(ge S).findIdx (fun e=>Ty.eq bq k e.1) < (ge S).length:=by rw[h1.2];exact aj
  have h3:=List.findIdx_getElem (xs:=ge S) (p:=fun e=>Ty.eq bq k e.1) (w:=h2);simp only[h1.2] at h3;have h4:Ty.eq bq k (ge S)[i].1=decide (k=(ge S)[i].1):=B_ k _;have h3:Ty.eq bq k (ge S)[i].1=true:=h3;rw[h4,bO] at h3;rw[aA aj];have h5:(ge S)[i]=((ge S)[i].1,true):=by simp[ge]
  rw[h5,<- h3]
 show nP bq (ge S) k true=ge S
 cases hf:(ge S).findIdx? (fun e=>Ty.eq bq k e.1) with
 | none=>
  exfalso
  have h1:jm bq (ge S) k=none:=by
   unfold jm;have h2:=gY.1 hf;have:(ge S).find? (fun e=>Ty.eq bq k e.1)=none:=List.find?_eq_none.2 fun e he=>by rw[h2 e he];simp
   exact dB _ this
  have h2:=ES S k;rw[h] at h2;exact absurd (h1.symm.trans h2) (by simp)
 | some i=>
  have h1:=key S i hf;have aj:=(aM.1 h1).1;refine (M8 bq (ge S) k true hf).trans ?_;show (ge S).set i (k,true)=ge S;have:(ge S)[i]=(k,true):=(aM.1 h1).2;rw[<-this];exact List.set_getElem_self aj
theorem Ux (S:List Key) (k:Key):sd (ge S) k=ge (if jc S k then S else S++[k]):=by
 cases h:jc S k with
 | true=>simp only[aI];exact SE h
 | false=>simp only[aG,aL];exact L4 h
theorem Og:∀ (ks S:List Key),ks.foldl sd (ge S)=ge (dd S ks)
 | [],S=>rfl
 | k::ks,S=>by
  rw[eE,Ux,Og ks];rfl
theorem SF (S a b:List Key):dd S (a++b)=dd (dd S a) b:=iH
theorem SG:∀ (ks S:List Key),S.length<=(dd S ks).length
 | [],S=>aN _
 | x::ks,S=>by
  refine bJ ?_ (SG ks (if jc S x then S else S++[x]));split
  ·exact aN _
  ·simp
theorem L5:∀ (ks S:List Key),(S++ks).Nodup->dd S ks=S++ks
 | [],S,_=>by simp[dd]
 | x::ks,S,h=>by
  have hx:jc S x=false:=by
   cases hh:jc S x with
   | false=>rfl
   | true=>
    rw[fU] at h;exact absurd rfl (h.2.2 x (q_.1 hh) x (by simp))
  show dd (if jc S x then S else S++[x]) ks=_;rw[hx];simp only[aG,aL];rw[L5 ks (S++[x]) (by simpa using h)];simp
theorem M9 {rows:List Row} (h:up rows):(tV rows).Nodup:=by
 unfold tV;rw[jG,gQ];refine h.imp fun {a b} IW e=>?_
 have:rk a=rk b:=by
  simp only[bS,eJ] at e;exact Prod.ext e.1 e.2
 rw[this,jU] at IW;cases IW
theorem DW {rows:List Row} {xs:List Tx} (h:up rows):rows.length<=(dd [] (wP rows xs)).length:=by
 unfold wP;rw[SF,L5 (tV rows) [] (by simpa using M9 h)];refine bJ ?_ (SG _ _);simp[tV]
def DX:List Key->List Key->Nat
 | _,[]=>0
 | S,k::ks=>(if jc S k then 0 else 1)+DX (S++[k]) ks
theorem Il:∀ (ks S T:List Key),(∀ k,k ∈ S↔k ∈ T)->(dd S ks).length=S.length+DX T ks
 | [],S,T,_=>rfl
 | x::ks,S,T,h=>by
  have hx:jc S x=jc T x:=by rw[fB,q_,q_];exact h x
  show (dd (if jc S x then S else S++[x]) ks).length=_;simp only[DX,<- hx]
  cases hh:jc S x with
  | true=>
   simp only[aI];rw[Il ks S (T++[x]) fun k=>?_]
   ·omega
   ·simp only[cJ,bU,<- h k];constructor
    ·exact .inl
    ·rintro (h1 | h1)
     ·exact h1
     ·subst h1;exact q_.1 hh
  | false=>
   simp only[aG,aL];rw[Il ks (S++[x]) (T++[x]) fun k=>by simp only[cJ,h k]];simp only[aS,aP,bB];omega
def wQ (rows:List Row) (xs:List Tx):Nat:=(dd [] (wP rows xs)).length
theorem SH (rows:List Row) (xs:List Tx) (hr:rows.length<=1048576) (h:ER xs):d9.aa (rows,xs,())=some (ge (dd [] (wP rows xs)),()):=by
 obtain ⟨h1,h2⟩:=h;refine ah (k:=1048577) fun k hk=>(d9.ae k _).trans ?_
 have inner:∀ (self:((List (Key×Bool))×(List Tx)×Int×Int)->Option d9.Out) (e2:(List (Key×Bool))->Option d9.Out) (i:Nat) (hi:i < xs.length) (m:List (Key×Bool)),d9.r2 k self e2 (rows,xs,()) xs (xs.length:Int) (i:Int) (xs[i]).2.2.2.1 (List.length (xs[i]).2.2.2.1:Int) (m,(0:Int))=self ((xs[i]).2.2.2.1.foldl sd m,xs,(xs.length:Int),af ((i:Int)+1)):=fun self e2 i hi m=>by
  have VS:=(h2 _ (aQ hi)).2.2.1
  have:=eb (B:=fun fl v=>d9.b2 fl (fun z=>d9.q1 self e2 (rows,xs,()) xs (xs.length:Int) (i:Int) (xs[i]).2.2.2.1 (List.length (xs[i]).2.2.2.1:Int) z) (rows,xs,()) xs (xs.length:Int) (i:Int) (xs[i]).2.2.2.1 (List.length (xs[i]).2.2.2.1:Int) v) (xs[i]).2.2.2.1 (fun (m:List (Key×Bool)) (j:Int)=>(m,j)) (fun _ m y=>.inr (sd m y)) (fun m=>self (m,xs,(xs.length:Int),af ((i:Int)+1))) (fun _ _=>True) (by rw[ai];omega)
   (fun j hj s fl _=>by
    show d9.b2 _ _ _ _ _ _ _ _ _=_;unfold d9.b2;have aj:(j:Int) < (List.length (xs[i]).2.2.2.1:Int):=by omega
    simp only[aj,aC,aJ,aK,aI,aH,aA hj,aB]
    rfl)
   (fun _ _ _ _ _ _=>trivial) (fun s fl _=>by
    show d9.b2 _ _ _ _ _ _ _ _ _=_;unfold d9.b2;simp only[bC,aD,aE]
    rfl) m trivial k (by omega)
  rw[h_ (g:=sd)] at this;exact this
 have second:∀ m,d9.r1 k (rows,xs,()) (m,xs,(xs.length:Int),(0:Int))=some ((flatK xs).foldl sd m,()):=fun m=>by
  have:=b9 (B:=fun self v=>d9.B1 k self (fun z=>d9.q2 (rows,xs,()) z) (rows,xs,()) v) xs (fun (m:List (Key×Bool)) (i:Int)=>(m,xs,(xs.length:Int),i)) (fun _ m x=>.inr (x.2.2.2.1.foldl sd m)) (fun m=>(m,())) (fun _ _=>True) (by rw[ai];omega)
   (fun i hi m self _=>by
    show d9.b1 _ _ _ _ _=_;unfold d9.b1;have aj:(i:Int) < (xs.length:Int):=by omega
    simp only[aj,aC,aJ,aK,aI,aH,aA hi,aB]
    exact inner self _ i hi m)
   (fun _ _ _ _ _ _=>trivial) (fun s self _=>by
    show d9.b1 _ _ _ _ _=_;unfold d9.b1;simp only[bC,aD,aE]
    rfl) m trivial k (by omega)
  rw[h_ (g:=fun m (x:Tx)=>x.2.2.2.1.foldl sd m)] at this;refine aX this ?_
  have:∀ (xs:List Tx) (m:List (Key×Bool)),xs.foldl (fun m (x:Tx)=>x.2.2.2.1.foldl sd m) m=(flatK xs).foldl sd m:=by
   intro xs
   induction xs with
   | nil=>intro m;rfl
   | cons x xs ih=>intro m;rw[eE,ih];simp[flatK,iH]
  rw[this]
 have:=eb (B:=fun self v=>d9.b0 self (fun z=>d9.Q0 k (rows,xs,()) z) (rows,xs,()) v) rows (fun (m:List (Key×Bool)) (i:Int)=>(m,i)) (fun _ m r=>.inr (sd m (r.1,r.2.1,()))) (fun m=>some ((flatK xs).foldl sd m,())) (fun _ _=>True) (by rw[ai];omega)
  (fun i hi m self _=>by
   show d9.b0 _ _ _ _=_;unfold d9.b0;have aj:(i:Int) < (rows.length:Int):=by omega
   simp only[aj,aC,aJ,aK,aI,aH,aA hi,aB]
   rfl)
  (fun _ _ _ _ _ _=>trivial) (fun s self _=>by
   show d9.b0 _ _ _ _=_;unfold d9.b0;simp only[bC,aD,aE]
   exact second s) (ge []) trivial k (by omega)
 rw[h_ (g:=fun m (r:Row)=>sd m (r.1,r.2.1,()))] at this;refine aX this ?_;have e1:rows.foldl (fun m (r:Row)=>sd m (r.1,r.2.1,())) (ge [])=(tV rows).foldl sd (ge []):=by unfold tV;rw[List.foldl_map]
 rw[e1,<- iH];exact dB (fun m=>some (m,())) (Og (wP rows xs) [])
theorem EU {O:Type} (x:Key) (E:Bool->Option O):∀ (ys:List Key) (j:Nat) (b:Bool),bn (fun _ b y=>if b then .inr (!decide (y=x)) else .inl (E false)) E j ys b=if b then E (!jc ys x) else E false
 | [],_,b=>by cases b <;> rfl
 | y::ys,j,b=>by
  cases b with
  | false=>simp[bn]
  | true=>
   simp only[bn,aI];rw[EU x E ys];have:jc (y::ys) x=(decide (y=x)||jc ys x):=rfl;rw[this];cases decide (y=x) <;> simp
theorem L6 {O:Type} (all:List Key) (E:Int->O):∀ (ys pre:List Key) (n:Int),all=pre++ys->bn (fun i n x=>.inr (if jc (all.take i) x then n else n+1)) E pre.length ys n=E (n+(DX pre ys:Int))
 | [],pre,n,_=>by simp[bn,DX]
 | y::ys,pre,n,h=>by
  simp only[bn];have ht:all.take pre.length=pre:=by rw[h];simp
  rw[ht];have:=L6 all E ys (pre++[y]) (if jc pre y then n else n+1) (by rw[h];simp);rw[aS] at this;refine aX this ?_;congr 1;simp only[DX];cases jc pre y <;> simp <;> omega
def Jc (k:Key):List Key:=if k.2.1=0 then [] else [k]
def Qe (rows:List Row) (xs:List Tx) (k:Key):Nat:=(dd [] (wP rows xs++Jc k)).length
theorem L7 (rows:List Row) (xs:List Tx) (kk:Key) (hr:rows.length<=1048576) (hx:xs.length<=1000) (h:∀ x ∈ xs,List.length x.2.2.2.1<=1000):bv.aa (rows,xs,kk,())=some ((Qe rows xs kk:Int),()):=by
 refine ah (k:=3000000) fun k hk=>(bv.ae k _).trans ?_
 have I0:(flatK xs).length<=1000*xs.length:=by
  clear hx
  induction xs with
  | nil=>simp[flatK]
  | cons x xs ih=>
   have h1:=h x (by simp);have h2:=ih fun y hy=>h y (by simp[hy]);have:flatK (x::xs)=x.2.2.2.1++flatK xs:=by simp[flatK]
   rw[this,aS,aP];omega
 have Qa:∀ all:List Key,all.length<=2100000->bv.r2 k (rows,xs,kk,()) (all,(0:Int),(0:Int))=some ((DX [] all:Int),()):=fun all pD=>by
  have inner:∀ (self:((List Key)×Int×Int)->Option bv.Out) (e4:Int->Option bv.Out) (i:Nat) (hi:i < all.length) (n:Int),bv.r3 k self e4 (rows,xs,kk,()) all n (i:Int) (true,(0:Int))=if jc (all.take i) all[i] then self (all,n,af ((i:Int)+1)) else self (all,af (n+1),af ((i:Int)+1)):=fun self e4 i hi n=>by
   have kS:(all.take i).length=i:=by simp;omega
   have:=eb (B:=fun fl v=>bv.b3 fl (fun z=>bv.q2 self e4 (rows,xs,kk,()) all n (i:Int) z) (rows,xs,kk,()) all n (i:Int) v) (all.take i) (fun (b:Bool) (j:Int)=>(b,j)) (fun _ b y=>if b then .inr (!decide (y=all[i])) else .inl (if false then self (all,af (n+1),af ((i:Int)+1)) else self (all,n,af ((i:Int)+1)))) (fun b=>if b then self (all,af (n+1),af ((i:Int)+1)) else self (all,n,af ((i:Int)+1))) (fun _ _=>True) (by rw[ai];omega)
    (fun j hj b fl _=>by
     show bv.b3 _ _ _ _ _ _ _=_;unfold bv.b3;rw[kS] at hj;have aj:(j:Int) < (i:Int):=by omega
     have NU:j < all.length:=by omega
     have c1:(0:Int)<=(j:Int)/\(j:Int) < (all.length:Int):=by omega
     have c2:(0:Int)<=(i:Int)/\(i:Int) < (all.length:Int):=by omega
     simp only[aj,c1,c2,cU,aC,aJ,aI,aH,aA NU,aA hi,aB,B_,gP]
     cases b <;> rfl)
    (fun _ _ _ _ _ _=>trivial) (fun b fl _=>by
     show bv.b3 _ _ _ _ _ _ _=_;unfold bv.b3;simp only[kS,bC,aD,aE]
     cases b <;> rfl) true trivial k (by omega)
   have e:=EU all[i] (fun b=>if b then self (all,af (n+1),af ((i:Int)+1)) else self (all,n,af ((i:Int)+1))) (all.take i) 0 true;refine (aX this e).trans ?_;cases jc (all.take i) all[i] <;> rfl
  have:=b9 (B:=fun self v=>bv.B2 k self (fun z=>bv.q3 (rows,xs,kk,()) z) (rows,xs,kk,()) v) all (fun (n:Int) (i:Int)=>(all,n,i)) (fun i n x=>.inr (if jc (all.take i) x then n else n+1)) (fun n=>(n,())) (fun i n=>0<=n/\n<=(i:Int)) (by rw[ai];omega)
   (fun i hi n self hI=>by
    show bv.b2 _ _ _ _ _=_;unfold bv.b2;have aj:(i:Int) < (all.length:Int):=by omega
    simp only[aj,aC,aJ];rw[inner self _ i hi n,bt (n:=n+1) (by omega)]
    cases jc (all.take i) all[i] <;> rfl)
   (fun i hi n n' hI hs=>by
    injection hs with hs;rw[<-hs]
    split <;> omega) (fun s self _=>by
    show bv.b2 _ _ _ _ _=_;unfold bv.b2;simp only[bC,aD,aE]
    rfl) 0 (by omega) k (by omega)
  have e:=L6 all (fun n=>(n,())) all [] 0 rfl;refine (aX this (dB some e)).trans ?_;rw[Int.zero_add]
 have second:bv.r1 k (rows,xs,kk,()) (tV rows,(0:Int))=some ((DX [] (wP rows xs++Jc kk):Int),()):=by
  have uS:(tV rows).length=rows.length:=by simp[tV]
  have:=eb (B:=fun self v=>bv.b1 self (fun z=>bv.Q1 k (rows,xs,kk,()) z) (rows,xs,kk,()) v) xs (fun (s:List Key) (i:Int)=>(s,i)) (fun _ s x=>.inr (s++x.2.2.2.1)) (fun s=>bv.r2 k (rows,xs,kk,()) (s++Jc kk,(0:Int),(0:Int))) (fun i s=>s.length<=1048576+1000*i) (by rw[ai];omega)
   (fun i hi s self hI=>by
    show bv.b1 _ _ _ _=_;unfold bv.b1;have aj:(i:Int) < (xs.length:Int):=by omega
    have VS:=h _ (aQ hi);have hc:s.length+List.length (xs[i]).2.2.2.1<=bz:=da (by omega)
    simp only[aj,aC,aJ,aK,aI,aH,aA hi,aB,hc])
   (fun i hi s s' hI hs=>by
    injection hs with hs;have VS:=h _ (aQ hi)
    rw[<-hs,aS];omega) (fun s self hI=>by
    show bv.b1 _ _ _ _=_;unfold bv.b1;simp only[bC,aD,aE];show bv.q1 _ _ _=_;unfold bv.q1 Jc;have hc:s.length+[kk].length<=bz:=da (by simp only[aP,bB];omega);by_cases h0:kk.2.1=0
    ·simp only[h0,aC,aO,aE,aI,cH]
    ·simp only[h0,aD,aV,aJ,aL,hc,aI]) (tV rows) (by omega) k (by omega)
  rw[h_ (g:=fun s (x:Tx)=>s++x.2.2.2.1)] at this;refine aX this ?_
  have e:∀ (xs:List Tx) (s:List Key),xs.foldl (fun s (x:Tx)=>s++x.2.2.2.1) s=s++flatK xs:=by
   intro xs
   induction xs with
   | nil=>intro s;simp[flatK]
   | cons x xs ih=>intro s;rw[eE,ih];simp[flatK]
  rw[e];have hex:(Jc kk).length<=1:=by unfold Jc;split <;> simp
  exact Qa _ (by rw[aS,aS,uS];omega)
 have:=eb (B:=fun self v=>bv.b0 self (fun z=>bv.Q0 k (rows,xs,kk,()) z) (rows,xs,kk,()) v) rows (fun (s:List Key) (i:Int)=>(s,i)) (fun _ s r=>.inr (s++[(r.1,r.2.1,())])) (fun s=>bv.r1 k (rows,xs,kk,()) (s,(0:Int))) (fun i s=>s.length=i) (by rw[ai];omega)
  (fun i hi s self hI=>by
   show bv.b0 _ _ _ _=_;unfold bv.b0;have aj:(i:Int) < (rows.length:Int):=by omega
   have hc:s.length+[((rows[i]).1,(rows[i]).2.1,())].length<=bz:=da (by simp only[aP,bB];omega);simp only[aj,aC,aJ,aK,aI,aH,aA hi,aB]
   rw[aU hc])
  (fun i hi s s' hI hs=>by injection hs with hs;rw[<-hs];simp[hI]) (fun s self _=>by
   show bv.b0 _ _ _ _=_;unfold bv.b0;simp only[bC,aD,aE]
   rfl) [] rfl k (by omega)
 rw[h_ (g:=fun s (r:Row)=>s++[(r.1,r.2.1,())])] at this
 have e:∀ (rows:List Row) (s:List Key),rows.foldl (fun s (r:Row)=>s++[(r.1,r.2.1,())]) s=s++tV rows:=by
  intro rows
  induction rows with
  | nil=>intro s;simp[tV]
  | cons r rows ih=>intro s;rw[eE,ih];simp[tV]
 rw[e,bP,second] at this;refine aX this ?_;have:=Il (wP rows xs++Jc kk) [] [] (fun _=>jT);simp only[bB,bE] at this;unfold Qe;rw[this]
theorem M_ (rows:List Row) (xs:List Tx) (hr:rows.length<=1048576) (hx:xs.length<=1000) (h:∀ x ∈ xs,List.length x.2.2.2.1<=1000):bv.aa (rows,xs,((0:Int),(0:Int),()),())=some ((wQ rows xs:Int),()):=by
 rw[L7 rows xs _ hr hx h];unfold Qe Jc;simp only[aI,cH];rfl
theorem SI {ks:List Key} (h:wG ks=0):∀ k ∈ ks,xq k=true:=by
 have main:∀ (ys:List Key) (j:Nat),(bn (fun i (_:Unit) k=>if qC ks i k=0 then .inr () else .inl (qC ks i k)) (fun _=>(0:Int)) j ys ())=0->∀ y ∈ ys,xq y=true:=by
  intro ys
  induction ys with
  | nil=>intro j _ y hy;cases hy
  | cons y ys ih=>
   intro j hf z hz;simp only[bn] at hf;by_cases h0:qC ks j y=0
   ·rw[aU h0] at hf;rcases aY.1 hz with rfl | hz
    ·unfold qC at h0;split at h0
     ·assumption
     ·cases h0
    ·exact ih (j+1) hf z hz
   ·rw[bA h0] at hf;exact absurd hf h0
 exact main ks 0 h
structure Qf (xs:List Tx):Prop where
 len:xs.length<=4
 ch:∀ x ∈ xs,∀ c ∈ (x.2.1:List Change),tw c=0
 ZP:∀ x ∈ xs,List.length x.2.2.2.1<=12
 Qg:∀ x ∈ xs,List.length x.2.1<=12
 keys:∀ x ∈ xs,∀ k ∈ (x.2.2.2.1:List Key),xq k=true
theorem EV {α:Type} {c:α->Int}:∀ {xs:List α},mU c xs=0->∀ x ∈ xs,c x=0
 | [],_,_,h=>by cases h
 | y::ys,h,x,hx=>by
  simp only[mU] at h;split at h
  ·rcases aY.1 hx with e | e
   ·subst e;assumption
   ·exact EV h x e
  ·rename_i hn;exact absurd h hn
theorem Oh:∀ (xs:List Tx) (n:Int),0<=n->n<=xs.foldl (fun n x=>n+(List.length x.2.1:Int)) n/\∀ x ∈ xs,(List.length x.2.1:Int)<=xs.foldl (fun n x=>n+(List.length x.2.1:Int)) n
 | [],n,h=>⟨gE _,fun x hx=>by cases hx⟩
 | y::ys,n,h=>by
  obtain ⟨h1,h2⟩:=Oh ys (n+(List.length y.2.1:Int)) (by omega);simp only[eE];refine ⟨by omega,fun x hx=>?_⟩
  rcases aY.1 hx with e | e
  ·subst e;omega
  ·exact h2 x e
theorem Hq {xs:List Tx} (h:zL xs=0):Qf xs:=by
 unfold zL at h;split at h
 ·cases h
 ·rename_i hl;split at h
  ·rename_i he;split at h
   ·split at h
    ·cases h
    ·rename_i hc
     have each:∀ x ∈ xs,wV x=0:=fun x hx=>by
      obtain ⟨i,hi,rfl⟩:=dD.1 hx;exact (Cn (As xs he i hi)).2.1
     refine ⟨by omega,fun x hx c hcm=>?_,fun x hx=>?_,fun x hx=>?_,fun x hx=>?_⟩
     ·have h1:=each x hx;unfold wV at h1;split at h1
      ·rename_i hu;have h2:=EV hu c hcm;unfold xr at h2;split at h2
       ·rename_i hs;unfold wC at hs;split at hs
        ·assumption
        ·rename_i hn;exact absurd hs hn
       ·rename_i hn;exact absurd h2 hn
      ·rename_i hn;exact absurd h1 hn
     ·have h1:=each x hx;unfold wV at h1;split at h1
      ·unfold tC at h1;split at h1
       ·cases h1
       ·rename_i hm;simp only[cX,bO,not_or] at hm;omega
      ·rename_i hn;exact absurd h1 hn
     ·have:=(Oh xs 0 (gE _)).2 x hx;unfold x_ at hc;omega
     ·have h1:=each x hx;unfold wV at h1;split at h1
      ·unfold tC at h1;split at h1
       ·cases h1
       ·split at h1
        ·exact SI h1
        ·cases h1
      ·rename_i hn;exact absurd h1 hn
   ·cases h
  ·rename_i hn;exact absurd h hn
end OT
namespace OT
open Go
def DY (c:Change):Change:=(c.2.2.1,c.2.2.2.1,c.1,c.2.1,())
def oX (cs:List Change):List Change:=cs.reverse.map DY
theorem Ev (cs:List Change):(oX cs).length=cs.length:=by simp[oX]
theorem Oi {cs:List Change} {c:Change} (h:c ∈ oX cs):∃ d ∈ cs,c=DY d:=by
 unfold oX at h;obtain ⟨d,h1,h2⟩:=fT.1 h;exact ⟨d,List.mem_reverse.1 h1,h2.symm⟩
theorem L8 (a b:Row):sameKey a b=sameKey b a:=by
 rw[B6,B6];by_cases h:rk a=rk b
 ·simp[h]
 ·have:¬ rk b=rk a:=fun e=>h e.symm;simp[h,this]
theorem WB {c:Change} (h:tw c=0):tw (DY c)=0:=by
 obtain ⟨a,ra,b,rb,⟨⟩⟩:=c;unfold tw at h ⊢;simp only[DY];have hk:=L8 ra rb;cases a <;> cases b
 ·exact h
 ·simp at h ⊢;by_cases hr:nz rb=0
  ·exact fun _=>hr
  ·simp[hr] at h
 ·simp at h ⊢;by_cases hr:nz ra=0
  ·exact hr
  ·simp[hr] at h
 ·simp only[hk] at h;by_cases hs:sameKey rb ra=true
  ·by_cases hr:nz ra=0
   ·by_cases hb:nz rb=0
    ·simp[hs,hr,hb] at h ⊢
     try omega
    ·simp[hs,hr,hb] at h ⊢
   ·by_cases hb:nz rb=0
    ·simp[hs,hr,hb] at h ⊢
    ·simp[hs,hr,hb] at h ⊢
  ·simp[hs] at h
theorem DZ (cs:List Change) (hl:cs.length<=1048576) {O:Type} {B:((List Change×Int)->Option O)->(List Change×Int)->Option O} {E:List Change->Option O}
  (jd:∀ (m:Nat) (hm:m < cs.length) acc self,acc.length<=1048576->B self (acc,(m:Int))=self (acc++[DY cs[m]],af ((m:Int) - 1))) (ld:∀ acc self,B self (acc,(-1:Int))=E acc) :
  ∀ k,cs.length < k->aq B k ([],af ((cs.length:Int) - 1))=E (oX cs):=by
 have main:∀ (m:Nat) (acc:List Change),m<=cs.length->acc.length+m<=cs.length->∀ k,m < k->aq B k (acc,(m:Int) - 1)=E (acc++(cs.take m).reverse.map DY):=by
  intro m
  induction m with
  | zero=>
   intro acc _ _ k hk
   cases k with
   | zero=>omega
   | succ k=>
    show B (aq B k) _=_;have:((0:Nat):Int) - 1=-1:=by omega
    rw[this,ld];simp
  | succ m ih=>
   intro acc hm ha k hk
   cases k with
   | zero=>omega
   | succ k=>
    show B (aq B k) _=_;have e:((m+1:Nat):Int) - 1=(m:Int):=by omega
    rw[e,jd m (by omega) acc _ (by omega),bt (by omega),ih _ (by omega) (by simp;omega) k (by omega),eM (by omega),List.reverse_append,gJ,bL];rfl
 intro k hk;have:=main cs.length [] (aN _) (by simp) k hk;rw[bt (by omega)]
 simpa [oX] using this
theorem Qh (cs:List Change) (hl:cs.length<=1048576):ku.aa (cs,())=some (oX cs,()):=by
 refine ah (k:=cs.length+1) fun k hk=>(ku.ae k _).trans ?_;refine DZ cs hl (B:=fun self v=>ku.b0 self (fun z=>ku.q0 (cs,()) z) (cs,()) v) (E:=fun z=>some (z,())) (fun m hm acc self ha=>?_) (fun acc self=>?_) k (by omega)
 ·show ku.b0 _ _ _ _=_;unfold ku.b0;have hc:acc.length+[DY cs[m]].length<=bz:=da (by simp only[aP,bB];omega);simp only[aK,aC,aJ,aI,aH,aA hm,aB];exact aU hc
 ·show ku.b0 _ _ _ _=_;unfold ku.b0;rfl
theorem Qi (cs:List Change) (hl:cs.length<=1048576):mI.aa (cs,())=some (oX cs,()):=by
 refine ah (k:=cs.length+1) fun k hk=>(mI.ae k _).trans ?_;refine DZ cs hl (B:=fun self v=>mI.b0 self (fun z=>mI.q0 (cs,()) z) (cs,()) v) (E:=fun z=>some (z,())) (fun m hm acc self ha=>?_) (fun acc self=>?_) k (by omega)
 ·show mI.b0 _ _ _ _=_;unfold mI.b0;have hc:acc.length+[DY cs[m]].length<=bz:=da (by simp only[aP,bB];omega);simp only[aK,aC,aJ,aI,aH,aA hm,aB];exact aU hc
 ·show mI.b0 _ _ _ _=_;unfold mI.b0;rfl
def lI:List Row->List Change->Option (List Row)
 | s,[]=>some s
 | s,c::cs=>if uO s c then lI (sZ s c) cs else none
theorem back_append:∀ (a b:List Change) (s:List Row),lI s (a++b)=(lI s a).bind fun t=>lI t b
 | [],b,s=>rfl
 | c::a,b,s=>by
  simp only[cO,lI];split
  ·exact back_append a b _
  ·rfl
theorem Jd {O:Type} (bad:O) (fin:List Row->O):∀ (cs:List Change) (i:Nat) (s:List Row),bn (fun _ s c=>if uO s c then .inr (sZ s c) else .inl bad) fin i cs s=match lI s cs with | some t=>fin t | none=>bad
 | [],_,_=>rfl
 | c::cs,i,s=>by
  simp only[bn,lI];by_cases h:uO s c=true
  ·simp only[h,aI];exact Jd bad fin cs _ _
  ·simp[h]
theorem D0:∀ (cs:List Change) (s t:List Row),Good s->(∀ c ∈ cs,tw c=0)->lI s cs=some t->Good t/\t.length<=s.length+cs.length
 | [],s,t,h,_,hb=>by injection hb with hb;subst hb;exact ⟨h,by simp⟩
 | c::cs,s,t,h,hc,hb=>by
  simp only[lI] at hb;split at hb
  ·have h1:=D0 cs (sZ s c) t (Ah h (hc c (by simp))) (fun d hd=>hc d (by simp[hd])) hb;have h2:=B8 s c;exact ⟨h1.1,by simp only[aP];omega⟩
  ·cases hb
theorem L9 {O α:Type} {f:Nat->Unit->α->Sum O Unit} {fin:Unit->O}:∀ (xs:List α) (j:Nat),(∀ i (hi:i < xs.length),f (j+i) () xs[i]=.inr ())->bn f fin j xs ()=fin ()
 | [],_,_=>rfl
 | x::xs,j,h=>by
  have h0:=h 0 (by simp);simp only[cY,List.getElem_cons_zero] at h0;simp only[bn,h0]
  exact L9 xs (j+1) fun i hi=>by
   have:=h (i+1) (by simp;omega);rw[show j+1+i=j+(i+1) by omega]
   simpa using this
theorem Qj {xs:List Row} (h:Good xs) (hl:xs.length<=60):pQ xs=0:=by
 unfold pQ;rw[bA (by omega),L9 xs 0 fun i hi=>?_];unfold sa;rw[aU (h.ok _ (aQ hi)),bE];by_cases h0:0 < i
 ·rw[aU h0,aA (show i - 1 < xs.length by omega)];have hu:=h.up;unfold up at hu;rw[eA] at hu;have:=hu (i - 1) i (by omega) hi (by omega);simp only[this,aI]
 ·rw[bA h0]
theorem Qk {s:List Row} {cs:List Change} (h:Good s) (hc:∀ c ∈ cs,tw c=0) (hl:s.length+cs.length<=60):qg s cs=match lI s cs with | some t=>((0:Int),t,()) | none=>((8:Int),([]:List Row),()):=by
 unfold qg;rw[aU (Qj h (by omega))]
 have main:∀ (cs:List Change) (s:List Row) (i:Nat),Good s->(∀ c ∈ cs,tw c=0)->s.length+cs.length<=60->(bn pk sb i cs s).1=match lI s cs with | some t=>((0:Int),t,()) | none=>((8:Int),([]:List Row),()):=by
  intro cs
  induction cs with
  | nil=>
   intro s i h _ hl;simp only[bn,sb,lI];rw[bA (by simp at hl;omega)]
  | cons c cs ih=>
   intro s i h hc hl;simp only[bn,pk,lI,hc c (by simp),aI];by_cases hf:uO s c=true
   ·simp only[hf,aI];have:=B8 s c;exact ih _ _ (Ah h (hc c (by simp))) (fun d hd=>hc d (by simp[hd])) (by simp at hl;omega)
   ·simp[hf]
 exact main cs s 0 h hc hl
def tW (xs:List Tx):List Change:=xs.flatMap fun x=>oX x.2.1
theorem Co {O:Type} (bad:O) (fin:List Row->O):∀ (xs:List Tx) (i:Nat) (s:List Row),bn (fun _ s x=>match lI s (oX x.2.1) with | some t=>.inr t | none=>.inl bad) fin i xs s=match lI s (tW xs) with | some t=>fin t | none=>bad
 | [],_,_=>rfl
 | x::xs,i,s=>by
  have hb:tW (x::xs)=oX x.2.1++tW xs:=by simp[tW]
  rw[hb,back_append];simp only[bn]
  cases lI s (oX x.2.1) with
  | none=>rfl
  | some t=>simp only[aB];exact Co bad fin xs _ _
theorem Hr {cs:List Change} (h:∀ c ∈ cs,tw c=0):∀ c ∈ oX cs,tw c=0:=fun c hc=>by
 obtain ⟨d,h1,rfl⟩:=Oi hc;exact WB (h d h1)
theorem YE {cs:List Change} (h:∀ c ∈ cs,cl c):∀ c ∈ oX cs,cl c:=fun c hc=>by
 obtain ⟨d,h1,rfl⟩:=Oi hc;exact ⟨(h d h1).2,(h d h1).1⟩
theorem WC {s:List Row} (h:Good s):∀ x ∈ s,rl x:=fun x hx=>by
 have:=DF (h.ok x hx);unfold rl;rw[ai];omega
theorem L_ (s:List Row) (cs:List Change) (h:Good s) (hc:∀ c ∈ cs,tw c=0) (hl:s.length+cs.length<=1000):l5.aa (s,cs,())=some (match lI s (oX cs) with | some t=>(t,true,()) | none=>(([]:List Row),false,())):=by
 refine ah (k:=1001) fun k hk=>(l5.ae k _).trans ?_;unfold l5.p;rw[Qh cs (by omega)];simp only[aB];have hlen:=Ev cs;have VT:=Hr hc
 have:=b9 (B:=fun self v=>l5.b0 self (fun z=>l5.q0 (s,cs,()) (oX cs) z) (s,cs,()) (oX cs) v) (oX cs) (fun (s:List Row) (i:Int)=>(s,i)) (fun _ s c=>if uO s c then .inr (sZ s c) else .inl (([]:List Row),false,())) (fun s=>(s,true,())) (fun i t=>Good t/\t.length<=s.length+i) (by rw[ai];omega)
  (fun i hi t self hI=>by
   show l5.b0 _ _ _ _ _=_;unfold l5.b0;have aj:(i:Int) < ((oX cs).length:Int):=by omega
   have jd:(0:Int)<=(i:Int)/\(i:Int) < ((oX cs).length:Int):=by omega
   simp only[aj,jd,cU,aC,aJ,aI,aH,aA hi,aB];rw[IV t _ hI.1.up (by omega) (Ig (VT _ (aQ hi))).1]
   cases uO t (oX cs)[i] <;> rfl)
  (fun i hi t t' hI hs=>by
   split at hs
   ·injection hs with hs;subst hs;have:=B8 t (oX cs)[i];exact ⟨Ah hI.1 (VT _ (aQ hi)),by omega⟩
   ·cases hs) (fun t self _=>by
   show l5.b0 _ _ _ _ _=_;unfold l5.b0;simp only[bC,aD,aE]
   rfl) s ⟨h,by omega⟩ k (by omega)
 rw[Jd] at this;refine aX this ?_;cases lI s (oX cs) <;> rfl
theorem EW (rows:List Row) (xs:List Tx) (h:Good rows) (hl:rows.length<=12) (hx:Qf xs):j0.aa (rows,xs,())=some (match lI rows (tW xs) with | some t=>(t,true,()) | none=>(([]:List Row),false,())):=by
 refine ah (k:=10) fun k hk=>(j0.ae k _).trans ?_;unfold j0.p;have hc:([]:List Row).length+rows.length<=bz:=da (by simp only[bB];omega);rw[aU hc,bP];have hx4:=hx.len
 have:=b9 (B:=fun self v=>j0.b0 self (fun z=>j0.q0 (rows,xs,()) z) (rows,xs,()) v) xs (fun (s:List Row) (i:Int)=>(s,i)) (fun _ s x=>match lI s (oX x.2.1) with | some t=>.inr t | none=>.inl (([]:List Row),false,())) (fun s=>(s,true,())) (fun i t=>Good t/\t.length<=12+12*i) (by rw[ai];omega)
  (fun i hi t self hI=>by
   show j0.b0 _ _ _ _=_;unfold j0.b0;have aj:(i:Int) < (xs.length:Int):=by omega
   have hu:=hx.Qg _ (aQ hi);simp only[aj,aC,aJ,aK,aI,aH,aA hi,aB];rw[L_ t _ hI.1 (hx.ch _ (aQ hi)) (by omega)]
   cases lI t (oX (xs[i]).2.1) <;> rfl)
  (fun i hi t t' hI hs=>by
   have hu:=hx.Qg _ (aQ hi)
   cases hb:lI t (oX (xs[i]).2.1) with
   | none=>rw[hb] at hs;cases hs
   | some q=>
    rw[hb] at hs;injection hs with hs;subst hs;have:=D0 _ _ _ hI.1 (Hr (hx.ch _ (aQ hi))) hb;rw[Ev] at this
    exact ⟨this.1,by omega⟩) (fun t self _=>by
   show j0.b0 _ _ _ _=_;unfold j0.b0;simp only[bC,aD,aE]
   rfl) rows ⟨h,by omega⟩ k (by omega)
 rw[Co] at this;refine aX this ?_;cases lI rows (tW xs) <;> rfl
theorem D1 (rows:List Row) (xs:List Tx) (h:Good rows) (hl:rows.length<=12) (hx:Qf xs) (ht:ER xs):fj.aa (rows,xs,())=some (match lI rows (tW xs) with | some t=>(t,(0:Int),()) | none=>(([]:List Row),(8:Int),())):=by
 refine ah (k:=10) fun k hk=>(fj.ae k _).trans ?_;unfold fj.p;have hx4:=hx.len
 have:=b9 (B:=fun self v=>fj.b0 self (fun z=>fj.q0 (rows,xs,()) z) (rows,xs,()) v) xs (fun (s:List Row) (i:Int)=>(s,i)) (fun _ s x=>match lI s (oX x.2.1) with | some t=>.inr t | none=>.inl (([]:List Row),(8:Int),())) (fun s=>(s,(0:Int),())) (fun i t=>Good t/\t.length<=12+12*i) (by rw[ai];omega)
  (fun i hi t self hI=>by
   show fj.b0 _ _ _ _=_;unfold fj.b0;have aj:(i:Int) < (xs.length:Int):=by omega
   have hu:=hx.Qg _ (aQ hi);have VT:=Hr (hx.ch _ (aQ hi));have htl:=ht.2 _ (aQ hi);simp only[aj,aC,aJ,aK,aI,aH,aA hi,aB];rw[Qi _ htl.1];simp only[aB];have U5:=Ev (xs[i]).2.1;rw[DG t _ (by rw[ai];omega) (WC hI.1) (by omega) (YE htl.2.2.2),Qk hI.1 VT (by omega)]
   cases lI t (oX (xs[i]).2.1) <;> rfl)
  (fun i hi t t' hI hs=>by
   have hu:=hx.Qg _ (aQ hi)
   cases hb:lI t (oX (xs[i]).2.1) with
   | none=>rw[hb] at hs;cases hs
   | some q=>
    rw[hb] at hs;injection hs with hs;subst hs;have:=D0 _ _ _ hI.1 (Hr (hx.ch _ (aQ hi))) hb;rw[Ev] at this
    exact ⟨this.1,by omega⟩) (fun t self hI=>by
   show fj.b0 _ _ _ _=_;unfold fj.b0;simp only[bC,aD,aE,fj.q0,fj.q0];rw[AH t (by omega)]
   rfl) rows ⟨h,by omega⟩ k (by omega)
 rw[Co] at this;refine aX this ?_;cases lI rows (tW xs) <;> rfl
def Hs (n:Int) (xs:List Tx):Bool:=match xs[xs.length - 1]? with
 | some x=>decide (n<=x.1)
 | none=>false
def sy (p:Plain):Int:=
 if pQ p.1=0 then
  if zL p.2.1=0 then
   if fi p.2.2.1 1 100&&!Hs p.2.2.1 p.2.1 then
    if 12 < wQ p.1 p.2.1 then 2 else (match lI p.1 (tW p.2.1) with | some _=>0 | none=>8)
   else 3
  else zL p.2.1
 else pQ p.1
def Ma (p:Plain):Prop:=List.length p.1<=1048576/\(∀ x ∈ (p.1:List Row),rl x)/\ER p.2.1
theorem Oj {O:Type} (n:Int) (xs:List Tx) (hl:xs.length<=1048576) (bad j:Option O) :
  (bif decide ((0:Int) < (xs.length:Int)) then (if 0<=af ((xs.length:Int) - (1:Int)) then ((xs[(af ((xs.length:Int) - (1:Int))).toNat]?).bind fun x5=>bif decide (n<=x5.1) then bad else j) else none) else j)=if Hs n xs then bad else j:=by
 unfold Hs;by_cases h:0 < xs.length
 ·have h1:(0:Int) < (xs.length:Int):=by omega
  have h2:af ((xs.length:Int) - 1)=((xs.length - 1:Nat):Int):=by rw[bt (by omega)];omega
  have h3:xs.length - 1 < xs.length:=by omega
  simp only[h1,h2,aC,aJ,aK,aI,aH,aA h3,aB];cases decide (n<=(xs[xs.length - 1]).1) <;> rfl
 ·have h0:xs=[]:=bH (by omega);subst h0;rfl
theorem D2 (p:Plain) (h:Ma p):lk.aa (p,())=some (sy p,()):=by
 obtain ⟨rows,xs,n,⟨⟩⟩:=p;obtain ⟨h1,h2,h3⟩:=h;simp only at h1 h2 h3;refine ah (k:=0) fun k _=>(lk.ae k _).trans ?_;show lk.p _=_;unfold lk.p sy;simp only[AG rows (by rw[ai];omega) h2,Qc xs h3,rO,SH rows xs h1 h3,aB];by_cases hr:pQ rows=0;rotate_left
 ·simp only[hr,aD,aV,aJ,aL]
 by_cases ht:zL xs=0;rotate_left
 ·simp only[hr,ht,aC,aD,aO,aV,aJ,aE,aI,aL]
 obtain ⟨hg,_⟩:=rP hr;have bc:=Hq ht;simp only[hr,ht,aC,aO,aE,aI];have jd:(decide ((1:Int)<=n)&&decide (n<=100))=fi n 1 100:=rfl;rw[jd]
 cases fi n 1 100 with
 | false=>rfl
 | true=>
  simp only[aO,aE,eG];rw[Oj n xs h3.1]
  cases Hs n xs with
  | true=>rfl
  | false=>
   simp only[aV,aG,aL,aI];have hlen:(ge (dd [] (wP rows xs))).length=wQ rows xs:=by simp[ge,wQ]
   by_cases oI:12 < wQ rows xs
   ·have:(12:Int) < ((ge (dd [] (wP rows xs))).length:Int):=by rw[hlen];omega
    simp only[this,oI,aC,aJ,aI]
   ·have:¬ (12:Int) < ((ge (dd [] (wP rows xs))).length:Int):=by rw[hlen];omega
    have uS:rows.length<=12:=by
     have:=DW (xs:=xs) hg.up;unfold wQ at oI;omega
    simp only[this,oI,aD,aE,aL,D1 rows xs hg uS bc h3,aB];cases lI rows (tW xs) <;> rfl
theorem D3 (p:Plain) (h:Ma p):mH.aa (p,())=some (sy p,()):=by
 obtain ⟨rows,xs,n,⟨⟩⟩:=p;obtain ⟨h1,h2,h3⟩:=h;simp only at h1 h2 h3;refine ah (k:=0) fun k _=>(mH.ae k _).trans ?_;show mH.p _=_;unfold mH.p sy;simp only[AF rows (by rw[ai];omega) h2,Qd xs h3,nq,aB];by_cases hr:pQ rows=0;rotate_left
 ·simp only[hr,aD,aV,aJ,aL]
 by_cases ht:zL xs=0;rotate_left
 ·simp only[hr,ht,aC,aD,aO,aV,aJ,aE,aI,aL]
 obtain ⟨hg,_⟩:=rP hr;have bc:=Hq ht;have YF:=M_ rows xs h1 (by have:=bc.len;omega) (fun x hx=>by have:=bc.ZP x hx;omega);simp only[hr,ht,aC,aO,aE,aI,YF,aB];have jd:(decide ((1:Int)<=n)&&decide (n<=100))=fi n 1 100:=rfl;rw[jd]
 cases fi n 1 100 with
 | false=>rfl
 | true=>
  simp only[aO,aE,eG];rw[Oj n xs h3.1]
  cases Hs n xs with
  | true=>rfl
  | false=>
   simp only[aV,aG,aL,aI];by_cases oI:12 < wQ rows xs
   ·have:(12:Int) < (wQ rows xs:Int):=by omega
    simp only[this,oI,aC,aJ,aI]
   ·have:¬ (12:Int) < (wQ rows xs:Int):=by omega
    have uS:rows.length<=12:=by
     have:=DW (xs:=xs) hg.up;unfold wQ at oI;omega
    simp only[this,oI,aD,aE,aL,EW rows xs hg uS bc,aB];cases lI rows (tW xs) <;> rfl
theorem Mb {p:Plain} (hv:sG jZ p) (hz:zz jZ p<=1048576):Ma p:=by
 obtain ⟨rows,xs,n,⟨⟩⟩:=p;obtain ⟨hr,hx,_⟩:=hv;replace hz:zz (.U au) rows+(zz (.U ct) xs+(0+0))<=1048576:=hz;refine ⟨bJ (mp (e:=au) rows) (by omega),fun x hm=>PL (hr.2 x hm),bJ (mp (e:=ct) xs) (by omega),fun x hm=>?_⟩
 have h1:zz ct x+1<=zz (.U ct) xs:=tr (e:=ct) hm;have h2:zz ct x=0+(zz (.U ap) x.2.1+(zz (.U i64) x.2.2.1+(zz (.U bq) x.2.2.2.1+0))):=rfl;have h3:List.length x.2.1<=zz (.U ap) x.2.1:=mp (e:=ap) x.2.1;have h4:List.length x.2.2.1<=zz (.U i64) x.2.2.1:=mp (e:=i64) x.2.2.1;have h5:List.length x.2.2.2.1<=zz (.U bq) x.2.2.2.1:=mp (e:=bq) x.2.2.2.1;exact ⟨by omega,by omega,by omega,fun c hc=>ZI ((hx.2 x hm).2.1.2 c hc)⟩
end OT
namespace OT
open Go
end OT
namespace OT
open Go
theorem Bc {a b:List UInt8} {i:Nat} (h:i < a.length):cd (a++b) i=cd a i:=by
 unfold cd;simp only[eS];rw[bW h]
theorem SJ {a b:List UInt8} {q:bf×Nat} (h:pT a=some q):pT (a++b)=some q:=by
 have h0:=h;unfold pT at h;split at h
 ·cases h
 ·rename_i hc;have l0:7<=a.length:=by omega
  have l1:cd a 0<=a.length:=by omega
  unfold pT;have e0:cd (a++b) 0=cd a 0:=Bc (by omega);have e1:cd (a++b) 1=cd a 1:=Bc (by omega);have e2:cd (a++b) 2=cd a 2:=Bc (by omega);have e3:cd (a++b) 3=cd a 3:=Bc (by omega);have e4:cd (a++b) 4=cd a 4:=Bc (by omega);rw[e0,e1,e2,e3,e4,dH l1,bA (by rw[aS];omega)];exact h
theorem EX (b:List UInt8):∀ (k:Nat) (a:List UInt8),a.length < k->(kW k a).2=a.length->kW (k+b.length) (a++b)=((kW k a).1++(td b).1,a.length+(td b).2)
 | 0,_,h,_=>by omega
 | k+1,a,hk,h=>by
  cases hr:pT a with
  | none=>
   simp only[kW,hr] at h;have:a=[]:=bH h.symm;subst this;rw[bP,tE (k+1+b.length) (b.length+1) b (by omega) (by omega)];simp[kW,hr,td]
  | some q=>
   obtain ⟨r,n⟩:=q;have hn:=vX hr;have hd:(a.drop n).length=a.length - n:=bI;simp only[kW,hr] at h;have ih:=EX b k (a.drop n) (by omega) (by omega);have e:k+1+b.length=(k+b.length)+1:=by omega
   rw[e];simp only[kW,hr,SJ hr,dI hn.2.1,ih,cO];rw[hd];congr 1;omega
theorem SK {a b:List UInt8} (h:rT a=true):td (a++b)=((td a).1++(td b).1,a.length+(td b).2):=by
 have:=EX b (a.length+1) a (by omega) (of_decide_eq_true h);unfold td;rw[aS,tE (a.length+b.length+1) (a.length+1+b.length) _ (by rw[aS];omega) (by rw[aS];omega)];exact this
def tf (l:Log):List bf:=(td l.1).1++(td l.2.1).1
theorem zN:∀ (k:Nat) (d:List UInt8),(kW k d).1.length<=d.length
 | 0,d=>aW _
 | k+1,d=>by
  simp only[kW]
  cases hr:pT d with
  | none=>exact aW _
  | some q=>
   obtain ⟨r,n⟩:=q;have hn:=vX hr;have hd:(d.drop n).length=d.length - n:=bI;have:=zN k (d.drop n);simp only[aP];omega
theorem vZ {l:Log} (h:wO l=0):List.length l.1+List.length l.2.1<=16000/\rT l.1=true/\rT l.2.1=true:=by
 unfold wO at h;split at h
 ·cases h
 ·split at h
  ·rename_i a b;rw[aF] at b;exact ⟨by omega,b.1,b.2⟩
  ·cases h
theorem FO {l:Log} (h:wO l=0):(tf l).length<=16000:=by
 have h1:=vZ h;unfold tf;rw[aS];have a:=zN (List.length l.1+1) l.1;have b:=zN (List.length l.2.1+1) l.2.1;unfold td;omega
theorem Na {l:Log} (h:wO l=0):om.aa (l,())=some (tf l,()):=by
 have h1:=vZ h;have h2:=FO h;refine ah (k:=0) fun k _=>(om.ae k _).trans ?_;unfold om.p;simp only[Cl l.1 (by omega),Cl l.2.1 (by omega),aB];rw[aU (da (by unfold tf at h2;rw[aS] at h2;omega))];rfl
theorem Mc (d:List UInt8) (hd:d.length<=1048576):gj.aa (d,())=some (d,()):=xo d (by omega)
theorem Nb {l:Log} (h:wO l=0):oT.aa (l,())=some (tf l,()):=by
 have h1:=vZ h;refine ah (k:=0) fun k _=>(oT.ae k _).trans ?_;unfold oT.p;simp only[Mc l.1 (by omega),aB];rw[aU (da (by omega)),Cm _ (by rw[aS];omega)];rw[SK h1.2.1];rfl
theorem FQ {α:Type} [DecidableEq α]:∀ {a b:List α},a.length=b.length->qz (fun x y=>decide (x=y)) a b=decide (a=b)
 | [],[],_=>by simp[qz]
 | x::a,y::b,h=>by
  have ih:=FQ (a:=a) (b:=b) (by simpa using h);unfold qz at ih ⊢;simp only[hJ,eF,ih];by_cases h1:x=y <;> by_cases h2:a=b <;> simp[h1,h2]
 | [],_::_,h=>by cases h
 | _::_,[],h=>by cases h
theorem Nc (a b:List (List UInt8)) (hl:a.length<=1000):l_.aa (a,b,())=some (decide (a=b),()):=by
 refine ah (k:=1002) fun k hk=>(l_.ae k _).trans ?_;unfold l_.p;by_cases hlen:a.length=b.length;rotate_left
 ·have e1:¬ ((a.length:Int)=(b.length:Int)):=by omega
  have e2:¬ a=b:=fun h=>hlen (by rw[h]);simp only[e1,e2,aD,aV,aJ]
 have e1:((a.length:Int)=(b.length:Int)):=by omega
 simp only[e1,aC,aO,aE]
 have:=qX (B:=fun self v=>l_.b0 self (fun z=>l_.q0 (a,b,()) z) (a,b,()) v) (xs:=a) (ys:=b) (fun x y=>decide (x=y)) hlen (by rw[ai];omega)
  (fun i hx hy self=>by
   show l_.b0 _ _ _ _=_;unfold l_.b0;have aj:(i:Int) < (a.length:Int):=by omega
   simp only[aj,aC,aJ,aK,aI,aH,aA hx,aA hy,aB]
   by_cases h:a[i]=b[i] <;> simp[h]) (fun self=>by
   show l_.b0 _ _ _ _=_;unfold l_.b0;rw[cA (bC _),aE]
   rfl) k (by omega)
 refine this.trans ?_;rw[FQ hlen]
theorem Nd (a b:List (List UInt8)) (hl:a.length<=1000) (ha:∀ x ∈ a,x.length<=100000):pE.aa (a,b,())=some (decide (a=b),()):=by
 refine ah (k:=0) fun k _=>(pE.ae k _).trans ?_;unfold pE.p
 have:∀ f:Nat×Int,ee.aa (a,b,f,())=some (decide (a=b),()):=fun f=>by
  refine ah (k:=1002) fun k hk=>(ee.ae k _).trans ?_;unfold ee.p;by_cases hlen:a.length=b.length;rotate_left
  ·have e1:¬ ((a.length:Int)=(b.length:Int)):=by omega
   have e2:¬ a=b:=fun h=>hlen (by rw[h]);simp only[e1,e2,aD,aV,aJ]
  have e1:((a.length:Int)=(b.length:Int)):=by omega
  simp only[e1,aC,aO,aE]
  have:=qX (B:=fun self v=>ee.b0 self (fun z=>ee.q0 (a,b,f,()) z) (a,b,f,()) v) (xs:=a) (ys:=b) (fun x y=>decide (x=y)) hlen (by rw[ai];omega)
   (fun i hx hy self=>by
    show ee.b0 _ _ _ _=_;unfold ee.b0;have aj:(i:Int) < (a.length:Int):=by omega
    simp only[aj,aC,aJ,aK,aI,aH,aA hx,aA hy,aB,LZ _ _ (ha _ (aQ hx))]
    by_cases h:a[i]=b[i] <;> simp[h]) (fun self=>by
    show ee.b0 _ _ _ _=_;unfold ee.b0;rw[cA (bC _),aE]
    rfl) k (by omega)
  refine this.trans ?_;rw[FQ hlen]
 rw[this];rfl
theorem Me {d:List UInt8} (h:d.length<=64):List.length (ir d).1.2.2.2.2.1.2.2.2.1<=64:=by
 unfold ir;split
 ·exact aW _
 ·split
  ·exact aW _
  ·show (d.drop 6).length<=64;rw[bI];omega
theorem Mf {p:List UInt8} (s:Nat) (h:p.length<=64):(kU p s).length<=64:=by
 unfold kU;rw[bQ,bI];omega
theorem Uy {ps:kX} (h:tD ps) (a b:Int):List.length (oW ps a b).1.2.2.2.2.1.2.2.2.1<=64:=by
 unfold oW
 cases hp:ps[a.toNat]? with
 | none=>exact aW _
 | some p=>
  have hm:=h.2 p (cB hp);simp only;split
  ·exact Me (Mf _ (by rw[hm.len];omega))
  ·exact aW _
theorem Im {ps:kX} (h:mN ps=0):∀ r ∈ jY ps,List.length r.2.2.2.1<=64:=fun r hr=>by
 have hv:=Cf h;rw[FK (uP h),(PX _).mem_iff,fT] at hr;obtain ⟨x,hx,rfl⟩:=hr;unfold pv at hx;rw[eH] at hx;obtain ⟨y,hy,hx⟩:=hx;unfold rS at hx;split at hx
 ·cases hx
 ·rw[bU] at hx;subst hx;unfold yG;split
  ·exact Uy hv.1 _ _
  ·obtain ⟨P,p,t,h1,h2,h3,rfl⟩:=zK.1 hy;exact Me (Mf _ (by rw[(hv.1.2 p (cB h1)).len];omega))
theorem WD {ps:kX} (h:mN ps=0):∀ r ∈ jY ps,rl r:=fun r hr=>by
 have:=Im h r hr;unfold rl;rw[ai];omega
theorem vG {ps:kX} (h:mN ps=0):(jY ps).length<=192:=by
 unfold jY;rw[fE];exact Ao (uP h)
def Je (s:kT):Prop:=VR s.2.2.1/\(∀ p ∈ (s.2.1:kX),p.length<=maxLen)/\ER s.2.2.2.1
theorem SL {s:kT} (h:Je s) (hv:mN s.2.1=0):Ma (jY s.2.1,s.2.2.2.1,s.2.2.2.2.1,()):=
 ⟨by have:=vG hv;show (jY s.2.1).length<=1048576;omega,WD hv,h.2.2⟩
def Ql (s:kT):Int:=if decide (0 < List.length s.2.1)||(decide (0 < List.length s.2.2.2.1)||decide (0 < List.length s.2.2.1.2.1)) then 1 else if fi s.2.2.2.2.1 1 100 then 0 else 3
def YG (s:kT):Int:=if mN s.2.1=0 then
        if sy (jY s.2.1,s.2.2.2.1,s.2.2.2.2.1,())=0 then
         if (vy (tf s.2.2.1)).2.1=0/\(vy (tf s.2.2.1)).1=s.2.1 then 0 else 8
        else sy (jY s.2.1,s.2.2.2.1,s.2.2.2.2.1,())
   else mN s.2.1
def qv (s:kT):Int:=if wO s.2.2.1=0 then (bif s.1 then YG s else Ql s) else wO s.2.2.1
theorem Ol (s:kT) (A:Option (Bool×Unit)) (h:A=some (fi s.2.2.2.2.1 1 100,())) :
  (bif decide ((0:Int) < (List.length s.2.1:Int)) then (some ((1:Int),())) else bif decide ((0:Int) < (List.length s.2.2.2.1:Int)) then (some ((1:Int),())) else bif decide ((0:Int) < (List.length s.2.2.1.2.1:Int)) then (some ((1:Int),())) else A.bind fun r3=>bif !r3.1 then (some ((3:Int),())) else some ((0:Int),()))=some (Ql s,()):=by
 have e:∀ n:Nat,decide ((0:Int) < (n:Int))=decide (0 < n):=fun n=>by rw[cK];omega
 rw[h,e,e,e];unfold Ql;cases decide (0 < List.length s.2.1) <;> cases decide (0 < List.length s.2.2.2.1) <;> cases decide (0 < List.length s.2.2.1.2.1) <;> try rfl
 simp only[aB];cases fi s.2.2.2.2.1 1 100 <;> rfl
theorem Mg {s:kT} (h:Je s):oU.aa (s,())=some (qv s,()):=by
 refine ah (k:=0) fun k _=>(oU.ae k _).trans ?_;unfold oU.p qv;simp only[P6 _ h.1,aB];by_cases h0:wO s.2.2.1=0;rotate_left
 ·simp only[h0,aD,aV,aJ,aL]
 simp only[h0,aC,aO,aE,aI]
 cases hu:s.1 with
 | false=>exact Ol s _ (rO _ _ _)
 | true=>
  simp only[aO,aE,aJ];unfold YG;rw[AN s.2.1 h.2.1];simp only[aB];by_cases h1:mN s.2.1=0;rotate_left
  ·simp only[h1,aD,aV,aJ,aL]
  simp only[h1,aC,aO,aE,aI];rw[AP _ (by have:=Ao (uP h1);omega)];simp only[aB];have hp:=D2 _ (SL h h1);unfold jY at hp ⊢;rw[hp];simp only[aB];generalize sy ((vx s.2.1).map (·.1),s.2.2.2.1,s.2.2.2.2.1,())=c;by_cases h2:c=0;rotate_left
  ·simp only[h2,aD,aV,aJ,aL]
  simp only[h2,aC,aO,aE,aI,Na h0,aB,M4 _ (show (tf s.2.2.1).length<=maxLen by have:=FO h0;rw[ai];omega)];by_cases h3:(vy (tf s.2.2.1)).2.1=0;rotate_left
  ·simp only[h3,aD,aV,aJ,gB,aL]
  have hg:=Hn _ h3;simp only[h3,aC,aO,aE,dY,Nd _ s.2.1 (show List.length (vy (tf s.2.2.1)).1<=1000 by have:=hg.1;omega) (fun x hx=>by have:=hg.2 x hx;omega),aB];by_cases h4:(vy (tf s.2.2.1)).1=s.2.1
  ·simp only[h4,aC,aO,aE,aI]
  ·simp only[h4,aD,aV,aJ,aL]
theorem Bd {s:kT} (h:Je s):nv.aa (s,())=some (qv s,()):=by
 refine ah (k:=0) fun k _=>(nv.ae k _).trans ?_;unfold nv.p qv;simp only[P5 _ h.1,aB];by_cases h0:wO s.2.2.1=0;rotate_left
 ·simp only[h0,aD,aV,aJ,aL]
 simp only[h0,aC,aO,aE,aI]
 cases hu:s.1 with
 | false=>exact Ol s _ (nq _ _ _)
 | true=>
  simp only[aO,aE,aJ];unfold YG;rw[AL s.2.1 h.2.1];simp only[aB];by_cases h1:mN s.2.1=0;rotate_left
  ·simp only[h1,aD,aV,aJ,aL]
  simp only[h1,aC,aO,aE,aI];rw[x9 h1];simp only[aB];rw[D3 _ (SL h h1)];simp only[aB];generalize sy (jY s.2.1,s.2.2.2.1,s.2.2.2.2.1,())=c;by_cases h2:c=0;rotate_left
  ·simp only[h2,aD,aV,aJ,aL]
  simp only[h2,aC,aO,aE,aI,Nb h0,aB,M3 _ (show (tf s.2.2.1).length<=maxLen by have:=FO h0;rw[ai];omega)];by_cases h3:(vy (tf s.2.2.1)).2.1=0;rotate_left
  ·simp only[h3,aD,aV,aJ,gB,aL]
  have hg:=Hn _ h3;simp only[h3,aC,aO,aE,dY,Nc _ s.2.1 (show List.length (vy (tf s.2.2.1)).1<=1000 by have:=hg.1;omega),aB];by_cases h4:(vy (tf s.2.2.1)).1=s.2.1
  ·simp only[h4,aC,aO,aE,aI]
  ·simp only[h4,aD,aV,aJ,aL]
end OT
namespace OT
open Go
def qh (xs:List Buffer) (t:Int):Int:=vm (fun b=>decide (b.1=t)) 0 xs
def FR (xs:List Buffer) (i:Nat) (b:Buffer):Sum (Int×Unit) Unit:=
 if fi b.1 1 99 then (if tU b.2.1=0 then (if qh xs b.1=(i:Int) then .inr () else .inl (6,())) else .inl (tU b.2.1,())) else .inl (3,())
def xM (m:dw):Int:=if mN m.1=0 then (if 8 < List.length m.2.1 then 2 else (bn (fun i (_:Unit) b=>FR m.2.1 i b) (fun _=>((0:Int),())) 0 m.2.1 ()).1) else mN m.1
structure YH (m:dw):Prop where
 pl:List.length m.1<=1048576
 JJ:∀ p ∈ (m.1:kX),p.length<=maxLen
 bl:List.length m.2.1<=1048576
 buf:∀ b ∈ (m.2.1:List Buffer),List.length b.2.1<=1048576/\∀ c ∈ (b.2.1:List Change),cl c
theorem yK (m:dw) (t:Int) (h:List.length m.2.1<=1048576):jX.aa (m,t,())=some (qh m.2.1 t,()):=by
 refine ah (k:=1048577) fun k hk=>(jX.ae k _).trans ?_
 have:=b9 (B:=fun self v=>jX.b0 self (fun z=>jX.q0 (m,t,()) z) (m,t,()) v) m.2.1 (fun (_:Unit) (i:Int)=>i) (fun i _ b=>if decide (b.1=t) then .inl ((i:Int),()) else .inr ()) (fun _=>((-1:Int),())) (fun _ _=>True) (by rw[ai];omega)
  (fun i hi s self _=>by
   show jX.b0 _ _ _ _=_;unfold jX.b0;have aj:(i:Int) < (List.length m.2.1:Int):=by omega
   simp only[aj,aC,aJ,aK,aI,aH,aA hi,aB]
   cases decide ((m.2.1[i]).1=t) <;> rfl)
  (fun _ _ _ _ _ _=>trivial) (fun s self _=>by
   show jX.b0 _ _ _ _=_;unfold jX.b0;simp only[bC,aD,aE]
   rfl) () trivial k (by omega)
 rw[yD (fun b:Buffer=>decide (b.1=t))] at this;exact this
theorem Qm (m:dw) (t:Int) (h:List.length m.2.1<=1048576):nL.aa (m,t,())=some (qh m.2.1 t,()):=by
 have mQ:∀ b:Buffer,oZ.aa (b,t,())=some (decide (b.1=t),()):=fun b=>by
  refine ah (k:=0) fun k hk=>(oZ.ae k _).trans ?_;rfl
 have Tr:∀ f:Nat,ei.aa (m.2.1,((f,t):Nat×Int),())=some (qh m.2.1 t,()):=fun f=>by
  refine ah (k:=1048577) fun k hk=>(ei.ae k _).trans ?_
  have:=b9 (B:=fun self v=>ei.b0 self (fun z=>ei.q0 (m.2.1,(f,t),()) z) (m.2.1,(f,t),()) v) m.2.1 (fun (_:Unit) (i:Int)=>i) (fun i _ b=>if decide (b.1=t) then .inl ((i:Int),()) else .inr ()) (fun _=>((-1:Int),())) (fun _ _=>True) (by rw[ai];omega)
   (fun i hi s self _=>by
    show ei.b0 _ _ _ _=_;unfold ei.b0;have aj:(i:Int) < (List.length m.2.1:Int):=by omega
    simp only[aj,aC,aJ,aK,aI,aH,aA hi,aB,mQ]
    cases decide ((m.2.1[i]).1=t) <;> rfl)
   (fun _ _ _ _ _ _=>trivial) (fun s self _=>by
    show ei.b0 _ _ _ _=_;unfold ei.b0;simp only[bC,aD,aE]
    rfl) () trivial k (by omega)
  rw[yD (fun b:Buffer=>decide (b.1=t))] at this;exact this
 refine ah (k:=0) fun k hk=>(nL.ae k _).trans ?_;show nL.p _=_;unfold nL.p;rw[Tr];rfl
theorem D4 (m:dw) (h:YH m):lm.aa (m,())=some (xM m,()):=by
 refine ah (k:=1048577) fun k hk=>(lm.ae k _).trans ?_;unfold lm.p xM;rw[AL m.1 h.JJ];simp only[aB];by_cases hv:mN m.1=0;rotate_left
 ·simp only[hv,aD,aV,aJ,aL]
 simp only[hv,aC,aO,aE,aI];by_cases h8:8 < List.length m.2.1
 ·have:(8:Int) < (List.length m.2.1:Int):=by omega
  simp only[this,h8,aC,aJ,aI]
 have h8':¬ ((8:Int) < (List.length m.2.1:Int)):=by omega
 simp only[h8,h8',aD,aE,aL];have hb:=h.bl
 exact b9 (B:=fun self v=>lm.b0 self (fun z=>lm.q0 (m,()) z) (m,()) v) m.2.1 (fun (_:Unit) (i:Int)=>i) (fun i _ b=>FR m.2.1 i b) (fun _=>((0:Int),())) (fun _ _=>True) (by rw[ai];omega)
  (fun i hi s self _=>by
   show lm.b0 _ _ _ _=_;unfold lm.b0 FR;have aj:(i:Int) < (List.length m.2.1:Int):=by omega
   obtain ⟨g1,g2⟩:=h.buf _ (aQ hi);simp only[aj,aC,aJ,aK,aI,aH,aA hi,aB,nq,AI _ (show List.length (m.2.1[i]).2.1<=maxLen by rw[ai];omega) g2,yK m _ hb];unfold fi
   cases (decide ((1:Int)<=(m.2.1[i]).1)&&decide ((m.2.1[i]).1<=99)) with
   | false=>rfl
   | true=>
    simp only[aO,aE,aI];by_cases hf:tU (m.2.1[i]).2.1=0
    ·simp only[hf,aC,aO,aE,aI]
     by_cases ht:qh m.2.1 (m.2.1[i]).1=(i:Int)
     ·simp only[ht,aC,aO,aE,aI]
     ·simp only[ht,aD,aV,aJ,aL]
    ·simp only[hf,aD,aV,aJ,aL])
  (fun _ _ _ _ _ _=>trivial) (fun s self _=>by
   show lm.b0 _ _ _ _=_;unfold lm.b0;simp only[bC,aD,aE]
   rfl) () trivial k (by omega)
def Qn (c:ep):Int:=if xM c.1=0 then (if xM c.2.2.1=0 then (if fi c.2.1 0 16000&&fi c.2.2.2.1 0 c.2.1 then 0 else 3) else xM c.2.2.1) else xM c.1
theorem Nf (c:ep) (h1:YH c.1) (h2:YH c.2.2.1):n9.aa (c,())=some (Qn c,()):=by
 refine ah (k:=0) fun k hk=>(n9.ae k _).trans ?_;show n9.p _=_;unfold n9.p Qn;simp only[D4 _ h1,D4 _ h2,nq,aB];by_cases c1:xM c.1=0;rotate_left
 ·simp only[c1,aD,aV,aJ,aL]
 by_cases c2:xM c.2.2.1=0;rotate_left
 ·simp only[c1,c2,aC,aD,aO,aV,aJ,aE,aI,aL]
 simp only[c1,c2,aC,aO,aE,aI];unfold fi;cases (decide ((0:Int)<=c.2.1)&&decide (c.2.1<=16000)) <;> cases (decide ((0:Int)<=c.2.2.2.1)&&decide (c.2.2.2.1<=c.2.1)) <;> rfl
theorem Uz {ps:kX} (h:tD ps):gp ps:=⟨h.1,fun p hp=>(h.2 p hp).len⟩
structure Qo (m:dw):Prop where
 JJ:gp m.1
 bl:List.length m.2.1<=1048576
 buf:∀ b ∈ (m.2.1:List Buffer),List.length b.2.1<=1048576
abbrev VU:lg:=((0:Int),(0:Int),([]:List Change),())
abbrev Ht:dw:=(([]:List (List UInt8)),([]:List Buffer),())
abbrev rU:ep:=(Ht,(0:Int),Ht,(0:Int),())
def Be (k:Int):qn:=(k,false,VU,rU,())
end OT
namespace OT
open Go
theorem In (xs:List Buffer) (hl:xs.length<=1048576) (h:∀ b ∈ xs,List.length b.2.1<=1048576):kY.aa (xs,())=some (xs,()):=by
 refine ah (k:=1048577) fun k hk=>(kY.ae k _).trans ?_
 have:=b9 (B:=fun self v=>kY.b0 self (fun z=>kY.q0 (xs,()) z) (xs,()) v) xs (fun (s:List Buffer) (i:Int)=>(s,i)) (fun _ s b=>.inr (s++[b])) (fun s=>(s,())) (fun i s=>s.length<=i) (by rw[ai];omega)
  (fun i hi s self hI=>by
   show kY.b0 _ _ _ _=_;unfold kY.b0;have aj:(i:Int) < (xs.length:Int):=by omega
   have hb:=h _ (aQ hi);simp only[aj,aC,aJ,aK,aI,aH,aA hi,aB];rw[aU (da (by simp only[bB];omega)),aU (da (by simp only[aP,bB];omega))]
   rfl)
  (fun i hi s s' hI hf=>by
   injection hf with hf;subst hf
   rw[aS,aP,bB];omega) (fun s self _=>by
   show kY.b0 _ _ _ _=_;unfold kY.b0;simp only[bC,aD,aE]
   rfl) [] (by simp) k (by omega)
 rw[h_,xJ] at this;exact this
theorem sA (m:dw) (h:Qo m):f5.aa (m,())=some (m,()):=by
 refine ah (k:=0) fun k hk=>(f5.ae k _).trans ?_;show f5.p _=_;unfold f5.p;simp only[CI m.1 h.JJ,In m.2.1 h.bl h.buf,aB]
theorem Ng (k:Int):pP.aa (k,())=some (Be k,()):=by
 refine ah (k:=0) fun k hk=>(pP.ae k _).trans ?_;rfl
end OT
