/- The proof's parts, merged: Draws  what the reference draws for inserts and updates is there, and small.. No conditions but those that each states. -/
import Derived.Test.YtgnicpenjinbiaaGreatUg
set_option linter.unusedVariables false
set_option linter.unusedSimpArgs false
set_option linter.unusedSectionVars false
namespace OT
open Go
theorem M_ {s:fl} {b:Int} (h:kD s b) (hb:b<=900000):∃ r t,pU.ab (s,())=some (r,t,())/\gz r=0/\kD t (b+5):=by
 obtain ⟨v1,t1,e1,a1,c1,s1⟩:=vK (n:=3) h Bys Bys Bys;obtain ⟨v2,t2,e2,a2,c2,s2⟩:=vK (n:=6) s1 Bys Bys Bys;obtain ⟨v3,t3,e3,a3,c3,s3⟩:=vK (n:=9) s2 Bys Bys Bys;obtain ⟨v4,t4,e4,m4,s4⟩:=CN s3 Bys [v3,(300:Int),(999:Int)] (by simp) (by simp);obtain ⟨v5,t5,e5,a5,c5,s5⟩:=vK (n:=4) s4 Bys Bys Bys;obtain ⟨x,hx,mx⟩:=Ov [([]:List UInt8),([97]:List UInt8),([97,98,99]:List UInt8),([97,98,99,100,101,102,103,104]:List UInt8)] (v:=v5) ⟨a5,by simpa using c5⟩;have w1:ae (1+v2)=1+v2:=bf Bys;refine ⟨(v1,1+v2,v4,x,()),t5,ag (k:=0) λk _=>(pU.af k _).trans ?_,?_,s5.mono Bys⟩
 ·grind [pU.p]
 ·have hv4:0<=v4/\v4<=999:=by
   grind
  have yk:A_ x=true:=by
   simp only[aZ,dR,gB] at mx;rcases mx with rfl | rfl | rfl | rfl <;> decide
  grind [gz,dr]
theorem PC {r:Row} (h:gz r=0):List.length r.2.2.2.1<=8:=BD (wS h).2.2.2
theorem XJ {s:fl} {b:Int} (h:kD s b) (hb:b<=800000):∃ r t,tA.ab (s,())=some (r,t,())/\List.length r.2.2.2.1<=9/\kD t (b+7):=by
 obtain ⟨r,t1,e1,hr,s1⟩:=M_ h Bys;have hs:=PC hr;obtain ⟨v,t2,e2,a2,c2,s2⟩:=vK (n:=12) s1 Bys Bys Bys
 suffices hp:∃ r' t',tA.p (s,())=some (r',t',())/\List.length r'.2.2.2.1<=9/\kD t' (b+7) by
  obtain ⟨r',t',p1,p2,p3⟩:=hp;exact ⟨r',t',ag (k:=0) λk _=>(tA.af k _).trans p1,p2,p3⟩
 unfold tA.p;rw[e1];simp only[aA,e2];by_cases h0:v=0
 ·obtain ⟨u,t3,e3,_,s3⟩:=CN s2 Bys [(-1:Int),(3:Int),(4:Int)] (by simp) (by simp);grind
 by_cases h1:v=1
 ·obtain ⟨u,t3,e3,_,s3⟩:=CN s2 Bys [(0:Int),(99:Int),(100:Int)] (by simp) (by simp);grind
 by_cases h2:v=2
 ·obtain ⟨u,t3,e3,_,s3⟩:=CN s2 Bys [(-1:Int),(1000:Int)] (by simp) (by simp);grind
 by_cases h3:v=3
 ·obtain ⟨u,t3,e3,a3,c3,s3⟩:=vK (n:=3) s2 Bys Bys Bys;obtain ⟨x,hx,mx⟩:=Ov [([65]:List UInt8),([97,98,99,100,101,102,103,104,105]:List UInt8),([97,32,98]:List UInt8)] (v:=u) ⟨a3,by simpa using c3⟩;simp only[h3,show ¬ (3:Int)=0 by omega,show ¬ (3:Int)=1 by omega,show ¬ (3:Int)=2 by omega,aP,aI,aM,aE,e3,aA];rw[aH ⟨a3,by simpa using c3⟩,hx];refine ⟨_,_,rfl,?_,s3.mono Bys⟩
  show List.length x<=9;simp only[aZ,dR,gB] at mx;rcases mx with rfl | rfl | rfl <;> decide
 simp only[h0,h1,h2,h3,aI,aE];exact ⟨_,_,rfl,by omega,s2.mono Bys⟩
def vg (x:Tx):Int:=if En x=0 then uD x else En x
theorem PD {α:Type} (c:Nat->α->Int):∀ (xs:List α) (i:Nat),bu (λi (_:Unit) y=>if c i y=0 then .inr () else .inl (c i y,())) (λ_=>((0:Int),())) i xs ()=(bu (λi (_:Unit) y=>if c i y=0 then .inr () else .inl (c i y)) (λ_=>(0:Int)) i xs (),())
 | [],_=>rfl
 | y::ys,i=>by simp only[bu];by_cases h0:c i y=0 <;> simp[h0,PD c ys (i+1)]
theorem CC {α:Type} (c:Nat->α->Int) (E:Option (Int×Unit)):∀ (xs:List α) (i:Nat),bu (λi (_:Unit) y=>if c i y=0 then .inr () else .inl (some (c i y,()))) (λ_=>E) i xs () =
  if bu (λi (_:Unit) y=>if c i y=0 then .inr () else .inl (c i y)) (λ_=>(0:Int)) i xs ()=0 then E else some (bu (λi (_:Unit) y=>if c i y=0 then .inr () else .inl (c i y)) (λ_=>(0:Int)) i xs (),())
 | [],_=>rfl
 | y::ys,i=>by simp only[bu];by_cases h0:c i y=0 <;> simp[h0,CC c E ys (i+1)]
theorem Kx {α:Type} (c:α->Int):∀ (xs:List α) (i:Nat),bu (λ_ (_:Unit) y=>if c y=0 then .inr () else .inl (c y)) (λ_=>(0:Int)) i xs ()=pQ c xs
 | [],_=>rfl
 | y::ys,i=>by simp only[bu,pQ];by_cases h0:c y=0 <;> simp[h0,Kx c ys (i+1)]
theorem XK (x:Tx) (h:tl x):eu.ab (x,())=some (vg x,()):=by
 obtain ⟨h1,h2,h3,h4⟩:=h;refine ag (k:=1048577) λk hk=>(eu.af k _).trans ?_
 have XL:List.length x.2.2.2.1<=12->eu.r2 k (x,()) (0:Int)=some (wJ x.2.2.2.1,()):=λhl=>by
  have:=cy (B:=λself v=>eu.b2 self (λz=>eu.q2 (x,()) z) (x,()) v) x.2.2.2.1 (λ(_:Unit) (i:Int)=>i) (λi _ y=>if sh x.2.2.2.1 i y=0 then .inr () else .inl (sh x.2.2.2.1 i y,())) (λ_=>(0,())) (λ_ _=>True) (by rw[an];omega)
   (λi hi s self _=>by
    grind [eu.b2,sh,abt,contains_eq,an])
   (λ_ _ _ _ _ _=>trivial) (λs self _=>by
    show eu.b2 _ _ _ _=_;unfold eu.b2;simp only[aY,aI,aE]
    rfl) () trivial k Bys
  rw[PD (sh x.2.2.2.1)] at this;exact this
 have second:List.length x.2.2.1<=8->List.length x.2.2.2.1<=12->eu.r1 k (x,()) ((0:Int),(0:Int))=some (if Ix (List.length x.2.1:Int) 0 x.2.2.1 then wJ x.2.2.2.1 else 3,()):=λhm hl=>by
  have:=ff (B:=λself v=>eu.b1 self (λz=>eu.Q1 k (x,()) z) (x,()) v) x.2.2.1 (λ(last:Int) (i:Int)=>(last,i)) (λ_ last m=>if dr m last (List.length x.2.1:Int) then .inr m else .inl (some ((3:Int),()))) (λ_=>some (wJ x.2.2.2.1,())) (λ_ _=>True) (by rw[an];omega)
   (λi hi last self _=>by
    grind [eu.b1,rJ,dr])
   (λ_ _ _ _ _ _=>trivial) (λlast self _=>by
    show eu.b1 _ _ _ _=_;unfold eu.b1;simp only[aY,aI,aE]
    exact XL hl) 0 trivial k Bys
  rw[Sh] at this;refine aV this ?_;grind [Ix]
 have after:eu.Q0 k (x,()) ()=some (uD x,()):=by
  show eu.q0 _ _ _=_;grind [eu.q0,uD]
 have:=ff (B:=λself v=>eu.b0 self (λz=>eu.Q0 k (x,()) z) (x,()) v) x.2.1 (λ(_:Unit) (i:Int)=>i) (λ_ _ c=>if xe x.2.2.2.1 c=0 then .inr () else .inl (some (xe x.2.2.2.1 c,()))) (λ_=>some (uD x,())) (λ_ _=>True) (by rw[an];omega)
  (λi hi s self _=>by
   show eu.b0 _ _ _ _=_;unfold eu.b0;have bc:(i:Int) < (List.length x.2.1:Int):=by omega
   simp only[bc,aP,aM,aR,aL,aD,aB hi,aA,Ph _ (h4 _ (aJ hi)),Oi]
   grind [contains_eq,an,xe])
  (λ_ _ _ _ _ _=>trivial) (λs self _=>by
   grind [eu.b0]) () trivial k Bys
 rw[CC (λ_=>xe x.2.2.2.1),Kx] at this;refine aV this ?_;grind [vg,En]
def qD (xs:List Tx) (k:Key):Int:=match xs with
 | []=>0
 | x::xs=>if jy x.2.2.2.1 k then x.1 else qD xs k
def pM (xs:List Tx):Prop:=xs.length<=1048576/\∀ x ∈ xs,tl x
theorem IW (k:Key):∀ (xs:List Tx) (i:Nat),bu (λ_ (_:Unit) x=>if jy x.2.2.2.1 k then .inl (x.1,()) else .inr ()) (λ_=>((0:Int),())) i xs ()=(qD xs k,())
 | [],_=>rfl
 | x::xs,i=>by simp only[bu,qD];cases jy x.2.2.2.1 k <;> simp[IW k xs (i+1)]
theorem ST {x:Tx} (h:tl x):List.length x.2.2.2.1<=maxLen:=by rw[an];have:=h.2.2.1;omega
theorem Ui (xs:List Tx) (k0:Key) (h:pM xs):oZ.ab (xs,k0,())=some (qD xs k0,()):=by
 obtain ⟨h1,h2⟩:=h;refine ag (k:=xs.length+1) λk hk=>(oZ.af k _).trans ?_
 have:=cy (B:=λself v=>oZ.b0 self (λz=>oZ.q0 (xs,k0,()) z) (xs,k0,()) v) xs (λ(_:Unit) (i:Int)=>i) (λ_ _ x=>if jy x.2.2.2.1 k0 then .inl (x.1,()) else .inr ()) (λ_=>(0,())) (λ_ _=>True) (by rw[an];omega)
  (λi hi s self _=>by
   grind [oZ.b0,Lf,ST])
  (λ_ _ _ _ _ _=>trivial) (λs self _=>by
   show oZ.b0 _ _ _ _=_;unfold oZ.b0;simp only[aY,aI,aE]
   rfl) () trivial k Bys
 rw[IW] at this;exact this
def pF (xs:List Tx):Int:=xs.foldl (λn x=>n+(List.length x.2.1:Int)) 0
theorem IX (xs:List Tx) (h:pM xs):kP.ab (xs,())=some (pF xs,()):=by
 obtain ⟨h1,h2⟩:=h;refine ag (k:=xs.length+1) λk hk=>(kP.af k _).trans ?_
 have:=cy (B:=λself v=>kP.b0 self (λz=>kP.q0 (xs,()) z) (xs,()) v) xs (λ(n:Int) (i:Int)=>(n,i)) (λ_ n x=>.inr (n+(List.length x.2.1:Int))) (λn=>(n,())) (λi n=>0<=n/\n<=1048576*(i:Int)) (by rw[an];omega)
  (λi hi n self hI=>by
   show kP.b0 _ _ _ _=_;unfold kP.b0;have bc:(i:Int) < (xs.length:Int):=by omega
   have hx:=(h2 _ (aJ hi)).1
   grind [bf])
  (λi hi n n' hI hs=>by
   injection hs with hs;have hx:=(h2 _ (aJ hi)).1
   omega) (λs self _=>by
   show kP.b0 _ _ _ _=_;unfold kP.b0;simp only[aY,aI,aE]
   rfl) 0 Bys k Bys
 rw[ik] at this;exact this
theorem DL (xs:List Tx) (h:pM xs):kg.ab (xs,())=some (pF xs,()):=by
 obtain ⟨h1,h2⟩:=h;refine ag (k:=xs.length+1) λk hk=>(kg.af k _).trans ?_
 have:=cy (B:=λself v=>kg.b0 self (λz=>kg.q0 (xs,()) z) (xs,()) v) xs (λ(n:Int) (i:Int)=>(n,i)) (λ_ n x=>.inr (n+(List.length x.2.1:Int))) (λn=>(n,())) (λi n=>0<=n/\n<=1048576*(i:Int)) (by rw[an];omega)
  (λi hi n self hI=>by
   show kg.b0 _ _ _ _=_;unfold kg.b0;have bc:(i:Int) < (xs.length:Int):=by omega
   have hx:=(h2 _ (aJ hi)).1
   grind [bf])
  (λi hi n n' hI hs=>by
   injection hs with hs;have hx:=(h2 _ (aJ hi)).1
   omega) (λs self _=>by
   show kg.b0 _ _ _ _=_;unfold kg.b0;simp only[aY,aI,aE]
   rfl) 0 Bys k Bys
 rw[ik] at this;exact this
def ul (xs:List Tx) (i:Nat) (x:Tx):Int:=if dr x.1 1 99 then (if 0 < i then (match xs[i - 1]? with
    | some y=>if x.1<=y.1 then 1 else vg x
    | none=>1) else vg x) else 3
def Bj (xs:List Tx):Int:=bu (λi (_:Unit) x=>if ul xs i x=0 then .inr () else .inl (ul xs i x)) (λ_=>(0:Int)) 0 xs ()
def flatK (xs:List Tx):List Key:=xs.flatMap λx=>x.2.2.2.1
def DM (xs:List Tx):Bool:=decide (flatK xs).Nodup
def mQ (xs:List Tx):Int:=if 4 < xs.length then 2 else if Bj xs=0 then (if DM xs then (if 12 < pF xs then 2 else 0) else 7) else Bj xs
theorem zl (xs:List Tx) (h:Bj xs=0):∀ i (hi:i < xs.length),ul xs i xs[i]=0:=by
 have main:∀ (ys:List Tx) (j:Nat),(bu (λi (_:Unit) x=>if ul xs i x=0 then .inr () else .inl (ul xs i x)) (λ_=>(0:Int)) j ys ())=0->∀ i (hi:i < ys.length),ul xs (j+i) ys[i]=0:=by
  intro ys
  induction ys with
  | nil=>grind
  | cons y ys ih=>
   intro j hf i hi;simp only[bu] at hf;by_cases h0:ul xs j y=0
   ·rw[aH h0] at hf
    cases i with
    | zero=>simpa using h0
    | succ i=>
     have:=ih (j+1) hf i (by simpa using hi);grind
   grind
 intro i hi;have:=main xs 0 h i hi;grind
theorem DN {xs:List Tx} {i:Nat} {x:Tx} (h:ul xs i x=0):1<=x.1/\vg x=0/\∀ y,0 < i->xs[i - 1]?=some y->y.1 < x.1:=by
 grind [ul,dr]
theorem Z8 {xs:List Tx} (h:Bj xs=0):xs.Pairwise λx y=>x.1 < y.1:=by
 rw[bM];intro i j hi hj sb
 have key:∀ d (hd:i+d+1 < xs.length),(xs[i]).1 < (xs[i+d+1]).1:=by
  intro d
  induction d with
  | zero=>
   intro hd;exact (DN (zl xs h (i+1) hd)).2.2 xs[i] Bys (by simp[hi])
  | succ d ih=>
   intro hd;have h1:=ih Bys;have h2:=(DN (zl xs h (i+d+1+1) hd)).2.2 xs[i+d+1] Bys (by grind);grind
 have:=key (j - i - 1) Bys;grind
theorem Uj {ks:List Key} (h:wJ ks=0):ks.Nodup:=by
 have main:∀ (ys:List Key) (j:Nat),(bu (λi (_:Unit) k=>if sh ks i k=0 then .inr () else .inl (sh ks i k)) (λ_=>(0:Int)) j ys ())=0->∀ i (hi:i < ys.length),sh ks (j+i) ys[i]=0:=by
  intro ys
  induction ys with
  | nil=>grind
  | cons y ys ih=>
   intro j hf i hi;simp only[bu] at hf;by_cases h0:sh ks j y=0
   ·rw[aH h0] at hf
    cases i with
    | zero=>simpa using h0
    | succ i=>
     have:=ih (j+1) hf i (by simpa using hi);grind
   grind
 rw[iB,bM];intro i j hi hj sb e;have h1:=main ks 0 h j hj;rw[bS] at h1;unfold sh at h1;split at h1
 ·split at h1
  ·cases h1
  ·rename_i hn;refine hn (o6.2 ?_);rw[<-e];exact iE.2 ⟨i,by omega,rfl⟩
 ·cases h1
theorem abN {x:Tx} (h:vg x=0):(x.2.2.2.1:List Key).Nodup:=by
 grind [vg,uD,Uj]
def FE (xs:List Tx):Bool:=xs.all λx=>x.2.2.2.1.all λk=>decide (qD xs k=x.1)
theorem abO {xs:List Tx} (hr:xs.Pairwise λx y=>x.1 < y.1) (hn:∀ x ∈ xs,(x.2.2.2.1:List Key).Nodup):FE xs=DM xs:=by
 have main:∀ (xs:List Tx),(xs.Pairwise λx y=>x.1 < y.1)->(∀ x ∈ xs,(x.2.2.2.1:List Key).Nodup)->((∀ x ∈ xs,∀ k ∈ (x.2.2.2.1:List Key),qD xs k=x.1)↔(flatK xs).Nodup):=by
  intro xs
  induction xs with
  | nil=>grind [flatK]
  | cons x xs ih=>
   intro hr hn;obtain ⟨h1,h2⟩:=dM.1 hr;have ih:=ih h2 (λy hy=>hn y (by simp[hy]));have Cf:flatK (x::xs)=x.2.2.2.1++flatK xs:=by simp[flatK]
   rw[Cf,dE];constructor
   ·intro st
    have hd:∀ y ∈ xs,∀ k ∈ (y.2.2.2.1:List Key),k ∉ (x.2.2.2.1:List Key):=λy hy k hk hx=>by
     grind
    refine ⟨hn x (by simp),ih.1 λy hy k hk=>?_,λa ha b hb e=>?_⟩
    ·grind [qD]
    ·subst e;obtain ⟨y,hy,hk⟩:=cM.1 hb;grind
   ·rintro ⟨g1,g2,g3⟩ y hy k hk;grind [qD,flatK,jy]
 have hm:=main xs hr hn;unfold FE DM;rw[fR];simp_all
theorem SV (xs:List Tx) (h:pM xs):gu.ab (xs,())=some (FE xs,()):=by
 have ht:=h;obtain ⟨h1,h2⟩:=h;refine ag (k:=1048577) λk hk=>(gu.af k _).trans ?_
 have inner:∀ (self:((List Tx)×Int)->Option gu.O) (e0:Unit->Option gu.O) (i:Nat) (hi:i < xs.length),gu.r1 k self e0 (xs,()) xs (i:Int) (0:Int)=if (xs[i]).2.2.2.1.any (λy=>!decide (qD xs y=(xs[i]).1)) then some (false,()) else self (xs,ae ((i:Int)+1)):=λself e0 i hi=>by
  have PE:=h2 _ (aJ hi);have Na:=PE.2.2.1
  have:=ff (B:=λko v=>gu.b1 ko (λz=>gu.q0 self e0 (xs,()) xs (i:Int) z) (xs,()) xs (i:Int) v) (xs[i]).2.2.2.1 (λ(_:Unit) (j:Int)=>j) (λ_ _ y=>if !decide (qD xs y=(xs[i]).1) then .inl (some (false,())) else .inr ()) (λ_=>self (xs,ae ((i:Int)+1))) (λ_ _=>True) (by rw[an];omega)
   (λj hj s ko _=>by
    show gu.b1 _ _ _ _ _ _=_;unfold gu.b1
    grind [Ui])
   (λ_ _ _ _ _ _=>trivial) (λs ko _=>by
    show gu.b1 _ _ _ _ _ _=_;unfold gu.b1;simp only[aR,aL,aD,aB hi,aA,aY,aI,aE]
    rfl) () trivial k Bys
  rw[uW] at this;exact this
 have:=cy (B:=λself v=>gu.B0 k self (λz=>gu.q1 (xs,()) z) (xs,()) v) xs (λ(_:Unit) (i:Int)=>(xs,i)) (λ_ _ x=>if x.2.2.2.1.all (λy=>decide (qD xs y=x.1)) then .inr () else .inl (false,())) (λ_=>(true,())) (λ_ _=>True) (by rw[an];omega)
  (λi hi s self _=>by
   show gu.b0 _ _ _ _ _=_
   grind [gu.b0])
  (λ_ _ _ _ _ _=>trivial) (λs self _=>by
   show gu.b0 _ _ _ _ _=_;unfold gu.b0;simp only[aY,aI,aE]
   rfl) () trivial k Bys
 rw[vZ (λ(x:Tx)=>x.2.2.2.1.all (λy=>decide (qD xs y=x.1))) (false,()) (λ_=>(true,()))] at this;refine aV this ?_;grind [FE]
def kY (S:List Key):List (Key×Bool):=S.map λk=>(k,true)
theorem Uk {α:Type} (k:Ty) (e:k.den×α) (m:List (k.den×α)) (x:k.den):lm k (e::m) x=if k.eq x e.1 then some e.2 else lm k m x:=by
 grind [lm]
theorem XM {α:Type} (k:Ty) (m:List (k.den×α)) (x:k.den) (y:α) (h:∀ e ∈ m,k.eq x e.1=false):oU k m x y=m++[(x,y)]:=by
 grind [oU]
theorem Ky (S:List Key) (k:Key):lm bk (kY S) k=if jy S k then some true else none:=by
 induction S with
 | nil=>rfl
 | cons s S ih=>
  refine (Uk bk (s,true) (kY S) k).trans ?_;grind [Ba,jy]
theorem abP (S:List Key) (k:Key):DZ (lm bk (kY S) k) false=jy S k:=by
 grind [DZ,Ky]
theorem SW {S:List Key} {k:Key} (h:jy S k=false):oU bk (kY S) k true=kY (S++[k]):=by
 refine (XM bk (kY S) k true λe he=>?_).trans ?_
 ·obtain ⟨s,hs,rfl⟩:=dT.1 he;grind [Ba,jy]
 ·simp only[kY,fK,dW,iU];rfl
def getM (m:List (Key×Bool)) (k:Key):Bool:=DZ (lm bk m k) false
def u9 (m:List (Key×Bool)) (k:Key):List (Key×Bool):=oU bk m k true
def wv:List (Key×Bool)->List Key->Option (List (Key×Bool))
 | m,[]=>some m
 | m,k::ks=>if getM m k then none else wv (u9 m k) ks
theorem Kz:∀ (m:List (Key×Bool)) (a b:List Key),wv m (a++b)=(wv m a).bind λm'=>wv m' b
 | m,[],b=>rfl
 | m,k::a,b=>by
  simp only[cY,wv];split
  ·rfl
  ·exact Kz _ a b
theorem PG:∀ (ks S:List Key),S.Nodup->wv (kY S) ks=if (S++ks).Nodup then some (kY (S++ks)) else none
 | [],S,h=>by simp[wv,h]
 | k::ks,S,h=>by
  have hg:getM (kY S) k=jy S k:=abP S k;simp only[wv,hg]
  cases hh:jy S k with
  | true=>
   have:¬ (S++k::ks).Nodup:=λhn=>by
    rw[dE] at hn;exact hn.2.2 k (o6.1 hh) k (by simp) rfl
   simp[this]
  | false=>
   have hk:k ∉ S:=λhm=>by rw[o6.2 hm] at hh;cases hh
   simp only[aF,aU];have hp:u9 (kY S) k=kY (S++[k]):=SW hh;rw[hp,PG ks (S++[k]) (by grind)];grind
theorem PH {O:Type} (bad:Option O) (E:List (Key×Bool)->Option O):∀ (ks:List Key) (i:Nat) (m:List (Key×Bool)),bu (λ_ m k=>if getM m k then .inl bad else .inr (u9 m k)) E i ks m=match wv m ks with | none=>bad | some m'=>E m'
 | [],_,_=>rfl
 | k::ks,i,m=>by
  simp only[bu,wv];by_cases h:getM m k=true
  ·simp[h]
  ·simp only[h,aU];exact PH bad E ks _ _
theorem Nb {O:Type} (bad:Option O) (E:Option O):∀ (xs:List Tx) (i:Nat) (m:List (Key×Bool)),bu (λ_ m x=>match wv m x.2.2.2.1 with | none=>.inl bad | some m'=>.inr m') (λ_=>E) i xs m=match wv m (flatK xs) with | none=>bad | some _=>E
 | [],_,_=>rfl
 | x::xs,i,m=>by
  have Cf:flatK (x::xs)=x.2.2.2.1++flatK xs:=by simp[flatK]
  rw[Cf,Kz];simp only[bu]
  cases h:wv m x.2.2.2.1 with
  | none=>rfl
  | some m'=>
   simp only[aA];exact Nb bad E xs _ _
theorem He (xs:List Tx) (h:pM xs):ct.ab (xs,())=some (mQ xs,()):=by
 have ht:=h;obtain ⟨h1,h2⟩:=h;refine ag (k:=1048577) λk hk=>(ct.af k _).trans ?_;unfold ct.p mQ;by_cases h4:4 < xs.length
 ·grind
 have h4':¬ (4:Int) < (xs.length:Int):=by omega
 simp only[h4,h4',aI,aE,aU]
 have last:ct.q2 (xs,()) xs=some (if 12 < pF xs then 2 else 0,()):=by
  grind [ct.q2,DL]
 have inner:∀ (self:((List Tx)×(List (Key×Bool))×(List Tx)×Int×Int)->Option ct.O) (e2:List Tx->Option ct.O) (i:Nat) (hi:i < xs.length) (m:List (Key×Bool)),ct.r2 k self e2 (xs,()) xs xs (xs.length:Int) (i:Int) (xs[i]).2.2.2.1 (List.length (xs[i]).2.2.2.1:Int) (m,(0:Int))=match wv m (xs[i]).2.2.2.1 with | none=>some ((7:Int),()) | some m'=>self (xs,m',xs,(xs.length:Int),ae ((i:Int)+1)):=λself e2 i hi m=>by
  have Na:=(h2 _ (aJ hi)).2.2.1
  have:=ff (B:=λko v=>ct.b2 ko (λz=>ct.q1 self e2 (xs,()) xs xs (xs.length:Int) (i:Int) (xs[i]).2.2.2.1 (List.length (xs[i]).2.2.2.1:Int) z) (xs,()) xs xs (xs.length:Int) (i:Int) (xs[i]).2.2.2.1 (List.length (xs[i]).2.2.2.1:Int) v) (xs[i]).2.2.2.1 (λ(m:List (Key×Bool)) (j:Int)=>(m,j)) (λ_ m y=>if getM m y then .inl (some ((7:Int),())) else .inr (u9 m y)) (λm=>self (xs,m,xs,(xs.length:Int),ae ((i:Int)+1))) (λ_ _=>True) (by rw[an];omega)
   (λj hj s ko _=>by
    grind [ct.b2,getM,u9])
   (λ_ _ _ _ _ _=>trivial) (λs ko _=>by
    show ct.b2 _ _ _ _ _ _ _ _ _ _=_;unfold ct.b2;simp only[aY,aI,aE]
    rfl) m trivial k Bys
  rw[PH] at this;exact this
 have apart:ct.Q0 k (xs,()) ()=some (if DM xs then (if 12 < pF xs then 2 else 0) else 7,()):=by
  have:=ff (B:=λself v=>ct.B1 k self (λz=>ct.q2 (xs,()) z) (xs,()) v) xs (λ(m:List (Key×Bool)) (i:Int)=>(xs,m,xs,(xs.length:Int),i)) (λ_ m x=>match wv m x.2.2.2.1 with | none=>.inl (some ((7:Int),())) | some m'=>.inr m') (λ_=>some (if 12 < pF xs then 2 else 0,())) (λ_ _=>True) (by rw[an];omega)
   (λi hi m self _=>by
    show ct.b1 _ _ _ _ _=_
    grind [ct.b1])
   (λ_ _ _ _ _ _=>trivial) (λs self _=>by
    show ct.b1 _ _ _ _ _=_
    grind [ct.b1]) (kY []) trivial k Bys
  rw[Nb,PG _ _ fG] at this;refine aV this ?_;grind [DM]
 have:=ff (B:=λself v=>ct.b0 self (λz=>ct.Q0 k (xs,()) z) (xs,()) v) xs (λ(_:Unit) (i:Int)=>i) (λi _ x=>if ul xs i x=0 then .inr () else .inl (some (ul xs i x,()))) (λ_=>some (if DM xs then (if 12 < pF xs then 2 else 0) else 7,())) (λ_ _=>True) (by rw[an];omega)
  (λi hi s self _=>by
   show ct.b0 _ _ _ _=_;unfold ct.b0 ul;have bc:(i:Int) < (xs.length:Int):=by omega
   simp only[bc,aP,aM,aR,aL,aD,aB hi,aA,Og,XK _ (h2 _ (aJ hi))]
   grind [dr,MP,an,Int.toNat_natCast])
  (λ_ _ _ _ _ _=>trivial) (λs self _=>by
   grind [ct.b0]) () trivial k Bys
 rw[CC (ul xs)] at this;refine aV this ?_;grind [Bj]
theorem Nc (xs:List Tx) (h:pM xs):jK.ab (xs,())=some (mQ xs,()):=by
 have ht:=h;obtain ⟨h1,h2⟩:=h;refine ag (k:=1048577) λk hk=>(jK.af k _).trans ?_;unfold jK.p mQ;by_cases h4:4 < xs.length
 ·grind
 have h4':¬ (4:Int) < (xs.length:Int):=by omega
 simp only[h4,h4',aI,aE,aU]
 have last:jK.q0 (xs,()) ()=some (if FE xs then (if 12 < pF xs then 2 else 0) else 7,()):=by
  grind [jK.q0,SV,IX]
 have:=ff (B:=λself v=>jK.b0 self (λz=>jK.q0 (xs,()) z) (xs,()) v) xs (λ(_:Unit) (i:Int)=>i) (λi _ x=>if ul xs i x=0 then .inr () else .inl (some (ul xs i x,()))) (λ_=>some (if FE xs then (if 12 < pF xs then 2 else 0) else 7,())) (λ_ _=>True) (by rw[an];omega)
  (λi hi s self _=>by
   show jK.b0 _ _ _ _=_;unfold jK.b0 ul;have bc:(i:Int) < (xs.length:Int):=by omega
   simp only[bc,aP,aM,aR,aL,aD,aB hi,aA,o5,T8 _ (h2 _ (aJ hi)),Si _ (h2 _ (aJ hi))]
   have hj:(bif !decide (En xs[i]=0) then some (En xs[i],()) else bif !decide (uD xs[i]=0) then some (uD xs[i],()) else self (ae ((i:Int)+1)))=match (generalizing:=false) (if vg xs[i]=0 then .inr () else .inl (some (vg xs[i],())):Sum (Option (Int×Unit)) Unit) with | .inl o=>o | .inr _=>self (ae ((i:Int)+1)):=by
    grind [vg]
   grind [dr,MP,an,Int.toNat_natCast])
  (λ_ _ _ _ _ _=>trivial) (λs self _=>by
   grind [jK.b0]) () trivial k Bys
 rw[CC (ul xs)] at this;refine aV this ?_;show (if Bj xs=0 then _ else some (Bj xs,()))=_;by_cases he:Bj xs=0
 ·rw[aH he,aH he,abO (Z8 he) (λx hx=>by
   obtain ⟨i,hi,rfl⟩:=dD.1 hx
   exact abN (DN (zl xs he i hi)).2.1)]
 grind
def dd (S:List Key) (ks:List Key):List Key:=ks.foldl (λS k=>if jy S k then S else S++[k]) S
def uJ (rows:List Row):List Key:=rows.map λr=>(r.1,r.2.1,())
def nX (rows:List Row) (xs:List Tx):List Key:=uJ rows++flatK xs
theorem Ul {α:Type} (k:Ty) (m:List (k.den×α)) (x:k.den) (y:α) {i:Nat} (h:m.findIdx? (λe=>k.eq x e.1)=some i):oU k m x y=m.set i (x,y):=by
 grind [oU]
theorem Z9 {S:List Key} {k:Key} (h:jy S k=true):u9 (kY S) k=kY S:=by
 have key:∀ (S:List Key) (i:Nat),(kY S).findIdx? (λe=>Ty.eq bk k e.1)=some i->(kY S)[i]?=some (k,true):=by
  intro S i hi;have h1:=eV.1 hi;grind [kY,Ba]
 show oU bk (kY S) k true=kY S
 cases hf:(kY S).findIdx? (λe=>Ty.eq bk k e.1) with
 | none=>
  exfalso
  have h1:lm bk (kY S) k=none:=by
   unfold lm;have h2:=List.findIdx?_eq_none_iff.1 hf;have:(kY S).find? (λe=>Ty.eq bk k e.1)=none:=eY.2 λe he=>by grind
   exact cV _ this
  grind [Ky]
 | some i=>
  have h1:=key S i hf;have bc:=(aO.1 h1).1;refine (Ul bk (kY S) k true hf).trans ?_;show (kY S).set i (k,true)=kY S;grind [List.set_getElem_self]
theorem SX (S:List Key) (k:Key):u9 (kY S) k=kY (if jy S k then S else S++[k]):=by
 cases h:jy S k with
 | true=>grind [Z9]
 | false=>simp only[aF,aU];exact SW h
theorem VL:∀ (ks S:List Key),ks.foldl u9 (kY S)=kY (dd S ks)
 | [],S=>rfl
 | k::ks,S=>by
  rw[eS,SX,VL ks];rfl
theorem PI (S a b:List Key):dd S (a++b)=dd (dd S a) b:=iJ
theorem IY:∀ (ks S:List Key) (k:Key),k ∈ dd S ks↔k ∈ S\/k ∈ ks
 | [],S,k=>by simp[dd]
 | x::ks,S,k=>by
  show k ∈ dd (if jy S x then S else S++[x]) ks↔_;rw[IY ks];grind [jy]
theorem Z_:∀ (ks S:List Key),S.length<=(dd S ks).length
 | [],S=>aG _
 | x::ks,S=>by
  refine bB ?_ (Z_ ks (if jy S x then S else S++[x]));grind
theorem SY:∀ (ks S:List Key),(S++ks).Nodup->dd S ks=S++ks
 | [],S,_=>by simp[dd]
 | x::ks,S,h=>by
  have hx:jy S x=false:=by
   grind [jy]
  show dd (if jy S x then S else S++[x]) ks=_;rw[hx];simp only[aF,aU];rw[SY ks (S++[x]) (by simpa using h)];simp
theorem Um {rows:List Row} (h:up rows):(uJ rows).Nodup:=by
 unfold uJ;rw[iB,fZ];refine h.imp λ{a b} SR e=>?_;grind [rk,wl]
theorem BG {rows:List Row} {xs:List Tx} (h:up rows):rows.length<=(dd [] (nX rows xs)).length:=by
 unfold nX;rw[PI,SY (uJ rows) [] (by simpa using Um h)];refine bB ?_ (Z_ _ _);simp[uJ]
def IZ:List Key->List Key->Nat
 | _,[]=>0
 | S,k::ks=>(if jy S k then 0 else 1)+IZ (S++[k]) ks
theorem Ow:∀ (ks S T:List Key),(∀ k,k ∈ S↔k ∈ T)->(dd S ks).length=S.length+IZ T ks
 | [],S,T,_=>rfl
 | x::ks,S,T,h=>by
  have hx:jy S x=jy T x:=by grind [o6]
  show (dd (if jy S x then S else S++[x]) ks).length=_;simp only[IZ,<- hx]
  cases hh:jy S x with
  | true=>
   simp only[aL];rw[Ow ks S (T++[x]) λk=>?_]
   ·omega
   ·simp only[bG,bC,<- h k];constructor
    ·exact .inl
    ·rintro (h1 | h1)
     ·exact h1
     ·subst h1;exact o6.1 hh
  | false=>
   simp only[aF,aU];rw[Ow ks (S++[x]) (T++[x]) λk=>by grind];grind
def rQ (rows:List Row) (xs:List Tx):Nat:=(dd [] (nX rows xs)).length
theorem PJ (rows:List Row) (xs:List Tx) (hr:rows.length<=1048576) (h:pM xs):dx.ab (rows,xs,())=some (kY (dd [] (nX rows xs)),()):=by
 obtain ⟨h1,h2⟩:=h;refine ag (k:=1048577) λk hk=>(dx.af k _).trans ?_
 have inner:∀ (self:((List (Key×Bool))×(List Tx)×Int×Int)->Option dx.O) (e2:(List (Key×Bool))->Option dx.O) (i:Nat) (hi:i < xs.length) (m:List (Key×Bool)),dx.r2 k self e2 (rows,xs,()) xs (xs.length:Int) (i:Int) (xs[i]).2.2.2.1 (List.length (xs[i]).2.2.2.1:Int) (m,(0:Int))=self ((xs[i]).2.2.2.1.foldl u9 m,xs,(xs.length:Int),ae ((i:Int)+1)):=λself e2 i hi m=>by
  have Na:=(h2 _ (aJ hi)).2.2.1
  have:=ff (B:=λko v=>dx.b2 ko (λz=>dx.q1 self e2 (rows,xs,()) xs (xs.length:Int) (i:Int) (xs[i]).2.2.2.1 (List.length (xs[i]).2.2.2.1:Int) z) (rows,xs,()) xs (xs.length:Int) (i:Int) (xs[i]).2.2.2.1 (List.length (xs[i]).2.2.2.1:Int) v) (xs[i]).2.2.2.1 (λ(m:List (Key×Bool)) (j:Int)=>(m,j)) (λ_ m y=>.inr (u9 m y)) (λm=>self (m,xs,(xs.length:Int),ae ((i:Int)+1))) (λ_ _=>True) (by rw[an];omega)
   (λj hj s ko _=>by
    show dx.b2 _ _ _ _ _ _ _ _ _=_;unfold dx.b2;have bc:(j:Int) < (List.length (xs[i]).2.2.2.1:Int):=by omega
    simp only[bc,aP,aM,aR,aL,aD,aB hj,aA]
    rfl)
   (λ_ _ _ _ _ _=>trivial) (λs ko _=>by
    show dx.b2 _ _ _ _ _ _ _ _ _=_;unfold dx.b2;simp only[aY,aI,aE]
    rfl) m trivial k Bys
  rw[ik (g:=u9)] at this;exact this
 have second:∀ m,dx.r1 k (rows,xs,()) (m,xs,(xs.length:Int),(0:Int))=some ((flatK xs).foldl u9 m,()):=λm=>by
  have:=cy (B:=λself v=>dx.B1 k self (λz=>dx.q2 (rows,xs,()) z) (rows,xs,()) v) xs (λ(m:List (Key×Bool)) (i:Int)=>(m,xs,(xs.length:Int),i)) (λ_ m x=>.inr (x.2.2.2.1.foldl u9 m)) (λm=>(m,())) (λ_ _=>True) (by rw[an];omega)
   (λi hi m self _=>by
    show dx.b1 _ _ _ _ _=_
    grind [dx.b1])
   (λ_ _ _ _ _ _=>trivial) (λs self _=>by
    show dx.b1 _ _ _ _ _=_;unfold dx.b1;simp only[aY,aI,aE]
    rfl) m trivial k Bys
  rw[ik (g:=λm (x:Tx)=>x.2.2.2.1.foldl u9 m)] at this;refine aV this ?_
  have:∀ (xs:List Tx) (m:List (Key×Bool)),xs.foldl (λm (x:Tx)=>x.2.2.2.1.foldl u9 m) m=(flatK xs).foldl u9 m:=by
   intro xs
   induction xs <;> grind [flatK]
  rw[this]
 have:=ff (B:=λself v=>dx.b0 self (λz=>dx.Q0 k (rows,xs,()) z) (rows,xs,()) v) rows (λ(m:List (Key×Bool)) (i:Int)=>(m,i)) (λ_ m r=>.inr (u9 m (r.1,r.2.1,()))) (λm=>some ((flatK xs).foldl u9 m,())) (λ_ _=>True) (by rw[an];omega)
  (λi hi m self _=>by
   show dx.b0 _ _ _ _=_;unfold dx.b0;have bc:(i:Int) < (rows.length:Int):=by omega
   simp only[bc,aP,aM,aR,aL,aD,aB hi,aA]
   rfl)
  (λ_ _ _ _ _ _=>trivial) (λs self _=>by
   show dx.b0 _ _ _ _=_;unfold dx.b0;simp only[aY,aI,aE]
   exact second s) (kY []) trivial k Bys
 rw[ik (g:=λm (r:Row)=>u9 m (r.1,r.2.1,()))] at this;refine aV this ?_;have e1:rows.foldl (λm (r:Row)=>u9 m (r.1,r.2.1,())) (kY [])=(uJ rows).foldl u9 (kY []):=by unfold uJ;rw[List.foldl_map]
 grind [VL,nX]
theorem KA {O:Type} (x:Key) (E:Bool->Option O):∀ (ys:List Key) (j:Nat) (b:Bool),bu (λ_ b y=>if b then .inr (!decide (y=x)) else .inl (E false)) E j ys b=if b then E (!jy ys x) else E false
 | [],_,b=>by cases b <;> rfl
 | y::ys,j,b=>by
  cases b with
  | false=>simp[bu]
  | true=>
   simp only[bu,aL];rw[KA x E ys];grind [jy]
theorem SZ {O:Type} (all:List Key) (E:Int->O):∀ (ys pre:List Key) (n:Int),all=pre++ys->bu (λi n x=>.inr (if jy (all.take i) x then n else n+1)) E pre.length ys n=E (n+(IZ pre ys:Int))
 | [],pre,n,_=>by simp[bu,IZ]
 | y::ys,pre,n,h=>by
  simp only[bu];have ht:all.take pre.length=pre:=by rw[h];simp
  rw[ht];have:=SZ all E ys (pre++[y]) (if jy pre y then n else n+1) (by rw[h];simp);grind [IZ]
def Eu (k:Key):List Key:=if k.2.1=0 then [] else [k]
def yH (rows:List Row) (xs:List Tx) (k:Key):Nat:=(dd [] (nX rows xs++Eu k)).length
theorem I0 (rows:List Row) (xs:List Tx) (kk:Key) (hr:rows.length<=1048576) (hx:xs.length<=1000) (h:∀ x ∈ xs,List.length x.2.2.2.1<=1000):cm.ab (rows,xs,kk,())=some ((yH rows xs kk:Int),()):=by
 refine ag (k:=3000000) λk hk=>(cm.af k _).trans ?_
 have Cf:(flatK xs).length<=1000*xs.length:=by
  clear hx
  induction xs <;> grind [flatK]
 have XL:∀ all:List Key,all.length<=2100000->cm.r2 k (rows,xs,kk,()) (all,(0:Int),(0:Int))=some ((IZ [] all:Int),()):=λall st=>by
  have inner:∀ (self:((List Key)×Int×Int)->Option cm.O) (e4:Int->Option cm.O) (i:Nat) (hi:i < all.length) (n:Int),cm.r3 k self e4 (rows,xs,kk,()) all n (i:Int) (true,(0:Int))=if jy (all.take i) all[i] then self (all,n,ae ((i:Int)+1)) else self (all,ae (n+1),ae ((i:Int)+1)):=λself e4 i hi n=>by
   have mY:(all.take i).length=i:=by simp;omega
   have:=ff (B:=λko v=>cm.b3 ko (λz=>cm.q2 self e4 (rows,xs,kk,()) all n (i:Int) z) (rows,xs,kk,()) all n (i:Int) v) (all.take i) (λ(b:Bool) (j:Int)=>(b,j)) (λ_ b y=>if b then .inr (!decide (y=all[i])) else .inl (if false then self (all,ae (n+1),ae ((i:Int)+1)) else self (all,n,ae ((i:Int)+1)))) (λb=>if b then self (all,ae (n+1),ae ((i:Int)+1)) else self (all,n,ae ((i:Int)+1))) (λ_ _=>True) (by rw[an];omega)
    (λj hj b ko _=>by
     show cm.b3 _ _ _ _ _ _ _=_;unfold cm.b3;rw[mY] at hj;have bc:(j:Int) < (i:Int):=by omega
     have hjl:j < all.length:=by omega
     have c1:(0:Int)<=(j:Int)/\(j:Int) < (all.length:Int):=by omega
     have c2:(0:Int)<=(i:Int)/\(i:Int) < (all.length:Int):=by omega
     simp only[bc,c1,c2,cP,aP,aM,aL,aD,aB hjl,aB hi,aA,Ba,iK]
     cases b <;> rfl)
    (λ_ _ _ _ _ _=>trivial) (λb ko _=>by
     show cm.b3 _ _ _ _ _ _ _=_;unfold cm.b3;simp only[mY,aY,aI,aE]
     cases b <;> rfl) true trivial k Bys
   have e:=KA all[i] (λb=>if b then self (all,ae (n+1),ae ((i:Int)+1)) else self (all,n,ae ((i:Int)+1))) (all.take i) 0 true;refine (aV this e).trans ?_;grind
  have:=cy (B:=λself v=>cm.B2 k self (λz=>cm.q3 (rows,xs,kk,()) z) (rows,xs,kk,()) v) all (λ(n:Int) (i:Int)=>(all,n,i)) (λi n x=>.inr (if jy (all.take i) x then n else n+1)) (λn=>(n,())) (λi n=>0<=n/\n<=(i:Int)) (by rw[an];omega)
   (λi hi n self hI=>by
    show cm.b2 _ _ _ _ _=_
    grind [cm.b2,bf])
   (λi hi n n' hI hs=>by
    grind) (λs self _=>by
    show cm.b2 _ _ _ _ _=_;unfold cm.b2;simp only[aY,aI,aE]
    rfl) 0 Bys k Bys
  have e:=SZ all (λn=>(n,())) all [] 0 rfl;refine (aV this (cV some e)).trans ?_;rw[Int.zero_add]
 have second:cm.r1 k (rows,xs,kk,()) (uJ rows,(0:Int))=some ((IZ [] (nX rows xs++Eu kk):Int),()):=by
  have vv:(uJ rows).length=rows.length:=by simp[uJ]
  have:=ff (B:=λself v=>cm.b1 self (λz=>cm.Q1 k (rows,xs,kk,()) z) (rows,xs,kk,()) v) xs (λ(s:List Key) (i:Int)=>(s,i)) (λ_ s x=>.inr (s++x.2.2.2.1)) (λs=>cm.r2 k (rows,xs,kk,()) (s++Eu kk,(0:Int),(0:Int))) (λi s=>s.length<=1048576+1000*i) (by rw[an];omega)
   (λi hi s self hI=>by
    grind [cm.b1,cr,Int.natCast_nonneg])
   (λi hi s s' hI hs=>by
    grind) (λs self hI=>by
    show cm.b1 _ _ _ _=_;unfold cm.b1;simp only[aY,aI,aE];show cm.q1 _ _ _=_
    grind [cm.q1,Eu,cr]) (uJ rows) Bys k Bys
  rw[ik (g:=λs (x:Tx)=>s++x.2.2.2.1)] at this;refine aV this ?_
  have e:∀ (xs:List Tx) (s:List Key),xs.foldl (λs (x:Tx)=>s++x.2.2.2.1) s=s++flatK xs:=by
   intro xs
   induction xs <;> grind [flatK]
  rw[e];have hex:(Eu kk).length<=1:=by grind [Eu]
  exact XL _ (by grind)
 have:=ff (B:=λself v=>cm.b0 self (λz=>cm.Q0 k (rows,xs,kk,()) z) (rows,xs,kk,()) v) rows (λ(s:List Key) (i:Int)=>(s,i)) (λ_ s r=>.inr (s++[(r.1,r.2.1,())])) (λs=>cm.r1 k (rows,xs,kk,()) (s,(0:Int))) (λi s=>s.length=i) (by rw[an];omega)
  (λi hi s self hI=>by
   grind [cm.b0,cr,Int.natCast_nonneg])
  (λi hi s s' hI hs=>by grind) (λs self _=>by
   show cm.b0 _ _ _ _=_;unfold cm.b0;simp only[aY,aI,aE]
   rfl) [] rfl k Bys
 rw[ik (g:=λs (r:Row)=>s++[(r.1,r.2.1,())])] at this
 have e:∀ (rows:List Row) (s:List Key),rows.foldl (λs (r:Row)=>s++[(r.1,r.2.1,())]) s=s++uJ rows:=by
  intro rows
  induction rows <;> grind [uJ]
 rw[e,cJ,second] at this;refine aV this ?_;have:=Ow (nX rows xs++Eu kk) [] [] (λ_=>iH);grind [yH]
theorem Un (rows:List Row) (xs:List Tx) (hr:rows.length<=1048576) (hx:xs.length<=1000) (h:∀ x ∈ xs,List.length x.2.2.2.1<=1000):cm.ab (rows,xs,((0:Int),(0:Int),()),())=some ((rQ rows xs:Int),()):=by
 rw[I0 rows xs _ hr hx h];unfold yH Eu;simp only[aL,cZ];rfl
theorem aaa {ks:List Key} (h:wJ ks=0):∀ k ∈ ks,yG k=true:=by
 have main:∀ (ys:List Key) (j:Nat),(bu (λi (_:Unit) k=>if sh ks i k=0 then .inr () else .inl (sh ks i k)) (λ_=>(0:Int)) j ys ())=0->∀ y ∈ ys,yG y=true:=by
  intro ys
  induction ys <;> grind [bu,sh]
 exact main ks 0 h
structure ww (xs:List Tx):Prop where
 len:xs.length<=4
 ch:∀ x ∈ xs,∀ c ∈ (x.2.1:List Change),lg c=0
 Hf:∀ x ∈ xs,List.length x.2.2.2.1<=12
 sE:∀ x ∈ xs,List.length x.2.1<=12
 keys:∀ x ∈ xs,∀ k ∈ (x.2.2.2.1:List Key),yG k=true
theorem Bk {α:Type} {c:α->Int}:∀ {xs:List α},pQ c xs=0->∀ x ∈ xs,c x=0
 | [],_,_,h=>by cases h
 | y::ys,h,x,hx=>by
  simp only[pQ] at h;split at h
  ·rcases aZ.1 hx with e | e
   ·subst e;assumption
   ·exact Bk h x e
  grind
theorem VM:∀ (xs:List Tx) (n:Int),0<=n->n<=xs.foldl (λn x=>n+(List.length x.2.1:Int)) n/\∀ x ∈ xs,(List.length x.2.1:Int)<=xs.foldl (λn x=>n+(List.length x.2.1:Int)) n
 | [],n,h=>⟨dH _,λx hx=>by cases hx⟩
 | y::ys,n,h=>by
  obtain ⟨h1,h2⟩:=VM ys (n+(List.length y.2.1:Int)) Bys;grind
theorem ru {xs:List Tx} (h:mQ xs=0):ww xs:=by
 unfold mQ at h;split at h
 ·cases h
 ·rename_i hl;split at h
  ·rename_i he;split at h
   ·split at h
    ·cases h
    ·rename_i hc
     have each:∀ x ∈ xs,vg x=0:=λx hx=>by
      obtain ⟨i,hi,rfl⟩:=dD.1 hx;exact (DN (zl xs he i hi)).2.1
     refine ⟨by omega,λx hx c hcm=>?_,λx hx=>?_,λx hx=>?_,λx hx=>?_⟩
     ·have h1:=each x hx;unfold vg at h1;split at h1
      ·rename_i hu;have h2:=Bk hu c hcm;grind [xe,Em]
      grind
     ·grind [vg,uD]
     ·have:=(VM xs 0 (dH _)).2 x hx;grind [pF]
     grind [vg,uD,aaa]
   ·cases h
  grind
def wx (c:Change):Change:=(c.2.2.1,c.2.2.2.1,c.1,c.2.1,())
def e8 (cs:List Change):List Change:=cs.reverse.map wx
theorem x_ (cs:List Change):(e8 cs).length=cs.length:=by simp[e8]
theorem AN {cs:List Change} {c:Change} (h:c ∈ e8 cs):∃ d ∈ cs,c=wx d:=by
 grind [e8]
theorem adH {c:Change} (h:lg c=0):lg (wx c)=0:=by
 grind [lg,wx,sameKey]
theorem I1 (cs:List Change) (hl:cs.length<=1048576) {O:Type} {B:((List Change×Int)->Option O)->(List Change×Int)->Option O} {E:List Change->Option O}
  (gb:∀ (m:Nat) (hm:m < cs.length) acc self,acc.length<=1048576->B self (acc,(m:Int))=self (acc++[wx cs[m]],ae ((m:Int) - 1))) (qW:∀ acc self,B self (acc,(-1:Int))=E acc) :
  ∀ k,cs.length < k->ao B k ([],ae ((cs.length:Int) - 1))=E (e8 cs):=by
 have main:∀ (m:Nat) (acc:List Change),m<=cs.length->acc.length+m<=cs.length->∀ k,m < k->ao B k (acc,(m:Int) - 1)=E (acc++(cs.take m).reverse.map wx):=by
  intro m
  induction m with
  | zero=>
   intro acc _ _ k hk;cases k <;> grind [ao]
  | succ m ih=>
   intro acc hm ha k hk
   cases k with
   | zero=>omega
   | succ k=>
    show B (ao B k) _=_;have e:((m+1:Nat):Int) - 1=(m:Int):=by omega
    rw[e,gb m Bys acc _ Bys,bf Bys,ih _ Bys (by simp;omega) k Bys,gA Bys,gT,fK,bV];rfl
 grind [bf,e8]
theorem Nd (cs:List Change) (hl:cs.length<=1048576):jV.ab (cs,())=some (e8 cs,()):=by
 refine ag (k:=cs.length+1) λk hk=>(jV.af k _).trans ?_;refine I1 cs hl (B:=λself v=>jV.b0 self (λz=>jV.q0 (cs,()) z) (cs,()) v) (E:=λz=>some (z,())) (λm hm acc self ha=>?_) (λacc self=>?_) k Bys
 ·grind [jV.b0,wx,cr]
 ·show jV.b0 _ _ _ _=_;unfold jV.b0;rfl
theorem Hg (cs:List Change) (hl:cs.length<=1048576):lL.ab (cs,())=some (e8 cs,()):=by
 refine ag (k:=cs.length+1) λk hk=>(lL.af k _).trans ?_;refine I1 cs hl (B:=λself v=>lL.b0 self (λz=>lL.q0 (cs,()) z) (cs,()) v) (E:=λz=>some (z,())) (λm hm acc self ha=>?_) (λacc self=>?_) k Bys
 ·grind [lL.b0,wx,cr]
 ·show lL.b0 _ _ _ _=_;unfold lL.b0;rfl
def gi:List Row->List Change->Option (List Row)
 | s,[]=>some s
 | s,c::cs=>if sK s c then gi (nC s c) cs else none
theorem back_append:∀ (a b:List Change) (s:List Row),gi s (a++b)=(gi s a).bind λt=>gi t b
 | [],b,s=>rfl
 | c::a,b,s=>by
  simp only[cY,gi];split
  ·exact back_append a b _
  ·rfl
theorem PK {O:Type} (bad:O) (fin:List Row->O):∀ (cs:List Change) (i:Nat) (s:List Row),bu (λ_ s c=>if sK s c then .inr (nC s c) else .inl bad) fin i cs s=match gi s cs with | some t=>fin t | none=>bad
 | [],_,_=>rfl
 | c::cs,i,s=>by
  simp only[bu,gi];by_cases h:sK s c=true
  ·simp only[h,aL];exact PK bad fin cs _ _
  ·simp[h]
theorem uK:∀ (cs:List Change) (s t:List Row),Good s->(∀ c ∈ cs,lg c=0)->gi s cs=some t->Good t/\t.length<=s.length+cs.length
 | [],s,t,h,_,hb=>by injection hb with hb;grind
 | c::cs,s,t,h,hc,hb=>by
  simp only[gi] at hb;split at hb
  ·have h1:=uK cs (nC s c) t (rL h (hc c (by simp))) (λd hd=>hc d (by simp[hd])) hb;grind [Dz]
  ·cases hb
theorem S4 {O α:Type} {f:Nat->Unit->α->Sum O Unit} {fin:Unit->O}:∀ (xs:List α) (j:Nat),(∀ i (hi:i < xs.length),f (j+i) () xs[i]=.inr ())->bu f fin j xs ()=fin ()
 | [],_,_=>rfl
 | x::xs,j,h=>by
  have h0:=h 0 (by simp);simp only[eM,List.getElem_cons_zero] at h0;simp only[bu,h0]
  exact S4 xs (j+1) λi hi=>by
   have:=h (i+1) (by simp;omega);grind
theorem Hh {xs:List Row} (h:Good xs) (hl:xs.length<=60):nk xs=0:=by
 unfold nk;rw[aN Bys,S4 xs 0 λi hi=>?_];unfold uZ;rw[aH (h.ok _ (aJ hi)),bS];by_cases h0:0 < i
 ·rw[aH h0,aB (show i - 1 < xs.length by omega)];have hu:=h.up;grind [up,List.pairwise_iff_getElem]
 ·rw[aN h0]
theorem Nf {s:List Row} {cs:List Change} (h:Good s) (hc:∀ c ∈ cs,lg c=0) (hl:s.length+cs.length<=60):MU s cs=match gi s cs with | some t=>((0:Int),t,()) | none=>((8:Int),([]:List Row),()):=by
 unfold MU;rw[aH (Hh h Bys)]
 have main:∀ (cs:List Change) (s:List Row) (i:Nat),Good s->(∀ c ∈ cs,lg c=0)->s.length+cs.length<=60->(bu xB DA i cs s).1=match gi s cs with | some t=>((0:Int),t,()) | none=>((8:Int),([]:List Row),()):=by
  intro cs
  induction cs <;> grind [bu,DA,gi,xB,Dz,rL]
 grind
def rR (xs:List Tx):List Change:=xs.flatMap λx=>e8 x.2.1
theorem Hj {O:Type} (bad:O) (fin:List Row->O):∀ (xs:List Tx) (i:Nat) (s:List Row),bu (λ_ s x=>match gi s (e8 x.2.1) with | some t=>.inr t | none=>.inl bad) fin i xs s=match gi s (rR xs) with | some t=>fin t | none=>bad
 | [],_,_=>rfl
 | x::xs,i,s=>by
  have hb:rR (x::xs)=e8 x.2.1++rR xs:=by simp[rR]
  rw[hb,back_append];simp only[bu]
  cases gi s (e8 x.2.1) with
  | none=>rfl
  | some t=>simp only[aA];exact Hj bad fin xs _ _
theorem o_ {cs:List Change} (h:∀ c ∈ cs,lg c=0):∀ c ∈ e8 cs,lg c=0:=λc hc=>by
 grind [AN,adH]
theorem I2 {cs:List Change} (h:∀ c ∈ cs,cl c):∀ c ∈ e8 cs,cl c:=λc hc=>by
 obtain ⟨d,h1,rfl⟩:=AN hc;exact ⟨(h d h1).2,(h d h1).1⟩
theorem VN {s:List Row} (h:Good s):∀ x ∈ s,rl x:=λx hx=>by
 have:=zi (h.ok x hx);grind [rl,an]
theorem DO (s:List Row) (cs:List Change) (h:Good s) (hc:∀ c ∈ cs,lg c=0) (hl:s.length+cs.length<=1000):kx.ab (s,cs,())=some (match gi s (e8 cs) with | some t=>(t,true,()) | none=>(([]:List Row),false,())):=by
 refine ag (k:=1001) λk hk=>(kx.af k _).trans ?_;unfold kx.p;rw[Nd cs Bys];simp only[aA];have hlen:=x_ cs;have po:=o_ hc
 have:=cy (B:=λself v=>kx.b0 self (λz=>kx.q0 (s,cs,()) (e8 cs) z) (s,cs,()) (e8 cs) v) (e8 cs) (λ(s:List Row) (i:Int)=>(s,i)) (λ_ s c=>if sK s c then .inr (nC s c) else .inl (([]:List Row),false,())) (λs=>(s,true,())) (λi t=>Good t/\t.length<=s.length+i) (by rw[an];omega)
  (λi hi t self hI=>by
   show kx.b0 _ _ _ _ _=_;unfold kx.b0;have bc:(i:Int) < ((e8 cs).length:Int):=by omega
   have gb:(0:Int)<=(i:Int)/\(i:Int) < ((e8 cs).length:Int):=by omega
   simp only[bc,gb,cP,aP,aM,aL,aD,aB hi,aA];rw[Po t _ hI.1.up Bys (pw (po _ (aJ hi))).1]
   grind)
  (λi hi t t' hI hs=>by
   grind [Dz,rL]) (λt self _=>by
   show kx.b0 _ _ _ _ _=_;unfold kx.b0;simp only[aY,aI,aE]
   rfl) s ⟨h,by omega⟩ k Bys
 rw[PK] at this;refine aV this ?_;grind
theorem Uo (rows:List Row) (xs:List Tx) (h:Good rows) (hl:rows.length<=12) (hx:ww xs):nt.ab (rows,xs,())=some (match gi rows (rR xs) with | some t=>(t,true,()) | none=>(([]:List Row),false,())):=by
 refine ag (k:=10) λk hk=>(nt.af k _).trans ?_;unfold nt.p;have hc:([]:List Row).length+rows.length<=be:=cr (by grind);rw[aH hc,cJ];have hx4:=hx.len
 have:=cy (B:=λself v=>nt.b0 self (λz=>nt.q0 (rows,xs,()) z) (rows,xs,()) v) xs (λ(s:List Row) (i:Int)=>(s,i)) (λ_ s x=>match gi s (e8 x.2.1) with | some t=>.inr t | none=>.inl (([]:List Row),false,())) (λs=>(s,true,())) (λi t=>Good t/\t.length<=12+12*i) (by rw[an];omega)
  (λi hi t self hI=>by
   show nt.b0 _ _ _ _=_;unfold nt.b0;have bc:(i:Int) < (xs.length:Int):=by omega
   have hu:=hx.sE _ (aJ hi);simp only[bc,aP,aM,aR,aL,aD,aB hi,aA];rw[DO t _ hI.1 (hx.ch _ (aJ hi)) Bys]
   grind)
  (λi hi t t' hI hs=>by
   have hu:=hx.sE _ (aJ hi)
   cases hb:gi t (e8 (xs[i]).2.1) with
   | none=>grind
   | some q=>
    rw[hb] at hs;injection hs with hs;subst hs;have:=uK _ _ _ hI.1 (o_ (hx.ch _ (aJ hi))) hb
    grind [x_]) (λt self _=>by
   show nt.b0 _ _ _ _=_;unfold nt.b0;simp only[aY,aI,aE]
   rfl) rows ⟨h,by omega⟩ k Bys
 rw[Hj] at this;refine aV this ?_;grind
theorem S5 (rows:List Row) (xs:List Tx) (h:Good rows) (hl:rows.length<=12) (hx:ww xs) (ht:pM xs):lu.ab (rows,xs,())=some (match gi rows (rR xs) with | some t=>(t,(0:Int),()) | none=>(([]:List Row),(8:Int),())):=by
 refine ag (k:=10) λk hk=>(lu.af k _).trans ?_;unfold lu.p;have hx4:=hx.len
 have:=cy (B:=λself v=>lu.b0 self (λz=>lu.q0 (rows,xs,()) z) (rows,xs,()) v) xs (λ(s:List Row) (i:Int)=>(s,i)) (λ_ s x=>match gi s (e8 x.2.1) with | some t=>.inr t | none=>.inl (([]:List Row),(8:Int),())) (λs=>(s,(0:Int),())) (λi t=>Good t/\t.length<=12+12*i) (by rw[an];omega)
  (λi hi t self hI=>by
   show lu.b0 _ _ _ _=_;unfold lu.b0;have bc:(i:Int) < (xs.length:Int):=by omega
   have hu:=hx.sE _ (aJ hi);have po:=o_ (hx.ch _ (aJ hi));have htl:=ht.2 _ (aJ hi);simp only[bc,aP,aM,aR,aL,aD,aB hi,aA];rw[Hg _ htl.1];simp only[aA];have Ii:=x_ (xs[i]).2.1;rw[IE t _ (by rw[an];omega) (VN hI.1) Bys (I2 htl.2.2.2),Nf hI.1 po Bys]
   grind)
  (λi hi t t' hI hs=>by
   have hu:=hx.sE _ (aJ hi)
   cases hb:gi t (e8 (xs[i]).2.1) with
   | none=>grind
   | some q=>
    rw[hb] at hs;injection hs with hs;subst hs;have:=uK _ _ _ hI.1 (o_ (hx.ch _ (aJ hi))) hb
    grind [x_]) (λt self hI=>by
   grind [lu.b0,lu.q0,ES]) rows ⟨h,by omega⟩ k Bys
 rw[Hj] at this;refine aV this ?_;grind
def wy (n:Int) (xs:List Tx):Bool:=match xs[xs.length - 1]? with
 | some x=>decide (n<=x.1)
 | none=>false
def gq (p:Plain):Int:=
 if nk p.1=0 then
  if mQ p.2.1=0 then
   if dr p.2.2.1 1 100&&!wy p.2.2.1 p.2.1 then
    if 12 < rQ p.1 p.2.1 then 2 else (match gi p.1 (rR p.2.1) with | some _=>0 | none=>8)
   else 3
  else mQ p.2.1
 else nk p.1
def Cg (p:Plain):Prop:=List.length p.1<=1048576/\(∀ x ∈ (p.1:List Row),rl x)/\pM p.2.1
theorem VO {O:Type} (n:Int) (xs:List Tx) (hl:xs.length<=1048576) (bad j:Option O) :
  (bif decide ((0:Int) < (xs.length:Int)) then (if 0<=ae ((xs.length:Int) - (1:Int)) then ((xs[(ae ((xs.length:Int) - (1:Int))).toNat]?).bind λx5=>bif decide (n<=x5.1) then bad else j) else none) else j)=if wy n xs then bad else j:=by
 grind [wy,bf,Int.toNat_natCast]
theorem Ah (p:Plain) (h:Cg p):mw.ab (p,())=some (gq p,()):=by
 obtain ⟨rows,xs,n,⟨⟩⟩:=p;obtain ⟨h1,h2,h3⟩:=h;simp only at h1 h2 h3;refine ag (k:=0) λk _=>(mw.af k _).trans ?_;show mw.p _=_;unfold mw.p gq;simp only[ER rows (by rw[an];omega) h2,He xs h3,rJ,PJ rows xs h1 h3,aA];by_cases hr:nk rows=0;rotate_left
 ·grind
 by_cases ht:mQ xs=0;rotate_left
 ·grind
 obtain ⟨hg,_⟩:=uF hr;have a_:=ru ht;simp only[hr,ht,aP,aW,aE,aL];have gb:(decide ((1:Int)<=n)&&decide (n<=100))=dr n 1 100:=rfl;rw[gb]
 cases dr n 1 100 with
 | false=>rfl
 | true=>
  simp only[aW,aE,eB];rw[VO n xs h3.1]
  cases wy n xs with
  | true=>rfl
  | false=>
   simp only[bO,aF,aU,aL];have hlen:(kY (dd [] (nX rows xs))).length=rQ rows xs:=by simp[kY,rQ]
   by_cases zI:12 < rQ rows xs
   ·grind
   ·have:¬ (12:Int) < ((kY (dd [] (nX rows xs))).length:Int):=by grind
    have vv:rows.length<=12:=by
     have:=BG (xs:=xs) hg.up;grind [rQ]
    grind [S5]
theorem DP (p:Plain) (h:Cg p):rE.ab (p,())=some (gq p,()):=by
 obtain ⟨rows,xs,n,⟨⟩⟩:=p;obtain ⟨h1,h2,h3⟩:=h;simp only at h1 h2 h3;refine ag (k:=0) λk _=>(rE.af k _).trans ?_;show rE.p _=_;unfold rE.p gq;simp only[Kq rows (by rw[an];omega) h2,Nc xs h3,o5,aA];by_cases hr:nk rows=0;rotate_left
 ·grind
 by_cases ht:mQ xs=0;rotate_left
 ·grind
 obtain ⟨hg,_⟩:=uF hr;have a_:=ru ht;have afy:=Un rows xs h1 (by have:=a_.len;omega) (λx hx=>by have:=a_.Hf x hx;omega);simp only[hr,ht,aP,aW,aE,aL,afy,aA];have gb:(decide ((1:Int)<=n)&&decide (n<=100))=dr n 1 100:=rfl;rw[gb]
 cases dr n 1 100 with
 | false=>rfl
 | true=>
  simp only[aW,aE,eB];rw[VO n xs h3.1]
  cases wy n xs with
  | true=>rfl
  | false=>
   simp only[bO,aF,aU,aL];by_cases zI:12 < rQ rows xs
   ·grind
   ·have:¬ (12:Int) < (rQ rows xs:Int):=by omega
    have vv:rows.length<=12:=by
     have:=BG (xs:=xs) hg.up;grind [rQ]
    grind [Uo]
theorem Ev {c:Change} (hc:lg c=0) (h:c.1=true):rk c.2.1=ck c:=by
 unfold lg at hc;rw[h] at hc;unfold ck
 cases hi:c.2.2.1 with
 | false=>rfl
 | true=>
  rw[hi] at hc;simp only[aW,iC,iL,eB,dQ] at hc;split at hc
  ·cases hc
  ·rename_i hn;have hs:sameKey c.2.1 c.2.2.2.1=true:=by simpa using hn
   rw[GY] at hs;exact fD hs
theorem aab (x:Row):Ty.eq ay x x=true:=by
 have e:Ty.eq ay x x=(decide (x.1=x.1)&&(decide (x.2.1=x.2.1)&&(decide (x.2.2.1=x.2.2.1)&&(decide (x.2.2.2.1=x.2.2.2.1)&&true)))):=rfl;rw[e];simp
theorem DQ {xs:List Row} (hu:up xs) {c:Change} (hc:lg c=0):sK xs c=true↔(if c.1=true then c.2.1 ∈ xs else ∀ r ∈ xs,rk r≠ck c):=by
 unfold sK
 cases hw:c.1 with
 | true=>
  have hk:=Ev hc hw;rw[aH rfl];constructor
  ·intro h;simp only[aC,jG] at h;obtain ⟨h1,h2⟩:=h;obtain ⟨hp,_⟩:=wK h1;rw[h1,aB hp] at h2;simp only[aW,dQ] at h2;have:=ZY h2;rw[<-this];exact aJ hp
  ·intro h;obtain ⟨i,hi,hx⟩:=bL h;obtain ⟨f1,f2⟩:=BF hu hi (k:=ck c) (by rw[hx];exact hk);rw[f1,f2,aB hi,hx];simp[aab]
 | false=>
  rw[aN (by decide)];constructor
  ·intro h r hr he;obtain ⟨i,hi,hx⟩:=bL hr;have f1:=(BF hu hi (k:=ck c) (by rw[hx];exact he)).1;rw[f1] at h;simp at h
  ·intro h
   have:oQ xs (ck c)=false:=by
    cases hf:oQ xs (ck c) with
    | false=>rfl
    | true=>
     obtain ⟨y,hy,hk⟩:=Vt hf;exact absurd hk (h y hy)
   rw[this];rfl
def agree (K:Int×Int->Prop) (s s':List Row):Prop:=∀ r,K (rk r)->(r ∈ s↔r ∈ s')
theorem XN {K:Int×Int->Prop} {s s':List Row} (hs:up s) (O_:up s') (h:agree K s s') (c:Change):agree K (nC s c) (nC s' c):=λr hr=>by
 rw[wt hs,wt O_,h r hr]
theorem XO {K:Int×Int->Prop} {s s':List Row} (hs:up s) (O_:up s') (h:agree K s s') {c:Change} (hc:lg c=0) (hk:K (ck c)) (hf:sK s c=true):sK s' c=true:=by
 rw[DQ hs hc] at hf;rw[DQ O_ hc];by_cases hw:c.1=true
 ·rw[aH hw] at hf ⊢;exact (h _ (by rw[Ev hc hw];exact hk)).1 hf
 ·rw[aN hw] at hf ⊢;exact λr hr he=>hf r ((h r (by rw[he];exact hk)).2 hr) he
theorem Ai {K:Int×Int->Prop}:∀ (cs:List Change) (s s' t:List Row),Good s->Good s'->(∀ c ∈ cs,lg c=0)->(∀ c ∈ cs,K (ck c))->agree K s s'->gi s cs=some t->∃ t',gi s' cs=some t'
 | [],s,s',t,_,_,_,_,_,_=>⟨s',rfl⟩
 | c::cs,s,s',t,hs,O_,hc,hk,h,hb=>by
  simp only[gi] at hb ⊢;split at hb
  ·rename_i hf;have zJ:=hc c bF;rw[aH (XO hs.1 O_.1 h zJ (hk c bF) hf)];exact Ai cs _ _ t (rL hs zJ) (rL O_ zJ) (λd hd=>hc d (bA _ hd)) (λd hd=>hk d (bA _ hd)) (XN hs.1 O_.1 h c) hb
  ·cases hb
theorem Aj:∀ (cs:List Change) (s t:List Row),Good s->(∀ c ∈ cs,lg c=0)->gi s cs=some t->agree (λk=>∀ c ∈ cs,ck c≠k) s t
 | [],s,t,_,_,hb=>by injection hb with hb;subst hb;exact λr _=>iH
 | c::cs,s,t,hs,hc,hb=>by
  simp only[gi] at hb;split at hb
  ·have zJ:=hc c bF;have ih:=Aj cs _ t (rL hs zJ) (λd hd=>hc d (bA _ hd)) hb;intro r hr;rw[<-ih r λd hd=>hr d (bA _ hd),wt hs.1];constructor
   ·exact λh=>.inl ⟨h,λe=>hr c bF e.symm⟩
   ·rintro (h | ⟨hi,rfl⟩)
    ·exact h.1
    ·exact absurd ((pw zJ).1 hi).symm (hr c bF)
  ·cases hb
theorem abQ {rows:List Row} {xs:List Tx} {t:List Row} (hg:Good rows) (hc:∀ x ∈ xs,∀ c ∈ (x.2.1:List Change),lg c=0) (hb:gi rows (rR xs)=some t) {i:Nat} (hi:i < xs.length)
  (hd:∀ j (hj:j < i),∀ c ∈ e8 xs[j].2.1,∀ d ∈ e8 xs[i].2.1,ck c≠ck d):∃ t',gi rows (e8 xs[i].2.1)=some t':=by
 have hx:xs=xs.take i++xs[i]::xs.drop (i+1):=by rw[fJ,cA]
 have hbk:rR xs=rR (xs.take i)++(e8 xs[i].2.1++rR (xs.drop (i+1))):=by
  conv=>lhs;rw[hx]
  unfold rR;rw[eG,dU]
 rw[hbk,back_append] at hb
 have hcp:∀ c ∈ rR (xs.take i),lg c=0:=λc h=>by
  unfold rR at h;obtain ⟨x,hx,hm⟩:=cM.1 h;exact o_ (hc x (cX hx)) c hm
 cases h1:gi rows (rR (xs.take i)) with
 | none=>rw[h1] at hb;cases hb
 | some s1=>
  rw[h1,aA,back_append] at hb
  cases h2:gi s1 (e8 xs[i].2.1) with
  | none=>rw[h2] at hb;cases hb
  | some s2=>
   have hf:=Aj _ rows s1 hg hcp h1;refine Ai (K:=λk=>∀ c ∈ rR (xs.take i),ck c≠k) _ s1 rows s2 (uK _ _ _ hg hcp h1).1 hg (o_ (hc _ (aJ hi))) (λd hd2 c D7=>?_) (λr hr=>(hf r hr).symm) h2;unfold rR at D7;obtain ⟨x,hx,hm⟩:=cM.1 D7;obtain ⟨j,hj,hxj⟩:=bL hx;rw[dG] at hj;rw[iK] at hxj;subst hxj;exact hd j Bys c hm d hd2
theorem inv_split (cs:List Change) (n:Nat):e8 cs=e8 (cs.drop n)++e8 (cs.take n):=by
 unfold e8;rw[<-fK,<- gT,cA]
theorem PL {rows:List Row} {cs:List Change} {t:List Row} (h:gi rows (e8 cs)=some t) (n:Nat):∃ t',gi rows (e8 (cs.drop n))=some t':=by
 rw[inv_split cs n,back_append] at h
 cases h1:gi rows (e8 (cs.drop n)) with
 | none=>rw[h1] at h;cases h
 | some s=>exact ⟨s,rfl⟩
def sc (xs:List Tx) (t:Int):Int:=wI (λx=>decide (x.1=t)) 0 xs
theorem jc (xs:List Tx) (t:Int) (h:xs.length<=1048576):lU.ab (xs,t,())=some (sc xs t,()):=by
 refine ag (k:=xs.length+1) λk hk=>(lU.af k _).trans ?_
 have:=cy (B:=λself v=>lU.b0 self (λz=>lU.q0 (xs,t,()) z) (xs,t,()) v) xs (λ(_:Unit) (i:Int)=>i) (λi _ x=>if decide (x.1=t) then .inl ((i:Int),()) else .inr ()) (λ_=>((-1:Int),())) (λ_ _=>True) (by rw[an];omega)
  (λi hi s self _=>by
   show lU.b0 _ _ _ _=_;unfold lU.b0;have bc:(i:Int) < (xs.length:Int):=by omega
   simp only[bc,aP,aM,aR,aL,aD,aB hi,aA]
   cases decide ((xs[i]).1=t) <;> rfl)
  (λ_ _ _ _ _ _=>trivial) (λs self _=>by
   show lU.b0 _ _ _ _=_;unfold lU.b0;simp only[aY,aI,aE]
   rfl) () trivial k Bys
 rw[Cv] at this;exact this
theorem BH (xs:List Tx) (t:Int) (h:xs.length<=1048576):nM.ab (xs,t,())=some (sc xs t,()):=by
 have h1:∀ x:Tx,wQ.ab (x,t,())=some (decide (x.1=t),()):=λx=>by
  refine ag (k:=0) λk _=>(wQ.af k _).trans ?_;rfl
 have h2:∀ m:Nat,jj.ab (xs,((m,t):Nat×Int),())=some (sc xs t,()):=λm=>by
  refine ag (k:=xs.length+1) λk hk=>(jj.af k _).trans ?_
  have:=cy (B:=λself v=>jj.b0 self (λz=>jj.q0 (xs,((m,t):Nat×Int),()) z) (xs,((m,t):Nat×Int),()) v) xs (λ(_:Unit) (i:Int)=>i) (λi _ x=>if decide (x.1=t) then .inl ((i:Int),()) else .inr ()) (λ_=>((-1:Int),())) (λ_ _=>True) (by rw[an];omega)
   (λi hi s self _=>by
    show jj.b0 _ _ _ _=_;unfold jj.b0;have bc:(i:Int) < (xs.length:Int):=by omega
    simp only[bc,aP,aM,aR,aL,aD,aB hi,aA,h1]
    cases decide ((xs[i]).1=t) <;> rfl)
   (λ_ _ _ _ _ _=>trivial) (λs self _=>by
    show jj.b0 _ _ _ _=_;unfold jj.b0;simp only[aY,aI,aE]
    rfl) () trivial k Bys
  rw[Cv] at this;exact this
 refine ag (k:=0) λk _=>(nM.af k _).trans ?_;show nM.p _=_;unfold nM.p;rw[h2];rfl
def qJ (k:Int):Bool:=decide (k=2)||(decide (k=3)||decide (k=4))
def Hk (k:Int):Bool:=decide (k=1)||decide (k=9)
abbrev Ew:Row:=((0:Int),(0:Int),(0:Int),([]:List UInt8),())
abbrev noChange:Change:=(false,Ew,false,Ew,())
def qK (o:Op):Int:=
 if !dr o.1 1 9||(Hk o.1&&!decide (o.2.1=0))||(!qJ o.1&&!Ty.eq ay o.2.2.1 ((0:Int),(0:Int),(0:Int),([]:List UInt8),()))||(!decide (o.1=6)&&!decide (o.2.2.2.1=0))||(decide (o.1=4)&&!(decide (o.2.2.1.2.2.1=0)&&decide (o.2.2.1.2.2.2.1=([]:List UInt8)))) then 1
 else if (!Hk o.1&&!dr o.2.1 1 99)||!dr o.2.2.2.1 0 7 then 3
 else if qJ o.1 then gz o.2.2.1 else 0
theorem abR (k:Int):se.ab (k,())=some (qJ k,()):=by
 refine ag (k:=0) λf _=>(se.af f _).trans ?_;grind [se.p,qJ]
theorem I3 (k:Int):ox.ab (k,())=some (qJ k,()):=by
 refine ag (k:=0) λf _=>(ox.af f _).trans ?_;show ox.p _=_;unfold ox.p qJ;simp only[o5,aA];congr 2;grind
theorem XP (o:Op) (h:rl o.2.2.1):sx.ab (o,())=some (qK o,()):=by
 refine ag (k:=0) λf _=>(sx.af f _).trans ?_;show sx.p _=_;unfold sx.p qK Hk dr;simp only[rJ,Og,abR,z8 _ h,aA];grind
theorem Up (o:Op):sA.ab (o,())=some (!(!dr o.1 1 9||(Hk o.1&&!decide (o.2.1=0))||(!qJ o.1&&!Ty.eq ay o.2.2.1 ((0:Int),(0:Int),(0:Int),([]:List UInt8),()))||(!decide (o.1=6)&&!decide (o.2.2.2.1=0))||(decide (o.1=4)&&!(decide (o.2.2.1.2.2.1=0)&&decide (o.2.2.1.2.2.2.1=([]:List UInt8))))),()):=by
 refine ag (k:=0) λf _=>(sA.af f _).trans ?_;show sA.p _=_;unfold sA.p Hk dr;have h4:decide (o.1=4)=true->qJ o.1=true:=λh=>by grind [qJ]
 simp only[o5,I3,aA];generalize (decide ((1:Int)<=o.1)&&decide (o.1<=9))=b1;generalize decide (o.1=1)=b2;generalize decide (o.1=9)=b3;generalize decide (o.1=4)=b4 at *;generalize decide (o.1=6)=b5;generalize qJ o.1=b6 at *;generalize decide (o.2.1=0)=b7;generalize Ty.eq ay o.2.2.1 ((0:Int),(0:Int),(0:Int),([]:List UInt8),())=b8;generalize decide (o.2.2.2.1=0)=b9;generalize decide (o.2.2.1.2.2.1=0)=c1;generalize decide (o.2.2.1.2.2.2.1=([]:List UInt8))=c2;cases b1
 ·rfl
 cases b4
 ·cases b2 <;> cases b3 <;> cases b7 <;> cases b6 <;> cases b8 <;> cases b5 <;> cases b9 <;> rfl
 ·have:=h4 rfl;subst this;cases b2 <;> cases b3 <;> cases b7 <;> cases b8 <;> cases b5 <;> cases b9 <;> cases c1 <;> cases c2 <;> rfl
theorem aac (o:Op) (h:rl o.2.2.1):uz.ab (o,())=some (qK o,()):=by
 refine ag (k:=0) λf _=>(uz.af f _).trans ?_;show uz.p _=_;unfold uz.p qK;rw[Up];simp only[aA];generalize (!dr o.1 1 9||(Hk o.1&&!decide (o.2.1=0))||(!qJ o.1&&!Ty.eq ay o.2.2.1 ((0:Int),(0:Int),(0:Int),([]:List UInt8),()))||(!decide (o.1=6)&&!decide (o.2.2.2.1=0))||(decide (o.1=4)&&!(decide (o.2.2.1.2.2.1=0)&&decide (o.2.2.1.2.2.2.1=([]:List UInt8)))))=b0;unfold Hk dr;simp only[o5,I3,z7 _ h,aA];grind
theorem JX {o:Op} (h:qK o=0) (hr:qJ o.1=true):gz o.2.2.1=0:=by
 grind [qK]
theorem I4 {o:Op} (h:qK o=0):dr o.1 1 9=true/\dr o.2.2.2.1 0 7=true:=by
 grind [qK]
def Lw (c:Change) (x:Row):Bool:=decide (x.1=(ck c).2)&&(!decide (x.1=0)&&(!c.2.2.1||decide (c.2.2.2.1.2.2.1 < (List.length x.2.2.2.1:Int))))
def S6 (xs:List Row) (c:Change):Int:=
 if c.2.2.1&&(!dr (ck c).2 1 3||(decide (8 < c.2.2.2.1.2.2.1)||!decide (c.2.2.2.1.2.2.2.1=([]:List UInt8)))) then 10 else if xs.any (Lw c) then 8 else 0
def Ak (xs:List Row) (t:Int):Int×Bool:=match xs.find? λx=>decide (x.1=0)&&decide (x.2.1=t) with
 | some x=>(x.2.2.1,true)
 | none=>(0,false)
def I5 (xs:List Row) (c:Change):Int:=
 if (ck c).1=0 then S6 xs c else if c.2.2.1 then (if (Ak xs (ck c).1).2 then (if (Ak xs (ck c).1).1 < (List.length c.2.2.2.1.2.2.2.1:Int) then 10 else 0) else 4) else 0
theorem XQ (xs:List Row) (c:Change) (hl:xs.length<=1048576):lA.ab (xs,c,())=some (S6 xs c,()):=by
 refine ag (k:=1048577) λk hk=>(lA.af k _).trans ?_;unfold lA.p
 have lp:lA.r0 k (xs,c,()) (ck c).2 (0:Int)=some (if xs.any (Lw c) then 8 else 0,()):=by
  have:=cy (B:=λself v=>lA.b0 self (λz=>lA.q0 (xs,c,()) (ck c).2 z) (xs,c,()) (ck c).2 v) xs (λ(_:Unit) (i:Int)=>i) (λ_ _ x=>if Lw c x then .inl ((8:Int),()) else .inr ()) (λ_=>((0:Int),())) (λ_ _=>True) (by rw[an];omega)
   (λi hi s self _=>by
    grind [lA.b0,Lw])
   (λ_ _ _ _ _ _=>trivial) (λs self _=>by
    show lA.b0 _ _ _ _ _=_;unfold lA.b0;simp only[aY,aI,aE]
    rfl) () trivial k Bys
  rw[uW] at this;refine aV this ?_;grind
 grind [z_,o5,S6,dr]
theorem Uq (xs:List Row) (c:Change) (hl:xs.length<=1048576):kG.ab (xs,c,())=some (S6 xs c,()):=by
 refine ag (k:=1048577) λk hk=>(kG.af k _).trans ?_;unfold kG.p
 have lp:kG.r0 k (xs,c,()) (0:Int)=some (if xs.any (Lw c) then 8 else 0,()):=by
  have:=cy (B:=λself v=>kG.b0 self (λz=>kG.q0 (xs,c,()) z) (xs,c,()) v) xs (λ(_:Unit) (i:Int)=>i) (λ_ _ x=>if Lw c x then .inl ((8:Int),()) else .inr ()) (λ_=>((0:Int),())) (λ_ _=>True) (by rw[an];omega)
   (λi hi s self _=>by
    grind [kG.b0,Lw,zh,xV])
   (λ_ _ _ _ _ _=>trivial) (λs self _=>by
    show kG.b0 _ _ _ _=_;unfold kG.b0;simp only[aY,aI,aE]
    rfl) () trivial k Bys
  rw[uW] at this;refine aV this ?_;grind
 grind [rJ,S6,dr,ck]
theorem XR (xs:List Row) (t:Int) (hl:xs.length<=1048576):oV.ab (xs,t,())=some ((Ak xs t).1,(Ak xs t).2,()):=by
 refine ag (k:=1048577) λk hk=>(oV.af k _).trans ?_
 have:=cy (B:=λself v=>oV.b0 self (λz=>oV.q0 (xs,t,()) z) (xs,t,()) v) xs (λ(_:Unit) (i:Int)=>i) (λ_ _ x=>if decide (x.1=0)&&decide (x.2.1=t) then .inl (x.2.2.1,true,()) else .inr ()) (λ_=>((0:Int),false,())) (λ_ _=>True) (by rw[an];omega)
  (λi hi s self _=>by
   grind [oV.b0])
  (λ_ _ _ _ _ _=>trivial) (λs self _=>by
   show oV.b0 _ _ _ _=_;unfold oV.b0;simp only[aY,aI,aE]
   rfl) () trivial k Bys
 refine aV this ?_
 have main:∀ (xs:List Row) (i:Nat),bu (λ_ (_:Unit) x=>if decide (x.1=0)&&decide (x.2.1=t) then .inl (x.2.2.1,true,()) else .inr ()) (λ_=>((0:Int),false,())) i xs ()=((Ak xs t).1,(Ak xs t).2,()):=by
  intro xs
  induction xs <;> grind [bu,Ak]
 rw[main]
theorem VP {xs:List Row} (hu:up xs) (t:Int):Ak xs t=if oQ xs (0,t) then ((xs[pos xs (0,t)]?.map λx=>x.2.2.1).getD 0,true) else (0,false):=by
 have key:(λx:Row=>decide (x.1=0)&&decide (x.2.1=t))=λx=>decide (rk x=(0,t)):=by
  grind [rk]
 unfold Ak;rw[key]
 cases hf:oQ xs (0,t) with
 | true=>
  obtain ⟨hp,he⟩:=wK hf
  have:xs.find? (λx=>decide (rk x=(0,t)))=some xs[pos xs (0,t)]:=by
   rw[List.find?_eq_some_iff_getElem];refine ⟨by simp[he],pos xs (0,t),hp,rfl,λj hj=>?_⟩
   have:=Dx xs (0,t) j Bys hj;grind [wl]
  grind
 | false=>
  have:xs.find? (λx=>decide (rk x=(0,t)))=none:=by
   rw[eY];intro x hx;simp only[bE];intro e;obtain ⟨i,hi,rfl⟩:=dD.1 hx
   have h1:oQ xs (0,t)=true:=by
    rcases Nat.lt_trichotomy (pos xs (0,t)) i with h | h | h
    ·grind [Ab,up,List.pairwise_iff_getElem]
    ·grind [oQ]
    ·exfalso;have:=Dx xs (0,t) i hi h;grind [wl]
   grind
  rw[this];rfl
theorem Ur (xs:List Row) (t:Int) (hu:up xs) (hl:xs.length<=1048576) (hv:∀ x ∈ xs,0<=x.2.2.1):rW.ab (xs,t,())=some (if (Ak xs t).2 then (Ak xs t).1 else -1,()):=by
 refine ag (k:=0) λk hk=>(rW.af k _).trans ?_;grind [rW.p,ID,VP,BC,wK]
theorem abS (xs:List Row) (c:Change) (hl:xs.length<=1048576):ux.ab (xs,c,())=some (I5 xs c,()):=by
 refine ag (k:=0) λk hk=>(ux.af k _).trans ?_;grind [ux.p,I5,ck,zh,xV,Uq,XR]
theorem XS (xs:List Row) (c:Change) (hu:up xs) (hl:xs.length<=1048576) (hv:∀ x ∈ xs,0<=x.2.2.1):uA.ab (xs,c,())=some (I5 xs c,()):=by
 refine ag (k:=0) λk hk=>(uA.af k _).trans ?_;show uA.p _=_;unfold uA.p I5;simp only[z_,XQ xs c hl,Ur xs _ hu hl hv,aA];grind [VP]
def Al (k l:Key):Bool:=decide (l=k)||((decide (l.1=0)&&decide (l.2.1=k.1))||(decide (k.1=0)&&decide (l.1=k.2.1)))
def CD (xs:List Tx) (t:Int) (k:Key):Bool:=xs.any λx=>!decide (x.1=t)&&x.2.2.2.1.any (Al k)
theorem Us (xs:List Tx) (t:Int) (k0:Key) (h:pM xs):jg.ab (xs,t,k0,())=some (CD xs t k0,()):=by
 obtain ⟨h1,h2⟩:=h;refine ag (k:=1048577) λk hk=>(jg.af k _).trans ?_
 have inner:∀ (self:((List Tx)×Int×Key×Int)->Option jg.O) (e0:(Unit)->Option jg.O) (i:Nat) (hi:i < xs.length),jg.r1 k self e0 (xs,t,k0,()) xs t k0 (i:Int) (0:Int)=if (xs[i]).2.2.2.1.any (Al k0) then some (true,()) else self (xs,t,k0,ae ((i:Int)+1)):=λself e0 i hi=>by
  have Na:=(h2 _ (aJ hi)).2.2.1
  have:=ff (B:=λko v=>jg.b1 ko (λz=>jg.q0 self e0 (xs,t,k0,()) xs t k0 (i:Int) z) (xs,t,k0,()) xs t k0 (i:Int) v) (xs[i]).2.2.2.1 (λ(_:Unit) (j:Int)=>j) (λ_ _ l=>if Al k0 l then .inl (some (true,())) else .inr ()) (λ_=>self (xs,t,k0,ae ((i:Int)+1))) (λ_ _=>True) (by rw[an];omega)
   (λj hj s ko _=>by
    grind [jg.b1,Al,Int.natCast_nonneg,Int.toNat_natCast,Ba])
   (λ_ _ _ _ _ _=>trivial) (λs ko _=>by
    show jg.b1 _ _ _ _ _ _ _ _=_;unfold jg.b1;simp only[aR,aL,aD,aB hi,aA,aY,aI,aE]
    rfl) () trivial k Bys
  rw[uW] at this;exact this
 have:=ff (B:=λself v=>jg.B0 k self (λz=>jg.q1 (xs,t,k0,()) z) (xs,t,k0,()) v) xs (λ(_:Unit) (i:Int)=>(xs,t,k0,i)) (λ_ _ x=>if !decide (x.1=t)&&x.2.2.2.1.any (Al k0) then .inl (some (true,())) else .inr ()) (λ_=>some (false,())) (λ_ _=>True) (by rw[an];omega)
  (λi hi s self _=>by
   show jg.b0 _ _ _ _ _=_
   grind [jg.b0])
  (λ_ _ _ _ _ _=>trivial) (λs self _=>by
   show jg.b0 _ _ _ _ _=_;unfold jg.b0;simp only[aY,aI,aE]
   rfl) () trivial k Bys
 rw[uW] at this;refine aV this ?_;grind [CD]
def co (rows:List Row) (o:Op):Change×Int:=
 let k:=(o.2.2.1.1,o.2.2.1.2.1)
 if decide (o.1=2)&&oQ rows k then (noChange,6)
 else if !decide (o.1=2)&&!oQ rows k then (noChange,4)
 else ((oQ rows k,(if oQ rows k then (rows[pos rows k]?).getD Ew else Ew),!decide (o.1=4),(if decide (o.1=4) then Ew else o.2.2.1),()),0)
theorem Ut (rows:List Row) (o:Op) (hu:up rows) (hl:rows.length<=1048576):qt.ab (rows,o,())=some ((co rows o).1,(co rows o).2,()):=by
 refine ag (k:=0) λk hk=>(qt.af k _).trans ?_;show qt.p _=_;unfold qt.p co;rw[ID rows _ _ hu Bys];simp only[aA];unfold BC;grind [wK]
theorem adI {x:Row} (h:gz x=0):0<=x.2.2.1:=by
 grind [gz,dr]
abbrev nG (c:Int):b_:=(c,false,noChange,())
def sY (rows:List Row) (xs:List Tx) (o:Op):b_:=
 let k:Key:=(o.2.2.1.1,o.2.2.1.2.1,())
 if CD xs o.2.1 k then nG 7
 else if (co rows o).2=0 then
  if I5 rows (co rows o).1=0 then
   if decide (12 < yH rows xs k)||decide (12<=pF xs) then nG 9
   else if (co rows o).1.1&&((co rows o).1.2.2.1&&Ty.eq ay (co rows o).1.2.1 (co rows o).1.2.2.2.1) then nG 0
   else (0,true,(co rows o).1,())
  else nG (I5 rows (co rows o).1)
 else nG (co rows o).2
theorem Lx (c:Int):jn.ab (c,())=some (nG c,()):=by
 refine ag (k:=0) λk hk=>(jn.af k _).trans ?_;rfl
theorem Qh (rows:List Row) (xs:List Tx) (o:Op) (hg:Good rows) (hl:rows.length<=60) (ht:pM xs) (hx:ww xs):nV.ab (rows,xs,o,())=some (sY rows xs o,()):=by
 refine ag (k:=0) λk hk=>(nV.af k _).trans ?_;show nV.p _=_;unfold nV.p sY;have hx4:=hx.len;have hv:∀ x ∈ rows,0<=x.2.2.1:=λx hm=>adI (hg.ok x hm);simp only[Us xs _ _ ht,Lx,Ut rows o hg.up Bys,XS rows _ hg.up Bys hv,I0 rows xs _ Bys Bys (λx hm=>by have:=hx.Hf x hm;omega),IX xs ht,aA];grind
def Ng (rows:List Row) (xs:List Tx) (k:Key) (c:Change):b_:=
 if I5 rows c=0 then
  if decide (12 < yH rows xs k)||decide (12<=pF xs) then nG 9
  else if c.1&&(c.2.2.1&&Ty.eq ay c.2.1 c.2.2.2.1) then nG 0
  else (0,true,c,())
 else nG (I5 rows c)
theorem Uu (rows:List Row) (xs:List Tx) (o:Op):sY rows xs o=if CD xs o.2.1 (o.2.2.1.1,o.2.2.1.2.1,()) then nG 7 else if (co rows o).2=0 then Ng rows xs (o.2.2.1.1,o.2.2.1.2.1,()) (co rows o).1 else nG (co rows o).2:=rfl
theorem abT (rows:List Row) (xs:List Tx) (kk:Key) (hk:¬ kk.2.1=0) (hl:rows.length<=1048576) (ht:pM xs) (c:Change):((ux.ab (rows,c,())).bind λMM=>bif !decide (MM.1=(0:Int)) then (some (nG MM.1,())) else (dx.ab (rows,xs,())).bind λXc=>bif decide ((12:Int) < ((oU bk Xc.1 kk true).length:Int)) then (some (nG 9,())) else (kg.ab (xs,())).bind λXd=>bif decide ((12:Int)<=Xd.1) then (some (nG 9,())) else bif c.1 then (bif c.2.2.1 then (bif (Ty.eq ay c.2.1 c.2.2.2.1) then (some (nG 0,())) else some (((0:Int),true,c,()),())) else some (((0:Int),true,c,()),())) else some (((0:Int),true,c,()),()))=some (Ng rows xs kk c,()):=by
 unfold Ng
 have hr:(oU bk (kY (dd [] (nX rows xs))) kk true).length=yH rows xs kk:=by
  have h1:oU bk (kY (dd [] (nX rows xs))) kk true=kY (dd [] (nX rows xs++[kk])):=by
   refine (SX _ _).trans ?_;rw[PI];rfl
  rw[h1];unfold yH Eu;rw[aN hk];exact jC ..
 grind [abS,PJ,DL]
theorem S7 (rows:List Row) (xs:List Tx) (o:Op) (hg:Good rows) (hl:rows.length<=60) (ht:pM xs) (hx:ww xs) (hk:¬ o.2.2.1.2.1=0):cz.ab (rows,xs,o,())=some (sY rows xs o,()):=by
 refine ag (k:=1048577) λk oC=>(cz.af k _).trans ?_;rw[Uu]
 have hq:∀ (k:Nat),cz.q1 (rows,xs,o,()) (rows,xs,o,nG 0,(o.2.2.1.1,o.2.2.1.2.1,()))=some (if (co rows o).2=0 then Ng rows xs (o.2.2.1.1,o.2.2.1.2.1,()) (co rows o).1 else nG (co rows o).2,()):=λk=>by
  show cz.q1 _ _=_;unfold cz.q1 co;have hs:=λf:Nat×Int=>IC rows o.2.2.1 f hg.up Bys;have e:rk o.2.2.1=(o.2.2.1.1,o.2.2.1.2.1):=rfl;simp only[e] at hs;have tl:=abT rows xs (o.2.2.1.1,o.2.2.1.2.1,()) hk Bys ht;simp only[hs,aA];generalize decide (o.1=2)=d2;generalize decide (o.1=4)=d4
  cases hf:oQ rows (o.2.2.1.1,o.2.2.1.2.1) with
  | false=>
   cases d2
   ·rfl
   ·cases d4
    all_goals grind
  | true=>
   obtain ⟨hp,he⟩:=wK hf;simp only[aR,aL,aD,aB hp,aA,iR];cases d2
   ·cases d4
    ·exact tl _
    ·exact tl _
   ·rfl
 have inner:∀ (self:((List Row)×(List Tx)×Op×b_×Key×(List Tx)×Int×Int)->Option cz.O) (e0:((List Row)×(List Tx)×Op×b_×Key)->Option cz.O) (i:Nat) (hi:i < xs.length),cz.r1 k self e0 (rows,xs,o,()) rows xs o (nG 0) (o.2.2.1.1,o.2.2.1.2.1,()) xs (xs.length:Int) (i:Int) (xs[i]).2.2.2.1 (List.length (xs[i]).2.2.2.1:Int) (0:Int)=if (xs[i]).2.2.2.1.any (Al (o.2.2.1.1,o.2.2.1.2.1,())) then some (nG 7,()) else self (rows,xs,o,nG 0,(o.2.2.1.1,o.2.2.1.2.1,()),xs,(xs.length:Int),ae ((i:Int)+1)):=λself e0 i hi=>by
  have Na:=(ht.2 _ (aJ hi)).2.2.1;have QE:=hx.keys _ (aJ hi)
  have:=ff (B:=λko v=>cz.b1 ko (λz=>cz.q0 self e0 (rows,xs,o,()) rows xs o (nG 0) (o.2.2.1.1,o.2.2.1.2.1,()) xs (xs.length:Int) (i:Int) (xs[i]).2.2.2.1 (List.length (xs[i]).2.2.2.1:Int) z) (rows,xs,o,()) rows xs o (nG 0) (o.2.2.1.1,o.2.2.1.2.1,()) xs (xs.length:Int) (i:Int) (xs[i]).2.2.2.1 (List.length (xs[i]).2.2.2.1:Int) v) (xs[i]).2.2.2.1 (λ(_:Unit) (j:Int)=>j) (λ_ _ l=>if Al (o.2.2.1.1,o.2.2.1.2.1,()) l then .inl (some (nG 7,())) else .inr ()) (λ_=>self (rows,xs,o,nG 0,(o.2.2.1.1,o.2.2.1.2.1,()),xs,(xs.length:Int),ae ((i:Int)+1))) (λ_ _=>True) (by rw[an];omega)
   (λj hj s ko _=>by
    show cz.b1 _ _ _ _ _ _ _ _ _ _ _ _ _ _=_;unfold cz.b1 Al;have bc:(j:Int) < (List.length (xs[i]).2.2.2.1:Int):=by omega
    have Ry:=QE _ (aJ hj);simp only[aR,aL,aD,aA,bc,aP,aM,aB hj,Ba];generalize (xs[i]).2.2.2.1[j]=l at Ry;obtain ⟨l1,l2,⟨⟩⟩:=l
    have yg:¬ l2=0:=by
     grind [yG,dr]
    generalize o.2.2.1.1=k1;generalize o.2.2.1.2.1=k2
    have e1:decide (((l1,l2,()):Key)=(k1,k2,()))=(decide (l1=k1)&&decide (l2=k2)):=by
     rw[fR];simp
    have e2:decide (((l1,l2,()):Key)=((0:Int),k1,()))=(decide (l1=0)&&decide (l2=k1)):=by
     rw[fR];simp
    have e3:Ty.eq bk ((l1,l2,()):Key) ((0:Int),k1,())=(decide (l1=0)&&decide (l2=k1)):=(Ba _ _).trans e2
    grind)
   (λ_ _ _ _ _ _=>trivial) (λs ko _=>by
    show cz.b1 _ _ _ _ _ _ _ _ _ _ _ _ _ _=_;unfold cz.b1;simp only[aY,aI,aE]
    rfl) () trivial k Bys
  rw[uW] at this;exact this
 have:=ff (B:=λself v=>cz.B0 k self (λz=>cz.q1 (rows,xs,o,()) z) (rows,xs,o,()) v) xs (λ(_:Unit) (i:Int)=>(rows,xs,o,nG 0,(o.2.2.1.1,o.2.2.1.2.1,()),xs,(xs.length:Int),i)) (λ_ _ x=>if !decide (x.1=o.2.1)&&x.2.2.2.1.any (Al (o.2.2.1.1,o.2.2.1.2.1,())) then .inl (some (nG 7,())) else .inr ()) (λ_=>some (if (co rows o).2=0 then Ng rows xs (o.2.2.1.1,o.2.2.1.2.1,()) (co rows o).1 else nG (co rows o).2,())) (λ_ _=>True) (by rw[an];have:=ht.1;omega)
  (λi hi s self _=>by
   show cz.b0 _ _ _ _ _=_
   grind [cz.b0,Int.toNat_natCast])
  (λ_ _ _ _ _ _=>trivial) (λs self _=>by
   show cz.b0 _ _ _ _ _=_
   simp_all [cz.b0]) () trivial k (by have:=ht.1;omega)
 rw[uW] at this;refine aV this ?_;grind [CD]
def yA (xs:List Tx) (t:Int):Int:=match xs[(sc xs t).toNat]? with
 | some x=>(List.length x.2.2.1:Int)
 | none=>0
def oF (rows:List Row) (xs:List Tx) (o:Op):b_:=
 if o.1=1 then (if decide (4<=xs.length) then nG 2 else nG 0)
 else if o.1=9 then nG 0
 else if sc xs o.2.1 < 0 then nG 4
 else if o.1=5 then (if decide (8<=yA xs o.2.1) then nG 2 else nG 0)
 else if o.1=6 then (if decide (yA xs o.2.1<=o.2.2.2.1) then nG 3 else nG 0)
 else if qJ o.1 then sY rows xs o else nG 0
def ei (rows:List Row) (xs:List Tx) (o:Op):b_:=
 if nk rows=0 then (if mQ xs=0 then (if qK o=0 then oF rows xs o else nG (qK o)) else nG (mQ xs)) else nG (nk rows)
theorem at_mem {xs:List Tx} {t:Int} (h:¬ sc xs t < 0):∃ (j:Nat) (hj:j < xs.length),sc xs t=(j:Int)/\(xs[j]).1=t:=by
 obtain ⟨j,hj,h1,h2⟩:=GJ (λx:Tx=>decide (x.1=t)) xs 0 (by unfold sc at h;omega);exact ⟨j,hj,by unfold sc;rw[h1,bS],fD h2⟩
theorem kinds {k:Int} (h:dr k 1 9=true):k=1\/k=2\/k=3\/k=4\/k=5\/k=6\/k=7\/k=8\/k=9:=by
 unfold dr at h;simp only[aC,bE] at h;omega
theorem S8 (rows:List Row) (xs:List Tx) (o:Op) (hg:Good rows) (hl:rows.length<=60) (ht:pM xs) (hx:ww xs) (ho:dr o.1 1 9=true):rF.ab (rows,xs,o,())=some (oF rows xs o,()):=by
 refine ag (k:=0) λk hk=>(rF.af k _).trans ?_;show rF.p _=_;unfold rF.p oF;have hx4:=hx.len
 have h4:decide ((4:Int)<=(xs.length:Int))=decide (4<=xs.length):=by
  by_cases h:4<=xs.length
  ·have:(4:Int)<=(xs.length:Int):=by omega
   simp[h,this]
  ·have:¬ (4:Int)<=(xs.length:Int):=by omega
   simp[h,this]
 simp only[Lx,jc xs _ ht.1,Qh rows xs o hg hl ht hx,aA,h4];by_cases ha:sc xs o.2.1 < 0
 ·simp only[ha,aP,aM,aL]
  rcases kinds ho with e | e | e | e | e | e | e | e | e <;> rw[e] <;> first | rfl | (cases decide (4<=xs.length) <;> rfl)
 ·obtain ⟨j,hj,e,_⟩:=at_mem ha;have hm:yA xs o.2.1=(List.length (xs[j]).2.2.1:Int):=by unfold yA;rw[e,aD,aB hj]
  rw[hm];simp only[ha,aI,aE,aU,e,aR,aL,aD,aB hj,aA]
  rcases kinds ho with e | e | e | e | e | e | e | e | e <;> rw[e] <;> first | rfl | (cases decide (4<=xs.length) <;> rfl) | (cases decide ((8:Int)<=(List.length (xs[j]).2.2.1:Int)) <;> rfl) | (cases decide ((List.length (xs[j]).2.2.1:Int)<=o.2.2.2.1) <;> rfl)
theorem Hl (rows:List Row) (xs:List Tx) (o:Op) (hl:rows.length<=1048576) (hr:∀ x ∈ rows,rl x) (ht:pM xs) (ho:rl o.2.2.1):o3.ab (rows,xs,o,())=some (ei rows xs o,()):=by
 refine ag (k:=0) λk hk=>(o3.af k _).trans ?_;show o3.p _=_;unfold o3.p ei;simp only[Kq rows (by rw[an];omega) hr,Nc xs ht,aac o ho,Lx,aA];by_cases h1:nk rows=0;rotate_left
 ·simp only[h1,aI,bO,aM,aU]
 by_cases h2:mQ xs=0;rotate_left
 ·simp only[h1,h2,aP,aI,aW,bO,aM,aE,aL,aU]
 by_cases h3:qK o=0;rotate_left
 ·simp only[h1,h2,h3,aP,aI,aW,bO,aM,aE,aL,aU]
 simp only[h1,h2,h3,aP,aW,aE,aL];rw[S8 rows xs o (uF h1).1 (uF h1).2 ht (ru h2) (I4 h3).1];rfl
theorem CE (rows:List Row) (xs:List Tx) (o:Op) (hl:rows.length<=1048576) (hr:∀ x ∈ rows,rl x) (ht:pM xs) (ho:rl o.2.2.1):je.ab (rows,xs,o,())=some (ei rows xs o,()):=by
 refine ag (k:=5) λk hk=>(je.af k _).trans ?_;unfold je.p;simp only[ER rows (by rw[an];omega) hr,He xs ht,XP o ho,aA]
 have hq:nk rows=0->mQ xs=0->qK o=0->∀ (k:Nat) (z:Unit),je.q0 (rows,xs,o,()) [nk rows,mQ xs,qK o] ([nk rows,mQ xs,qK o].length:Int) z=some (oF rows xs o,()):=λh1 h2 h3 k z=>by
  show je.q0 _ _ _ _=_;unfold je.q0 oF;have hx:=ru h2;have hg:=(uF h1).1;have hl:=(uF h1).2;have hor:=(I4 h3).1
  have h4:decide ((4:Int)<=(xs.length:Int))=decide (4<=xs.length):=by
   by_cases h:4<=xs.length
   ·have:(4:Int)<=(xs.length:Int):=by omega
    simp[h,this]
   ·have:¬ (4:Int)<=(xs.length:Int):=by omega
    simp[h,this]
  have Ly:qJ o.1=true->cz.ab (rows,xs,o,())=some (sY rows xs o,()):=λI6=>S7 rows xs o hg hl ht hx (by
   have:=JX h3 I6;unfold gz at this;split at this
   ·rename_i h5;simp only[dr,aC,bE] at h5;omega
   ·cases this)
  simp only[BH xs _ ht.1,aA,h4];by_cases ha:sc xs o.2.1 < 0
  ·simp only[ha,aP,aM,aL]
   rcases kinds hor with e | e | e | e | e | e | e | e | e <;> rw[e] <;> first | rfl | (cases decide (4<=xs.length) <;> rfl)
  ·obtain ⟨j,hj,e,_⟩:=at_mem ha;have hm:yA xs o.2.1=(List.length (xs[j]).2.2.1:Int):=by unfold yA;rw[e,aD,aB hj]
   rw[hm];simp only[ha,aI,aE,aU,e,aR,aL,aD,aB hj,aA];rcases kinds hor with e | e | e | e | e | e | e | e | e
   ·rw[e];cases decide (4<=xs.length) <;> rfl
   ·rw[Ly (by rw[e];rfl),e];rfl
   ·rw[Ly (by rw[e];rfl),e];rfl
   ·rw[Ly (by rw[e];rfl),e];rfl
   ·rw[e];cases decide ((8:Int)<=(List.length (xs[j]).2.2.1:Int)) <;> rfl
   ·rw[e];cases decide ((List.length (xs[j]).2.2.1:Int)<=o.2.2.2.1) <;> rfl
   ·rw[e];rfl
   ·rw[e];rfl
   ·rw[e];rfl
 have:=ff (B:=λself v=>je.b0 self (λz=>je.q0 (rows,xs,o,()) [nk rows,mQ xs,qK o] ([nk rows,mQ xs,qK o].length:Int) z) (rows,xs,o,()) [nk rows,mQ xs,qK o] ([nk rows,mQ xs,qK o].length:Int) v) [nk rows,mQ xs,qK o] (λ(_:Unit) (i:Int)=>i) (λ_ _ x=>if x=0 then .inr () else .inl (some (nG x,()))) (λ_=>je.q0 (rows,xs,o,()) [nk rows,mQ xs,qK o] ([nk rows,mQ xs,qK o].length:Int) ()) (λ_ _=>True) (by rw[an];simp)
  (λi hi s self _=>by
   show je.b0 _ _ _ _ _ _=_;unfold je.b0;have bc:(i:Int) < ([nk rows,mQ xs,qK o].length:Int):=by omega
   have gb:(0:Int)<=(i:Int)/\(i:Int) < ([nk rows,mQ xs,qK o].length:Int):=by omega
   simp only[bc,gb,cP,aP,aM,aL,aD,aB hi,aA];by_cases h0:[nk rows,mQ xs,qK o][i]=0
   ·simp only[h0,aP,aW,aE,aL]
   ·simp only[h0,aI,bO,aM,aU])
  (λ_ _ _ _ _ _=>trivial) (λs self _=>by
   show je.b0 _ _ _ _ _ _=_;unfold je.b0
   simp only[aY,aI,aE]) () trivial k (by simp;omega)
 refine aV this ?_;unfold ei;simp only[bu];by_cases h1:nk rows=0;rotate_left
 ·simp only[h1,aU]
 by_cases h2:mQ xs=0;rotate_left
 ·simp only[h1,h2,aL,aU]
 by_cases h3:qK o=0;rotate_left
 ·simp only[h1,h2,h3,aL,aU]
 have:=hq h1 h2 h3 k ();rw[aH h1];simp only;rw[aH h2];simp only;rw[aH h3];simp only;rw[this,aH h1,aH h2,aH h3]
theorem Uv (xs:List Tx) (k0:Key) (h:pM xs):pS.ab (xs,k0,())=some (qD xs k0,()):=by
 obtain ⟨h1,h2⟩:=h;refine ag (k:=xs.length+1) λk hk=>(pS.af k _).trans ?_
 have:=cy (B:=λself v=>pS.b0 self (λz=>pS.q0 (xs,k0,()) z) (xs,k0,()) v) xs (λ(_:Unit) (i:Int)=>i) (λ_ _ x=>if jy x.2.2.2.1 k0 then .inl (x.1,()) else .inr ()) (λ_=>(0,())) (λ_ _=>True) (by rw[an];omega)
  (λi hi s self _=>by
   grind [pS.b0,contains_eq,ST])
  (λ_ _ _ _ _ _=>trivial) (λs self _=>by
   show pS.b0 _ _ _ _=_;unfold pS.b0;simp only[aY,aI,aE]
   rfl) () trivial k Bys
 rw[IW] at this;exact this
theorem aad (s:List Change) (h:s.length<=1048576):m9.ab (s,())=some (s,()):=by
 refine ag (k:=0) λk _=>(m9.af k _).trans ?_;show m9.p _=_;unfold m9.p;refine Fm (λe=>by grind) ?_;grind [cr]
theorem aae (s:List Int) (h:s.length<=1048576):nN.ab (s,())=some (s,()):=by
 refine ag (k:=0) λk _=>(nN.af k _).trans ?_;show nN.p _=_;unfold nN.p;refine Fm (λe=>by grind) ?_;grind [cr]
theorem aaf (s:List Key) (h:s.length<=1048576):oW.ab (s,())=some (s,()):=by
 refine ag (k:=0) λk _=>(oW.af k _).trans ?_;show oW.p _=_;unfold oW.p;refine Fm (λe=>by grind) ?_;grind [cr]
theorem XT (x:Tx) (h:tl x):rp.ab (x,())=some (x,()):=by
 obtain ⟨h1,h2,h3,_⟩:=h;refine ag (k:=0) λk _=>(rp.af k _).trans ?_;grind [rp.p,cr]
theorem DR (xs:List Tx) (h:pM xs):ky.ab (xs,())=some (xs,()):=by
 obtain ⟨h1,h2⟩:=h;refine ag (k:=xs.length+1) λk hk=>(ky.af k _).trans ?_
 have:=cy (B:=λself v=>ky.b0 self (λz=>ky.q0 (xs,()) z) (xs,()) v) xs (λ(s:List Tx) (i:Int)=>(s,i)) (λ_ s x=>.inr (s++[x])) (λs=>(s,())) (λi s=>s.length=i) (by rw[an];omega)
  (λi hi s self hI=>by
   grind [ky.b0,cr,XT])
  (λi hi s s' hI hs=>by grind) (λs self hI=>by
   show ky.b0 _ _ _ _=_;unfold ky.b0;simp only[aY,aI,aE]
   rfl) [] rfl k Bys
 rw[ik,Bz] at this;exact this
theorem zm (xs:List Tx) (h:pM xs):h_.ab (xs,())=some (xs,()):=by
 obtain ⟨h1,h2⟩:=h;refine ag (k:=xs.length+1) λk hk=>(h_.af k _).trans ?_
 have:=cy (B:=λself v=>h_.b0 self (λz=>h_.q0 (xs,()) z) (xs,()) v) xs (λ(s:List Tx) (i:Int)=>(s,i)) (λ_ s x=>.inr (s++[x])) (λs=>(s,())) (λi s=>s.length=i) (by rw[an];omega)
  (λi hi s self hI=>by
   show h_.b0 _ _ _ _=_;unfold h_.b0;have bc:(i:Int) < (xs.length:Int):=by omega
   have hx:=h2 _ (aJ hi);simp only[bc,aP,aM,aR,aL,aD,aB hi,aA];generalize xs[i]=x at hx;obtain ⟨g1,g2,g3,_⟩:=hx
   grind [aad,aae,aaf,cr])
  (λi hi s s' hI hs=>by grind) (λs self hI=>by
   show h_.b0 _ _ _ _=_;unfold h_.b0;simp only[aY,aI,aE]
   rfl) [] rfl k Bys
 rw[ik,Bz] at this;exact this
def ue (x:Tx) (c:Change):Tx:=(x.1,x.2.1++[c],x.2.2.1,if jy x.2.2.2.1 (jT c) then x.2.2.2.1 else x.2.2.2.1++[jT c],())
def uf (xs:List Tx) (j:Nat) (c:Change):List Tx:=match xs[j]? with
 | some x=>xs.set j (ue x c)
 | none=>xs
theorem KB (xs:List Tx) (j:Nat) (c:Change) (h:pM xs) (hj:j < xs.length):kA.ab (xs,(j:Int),c,())=some (uf xs j c,()):=by
 refine ag (k:=0) λk _=>(kA.af k _).trans ?_;show kA.p _=_;unfold kA.p uf;have hx:=h.2 _ (aJ hj);have gb:(0:Int)<=(j:Int)/\(j:Int) < (xs.length:Int):=by omega
 simp only[DR xs h,aA,gb,cP,aL,aD,aB hj,Iw];generalize S9:xs[j]=x at hx;obtain ⟨g1,g2,g3,_⟩:=hx;have DS:xs.set j x=xs:=by grind [List.set_getElem_self]
 have hg:xs[j]?=some x:=by grind
 have c1:List.length x.2.1+[c].length<=be:=cr (by grind);have c2:List.length x.2.2.2.1+[jT c].length<=be:=cr (by grind);have hq:∀ y:Tx,(xs.set j y)[j]?=some y:=λy=>by simp[hj]
 rw[aH c1,DS];simp only[hg,aA,hq];grind [Lf,an,ue,List.set_set]
theorem Uw (xs:List Tx) (j:Nat) (c:Change) (h:pM xs) (hj:j < xs.length):th.ab (xs,(j:Int),c,())=some (uf xs j c,()):=by
 refine ag (k:=0) λk _=>(th.af k _).trans ?_;show th.p _=_;unfold th.p uf;have hx:=h.2 _ (aJ hj);have gb:(0:Int)<=(j:Int)/\(j:Int) < (xs.length:Int):=by omega
 simp only[zm xs h,aA,gb,cP,aL,aD,aB hj,Oi];generalize S9:xs[j]=x at hx;obtain ⟨g1,g2,g3,_⟩:=hx;have DS:xs.set j x=xs:=by grind [List.set_getElem_self]
 have hg:xs[j]?=some x:=by grind
 have c1:List.length x.2.1+[c].length<=be:=cr (by grind);have c2:List.length x.2.2.2.1+[jT c].length<=be:=cr (by grind);have hq:∀ y:Tx,(xs.set j y)[j]?=some y:=λy=>by simp[hj]
 rw[aH c1,DS];simp only[hg,aA,hq];grind [contains_eq,an,ue,List.set_set]
def LA (c:Int):Is:=(c,([]:List Tx),())
def AP (xs:List Tx) (t:Int) (c:Change):Is:=
 if mQ xs=0 then
  if sc xs t < 0 then LA 4
  else if Em c=0 then
   if qD xs (jT c)≠0/\qD xs (jT c)≠t then LA 7
   else if 12<=pF xs then LA 2
   else if qD xs (jT c)=0/\12<=List.length ((xs.getD (sc xs t).toNat (0,[],[],[],())).2.2.2.1:List Key) then LA 2
   else ((0:Int),uf xs (sc xs t).toNat c,())
  else LA (Em c)
 else LA (mQ xs)
theorem abU {xs:List Tx} (h:mQ xs=0):Bj xs=0/\xs.length<=4:=by
 grind [mQ]
theorem XU {xs:List Tx} {k:Key} (h:qD xs k≠0):∃ x ∈ xs,x.1=qD xs k/\jy x.2.2.2.1 k=true:=by
 induction xs <;> grind [qD]
theorem XV {xs:List Tx} {k:Key} (h:qD xs k=0) (hp:∀ x ∈ xs,1<=x.1):∀ x ∈ xs,jy x.2.2.2.1 k=false:=by
 induction xs <;> grind [qD]
theorem I7 (xs:List Tx) (t:Int) (c:Change) (h:pM xs) (hc:cl c):kH.ab (xs,t,c,())=some (AP xs t c,()):=by
 refine ag (k:=0) λk _=>(kH.af k _).trans ?_;show kH.p _=_;unfold kH.p AP LA;simp only[He xs h,BH xs t h.1,Ph c hc,Oi,Uv xs _ h,DL xs h,aA];by_cases h1:mQ xs=0;rotate_left
 ·grind
 simp only[h1,aP,aW,aE,aL];by_cases h2:sc xs t < 0
 ·grind
 simp only[h2,aI,aE,aU];by_cases h3:Em c=0;rotate_left
 ·grind
 simp only[h3,aP,aW,aE,aL];obtain ⟨j,hj,e1,e2⟩:=GJ (λx:Tx=>decide (x.1=t)) xs 0 (by grind [sc]);have e1:sc xs t=(j:Int):=by show wI _ 0 xs=_;rw[e1];omega
 rw[e1,aD];have hn:=Uw xs j c h hj;grind
def Am (x:Tx):Tx:=(x.1,x.2.1,x.2.2.1++[(List.length x.2.1:Int)],x.2.2.2)
def yU (x:Tx) (n m:Nat):Tx:=(x.1,x.2.1.take n,x.2.2.1.take (m+1),x.2.2.2)
theorem HM {xs:List Tx} {t:Int} (h:pM xs) {j:Nat} (hj:j < xs.length) (ey:sc xs t=(j:Int)) (hm:List.length (xs[j]).2.2.1<=8):pT.ab (xs,t,())=some (xs.set j (Am xs[j]),(List.length (xs[j]).2.2.1:Int),()):=by
 refine ag (k:=0) λk _=>(pT.af k _).trans ?_;unfold pT.p;have gb:(0:Int)<=(j:Int)/\(j:Int) < (xs.length:Int):=by omega
 simp only[zm xs h,BH xs t h.1,ey,aA,gb,cP,aL,aD,aB hj];generalize S9:xs[j]=x at hm ⊢;have DS:xs.set j x=xs:=by rw[<-S9];exact eI hj
 have hg:xs[j]?=some x:=by rw[aB hj,S9]
 have c1:List.length x.2.2.1+[(List.length x.2.1:Int)].length<=be:=cr (by simp only[bI,cE];omega);have hq:∀ y:Tx,(xs.set j y)[j]?=some y:=λy=>by simp[hj]
 rw[aH c1,DS];simp only[hg,aA,hq]
 have hw:ae (((List.length (x.2.2.1++[(List.length x.2.1:Int)]):Nat):Int) - 1)=(List.length x.2.2.1:Int):=by
  rw[bQ,bI,cE,bf Bys];omega
 rw[hw];rfl
theorem yI {xs:List Tx} {o:Op} (h:pM xs) {j:Nat} (hj:j < xs.length) (ey:sc xs o.2.1=(j:Int)) (h6:¬ o.1=6):np.ab (xs,o,())=some (xs.take j++xs.drop (j+1),e8 (xs[j]).2.1,()):=by
 refine ag (k:=0) λk _=>(np.af k _).trans ?_;unfold np.p;have gb:(0:Int)<=(j:Int)/\(j:Int) < (xs.length:Int):=by omega
 have hx:=h.2 _ (aJ hj);have hl:=h.1;have hw:ae ((j:Int)+1)=((j+1:Nat):Int):=by rw[bf Bys];omega
 have hd:tR.ab (xs,(j:Int),((j+1:Nat):Int),())=some (xs.take j++xs.drop (j+1),()):=by
  show N9 _ _=_;unfold N9;have:(0:Int)<=(j:Int)/\(j:Int)<=((j+1:Nat):Int)/\((j+1:Nat):Int)<=(xs.length:Int):=by omega
  exact aH this
 simp only[zm xs h,BH xs o.2.1 h.1,ey,aA,gb,cP,aL,aD,aB hj,h6,aI,aE,Hg _ hx.1,hw,hd]
theorem FF {xs:List Tx} {o:Op} (h:pM xs) {j:Nat} (hj:j < xs.length) (ey:sc xs o.2.1=(j:Int)) (h6:o.1=6) {m n:Nat} (hm:o.2.2.2.1=(m:Int)) (HN:m < List.length (xs[j]).2.2.1) (hn:(xs[j]).2.2.1[m]?=some (n:Int)) (vA:n<=List.length (xs[j]).2.1) :
  np.ab (xs,o,())=some (xs.set j (yU xs[j] n m),e8 ((xs[j]).2.1.drop n),()):=by
 refine ag (k:=0) λk _=>(np.af k _).trans ?_;unfold np.p;have gb:(0:Int)<=(j:Int)/\(j:Int) < (xs.length:Int):=by omega
 have hx:=h.2 _ (aJ hj);simp only[zm xs h,BH xs o.2.1 h.1,ey,aA,gb,cP,aL,aD,aB hj,h6,hm,aP,aM];generalize S9:xs[j]=x at hx HN hn vA ⊢;obtain ⟨g1,g2,g3,_⟩:=hx;have DS:xs.set j x=xs:=by rw[<-S9];exact eI hj
 have hg:xs[j]?=some x:=by rw[aB hj,S9]
 have hq:∀ y:Tx,(xs.set j y)[j]?=some y:=λy=>by simp[hj]
 have k1:(0:Int)<=(m:Int)/\(m:Int) < (List.length x.2.2.1:Int):=by omega
 have k2:(0:Int)<=(n:Int)/\(n:Int)<=(List.length x.2.1:Int):=by omega
 have hw:ae ((m:Int)+1)=((m+1:Nat):Int):=by rw[bf Bys];omega
 have k3:(0:Int)<=((m+1:Nat):Int)/\((m+1:Nat):Int)<=(List.length x.2.2.1:Int):=by omega
 rw[aH k1,hn];simp only[aA];rw[aH k2,aD,eJ,Hg _ (by rw[cC];omega)];simp only[aA];rw[aH k2,DS];simp only[hg,aA,hq,hw];rw[aH k3];simp only[aD,List.set_set,hq,aA,eD];rfl
theorem LB {p:Plain} {cs:List Change} {t:List Row} (hg:Good p.1) (hl:List.length p.1<=12) (hc:∀ c ∈ cs,lg c=0) (vz:∀ c ∈ cs,cl c) (pP:cs.length<=12) (hb:gi p.1 cs=some t):ke.ab (p,cs,())=some ((0:Int),(t,p.2),()):=by
 refine ag (k:=0) λk _=>(ke.af k _).trans ?_;unfold ke.p;rw[IE p.1 cs (by rw[an];omega) (VN hg) Bys vz,Nf hg hc Bys,hb];rfl
theorem adJ {p:Plain} (hl:List.length p.1<=1048576) (h:pM p.2.1):rX.ab (p,())=some ((p.1,p.2.1,p.2.2.1,()),()):=by
 refine ag (k:=0) λk _=>(rX.af k _).trans ?_;unfold rX.p;rw[ES _ hl];simp only[aA];rw[zm _ h];rfl
theorem xE {p:Plain} (hl:List.length p.1<=1048576) (h:pM p.2.1):tT.ab (p,())=some ((p.1,p.2.1,p.2.2.1,()),()):=by
 refine ag (k:=0) λk _=>(tT.af k _).trans ?_;unfold tT.p;rw[aH (show ([]:List Row).length+List.length p.1<=be from cr (by rw[cE];omega)),DR _ h];rfl
theorem Ox (c:Int):qM.ab (c,())=some ((c,(0:Int),(([]:List Row),([]:List Tx),(0:Int),()),()),()):=ag (k:=0) λk _=>(qM.af k _).trans rfl
theorem XW {x:Tx} (h:tl x) {m n:Nat} (HN:m < List.length x.2.2.1) (hn:x.2.2.1[m]?=some (n:Int)) (vA:n<=List.length x.2.1):uU.ab (x,(m:Int),())=some (x.2.1.drop n,yU x n m,()):=by
 obtain ⟨g1,g2,g3,_⟩:=h;refine ag (k:=0) λk _=>(uU.af k _).trans ?_;unfold uU.p;have k2:(0:Int)<=(n:Int)/\(n:Int)<=(List.length x.2.1:Int):=by omega
 have hw:ae ((m:Int)+1)=((m+1:Nat):Int):=by rw[bf Bys];omega
 have k3:(0:Int)<=((m+1:Nat):Int)/\((m+1:Nat):Int)<=(List.length x.2.2.1:Int):=by omega
 rw[aH (aR m),aD,hn];simp only[aA];rw[aH k2,aH (cr (by rw[cE,cC,dG];omega)),aH k2,hw,aH k3];simp only[aD,cJ,eJ,eD];rfl
theorem EY {xs:List Tx} (hl:xs.length<=1048576) {j:Nat} (hj:j < xs.length):mC.ab (xs,(j:Int),())=some (xs.take j++xs.drop (j+1),()):=by
 refine ag (k:=1048578) λk hk=>(mC.af k _).trans ?_
 have:=cy (B:=λself v=>mC.b0 self (mC.q0 (xs,(j:Int),())) (xs,(j:Int),()) v) xs (λ(s:List Tx) (i:Int)=>(s,i)) (λi s x=>if (i:Int)=(j:Int) then .inr s else .inr (s++[x])) (λs=>(s,())) (λi s=>s.length<=i) (by rw[an];omega)
  (λi hi s self hI=>by
   have bc:(i:Int) < (xs.length:Int):=by omega
   unfold mC.b0;rw[aS bc,aM]
   by_cases he:(i:Int)=(j:Int)
   ·rw[aS he,aW,aE,aH he]
   ·rw[aK he,bO,aM,aN he,aH (aR i),aD,aB hi];simp only[aA]
    rw[aH (cr (by rw[bI,cE];omega))])
  (λi hi s s' hI hf=>by
   split at hf
   ·injection hf with hf;subst hf;omega
   ·injection hf with hf;subst hf;rw[bQ,bI,cE];omega) (λs self _=>by
   unfold mC.b0;rw[aK (aY _),aE]
   rfl) [] (aX _) k Bys
 have key:∀ (ys:List Tx) (i:Nat) (s:List Tx),bu (O:=List Tx×Unit) (λi s x=>if (i:Int)=(j:Int) then .inr s else .inr (s++[x])) (λs=>(s,())) i ys s=(s++(if i<=j then ys.take (j - i)++ys.drop (j - i+1) else ys),()):=by
  intro ys
  induction ys with
  | nil=>intro i s;simp[bu]
  | cons y ys ih=>
   intro i s;simp only[bu]
   by_cases he:(i:Int)=(j:Int)
   ·rw[aH he];simp only;rw[ih];have:i=j:=by omega
    subst this;rw[aN Bys,aH (aG _),Nat.sub_self];rfl
   ·rw[aN he];simp only;rw[ih];by_cases sb:i<=j
    ·obtain ⟨d,hd⟩:∃ d,j - i=d+1:=⟨j - i - 1,by omega⟩
     rw[aH sb,aH Bys,hd,show j - (i+1)=d by omega];simp[bV]
    ·rw[aN sb,aN Bys];simp[bV]
 rw[key xs 0 []] at this;refine aV this ?_;simp
structure JY (p:Plain):Prop where
 pZ:Good p.1
 len:List.length p.1<=12
 vh:mQ p.2.1=0
 next:dr p.2.2.1 1 100=true
 room:rQ p.1 p.2.1<=12
 back:∃ t,gi p.1 (rR p.2.1)=some t
theorem ic {p:Plain} (h:gq p=0):JY p:=by
 unfold gq at h;split at h
 ·rename_i h1;split at h
  ·rename_i h2;split at h
   ·rename_i h3;rw[aC] at h3;split at h
    ·cases h
    ·rename_i h4;have hg:=(uF h1).1;have hr:=BG (xs:=p.2.1) hg.up;unfold rQ at h4
     cases hb:gi p.1 (rR p.2.1) with
     | none=>grind
     | some t=>exact ⟨hg,by omega,h2,h3.1,by grind [rQ],t,hb⟩
   ·cases h
  grind
 grind
theorem I8 {c:Change} (hc:lg c=0):ck (wx c)=ck c:=by
 grind [ck,wx,rk,Ev,lg]
theorem FH {xs:List Tx} (h:mQ xs=0):∀ x ∈ xs,1<=x.1/\vg x=0:=λx hx=>by
 have h1:=(abU h).1;obtain ⟨i,hi,rfl⟩:=bL hx;have:=DN (zl xs h1 i hi);grind
theorem Ey {x:Tx} (h:vg x=0):∀ c ∈ (x.2.1:List Change),jy x.2.2.2.1 (jT c)=true:=λc hc=>by
 unfold vg at h;split at h
 ·rename_i hu;have h2:=Bk hu c hc;grind [xe]
 grind
theorem I9 {xs:List Tx} (h:mQ xs=0):(flatK xs).Nodup:=by
 unfold mQ at h;split at h
 ·cases h
 ·split at h
  ·split at h
   ·rename_i ha;exact fD ha
   ·cases h
  grind
theorem Hm {xs:List Tx} (h:mQ xs=0) {i j:Nat} (hi:i < xs.length) (hj:j < i) {c d:Change} (hc:c ∈ e8 (xs[j]'Bys).2.1) (hd:d ∈ e8 xs[i].2.1):ck c≠ck d:=by
 have hn:=I9 h;have po:=(ru h).ch;obtain ⟨c0,zJ,rfl⟩:=AN hc;obtain ⟨d0,hd0,rfl⟩:=AN hd;have mj:xs[j]'Bys ∈ xs:=aJ _;have mi:xs[i] ∈ xs:=aJ _;rw[I8 (po _ mj c0 zJ),I8 (po _ mi d0 hd0)];have l1:=o6.1 (Ey (FH h _ mj).2 c0 zJ);have l2:=o6.1 (Ey (FH h _ mi).2 d0 hd0);intro he;have hx:xs=xs.take i++xs[i]::xs.drop (i+1):=by rw[fJ,cA]
 unfold flatK at hn;rw[hx,eG,dU,dE] at hn;refine hn.2.2 (jT c0) ?_ (jT c0) ?_ rfl
 ·grind
 grind [jT]
theorem tY {p:Plain} (h:JY p) {i:Nat} (hi:i < List.length p.2.1):∃ t,gi p.1 (e8 (p.2.1[i]).2.1)=some t:=by
 obtain ⟨t,ht⟩:=h.back;exact abQ h.pZ (ru h.vh).ch ht hi λj hj c hc d hd=>Hm h.vh hi hj hc hd
theorem FI {α:Type} [DecidableEq α]:∀ (l m:List α),l.Nodup->(∀ x ∈ l,x ∈ m)->l.length<=m.length
 | [],_,_,_=>aX _
 | x::l,m,hn,h=>by
  rw[cO] at hn;have hx:=h x bF;have ih:=FI l (m.erase x) hn.2 λy hy=>(List.mem_erase_of_ne (λe=>hn.1 (by grind))).2 (h y (bA _ hy));grind
theorem An {rows:List Row} {o:Op} (hg:Good rows) (BI:gz o.2.2.1=0) (h:(co rows o).2=0):lg (co rows o).1=0/\ck (co rows o).1=rk o.2.2.1/\sK rows (co rows o).1=true/\cl (co rows o).1:=by
 have vv:rl o.2.2.1:=by grind [rl,zi,an]
 have vA:rl Ew:=aX _
 have key:∀ c:Change,c=(co rows o).1->lg c=0/\ck c=rk o.2.2.1/\(if c.1=true then c.2.1 ∈ rows else ∀ r ∈ rows,rk r≠ck c)/\cl c:=by
  intro c hc;unfold co at h hc;have hrk:(o.2.2.1.1,o.2.2.1.2.1)=rk o.2.2.1:=rfl;simp only[hrk] at h hc
  cases hf:oQ rows (rk o.2.2.1) with
  | true=>
   obtain ⟨hp,hk⟩:=wK hf;have hm:rows[pos rows (rk o.2.2.1)] ∈ rows:=aJ hp;have hb:=hg.2 _ hm;have Vl:rl rows[pos rows (rk o.2.2.1)]:=by grind [rl,zi,an]
   rw[hf,aB hp] at h hc;generalize hx:rows[pos rows (rk o.2.2.1)]=x at *
   cases h2:decide (o.1=2) with
   | true=>grind
   | false=>
    rw[h2] at hc;simp only[iC,aW,hJ,aF,aU,aL,iR] at hc
    cases h4:decide (o.1=4) with
    | true=>
     rw[h4] at hc;subst hc;refine ⟨?_,hk,?_,Vl,vA⟩
     all_goals grind [lg]
    | false=>
     rw[h4] at hc;subst hc;refine ⟨?_,rfl,?_,Vl,vv⟩
     all_goals grind [GY,lg]
  | false=>
   have sa:∀ r ∈ rows,rk r≠rk o.2.2.1:=λr hr he=>by
    obtain ⟨i,hi,hx⟩:=bL hr;have:=(BF hg.1 hi (k:=rk o.2.2.1) (by grind)).1;grind
   rw[hf] at h hc
   cases h2:decide (o.1=2) with
   | false=>grind
   | true=>
    have h4:decide (o.1=4)=false:=by
     grind
    rw[h2,h4] at hc;simp only[hJ,aW,bO,iC,aF,aU] at hc;subst hc;refine ⟨?_,rfl,?_,vA,vv⟩
    ·grind [lg]
    ·exact sa
 obtain ⟨k1,k2,k3,k4⟩:=key _ rfl;exact ⟨k1,k2,(DQ hg.1 k1).2 k3,k4⟩
theorem S_ {r:Row} (h:gz r=0):1<=r.2.1:=by
 grind [gz,dr]
theorem BJ {rows:List Row} {xs:List Tx} {o:Op} (ht:(sY rows xs o).2.1=true):CD xs o.2.1 (o.2.2.1.1,o.2.2.1.2.1,())=false/\(co rows o).2=0/\yH rows xs (o.2.2.1.1,o.2.2.1.2.1,())<=12/\pF xs < 12/\((co rows o).1.1&&((co rows o).1.2.2.1&&Ty.eq ay (co rows o).1.2.1 (co rows o).1.2.2.2.1))=false/\sY rows xs o=(0,true,(co rows o).1,()):=by
 unfold sY at ht ⊢;grind
theorem PN {p:Plain} (h:JY p) {o:Op} (BI:gz o.2.2.1=0) {j:Nat} (hj:j < List.length p.2.1) (ey:sc p.2.1 o.2.1=(j:Int)) (xf:(p.2.1[j]).1=o.2.1) (ht:(sY p.1 p.2.1 o).2.1=true) :
  AP p.2.1 o.2.1 (co p.1 o).1=((0:Int),uf p.2.1 j (co p.1 o).1,()):=by
 obtain ⟨r1,r2,r3,r4,r5,r6⟩:=BJ ht;obtain ⟨w1,w2,w3,w4⟩:=An h.pZ BI r2;have hk:jT (co p.1 o).1=(o.2.2.1.1,o.2.2.1.2.1,()):=by unfold jT;rw[w2];rfl
 have pP:Em (co p.1 o).1=0:=by
  grind [Em]
 have Na:∀ x ∈ (p.2.1:List Tx),x.1≠o.2.1->jy x.2.2.2.1 (o.2.2.1.1,o.2.2.1.2.1,())=false:=λx hx i7=>by
  grind [jy,CD,Al]
 have agy:¬ (qD p.2.1 (jT (co p.1 o).1)≠0/\qD p.2.1 (jT (co p.1 o).1)≠o.2.1):=by
  grind [XU]
 have zI:¬ (qD p.2.1 (jT (co p.1 o).1)=0/\12<=List.length (((p.2.1:List Tx).getD (sc p.2.1 o.2.1).toNat (0,[],[],[],())).2.2.2.1:List Key)):=by
  rintro ⟨a1,a2⟩;rw[ey,aD,dN,aB hj,iR] at a2;rw[hk] at a1;have hz:=XV a1 (λx hx=>(FH h.vh x hx).1) _ (aJ hj)
  have vD:((p.2.1[j]).2.2.2.1:List Key).Nodup:=by
   have:=I9 h.vh;grind [flatK]
  have Ry:¬ (o.2.2.1.2.1=0):=by have:=(S_ BI);omega
  have FZ:=FI ((o.2.2.1.1,o.2.2.1.2.1,())::(p.2.1[j]).2.2.2.1) (dd [] (nX p.1 p.2.1++Eu (o.2.2.1.1,o.2.2.1.2.1,()))) (cO.2 ⟨λhm=>(by rw[o6.2 hm] at hz;cases hz),vD⟩) (λq hq=>by
   grind [IY,Eu,nX,flatK])
  grind [yH]
 unfold AP;rw[aH h.vh,aN (by grind),aH pP,aN agy,aN Bys,aN zI,ey,aD]
abbrev Bl (k:Int):pe:=(k,(0:Int),(([]:List Row),([]:List Tx),(0:Int),()),())
def uL (p:Plain) (o:Op) (R:pe):Prop:=nu.ab (p,o,())=some (R,())/\lO.ab (p,o,())=some (R,())
theorem afz {p:Plain} {o:Op} (hp:Cg p) (h:¬ gq p=0):uL p o (Bl (gq p)):=by
 constructor
 ·refine ag (k:=0) λk _=>(nu.af k _).trans ?_;unfold nu.p;rw[Ah p hp];simp only[aA];rw[aK h,bO,aM]
 ·refine ag (k:=0) λk _=>(lO.af k _).trans ?_;unfold lO.p;rw[DP p hp];simp only[aA];rw[aK h,bO,aM,Ox];rfl
theorem adK {p:Plain} {o:Op} (hp:Cg p) (ho:rl o.2.2.1) (h:gq p=0) (h2:¬ (ei p.1 p.2.1 o).1=0):uL p o (Bl (ei p.1 p.2.1 o).1):=by
 constructor
 ·refine ag (k:=0) λk _=>(nu.af k _).trans ?_;unfold nu.p;rw[Ah p hp];simp only[aA];rw[h,aS rfl,aW,aE,CE _ _ _ hp.1 hp.2.1 hp.2.2 ho];simp only[aA];rw[aK h2,bO,aM]
 ·refine ag (k:=0) λk _=>(lO.af k _).trans ?_;unfold lO.p;rw[DP p hp];simp only[aA];rw[h,aS rfl,aW,aE,Hl _ _ _ hp.1 hp.2.1 hp.2.2 ho];simp only[aA];rw[aK h2,bO,aM,Ox];rfl
theorem Ez {p:Plain} {o:Op} {R:pe} (hp:Cg p) (ho:rl o.2.2.1) (h:gq p=0) (h2:(ei p.1 p.2.1 o).1=0)
  (hi:(bif decide (o.1=(1:Int)) then (bif decide (p.2.2.1=(100:Int)) then (some (Bl 9,()):Option nu.O) else if List.length p.2.1+[(p.2.2.1,([]:List Change),([]:List Int),([]:List Key),())].length<=be then (let y5:=p.2.1++[(p.2.2.1,([]:List Change),([]:List Int),([]:List Key),())];some (((0:Int),p.2.2.1,(p.1,y5,ae (p.2.2.1+(1:Int)),()),()),())) else none) else bif (ei p.1 p.2.1 o).2.1 then ((ke.ab ((p.1,p.2.1,p.2.2.1,()),[(ei p.1 p.2.1 o).2.2.1],())).bind λr6=>bif !decide (r6.1=(0:Int)) then (some (Bl r6.1,())) else (kH.ab (p.2.1,o.2.1,(ei p.1 p.2.1 o).2.2.1,())).bind λr7=>bif !decide (r7.1.1=(0:Int)) then (some (Bl r7.1.1,())) else some (((0:Int),(0:Int),(r6.2.1.1,r7.1.2.1,r6.2.1.2.2),()),())) else bif decide (o.1=(5:Int)) then ((pT.ab (p.2.1,o.2.1,())).bind λr8=>some (((0:Int),r8.2.1,(p.1,r8.1,p.2.2.1,()),()),())) else bif decide (o.1=(6:Int)) then ((np.ab (p.2.1,o,())).bind λr9=>(ke.ab ((p.1,p.2.1,p.2.2.1,()),r9.2.1,())).bind λqI=>bif !decide (qI.1=(0:Int)) then (some (Bl qI.1,())) else some (((0:Int),(0:Int),(qI.2.1.1,r9.1,qI.2.1.2.2),()),())) else bif decide (o.1=(8:Int)) then ((np.ab (p.2.1,o,())).bind λnJ=>(ke.ab ((p.1,p.2.1,p.2.2.1,()),nJ.2.1,())).bind λqb=>bif !decide (qb.1=(0:Int)) then (some (Bl qb.1,())) else some (((0:Int),(0:Int),(qb.2.1.1,nJ.1,qb.2.1.2.2),()),())) else bif decide (o.1=(7:Int)) then ((np.ab (p.2.1,o,())).bind λzg=>some (((0:Int),(0:Int),(p.1,zg.1,p.2.2.1,()),()),())) else some (((0:Int),(0:Int),(p.1,p.2.1,p.2.2.1,()),()),()))=some (R,()))
  (hs:kh.ab (p,o,ei p.1 p.2.1 o,())=some (R,())):uL p o R:=by
 constructor
 ·refine ag (k:=0) λk _=>(nu.af k _).trans ?_;unfold nu.p;rw[Ah p hp];simp only[aA];rw[h,aS rfl,aW,aE,CE _ _ _ hp.1 hp.2.1 hp.2.2 ho];simp only[aA];rw[h2,aS rfl,aW,aE,adJ hp.1 hp.2.2];exact hi
 ·refine ag (k:=0) λk _=>(lO.af k _).trans ?_;unfold lO.p;rw[DP p hp];simp only[aA];rw[h,aS rfl,aW,aE,Hl _ _ _ hp.1 hp.2.1 hp.2.2 ho];simp only[aA];rw[h2,aS rfl,aW,aE,hs];rfl
theorem sZ {p:Plain} {o:Op} (P:JY p) (h2:(ei p.1 p.2.1 o).1=0):qK o=0/\dr o.1 1 9=true/\ei p.1 p.2.1 o=oF p.1 p.2.1 o:=by
 have hr:nk p.1=0:=Hh P.pZ (by have:=P.len;omega);unfold ei at h2 ⊢;rw[aH hr,aH P.vh] at h2 ⊢;by_cases ho:qK o=0;rotate_left
 ·rw[aN ho] at h2;exact absurd h2 ho
 rw[aH ho];refine ⟨ho,?_,rfl⟩
 unfold qK at ho;split at ho
 ·cases ho
 ·rename_i hn;simp only[cN,jI,cB,Bool.not_eq_false] at hn
  simpa using hn.1.1.1.1
section
variable {p:Plain} {o:Op} (hp:Cg p) (ho:rl o.2.2.1) (h:gq p=0) (h2:(ei p.1 p.2.1 o).1=0)
include hp ho h h2
theorem afA (hk:o.1=1):(p.2.2.1=100/\uL p o (Bl 9))\/(¬ p.2.2.1=100/\uL p o ((0:Int),p.2.2.1,(p.1,p.2.1++[(p.2.2.1,([]:List Change),([]:List Int),([]:List Key),())],p.2.2.1+1,()),())):=by
 have P:=ic h;have hn:=P.next;unfold dr at hn;simp only[aC,bE] at hn;have po:=sZ P h2
 have l9:(ei p.1 p.2.1 o).2.1=false:=by
  rw[po.2.2];unfold oF;rw[aH hk];split <;> rfl
 have hl:=hp.2.2.1;have oc:List.length p.2.1+[(p.2.2.1,([]:List Change),([]:List Int),([]:List Key),())].length<=be:=cr (by simp only[bI,cE];omega);by_cases I_:p.2.2.1=100
 ·refine .inl ⟨I_,Ez hp ho h h2 ?_ ?_⟩
  ·rw[aS hk,aM,aS I_,aM]
  ·refine ag (k:=0) λk _=>(kh.af k _).trans ?_;unfold kh.p;rw[xE hp.1 hp.2.2];simp only[aA];rw[jc _ _ hl];simp only[aA];have:(100:Int)<=p.2.2.1:=by omega
   rw[aS hk,aM,aS this,aM,Ox];rfl
 ·have hw:ae (p.2.2.1+1)=p.2.2.1+1:=bf Bys;refine .inr ⟨I_,Ez hp ho h h2 ?_ ?_⟩
  ·rw[aS hk,aM,aK I_,aE,aH oc,hw]
  ·refine ag (k:=0) λk _=>(kh.af k _).trans ?_;unfold kh.p;rw[xE hp.1 hp.2.2];simp only[aA];rw[jc _ _ hl];simp only[aA];have:¬ (100:Int)<=p.2.2.1:=by omega
   rw[aS hk,aM,aK this,aE,aH oc,l9,aE,hw]
theorem abV (hk:o.1=1):∃ R,uL p o R/\(R=Bl 9\/∃ n m:Int,R=((0:Int),n,(p.1,p.2.1++[(n,([]:List Change),([]:List Int),([]:List Key),())],m,()),())):=by
 rcases afA hp ho h h2 hk with ⟨_,g⟩ | ⟨_,g⟩
 ·exact ⟨_,g,.inl rfl⟩
 ·exact ⟨_,g,.inr ⟨_,_,rfl⟩⟩
theorem aag (hk:o.1=7) {j:Nat} (hj:j < List.length p.2.1) (ey:sc p.2.1 o.2.1=(j:Int)):uL p o ((0:Int),(0:Int),(p.1,p.2.1.take j++p.2.1.drop (j+1),p.2.2.1,()),()):=by
 have P:=ic h;have po:=sZ P h2;have hl:=hp.2.2.1;have n1:¬ o.1=1:=by omega
 have n5:¬ o.1=5:=by omega
 have n6:¬ o.1=6:=by omega
 have n8:¬ o.1=8:=by omega
 have n9:¬ o.1=9:=by omega
 have l9:(ei p.1 p.2.1 o).2.1=false:=by
  rw[po.2.2];unfold oF;rw[aN n1,aN n9,aN Bys,aN n5,aN n6,aN (by unfold qJ;rw[hk];decide)]
 refine Ez hp ho h h2 ?_ ?_
 ·rw[aK n1,aE,l9,aE,aK n5,aE,aK n6,aE,aK n8,aE,aS hk,aM,yI hp.2.2 hj ey n6];rfl
 ·refine ag (k:=0) λk _=>(kh.af k _).trans ?_;unfold kh.p;rw[xE hp.1 hp.2.2];simp only[aA];rw[jc _ _ hl];simp only[aA];rw[aK n1,aE,aK n5,aE,aK n6,aE,aS hk,aM,ey,EY hl hj];simp only[aA];rw[l9,aE]
theorem abW (hk:o.1=8) {j:Nat} (hj:j < List.length p.2.1) (ey:sc p.2.1 o.2.1=(j:Int)):∃ t,Good t/\t.length<=24/\uL p o ((0:Int),(0:Int),(t,p.2.1.take j++p.2.1.drop (j+1),p.2.2.1,()),())/\gi p.1 (e8 (p.2.1[j]).2.1)=some t:=by
 have P:=ic h;have po:=sZ P h2;have hl:=hp.2.2.1;have n1:¬ o.1=1:=by omega
 have n5:¬ o.1=5:=by omega
 have n6:¬ o.1=6:=by omega
 have n7:¬ o.1=7:=by omega
 have n9:¬ o.1=9:=by omega
 have l9:(ei p.1 p.2.1 o).2.1=false:=by
  rw[po.2.2];unfold oF;rw[aN n1,aN n9,aN Bys,aN n5,aN n6,aN (by unfold qJ;rw[hk];decide)]
 obtain ⟨t,ht⟩:=tY P hj;have T:=ru P.vh;have hm:p.2.1[j] ∈ (p.2.1:List Tx):=aJ hj;have hu:=T.sE _ hm;have hc:=o_ (T.ch _ hm);have vz:=I2 (hp.2.2.2 _ hm).2.2.2;have hg:=uK _ _ _ P.pZ hc ht;have Ii:(e8 (p.2.1[j]).2.1).length<=12:=by rw[x_];exact hu
 have hPl:=P.len;refine ⟨t,hg.1,by omega,Ez hp ho h h2 ?_ ?_,ht⟩
 ·rw[aK n1,aE,l9,aE,aK n5,aE,aK n6,aE,aS hk,aM,yI hp.2.2 hj ey n6];simp only[aA];rw[LB (p:=(p.1,p.2.1,p.2.2.1,())) P.pZ P.len hc vz Ii ht];rfl
 ·refine ag (k:=0) λk _=>(kh.af k _).trans ?_;unfold kh.p;rw[xE hp.1 hp.2.2];simp only[aA];rw[jc _ _ hl];simp only[aA];have gb:(0:Int)<=(j:Int)/\(j:Int) < (List.length p.2.1:Int):=by omega
  have DS:(p.2.1:List Tx).set j p.2.1[j]=p.2.1:=eI hj;rw[aK n1,aE,aK n5,aE,aK n6,aE,aK n7,aE,aS hk,aM,ey,aH gb,aD];simp only[aB hj,aA,DS];rw[DO _ _ P.pZ (T.ch _ hm) Bys,ht];simp only[aA];rw[EY hl hj];simp only[aA];rw[l9,aE]
theorem adL (hk:o.1=5) {j:Nat} (hj:j < List.length p.2.1) (ey:sc p.2.1 o.2.1=(j:Int)):uL p o ((0:Int),(List.length (p.2.1[j]).2.2.1:Int),(p.1,p.2.1.set j (Am p.2.1[j]),p.2.2.1,()),()):=by
 have P:=ic h;have po:=sZ P h2;have hl:=hp.2.2.1;have n1:¬ o.1=1:=by omega
 have n9:¬ o.1=9:=by omega
 have hF:=h2;rw[po.2.2] at hF
 have l9:(ei p.1 p.2.1 o).2.1=false:=by
  rw[po.2.2];unfold oF;rw[aN n1,aN n9,aN Bys,aH hk];split <;> rfl
 have PO:List.length (p.2.1[j]).2.2.1<=8:=by
  unfold oF at hF;rw[aN n1,aN n9,aN Bys,aH hk] at hF;split at hF
  ·cases hF
  ·rename_i hn;unfold yA at hn;rw[ey,aD,aB hj] at hn;simp only[bE] at hn;omega
 refine Ez hp ho h h2 ?_ ?_
 ·rw[aK n1,aE,l9,aE,aS hk,aM,HM hp.2.2 hj ey PO];rfl
 ·refine ag (k:=0) λk _=>(kh.af k _).trans ?_;unfold kh.p;rw[xE hp.1 hp.2.2];simp only[aA];rw[jc _ _ hl];simp only[aA];have gb:(0:Int)<=(j:Int)/\(j:Int) < (List.length p.2.1:Int):=by omega
  have DS:(p.2.1:List Tx).set j p.2.1[j]=p.2.1:=eI hj;have c1:List.length (p.2.1[j]).2.2.1+[(List.length (p.2.1[j]).2.1:Int)].length<=be:=cr (by simp only[bI,cE];omega);rw[aK n1,aE,aS hk,aM,ey];simp only[gb,cP,aL,aD,aB hj,aA,DS];rw[aH c1];rw[l9,aE];rfl
end
theorem Ta {n:Int}:∀ (ms:List Int) (i:Nat) (last:Int),0<=last->bu (λ_ last m=>if dr m last n then .inr m else .inl false) (λ_=>true) i ms last=true->∀ m ∈ ms,0<=m/\m<=n
 | [],_,_,_,_,_,h=>by cases h
 | x::ms,i,last,h0,h,m,hm=>by
  simp only[bu] at h;by_cases hx:dr x last n=true
  ·rw[aH hx] at h;unfold dr at hx;simp only[aC,bE] at hx;rcases aZ.1 hm with h1 | h1
   ·rw[h1];omega
   ·exact Ta ms (i+1) x Bys h m h1
  ·rw[aN hx] at h;cases h
theorem Tb {x:Tx} (h:vg x=0):∀ m ∈ (x.2.2.1:List Int),0<=m/\m<=(List.length x.2.1:Int):=by
 unfold vg at h;split at h
 ·unfold uD at h;split at h
  ·cases h
  ·split at h
   ·rename_i hm;exact Ta _ 0 0 (dH 0) hm
   ·cases h
 ·rename_i hn;exact absurd h hn
section
variable {p:Plain} {o:Op} (hp:Cg p) (ho:rl o.2.2.1) (h:gq p=0) (h2:(ei p.1 p.2.1 o).1=0)
include hp ho h h2
theorem adM (hk:o.1=6) {j:Nat} (hj:j < List.length p.2.1) (ey:sc p.2.1 o.2.1=(j:Int)):∃ (t:List Row) (n m:Nat),Good t/\t.length<=24/\uL p o ((0:Int),(0:Int),(t,p.2.1.set j (yU p.2.1[j] n m),p.2.2.1,()),())/\o.2.2.2.1=(m:Int)/\(p.2.1[j]).2.2.1[m]?=some (n:Int)/\n<=List.length (p.2.1[j]).2.1/\gi p.1 (e8 ((p.2.1[j]).2.1.drop n))=some t:=by
 have P:=ic h;have po:=sZ P h2;have hl:=hp.2.2.1;have n1:¬ o.1=1:=by omega
 have n5:¬ o.1=5:=by omega
 have n9:¬ o.1=9:=by omega
 have hF:=h2;rw[po.2.2] at hF
 have l9:(ei p.1 p.2.1 o).2.1=false:=by
  rw[po.2.2];unfold oF;rw[aN n1,aN n9,aN Bys,aN n5,aH hk];split <;> rfl
 have hmk:o.2.2.2.1 < (List.length (p.2.1[j]).2.2.1:Int):=by
  unfold oF at hF;rw[aN n1,aN n9,aN Bys,aN n5,aH hk] at hF;split at hF
  ·cases hF
  ·rename_i hn;unfold yA at hn;rw[ey,aD,aB hj] at hn;simp only[bE] at hn;omega
 have hm0:0<=o.2.2.2.1:=by
  have:=po.1;unfold qK at this;split at this
  ·cases this
  ·split at this
   ·cases this
   ·rename_i hn;simp only[cN,jI,cB,Bool.not_eq_false] at hn;have h3:=hn.2;unfold dr at h3;simp only[aC,bE] at h3;exact h3.1
 have T:=ru P.vh;have hm:p.2.1[j] ∈ (p.2.1:List Tx):=aJ hj
 obtain ⟨m,Av⟩:∃ m:Nat,o.2.2.2.1=(m:Int):=⟨o.2.2.2.1.toNat,by omega⟩
 have HN:m < List.length (p.2.1[j]).2.2.1:=by omega
 have hmm:=Tb (FH P.vh _ hm).2 _ (aJ HN)
 obtain ⟨n,i7⟩:∃ n:Nat,(p.2.1[j]).2.2.1[m]=(n:Int):=⟨((p.2.1[j]).2.2.1[m]).toNat,by omega⟩
 have hn:(p.2.1[j]).2.2.1[m]?=some (n:Int):=by rw[aB HN,i7]
 have vA:n<=List.length (p.2.1[j]).2.1:=by omega
 obtain ⟨t0,Hz⟩:=tY P hj;obtain ⟨t,ht⟩:=PL Hz n;have hu:=T.sE _ hm;have Ch:∀ c ∈ (p.2.1[j]).2.1.drop n,lg c=0:=λc hc=>T.ch _ hm c (bZ hc);have hc:=o_ Ch;have vz:=I2 (λc hc=>(hp.2.2.2 _ hm).2.2.2 c (bZ hc:c ∈ (p.2.1[j]).2.1):∀ c ∈ (p.2.1[j]).2.1.drop n,cl c);have hg:=uK _ _ _ P.pZ hc ht;have Ii:(e8 ((p.2.1[j]).2.1.drop n)).length<=12:=by rw[x_,cC];omega
 have hPl:=P.len;refine ⟨t,n,m,hg.1,by omega,Ez hp ho h h2 ?_ ?_,Av,hn,vA,ht⟩
 ·rw[aK n1,aE,l9,aE,aK n5,aE,aS hk,aM,FF hp.2.2 hj ey hk Av HN hn vA];simp only[aA];rw[LB (p:=(p.1,p.2.1,p.2.2.1,())) P.pZ P.len hc vz Ii ht];rfl
 ·refine ag (k:=0) λk _=>(kh.af k _).trans ?_;unfold kh.p;rw[xE hp.1 hp.2.2];simp only[aA];rw[jc _ _ hl];simp only[aA];have gb:(0:Int)<=(j:Int)/\(j:Int) < (List.length p.2.1:Int):=by omega
  have DS:(p.2.1:List Tx).set j p.2.1[j]=p.2.1:=eI hj;rw[aK n1,aE,aK n5,aE,aS hk,aM,ey,aH gb,aD];simp only[aB hj,aA,DS];rw[Av,XW (hp.2.2.2 _ hm) HN hn vA];simp only[aA];rw[DO _ _ P.pZ Ch (by rw[cC];omega),ht];simp only[aA];rw[l9,aE]
theorem VQ (n1:¬ o.1=1) (n5:¬ o.1=5) (n6:¬ o.1=6) (n7:¬ o.1=7) (n8:¬ o.1=8) (l9:(ei p.1 p.2.1 o).2.1=false):uL p o ((0:Int),(0:Int),(p.1,p.2.1,p.2.2.1,()),()):=by
 have hl:=hp.2.2.1;refine Ez hp ho h h2 ?_ ?_
 ·rw[aK n1,aE,l9,aE,aK n5,aE,aK n6,aE,aK n8,aE,aK n7,aE]
 ·refine ag (k:=0) λk _=>(kh.af k _).trans ?_;unfold kh.p;rw[xE hp.1 hp.2.2];simp only[aA];rw[jc _ _ hl];simp only[aA];rw[aK n1,aE,aK n5,aE,aK n6,aE,aK n7,aE,aK n8,aE,l9,aE]
theorem adN (hk:qJ o.1=true) {j:Nat} (hj:j < List.length p.2.1) (ey:sc p.2.1 o.2.1=(j:Int)) (xf:(p.2.1[j]).1=o.2.1) (l9:(ei p.1 p.2.1 o).2.1=true):Good (nC p.1 (co p.1 o).1)/\(nC p.1 (co p.1 o).1).length<=24/\uL p o ((0:Int),(0:Int),(nC p.1 (co p.1 o).1,uf p.2.1 j (co p.1 o).1,p.2.2.1,()),()):=by
 have P:=ic h;have po:=sZ P h2;have hl:=hp.2.2.1
 have OS:o.1=2\/o.1=3\/o.1=4:=by
  unfold qJ at hk
  simpa using hk
 have n1:¬ o.1=1:=by omega
 have n5:¬ o.1=5:=by omega
 have n6:¬ o.1=6:=by omega
 have n7:¬ o.1=7:=by omega
 have n8:¬ o.1=8:=by omega
 have n9:¬ o.1=9:=by omega
 have hF:oF p.1 p.2.1 o=sY p.1 p.2.1 o:=by
  unfold oF;rw[aN n1,aN n9,aN Bys,aN n5,aN n6,aH hk]
 have BI:gz o.2.2.1=0:=by
  have:=po.1;unfold qK at this;split at this
  ·cases this
  ·split at this
   ·cases this
   ·exact this
 have ht:(sY p.1 p.2.1 o).2.1=true:=by rw[<-hF,<- po.2.2];exact l9
 obtain ⟨r1,r2,r3,r4,r5,r6⟩:=BJ ht;obtain ⟨w1,w2,w3,w4⟩:=An P.pZ BI r2;have R7:ei p.1 p.2.1 o=(0,true,(co p.1 o).1,()):=by rw[po.2.2,hF,r6]
 have hN:=PN P BI hj ey xf ht
 have hb:gi p.1 [(co p.1 o).1]=some (nC p.1 (co p.1 o).1):=by
  simp only[gi,w3,aL]
 have hPl:=P.len;have hdl:=Dz p.1 (co p.1 o).1;have HC:=rL P.pZ w1;refine ⟨HC,by omega,Ez hp ho h h2 ?_ ?_⟩
 ·rw[R7];simp only;rw[aK n1,aE,aM,LB (p:=(p.1,p.2.1,p.2.2.1,())) P.pZ P.len (λc hc=>by rw[bC] at hc;rw[hc];exact w1) (λc hc=>by rw[bC] at hc;rw[hc];exact w4) (by simp) hb];simp only[aA];rw[I7 _ _ _ hp.2.2 w4,hN];rfl
 ·refine ag (k:=0) λk _=>(kh.af k _).trans ?_;unfold kh.p;rw[xE hp.1 hp.2.2];simp only[aA];rw[jc _ _ hl,R7];simp only[aA];rw[aK n1,aE,aK n5,aE,aK n6,aE,aK n7,aE,aK n8,aE,aM,Po _ _ P.pZ.1 Bys (pw w1).1,w3];simp only[aA,aL];rw[ey,KB _ _ _ hp.2.2 hj];rfl
end
theorem JZ {e:Ty} (xs:List e.den) (n:Nat):zz (.aa e) (xs.take n)<=zz (.aa e) xs/\zz (.aa e) (xs.drop n)<=zz (.aa e) xs:=by
 have:=su (e:=e) (xs.take n) (xs.drop n);rw[cA] at this;omega
theorem Nh (rows:List Row) (o:Op):zz au (co rows o).1<=zz (.aa ay) rows+zz l7 o:=by
 have hc:∀ (a b:Bool) (x y:Row),zz au (a,x,b,y,())=zz ay x+zz ay y:=λa b x y=>by
  show 0+(zz ay x+(0+(zz ay y+0)))=_;omega
 have ho:zz l7 o=0+(0+(zz ay o.2.2.1+(0+0))):=rfl;have h0:zz ay Ew=0:=rfl;unfold co;simp only;split
 ·exact aX _
 split
 ·exact aX _
 refine bB (dI (hc _ _ _ _)) ?_
 have h1:∀ r:Row,(r=Ew\/r ∈ rows)->zz ay r<=zz (.aa ay) rows:=λr hr=>by
  rcases hr with hr | hr
  ·rw[hr];exact aX _
  ·have:zz ay r+1<=zz (.aa ay) rows:=Iq (e:=ay) hr;omega
 refine Nat.add_le_add (h1 _ ?_) ?_
 ·split
  ·cases hg:rows[pos rows (o.2.2.1.1,o.2.2.1.2.1)]? with
   | none=>exact .inl rfl
   | some x=>exact .inr (bT hg)
  ·exact .inl rfl
 ·split
  ·exact aX _
  ·omega
theorem LC {e:Ty} (xs:List e.den) (j:Nat) (hj:j < xs.length):zz (.aa e) xs=zz (.aa e) (xs.take j)+(zz e xs[j]+1)+zz (.aa e) (xs.drop (j+1)):=by
 have h1:=su (e:=e) (xs.take j) (xs.drop j);rw[cA] at h1;have h2:=Vk (e:=e) xs[j] (xs.drop (j+1));rw[<-cI hj] at h2;omega
theorem VR {e:Ty} (xs:List e.den) (j:Nat) (hj:j < xs.length) (y:e.den):zz (.aa e) (xs.set j y)+zz e xs[j]=zz (.aa e) xs+zz e y:=by
 have h1:=LC xs j hj;have h2:=LC (xs.set j y) j (by rw[bW];exact hj);rw[gH,gU (aG _),gV (Nat.lt_succ_self _)] at h2;have h3:zz (.aa e) (xs.drop j.succ)=zz (.aa e) (xs.drop (j+1)):=rfl;omega
theorem VS {e:Ty} (xs:List e.den) (j:Nat) (hj:j < xs.length):zz (.aa e) (xs.take j++xs.drop (j+1))+(zz e xs[j]+1)=zz (.aa e) xs:=by
 have h1:=LC xs j hj;have h2:=su (e:=e) (xs.take j) (xs.drop (j+1));omega
theorem Oy {p:Plain} {o:Op} (hp:Cg p) (ho:rl o.2.2.1):∃ R,uL p o R/\zz k_ R<=zz kE p+3000:=by
 have hz0:zz kE p=zz (.aa ay) p.1+(zz (.aa bm) p.2.1+(0+0)):=rfl
 have hR:∀ (c v n:Int) (rows:List Row) (xs:List Tx),zz k_ (c,v,(rows,xs,n,()),())=zz (.aa ay) rows+zz (.aa bm) xs:=λc v n rows xs=>by
  show 0+(0+((zz (.aa ay) rows+(zz (.aa bm) xs+(0+0)))+0))=_;omega
 have Ja:∀ c:Int,zz k_ (Bl c)<=zz kE p+3000:=λc=>aX _;by_cases h:gq p=0;rotate_left
 ·exact ⟨_,afz hp h,Ja _⟩
 by_cases h2:(ei p.1 p.2.1 o).1=0;rotate_left
 ·exact ⟨_,adK hp ho h h2,Ja _⟩
 have P:=ic h;obtain ⟨c1,c2,c3⟩:=sZ P h2
 have QF:∀ t:List Row,Good t->t.length<=24->zz (.aa ay) t<=1000:=λt hg hl=>by
  have:=On (xs:=t) hg.2;omega
 by_cases k1:o.1=1
 ·obtain ⟨R,hs,hr | ⟨n,m,hr⟩⟩:=abV hp ho h h2 k1
  ·exact ⟨R,hs,by rw[hr];exact Ja _⟩
  ·refine ⟨R,hs,?_⟩
   rw[hr];refine bB (dI (hR _ _ _ _ _)) ?_;have h1:zz (.aa bm) (p.2.1++[(n,([]:List Change),([]:List Int),([]:List Key),())])=zz (.aa bm) p.2.1+1:=su (e:=bm) p.2.1 [(n,([]:List Change),([]:List Int),([]:List Key),())];omega
 by_cases k9:o.1=9
 ·refine ⟨_,VQ hp ho h h2 Bys Bys Bys Bys Bys ?_,?_⟩
  ·rw[c3];unfold oF;rw[aN k1,aH k9]
  ·refine bB (dI (hR _ _ _ _ _)) ?_;omega
 have hF:=h2;rw[c3] at hF
 have Tc:¬ sc p.2.1 o.2.1 < 0:=λhn=>by
  unfold oF at hF;rw[aN k1,aN k9,aH hn] at hF;cases hF
 obtain ⟨j,hj,ey,xf⟩:=at_mem Tc;have hzx:zz bm p.2.1[j]+1<=zz (.aa bm) p.2.1:=Iq (e:=bm) (aJ hj);have agz:zz (.aa bm) (p.2.1.take j++p.2.1.drop (j+1))+(zz bm p.2.1[j]+1)=zz (.aa bm) p.2.1:=VS (e:=bm) p.2.1 j hj;have yL:∀ y:Tx,zz (.aa bm) ((p.2.1:List Tx).set j y)+zz bm p.2.1[j]=zz (.aa bm) p.2.1+zz bm y:=λy=>VR (e:=bm) p.2.1 j hj y;have aiG:zz (.aa ay) p.1<=1000:=QF p.1 P.pZ (by have:=P.len;omega);by_cases k5:o.1=5
 ·refine ⟨_,adL hp ho h h2 k5 hj ey,?_⟩
  refine bB (dI (hR _ _ _ _ _)) ?_;have a:=yL (Am p.2.1[j])
  have b:zz bm (Am p.2.1[j])<=zz bm p.2.1[j]+10:=by
   have c:zz (.aa i64) ((p.2.1[j]).2.2.1++[(List.length (p.2.1[j]).2.1:Int)])=zz (.aa i64) (p.2.1[j]).2.2.1+1:=su (e:=i64) (p.2.1[j]).2.2.1 [(List.length (p.2.1[j]).2.1:Int)];have d:zz bm (Am p.2.1[j])=0+(zz (.aa au) (p.2.1[j]).2.1+(zz (.aa i64) ((p.2.1[j]).2.2.1++[(List.length (p.2.1[j]).2.1:Int)])+(zz (.aa bk) (p.2.1[j]).2.2.2.1+0))):=rfl;have e:zz bm p.2.1[j]=0+(zz (.aa au) (p.2.1[j]).2.1+(zz (.aa i64) (p.2.1[j]).2.2.1+(zz (.aa bk) (p.2.1[j]).2.2.2.1+0))):=rfl;omega
  omega
 by_cases k6:o.1=6
 ·obtain ⟨t,n,m,hg,hl,hs,_⟩:=adM hp ho h h2 k6 hj ey;refine ⟨_,hs,?_⟩
  refine bB (dI (hR _ _ _ _ _)) ?_;have:=QF t hg hl;have a:=yL (yU p.2.1[j] n m)
  have b:zz bm (yU p.2.1[j] n m)<=zz bm p.2.1[j]:=by
   have c:zz (.aa au) ((p.2.1[j]).2.1.take n)<=zz (.aa au) (p.2.1[j]).2.1:=(JZ (e:=au) (p.2.1[j]).2.1 n).1;have c':zz (.aa i64) ((p.2.1[j]).2.2.1.take (m+1))<=zz (.aa i64) (p.2.1[j]).2.2.1:=(JZ (e:=i64) (p.2.1[j]).2.2.1 (m+1)).1;have d:zz bm (yU p.2.1[j] n m)=0+(zz (.aa au) ((p.2.1[j]).2.1.take n)+(zz (.aa i64) ((p.2.1[j]).2.2.1.take (m+1))+(zz (.aa bk) (p.2.1[j]).2.2.2.1+0))):=rfl;have e:zz bm p.2.1[j]=0+(zz (.aa au) (p.2.1[j]).2.1+(zz (.aa i64) (p.2.1[j]).2.2.1+(zz (.aa bk) (p.2.1[j]).2.2.2.1+0))):=rfl;omega
  omega
 by_cases k7:o.1=7
 ·refine ⟨_,aag hp ho h h2 k7 hj ey,?_⟩
  refine bB (dI (hR _ _ _ _ _)) ?_;omega
 by_cases k8:o.1=8
 ·obtain ⟨t,hg,hl,hs,_⟩:=abW hp ho h h2 k8 hj ey;refine ⟨_,hs,?_⟩
  refine bB (dI (hR _ _ _ _ _)) ?_;have:=QF t hg hl;omega
 have I6:qJ o.1=true:=by
  unfold dr at c2;simp only[aC,bE] at c2;have:o.1=2\/o.1=3\/o.1=4:=by omega
  unfold qJ
  simpa using this
 cases ht:(ei p.1 p.2.1 o).2.1 with
 | false=>
  refine ⟨_,VQ hp ho h h2 k1 k5 k6 k7 k8 ht,?_⟩
  refine bB (dI (hR _ _ _ _ _)) ?_;omega
 | true=>
  obtain ⟨hg,hl,hs⟩:=adN hp ho h h2 I6 hj ey xf ht;refine ⟨_,hs,?_⟩
  refine bB (dI (hR _ _ _ _ _)) ?_;have:=QF _ hg hl;unfold uf;rw[aB hj];simp only;have a:=yL (ue p.2.1[j] (co p.1 o).1)
  have b:zz bm (ue p.2.1[j] (co p.1 o).1)<=zz bm p.2.1[j]+1020:=by
   have hw:=Nh p.1 o
   have Rk:zz l7 o<=8:=by
    have h1:gz o.2.2.1=0:=by
     have:=c1;unfold qK at this;split at this
     ·cases this
     ·split at this
      ·cases this
      ·simpa [I6] using this
    have h2:=zi h1;have h3:zz l7 o=0+(0+((0+(0+(0+(List.length o.2.2.1.2.2.2.1+0))))+(0+0))):=rfl;omega
   have c:zz (.aa au) ((p.2.1[j]).2.1++[(co p.1 o).1])=zz (.aa au) (p.2.1[j]).2.1+zz (.aa au) [(co p.1 o).1]:=su (e:=au) _ _;have c2:zz (.aa au) [(co p.1 o).1]=1+(zz au (co p.1 o).1+0):=rfl;have d:zz bm (ue p.2.1[j] (co p.1 o).1)=0+(zz (.aa au) ((p.2.1[j]).2.1++[(co p.1 o).1])+(zz (.aa i64) (p.2.1[j]).2.2.1+(zz (.aa bk) (if jy (p.2.1[j]).2.2.2.1 (jT (co p.1 o).1) then (p.2.1[j]).2.2.2.1 else (p.2.1[j]).2.2.2.1++[jT (co p.1 o).1])+0))):=rfl;have e:zz bm p.2.1[j]=0+(zz (.aa au) (p.2.1[j]).2.1+(zz (.aa i64) (p.2.1[j]).2.2.1+(zz (.aa bk) (p.2.1[j]).2.2.2.1+0))):=rfl
   have f0:∀ (b:Bool) (L:List Key) (q:Key),zz (.aa bk) (if b=true then L else L++[q])<=zz (.aa bk) L+1:=λb L q=>by
    cases b
    ·exact dI (su (e:=bk) L [q])
    ·exact Nat.le_succ _
   have f:=f0 (jy (p.2.1[j]).2.2.2.1 (jT (co p.1 o).1)) (p.2.1[j]).2.2.2.1 (jT (co p.1 o).1);omega
  omega
theorem Td {p:Plain} (hz:zz kE p<=1048576):Cg p:=by
 obtain ⟨rows,xs,n,⟨⟩⟩:=p;replace hz:zz (.aa ay) rows+(zz (.aa bm) xs+(0+0))<=1048576:=hz
 have vv:∀ r:Row,zz ay r<=1048576->rl r:=λr h=>by
  have h3:zz ay r=0+(0+(0+(List.length r.2.2.2.1+0))):=rfl;grind [rl,an]
 refine ⟨bB (Dp (e:=ay) rows) Bys,λx hm=>vv x ?_,bB (Dp (e:=bm) xs) Bys,λx hm=>?_⟩
 ·have:zz ay x+1<=zz (.aa ay) rows:=Iq (e:=ay) hm;omega
 have h1:zz bm x+1<=zz (.aa bm) xs:=Iq (e:=bm) hm;have h2:zz bm x=0+(zz (.aa au) x.2.1+(zz (.aa i64) x.2.2.1+(zz (.aa bk) x.2.2.2.1+0))):=rfl;have h3:List.length x.2.1<=zz (.aa au) x.2.1:=Dp (e:=au) x.2.1;have h4:List.length x.2.2.1<=zz (.aa i64) x.2.2.1:=Dp (e:=i64) x.2.2.1;have h5:List.length x.2.2.2.1<=zz (.aa bk) x.2.2.2.1:=Dp (e:=bk) x.2.2.2.1;refine ⟨by omega,by omega,by omega,λc hc=>?_⟩
 have h6:zz au c+1<=zz (.aa au) x.2.1:=Iq (e:=au) hc;have h7:zz au c=0+(zz ay c.2.1+(0+(zz ay c.2.2.2.1+0))):=rfl;exact ⟨vv _ Bys,vv _ Bys⟩
def Oz (s:iu) (R:pe):iu:=if R.1=0 then (s.1,s.2.1++[R.1],s.2.2.1++[R.2.1],R.2.2.1,s.2.2.2.2) else (s.1,s.2.1++[R.1],s.2.2.1++[R.2.1],s.2.2.2)
noncomputable def DT (s:iu) (o:Op):iu:=match nu.ab (s.2.2.2.1,o,()) with
 | some R=>Oz s R.1
 | none=>s
abbrev abX:iu:=((0:Int),([]:List Int),([]:List Int),(([]:List Row),([]:List Tx),(1:Int),()),())
noncomputable def XX (xs:List Op):iu:=if 60 < xs.length then ((2:Int),([]:List Int),([]:List Int),(([]:List Row),([]:List Tx),(0:Int),()),()) else xs.foldl DT abX
def Te (i:Nat) (s:iu):Prop:=List.length s.2.1=i/\List.length s.2.2.1=i/\zz kE s.2.2.2.1<=3000*i
theorem Hn {i:Nat} {s:iu} {o:Op} (h:Te i s) (hi:i<=60) (ho:rl o.2.2.1):∃ R,uL s.2.2.2.1 o R/\DT s o=Oz s R/\Te (i+1) (Oz s R):=by
 obtain ⟨h1,h2,h3⟩:=h;obtain ⟨R,hs,hz⟩:=Oy (p:=s.2.2.2.1) (o:=o) (Td Bys) ho;refine ⟨R,hs,?_,?_⟩
 ·unfold DT;rw[hs.1]
 ·have hz0:zz k_ R=0+(0+(zz kE R.2.2.1+0)):=rfl;grind [Oz,Te]
theorem XY (xs:List Op) (hx:xs.length<=1048576) (h:∀ o ∈ xs,rl o.2.2.1):mg.ab (xs,())=some (XX xs,()):=by
 refine ag (k:=100) λk hk=>(mg.af k _).trans ?_;unfold mg.p XX;rw[show (60:Int)=((60:Nat):Int) from rfl];simp only[QB];by_cases hl:60 < xs.length
 ·simp[hl]
 simp only[hl,aI,aE,aU]
 have:=cy (B:=λself v=>mg.b0 self (λz=>mg.q0 (xs,()) z) (xs,()) v) xs (λ(s:iu) (i:Int)=>(s,i)) (λ_ s o=>.inr (DT s o)) (λs=>(s,())) Te (by rw[an];omega)
  (λi hi s self hI=>by
   show mg.b0 _ _ _ _=_;obtain ⟨R,hs,he,hn⟩:=Hn hI Bys (h _ (aJ hi));unfold mg.b0;have bc:(i:Int) < (xs.length:Int):=by omega
   have c1:∀ y:Int,s.2.1.length+[y].length<=be:=λy=>cr (by have:=hI.1;grind);have c2:∀ y:Int,s.2.2.1.length+[y].length<=be:=λy=>cr (by have:=hI.2.1;grind);simp only[bc,aP,aM,aR,aL,aD,aB hi,aA,hs.1,he,c1,c2]
   grind [Oz])
  (λi hi s s' hI hf=>by
   grind [Hn]) (λs self _=>by
   show mg.b0 _ _ _ _=_;unfold mg.b0;simp only[aY,aI,aE]
   rfl) abX ⟨rfl,rfl,aG _⟩ k Bys
 rw[ik] at this;exact this
theorem XZ (xs:List Op) (hx:xs.length<=1048576) (h:∀ o ∈ xs,rl o.2.2.1):mn.ab (xs,())=some (XX xs,()):=by
 refine ag (k:=100) λk hk=>(mn.af k _).trans ?_;unfold mn.p XX;rw[show (60:Int)=((60:Nat):Int) from rfl];simp only[QB];by_cases hl:60 < xs.length
 ·simp[hl]
 simp only[hl,aI,aE,aU]
 have:=cy (B:=λself v=>mn.b0 self (λz=>mn.q0 (xs,()) z) (xs,()) v) xs (λ(s:iu) (i:Int)=>(s,i)) (λ_ s o=>.inr (DT s o)) (λs=>(s,())) Te (by rw[an];omega)
  (λi hi s self hI=>by
   show mn.b0 _ _ _ _=_;obtain ⟨R,hs,he,hn⟩:=Hn hI Bys (h _ (aJ hi));unfold mn.b0;have bc:(i:Int) < (xs.length:Int):=by omega
   have c1:∀ y:Int,s.2.1.length+[y].length<=be:=λy=>cr (by have:=hI.1;grind);have c2:∀ y:Int,s.2.2.1.length+[y].length<=be:=λy=>cr (by have:=hI.2.1;grind);simp only[bc,aP,aM,aR,aL,aD,aB hi,aA,hs.2,he,c1,c2]
   grind [Oz])
  (λi hi s s' hI hf=>by
   grind [Hn]) (λs self _=>by
   show mn.b0 _ _ _ _=_;unfold mn.b0;simp only[aY,aI,aE]
   rfl) abX ⟨rfl,rfl,aG _⟩ k Bys
 rw[ik] at this;exact this
def Gv {O:Type} (P:O->Prop) (x:Option O):Prop:=∃ y,x=some y/\P y
theorem Gv.some {O:Type} {P:O->Prop} {y:O} (h:P y):Gv P (some y):=⟨y,rfl,h⟩
theorem Gv.bif {O:Type} {P:O->Prop} {c:Bool} {x y:Option O} (h1:c=true->Gv P x) (h2:c=false->Gv P y):Gv P (bif c then x else y):=by
 grind
theorem Gv.bind {O Q:Type} {P:O->Prop} {R:Q->Prop} {x:Option Q} {f:Q->Option O} (h:Gv R x) (h2:∀ y,R y->Gv P (f y)):Gv P (x.bind f):=by
 obtain ⟨y,e,hy⟩:=h;grind
theorem Gv.ite {O:Type} {P:O->Prop} {c:Prop} [Decidable c] {x y:Option O} (hc:c) (h:Gv P x):Gv P (if c then x else y):=by
 grind
theorem Gv.get {O α:Type} {P:O->Prop} {l:List α} {i:Nat} {f:α->Option O} (hi:i < l.length) (h:∀ x,l[i]?=Option.some x->x ∈ l->Gv P (f x)):Gv P ((l[i]?).bind f):=by
 grind
theorem Gv.next {O:Type} {P:O->Prop} {s:fl} {b n:Int} {f:Int×fl×Unit->Option O} (h:kD s b) (hb:b<=1000000) (hn:1<=n) (Ig:n<=1000000) (h2:∀ v t,0<=v->v < n->kD t (b+1)->Gv P (f (v,t,()))):Gv P ((cb.ab (s,n,())).bind f):=by
 grind [vK]
theorem Gv.aah {O:Type} {P:O->Prop} {s:fl} {b n:Int} {f:Bool×fl×Unit->Option O} (h:kD s b) (hb:b<=1000000) (hn:1<=n) (Ig:n<=1000000) (h2:∀ v t,kD t (b+1)->Gv P (f (v,t,()))):Gv P ((p6.ab (s,n,())).bind f):=by
 grind [Z6]
theorem Gv.pick {O:Type} {P:O->Prop} {s:fl} {b:Int} {l:List Int} {f:Int×fl×Unit->Option O} (h:kD s b) (hb:b<=1000000) (hn:1<=l.length) (Ig:l.length<=1000000) (h2:∀ v t,v ∈ l->kD t (b+1)->Gv P (f (v,t,()))):Gv P ((di.ab (s,l,())).bind f):=by
 grind [CN]
def abY (rows:List Row) (r:Row):Prop:=List.length r.2.2.2.1<=9/\((∀ x ∈ rows,gz x=0)->gz r=0)
def Ni (rows:List Row) (B:Int) (y:Op×fl×Unit):Prop:=List.length y.1.2.2.1.2.2.2.1<=9/\kD y.2.1 B/\dr y.1.1 1 9=true/\((∀ x ∈ rows,gz x=0)->qJ y.1.1=true->gz y.1.2.2.1=0)
theorem FJ {a b c:Int} {x:List UInt8} (h1:0<=a/\a<=3) (h2:1<=b/\b<=99) (h3:0<=c/\c<=999) (h4:A_ x=true):gz (a,b,c,x,())=0:=by
 grind [gz,dr]
set_option maxRecDepth 20000 in
theorem PP {s:fl} {b:Int} {rows:List Row} {ts:List Tx} (h:kD s b) (hb:b<=500000) (hr:rows.length<=1000000) (ht:ts.length<=1000000):Gv (Ni rows (b+40)) (oY.ab (s,rows,ts,())):=by
 suffices hq:Gv (Ni rows (b+40)) (oY.p (s,rows,ts,())) by
  obtain ⟨y,e,hy⟩:=hq;exact ⟨y,ag (k:=0) λk _=>(oY.af k _).trans e,hy⟩
 unfold oY.p;refine Gv.next h Bys Bys Bys λv1 t1 a1 c1 s1=>?_
 extract_lets j1
 have h1:∀ (p:fl) (q:Int),kD p (b+5)->Gv (Ni rows (b+40)) (j1 p q):=λp q s2=>by
  show Gv _ ((pU.ab (p,())).bind _);obtain ⟨r,t3,e3,UV,s3⟩:=M_ s2 Bys;have UU:=PC UV;obtain ⟨y1,y2,y3,y4⟩:=wS UV;rw[e3,aA];refine Gv.pick s3 Bys (by simp) (by simp) λv4 t4 m4 s4=>?_
  extract_lets j3 j2
  have h3:∀ (p3:fl) (q3:Row),kD p3 (b+25)->abY rows q3->Gv (Ni rows (b+40)) (j3 p3 q3):=λp3 q3 s6 hq3=>by
   dsimp -zeta only [j3]
   extract_lets j4
   have h4:∀ q4:Row,abY rows q4->Gv (Ni rows (b+40)) (j4 q4):=λq4 hq4=>by
    show Gv _ ((cb.ab (p3,(12:Int),())).bind _);refine Gv.next s6 Bys Bys Bys λv7 t7 a7 c7 s7=>?_;have m7:kD t7 (b+40):=s7.mono Bys;have hb8:b+25+1+1<=b+40:=by omega
    have Ie:b+25+1<=1000000:=by omega
    have kz:∀ (k a m:Int),dr k 1 9=true->qJ k=false->Ni rows (b+40) ((k,a,((0:Int),(0:Int),(0:Int),([]:List UInt8),()),m,()),t7,()):=λk a m h1 h2=>⟨aX _,m7,h1,λ_ h=>by rw[show qJ k=true from h] at h2;cases h2⟩
    have kr:∀ (k a m:Int),dr k 1 9=true->Ni rows (b+40) ((k,a,q4,m,()),t7,()):=λk a m h1=>⟨hq4.1,m7,h1,λh _=>hq4.2 h⟩
    have kd:∀ (k a m:Int),dr k 1 9=true->Ni rows (b+40) ((k,a,(q4.1,q4.2.1,(0:Int),([]:List UInt8),()),m,()),t7,()):=λk a m h1=>⟨aX _,m7,h1,λh _=>by
     obtain ⟨z1,z2,z3,z4⟩:=wS (hq4.2 h)
     exact FJ z1 z2 (by decide) rfl⟩
    repeat' first
     | (with_reducible refine Gv.bif (λ_=>?_) λ_=>?_)
     | ((with_reducible refine Gv.some ?_);first | exact kz _ _ _ rfl rfl | exact kr _ _ _ rfl | exact kd _ _ _ rfl)
     | ((with_reducible refine Gv.next (n:=3) s7 Ie (by decide) (by decide) λv8 t8 a8 c8 s8=>?_);exact Gv.some ⟨aX _,s8.mono hb8,rfl,λ_ h=>absurd (show qJ 6=true from h) (by decide)⟩)
     | ((with_reducible refine Gv.pick (l:=[(7:Int),(8:Int)]) s7 Ie (by decide) (by decide) λv8 t8 m8 s8=>?_);exact Gv.some ⟨aX _,s8.mono hb8,(by
       simp only[aZ,dR,gB] at m8
       rcases m8 with rfl | rfl <;> rfl),λ_ h=>by
       simp only[aZ,dR,gB] at m8;rcases m8 with rfl | rfl
       ·exact absurd (show qJ 7=true from h) (by decide)
       ·exact absurd (show qJ 8=true from h) (by decide)⟩)
   clear_value j4
   refine Gv.bif (λhc=>h4 _ ⟨aX _,λh=>?_⟩) λ_=>h4 _ hq3;obtain ⟨z1,z2,z3,z4⟩:=wS (hq3.2 h);exact FJ z1 z2 z3 rfl
  clear_value j3
  have h2:∀ (p2:fl) (q2:Row),kD p2 (b+20)->abY rows q2->Gv (Ni rows (b+40)) (j2 p2 q2):=λp2 q2 s5 hq2=>by
   dsimp -zeta only [j2];refine Gv.bif (λhc=>?_) λ_=>h3 _ _ (s5.mono Bys) hq2;refine Gv.aah s5 Bys Bys Bys λv6 t6 s6=>?_;have Gc:(0:Int) < (rows.length:Int):=fD hc;refine Gv.bif (λ_=>?_) λ_=>h3 _ _ (s6.mono Bys) hq2;refine Gv.next (n:=(rows.length:Int)) s6 Bys Bys Bys λv7 t7 a7 c7 s7=>?_;refine Gv.ite a7 (Gv.get (show v7.toNat < rows.length by omega) λx _ hx=>?_);refine h3 _ _ (s7.mono Bys) ⟨hq2.1,λh=>?_⟩;obtain ⟨z1,z2,z3,z4⟩:=wS (hq2.2 h);obtain ⟨w1,w2,_⟩:=wS (h x hx);exact FJ w1 w2 z3 z4
  clear_value j2
  refine Gv.bif (λ_=>?_) λ_=>h2 _ _ (s4.mono Bys) ⟨by show List.length r.2.2.2.1<=9;omega,λ_=>FJ (by
   simp only[aZ,dR,gB] at m4;show 0<=v4/\v4<=3
   omega) y2 y3 y4⟩
  refine Gv.pick s4 Bys (by simp) (by simp) λv5 t5 m5 s5=>?_;refine Gv.pick s5 Bys (by simp) (by simp) λv6 t6 m6 s6=>?_;refine h2 _ _ (s6.mono Bys) ⟨aX _,λ_=>FJ (by decide) ?_ ?_ rfl⟩
  ·simp only[aZ,dR,gB] at m5;show 1<=v5/\v5<=99;omega
  ·simp only[aZ,dR,gB] at m6;show 0<=v6/\v6<=999;omega
 clear_value j1
 refine Gv.bif (λhc=>?_) λ_=>h1 _ _ (s1.mono Bys);have Gc:(0:Int) < (ts.length:Int):=fD hc;refine Gv.aah s1 Bys Bys Bys λv2 t2 s2=>?_;refine Gv.bif (λ_=>?_) λ_=>h1 _ _ (s2.mono Bys);refine Gv.next (n:=(ts.length:Int)) s2 Bys Bys Bys λv3 t3 a3 c3 s3=>?_;refine Gv.ite a3 (Gv.get (show v3.toNat < ts.length by omega) λx _ _=>?_);exact h1 _ _ (s3.mono Bys)
def opT (B:Int) (y:Op×fl×Unit):Prop:=List.length y.1.2.2.1.2.2.2.1<=9/\kD y.2.1 B
theorem aai {s:fl} {b:Int} (h:kD s b) (hb:b<=400000):Gv (opT (b+60)) (sy.ab (s,())):=by
 suffices hq:Gv (opT (b+60)) (sy.p (s,())) by
  obtain ⟨y,e,hy⟩:=hq;exact ⟨y,ag (k:=0) λk _=>(sy.af k _).trans e,hy⟩
 obtain ⟨⟨o,t1,⟨⟩⟩,e1,k1,s1,_,_⟩:=PP (rows:=[]) (ts:=[]) h Bys (by simp) (by simp);simp only at k1 s1;unfold sy.p;rw[e1,aA];refine Gv.next s1 Bys Bys Bys λv2 t2 a2 c2 s2=>?_;refine Gv.bif (λ_=>?_) λ_=>Gv.bif (λ_=>?_) λ_=>Gv.bif (λ_=>?_) λ_=>Gv.bif (λ_=>?_) λ_=>Gv.some ⟨k1,s2.mono Bys⟩
 ·exact Gv.pick s2 Bys (by simp) (by simp) λv3 t3 m3 s3=>Gv.some ⟨k1,s3.mono Bys⟩
 ·exact Gv.pick s2 Bys (by simp) (by simp) λv3 t3 m3 s3=>Gv.some ⟨k1,s3.mono Bys⟩
 ·exact Gv.pick s2 Bys (by simp) (by simp) λv3 t3 m3 s3=>Gv.some ⟨k1,s3.mono Bys⟩
 ·obtain ⟨r,t3,e3,h3,s3⟩:=XJ s2 Bys;rw[e3,aA];exact Gv.some ⟨h3,s3.mono Bys⟩
theorem Nj {X O V α:Type} {B:(X->Option O)->(V->Option O)->V->Option O} (xs:List α) (enc:X->Int->V) (I:Nat->X->Prop) (hl:xs.length<=100000)
  (gb:∀ (i:Nat) (hi:i < xs.length) (x:X),I i x->∃ x',I (i+1) x'/\∀ e self,B e self (enc x (i:Int))=self (enc x' (ae ((i:Int)+1))))
  (qW:∀ (x:X),I xs.length x->∀ e self,B e self (enc x (xs.length:Int))=e x):∀ (n i:Nat) (x:X),xs.length - i=n->i<=xs.length->I i x->∃ x',I xs.length x'/\∀ e k,n < k->ao (B e) k (enc x (i:Int))=e x'
 | 0,i,x,hn,hi,hI=>by
  have e:i=xs.length:=by omega
  subst e;refine ⟨x,hI,λe k hk=>?_⟩
  obtain ⟨j,rfl⟩:∃ j,k=j+1:=⟨k - 1,by omega⟩
  grind [zO]
 | n+1,i,x,hn,hi,hI=>by
  obtain ⟨x1,a1,a2⟩:=gb i Bys x hI;obtain ⟨x2,c1,c2⟩:=Nj xs enc I hl gb qW n (i+1) x1 Bys Bys a1;refine ⟨x2,c1,λe k hk=>?_⟩
  obtain ⟨j,rfl⟩:∃ j,k=j+1:=⟨k - 1,by omega⟩
  grind [zO,bf]
theorem Tf {R:pe}:zz k_ R=0+(0+(zz kE R.2.2.1+0)):=rfl
theorem adO {p:Plain}:List.length p.1<=zz kE p/\List.length p.2.1<=zz kE p:=by
 have h:zz kE p=zz (.aa ay) p.1+(zz (.aa bm) p.2.1+(0+0)):=rfl;have h1:List.length p.1<=zz (.aa ay) p.1:=Dp (e:=ay) p.1;have h2:List.length p.2.1<=zz (.aa bm) p.2.1:=Dp (e:=bm) p.2.1;omega
theorem rl9 {r:Row} (h:List.length r.2.2.2.1<=9):rl r:=by
 grind [rl,an]
def afB (m:Nat) (B:Int) (y:List Op×fl×Unit):Prop:=y.1.length<=m/\(∀ o ∈ y.1,List.length o.2.2.1.2.2.2.1<=9)/\kD y.2.1 B
theorem abZ {s:fl} {b n:Int} (h:kD s b) (hb:b<=100000) (hn:1<=n) (Ig:n<=21):Gv (afB 26 (b+1000)) (kj.ab (s,n,())):=by
 obtain ⟨ops,ab0⟩:∃ ops:List Op,ops=[((1:Int),(0:Int),((0:Int),(0:Int),(0:Int),([]:List UInt8),()),(0:Int),()),((2:Int),(1:Int),((0:Int),(1:Int),(8:Int),([]:List UInt8),()),(0:Int),()),((2:Int),(1:Int),((0:Int),(2:Int),(8:Int),([]:List UInt8),()),(0:Int),()),((7:Int),(1:Int),((0:Int),(0:Int),(0:Int),([]:List UInt8),()),(0:Int),()),((1:Int),(0:Int),((0:Int),(0:Int),(0:Int),([]:List UInt8),()),(0:Int),()),((1:Int),(0:Int),((0:Int),(0:Int),(0:Int),([]:List UInt8),()),(0:Int),())]:=⟨_,rfl⟩
 have hlen:ops.length=6:=by rw[ab0];rfl
 have PE:∀ o ∈ ops,List.length o.2.2.1.2.2.2.1=0:=λo ho=>by
  grind
 have YF:0<=b:=iT h.2.1 h.2.2
 have second:∀ p:Plain,zz kE p<=18000->∃ y,afB 26 (b+1000) y/\∀ k,30<=k->kj.q0 (kj.r1 k (s,n,())) (s,n,()) p=some y:=λp hp=>by
  obtain ⟨v,t1,e1,a1,c1,s1⟩:=vK (n:=n) h Bys hn Bys
  have:=adG (b+841) (B:=λw x=>kj.b1 w (kj.q1 (s,n,())) (s,n,()) x) (λs' (l:Plain×List Op) i=>(s',l.1,l.2,i)) (λc l=>40*((zz kE l.1:Nat):Int)<=720000+3000*(c - b - 1)/\40*(l.2.length:Int)<=240+(c - b - 1)/\∀ o ∈ l.2,List.length o.2.2.1.2.2.2.1<=9) 40 Bys (λs' l=>(l.2,s',()))
   (λm s0 x c hm hs hc hI=>by
    obtain ⟨q,l⟩:=x;obtain ⟨i1,i2,i3⟩:=hI;simp only at i1 i2 i3;have De:=hs.2;have hlz:=adO (p:=q);obtain ⟨⟨o,t3,⟨⟩⟩,e3,k1,s3,_,_⟩:=PP (rows:=q.1) (ts:=q.2.1) hs Bys Bys Bys;simp only at k1 s3;obtain ⟨R,hR,hz⟩:=Oy (p:=q) (o:=o) (Td Bys) (rl9 k1);have Mn:=Tf (R:=R);have bc:(0:Int) < ((m+1:Nat):Int):=by omega
    have oc:l.length+[o].length<=be:=cr (by grind)
    have st:∀ o' ∈ l++[o],List.length o'.2.2.1.2.2.2.1<=9:=λo' Dn=>by
     grind
    by_cases h0:R.1=0
    ·refine ⟨t3,(R.2.2.1,l++[o]),s3,⟨by grind,by grind,st⟩,λself=>?_⟩
     unfold kj.b1;rw[aS bc,aM,e3];simp only[aA];rw[aH oc,hR.2];grind [Z7]
    ·refine ⟨t3,(q,l++[o]),s3,⟨by grind,by grind,st⟩,λself=>?_⟩
     unfold kj.b1;rw[aS bc,aM,e3];simp only[aA];rw[aH oc,hR.2]
     grind [Z7])
   (λs0 x c _ _ self=>by
    unfold kj.b1;rw[aK (aY _),aE]
    rfl) v.toNat t1 (p,ops) (b+1) Bys s1 ⟨by grind,by grind,λo ho=>by grind⟩ Bys
  obtain ⟨t,l,a1',a2,a3⟩:=this;have hv:((v.toNat:Nat):Int)=v:=by omega
  rw[hv] at a3 a1' a2;refine ⟨(l.2,t,()),⟨by grind,a2.2.2,a1'.mono Bys⟩,λk hk=>?_⟩
  unfold kj.q0;rw[e1];have:=a3 k Bys;rw[ab0] at this;exact this
 have first:=Nj (B:=λe self v=>kj.b0 self e (s,n,()) v) ops (λ(p:Plain) (i:Int)=>(p,i)) (λi p=>zz kE p<=3000*i) Bys
  (λi hi p hI=>by
   have hm:=aJ hi;obtain ⟨R,hR,hz⟩:=Oy (p:=p) (o:=ops[i]) (Td Bys) (rl9 (by grind));have Mn:=Tf (R:=R);refine ⟨R.2.2.1,by omega,λe self=>?_⟩
   unfold kj.b0;rw[<-ab0];have bc:(i:Int) < (ops.length:Int):=by omega
   rw[aS bc,aM,aH ⟨by omega,bc⟩];simp only[aD,aB hi,aA];rw[hR.2]
   rfl)
  (λp _ e self=>by
   grind [kj.b0]) 6 0 (([]:List Row),([]:List Tx),(1:Int),()) Bys Bys (aX _)
 obtain ⟨p,hp,hk⟩:=first
 obtain ⟨y,hy,he⟩:=second p (by grind);refine ⟨y,ag (k:=40) λk oC=>(kj.af k _).trans ?_,hy⟩
 unfold kj.p;exact (hk (λz=>kj.Q0 k (s,n,()) z) k Bys).trans (he k Bys)
theorem DU (c:List UInt8) (i n:Int) (hc:c.length<=1048576) (hi:0<=i/\i<=1000) (hn:1<=n/\n<=200):∃ v,kS.ab (c,i,n,())=some (v,())/\0<=v/\v < n:=by
 suffices hq:∃ v,kS.p (c,i,n,())=some (v,())/\0<=v/\v < n by
  obtain ⟨v,e,h⟩:=hq;exact ⟨v,ag (k:=0) λk _=>(kS.af k _).trans e,h⟩
 unfold kS.p;by_cases h1:n<=1
 ·grind
 have n0:¬ n=0:=by omega
 simp only[h1,n0,aI,aE,aU];by_cases hl:c.length=0
 ·have e:(c.length:Int)=0:=by omega
  simp only[e,aP,aM];exact ⟨_,rfl,zk (by grind [bf]) Bys⟩
 have e:¬ (c.length:Int)=0:=by omega
 have q0:=zk (v:=i) (n:=(c.length:Int)) hi.1 Bys;have i0:(i.tmod (c.length:Int)).toNat < c.length:=by omega
 have XI:¬ (200:Int) < n:=by omega
 simp only[e,aI,aE,aU,q0.1,aL,aB i0,aA,XI]
 have hd:0<=i.tdiv (c.length:Int)/\i.tdiv (c.length:Int)<=i:=by
  simp_all [iA,iY,iM]
 have b0:(c[(i.tmod (c.length:Int)).toNat]).toNat < 256:=fN _;generalize (c[(i.tmod (c.length:Int)).toNat]).toNat=x at b0 ⊢;generalize i.tdiv (c.length:Int)=d at hd ⊢;have w1:ae (x:Int)=(x:Int):=bf Bys;have w0:ae d=d:=bf Bys;have w2:ae (d*3)=d*3:=bf Bys;have w3:ae ((x:Int)+d*3)=(x:Int)+d*3:=bf Bys;simp only[w0,w1,w2,w3];exact ⟨_,rfl,zk Bys Bys⟩
abbrev PR:Op:=((1:Int),(0:Int),((0:Int),(0:Int),(0:Int),([]:List UInt8),()),(0:Int),())
abbrev aij:List Op:=[PR,((2:Int),(1:Int),((0:Int),(1:Int),(8:Int),([]:List UInt8),()),(0:Int),()),((2:Int),(1:Int),((0:Int),(2:Int),(5:Int),([]:List UInt8),()),(0:Int),()),((7:Int),(1:Int),((0:Int),(0:Int),(0:Int),([]:List UInt8),()),(0:Int),()),PR,PR]
def Tg (i:Nat) (l:List Op):Prop:=l.length=6+i/\(∀ o ∈ l,List.length o.2.2.1.2.2.2.1<=8)/\l[0]?=some PR
theorem Tg.more {i:Nat} {l:List Op} (h:Tg i l) {o:Op} (ho:List.length o.2.2.1.2.2.2.1<=8):Tg (i+1) (l++[o]):=by
 refine ⟨by rw[bQ,h.1];rfl,λx hx=>?_,by rw[cT (by have:=h.1;omega)];exact h.2.2⟩
 rcases bG.1 hx with g | g
 ·exact h.2.1 x g
 grind
theorem ab1 (c:List UInt8) (hc:c.length<=1048576) (n:Nat) (hn:n<=20) (i:Nat) (hi:i < n) (l:List Op) (h:Tg i l):∃ l',Tg (i+1) l'/\∀ (e:List Op->Option lR.O) (self:(List Op×Int)->Option lR.O),lR.b0 self (λz=>e z) (c,(n:Int),()) (l,(i:Int))=self (l',ae ((i:Int)+1)):=by
 have w:∀ k:Int,0<=k/\k<=900->0<=ae ((i:Int)+k)/\ae ((i:Int)+k)<=1000:=λk hk=>by grind [bf]
 obtain ⟨v1,f1,a1,c1⟩:=DU c (i:Int) 3 hc Bys Bys;obtain ⟨v2,f2,a2,c2⟩:=DU c (ae ((i:Int)+20)) 2 hc (w _ Bys) Bys;obtain ⟨v3,f3,a3,c3⟩:=DU c (ae ((i:Int)+40)) 4 hc (w _ Bys) Bys;obtain ⟨v4,f4,a4,c4⟩:=DU c (ae ((i:Int)+60)) 9 hc (w _ Bys) Bys;obtain ⟨v5,f5,a5,c5⟩:=DU c (ae ((i:Int)+80)) 3 hc (w _ Bys) Bys;obtain ⟨v6,f6,a6,c6⟩:=DU c (ae ((i:Int)+100)) 12 hc (w _ Bys) Bys;obtain ⟨v7,f7,a7,c7⟩:=DU c (ae ((i:Int)+120)) 2 hc (w _ Bys) Bys;obtain ⟨t,ht,mt⟩:=Ov [([]:List UInt8),([97,98,99]:List UInt8),([97,98,99,100,101,102,103,104]:List UInt8)] (v:=v5) ⟨a5,by simpa using c5⟩
 have bc:List.length t<=8:=by
  simp only[aZ,dR,gB] at mt;rcases mt with rfl | rfl | rfl <;> decide
 have h3:0<=v5/\v5 < (([([]:List UInt8),([97,98,99]:List UInt8),([97,98,99,100,101,102,103,104]:List UInt8)].length:Nat):Int):=⟨a5,by simpa using c5⟩
 have Ii:(i:Int) < (n:Int):=by omega
 have oc:∀ o:Op,l.length+[o].length<=be:=λo=>cr (by have:=h.1;grind);have Ae:v6=0\/v6=1\/v6=2\/v6=3\/v6=4\/v6=5\/v6=6\/v6=7\/v6=8\/v6=9\/v6=10\/v6=11:=by omega
 suffices hk:∃ o:Op,List.length o.2.2.1.2.2.2.1<=8/\∀ (e:List Op->Option lR.O) (self:(List Op×Int)->Option lR.O),lR.b0 self (λz=>e z) (c,(n:Int),()) (l,(i:Int))=self (l++[o],ae ((i:Int)+1)) by
  obtain ⟨o,o1,o2⟩:=hk;exact ⟨_,h.more o1,o2⟩
 rcases Ae with rfl | rfl | rfl | rfl | rfl | rfl | rfl | rfl | rfl | rfl | rfl | rfl <;>
  (refine ⟨?_,?_,λe self=>?_⟩
   rotate_left 2
   ·unfold lR.b0;rw[aS Ii,aM,f1];simp only[aA,f2,f3,f4,f5,h3,cP,aL,ht,f6,f7,Int.reduceEq,aP,aI,aM,aE,oc];rfl
   grind)
theorem ab2 (c:List UInt8) (hc:c.length<=1048576) (n:Nat) (hn:n<=20):∃ xs,lR.ab (c,(n:Int),())=some (xs,())/\Tg n xs:=by
 have loop:=Nj (B:=λe self v=>lR.b0 self (λz=>e z) (c,(n:Int),()) v) (List.replicate n ()) (λ(x:List Op) (i:Int)=>(x,i)) Tg (by grind)
  (λi hi x hx=>ab1 c hc n hn i (by grind) x hx)
  (λx _ e self=>by
   grind [lR.b0]) n 0 aij (by rw[cL];rfl) (aX _) ⟨rfl,by decide,rfl⟩
 obtain ⟨x,hx,hK⟩:=loop;rw[cL] at hx;refine ⟨x,ag (k:=21) λk hk=>(lR.af k _).trans ?_,hx⟩
 unfold lR.p;exact hK (λz=>lR.q0 (c,(n:Int),()) z) k Bys
def bl (x:cv):Int:=(List.length x.2.1:Int)
def nR (s:Int) (x:cv):Sum (Int×Unit) Int:=
 if dr x.1 0 63 then (if dr (bl x) 1 64 then (if 64 < x.1+bl x then .inl (3,()) else if x.1 < s then .inl (1,()) else .inr (x.1+bl x+1)) else .inl (3,())) else .inl (3,())
def Ho (s:Int) (xs:List cv):Int:=(bu (λ_ s x=>nR s x) (λ_=>((0:Int),())) 0 xs s).1
def vt (xs:List cv):Int:=if 64 < xs.length then 2 else Ho 0 xs
theorem PT {s s':Int} {x:cv} (h:nR s x=.inr s'):0<=x.1/\x.1<=63/\1<=bl x/\bl x<=64/\x.1+bl x<=64/\s<=x.1/\s'=x.1+bl x+1:=by
 grind [nR,dr]
theorem Th {s:Int} {x:cv} {o:Int×Unit} (h:nR s x=.inl o):o.1≠0:=by
 grind [nR]
theorem VT {S O α:Type} {f:S->α->Sum O S} {fin:S->O}:∀ (xs:List α) (i j:Nat) (s:S),bu (λ_ s x=>f s x) fin i xs s=bu (λ_ s x=>f s x) fin j xs s
 | [],_,_,_=>rfl
 | x::xs,i,j,s=>by
  simp only[bu];split
  ·rfl
  ·exact VT xs _ _ _
theorem Nk (s:Int) (x:cv) (xs:List cv):Ho s (x::xs)=match nR s x with | .inl o=>o.1 | .inr s'=>Ho s' xs:=by
 unfold Ho;simp only[bu]
 cases h:nR s x with
 | inl o=>rfl
 | inr s'=>simp only;rw[VT xs 1 0]
theorem Nl:∀ (xs:List cv) (s:Int),Ho s xs=0->∀ x ∈ xs,0<=x.1/\x.1<=63/\1<=bl x/\bl x<=64
 | [],_,_,_,hx=>by cases hx
 | y::ys,s,h,x,hx=>by
  rw[Nk] at h
  cases hs:nR s y with
  | inl o=>grind [Th]
  | inr s'=>
   rw[hs] at h;have:=PT hs;rcases aZ.1 hx with e | e
   ·grind
   ·exact Nl ys s' h x e
theorem X0 {xs:List cv} (h:vt xs=0):List.length xs<=64/\∀ x ∈ xs,0<=x.1/\x.1<=63/\1<=bl x/\bl x<=64:=by
 unfold vt at h;split at h
 ·cases h
 ·exact ⟨by omega,Nl xs 0 h⟩
theorem aaj {y z:cv} {ys:List cv} (h:vt (y::z::ys)=0):List.length y.2.1≠64:=by
 grind [vt,Nk,nR,bl]
theorem Ux (xs:List cv):lw.ab (xs,())=some (vt xs,()):=by
 refine ag (k:=66) λk hk=>(lw.af k _).trans ?_;unfold lw.p vt;by_cases hl:64 < xs.length
 ·grind
 have Eb:¬ (64:Int) < (xs.length:Int):=by omega
 have:=cy (B:=λself v=>lw.b0 self (λz=>lw.q0 (xs,()) z) (xs,()) v) xs (λ(s:Int) (i:Int)=>(s,i)) (λ_ s x=>nR s x) (λ_=>(0,())) (λ_ _=>True) (by rw[an];omega)
  (λi hi s self _=>by
   show lw.b0 _ _ _ _=_;unfold lw.b0
   grind [Int.natCast_nonneg,Int.toNat_natCast,rJ,nR,bl,dr,bf]) (λ_ _ _ _ _ _=>trivial) (λs self _=>by
   grind [lw.b0,lw.q0]) 0 trivial k Bys
 simp only[hl,aU,Eb,aI,aE];exact this
def Nm (k:Int) (xs:List cv):Int:=match xs with
 | []=>1
 | y::_=>if decide (k=4)&&!decide (List.length y.2.1=64) then 1 else 0
def tn (r:bz):Int:=
 if !dr r.1 1 6||(!dr r.1 2 4&&(!decide (r.2.2.1=0)||decide (0 < List.length r.2.2.2.1)))||(decide (r.1=4)&&!decide (r.2.1=0)) then 1
 else if (!decide (r.1=4)&&!dr r.2.1 1 99)||!dr r.2.2.1 0 11 then 3
 else if !dr r.1 2 4 then 0
 else if vt r.2.2.2.1=0 then Nm r.1 r.2.2.2.1 else vt r.2.2.2.1
theorem Ti (k:Int):rg.ab (k,())=some (dr k 2 4,()):=by
 refine ag (k:=0) λn _=>(rg.af n _).trans ?_;grind [rg.p,dr,decide]
theorem Nn (r:bz):lM.ab (r,())=some (tn r,()):=by
 obtain ⟨k,t,p,xs,⟨⟩⟩:=r;refine ag (k:=0) λn _=>(lM.af n _).trans ?_;show lM.p _=_;unfold lM.p tn;simp only[rJ,Ti,Og,Ux,aA,show ∀ a b c:Int,(decide (b<=a)&&decide (a<=c))=dr a b c from λ_ _ _=>rfl];have h0:decide ((0:Int) < (xs.length:Int))=decide (0 < xs.length):=by simp
 rw[h0]
 have hk:dr k 2 4=false->decide (k=4)=false:=by
  intro h;by_cases e:k=4
  ·subst e;cases h
  ·simp[e]
 have h64:∀ y:cv,decide ((List.length y.2.1:Int)=64)=decide (List.length y.2.1=64):=λy=>by
  grind
 have hz:decide (0 < xs.length)=false->xs=[]:=by
  simp_all
 have hh:vt xs=0->(bif decide ((List.length xs:Int)=0) then some ((1:Int),()) else bif decide (k=4) then bif !decide ((List.length xs:Int)=1) then some ((1:Int),()) else (xs[0]?).bind λx23=>bif !decide ((List.length x23.2.1:Int)=64) then some ((1:Int),()) else some (0,()) else some (0,()))=some (Nm k xs,()):=by
  intro hr
  cases xs with
  | nil=>rfl
  | cons y ys=>
   have:¬ ((List.length (y::ys):Int)=0):=by grind
   simp only[this,aI,aE,Nm,dZ,aA,h64]
   cases ys with
   | nil=>grind
   | cons z ys=>
    have h1:=aaj hr;grind
 cases oC:dr k 2 4 with
 | false=>
  have hk4:=hk oC;have BI:vt ([]:List cv)=0:=rfl;grind
 | true=>
  grind
theorem BK {r:bz} (h:tn r=0):1<=r.1/\r.1<=6/\0<=r.2.1/\r.2.1<=99/\0<=r.2.2.1/\r.2.2.1<=11/\List.length r.2.2.2.1<=64/\∀ x ∈ r.2.2.2.1,0<=x.1/\x.1<=63/\1<=bl x/\bl x<=64:=by
 obtain ⟨k,t,p,xs,⟨⟩⟩:=r;unfold tn at h;split at h
 all_goals grind [X0,dr]
def OA (p:List UInt8) (r:cv):List UInt8:=pO p r.1.toNat (min (List.length r.2.1) (p.length - r.1.toNat)) r.2.1
def vL (p:List UInt8) (rs:List cv):List UInt8:=rs.foldl OA p
theorem Tj {p:List UInt8} {r:cv} (h:r.1.toNat<=p.length):(OA p r).length=p.length:=tt _ _ Bys Bys
theorem No:∀ (rs:List cv) (p:List UInt8),p.length=64->(∀ r ∈ rs,0<=r.1/\r.1<=63)->(vL p rs).length=64
 | [],p,h,_=>h
 | r::rs,p,h,hr=>by
  have:=hr r (by simp);exact No rs _ (by grind [Tj]) (λx hx=>hr x (by simp[hx]))
theorem OB (p:List UInt8) (rs:List cv) (hp:p.length=64) (hl:rs.length<=64) (hr:∀ r ∈ rs,0<=r.1/\r.1<=63):mz.ab (p,rs,())=some (vL p rs,()):=by
 refine ag (k:=66) λk hk=>(mz.af k _).trans ?_;unfold mz.p;rw[nl _ (by grind)]
 have:=cy (B:=λself v=>mz.b0 self (λz=>mz.q0 (p,rs,()) z) (p,rs,()) v) rs (λ(s:List UInt8) (i:Int)=>(s,i)) (λ_ s r=>.inr (OA s r)) (λs=>(s,())) (λ_ s=>s.length=64) (by rw[an];omega)
  (λi hi s self hI=>by
   show mz.b0 _ _ _ _=_;unfold mz.b0;have bc:(i:Int) < (rs.length:Int):=by omega
   have hx:=hr rs[i] (aJ hi);have gb:(0:Int)<=(rs[i]).1/\(rs[i]).1<=(s.length:Int):=by omega
   simp only[bc,aP,aM,aR,aL,aD,aB hi,aA,gb,cP]
   rfl)
  (λi hi s s' hI hs=>by
   grind [Tj]) (λs self hI=>by
   show mz.b0 _ _ _ _=_;unfold mz.b0;simp only[aY,aI,aE]
   rfl) p hp k Bys
 rw[ik] at this;exact this
theorem ab3 (ps:pv) (h:ps.length<=12):nL.ab (ps,())=some (ps,()):=by
 refine ag (k:=0) λk _=>(nL.af k _).trans ?_;show nL.p _=_;unfold nL.p;refine Fm (λe=>by grind) ?_;grind [cr]
def LD (q:pv) (r:bz):pv:=q.set r.2.2.1.toNat (vL (q.getD r.2.2.1.toNat []) r.2.2.2.1)
def qE (ps:pv) (r:bz):Sum Int pv:=
 if tn r=0 then (if dr r.1 2 4 then (if (ps.length:Int) < r.2.2.1 then .inl 1 else .inr (LD (if r.2.2.1=(ps.length:Int) then ps++[wg] else ps) r)) else .inr ps) else .inl (tn r)
theorem PU {ps:pv} {r:bz} {c:Int} (h:qE ps r=.inl c):c≠0:=by
 grind [qE]
theorem PV {q:pv} {r:bz} (hq:gp q) (hr:tn r=0) (hp:r.2.2.1.toNat < q.length):gp (LD q r):=by
 have hg:=BK hr;refine ⟨by simp[LD];exact hq.1,λp hm=>?_⟩
 rcases eH hm with h | h
 ·exact hq.2 p h
 ·subst h;have hx:q.getD r.2.2.1.toNat []=q[r.2.2.1.toNat]:=by simp[hp]
  rw[hx];exact No _ _ (hq.2 _ (aJ hp)) (λx hx=>by grind)
theorem Np {ps wL:pv} {r:bz} (hp:gp ps) (h:qE ps r=.inr wL):gp wL:=by
 unfold qE at h;split at h
 ·rename_i hr;have hg:=BK hr;split at h
  ·split at h
   ·cases h
   ·rename_i hl;injection h with h;subst h;split
    ·rename_i he;refine PV ⟨by simp;omega,λp hm=>?_⟩ hr (by simp;omega);rcases bG.1 hm with hm | hm
     ·exact hp.2 p hm
     grind [Ds]
    grind [PV]
  grind
 ·cases h
theorem Nq (ps:pv) (r:bz) (hp:gp ps) (hr:tn r=0):p5.ab (ps,r,())=some (match qE ps r with | .inl c=>(([]:pv),c,()) | .inr wL=>(wL,(0:Int),())):=by
 refine ag (k:=0) λk _=>(p5.af k _).trans ?_;show p5.p _=_;have hg:=BK hr;unfold p5.p qE;simp only[Ti,hr,aL,aA]
 cases ht:dr r.1 2 4 with
 | false=>rfl
 | true=>
  simp only[aW,aE,aL];by_cases hl:(ps.length:Int) < r.2.2.1
  ·grind
  have Ae:¬ r.2.2.1=12:=by omega
  simp only[hl,Ae,aI,aE,aU,ab3 ps hp.1,aA]
  have key:∀ q:pv,gp q->r.2.2.1.toNat < q.length->(if 0<=r.2.2.1/\r.2.2.1 < (q.length:Int) then ((q[r.2.2.1.toNat]?).bind λPe=>(mz.ab (Pe,r.2.2.2.1,())).bind λqb=>if 0<=r.2.2.1/\r.2.2.1 < (q.length:Int) then ((q[r.2.2.1.toNat]?).bind λFq=>some (q.set r.2.2.1.toNat qb.1,(0:Int),())) else none) else none:Option p5.O)=some (LD q r,(0:Int),()):=λq hq bc=>by
   have hc:0<=r.2.2.1/\r.2.2.1 < (q.length:Int):=by omega
   simp only[hc,cP,aL,aB bc,aA];rw[OB _ _ (hq.2 _ (aJ bc)) hg.2.2.2.2.2.2.1 (λx hx=>by grind)];grind [LD]
  by_cases he:r.2.2.1=(ps.length:Int)
  ·have hcc:ps.length+[wg].length<=be:=cr (by grind);rw[aH he];simp only[he,aP,aM,G_,aA,hcc,aL];rw[<-he];refine key _ ⟨by simp;omega,λp hm=>?_⟩ (by simp;omega);rcases bG.1 hm with hm | hm
   ·exact hp.2 p hm
   grind [Ds]
  grind
def CF (xs:List bz):pv×Int×Unit:=bu (λ_ ps r=>match qE ps r with | .inl c=>.inl (([]:pv),c,()) | .inr wL=>.inr wL) (λps=>(ps,(0:Int),())) 0 xs []
theorem X4 (xs:List bz):(CF xs).2.1=0->gp (CF xs).1:=by
 have main:∀ (xs:List bz) (i:Nat) (ps:pv),gp ps->(bu (λ_ ps r=>match qE ps r with | .inl c=>.inl (([]:pv),c,()) | .inr wL=>.inr wL) (λps=>(ps,(0:Int),())) i xs ps).2.1=0->gp (bu (λ_ ps r=>match qE ps r with | .inl c=>.inl (([]:pv),c,()) | .inr wL=>.inr wL) (λps=>(ps,(0:Int),())) i xs ps).1:=by
  intro xs
  induction xs <;> grind [bu,PU,Np]
 exact main xs 0 [] ⟨by simp,λ_ h=>by cases h⟩
theorem Uy (xs:List bz) (hx:xs.length<=maxLen):sw.ab (xs,())=some (CF xs):=by
 refine ag (k:=xs.length+1) λk hk=>(sw.af k _).trans ?_
 exact cy (B:=λself v=>sw.b0 self (λz=>sw.q0 (xs,()) z) (xs,()) v) xs (λ(s:pv) (i:Int)=>(s,i)) (λ_ ps r=>match qE ps r with | .inl c=>.inl (([]:pv),c,()) | .inr wL=>.inr wL) (λps=>(ps,(0:Int),())) (λ_ s=>gp s) hx
  (λi hi s self hI=>by
   grind [sw.b0,Int.toNat_natCast,Nn,Nq,qE])
  (λi hi s s' hI hs=>by
   grind [Np]) (λs self hI=>by
   show sw.b0 _ _ _ _=_;unfold sw.b0;simp only[aY,aI,aE]
   rfl) [] ⟨by simp,λ_ h=>by cases h⟩ k Bys
theorem ab4 (ps:pv) (h:gp ps):zz (.aa (.aa u8)) ps<=12*65:=by
 obtain ⟨h1,h2⟩:=h
 have main:∀ ps:pv,(∀ p ∈ ps,p.length=64)->zz (.aa (.aa u8)) ps=65*ps.length:=by
  intro ps
  induction ps <;> grind [zz,tO,Ef]
 grind
theorem KC {V R:Type} {B:(V->Option R)->V->Option R} (f:V->Option R) (I:V->Prop) (μ:V->Nat)
  (h:∀ v,I v->∀ self,B self v=f v\/∃ v',B self v=self v'/\f v'=f v/\I v'/\μ v' < μ v):∀ (k:Nat) (v:V),I v->μ v < k->ao B k v=f v
 | 0,v,_,hk=>by omega
 | k+1,v,hI,hk=>by
  show B (ao B k) v=f v
  rcases h v hI (ao B k) with h1 | ⟨v',h1,h2,h3,h4⟩
  ·exact h1
  ·rw[h1,KC f I μ h k v' h3 Bys,h2]
def EZ (out:List cv) (y:UInt8):List cv:=match out[out.length - 1]? with
 | some r=>out.set (out.length - 1) (r.1,r.2.1++[y],())
 | none=>out
theorem LE (out:List cv) (j:Int) (bs:List UInt8) (y:UInt8):EZ (out++[(j,bs,())]) y=out++[(j,bs++[y],())]:=by
 grind [EZ]
def Ao:Nat->List (UInt8×UInt8)->List cv->Bool->List cv
 | _,[],out,_=>out
 | i,(x,y)::l,out,op=>if x=y then Ao (i+1) l out false else Ao (i+1) l (EZ (if op then out else out++[((i:Int),([]:List UInt8),())]) y) true
def yJ (a b:List UInt8):List cv:=Ao 0 (a.zip b) [] false
theorem LF (out:List cv) (y:UInt8):(EZ out y).length=out.length:=by
 grind [EZ]
theorem Tl {out:List cv} {y:UInt8} {n:Nat} (h:∀ r ∈ out,List.length r.2.1<=n):∀ r ∈ EZ out y,List.length r.2.1<=n+1:=λr hr=>by
 grind [EZ]
theorem Jb:∀ (l:List (UInt8×UInt8)) (i:Nat) (out:List cv) (op:Bool),out.length<=i->(∀ r ∈ out,List.length r.2.1<=i)->(Ao i l out op).length<=i+l.length/\∀ r ∈ Ao i l out op,List.length r.2.1<=i+l.length
 | [],i,out,op,h1,h2=>⟨h1,h2⟩
 | (x,y)::l,i,out,op,h1,h2=>by
  simp only[Ao];have e:i+((x,y)::l).length=i+1+l.length:=by grind
  rw[e];split
  ·exact Jb l (i+1) out false Bys λr hr=>by grind
  ·refine Jb l (i+1) _ true ?_ ?_
   ·grind [LF]
   ·refine Tl λr hr=>?_;grind
theorem KD {a b:List UInt8} (h:a.length=64):(yJ a b).length<=64/\∀ r ∈ yJ a b,List.length r.2.1<=64:=by
 grind [Jb,yJ]
def runN:List (UInt8×UInt8)->Nat
 | []=>0
 | (x,y)::l=>if x=y then 0 else runN l+1
theorem OC:∀ (l:List (UInt8×UInt8)) (i:Nat) (out:List cv) (j:Int) (bs:List UInt8),Ao i l (out++[(j,bs,())]) true=Ao (i+runN l+1) (l.drop (runN l+1)) (out++[(j,bs++(l.take (runN l)).map (·.2),())]) false
 | [],i,out,j,bs=>by simp[Ao,runN]
 | (x,y)::l,i,out,j,bs=>by
  simp only[Ao,runN];by_cases h:x=y
  ·simp[h]
  ·simp only[h,aU,aL];rw[LE,OC l (i+1) out j (bs++[y])];grind
theorem Tm {x y:UInt8}:((x.toNat:Int)=(y.toNat:Int))↔x=y:=by
 constructor
 ·intro h;exact fS.1 Bys
 grind
theorem xF {a b:List UInt8} {i:Nat} (ha:i < a.length) (hb:i < b.length):(a.zip b).drop i=(a[i],b[i])::(a.zip b).drop (i+1):=by
 grind [List.drop_eq_getElem_cons]
section
variable {a b:List UInt8} (ha:a.length=64) (hb:b.length=64)
include ha hb
theorem KE:qQ.ab (a,b,())=some (yJ a b,()):=by
 refine ag (k:=100) λk hk=>(qQ.af k _).trans ?_
 have:=vY (B:=λself v=>qQ.b0 self (qQ.q0 (a,b,())) (a,b,()) v) (λv=>(Ao v.2.2.toNat ((a.zip b).drop v.2.2.toNat) v.1 v.2.1,()))
  (λv=>0<=v.2.2/\v.2.2<=64/\List.length v.1<=v.2.2.toNat/\(v.2.1=true->v.1≠[])/\∀ r ∈ v.1,List.length r.2.1<=v.2.2.toNat) (λv=>64 - v.2.2.toNat) (λv hv self=>by
   obtain ⟨out,op,n⟩:=v;obtain ⟨h0,h1,h2,h3,h4⟩:=hv;simp only at h0 h1 h2 h3 h4
   obtain ⟨i,rfl⟩:∃ i:Nat,n=(i:Int):=⟨n.toNat,by omega⟩
   simp only[aD] at h2 h4;unfold qQ.b0;by_cases hi:i=64
   ·left;subst hi;have:¬ ((64:Nat):Int) < (a.length:Int):=by omega
    simp only[this,aI,aE,aD];rw[fI (by grind)];rfl
   ·right;have hia:i < a.length:=by omega
    have hib:i < b.length:=by omega
    have bc:(i:Int) < (a.length:Int):=by omega
    have hw:ae ((i:Int)+1)=((i+1:Nat):Int):=by grind [bf]
    simp only[bc,aP,aM,aR,aL,aD,aB hia,aB hib,aA,hw,Tm];by_cases he:a[i]=b[i]
    ·refine ⟨(out,false,((i+1:Nat):Int)),by grind,?_,⟨aR _,by grind,by grind,(λe=>by cases e),λr hr=>by grind⟩,by grind⟩
     grind [xF,Ao]
    ·have key:∀ (q:List cv),q≠[]->q.length<=i+1->(∀ r ∈ q,List.length r.2.1<=i)->(if 0<=ae ((q.length:Int) - (1:Int))/\ae ((q.length:Int) - (1:Int)) < (q.length:Int) then (q[(ae ((q.length:Int) - (1:Int))).toNat]?).bind λLb=>(q[(ae ((q.length:Int) - (1:Int))).toNat]?).bind λSg=>(q[(ae ((q.length:Int) - (1:Int))).toNat]?).bind λLe=>if Sg.2.1.length+[b[i]].length<=be then ((q.set (ae ((q.length:Int) - (1:Int))).toNat Le)[(ae ((q.length:Int) - (1:Int))).toNat]?).bind λGG=>self ((q.set (ae ((q.length:Int) - (1:Int))).toNat Le).set (ae ((q.length:Int) - (1:Int))).toNat (GG.1,Sg.2.1++[b[i]],GG.2.2),true,((i+1:Nat):Int)) else none else none)=self (EZ q b[i],true,((i+1:Nat):Int)):=λq hq hl hr=>by
      have Gc:0 < q.length:=List.length_pos_iff.2 hq;have yj:ae ((q.length:Int) - 1)=((q.length - 1:Nat):Int):=by grind [bf]
      have aiY:q.length - 1 < q.length:=by omega
      rw[yj,aH ⟨aR _,by omega⟩];grind [cr,EZ,List.set_getElem_self]
     simp only[he,aI,aE];have hlen:out.length+[((i:Int),([]:List UInt8),())].length<=be:=cr (by grind);refine ⟨(EZ (if op then out else out++[((i:Int),([]:List UInt8),())]) b[i],true,((i+1:Nat):Int)),?_,?_,⟨aR _,by grind,?_,λ_ hn=>?_,?_⟩,by grind⟩
     ·cases op with
      | true=>
       simp only[aW,aE,aL];exact key out (h3 rfl) Bys h4
      | false=>
       simp only[bO,aM,aF,aU];rw[aH hlen];refine key _ (by simp) (by grind) λr hr=>?_;grind
     ·grind [Int.toNat_natCast,xF,Ao]
     ·grind [LF]
     ·grind [LF]
     ·simp only[aD];refine Tl λr hr=>?_
      grind) k (([]:List cv),false,(0:Int)) ⟨dH _,by grind,aX _,(λe=>by cases e),λr hr=>by cases hr⟩ (by grind)
 exact this
theorem Uz:kw.ab (a,b,())=some (yJ a b,()):=by
 refine ag (k:=200) λk hk=>(kw.af k _).trans ?_
 have:=vY (B:=λself v=>kw.B0 k self (kw.q1 (a,b,())) (a,b,()) v) (λv=>(Ao v.2.2.2.toNat ((a.zip b).drop v.2.2.2.toNat) v.2.2.1 false,()))
  (λv=>v.1=a/\v.2.1=b/\0<=v.2.2.2/\v.2.2.2<=65/\List.length v.2.2.1<=v.2.2.2.toNat) (λv=>65 - v.2.2.2.toNat) (λv hv self=>by
   obtain ⟨a',b',out,n⟩:=v;obtain ⟨rfl,rfl,h0,h1,h2⟩:=hv;simp only at h0 h1 h2 ha hb
   obtain ⟨i,rfl⟩:∃ i:Nat,n=(i:Int):=⟨n.toNat,by omega⟩
   simp only[aD] at h2;show kw.b0 _ _ _ _ _=_\/∃ v',kw.b0 _ _ _ _ _=_/\_;unfold kw.b0;by_cases hi:64<=i
   ·left;have:¬ (i:Int) < (64:Int):=by omega
    simp only[this,aI,aE,aD];rw[fI (by grind)];rfl
   ·right;have hia:i < a'.length:=by omega
    have hib:i < b'.length:=by omega
    have bc:(i:Int) < (64:Int):=by omega
    have hw:ae ((i:Int)+1)=((i+1:Nat):Int):=by grind [bf]
    simp only[bc,aP,aM,aR,aL,aD,aB hia,aB hib,aA,hw,Tm];by_cases he:a'[i]=b'[i]
    ·refine ⟨(a',b',out,((i+1:Nat):Int)),by grind,?_,⟨rfl,rfl,by grind,by grind,by grind⟩,by grind⟩
     grind [xF,Ao]
    ·simp only[he,aI,aE]
     obtain ⟨n,hn⟩:∃ n,n=runN ((a'.zip b').drop i):=⟨_,rfl⟩
     have hle:∀ l:List (UInt8×UInt8),runN l<=l.length:=λl=>by
      induction l <;> grind [runN]
     have EN:i+n<=64:=by
      grind
     have gb:kw.r1 k self (kw.q1 (a',b',())) (a',b',()) a' b' out (i:Int) (i:Int)=kw.q0 self (kw.q1 (a',b',())) (a',b',()) a' b' out (i:Int) ((i+n:Nat):Int):=by
      have:=KC (B:=λw v=>kw.b1 w (kw.q0 self (kw.q1 (a',b',())) (a',b',()) a' b' out (i:Int)) (a',b',()) a' b' out (i:Int) v) (λv=>kw.q0 self (kw.q1 (a',b',())) (a',b',()) a' b' out (i:Int) (v+(runN ((a'.zip b').drop v.toNat):Int)))
       (λv=>0<=v/\v<=64) (λv=>64 - v.toNat) (λv hv aiH=>by
        obtain ⟨g0,g1⟩:=hv
        obtain ⟨j,rfl⟩:∃ j:Nat,v=(j:Int):=⟨v.toNat,by omega⟩
        unfold kw.b1;by_cases hj:j=64
        ·grind
        ·have hja:j < a'.length:=by omega
         have hjb:j < b'.length:=by omega
         have bc:(j:Int) < (64:Int):=by omega
         have hw:ae ((j:Int)+1)=((j+1:Nat):Int):=by grind [bf]
         simp only[bc,aP,aM,aR,aL,aD,aB hja,aB hjb,aA,hw,Tm];by_cases he2:a'[j]=b'[j]
         ·grind [xF,runN]
         grind [Int.toNat_natCast,xF,runN]) k (i:Int) ⟨by omega,by omega⟩ (by grind)
      refine this.trans ?_;grind
     have hn1:1<=n:=by
      grind [xF,runN]
     refine ⟨(a',b',out++[((i:Int),(b'.take (i+n)).drop i,())],((i+n+1:Nat):Int)),?_,?_,⟨rfl,rfl,by grind,by grind,by grind⟩,by grind⟩
     ·refine gb.trans ?_;unfold kw.q0;rw[aH ⟨by omega,by omega,by omega⟩];simp only[aD];grind [nl,cr,bf]
     ·simp only[aD];rw[xF hia hib];simp only[Ao,he,aU,aF]
      have vA:n=runN ((a'.zip b').drop (i+1))+1:=by
       grind [xF,runN]
      rw[LE,OC];have e1:i+1+runN ((a'.zip b').drop (i+1))+1=i+n+1:=by omega
      have e2:((a'.zip b').drop (i+1)).drop (runN ((a'.zip b').drop (i+1))+1)=(a'.zip b').drop (i+n+1):=by grind [List.drop_drop]
      rw[e1,e2]
      grind [List.map_snd_zip,List.map_take,List.map_drop,List.drop_eq_getElem_cons]) k (a,b,([]:List cv),(0:Int)) ⟨rfl,rfl,by grind,by grind,aX _⟩ (by grind)
 exact this
end
def HO:Int->List cv->Option Int
 | s,[]=>some s
 | s,x::xs=>match nR s x with
  | .inl _=>none
  | .inr s'=>HO s' xs
theorem VU:∀ (xs:List cv) (s:Int) (y:cv),HO s (xs++[y])=(HO s xs).bind λt=>match nR t y with | .inl _=>none | .inr t'=>some t'
 | [],s,y=>by
  grind [HO]
 | x::xs,s,y=>by
  simp only[cY,HO]
  cases nR s x with
  | inl _=>rfl
  | inr t=>exact VU xs t y
theorem LG:∀ (xs:List cv) (i:Nat) (s t:Int),HO s xs=some t->bu (λ_ s x=>nR s x) (λ_=>((0:Int),())) i xs s=((0:Int),())
 | [],i,s,t,h=>rfl
 | x::xs,i,s,t,h=>by
  simp only[HO] at h;simp only[bu]
  cases hx:nR s x with
  | inl _=>grind
  | inr s'=>rw[hx] at h;exact LG xs (i+1) s' t h
theorem VV:∀ (l:List (UInt8×UInt8)),runN l<=l.length
 | []=>aG _
 | (x,y)::l=>by
  simp only[runN];split
  ·exact aX _
  ·have:=VV l;grind
theorem Tn:∀ (l:List (UInt8×UInt8)) (q:UInt8×UInt8),l[runN l]?=some q->q.1=q.2
 | [],q,h=>by grind
 | (x,y)::l,q,h=>by
  simp only[runN] at h;split at h
  ·grind
  ·simp only[List.getElem?_cons_succ] at h;exact Tn l q h
theorem OD {a b:List UInt8} (ha:a.length=64) (hb:b.length=64) (i j:Nat) (hi:i<=64):(b.take i++a.drop i)[j]?=if j < i then b[j]? else a[j]?:=by
 grind
theorem aak (p y:List UInt8) (lo n j:Nat) (hn:n<=y.length) (hp:lo+n<=p.length):(pO p lo n y)[j]?=if j < lo then p[j]? else if j < lo+n then y[j - lo]? else p[j]?:=by
 grind [pO]
theorem X5 (p:List UInt8) (rs:List cv) (r:cv):vL p (rs++[r])=OA (vL p rs) r:=by
 grind [vL]
theorem LH {a b:List UInt8} (ha:a.length=64) (hb:b.length=64):∀ (m:Nat) (l:List (UInt8×UInt8)) (i:Nat) (out:List cv) (s:Int),l.length<=m->l=(a.zip b).drop i->HO 0 out=some s->s<=(i:Int)->vL a out=b.take i++a.drop i->(∃ t,HO 0 (Ao i l out false)=some t)/\vL a (Ao i l out false)=b
 | m,[],i,out,s,_,hl,hs,hsi,Dh=>by
  have hz:(a.zip b).length=64:=by grind
  have hi:64<=i:=by
   grind
  refine ⟨⟨s,hs⟩,?_⟩
  show vL a out=b;grind [List.take_of_length_le,List.drop_eq_nil_of_le]
 | 0,q::l,i,out,s,hm,_,_,_,_=>by simp at hm
 | m+1,(x,y)::l,i,out,s,hm,hl,hs,hsi,Dh=>by
  have hz:(a.zip b).length=64:=by grind
  have hi:i+(l.length+1)=64:=by
   grind
  have yM:∀ j,j < l.length+1->(a.zip b)[i+j]?=((x,y)::l)[j]?:=λj hj=>by
   rw[hl,bP]
  have SR:∀ j (u v:UInt8),((x,y)::l)[j]?=some (u,v)->a[i+j]?=some u/\b[i+j]?=some v:=λj u v h=>by
   grind
  have zd:l=(a.zip b).drop (i+1):=by
   rw[<-dF,<- hl];rfl
  have h0:=SR 0 x y rfl;rw[eM] at h0;simp only[Ao];by_cases ur:x=y
  ·rw[aH ur];refine LH ha hb m l (i+1) out s (by grind) zd hs Bys ?_;rw[Dh];refine eC λj=>?_;grind [OD]
  ·rw[aN ur];simp only[aF,aU];rw[LE,OC]
   obtain ⟨n,hn⟩:∃ n,n=runN l:=⟨_,rfl⟩
   have vA:=VV l;rw[<-hn] at vA ⊢
   obtain ⟨bs,hbs⟩:∃ bs,bs=[]++[y]++(l.take n).map (·.2):=⟨_,rfl⟩
   have Vl:bs.length=n+1:=by grind
   have hbg:∀ j,j < n+1->bs[j]?=b[i+j]?:=λj hj=>by
    cases j <;> grind
   rw[<-hbs]
   have dm:HO 0 (out++[((i:Int),bs,())])=some ((i:Int)+((n+1:Nat):Int)+1):=by
    rw[VU,hs,aA];have h1:bl ((i:Int),bs,())=((n+1:Nat):Int):=by show (bs.length:Int)=_;rw[Vl]
    grind [nR,dr]
   have aik:vL a (out++[((i:Int),bs,())])=b.take (i+1+n+1)++a.drop (i+1+n+1):=by
    rw[X5,Dh];unfold OA;simp only[aD];have i9:(b.take i++a.drop i).length=64:=by grind
    rw[i9,jB (by grind),Vl];refine eC λj=>?_;rw[aak _ _ _ _ _ Bys (by grind),OD ha hb i j Bys];by_cases hle:i+1+n+1<=64
    ·rw[OD ha hb _ j hle];by_cases c1:j < i
     ·grind
     ·by_cases c2:j < i+(n+1)
      ·rw[aN c1,aH c2,aH Bys,hbg (j - i) Bys,show i+(j - i)=j by omega]
      ·rw[aN c1,aN c2,aN c1];by_cases c3:j=i+1+n
       ·grind [Tn]
       ·grind
    ·rw[gC Bys,fY Bys,cZ];by_cases c1:j < i
     ·grind
     ·by_cases c2:j < i+(n+1)
      ·rw[aN c1,aH c2,hbg (j - i) Bys,show i+(j - i)=j by omega]
      grind
   refine LH ha hb m (l.drop (n+1)) (i+1+n+1) _ _ (by grind) ?_ dm Bys aik;grind [List.drop_drop]
theorem Nr {a b:List UInt8} (ha:a.length=64) (hb:b.length=64):vL a (yJ a b)=b/\vt (yJ a b)=0:=by
 obtain ⟨⟨t,h1⟩,h2⟩:=LH ha hb 64 (a.zip b) 0 [] 0 (by grind) rfl rfl (dH 0) (by simp[vL]);grind [vt,KD,Ho,LG,yJ]
theorem adP {a b:List UInt8} (ha:a.length=64) (hb:b.length=64) (h:a≠b):yJ a b≠[]:=λhe=>by
 have:=(Nr ha hb).1;rw[he] at this;exact h this
def uM (x:cv):List UInt8:=UInt8.ofInt x.1::UInt8.ofInt (List.length x.2.1:Int)::x.2.1
def jl (xs:List cv):List UInt8:=xs.flatMap uM
def ya (r:bz):List UInt8:=[(0:UInt8),UInt8.ofInt r.1,UInt8.ofInt r.2.1,UInt8.ofInt r.2.2.1,UInt8.ofInt (List.length r.2.2.2.1:Int)]
def xG (s:Int) (l:List UInt8):Int:=l.foldl (λs c=>(s*31+(c.toNat:Int)) % 65521) s
def Jc (r:bz):List UInt8:=(ya r++jl r.2.2.2.1).set 0 (UInt8.ofInt (ae (((ya r++jl r.2.2.2.1).length:Int)+2)))
def ot (r:bz):List UInt8:=Jc r++[UInt8.ofInt ((xG 1 (Jc r)) / 256),UInt8.ofInt (xG 1 (Jc r))]
def xH (r:bz):Prop:=List.length r.2.2.2.1<=64/\∀ x ∈ r.2.2.2.1,List.length x.2.1<=64
theorem ab5 {r:bz} (h:tn r=0):xH r:=by
 have:=BK h;refine ⟨this.2.2.2.2.2.2.1,λx hx=>?_⟩
 grind [bl]
theorem Ap (x:cv) (xs:List cv):jl (x::xs)=uM x++jl xs:=dU
theorem Jd {xs:List cv} (h:∀ x ∈ xs,List.length x.2.1<=64):(jl xs).length<=66*xs.length:=by
 induction xs <;> grind [jl,uM]
theorem VW (r:bz):(Jc r).length=5+(jl r.2.2.2.1).length:=by grind [Jc,ya]
theorem Je (r:bz):(ot r).length=7+(jl r.2.2.2.1).length:=by
 grind [ot,VW]
theorem E0 {r:bz} (h:xH r):(ot r).length<=5000:=by
 rw[Je];have:=Jd h.2;have:=h.1;omega
theorem VX:∀ (l:List UInt8) (s:Int),0<=s/\s < 65521->0<=xG s l/\xG s l < 65521
 | [],s,h=>h
 | c::l,s,h=>VX l ((s*31+(c.toNat:Int)) % 65521) ⟨Int.emod_nonneg _ Bys,Int.emod_lt_of_pos _ Bys⟩
theorem aal {s:Int} (h:0<=s):UInt8.ofInt (s.tmod 256)=UInt8.ofInt s:=by
 grind [UInt8.ofInt]
theorem Jf:∀ (xs:List cv) (s:List UInt8),xs.foldl (λs x=>s++uM x) s=s++jl xs
 | [],s=>by simp[jl]
 | x::xs,s=>by rw[eS,Jf,Ap,bV]
theorem To {s:Int} {c:UInt8} (h:0<=s/\s < 65521):((ae ((ae (s*(31:Int)))+(ae (c.toNat:Int)))).tmod (65521:Int))=(s*31+(c.toNat:Int)) % 65521:=by
 have hc:=c.toNat_lt;grind [bf]
theorem X6 (l:List UInt8) (h:l.length<=100000):rq.ab (l,())=some (xG 1 l,()):=by
 refine ag (k:=100001) λk hk=>(rq.af k _).trans ?_
 have:=cy (B:=λself v=>rq.b0 self (λz=>rq.q0 (l,()) z) (l,()) v) l (λ(s:Int) (i:Int)=>(s,i)) (λ_ s c=>.inr ((s*31+(c.toNat:Int)) % 65521)) (λs=>(s,())) (λ_ s=>0<=s/\s < 65521) (by rw[an];omega)
  (λi hi s self hI=>by
   grind [rq.b0,To])
  (λi hi s s' hI hs=>by grind) (λs self _=>by
   grind [rq.b0,rq.q0]) 1 Bys k Bys
 rw[ik] at this;exact this
theorem UA (r:bz) (h:xH r):nB.ab (r,())=some (ot r,()):=by
 obtain ⟨K,T,P,xs,⟨⟩⟩:=r;obtain ⟨h1,h2⟩:=h;simp only at h1 h2;refine ag (k:=100) λk hk=>(nB.af k _).trans ?_
 have hlen:∀ i,(jl (xs.take i)).length<=66*64:=λi=>by
  grind [Jd]
 have:=cy (B:=λself v=>nB.b0 self (λz=>nB.q0 ((K,T,P,xs,()),()) z) ((K,T,P,xs,()),()) v) xs (λ(s:List UInt8) (i:Int)=>(s,i)) (λ_ s x=>.inr (s++uM x)) (λs=>(let q:=s.set 0 (UInt8.ofInt (ae ((s.length:Int)+2)));(q++[UInt8.ofInt ((xG 1 q) / 256),UInt8.ofInt (xG 1 q)],())))
  (λi s=>s=ya (K,T,P,xs,())++jl (xs.take i)) (by rw[an];omega)
  (λi hi s self hI=>by
   show nB.b0 _ _ _ _=_;unfold nB.b0;have bc:(i:Int) < (xs.length:Int):=by omega
   have hs:s.length<=5000:=by grind [ya,List.length_cons]
   have hx:=h2 xs[i] (aJ hi);simp only[bc,aP,aM,aR,aL,aD,aB hi,aA]
   grind [cr,uM])
  (λi hi s s' hI hs=>by
   grind [List.take_succ_eq_append_getElem,jl]) (λs self hI=>by
   show nB.b0 _ _ _ _=_;unfold nB.b0;have hs:5<=s.length/\s.length<=5000:=by grind [ya]
   simp only[aY,aI,aE,nB.q0,nB.q0]
   have c0:(0:Int)<=0/\(0:Int) < (s.length:Int):=⟨by omega,by omega⟩
   rw[aH c0,aB (by omega:0 < s.length)];simp only[aA];generalize hq:s.set 0 (UInt8.ofInt (ae ((s.length:Int)+2)))=q;have hql:q.length=s.length:=by grind
   rw[X6 q Bys];simp only[aA];have hb:=VX q 1 Bys;have c1:q.length+[UInt8.ofInt (ae ((xG 1 q).tdiv 256)),UInt8.ofInt ((xG 1 q).tmod 256)].length<=be:=cr (by grind)
   grind [aal,bf]) (ya (K,T,P,xs,())) (by simp[jl]) k Bys
 rw[ik,Jf] at this;exact this
theorem KF (r:bz) (h:xH r):ir.ab (r,())=some (ot r,()):=by
 obtain ⟨K,T,P,xs,⟨⟩⟩:=r;obtain ⟨h1,h2⟩:=h;simp only at h1 h2;refine ag (k:=6000) λk hk=>(ir.af k _).trans ?_
 have hlen:∀ i,(jl (xs.take i)).length<=66*64:=λi=>by
  grind [Jd]
 have aiZ:∀ q:List UInt8,q.length<=5000->ir.r1 k ((K,T,P,xs,()),()) q (q.length:Int) (1,0)=some (q++[UInt8.ofInt ((xG 1 q) / 256),UInt8.ofInt (xG 1 q)],()):=λq hq=>by
  have:=cy (B:=λself v=>ir.b1 self (λz=>ir.q1 ((K,T,P,xs,()),()) q (q.length:Int) z) ((K,T,P,xs,()),()) q (q.length:Int) v) q (λ(s:Int) (i:Int)=>(s,i)) (λ_ s c=>.inr ((s*31+(c.toNat:Int)) % 65521)) (λs=>(q++[UInt8.ofInt (s / 256),UInt8.ofInt s],())) (λ_ s=>0<=s/\s < 65521) (by rw[an];omega)
   (λi hi s self hI=>by
    grind [ir.b1,To])
   (λi hi s s' hI hs=>by grind) (λs self hI=>by
    grind [ir.b1,ir.q1,cr]) 1 Bys k Bys
  rw[ik] at this;exact this
 have:=cy (B:=λself v=>ir.b0 self (λz=>ir.Q0 k ((K,T,P,xs,()),()) z) ((K,T,P,xs,()),()) v) xs (λ(s:List UInt8) (i:Int)=>(s,i)) (λ_ s x=>.inr (s++uM x)) (λs=>(let q:=s.set 0 (UInt8.ofInt (ae ((s.length:Int)+2)));(q++[UInt8.ofInt ((xG 1 q) / 256),UInt8.ofInt (xG 1 q)],())))
  (λi s=>s=ya (K,T,P,xs,())++jl (xs.take i)) (by rw[an];omega)
  (λi hi s self hI=>by
   show ir.b0 _ _ _ _=_;unfold ir.b0;have bc:(i:Int) < (xs.length:Int):=by omega
   have hs:s.length<=5000:=by grind [ya]
   have hx:=h2 xs[i] (aJ hi);simp only[bc,aP,aM,aR,aL,aD,aB hi,aA];generalize xs[i]=x at hx;have c1:s.length+[UInt8.ofInt x.1,UInt8.ofInt (List.length x.2.1:Int)].length<=be:=cr (by grind);have c2:(s++[UInt8.ofInt x.1,UInt8.ofInt (List.length x.2.1:Int)]).length+List.length x.2.1<=be:=cr (by grind)
   grind [uM])
  (λi hi s s' hI hs=>by
   grind [List.take_succ_eq_append_getElem,jl]) (λs self hI=>by
   show ir.b0 _ _ _ _=_;unfold ir.b0;have hs:5<=s.length/\s.length<=5000:=by rw[hI];have:=hlen xs.length;simp only[bQ,ya,bI,cE];omega
   grind [ir.Q0,ir.q0]) (ya (K,T,P,xs,())) (by simp[jl]) k Bys
 rw[ik,Jf] at this;exact this
def ig (D:List UInt8) (i:Nat):Nat:=(D.getD i 0).toNat
theorem DV (D:List UInt8) (i:Nat):ig D i < 256:=fN _
theorem AQ {D:List UInt8} {i:Nat} (h:i < D.length):D[i]?=some D[i]/\(D[i]).toNat=ig D i:=⟨aB h,by simp[ig,h]⟩
def piece (D:List UInt8) (at' n:Nat):cv:=((ig D at':Int),(D.take (at'+2+n)).drop (at'+2),())
def pI (D:List UInt8) (e:Nat):Nat->Nat->List cv->Option (List cv×Nat)
 | 0,a,rs=>some (rs,a)
 | c+1,a,rs=>if e < a+2 then none else if e < a+2+ig D (a+1) then none else pI D e c (a+2+ig D (a+1)) (rs++[piece D a (ig D (a+1))])
theorem VY {e:Nat}:∀ (ys:List cv) (pre Jg:List UInt8) (rs:List cv),(∀ y ∈ ys,0<=y.1/\y.1<=63/\1<=bl y/\bl y<=64)->pre.length+(jl ys).length<=e ->
  pI (pre++jl ys++Jg) e ys.length pre.length rs=some (rs++ys,pre.length+(jl ys).length)
 | [],pre,Jg,rs,_,_=>by simp[pI,jl]
 | y::ys,pre,Jg,rs,h,he=>by
  obtain ⟨b1,b2,b3,b4⟩:=h y (by simp);unfold bl at b3 b4;have hD:pre++jl (y::ys)++Jg=(pre++uM y)++jl ys++Jg:=by grind [Ap]
  have hf1:(uM y).length=2+List.length y.2.1:=by grind [uM]
  have Cf:(jl (y::ys)).length=2+List.length y.2.1+(jl ys).length:=by grind [List.length_append]
  have h8:∀ n:Int,0<=n->n<=64->((UInt8.ofInt n).toNat:Int)=n:=λn h1 h2=>by
   simp[UInt8.ofInt,gZ];omega
  have g0:(ig (pre++jl (y::ys)++Jg) pre.length:Int)=y.1:=by
   grind [ig,uM]
  have g1:ig (pre++jl (y::ys)++Jg) (pre.length+1)=List.length y.2.1:=by
   unfold ig;grind [Ap,uM,Nat.add_sub_cancel_left]
  have g2:piece (pre++jl (y::ys)++Jg) pre.length (List.length y.2.1)=y:=by
   obtain ⟨yi,yb,⟨⟩⟩:=y;unfold piece;have g0:(ig (pre++jl ((yi,yb,())::ys)++Jg) pre.length:Int)=yi:=g0;rw[g0]
   have:((pre++jl ((yi,yb,())::ys)++Jg).take (pre.length+2+yb.length)).drop (pre.length+2)=yb:=by
    rw[Ap];simp only[uM,bV,cY];rw[List.take_append,List.drop_append];have e1:List.take (pre.length+2+yb.length) pre=pre:=gC Bys;have e2:pre.length+2+yb.length - pre.length=yb.length+1+1:=by omega
    simp_all
   grind
  simp only[bI,pI];rw[aN Bys,g1,aN Bys,g2,hD];have hl:(pre++uM y).length=pre.length+2+List.length y.2.1:=by grind
  have:=VY (e:=e) ys (pre++uM y) Jg (rs++[y]) (λz hz=>h z (by simp[hz])) (by rw[hl];omega);grind
def wz (d:List UInt8):Option (bz×Nat):=
 if d.length < 7\/ig d 0 < 7\/d.length < ig d 0 then none else
 match pI (d.take (ig d 0)) (ig d 0 - 2) (ig d 4) 5 [] with
 | none=>none
 | some (rs,a)=>if a=ig d 0 - 2/\tn ((ig d 1:Int),(ig d 2:Int),(ig d 3:Int),rs,())=0/\ot ((ig d 1:Int),(ig d 2:Int),(ig d 3:Int),rs,())=d.take (ig d 0) then
   some (((ig d 1:Int),(ig d 2:Int),(ig d 3:Int),rs,()),ig d 0) else none
theorem ab6 {d:List UInt8} {n i:Nat} (h:i < n) (hn:n<=d.length):ig (d.take n) i=ig d i:=by
 grind [ig]
theorem AS {n:Nat} (h:n<=4000000000):ae (n:Int)=(n:Int):=bf Bys
theorem Tp (a b:List UInt8) (h:a.length<=100000):fk.ab (a,b,())=some (decide (a=b),()):=by
 refine ag (k:=100001) λk hk=>(fk.af k _).trans ?_;unfold fk.p;by_cases hl:a.length=b.length;rotate_left
 ·have h1:¬ ((a.length:Int)=(b.length:Int)):=by omega
  have h2:¬ a=b:=λe=>hl (by rw[e]);grind
 have Eb:(a.length:Int)=(b.length:Int):=by omega
 simp only[Eb,aP,aW,aE]
 have key:∀ (m i:Nat),a.length - i=m->i<=a.length->∀ j,m < j->ao (λself v=>fk.B0 k self (λz=>fk.Q0 k (a,b,()) z) (a,b,()) v) j (i:Int)=some (decide (a.drop i=b.drop i),()):=by
  intro m
  induction m with
  | zero=>
   intro i hm hi j hj;have:i=a.length:=by omega
   subst this
   cases j with
   | zero=>omega
   | succ j=>
    show fk.b0 _ _ _ _=_;grind [fk.b0,fk.q0]
  | succ m ih=>
   intro i hm hi j hj;have bc:i < a.length:=by omega
   cases j with
   | zero=>omega
   | succ j=>
    show fk.b0 _ _ _ _=_;unfold fk.b0;have ail:(i:Int) < (a.length:Int):=by omega
    have hlb:i < b.length:=by omega
    have hw:ae ((i:Int)+1)=((i+1:Nat):Int):=by grind [bf]
    simp only[ail,aP,aM,aR,aL,aD,aB bc,aB hlb,aA,hw];rw[cI bc,cI hlb];by_cases he:a[i]=b[i]
    ·grind [List.cons.injEq]
    ·have:¬ (((a[i]).toNat:Int)=((b[i]).toNat:Int)):=λe=>he (fS.1 Bys);have h2:¬ (a[i]::a.drop (i+1)=b[i]::b.drop (i+1)):=λe=>he (by injection e);grind
 have:=key a.length 0 Bys Bys k Bys;simp only[eD] at this;exact this
def ac5:bz:=((0:Int),(0:Int),(0:Int),([]:List cv),())
theorem aam {D:List UInt8} (hD:7<=D.length) (hD2:D.length<=255) {a1:nK.A} {e0:(bz×Int)->Option nK.O} {K T P N:Int} (hN:0<=N/\N<=255) {k:Nat} :
  ∀ (c a i:Nat) (rs:List cv),(i:Int)+c=N->a<=D.length - 2->rs.length<=i->∀ j,c < j ->
   ao (λself v=>nK.B0 k self e0 a1 D ((D.length - 2:Nat):Int) N v) j ((K,T,P,rs,()),(a:Int),(i:Int))=match pI D (D.length - 2) c a rs with
    | none=>some (ac5,(0:Int),())
    | some (rs',a')=>e0 ((K,T,P,rs',()),(a':Int)):=by
 intro c
 induction c with
 | zero=>
  intro a i rs hi ha hrs j hj
  cases j with
  | zero=>omega
  | succ j=>
   show nK.b0 _ _ a1 _ _ _ _=_;grind [nK.b0,pI]
 | succ c ih=>
  intro a i rs hi ha hrs j hj
  cases j with
  | zero=>omega
  | succ j=>
   show nK.b0 _ _ a1 _ _ _ _=_;unfold nK.b0;have h1:(i:Int) < N:=by omega
   have e1:ae ((a:Int)+2)=((a+2:Nat):Int):=by grind [bf]
   have e2:ae ((a:Int)+1)=((a+1:Nat):Int):=by grind [bf]
   have e3:ae ((i:Int)+1)=((i+1:Nat):Int):=by grind [bf]
   simp only[h1,aP,aM,e1,e2,e3,pI];by_cases h2:D.length - 2 < a+2
   ·have:((D.length - 2:Nat):Int) < ((a+2:Nat):Int):=by omega
    simp only[this,aP,aM,aH h2];rfl
   have h2':¬ ((D.length - 2:Nat):Int) < ((a+2:Nat):Int):=by omega
   obtain ⟨g1,g2⟩:=AQ (show a+1 < D.length by omega);obtain ⟨g3,g4⟩:=AQ (show a < D.length by omega);have hb:=DV D (a+1);have Yz:=DV D a;simp only[h2',aI,aE,aN h2,aR,aL,aD,g1,g3,aA,g2,g4,AS (show ig D (a+1)<=4000000000 by omega),AS (show ig D a<=4000000000 by omega)];have e4:ae (((a+2:Nat):Int)+(ig D (a+1):Int))=((a+2+ig D (a+1):Nat):Int):=by rw[bf Bys];omega
   have e5:ae ((2:Int)+(ig D (a+1):Int))=((2+ig D (a+1):Nat):Int):=by grind [bf]
   have e6:ae ((a:Int)+((2+ig D (a+1):Nat):Int))=((a+2+ig D (a+1):Nat):Int):=by grind
   simp only[e4,e5,e6];by_cases h3:D.length - 2 < a+2+ig D (a+1)
   ·have:((D.length - 2:Nat):Int) < ((a+2+ig D (a+1):Nat):Int):=by omega
    simp only[this,aP,aM,aH h3];rfl
   have h3':¬ ((D.length - 2:Nat):Int) < ((a+2+ig D (a+1):Nat):Int):=by omega
   have h4:((a+2:Nat):Int)<=((a+2+ig D (a+1):Nat):Int)/\((a+2+ig D (a+1):Nat):Int)<=(D.length:Int):=by omega
   simp only[h3',aI,aE,aN h3,h4,cP,aL,aD];rw[nl _ (by simp only[cC,dG];omega)];have hc:rs.length+[(((ig D a:Nat):Int),((D.take (a+2+ig D (a+1))).drop (a+2)),())].length<=be:=cr (by grind [List.length_nil]);simp only[aA,hc,aL];exact ih (a+2+ig D (a+1)) (i+1) _ Bys Bys (by simp;omega) j Bys
theorem UB (d:List UInt8) (hd:d.length<=2000000000):nK.ab (d,())=some (match wz d with | none=>(ac5,(0:Int),()) | some (r,n)=>(r,(n:Int),())):=by
 refine ag (k:=300) λk hk=>(nK.af k _).trans ?_;unfold nK.p wz;by_cases h7:d.length < 7
 ·have:(d.length:Int) < 7:=by omega
  simp only[this,aP,aM,h7,true_or,aL];rfl
 have h7':¬ (d.length:Int) < 7:=by omega
 obtain ⟨g1,g2⟩:=AQ (show 0 < d.length by omega);have hb:=DV d 0;simp only[h7',aI,aE,h7,false_or,g1,aA,g2,AS (show ig d 0<=4000000000 by omega)];by_cases hl:d.length < ig d 0
 ·have:(d.length:Int) < (ig d 0:Int):=by omega
  simp only[this,aP,aM,hl,or_true,aL];rfl
 have Eb:¬ (d.length:Int) < (ig d 0:Int):=by omega
 by_cases hm:ig d 0 < 7
 ·have:(ig d 0:Int) < 7:=by omega
  simp only[Eb,aI,aE,this,aP,aM,hm,true_or,aL];rfl
 have hm':¬ (ig d 0:Int) < 7:=by omega
 have gb:0<=(ig d 0:Int)/\(ig d 0:Int)<=(d.length:Int):=by omega
 simp only[Eb,hm',aI,aE,hl,hm,or_self,aU,gb,cP,aL,aD,eD];generalize hDD:d.take (ig d 0)=D;have hDl:D.length=ig d 0:=by grind
 have ga:∀ i,i < ig d 0->ig D i=ig d i:=λi hi=>by grind [ab6]
 obtain ⟨q1,q2⟩:=AQ (show 1 < D.length by omega);obtain ⟨q3,q4⟩:=AQ (show 2 < D.length by omega);obtain ⟨q5,q6⟩:=AQ (show 3 < D.length by omega);obtain ⟨q7,q8⟩:=AQ (show 4 < D.length by omega);have b1:=DV d 1;have b2:=DV d 2;have b3:=DV d 3;have b4:=DV d 4;have ew:ae ((D.length:Int) - 2)=((D.length - 2:Nat):Int):=by grind [bf]
 simp only[q1,q3,q5,q7,aA,q2,q4,q6,q8,ga 1 Bys,ga 2 Bys,ga 3 Bys,ga 4 Bys,ew,AS (show ig d 1<=4000000000 by omega),AS (show ig d 2<=4000000000 by omega),AS (show ig d 3<=4000000000 by omega),AS (show ig d 4<=4000000000 by omega)];have hp:=aam (D:=D) Bys Bys (a1:=(d,())) (e0:=λz=>nK.Q0 k (d,()) D ((D.length - 2:Nat):Int) (ig d 4:Int) z) (K:=(ig d 1:Int)) (T:=(ig d 2:Int)) (P:=(ig d 3:Int)) (N:=(ig d 4:Int)) Bys (k:=k) (ig d 4) 5 0 [] Bys Bys (aG _) k Bys;refine aV hp ?_;rw[<-hDl]
 cases Kj:pI D (D.length - 2) (ig d 4) 5 [] with
 | none=>rfl
 | some q=>
  obtain ⟨rs,a⟩:=q;simp only[nK.Q0,nK.q0];by_cases ha:a=D.length - 2;rotate_left
  ·have:¬ ((a:Int)=((D.length - 2:Nat):Int)):=by omega
   simp only[this,aI,bO,aM,ha,false_and,aU];rfl
  subst ha;simp only[aP,aW,aE,Nn,aA,eQ];by_cases hr:tn ((ig d 1:Int),(ig d 2:Int),(ig d 3:Int),rs,())=0;rotate_left
  ·simp only[hr,aI,bO,aM,false_and,aU];rfl
  have hs:=ab5 hr;have i9:=E0 hs;simp only[hr,aP,aW,aE,KF _ hs,aA,eQ];rw[Tp _ _ Bys];by_cases he:ot ((ig d 1:Int),(ig d 2:Int),(ig d 3:Int),rs,())=D
  ·grind
  ·simp only[he,aI,aA,bO,aM,aU];rfl
theorem J0 {d:List UInt8} {r:bz} {n:Nat} (h:wz d=some (r,n)):7<=n/\n<=d.length/\tn r=0:=by
 grind [wz]
theorem PW:wz []=none:=rfl
def mc:Nat->List UInt8->List bz×Nat
 | 0,_=>([],0)
 | k+1,d=>match wz d with
  | none=>([],0)
  | some (r,n)=>(r::(mc k (d.drop n)).1,n+(mc k (d.drop n)).2)
theorem Cb:∀ (k k':Nat) (d:List UInt8),d.length < k->d.length < k'->mc k d=mc k' d
 | 0,_,_,h,_=>by omega
 | _+1,0,_,_,h=>by omega
 | k+1,k'+1,d,h,h'=>by
  simp only[mc]
  cases hr:wz d with
  | none=>rfl
  | some q=>
   obtain ⟨r,n⟩:=q;have hn:=J0 hr;have:(d.drop n).length=d.length - n:=cC;simp only;rw[Cb k k' (d.drop n) Bys Bys]
def wX (d:List UInt8):List bz×Nat:=mc (d.length+1) d
theorem Ns (d:List UInt8) (hd:d.length<=1048576):nm.ab (d,())=some ((wX d).1,((wX d).2:Int),()):=by
 refine ag (k:=1048578) λk hk=>(nm.af k _).trans ?_
 have key:∀ (m a:Nat) (acc:List bz),d.length - a=m->a<=d.length->acc.length<=a->∀ j,m < j ->
   ao (λself v=>nm.B0 k self (d,()) v) j (acc,(a:Int))=some (acc++(mc (m+1) (d.drop a)).1,((a+(mc (m+1) (d.drop a)).2:Nat):Int),()):=by
  intro m
  induction m using Nat.strongRecOn with
  | ind m ih=>
  intro a acc hm ha ai0 j hj
  cases j with
  | zero=>omega
  | succ j=>
   show nm.b0 _ _ _=_;unfold nm.b0;have gb:(0:Int)<=(a:Int)/\(a:Int)<=(d.length:Int):=by omega
   simp only[gb,cP,aL,aD,eJ];rw[UB _ (by simp;omega)];simp only[aA,mc]
   cases hr:wz (d.drop a) with
   | none=>grind
   | some q=>
    obtain ⟨r,n⟩:=q;have hn:=J0 hr;have hl:(d.drop a).length=d.length - a:=cC;have h0:¬ ((n:Int)=0):=by omega
    have hc:acc.length+[r].length<=be:=cr (by grind);have ew:ae ((a:Int)+(n:Int))=((a+n:Nat):Int):=by grind [bf]
    simp only[h0,aI,aE,hc,aL,ew];have:=ih (d.length - (a+n)) Bys (a+n) (acc++[r]) rfl Bys (by simp;omega) j Bys;grind [List.drop_drop,Cb]
 have:=key d.length 0 [] rfl Bys (aG _) k Bys;simp only[eD,cJ,bS] at this;exact this
def VZ (l:Log):Prop:=List.length l.1<=1048576/\List.length l.2.1<=1048576
def uN (d:List UInt8):Bool:=decide ((wX d).2=d.length)
def yV (l:Log):Int:=if 16000 < List.length l.1+List.length l.2.1 then 2 else if uN l.1&&uN l.2.1 then 0 else 5
theorem size_eq (l:Log) (h:VZ l):j_.ab (l,())=some (((List.length l.1+List.length l.2.1:Nat):Int),()):=by
 refine ag (k:=0) λk _=>(j_.af k _).trans ?_;show j_.p _=_;unfold j_.p;obtain ⟨h1,h2⟩:=h;grind [bf]
theorem X7 (l:Log) (h:VZ l):mf.ab (l,())=some (yV l,()):=by
 refine ag (k:=5) λk hk=>(mf.af k _).trans ?_;unfold mf.p yV;rw[size_eq l h]
 have hl:∀ x ∈ [l.1,l.2.1],List.length x<=1048576:=by
  intro x hx;simp only[aZ,dR,gB] at hx;rcases hx with e | e <;> subst e
  ·exact h.1
  ·exact h.2
 have:=cy (B:=λself v=>mf.b0 self (λz=>mf.q0 (l,()) z) (l,()) v) [l.1,l.2.1] (λ(_:Unit) (i:Int)=>i) (λ_ _ x=>if uN x then .inr () else .inl (5,())) (λ_=>(0,())) (λ_ _=>True) (by rw[an];simp)
  (λi hi s self hI=>by
   grind [mf.b0,Ns,uN])
  (λ_ _ _ _ _ _=>trivial) (λs self _=>by
   grind [mf.b0,mf.q0]) () trivial k (by grind)
 rw[vZ uN (5,()) (λ_=>(0,()))] at this;have this:mf.r0 k (l,()) 0=_:=this;grind
theorem Nt (l:Log) (r:bz) (h:VZ l) (hs:xH r):ol.ab (l,r,())=some (if 16000 < List.length l.1+List.length l.2.1+(ot r).length then (l,false,()) else ((l.1,l.2.1++ot r,()),true,())):=by
 have i9:=E0 hs;obtain ⟨o1,o2⟩:=h;refine ag (k:=0) λk _=>(ol.af k _).trans ?_;show ol.p _=_;unfold ol.p
 have hcp:oy.ab (l,())=some (l,()):=by
  refine ag (k:=0) λk _=>(oy.af k _).trans ?_;grind [oy.p,pY]
 grind [bf,cr,UA]
theorem Nu (l:Log) (r:bz) (h:VZ l) (hs:xH r):lX.ab (l,r,())=some (if 16000 < List.length l.1+List.length l.2.1+(ot r).length then (l,false,()) else ((l.1,l.2.1++ot r,()),true,())):=by
 have i9:=E0 hs;have a_:=h;obtain ⟨o1,o2⟩:=h;refine ag (k:=0) λk _=>(lX.af k _).trans ?_;grind [lX.p,bf,cr,KF,size_eq,nl]
theorem adQ (l:Log) (g1:List.length l.1<=2000000) (g2:List.length l.2.1<=2000000):tQ.ab (l,())=some (l,()):=by
 refine ag (k:=0) λk _=>(tQ.af k _).trans ?_;grind [tQ.p,nl]
theorem DW {a b:List UInt8} {i:Nat} (h:i < a.length):ig (a++b) i=ig a i:=by
 unfold ig;simp only[dN];rw[cT h]
theorem ab7:∀ (xs:List cv) (s:Int),s<=65->(bu (λ_ s x=>nR s x) (λ_=>((0:Int),())) 0 xs s).1=0->s+(tO (λx:cv=>List.length x.2.1+1) xs:Int)<=65:=by
 have main:∀ (xs:List cv) (i:Nat) (s:Int),s<=65->(bu (λ_ s x=>nR s x) (λ_=>((0:Int),())) i xs s).1=0->s+(tO (λx:cv=>List.length x.2.1+1) xs:Int)<=65:=by
  intro xs
  induction xs with
  | nil=>intro i s h _;simp only[tO];omega
  | cons x xs ih=>
   intro i s h h0;simp only[bu] at h0
   cases hs:nR s x with
   | inl o=>rw[hs] at h0;exact absurd h0 (Th hs)
   | inr s'=>
    rw[hs] at h0;have hg:=PT hs;have hb:bl x=(List.length x.2.1:Int):=rfl;have:=ih (i+1) s' Bys h0;simp only[tO];omega
 exact λxs s=>main xs 0 s
theorem PX:∀ (xs:List cv),(jl xs).length<=2*tO (λx:cv=>List.length x.2.1+1) xs
 | []=>aX _
 | x::xs=>by
  have:=PX xs;rw[Ap,bQ];simp only[uM,bI,tO];omega
theorem ab8 {r:bz} (h:tn r=0):(jl r.2.2.2.1).length<=130:=by
 have hg:=PX r.2.2.2.1
 have:vt r.2.2.2.1=0\/List.length r.2.2.2.1=0:=by
  unfold tn at h;by_cases V0:dr r.1 2 4=true
  ·left;split at h
   ·cases h
   ·split at h
    ·cases h
    ·rw[V0] at h;simp only[aW,aF,aU] at h;split at h
     ·assumption
     ·rename_i hn;exact absurd h hn
  ·right;split at h
   ·cases h
   ·rename_i hc;simp only[cN,jI,aC,cB,not_and] at hc;have:=hc.1.2 (by simpa using V0);simp only[bE] at this;omega
 rcases this with h0 | h0
 ·unfold vt at h0;split at h0
  ·cases h0
  ·have:=ab7 r.2.2.2.1 0 Bys h0;omega
 ·have:r.2.2.2.1=[]:=bX h0;rw[this];exact aX _
theorem Jh {n:Int} (h0:0<=n) (h1:n<=255):((UInt8.ofInt n).toNat:Int)=n:=by
 simp[UInt8.ofInt,gZ];omega
theorem aan {r:bz} (h:tn r=0) (s:List UInt8):wz (ot r++s)=some (r,(ot r).length):=by
 have hg:=BK h;have vv:=ab8 h;have i9:=Je r;have hhl:=VW r;obtain ⟨k,t,p,xs,⟨⟩⟩:=r;simp only at hg vv i9;have hnb:(jl xs).length<=130:=vv;have hn:(ot (k,t,p,xs,())).length=7+(jl xs).length:=i9
 have hw:ae (((ya (k,t,p,xs,())++jl xs).length:Int)+2)=((7+(jl xs).length:Nat):Int):=by
  rw[bQ];simp only[ya,bI,cE];rw[bf Bys];omega
 have hhd:Jc (k,t,p,xs,())=[UInt8.ofInt ((7+(jl xs).length:Nat):Int),UInt8.ofInt k,UInt8.ofInt t,UInt8.ofInt p,UInt8.ofInt (List.length xs:Int)]++jl xs:=by
  unfold Jc;rw[show (k,t,p,xs,()).2.2.2.1=xs from rfl,hw];rfl
 have V1:ot (k,t,p,xs,())=[UInt8.ofInt ((7+(jl xs).length:Nat):Int),UInt8.ofInt k,UInt8.ofInt t,UInt8.ofInt p,UInt8.ofInt (List.length xs:Int)]++jl xs++[UInt8.ofInt ((xG 1 (Jc (k,t,p,xs,()))) / 256),UInt8.ofInt (xG 1 (Jc (k,t,p,xs,())))]:=by
  unfold ot;rw[hhd]
 have e0:ig (ot (k,t,p,xs,())++s) 0=7+(jl xs).length:=by
  have:=Jh (n:=((7+(jl xs).length:Nat):Int)) Bys Bys;rw[DW Bys,V1];show (UInt8.ofInt ((7+(jl xs).length:Nat):Int)).toNat=_;omega
 have e1:(ig (ot (k,t,p,xs,())++s) 1:Int)=k:=by
  rw[DW Bys,V1];exact Jh (n:=k) Bys Bys
 have e2:(ig (ot (k,t,p,xs,())++s) 2:Int)=t:=by
  rw[DW Bys,V1];exact Jh (n:=t) Bys Bys
 have e3:(ig (ot (k,t,p,xs,())++s) 3:Int)=p:=by
  rw[DW Bys,V1];exact Jh (n:=p) Bys Bys
 have e4:ig (ot (k,t,p,xs,())++s) 4=xs.length:=by
  have:=Jh (n:=(xs.length:Int)) Bys Bys;rw[DW Bys,V1];show (UInt8.ofInt (xs.length:Int)).toNat=_;omega
 have hp:=VY (e:=5+(jl xs).length) xs [UInt8.ofInt ((7+(jl xs).length:Nat):Int),UInt8.ofInt k,UInt8.ofInt t,UInt8.ofInt p,UInt8.ofInt (List.length xs:Int)] [UInt8.ofInt ((xG 1 (Jc (k,t,p,xs,()))) / 256),UInt8.ofInt (xG 1 (Jc (k,t,p,xs,())))] [] hg.2.2.2.2.2.2.2 (by simp only[bI,cE];omega);rw[<-V1] at hp;unfold wz;rw[e0,e1,e2,e3,e4,aN (by rw[bQ,hn];omega),gM Bys,gC Bys,show 7+(jl xs).length - 2=5+(jl xs).length by omega];simp only[bI,cE] at hp;rw[hp];simp only[cJ];exact (aH ⟨trivial,h,trivial⟩).trans (cV (λn=>some (((k,t,p,xs,()):bz),n)) hn.symm)
def wT (rs:List bz):List UInt8:=rs.flatMap ot
theorem Tq:∀ (rs:List bz) (k:Nat),(wT rs).length < k->(∀ r ∈ rs,tn r=0)->mc k (wT rs)=(rs,(wT rs).length)
 | [],k,hk,_=>by
  obtain ⟨j,rfl⟩:∃ j,k=j+1:=⟨k - 1,by omega⟩
  simp only[wT,iQ,mc,PW];rfl
 | r::rs,k,hk,h=>by
  have hc:wT (r::rs)=ot r++wT rs:=by unfold wT;rw[dU]
  rw[hc,bQ] at hk ⊢;have hp:=Je r
  obtain ⟨j,rfl⟩:∃ j,k=j+1:=⟨k - 1,by omega⟩
  have ih:=Tq rs j Bys λq hq=>h q (bA _ hq);simp only[mc,aan (h r bF),List.drop_left,ih]
theorem aao {rs:List bz} (h:∀ r ∈ rs,tn r=0):wX (wT rs)=(rs,(wT rs).length):=Tq rs _ Bys h
structure Lk (ps:bp) (w:ca):Prop where
 at_:HL ps w.2.1=w.1
 ed:Ag ps w.2.1
section
variable {ps:bp} {w:ca} {n:Nat}
theorem Lk.yN (h:Lk ps w) {P:Nat} {b:List UInt8} {m:Nat} (ho:okW (nD w P b) m) (hP:P<=List.length w.1):Lk ps (nD w P b):=by
 rcases M8 hP b with e | ⟨e1,e2⟩
 ·rw[e];exact h
 ·refine ⟨by rw[e1,VJ,h.at_,e2],?_⟩
  rw[e1];exact IV h.ed (by rw[h.at_];exact VK (by rw[<-e2];exact ho.jQ) hP)
theorem Lk.comp (h:Lk ps w) (ho:okW w n) {P:Nat} (hP:P < List.length w.1):Lk ps (px w P):=h.yN (xC ho hP) (dX hP)
theorem Lk.sj (h:Lk ps w) (ho:okW w n) {P:Nat} (hP:P < List.length w.1) {c:List UInt8} (hc:1<=c.length):Lk ps (sj w P c).2:=by
 have R:=(yT ho hP hc).ok;have hk:=h.comp ho hP;unfold OT.sj at R ⊢;by_cases h8:nw (gf w.1 P) c=8
 ·rw[aH h8] at R ⊢;by_cases h0:nw (nh (gf w.1 P)) c=0
  ·rw[aH h0] at R ⊢;exact hk.yN R (by rw[tF hP];omega)
  ·rw[aN h0];exact hk
 ·rw[aN h8] at R ⊢;by_cases h0:nw (gf w.1 P) c=0
  ·rw[aH h0] at R ⊢;exact h.yN R (dX hP)
  ·rw[aN h0];exact h
theorem Lk.kW (h:Lk ps w) (ho:okW w n) {P s:Nat} (ey:bt w.1 P s≠[]) {c:List UInt8} (hc:1<=c.length):Lk ps (kW w P s c).2:=by
 have R:=(qi ho ey hc).ok;have hP:=(uG ho.jQ ey).1;have hk:=h.comp ho hP;unfold OT.kW at R ⊢;by_cases h8:sD (gf w.1 P) s c=8
 ·rw[aH h8] at R ⊢;by_cases h0:sD (nh (gf w.1 P)) s c=0
  ·rw[aH h0] at R ⊢;exact hk.yN R (by rw[tF hP];omega)
  ·rw[aN h0];exact hk
 ·rw[aN h8] at R ⊢;by_cases h0:sD (gf w.1 P) s c=0
  ·rw[aH h0] at R ⊢;exact h.yN R (dX hP)
  ·rw[aN h0];exact h
theorem Lk.kM (h:Lk ps w) (ho:okW w n) {P s:Nat} (ey:bt w.1 P s≠[]):Lk ps (kM w P s):=h.yN (qw ho ey).1 (dX (uG ho.jQ ey).1)
end
theorem Lk.jO {ps:bp} {c:List UInt8} (hc:1<=c.length) (no:Int):∀ (l:List Nat) (w:ca) (n:Nat),Lk ps w->okW w n->(∀ P ∈ l,P < List.length w.1)->Lk ps (jO c no l w).2
 | [],w,n,h,_,_=>h
 | P::l,w,n,h,ho,hl=>by
  unfold OT.jO;split
  ·exact Lk.jO hc no l w n h ho λQ hQ=>hl Q (bA _ hQ)
  ·have hP:=hl P bF;have R:=yT ho hP hc;have hk:=h.sj ho hP hc;split
   ·exact hk
   ·exact Lk.jO hc no l _ _ hk R.ok λQ hQ=>by rw[R.len];exact hl Q (bA _ hQ)
section
variable {ps:bp} {w:ca} {n:Nat}
theorem Lk.mU (h:Lk ps w) (ho:okW w n) {c:List UInt8} (lh:1<=c.length) (hc:c.length<=20) (no:Int):Lk ps (mU w no c).2:=by
 have R:=(tG ho lh hc no).ok;have G:=wo lh no (List.range (List.length w.1)) w n ho λP hP=>cD.1 hP;have hk:=Lk.jO lh no (List.range (List.length w.1)) w n h ho λP hP=>cD.1 hP;unfold OT.mU at R ⊢
 cases hr:(OT.jO c no (List.range (List.length w.1)) w).1 with
 | some a=>exact hk
 | none=>
  rw[hr] at R;simp only at R ⊢;by_cases Ae:12<=List.length w.1
  ·rw[aH Ae];exact hk
  ·rw[aN Ae] at R ⊢;exact hk.yN R (by rw[(G.no hr).1];omega)
theorem Lk.py (h:Lk ps w) (ho:okW w n) {P s A B:Nat} (h1:bt w.1 P s≠[]) (h2:bt w.1 A B≠[]) (mv:Bool) {r:Row} (hr:gz r=0):Lk ps (py w P s A B mv r).2:=by
 have R1:=qi ho h2 (gc (f:=bif mv then 2 else 0) hr).1;have L1:=h.kW ho h2 (gc (f:=bif mv then 2 else 0) hr).1;have R2:=tG R1.ok (gc (f:=2) hr).1 (by have:=(gc (f:=2) hr).2;omega) (A:Int);have L2:=L1.mU R1.ok (gc (f:=2) hr).1 (by have:=(gc (f:=2) hr).2;omega) (A:Int);unfold OT.py;split
 ·exact L1
 ·split
  ·exact L2
  ·rename_i a ha;have k1:=tH R2 (nW R1 h1 jM) jM;have k2:=tH R2 (nW R1 h2 jM) jM;have R3:=qi R2.ok k1 (c:=kX a.1 a.2) (by rw[qy];omega);have L3:=L2.kW R2.ok k1 (c:=kX a.1 a.2) (by rw[qy];omega)
   cases mv with
   | false=>exact L3
   | true=>exact L3.kM R3.ok (nW R3 k2 (by unfold kX;simp))
end
theorem Lk.start {ps:bp}:Lk ps (d7 ps):=⟨rfl,trivial⟩
theorem OE {ps:bp} (hv:ja ps=0) {c:Change} (hc:lg c=0) (h0:(kB ps c).1=0):∃ w:ca,kB ps c=((0:Int),w.2.1,w.1,())/\okW w 40/\Lk ps w:=by
 obtain ⟨hR,S⟩:=pE.1 hv;have ho:=r_ hR;have hL:Lk ps (d7 ps):=Lk.start;unfold kB at h0 ⊢;rw[aH hv,aH hc] at h0 ⊢
 cases hx:vq ps (ck c).1 (ck c).2 with
 | none=>
  rw[hx] at h0;simp only at h0 ⊢
  cases hw:c.1 with
  | true=>rw[hw] at h0;exact absurd h0 (show ¬ (8:Int)=0 by decide)
  | false=>
   rw[hw] at h0;simp only[aF,aU] at h0 ⊢;have hr:=(pw hc).2 (FC (ps:=[]) (λp hp=>by cases hp) hc hw);have hk:=hL.mU ho (gc (f:=0) hr).1 (by have:=(gc (f:=0) hr).2;omega) (-1);rw[(xZ h0).2];exact ⟨_,rfl,(Ou ho hr).ok.mono Bys,hk⟩
 | some x=>
  have hm:=cU hx;obtain ⟨P,s,c1,c2,x1,x2,x3,x4,x5,x6⟩:=JW hv hm;rw[hx] at h0;simp only at h0 ⊢
  cases hb:(c.1&&Ty.eq ay (kR x) c.2.1) with
  | false=>rw[hb] at h0;exact absurd h0 (show ¬ (8:Int)=0 by decide)
  | true=>
   rw[hb] at h0;simp only[aL] at h0 ⊢
   cases hi:c.2.2.1 with
   | true=>
    rw[hi] at h0;simp only[aL] at h0 ⊢;have hr:=(pw hc).2 hi;unfold DK at h0 ⊢;by_cases he:Ty.eq ay (kR x) c.2.2.2.1=true
    ·rw[aH he];exact ⟨_,rfl,ho.mono Bys,hL⟩
    ·rw[aN he] at h0 ⊢;rw[(xZ h0).2];by_cases hf:gg (bt ps P s)=1
     ·obtain ⟨a1,a2⟩:=S.stub P s c1 hf;rw[x3,aH hf,aH hf,x1,x2,x4,x5,aS hf,aD,aD,aD,aD];exact ⟨_,rfl,(CM ho Bys c1 a1 true hr).mono Bys,hL.py ho c1 a1 true hr⟩
     ·rw[x3,aN hf,aN hf,x1,x2,aK hf,aD,aD];exact ⟨_,rfl,(CM ho Bys c1 c1 false hr).mono Bys,hL.py ho c1 c1 false hr⟩
   | false=>
    simp only[aF,aU];obtain ⟨d1,d2,d3⟩:=qw ho c1;have L1:=hL.kM ho c1;unfold Hd;rw[x1,x2,x4,x5,aD,aD,aD,aD,x3];by_cases hf:gg (bt ps P s)=1
    ·rw[aH hf];obtain ⟨a1,a2⟩:=S.stub P s c1 hf
     have ne:¬ (o8 (bt ps P s)=P/\o9 (bt ps P s)=s):=λhe=>by
      rw[he.1,he.2] at a2;exact c2 a2
     have k1:bt (kM (d7 ps) P s).1 (o8 (bt ps P s)) (o9 (bt ps P s))≠[]:=by rw[d3,aN ne];exact a1
     exact ⟨_,rfl,(qw d1 k1).1.mono Bys,L1.kM d1 k1⟩
    ·rw[aN hf];exact ⟨_,rfl,d1.mono Bys,L1⟩
end OT
