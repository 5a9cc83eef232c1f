/- The proof's parts, merged: A change noted  the program and the reference alike  and the law of NoteChange.. No conditions but those that each states. -/
import Derived.Test.YtghckfpmmofmnaaGreatDh
set_option linter.unusedVariables false
set_option linter.unusedSimpArgs false
namespace OT
open Go
theorem RY (xs:List Tx) (k0:Key) (h:pr xs):oP.ab (xs,k0,())=some (px xs k0,()):=by
 obtain ⟨h1,h2⟩:=h;refine ag (k:=xs.length+1) λk hk=>(oP.ae k _).trans ?_
 have:=cz (B:=λself v=>oP.b0 self (λz=>oP.q0 (xs,k0,()) z) (xs,k0,()) v) xs (λ(_:Unit) (i:Int)=>i) (λ_ _ x=>if jO x.2.2.2.1 k0 then .inl (x.1,()) else .inr ()) (λ_=>(0,())) (λ_ _=>True) (by rw[an];omega)
  (λi hi s self _=>by
   grind [oP.b0,contains_eq,Qg])
  (λ_ _ _ _ _ _=>trivial) (λs self _=>by
   show oP.b0 _ _ _ _=_;unfold oP.b0;simp only[aU,aG,aE]
   rfl) () trivial k Bys
 rw[Hn] at this;exact this
theorem XV (s:List Change) (h:s.length<=1048576):lX.ab (s,())=some (s,()):=by
 refine ag (k:=0) λk _=>(lX.ae k _).trans ?_;show lX.p _=_;unfold lX.p;refine D2 (λe=>by grind) ?_;grind [dc]
theorem XW (s:List Int) (h:s.length<=1048576):mK.ab (s,())=some (s,()):=by
 refine ag (k:=0) λk _=>(mK.ae k _).trans ?_;show mK.p _=_;unfold mK.p;refine D2 (λe=>by grind) ?_;grind [dc]
theorem XX (s:List Key) (h:s.length<=1048576):nP.ab (s,())=some (s,()):=by
 refine ag (k:=0) λk _=>(nP.ae k _).trans ?_;show nP.p _=_;unfold nP.p;refine D2 (λe=>by grind) ?_;grind [dc]
theorem Vw (x:Tx) (h:tl x):pO.ab (x,())=some (x,()):=by
 obtain ⟨h1,h2,h3,_⟩:=h;refine ag (k:=0) λk _=>(pO.ae k _).trans ?_;grind [pO.p,dc]
theorem HC (xs:List Tx) (h:pr xs):ln.ab (xs,())=some (xs,()):=by
 obtain ⟨h1,h2⟩:=h;refine ag (k:=xs.length+1) λk hk=>(ln.ae k _).trans ?_
 have:=cz (B:=λself v=>ln.b0 self (λz=>ln.q0 (xs,()) z) (xs,()) v) xs (λ(s:List Tx) (i:Int)=>(s,i)) (λ_ s x=>.inr (s++[x])) (λs=>(s,())) (λi s=>s.length=i) (by rw[an];omega)
  (λi hi s self hI=>by
   grind [ln.b0,dc,Vw])
  (λi hi s s' hI hs=>by grind) (λs self hI=>by
   show ln.b0 _ _ _ _=_;unfold ln.b0;simp only[aU,aG,aE]
   rfl) [] rfl k Bys
 rw[iv,Au] at this;exact this
theorem AG (xs:List Tx) (h:pr xs):iN.ab (xs,())=some (xs,()):=by
 obtain ⟨h1,h2⟩:=h;refine ag (k:=xs.length+1) λk hk=>(iN.ae k _).trans ?_
 have:=cz (B:=λself v=>iN.b0 self (λz=>iN.q0 (xs,()) z) (xs,()) v) xs (λ(s:List Tx) (i:Int)=>(s,i)) (λ_ s x=>.inr (s++[x])) (λs=>(s,())) (λi s=>s.length=i) (by rw[an];omega)
  (λi hi s self hI=>by
   show iN.b0 _ _ _ _=_;unfold iN.b0;have a8:(i:Int) < (xs.length:Int):=by omega
   have hx:=h2 _ (aN hi);simp only[a8,aJ,aO,aK,aH,aC,aB hi,aA];generalize xs[i]=x at hx;obtain ⟨g1,g2,g3,_⟩:=hx
   grind [XV,XW,XX,dc])
  (λi hi s s' hI hs=>by grind) (λs self hI=>by
   show iN.b0 _ _ _ _=_;unfold iN.b0;simp only[aU,aG,aE]
   rfl) [] rfl k Bys
 rw[iv,Au] at this;exact this
def Dm (x:Tx) (c:Change):Tx:=(x.1,x.2.1++[c],x.2.2.1,if jO x.2.2.2.1 (oy c) then x.2.2.2.1 else x.2.2.2.1++[oy c],())
def w7 (xs:List Tx) (j:Nat) (c:Change):List Tx:=match xs[j]? with
 | some x=>xs.set j (Dm x c)
 | none=>xs
theorem RZ (xs:List Tx) (j:Nat) (c:Change) (h:pr xs) (hj:j < xs.length):pP.ab (xs,(j:Int),c,())=some (w7 xs j c,()):=by
 refine ag (k:=0) λk _=>(pP.ae k _).trans ?_;show pP.p _=_;unfold pP.p w7;have hx:=h.2 _ (aN hj);have gw:(0:Int)<=(j:Int)/\(j:Int) < (xs.length:Int):=by omega
 simp only[HC xs h,aA,gw,bS,aH,aC,aB hj,GS];generalize QB:xs[j]=x at hx;obtain ⟨g1,g2,g3,_⟩:=hx;have Le:xs.set j x=xs:=by grind [List.set_getElem_self]
 have hg:xs[j]?=some x:=by grind
 have c1:List.length x.2.1+[c].length<=ct:=dc (by grind);have c2:List.length x.2.2.2.1+[oy c].length<=ct:=dc (by grind);have hq:∀ y:Tx,(xs.set j y)[j]?=some y:=λy=>by simp[hj]
 rw[aM c1,Le];simp only[hg,aA,hq];grind [Jl,an,Dm,List.set_set]
theorem R4 (xs:List Tx) (j:Nat) (c:Change) (h:pr xs) (hj:j < xs.length):rZ.ab (xs,(j:Int),c,())=some (w7 xs j c,()):=by
 refine ag (k:=0) λk _=>(rZ.ae k _).trans ?_;show rZ.p _=_;unfold rZ.p w7;have hx:=h.2 _ (aN hj);have gw:(0:Int)<=(j:Int)/\(j:Int) < (xs.length:Int):=by omega
 simp only[AG xs h,aA,gw,bS,aH,aC,aB hj,L5];generalize QB:xs[j]=x at hx;obtain ⟨g1,g2,g3,_⟩:=hx;have Le:xs.set j x=xs:=by grind [List.set_getElem_self]
 have hg:xs[j]?=some x:=by grind
 have c1:List.length x.2.1+[c].length<=ct:=dc (by grind);have c2:List.length x.2.2.2.1+[oy c].length<=ct:=dc (by grind);have hq:∀ y:Tx,(xs.set j y)[j]?=some y:=λy=>by simp[hj]
 rw[aM c1,Le];simp only[hg,aA,hq];grind [contains_eq,an,Dm,List.set_set]
def JB (c:Int):GE:=(c,([]:List Tx),())
def zP (xs:List Tx) (t:Int) (c:Change):GE:=
 if ny xs=0 then
  if uj xs t < 0 then JB 4
  else if FT c=0 then
   if px xs (oy c)≠0/\px xs (oy c)≠t then JB 7
   else if 12<=zk xs then JB 2
   else if px xs (oy c)=0/\12<=List.length ((xs.getD (uj xs t).toNat (0,[],[],[],())).2.2.2.1:List Key) then JB 2
   else ((0:Int),w7 xs (uj xs t).toNat c,())
  else JB (FT c)
 else JB (ny xs)
theorem ZB {xs:List Tx} (h:ny xs=0):Bv xs=0/\xs.length<=4:=by
 grind [ny]
theorem Vx {xs:List Tx} {k:Key} (h:px xs k≠0):∃ x ∈ xs,x.1=px xs k/\jO x.2.2.2.1 k=true:=by
 induction xs <;> grind [px]
theorem Vy {xs:List Tx} {k:Key} (h:px xs k=0) (hp:∀ x ∈ xs,1<=x.1):∀ x ∈ xs,jO x.2.2.2.1 k=false:=by
 induction xs <;> grind [px]
theorem QC (xs:List Tx) (t:Int) (c:Change) (h:pr xs) (hc:cl c):nv.ab (xs,t,c,())=some (zP xs t c,()):=by
 refine ag (k:=0) λk _=>(nv.ae k _).trans ?_;show nv.p _=_;unfold nv.p zP JB;simp only[FA xs h,AF xs t h.1,MS c hc,L5,RY xs _ h,CJ xs h,aA];by_cases h1:ny xs=0;rotate_left
 ·grind
 simp only[h1,aJ,aR,aE,aH];by_cases h2:uj xs t < 0
 ·grind
 simp only[h2,aG,aE,aS];by_cases h3:FT c=0;rotate_left
 ·grind
 simp only[h3,aJ,aR,aE,aH];obtain ⟨j,hj,e1,e2⟩:=E3 (λx:Tx=>decide (x.1=t)) xs 0 (by grind [uj]);have e1:uj xs t=(j:Int):=by show vD _ 0 xs=_;rw[e1];omega
 rw[e1,aC];have hn:=R4 xs j c h hj;grind
end OT
set_option linter.unusedSectionVars false
namespace OT
open Go
theorem ZC {s:ba} (h:xz s=0) (hu:s.1=true):py (s.2.1,s.2.2.1)/\rR (bm s.2.1,s.2.2.2.1,s.2.2.2.2.1,())=0:=by
 unfold xz at h;by_cases hl:zj s.2.2.1=0
 ·rw[aM hl,hu,aO] at h;unfold upF at h;by_cases hv:ip s.2.1=0
  ·rw[aM hv] at h;refine ⟨⟨hv,(Dl hl).1⟩,?_⟩
   by_cases hp:rR (bm s.2.1,s.2.2.2.1,s.2.2.2.2.1,())=0
   ·exact hp
   ·rw[aV hp] at h;exact absurd h hp
  ·rw[aV hv] at h;exact absurd h hv
 ·rw[aV hl] at h;exact absurd h hl
theorem Ts {s:ba} (hq:py (s.2.1,s.2.2.1)) (ht:pr s.2.2.2.1):pk.ab (s,())=some (s,()):=by
 refine ag (k:=0) λk _=>(pk.ae k _).trans ?_;unfold pk.p;have:=hq.2;unfold nW at this;rw[FR _ (BE hq.1)];simp only[aA];rw[abi s.2.2.1 (by show List.length s.2.2.1.1<=_;simp only at this;omega) (by show List.length s.2.2.1.2.1<=_;simp only at this;omega)];simp only[aA];rw[AG _ ht];rfl
theorem ZD {l:Log} (h:nW l<=16000):nh.ab (l,())=some (l,()):=by
 unfold nW at h;refine ag (k:=0) λk _=>(nh.ae k _).trans ?_;unfold nh.p;rw[my _ (by show List.length l.1<=_;omega)];simp only[aA];rw[my _ (by show List.length l.2.1<=_;omega)];rfl
theorem ZE {s:ba} (hq:py (s.2.1,s.2.2.1)) (ht:pr s.2.2.2.1):sF.ab (s,())=some (s,()):=by
 refine ag (k:=0) λk _=>(sF.ae k _).trans ?_;unfold sF.p;rw[xD _ (BE hq.1)];simp only[aA];rw[ZD hq.2];simp only[aA];rw[HC _ ht];rfl
theorem HD (k t:Int):wC (k,t,(0:Int),([]:List cr),()):=⟨aW _,λx hx=>by cases hx⟩
section
variable {s:ba} {b:Buffer} (hq:py (s.2.1,s.2.2.1)) (hb:∀ c ∈ (b.2.1:List Change),nC c=0) (hl:List.length b.2.1<=1000)
include hq hb hl
end
theorem QD (u:Bool) (ps:ca) (l:Log) (ts:List Tx) (n:Int):zz bv (u,ps,l,ts,n,())=zz (.aa (.aa u8)) ps+nW l+zz (.aa bh) ts:=by
 show 0+(zz (.aa (.aa u8)) ps+(((List.length l.1+lT (zz u8) l.1)+((List.length l.2.1+lT (zz u8) l.2.1)+0))+(zz (.aa bh) ts+(0+0))))=_;have h1:lT (zz u8) l.1=0:=As _ (λ_=>rfl) l.1;have h2:lT (zz u8) l.2.1=0:=As _ (λ_=>rfl) l.2.1;unfold nW;omega
theorem abo {s':ba} (hq:py (s'.2.1,s'.2.2.1)):zz bv s'<=17000+zz (.aa bh) s'.2.2.2.1:=by
 obtain ⟨u,ps,l,ts,n,⟨⟩⟩:=s';refine bH (fQ (QD u ps l ts n)) ?_;have h1:=Y7 ps (BE hq.1);have h2:nW l<=16000:=hq.2;show _<=17000+zz (.aa bh) ts;omega
end OT
namespace OT
open Go
theorem XY {c:Change} (hc:nC c=0) (h:c.1=true):rk c.2.1=ck c:=by
 unfold nC at hc;rw[h] at hc;unfold ck
 cases hi:c.2.2.1 with
 | false=>rfl
 | true=>
  rw[hi] at hc;simp only[aR,iE,gQ,dT,dJ] at hc;split at hc
  ·cases hc
  ·rename_i hn;have hs:sameKey c.2.1 c.2.2.2.1=true:=by simpa using hn
   rw[Fl] at hs;exact fC hs
theorem XZ (x:Row):Ty.eq aT x x=true:=by
 have e:Ty.eq aT x x=(decide (x.1=x.1)&&(decide (x.2.1=x.2.1)&&(decide (x.2.2.1=x.2.2.1)&&(decide (x.2.2.2.1=x.2.2.2.1)&&true)))):=rfl;rw[e];simp
theorem ZF {xs:List Row} (hu:up xs) {c:Change} (hc:nC c=0):uw xs c=true↔(if c.1=true then c.2.1 ∈ xs else ∀ r ∈ xs,rk r≠ck c):=by
 unfold uw
 cases hw:c.1 with
 | true=>
  have hk:=XY hc hw;rw[aM rfl];constructor
  ·intro h;simp only[aD,iI] at h;obtain ⟨h1,h2⟩:=h;obtain ⟨hp,_⟩:=vF h1;rw[h1,aB hp] at h2;simp only[aR,dJ] at h2;have:=XA h2;rw[<-this];exact aN hp
  ·intro h;obtain ⟨i,hi,hx⟩:=cX h;obtain ⟨f1,f2⟩:=Ea hu hi (k:=ck c) (by rw[hx];exact hk);rw[f1,f2,aB hi,hx];simp[XZ]
 | false=>
  rw[aV (by decide)];constructor
  ·intro h r hr he;obtain ⟨i,hi,hx⟩:=cX hr;have f1:=(Ea hu hi (k:=ck c) (by rw[hx];exact he)).1;rw[f1] at h;simp at h
  ·intro h
   have:nD xs (ck c)=false:=by
    cases hf:nD xs (ck c) with
    | false=>rfl
    | true=>
     obtain ⟨y,hy,hk⟩:=SY hf;exact absurd hk (h y hy)
   rw[this];rfl
end OT
namespace OT
open Go
def v6 (k:Int):Bool:=decide (k=2)||(decide (k=3)||decide (k=4))
def FI (k:Int):Bool:=decide (k=1)||decide (k=9)
abbrev Dn:Row:=((0:Int),(0:Int),(0:Int),([]:List UInt8),())
abbrev noChange:Change:=(false,Dn,false,Dn,())
def rj (o:Op):Int:=
 if !gj o.1 1 9||(FI o.1&&!decide (o.2.1=0))||(!v6 o.1&&!Ty.eq aT o.2.2.1 ((0:Int),(0:Int),(0:Int),([]:List UInt8),()))||(!decide (o.1=6)&&!decide (o.2.2.2.1=0))||(decide (o.1=4)&&!(decide (o.2.2.1.2.2.1=0)&&decide (o.2.2.1.2.2.2.1=([]:List UInt8)))) then 1
 else if (!FI o.1&&!gj o.2.1 1 99)||!gj o.2.2.2.1 0 7 then 3
 else if v6 o.1 then jb o.2.2.1 else 0
theorem ZG (k:Int):qN.ab (k,())=some (v6 k,()):=by
 refine ag (k:=0) λf _=>(qN.ae f _).trans ?_;grind [qN.p,v6]
theorem HE (k:Int):nk.ab (k,())=some (v6 k,()):=by
 refine ag (k:=0) λf _=>(nk.ae f _).trans ?_;show nk.p _=_;unfold nk.p v6;simp only[mL,aA];congr 2;grind
theorem Vz (o:Op) (h:rl o.2.2.1):q_.ab (o,())=some (rj o,()):=by
 refine ag (k:=0) λf _=>(q_.ae f _).trans ?_;show q_.p _=_;unfold q_.p rj FI gj;simp only[sj,LX,ZG,yW _ h,aA];grind
theorem R5 (o:Op):qW.ab (o,())=some (!(!gj o.1 1 9||(FI o.1&&!decide (o.2.1=0))||(!v6 o.1&&!Ty.eq aT o.2.2.1 ((0:Int),(0:Int),(0:Int),([]:List UInt8),()))||(!decide (o.1=6)&&!decide (o.2.2.2.1=0))||(decide (o.1=4)&&!(decide (o.2.2.1.2.2.1=0)&&decide (o.2.2.1.2.2.2.1=([]:List UInt8))))),()):=by
 refine ag (k:=0) λf _=>(qW.ae f _).trans ?_;show qW.p _=_;unfold qW.p FI gj;have h4:decide (o.1=4)=true->v6 o.1=true:=λh=>by grind [v6]
 simp only[mL,HE,aA];generalize (decide ((1:Int)<=o.1)&&decide (o.1<=9))=b1;generalize decide (o.1=1)=b2;generalize decide (o.1=9)=b3;generalize decide (o.1=4)=b4 at *;generalize decide (o.1=6)=b5;generalize v6 o.1=b6 at *;generalize decide (o.2.1=0)=b7;generalize Ty.eq aT o.2.2.1 ((0:Int),(0:Int),(0:Int),([]:List UInt8),())=b8;generalize decide (o.2.2.2.1=0)=b9;generalize decide (o.2.2.1.2.2.1=0)=c1;generalize decide (o.2.2.1.2.2.2.1=([]:List UInt8))=c2;cases b1
 ·rfl
 cases b4
 ·cases b2 <;> cases b3 <;> cases b7 <;> cases b6 <;> cases b8 <;> cases b5 <;> cases b9 <;> rfl
 ·have:=h4 rfl;subst this;cases b2 <;> cases b3 <;> cases b7 <;> cases b8 <;> cases b5 <;> cases b9 <;> cases c1 <;> cases c2 <;> rfl
theorem X0 (o:Op) (h:rl o.2.2.1):tD.ab (o,())=some (rj o,()):=by
 refine ag (k:=0) λf _=>(tD.ae f _).trans ?_;show tD.p _=_;unfold tD.p rj;rw[R5];simp only[aA];generalize (!gj o.1 1 9||(FI o.1&&!decide (o.2.1=0))||(!v6 o.1&&!Ty.eq aT o.2.2.1 ((0:Int),(0:Int),(0:Int),([]:List UInt8),()))||(!decide (o.1=6)&&!decide (o.2.2.2.1=0))||(decide (o.1=4)&&!(decide (o.2.2.1.2.2.1=0)&&decide (o.2.2.1.2.2.2.1=([]:List UInt8)))))=b0;unfold FI gj;simp only[mL,HE,yV _ h,aA];grind
theorem Mh {o:Op} (h:rj o=0) (hr:v6 o.1=true):jb o.2.2.1=0:=by
 grind [rj]
theorem HF {o:Op} (h:rj o=0):gj o.1 1 9=true/\gj o.2.2.2.1 0 7=true:=by
 grind [rj]
def JC (c:Change) (x:Row):Bool:=decide (x.1=(ck c).2)&&(!decide (x.1=0)&&(!c.2.2.1||decide (c.2.2.2.1.2.2.1 < (List.length x.2.2.2.1:Int))))
def QE (xs:List Row) (c:Change):Int:=
 if c.2.2.1&&(!gj (ck c).2 1 3||(decide (8 < c.2.2.2.1.2.2.1)||!decide (c.2.2.2.1.2.2.2.1=([]:List UInt8)))) then 10 else if xs.any (JC c) then 8 else 0
def zn (xs:List Row) (t:Int):Int×Bool:=match xs.find? λx=>decide (x.1=0)&&decide (x.2.1=t) with
 | some x=>(x.2.2.1,true)
 | none=>(0,false)
def HG (xs:List Row) (c:Change):Int:=
 if (ck c).1=0 then QE xs c else if c.2.2.1 then (if (zn xs (ck c).1).2 then (if (zn xs (ck c).1).1 < (List.length c.2.2.2.1.2.2.2.1:Int) then 10 else 0) else 4) else 0
theorem VA (xs:List Row) (c:Change) (hl:xs.length<=1048576):kg.ab (xs,c,())=some (QE xs c,()):=by
 refine ag (k:=1048577) λk hk=>(kg.ae k _).trans ?_;unfold kg.p
 have lp:kg.r0 k (xs,c,()) (ck c).2 (0:Int)=some (if xs.any (JC c) then 8 else 0,()):=by
  have:=cz (B:=λself v=>kg.b0 self (λz=>kg.q0 (xs,c,()) (ck c).2 z) (xs,c,()) (ck c).2 v) xs (λ(_:Unit) (i:Int)=>i) (λ_ _ x=>if JC c x then .inl ((8:Int),()) else .inr ()) (λ_=>((0:Int),())) (λ_ _=>True) (by rw[an];omega)
   (λi hi s self _=>by
    grind [kg.b0,JC])
   (λ_ _ _ _ _ _=>trivial) (λs self _=>by
    show kg.b0 _ _ _ _ _=_;unfold kg.b0;simp only[aU,aG,aE]
    rfl) () trivial k Bys
  rw[rK] at this;refine aL this ?_;grind
 grind [yX,mL,QE,gj]
theorem R6 (xs:List Row) (c:Change) (hl:xs.length<=1048576):jD.ab (xs,c,())=some (QE xs c,()):=by
 refine ag (k:=1048577) λk hk=>(jD.ae k _).trans ?_;unfold jD.p
 have lp:jD.r0 k (xs,c,()) (0:Int)=some (if xs.any (JC c) then 8 else 0,()):=by
  have:=cz (B:=λself v=>jD.b0 self (λz=>jD.q0 (xs,c,()) z) (xs,c,()) v) xs (λ(_:Unit) (i:Int)=>i) (λ_ _ x=>if JC c x then .inl ((8:Int),()) else .inr ()) (λ_=>((0:Int),())) (λ_ _=>True) (by rw[an];omega)
   (λi hi s self _=>by
    grind [jD.b0,JC,yc,wT])
   (λ_ _ _ _ _ _=>trivial) (λs self _=>by
    show jD.b0 _ _ _ _=_;unfold jD.b0;simp only[aU,aG,aE]
    rfl) () trivial k Bys
  rw[rK] at this;refine aL this ?_;grind
 grind [sj,QE,gj,ck]
theorem VB (xs:List Row) (t:Int) (hl:xs.length<=1048576):nO.ab (xs,t,())=some ((zn xs t).1,(zn xs t).2,()):=by
 refine ag (k:=1048577) λk hk=>(nO.ae k _).trans ?_
 have:=cz (B:=λself v=>nO.b0 self (λz=>nO.q0 (xs,t,()) z) (xs,t,()) v) xs (λ(_:Unit) (i:Int)=>i) (λ_ _ x=>if decide (x.1=0)&&decide (x.2.1=t) then .inl (x.2.2.1,true,()) else .inr ()) (λ_=>((0:Int),false,())) (λ_ _=>True) (by rw[an];omega)
  (λi hi s self _=>by
   grind [nO.b0])
  (λ_ _ _ _ _ _=>trivial) (λs self _=>by
   show nO.b0 _ _ _ _=_;unfold nO.b0;simp only[aU,aG,aE]
   rfl) () trivial k Bys
 refine aL this ?_
 have main:∀ (xs:List Row) (i:Nat),ci (λ_ (_:Unit) x=>if decide (x.1=0)&&decide (x.2.1=t) then .inl (x.2.2.1,true,()) else .inr ()) (λ_=>((0:Int),false,())) i xs ()=((zn xs t).1,(zn xs t).2,()):=by
  intro xs
  induction xs <;> grind [ci,zn]
 rw[main]
theorem Tt {xs:List Row} (hu:up xs) (t:Int):zn xs t=if nD xs (0,t) then ((xs[pos xs (0,t)]?.map λx=>x.2.2.1).getD 0,true) else (0,false):=by
 have key:(λx:Row=>decide (x.1=0)&&decide (x.2.1=t))=λx=>decide (rk x=(0,t)):=by
  grind [rk]
 unfold zn;rw[key]
 cases hf:nD xs (0,t) with
 | true=>
  obtain ⟨hp,he⟩:=vF hf
  have:xs.find? (λx=>decide (rk x=(0,t)))=some xs[pos xs (0,t)]:=by
   rw[List.find?_eq_some_iff_getElem];refine ⟨by simp[he],pos xs (0,t),hp,rfl,λj hj=>?_⟩
   have:=Cx xs (0,t) j Bys hj;grind [vl]
  grind
 | false=>
  have:xs.find? (λx=>decide (rk x=(0,t)))=none:=by
   rw[eJ];intro x hx;simp only[bF];intro e;obtain ⟨i,hi,rfl⟩:=cV.1 hx
   have h1:nD xs (0,t)=true:=by
    rcases Nat.lt_trichotomy (pos xs (0,t)) i with h | h | h
    ·grind [y_,up,List.pairwise_iff_getElem]
    ·grind [nD]
    ·exfalso;have:=Cx xs (0,t) i hi h;grind [vl]
   grind
  rw[this];rfl
theorem R7 (xs:List Row) (t:Int) (hu:up xs) (hl:xs.length<=1048576) (hv:∀ x ∈ xs,0<=x.2.2.1):qD.ab (xs,t,())=some (if (zn xs t).2 then (zn xs t).1 else -1,()):=by
 refine ag (k:=0) λk hk=>(qD.ae k _).trans ?_;grind [qD.p,GX,Tt,Ax,vF]
theorem ZH (xs:List Row) (c:Change) (hl:xs.length<=1048576):tH.ab (xs,c,())=some (HG xs c,()):=by
 refine ag (k:=0) λk hk=>(tH.ae k _).trans ?_;grind [tH.p,HG,ck,yc,wT,R6,VB]
theorem VC (xs:List Row) (c:Change) (hu:up xs) (hl:xs.length<=1048576) (hv:∀ x ∈ xs,0<=x.2.2.1):tE.ab (xs,c,())=some (HG xs c,()):=by
 refine ag (k:=0) λk hk=>(tE.ae k _).trans ?_;show tE.p _=_;unfold tE.p HG;simp only[yX,VA xs c hl,R7 xs _ hu hl hv,aA];grind [Tt]
end OT
namespace OT
open Go
def Ae (k l:Key):Bool:=decide (l=k)||((decide (l.1=0)&&decide (l.2.1=k.1))||(decide (k.1=0)&&decide (l.1=k.2.1)))
def Do (xs:List Tx) (t:Int) (k:Key):Bool:=xs.any λx=>!decide (x.1=t)&&x.2.2.2.1.any (Ae k)
theorem R8 (xs:List Tx) (t:Int) (k0:Key) (h:pr xs):ir.ab (xs,t,k0,())=some (Do xs t k0,()):=by
 obtain ⟨h1,h2⟩:=h;refine ag (k:=1048577) λk hk=>(ir.ae k _).trans ?_
 have inner:∀ (self:((List Tx)×Int×Key×Int)->Option ir.O) (e0:(Unit)->Option ir.O) (i:Nat) (hi:i < xs.length),ir.r1 k self e0 (xs,t,k0,()) xs t k0 (i:Int) (0:Int)=if (xs[i]).2.2.2.1.any (Ae k0) then some (true,()) else self (xs,t,k0,af ((i:Int)+1)):=λself e0 i hi=>by
  have Tl:=(h2 _ (aN hi)).2.2.1
  have:=dj (B:=λfx v=>ir.b1 fx (λz=>ir.q0 self e0 (xs,t,k0,()) xs t k0 (i:Int) z) (xs,t,k0,()) xs t k0 (i:Int) v) (xs[i]).2.2.2.1 (λ(_:Unit) (j:Int)=>j) (λ_ _ l=>if Ae k0 l then .inl (some (true,())) else .inr ()) (λ_=>self (xs,t,k0,af ((i:Int)+1))) (λ_ _=>True) (by rw[an];omega)
   (λj hj s fx _=>by
    grind [ir.b1,Ae,Int.natCast_nonneg,Int.toNat_natCast,z6])
   (λ_ _ _ _ _ _=>trivial) (λs fx _=>by
    show ir.b1 _ _ _ _ _ _ _ _=_;unfold ir.b1;simp only[aK,aH,aC,aB hi,aA,aU,aG,aE]
    rfl) () trivial k Bys
  rw[rK] at this;exact this
 have:=dj (B:=λself v=>ir.B0 k self (λz=>ir.q1 (xs,t,k0,()) z) (xs,t,k0,()) v) xs (λ(_:Unit) (i:Int)=>(xs,t,k0,i)) (λ_ _ x=>if !decide (x.1=t)&&x.2.2.2.1.any (Ae k0) then .inl (some (true,())) else .inr ()) (λ_=>some (false,())) (λ_ _=>True) (by rw[an];omega)
  (λi hi s self _=>by
   show ir.b0 _ _ _ _ _=_
   grind [ir.b0])
  (λ_ _ _ _ _ _=>trivial) (λs self _=>by
   show ir.b0 _ _ _ _ _=_;unfold ir.b0;simp only[aU,aG,aE]
   rfl) () trivial k Bys
 rw[rK] at this;refine aL this ?_;grind [Do]
def ef (rows:List Row) (o:Op):Change×Int:=
 let k:=(o.2.2.1.1,o.2.2.1.2.1)
 if decide (o.1=2)&&nD rows k then (noChange,6)
 else if !decide (o.1=2)&&!nD rows k then (noChange,4)
 else ((nD rows k,(if nD rows k then (rows[pos rows k]?).getD Dn else Dn),!decide (o.1=4),(if decide (o.1=4) then Dn else o.2.2.1),()),0)
theorem R9 (rows:List Row) (o:Op) (hu:up rows) (hl:rows.length<=1048576):pj.ab (rows,o,())=some ((ef rows o).1,(ef rows o).2,()):=by
 refine ag (k:=0) λk hk=>(pj.ae k _).trans ?_;show pj.p _=_;unfold pj.p ef;rw[GX rows _ _ hu Bys];simp only[aA];unfold Ax;grind [vF]
theorem abp {x:Row} (h:jb x=0):0<=x.2.2.1:=by
 grind [jb,gj]
abbrev mE (c:Int):bz:=(c,false,noChange,())
def vH (rows:List Row) (xs:List Tx) (o:Op):bz:=
 let k:Key:=(o.2.2.1.1,o.2.2.1.2.1,())
 if Do xs o.2.1 k then mE 7
 else if (ef rows o).2=0 then
  if HG rows (ef rows o).1=0 then
   if decide (12 < Bw rows xs k)||decide (12<=zk xs) then mE 9
   else if (ef rows o).1.1&&((ef rows o).1.2.2.1&&Ty.eq aT (ef rows o).1.2.1 (ef rows o).1.2.2.2.1) then mE 0
   else (0,true,(ef rows o).1,())
  else mE (HG rows (ef rows o).1)
 else mE (ef rows o).2
theorem JD (c:Int):iM.ab (c,())=some (mE c,()):=by
 refine ag (k:=0) λk hk=>(iM.ae k _).trans ?_;rfl
theorem ND (rows:List Row) (xs:List Tx) (o:Op) (hg:Good rows) (hl:rows.length<=60) (ht:pr xs) (hx:Bx xs):mP.ab (rows,xs,o,())=some (vH rows xs o,()):=by
 refine ag (k:=0) λk hk=>(mP.ae k _).trans ?_;show mP.p _=_;unfold mP.p vH;have hx4:=hx.len;have hv:∀ x ∈ rows,0<=x.2.2.1:=λx hm=>abp (hg.ok x hm);simp only[R8 xs _ _ ht,JD,R9 rows o hg.up Bys,VC rows _ hg.up Bys hv,Ht rows xs _ Bys Bys (λx hm=>by have:=hx.Vt x hm;omega),Ho xs ht,aA];grind
def Lf (rows:List Row) (xs:List Tx) (k:Key) (c:Change):bz:=
 if HG rows c=0 then
  if decide (12 < Bw rows xs k)||decide (12<=zk xs) then mE 9
  else if c.1&&(c.2.2.1&&Ty.eq aT c.2.1 c.2.2.2.1) then mE 0
  else (0,true,c,())
 else mE (HG rows c)
theorem R_ (rows:List Row) (xs:List Tx) (o:Op):vH rows xs o=if Do xs o.2.1 (o.2.2.1.1,o.2.2.1.2.1,()) then mE 7 else if (ef rows o).2=0 then Lf rows xs (o.2.2.1.1,o.2.2.1.2.1,()) (ef rows o).1 else mE (ef rows o).2:=rfl
theorem ZI (rows:List Row) (xs:List Tx) (kk:Key) (hk:¬ kk.2.1=0) (hl:rows.length<=1048576) (ht:pr xs) (c:Change):((tH.ab (rows,c,())).bind λKt=>bif !decide (Kt.1=(0:Int)) then (some (mE Kt.1,())) else (d0.ab (rows,xs,())).bind λUL=>bif decide ((12:Int) < ((nG bc UL.1 kk true).length:Int)) then (some (mE 9,())) else (jp.ab (xs,())).bind λUM=>bif decide ((12:Int)<=UM.1) then (some (mE 9,())) else bif c.1 then (bif c.2.2.1 then (bif (Ty.eq aT c.2.1 c.2.2.2.1) then (some (mE 0,())) else some (((0:Int),true,c,()),())) else some (((0:Int),true,c,()),())) else some (((0:Int),true,c,()),()))=some (Lf rows xs kk c,()):=by
 unfold Lf
 have hr:(nG bc (jP (dd [] (vu rows xs))) kk true).length=Bw rows xs kk:=by
  have h1:nG bc (jP (dd [] (vu rows xs))) kk true=jP (dd [] (vu rows xs++[kk])):=by
   refine (Qj _ _).trans ?_;rw[Nd];rfl
  rw[h1];unfold Bw Hs;rw[aV hk];exact hU ..
 grind [ZH,Nf,CJ]
theorem QF (rows:List Row) (xs:List Tx) (o:Op) (hg:Good rows) (hl:rows.length<=60) (ht:pr xs) (hx:Bx xs) (hk:¬ o.2.2.1.2.1=0):cy.ab (rows,xs,o,())=some (vH rows xs o,()):=by
 refine ag (k:=1048577) λk nB=>(cy.ae k _).trans ?_;rw[R_]
 have hq:∀ (k:Nat),cy.q1 (rows,xs,o,()) (rows,xs,o,mE 0,(o.2.2.1.1,o.2.2.1.2.1,()))=some (if (ef rows o).2=0 then Lf rows xs (o.2.2.1.1,o.2.2.1.2.1,()) (ef rows o).1 else mE (ef rows o).2,()):=λk=>by
  show cy.q1 _ _=_;unfold cy.q1 ef;have hs:=λf:Nat×Int=>GW rows o.2.2.1 f hg.up Bys;have e:rk o.2.2.1=(o.2.2.1.1,o.2.2.1.2.1):=rfl;simp only[e] at hs;have tl:=ZI rows xs (o.2.2.1.1,o.2.2.1.2.1,()) hk Bys ht;simp only[hs,aA];generalize decide (o.1=2)=d2;generalize decide (o.1=4)=d4
  cases hf:nD rows (o.2.2.1.1,o.2.2.1.2.1) with
  | false=>
   cases d2
   ·rfl
   ·cases d4
    all_goals grind
  | true=>
   obtain ⟨hp,he⟩:=vF hf;simp only[aK,aH,aC,aB hp,aA,gT];cases d2
   ·cases d4
    ·exact tl _
    ·exact tl _
   ·rfl
 have inner:∀ (self:((List Row)×(List Tx)×Op×bz×Key×(List Tx)×Int×Int)->Option cy.O) (e0:((List Row)×(List Tx)×Op×bz×Key)->Option cy.O) (i:Nat) (hi:i < xs.length),cy.r1 k self e0 (rows,xs,o,()) rows xs o (mE 0) (o.2.2.1.1,o.2.2.1.2.1,()) xs (xs.length:Int) (i:Int) (xs[i]).2.2.2.1 (List.length (xs[i]).2.2.2.1:Int) (0:Int)=if (xs[i]).2.2.2.1.any (Ae (o.2.2.1.1,o.2.2.1.2.1,())) then some (mE 7,()) else self (rows,xs,o,mE 0,(o.2.2.1.1,o.2.2.1.2.1,()),xs,(xs.length:Int),af ((i:Int)+1)):=λself e0 i hi=>by
  have Tl:=(ht.2 _ (aN hi)).2.2.1;have NY:=hx.keys _ (aN hi)
  have:=dj (B:=λfx v=>cy.b1 fx (λz=>cy.q0 self e0 (rows,xs,o,()) rows xs o (mE 0) (o.2.2.1.1,o.2.2.1.2.1,()) xs (xs.length:Int) (i:Int) (xs[i]).2.2.2.1 (List.length (xs[i]).2.2.2.1:Int) z) (rows,xs,o,()) rows xs o (mE 0) (o.2.2.1.1,o.2.2.1.2.1,()) xs (xs.length:Int) (i:Int) (xs[i]).2.2.2.1 (List.length (xs[i]).2.2.2.1:Int) v) (xs[i]).2.2.2.1 (λ(_:Unit) (j:Int)=>j) (λ_ _ l=>if Ae (o.2.2.1.1,o.2.2.1.2.1,()) l then .inl (some (mE 7,())) else .inr ()) (λ_=>self (rows,xs,o,mE 0,(o.2.2.1.1,o.2.2.1.2.1,()),xs,(xs.length:Int),af ((i:Int)+1))) (λ_ _=>True) (by rw[an];omega)
   (λj hj s fx _=>by
    show cy.b1 _ _ _ _ _ _ _ _ _ _ _ _ _ _=_;unfold cy.b1 Ae;have a8:(j:Int) < (List.length (xs[i]).2.2.2.1:Int):=by omega
    have Ue:=NY _ (aN hj);simp only[aK,aH,aC,aA,a8,aJ,aO,aB hj,z6];generalize (xs[i]).2.2.2.1[j]=l at Ue;obtain ⟨l1,l2,⟨⟩⟩:=l
    have zp:¬ l2=0:=by
     grind [Bm,gj]
    generalize o.2.2.1.1=k1;generalize o.2.2.1.2.1=k2
    have e1:decide (((l1,l2,()):Key)=(k1,k2,()))=(decide (l1=k1)&&decide (l2=k2)):=by
     rw[fH];simp
    have e2:decide (((l1,l2,()):Key)=((0:Int),k1,()))=(decide (l1=0)&&decide (l2=k1)):=by
     rw[fH];simp
    have e3:Ty.eq bc ((l1,l2,()):Key) ((0:Int),k1,())=(decide (l1=0)&&decide (l2=k1)):=(z6 _ _).trans e2
    grind)
   (λ_ _ _ _ _ _=>trivial) (λs fx _=>by
    show cy.b1 _ _ _ _ _ _ _ _ _ _ _ _ _ _=_;unfold cy.b1;simp only[aU,aG,aE]
    rfl) () trivial k Bys
  rw[rK] at this;exact this
 have:=dj (B:=λself v=>cy.B0 k self (λz=>cy.q1 (rows,xs,o,()) z) (rows,xs,o,()) v) xs (λ(_:Unit) (i:Int)=>(rows,xs,o,mE 0,(o.2.2.1.1,o.2.2.1.2.1,()),xs,(xs.length:Int),i)) (λ_ _ x=>if !decide (x.1=o.2.1)&&x.2.2.2.1.any (Ae (o.2.2.1.1,o.2.2.1.2.1,())) then .inl (some (mE 7,())) else .inr ()) (λ_=>some (if (ef rows o).2=0 then Lf rows xs (o.2.2.1.1,o.2.2.1.2.1,()) (ef rows o).1 else mE (ef rows o).2,())) (λ_ _=>True) (by rw[an];have:=ht.1;omega)
  (λi hi s self _=>by
   show cy.b0 _ _ _ _ _=_
   grind [cy.b0,Int.toNat_natCast])
  (λ_ _ _ _ _ _=>trivial) (λs self _=>by
   show cy.b0 _ _ _ _ _=_
   simp_all [cy.b0]) () trivial k (by have:=ht.1;omega)
 rw[rK] at this;refine aL this ?_;grind [Do]
end OT
namespace OT
open Go
def AH (xs:List Tx) (t:Int):Int:=match xs[(uj xs t).toNat]? with
 | some x=>(List.length x.2.2.1:Int)
 | none=>0
def uN (rows:List Row) (xs:List Tx) (o:Op):bz:=
 if o.1=1 then (if decide (4<=xs.length) then mE 2 else mE 0)
 else if o.1=9 then mE 0
 else if uj xs o.2.1 < 0 then mE 4
 else if o.1=5 then (if decide (8<=AH xs o.2.1) then mE 2 else mE 0)
 else if o.1=6 then (if decide (AH xs o.2.1<=o.2.2.2.1) then mE 3 else mE 0)
 else if v6 o.1 then vH rows xs o else mE 0
def kx (rows:List Row) (xs:List Tx) (o:Op):bz:=
 if l8 rows=0 then (if ny xs=0 then (if rj o=0 then uN rows xs o else mE (rj o)) else mE (ny xs)) else mE (l8 rows)
theorem at_mem {xs:List Tx} {t:Int} (h:¬ uj xs t < 0):∃ (j:Nat) (hj:j < xs.length),uj xs t=(j:Int)/\(xs[j]).1=t:=by
 obtain ⟨j,hj,h1,h2⟩:=E3 (λx:Tx=>decide (x.1=t)) xs 0 (by unfold uj at h;omega);exact ⟨j,hj,by unfold uj;rw[h1,bQ],fC h2⟩
theorem kinds {k:Int} (h:gj k 1 9=true):k=1\/k=2\/k=3\/k=4\/k=5\/k=6\/k=7\/k=8\/k=9:=by
 unfold gj at h;simp only[aD,bF] at h;omega
theorem QG (rows:List Row) (xs:List Tx) (o:Op) (hg:Good rows) (hl:rows.length<=60) (ht:pr xs) (hx:Bx xs) (ho:gj o.1 1 9=true):qk.ab (rows,xs,o,())=some (uN rows xs o,()):=by
 refine ag (k:=0) λk hk=>(qk.ae k _).trans ?_;show qk.p _=_;unfold qk.p uN;have hx4:=hx.len
 have h4:decide ((4:Int)<=(xs.length:Int))=decide (4<=xs.length):=by
  by_cases h:4<=xs.length
  ·have:(4:Int)<=(xs.length:Int):=by omega
   simp[h,this]
  ·have:¬ (4:Int)<=(xs.length:Int):=by omega
   simp[h,this]
 simp only[JD,mC xs _ ht.1,ND rows xs o hg hl ht hx,aA,h4];by_cases ha:uj xs o.2.1 < 0
 ·simp only[ha,aJ,aO,aH]
  rcases kinds ho with e | e | e | e | e | e | e | e | e <;> rw[e] <;> first | rfl | (cases decide (4<=xs.length) <;> rfl)
 ·obtain ⟨j,hj,e,_⟩:=at_mem ha;have hm:AH xs o.2.1=(List.length (xs[j]).2.2.1:Int):=by unfold AH;rw[e,aC,aB hj]
  rw[hm];simp only[ha,aG,aE,aS,e,aK,aH,aC,aB hj,aA]
  rcases kinds ho with e | e | e | e | e | e | e | e | e <;> rw[e] <;> first | rfl | (cases decide (4<=xs.length) <;> rfl) | (cases decide ((8:Int)<=(List.length (xs[j]).2.2.1:Int)) <;> rfl) | (cases decide ((List.length (xs[j]).2.2.1:Int)<=o.2.2.2.1) <;> rfl)
theorem VD (rows:List Row) (xs:List Tx) (o:Op) (hl:rows.length<=1048576) (hr:∀ x ∈ rows,rl x) (ht:pr xs) (ho:rl o.2.2.1):qX.ab (rows,xs,o,())=some (kx rows xs o,()):=by
 refine ag (k:=0) λk hk=>(qX.ae k _).trans ?_;show qX.p _=_;unfold qX.p kx;simp only[Iz rows (by rw[an];omega) hr,K8 xs ht,X0 o ho,JD,aA];by_cases h1:l8 rows=0;rotate_left
 ·simp only[h1,aG,bW,aO,aS]
 by_cases h2:ny xs=0;rotate_left
 ·simp only[h1,h2,aJ,aG,aR,bW,aO,aE,aH,aS]
 by_cases h3:rj o=0;rotate_left
 ·simp only[h1,h2,h3,aJ,aG,aR,bW,aO,aE,aH,aS]
 simp only[h1,h2,h3,aJ,aR,aE,aH];rw[QG rows xs o (tN h1).1 (tN h1).2 ht (CL h2) (HF h3).1];rfl
theorem VE (rows:List Row) (xs:List Tx) (o:Op) (hl:rows.length<=1048576) (hr:∀ x ∈ rows,rl x) (ht:pr xs) (ho:rl o.2.2.1):jv.ab (rows,xs,o,())=some (kx rows xs o,()):=by
 refine ag (k:=5) λk hk=>(jv.ae k _).trans ?_;unfold jv.p;simp only[DD rows (by rw[an];omega) hr,FA xs ht,Vz o ho,aA]
 have hq:l8 rows=0->ny xs=0->rj o=0->∀ (k:Nat) (z:Unit),jv.q0 (rows,xs,o,()) [l8 rows,ny xs,rj o] ([l8 rows,ny xs,rj o].length:Int) z=some (uN rows xs o,()):=λh1 h2 h3 k z=>by
  show jv.q0 _ _ _ _=_;unfold jv.q0 uN;have hx:=CL h2;have hg:=(tN h1).1;have hl:=(tN h1).2;have hor:=(HF h3).1
  have h4:decide ((4:Int)<=(xs.length:Int))=decide (4<=xs.length):=by
   by_cases h:4<=xs.length
   ·have:(4:Int)<=(xs.length:Int):=by omega
    simp[h,this]
   ·have:¬ (4:Int)<=(xs.length:Int):=by omega
    simp[h,this]
  have QH:v6 o.1=true->cy.ab (rows,xs,o,())=some (vH rows xs o,()):=λhon=>QF rows xs o hg hl ht hx (by
   have:=Mh h3 hon;unfold jb at this;split at this
   ·rename_i h5;simp only[gj,aD,bF] at h5;omega
   ·cases this)
  simp only[AF xs _ ht.1,aA,h4];by_cases ha:uj xs o.2.1 < 0
  ·simp only[ha,aJ,aO,aH]
   rcases kinds hor with e | e | e | e | e | e | e | e | e <;> rw[e] <;> first | rfl | (cases decide (4<=xs.length) <;> rfl)
  ·obtain ⟨j,hj,e,_⟩:=at_mem ha;have hm:AH xs o.2.1=(List.length (xs[j]).2.2.1:Int):=by unfold AH;rw[e,aC,aB hj]
   rw[hm];simp only[ha,aG,aE,aS,e,aK,aH,aC,aB hj,aA];rcases kinds hor with e | e | e | e | e | e | e | e | e
   ·rw[e];cases decide (4<=xs.length) <;> rfl
   ·rw[QH (by rw[e];rfl),e];rfl
   ·rw[QH (by rw[e];rfl),e];rfl
   ·rw[QH (by rw[e];rfl),e];rfl
   ·rw[e];cases decide ((8:Int)<=(List.length (xs[j]).2.2.1:Int)) <;> rfl
   ·rw[e];cases decide ((List.length (xs[j]).2.2.1:Int)<=o.2.2.2.1) <;> rfl
   ·rw[e];rfl
   ·rw[e];rfl
   ·rw[e];rfl
 have:=dj (B:=λself v=>jv.b0 self (λz=>jv.q0 (rows,xs,o,()) [l8 rows,ny xs,rj o] ([l8 rows,ny xs,rj o].length:Int) z) (rows,xs,o,()) [l8 rows,ny xs,rj o] ([l8 rows,ny xs,rj o].length:Int) v) [l8 rows,ny xs,rj o] (λ(_:Unit) (i:Int)=>i) (λ_ _ x=>if x=0 then .inr () else .inl (some (mE x,()))) (λ_=>jv.q0 (rows,xs,o,()) [l8 rows,ny xs,rj o] ([l8 rows,ny xs,rj o].length:Int) ()) (λ_ _=>True) (by rw[an];simp)
  (λi hi s self _=>by
   show jv.b0 _ _ _ _ _ _=_;unfold jv.b0;have a8:(i:Int) < ([l8 rows,ny xs,rj o].length:Int):=by omega
   have gw:(0:Int)<=(i:Int)/\(i:Int) < ([l8 rows,ny xs,rj o].length:Int):=by omega
   simp only[a8,gw,bS,aJ,aO,aH,aC,aB hi,aA];by_cases h0:[l8 rows,ny xs,rj o][i]=0
   ·simp only[h0,aJ,aR,aE,aH]
   ·simp only[h0,aG,bW,aO,aS])
  (λ_ _ _ _ _ _=>trivial) (λs self _=>by
   show jv.b0 _ _ _ _ _ _=_;unfold jv.b0
   simp only[aU,aG,aE]) () trivial k (by simp;omega)
 refine aL this ?_;unfold kx;simp only[ci];by_cases h1:l8 rows=0;rotate_left
 ·simp only[h1,aS]
 by_cases h2:ny xs=0;rotate_left
 ·simp only[h1,h2,aH,aS]
 by_cases h3:rj o=0;rotate_left
 ·simp only[h1,h2,h3,aH,aS]
 have:=hq h1 h2 h3 k ();rw[aM h1];simp only;rw[aM h2];simp only;rw[aM h3];simp only;rw[this,aM h1,aM h2,aM h3]
end OT
namespace OT
open Go
def Lg (x:Tx):Tx:=(x.1,x.2.1,x.2.2.1++[(List.length x.2.1:Int)],x.2.2.2)
def HH (x:Tx) (n m:Nat):Tx:=(x.1,x.2.1.take n,x.2.2.1.take (m+1),x.2.2.2)
theorem NE {xs:List Tx} {t:Int} (h:pr xs) {j:Nat} (hj:j < xs.length) (jt:uj xs t=(j:Int)) (hm:List.length (xs[j]).2.2.1<=8):t7.ab (xs,t,())=some (xs.set j (Lg xs[j]),(List.length (xs[j]).2.2.1:Int),()):=by
 refine ag (k:=0) λk _=>(t7.ae k _).trans ?_;unfold t7.p;have gw:(0:Int)<=(j:Int)/\(j:Int) < (xs.length:Int):=by omega
 simp only[AG xs h,AF xs t h.1,jt,aA,gw,bS,aH,aC,aB hj];generalize QB:xs[j]=x at hm ⊢;have Le:xs.set j x=xs:=by rw[<-QB];exact fV hj
 have hg:xs[j]?=some x:=by rw[aB hj,QB]
 have c1:List.length x.2.2.1+[(List.length x.2.1:Int)].length<=ct:=dc (by simp only[bE,cA];omega);have hq:∀ y:Tx,(xs.set j y)[j]?=some y:=λy=>by simp[hj]
 rw[aM c1,Le];simp only[hg,aA,hq]
 have hw:af (((List.length (x.2.2.1++[(List.length x.2.1:Int)]):Nat):Int) - 1)=(List.length x.2.2.1:Int):=by
  rw[cB,bE,cA,be Bys];omega
 rw[hw];rfl
theorem FY {xs:List Tx} {o:Op} (h:pr xs) {j:Nat} (hj:j < xs.length) (jt:uj xs o.2.1=(j:Int)) (h6:¬ o.1=6):rI.ab (xs,o,())=some (xs.take j++xs.drop (j+1),lK (xs[j]).2.1,()):=by
 refine ag (k:=0) λk _=>(rI.ae k _).trans ?_;unfold rI.p;have gw:(0:Int)<=(j:Int)/\(j:Int) < (xs.length:Int):=by omega
 have hx:=h.2 _ (aN hj);have hl:=h.1;have hw:af ((j:Int)+1)=((j+1:Nat):Int):=by rw[be Bys];omega
 have hd:sI.ab (xs,(j:Int),((j+1:Nat):Int),())=some (xs.take j++xs.drop (j+1),()):=by
  show LN _ _=_;unfold LN;have:(0:Int)<=(j:Int)/\(j:Int)<=((j+1:Nat):Int)/\((j+1:Nat):Int)<=(xs.length:Int):=by omega
  exact aM this
 simp only[AG xs h,AF xs o.2.1 h.1,jt,aA,gw,bS,aH,aC,aB hj,h6,aG,aE,FB _ hx.1,hw,hd]
theorem Mi {xs:List Tx} {o:Op} (h:pr xs) {j:Nat} (hj:j < xs.length) (jt:uj xs o.2.1=(j:Int)) (h6:o.1=6) {m n:Nat} (hm:o.2.2.2.1=(m:Int)) (Tu:m < List.length (xs[j]).2.2.1) (hn:(xs[j]).2.2.1[m]?=some (n:Int)) (Al:n<=List.length (xs[j]).2.1) :
  rI.ab (xs,o,())=some (xs.set j (HH xs[j] n m),lK ((xs[j]).2.1.drop n),()):=by
 refine ag (k:=0) λk _=>(rI.ae k _).trans ?_;unfold rI.p;have gw:(0:Int)<=(j:Int)/\(j:Int) < (xs.length:Int):=by omega
 have hx:=h.2 _ (aN hj);simp only[AG xs h,AF xs o.2.1 h.1,jt,aA,gw,bS,aH,aC,aB hj,h6,hm,aJ,aO];generalize QB:xs[j]=x at hx Tu hn Al ⊢;obtain ⟨g1,g2,g3,_⟩:=hx;have Le:xs.set j x=xs:=by rw[<-QB];exact fV hj
 have hg:xs[j]?=some x:=by rw[aB hj,QB]
 have hq:∀ y:Tx,(xs.set j y)[j]?=some y:=λy=>by simp[hj]
 have k1:(0:Int)<=(m:Int)/\(m:Int) < (List.length x.2.2.1:Int):=by omega
 have k2:(0:Int)<=(n:Int)/\(n:Int)<=(List.length x.2.1:Int):=by omega
 have hw:af ((m:Int)+1)=((m+1:Nat):Int):=by rw[be Bys];omega
 have k3:(0:Int)<=((m+1:Nat):Int)/\((m+1:Nat):Int)<=(List.length x.2.2.1:Int):=by omega
 rw[aM k1,hn];simp only[aA];rw[aM k2,aC,dW,FB _ (by rw[bX];omega)];simp only[aA];rw[aM k2,Le];simp only[hg,aA,hq,hw];rw[aM k3];simp only[aC,fR,hq,aA,dM];rfl
theorem Sa {xs:List Tx} (hl:xs.length<=1048576) {j:Nat} (hj:j < xs.length):oN.ab (xs,(j:Int),())=some (xs.take j++xs.drop (j+1),()):=by
 refine ag (k:=1048578) λk hk=>(oN.ae k _).trans ?_
 have:=cz (B:=λself v=>oN.b0 self (oN.q0 (xs,(j:Int),())) (xs,(j:Int),()) v) xs (λ(s:List Tx) (i:Int)=>(s,i)) (λi s x=>if (i:Int)=(j:Int) then .inr s else .inr (s++[x])) (λs=>(s,())) (λi s=>s.length<=i) (by rw[an];omega)
  (λi hi s self hI=>by
   have a8:(i:Int) < (xs.length:Int):=by omega
   unfold oN.b0;rw[aX a8,aO]
   by_cases he:(i:Int)=(j:Int)
   ·rw[aX he,aR,aE,aM he]
   ·rw[bA he,bW,aO,aV he,aM (aK i),aC,aB hi];simp only[aA]
    rw[aM (dc (by rw[bE,cA];omega))])
  (λi hi s s' hI hf=>by
   split at hf
   ·injection hf with hf;subst hf;omega
   ·injection hf with hf;subst hf;rw[cB,bE,cA];omega) (λs self _=>by
   unfold oN.b0;rw[bA (aU _),aE]
   rfl) [] (aW _) k Bys
 have key:∀ (ys:List Tx) (i:Nat) (s:List Tx),ci (O:=List Tx×Unit) (λi s x=>if (i:Int)=(j:Int) then .inr s else .inr (s++[x])) (λs=>(s,())) i ys s=(s++(if i<=j then ys.take (j - i)++ys.drop (j - i+1) else ys),()):=by
  intro ys
  induction ys with
  | nil=>intro i s;simp[ci]
  | cons y ys ih=>
   intro i s;simp only[ci]
   by_cases he:(i:Int)=(j:Int)
   ·rw[aM he];simp only;rw[ih];have:i=j:=by omega
    subst this;rw[aV Bys,aM (aI _),Nat.sub_self];rfl
   ·rw[aV he];simp only;rw[ih];by_cases sw:i<=j
    ·obtain ⟨d,hd⟩:∃ d,j - i=d+1:=⟨j - i - 1,by omega⟩
     rw[aM sw,aM Bys,hd,show j - (i+1)=d by omega];simp[bK]
    ·rw[aV sw,aV Bys];simp[bK]
 rw[key xs 0 []] at this;refine aL this ?_;simp
end OT
namespace OT
open Go
structure Mj (p:Plain):Prop where
 VF:Good p.1
 len:List.length p.1<=12
 Nj:ny p.2.1=0
 next:gj p.2.2.1 1 100=true
 room:xG p.1 p.2.1<=12
 back:∃ t,oX p.1 (By p.2.1)=some t
theorem so {p:Plain} (h:rR p=0):Mj p:=by
 unfold rR at h;split at h
 ·rename_i h1;split at h
  ·rename_i h2;split at h
   ·rename_i h3;rw[aD] at h3;split at h
    ·cases h
    ·rename_i h4;have hg:=(tN h1).1;have hr:=Hq (xs:=p.2.1) hg.up;unfold xG at h4
     cases hb:oX p.1 (By p.2.1) with
     | none=>rw[hb] at h;cases h
     | some t=>exact ⟨hg,by omega,h2,h3.1,by unfold xG;omega,t,hb⟩
   ·cases h
  ·rename_i h2;exact absurd h h2
 ·rename_i h1;exact absurd h h1
theorem Tv {xs:List Tx} (h:ny xs=0):∀ x ∈ xs,1<=x.1/\AB x=0:=λx hx=>by
 have h1:=(ZB h).1;obtain ⟨i,hi,rfl⟩:=cX hx;have:=CK (AC xs h1 i hi);exact ⟨this.1,this.2.1⟩
theorem X4 {xs:List Tx} (h:ny xs=0):(flatK xs).Nodup:=by
 unfold ny at h;split at h
 ·cases h
 ·split at h
  ·split at h
   ·rename_i ha;exact fC ha
   ·cases h
  ·rename_i hn;exact absurd h hn
theorem Tw {α:Type} [DecidableEq α]:∀ (l m:List α),l.Nodup->(∀ x ∈ l,x ∈ m)->l.length<=m.length
 | [],_,_,_=>aW _
 | x::l,m,hn,h=>by
  rw[cH] at hn;have hx:=h x bV;have ih:=Tw l (m.erase x) hn.2 λy hy=>(List.mem_erase_of_ne (λe=>hn.1 (by rw[<-e];exact hy))).2 (h y (bD _ hy));have:=List.length_erase_of_mem hx;have:0 < m.length:=List.length_pos_of_mem hx;simp only[bE];omega
theorem Lh {rows:List Row} {o:Op} (hg:Good rows) (FS:jb o.2.2.1=0) (h:(ef rows o).2=0):nC (ef rows o).1=0/\ck (ef rows o).1=rk o.2.2.1/\uw rows (ef rows o).1=true/\cl (ef rows o).1:=by
 have xW:rl o.2.2.1:=by unfold rl;have:=Ay FS;rw[an];omega
 have Al:rl Dn:=aW _
 have key:∀ c:Change,c=(ef rows o).1->nC c=0/\ck c=rk o.2.2.1/\(if c.1=true then c.2.1 ∈ rows else ∀ r ∈ rows,rk r≠ck c)/\cl c:=by
  intro c hc;unfold ef at h hc;have hrk:(o.2.2.1.1,o.2.2.1.2.1)=rk o.2.2.1:=rfl;simp only[hrk] at h hc
  cases hf:nD rows (rk o.2.2.1) with
  | true=>
   obtain ⟨hp,hk⟩:=vF hf;have hm:rows[pos rows (rk o.2.2.1)] ∈ rows:=aN hp;have hb:=hg.2 _ hm;have hbl:rl rows[pos rows (rk o.2.2.1)]:=by unfold rl;have:=Ay hb;rw[an];omega
   rw[hf,aB hp] at h hc;generalize hx:rows[pos rows (rk o.2.2.1)]=x at *
   cases h2:decide (o.1=2) with
   | true=>rw[h2] at h;cases h
   | false=>
    rw[h2] at hc;simp only[iE,aR,iD,aF,aS,aH,gT] at hc
    cases h4:decide (o.1=4) with
    | true=>
     rw[h4] at hc;subst hc;refine ⟨?_,hk,?_,hbl,Al⟩
     ·unfold nC;simp[hb]
     ·exact hm
    | false=>
     rw[h4] at hc;subst hc;refine ⟨?_,rfl,?_,hbl,xW⟩
     ·have hs:sameKey x o.2.2.1=true:=by rw[Fl,aX hk]
      unfold nC;simp[hb,FS,hs]
     ·exact hm
  | false=>
   have rP:∀ r ∈ rows,rk r≠rk o.2.2.1:=λr hr he=>by
    obtain ⟨i,hi,hx⟩:=cX hr;have:=(Ea hg.1 hi (k:=rk o.2.2.1) (by rw[hx];exact he)).1;rw[hf] at this;cases this
   rw[hf] at h hc
   cases h2:decide (o.1=2) with
   | false=>rw[h2] at h;cases h
   | true=>
    have h4:decide (o.1=4)=false:=by
     have:o.1=2:=fC h2;rw[this];rfl
    rw[h2,h4] at hc;simp only[iD,aR,bW,iE,aF,aS] at hc;subst hc;refine ⟨?_,rfl,?_,Al,xW⟩
    ·unfold nC;simp[FS]
    ·exact rP
 obtain ⟨k1,k2,k3,k4⟩:=key _ rfl;exact ⟨k1,k2,(ZF hg.1 k1).2 k3,k4⟩
theorem ZJ {r:Row} (h:jb r=0):1<=r.2.1:=by
 unfold jb at h;split at h
 ·rename_i hh;simp only[gj,aD,bF] at hh;omega
 ·cases h
theorem Nk {rows:List Row} {xs:List Tx} {o:Op} (ht:(vH rows xs o).2.1=true):Do xs o.2.1 (o.2.2.1.1,o.2.2.1.2.1,())=false/\(ef rows o).2=0/\Bw rows xs (o.2.2.1.1,o.2.2.1.2.1,())<=12/\zk xs < 12/\((ef rows o).1.1&&((ef rows o).1.2.2.1&&Ty.eq aT (ef rows o).1.2.1 (ef rows o).1.2.2.2.1))=false/\vH rows xs o=(0,true,(ef rows o).1,()):=by
 unfold vH at ht ⊢;simp only at ht ⊢;split at ht
 ·cases ht
 rename_i h1;split at ht;rotate_left
 ·cases ht
 rename_i h2;split at ht;rotate_left
 ·cases ht
 rename_i h3;split at ht
 ·cases ht
 rename_i h4;split at ht
 ·cases ht
 rename_i h5;simp only[cZ,bF,not_or] at h4;rw[aV h1,aM h2,aM h3,aV (by simp only[cZ,bF,not_or];exact h4),aV h5];exact ⟨by simpa using h1,h2,by omega,by omega,by simpa using h5,rfl⟩
theorem X5 {p:Plain} (h:Mj p) {o:Op} (FS:jb o.2.2.1=0) {j:Nat} (hj:j < List.length p.2.1) (jt:uj p.2.1 o.2.1=(j:Int)) (Li:(p.2.1[j]).1=o.2.1) (ht:(vH p.1 p.2.1 o).2.1=true) :
  zP p.2.1 o.2.1 (ef p.1 o).1=((0:Int),w7 p.2.1 j (ef p.1 o).1,()):=by
 obtain ⟨r1,r2,r3,r4,r5,r6⟩:=Nk ht;obtain ⟨w1,w2,w3,w4⟩:=Lh h.VF FS r2;have hk:oy (ef p.1 o).1=(o.2.2.1.1,o.2.2.1.2.1,()):=by unfold oy;rw[w2];rfl
 have sS:FT (ef p.1 o).1=0:=by
  unfold FT;rw[aM w1,Bool.and_assoc,aV (by rw[r5];decide)]
 have Tl:∀ x ∈ (p.2.1:List Tx),x.1≠o.2.1->jO x.2.2.2.1 (o.2.2.1.1,o.2.2.1.2.1,())=false:=λx hx lU=>by
  cases hh:jO x.2.2.2.1 (o.2.2.1.1,o.2.2.1.2.1,()) with
  | false=>rfl
  | true=>
   have hm:=xL.1 hh
   have:Do p.2.1 o.2.1 (o.2.2.1.1,o.2.2.1.2.1,())=true:=by
    unfold Do;rw[dY];refine ⟨x,hx,?_⟩
    rw[bA lU,bW,dT,dY];exact ⟨_,hm,by unfold Ae;rw[aX rfl,gV]⟩
   rw[this] at r1;cases r1
 have adA:¬ (px p.2.1 (oy (ef p.1 o).1)≠0/\px p.2.1 (oy (ef p.1 o).1)≠o.2.1):=by
  rintro ⟨a1,a2⟩;obtain ⟨x,hx,h1,h2⟩:=Vx a1;rw[hk] at h2 h1;rw[hk] at a2;rw[Tl x hx (by rw[h1];exact a2)] at h2;cases h2
 have Bc:¬ (px p.2.1 (oy (ef p.1 o).1)=0/\12<=List.length (((p.2.1:List Tx).getD (uj p.2.1 o.2.1).toNat (0,[],[],[],())).2.2.2.1:List Key)):=by
  rintro ⟨a1,a2⟩;rw[jt,aC,cI,aB hj,gT] at a2;rw[hk] at a1;have hz:=Vy a1 (λx hx=>(Tv h.Nj x hx).1) _ (aN hj)
  have wm:((p.2.1[j]).2.2.2.1:List Key).Nodup:=by
   have:=X4 h.Nj;unfold flatK at this;have hx:p.2.1=p.2.1.take j++p.2.1[j]::p.2.1.drop (j+1):=by rw[List.getElem_cons_drop,cP]
   rw[hx,eP,eN,eE] at this;exact (eE.1 this.2.1).1
  have Ue:¬ (o.2.2.1.2.1=0):=by have:=(ZJ FS);omega
  have Gd:=Tw ((o.2.2.1.1,o.2.2.1.2.1,())::(p.2.1[j]).2.2.2.1) (dd [] (vu p.1 p.2.1++Hs (o.2.2.1.1,o.2.2.1.2.1,()))) (cH.2 ⟨λhm=>(by rw[xL.2 hm] at hz;cases hz),wm⟩) (λq hq=>by
   rw[XP];right;rcases aY.1 hq with h1 | h1
   ·rw[bO];right;unfold Hs;rw[h1,aV Ue];exact bL.2 rfl
   ·rw[bO];left;unfold vu flatK;rw[bO];right
    exact dF.2 ⟨_,aN hj,h1⟩)
  unfold Bw at r3;rw[bE] at Gd;omega
 unfold zP;rw[aM h.Nj,aV (by rw[jt];omega),aM sS,aV adA,aV Bys,aV Bc,jt,aC]
end OT
namespace OT
open Go
end OT
namespace OT
open Go
theorem CN {p:Plain} {o:Op} (P:Mj p) (h2:(kx p.1 p.2.1 o).1=0):rj o=0/\gj o.1 1 9=true/\kx p.1 p.2.1 o=uN p.1 p.2.1 o:=by
 have hr:l8 p.1=0:=K_ P.VF (by have:=P.len;omega);unfold kx at h2 ⊢;rw[aM hr,aM P.Nj] at h2 ⊢;by_cases ho:rj o=0;rotate_left
 ·rw[aV ho] at h2;exact absurd h2 ho
 rw[aM ho];refine ⟨ho,?_,rfl⟩
 unfold rj at ho;split at ho
 ·cases ho
 ·rename_i hn;simp only[cZ,not_or,cC,Bool.not_eq_false] at hn
  simpa using hn.1.1.1.1
section
variable {p:Plain} {o:Op} (hp:Lb p) (ho:rl o.2.2.1) (h:rR p=0) (h2:(kx p.1 p.2.1 o).1=0)
include hp ho h h2
end
end OT
namespace OT
open Go
theorem QI {n:Int}:∀ (ms:List Int) (i:Nat) (last:Int),0<=last->ci (λ_ last m=>if gj m last n then .inr m else .inl false) (λ_=>true) i ms last=true->∀ m ∈ ms,0<=m/\m<=n
 | [],_,_,_,_,_,h=>by cases h
 | x::ms,i,last,h0,h,m,hm=>by
  simp only[ci] at h;by_cases hx:gj x last n=true
  ·rw[aM hx] at h;unfold gj at hx;simp only[aD,bF] at hx;rcases aY.1 hm with h1 | h1
   ·rw[h1];omega
   ·exact QI ms (i+1) x Bys h m h1
  ·rw[aV hx] at h;cases h
theorem ZK {x:Tx} (h:AB x=0):∀ m ∈ (x.2.2.1:List Int),0<=m/\m<=(List.length x.2.1:Int):=by
 unfold AB at h;split at h
 ·unfold vE at h;split at h
  ·cases h
  ·split at h
   ·rename_i hm;exact QI _ 0 0 (gB 0) hm
   ·cases h
 ·rename_i hn;exact absurd h hn
section
variable {p:Plain} {o:Op} (hp:Lb p) (ho:rl o.2.2.1) (h:rR p=0) (h2:(kx p.1 p.2.1 o).1=0)
include hp ho h h2
end
theorem Tz {e:Ty} (xs:List e.den) (n:Nat):zz (.aa e) (xs.take n)<=zz (.aa e) xs/\zz (.aa e) (xs.drop n)<=zz (.aa e) xs:=by
 have:=wo (e:=e) (xs.take n) (xs.drop n);rw[cP] at this;omega
theorem VG (rows:List Row) (o:Op):zz ao (ef rows o).1<=zz (.aa aT) rows+zz oY o:=by
 have hc:∀ (a b:Bool) (x y:Row),zz ao (a,x,b,y,())=zz aT x+zz aT y:=λa b x y=>by
  show 0+(zz aT x+(0+(zz aT y+0)))=_;omega
 have ho:zz oY o=0+(0+(zz aT o.2.2.1+(0+0))):=rfl;have h0:zz aT Dn=0:=rfl;unfold ef;simp only;split
 ·exact aW _
 split
 ·exact aW _
 refine bH (fQ (hc _ _ _ _)) ?_
 have h1:∀ r:Row,(r=Dn\/r ∈ rows)->zz aT r<=zz (.aa aT) rows:=λr hr=>by
  rcases hr with hr | hr
  ·rw[hr];exact aW _
  ·have:zz aT r+1<=zz (.aa aT) rows:=GC (e:=aT) hr;omega
 refine Nat.add_le_add (h1 _ ?_) ?_
 ·split
  ·cases hg:rows[pos rows (o.2.2.1.1,o.2.2.1.2.1)]? with
   | none=>exact .inl rfl
   | some x=>exact .inr (bU hg)
  ·exact .inl rfl
 ·split
  ·exact aW _
  ·omega
theorem JE {e:Ty} (xs:List e.den) (j:Nat) (hj:j < xs.length):zz (.aa e) xs=zz (.aa e) (xs.take j)+(zz e xs[j]+1)+zz (.aa e) (xs.drop (j+1)):=by
 have h1:=wo (e:=e) (xs.take j) (xs.drop j);rw[cP] at h1;have h2:=SJ (e:=e) xs[j] (xs.drop (j+1));rw[<-cE hj] at h2;omega
theorem abq {e:Ty} (xs:List e.den) (j:Nat) (hj:j < xs.length) (y:e.den):zz (.aa e) (xs.set j y)+zz e xs[j]=zz (.aa e) xs+zz e y:=by
 have h1:=JE xs j hj;have h2:=JE (xs.set j y) j (by rw[bB];exact hj);rw[List.getElem_set_self,List.take_set_of_le (aI _),List.drop_set_of_lt (Nat.lt_succ_self _)] at h2;have h3:zz (.aa e) (xs.drop j.succ)=zz (.aa e) (xs.drop (j+1)):=rfl;omega
theorem abr {e:Ty} (xs:List e.den) (j:Nat) (hj:j < xs.length):zz (.aa e) (xs.take j++xs.drop (j+1))+(zz e xs[j]+1)=zz (.aa e) xs:=by
 have h1:=JE xs j hj;have h2:=wo (e:=e) (xs.take j) (xs.drop (j+1));omega
end OT
namespace OT
open Go
section
variable {s:ba} {r:bk} (hl:nW s.2.2.1<=16000) (hs:wC r)
include hl hs
theorem Af:mg.ab (s,r,())=some (uM s r):=by
 refine ag (k:=0) λk _=>(mg.ae k _).trans ?_;unfold mg.p uM ox;rw[K6 _ _ (Lc hl) hs];by_cases h:16000 < List.length s.2.2.1.1+List.length s.2.2.1.2.1+(tR r).length
 ·simp only[h,aH];rfl
 ·simp only[h,aS];rfl
theorem IS:nl.ab (s,r,())=some (uM s r):=by
 refine ag (k:=0) λk _=>(nl.ae k _).trans ?_;unfold nl.p uM ox;rw[K5 _ _ (Lc hl) hs];by_cases h:16000 < List.length s.2.2.1.1+List.length s.2.2.1.2.1+(tR r).length
 ·simp only[h,aH];rfl
 ·simp only[h,aS];rfl
end
def uz (l:Log):Log:=(l.1++l.2.1,[],())
theorem Mk {l:Log} (h:nW l<=16000):oI.ab (l,())=some (uz l,()):=by
 unfold nW at h;refine ag (k:=0) λk _=>(oI.ae k _).trans ?_;unfold oI.p
 have ha:sH.ab (l,())=some (l.1++l.2.1,()):=by
  refine ag (k:=0) λk hk=>(sH.ae k _).trans ?_;unfold sH.p;rw[l9 l.1 Bys];simp only[aA];rw[aM (dc Bys)]
 rw[ha];rfl
theorem DN {l:Log} (h:nW l<=16000):pB.ab (l,())=some (uz l,()):=by
 unfold nW at h;refine ag (k:=0) λk _=>(pB.ae k _).trans ?_;unfold pB.p;rw[my _ (by show List.length l.1<=_;omega)];simp only[aA];rw[aM (dc (by show List.length l.1+List.length l.2.1<=_;omega))];rfl
theorem QJ {l:Log}:nW (uz l)=nW l:=by
 unfold nW uz;simp
theorem Sb {x:Tx} (h:tl x) {m n:Nat} (Tu:m < List.length x.2.2.1) (hn:x.2.2.1[m]?=some (n:Int)) (Al:n<=List.length x.2.1):rH.ab (x,(m:Int),())=some (x.2.1.drop n,HH x n m,()):=by
 obtain ⟨g1,g2,g3,_⟩:=h;refine ag (k:=0) λk _=>(rH.ae k _).trans ?_;unfold rH.p;have k1:(0:Int)<=(m:Int)/\(m:Int) < (List.length x.2.2.1:Int):=by omega
 have k2:(0:Int)<=(n:Int)/\(n:Int)<=(List.length x.2.1:Int):=by omega
 have hw:af ((m:Int)+1)=((m+1:Nat):Int):=by rw[be Bys];omega
 have k3:(0:Int)<=((m+1:Nat):Int)/\((m+1:Nat):Int)<=(List.length x.2.2.1:Int):=by omega
 rw[aM k1,aC,hn];simp only[aA];rw[aM k2,aM (dc (by rw[cA,bX,dQ];omega)),aM k2,hw,aM k3];simp only[aC,cG,dW,dM];rfl
abbrev CO (i:Nat) (p:List UInt8):bk:=((4:Int),(0:Int),(i:Int),[((0:Int),p,())],())
def Ag:Nat->ca->Log->Sum Log Log
 | _,[],l=>.inr l
 | i,p::ps,l=>match ox l (CO i p) with
  | none=>.inl l
  | some l'=>Ag (i+1) ps l'
theorem HI {O:Type} {K fin:Log->O}:∀ (ps:ca) (i:Nat) (l:Log),ci (λi l p=>match ox l (CO i p) with | none=>.inl (K l) | some l'=>.inr l') fin i ps l=match Ag i ps l with | .inl l=>K l | .inr l=>fin l
 | [],i,l=>rfl
 | p::ps,i,l=>by
  simp only[ci,Ag]
  cases h:ox l (CO i p) with
  | none=>rfl
  | some l'=>exact HI ps (i+1) l'
theorem QL:∀ (ps:ca) (i:Nat) (l l':Log),Ag i ps l=.inr l'->nW l<=16000->nW l'<=16000
 | [],i,l,l',h,hl=>by injection h with h;rw[<-h];exact hl
 | p::ps,i,l,l',h,hl=>by
  simp only[Ag] at h
  cases ha:ox l (CO i p) with
  | none=>rw[ha] at h;cases h
  | some q=>
   rw[ha] at h;exact QL ps (i+1) q l' h (uf ha)
theorem Nl {i:Nat} {p:List UInt8} (h:p.length=64):wC (CO i p):=⟨by simp,λx hx=>by
 rw[bL] at hx;rw[hx];show p.length<=64
 omega⟩
section
variable {u:Bool} {ps:ca} {l:Log} {T:List Tx×Int×Unit} (hg:gp ps) (hl:nW l<=16000)
include hg hl
theorem Sc {o:Op} {C:bz} {k:Nat} (hk:100<=k) :
  dg.r0 k ((u,ps,l,T),o,C,()) ((u,ps,l,T),(0:Int))=some (match Ag 0 ps l with | .inl l'=>((0:Int),(9:Int),(u,ps,l',T),()) | .inr l'=>((0:Int),(0:Int),(u,ps,uz l',T),())):=by
 have hgl:=hg.1
 have:=cz (B:=λself v=>dg.b0 self (dg.q0 ((u,ps,l,T),o,C,())) ((u,ps,l,T),o,C,()) v) ps (λ(q:Log) (i:Int)=>(((u,ps,q,T):ba),i))
  (λi q p=>match ox q (CO i p) with | none=>.inl ((0:Int),(9:Int),(u,ps,q,T),()) | some l'=>.inr l') (λl'=>((0:Int),(0:Int),(u,ps,uz l',T),())) (λ_ q=>nW q<=16000) (by rw[an];omega)
  (λi hi q self hI=>by
   unfold dg.b0;have a8:(i:Int) < (ps.length:Int):=by omega
   have Pt:=hg.2 _ (aN hi);simp only[a8,aJ,aO,aK,aH,aC,aB hi,aA];rw[l9 _ Bys];simp only[aA];rw[Af (s:=(u,ps,q,T)) hI (Nl (i:=i) Pt)];unfold uM;simp only
   cases ha:ox q (CO i ps[i]) with
   | none=>rfl
   | some l'=>rfl)
  (λi hi q q' hI hf=>by
   cases ha:ox q (CO i ps[i]) with
   | none=>rw[ha] at hf;cases hf
   | some l'=>
    rw[ha] at hf;injection hf with hf;subst hf
    exact uf ha) (λq self hI=>by
   unfold dg.b0;rw[bA (aU _),aE];unfold dg.q0;rw[Mk hI]
   rfl) l hl k Bys
 refine aL this ?_;rw[HI (K:=λq=>((0:Int),(9:Int),(u,ps,q,T),()))]
theorem Sd:jL.ab ((u,ps,l,T),())=some (match Ag 0 ps l with | .inl l'=>((9:Int),(u,ps,l',T),()) | .inr l'=>((0:Int),(u,ps,uz l',T),())):=by
 refine ag (k:=100) λk hk=>(jL.ae k _).trans ?_;have hgl:=hg.1
 have:=cz (B:=λself v=>jL.b0 self (jL.q0 ((u,ps,l,T),())) ((u,ps,l,T),()) v) ps (λ(q:Log) (i:Int)=>(((u,ps,q,T):ba),i))
  (λi q p=>match ox q (CO i p) with | none=>.inl ((9:Int),(u,ps,q,T),()) | some l'=>.inr l') (λl'=>((0:Int),(u,ps,uz l',T),())) (λ_ q=>nW q<=16000) (by rw[an];omega)
  (λi hi q self hI=>by
   unfold jL.b0;have a8:(i:Int) < (ps.length:Int):=by omega
   have Pt:=hg.2 _ (aN hi);have hcp:br.ab (ps[i],())=some (ps[i],()):=my _ Bys;simp only[a8,aJ,aO,aK,dN,aH,aC,aB hi,aA,hcp];rw[IQ (s:=(u,ps,q,T)) hI (Nl (i:=i) Pt)];unfold uM;simp only
   cases ha:ox q (CO i ps[i]) with
   | none=>rfl
   | some l'=>rfl)
  (λi hi q q' hI hf=>by
   cases ha:ox q (CO i ps[i]) with
   | none=>rw[ha] at hf;cases hf
   | some l'=>
    rw[ha] at hf;injection hf with hf;subst hf
    exact uf ha) (λq self hI=>by
   unfold jL.b0;rw[bA (aU _),aE];unfold jL.q0;rw[DN hI]
   rfl) l hl k Bys
 refine aL this ?_;rw[HI (K:=λq=>((9:Int),(u,ps,q,T),()))]
end
end OT
namespace OT
open Go
def vC (E:Sum Int (Int×ba)) (r:Int×Int×ba×Unit):Prop:=match E with
 | .inl c=>r.2.1=c/\c≠0
 | .inr p=>r=(p.1,(0:Int),p.2,())
structure Ends (s:ba) (o:Op) (C:bz) (E:Sum Int (Int×ba)):Prop where
 impl:∃ r,dg.ab (s,o,C,())=some r/\vC E r
 spec:∃ r,jo.ab (s,o,C,())=some r/\vC E r
theorem th {s:ba} {o:Op} {C:bz} {E:Sum Int (Int×ba)} (hi:∃ r,(∀ l0,dg.p l0 (s,o,C,())=some r)/\vC E r) (hs:∃ r,jo.p (s,o,C,())=some r/\vC E r):Ends s o C E:=by
 obtain ⟨r,h1,h2⟩:=hi;obtain ⟨q,h3,h4⟩:=hs;exact ⟨⟨r,ag (k:=0) λk _=>(dg.ae k _).trans (h1 _),h2⟩,⟨q,ag (k:=0) λk _=>(jo.ae k _).trans h3,h4⟩⟩
theorem HJ (kind tx:Int) (cs:List Change) (q:ca×Log):(∃ p p',mT true kind tx cs q=.inl p/\mT false kind tx cs q=.inl p'/\p'.1=p.1/\p.1≠0/\p'.1≠0)\/∃ p,mT true kind tx cs q=.inr p/\mT false kind tx cs q=.inr p:=by
 have hf:=Ni kind tx cs q;cases h1:mT true kind tx cs q <;> grind [Tr]
def Ml (v:Int) (S:ba) (r:bk):Sum Int (Int×ba):=match ox S.2.2.1 r with
 | none=>.inl 9
 | some l=>.inr (v,(S.1,S.2.1,l,S.2.2.2))
theorem Ll (v:Int) (S:ba) (r:bk):vC (Ml v S r) (v,(uM S r).1,(uM S r).2.1,()):=by
 unfold Ml uM
 cases ox S.2.2.1 r with
 | none=>exact ⟨rfl,by decide⟩
 | some l=>rfl
theorem ZL (S:ba) (r:bk):(uM S r).2.1.2.2.2=S.2.2.2:=by
 grind [uM]
def Nm (ps:ca) (l:Log) (kind tx:Int) (cs:List Change) (f:ca×Log->Sum Int (Int×ba)):Sum Int (Int×ba):=match mT true kind tx cs (ps,l) with
 | .inl p=>.inl p.1
 | .inr p=>f p
def VH (S:ba) (r:bk):Sum Int (Int×ba):=match ox S.2.2.1 r with
 | none=>.inl 9
 | some l=>.inr ((0:Int),(S.1,S.2.1,uz l,S.2.2.2))
def VI (S:ba):Sum Int (Int×ba):=match Ag 0 S.2.1 S.2.2.1 with
 | .inl _=>.inl 9
 | .inr l=>.inr ((0:Int),(S.1,S.2.1,uz l,S.2.2.2))
abbrev Mm (n:Int):Tx:=(n,([]:List Change),([]:List Int),([]:List Key),())
theorem Eg {rows:List Row} {ts:List Tx} {o:Op} (hF:kx rows ts o=uN rows ts o) (hk:v6 o.1=false):(kx rows ts o).2.1=false:=by
 grind [uN]
theorem Lm {u:Bool} {ps:ca} {l:Log} {ts:List Tx} {n:Int} (hl:nW l<=16000) (ht:ts.length<=1048576) {j:Nat} (hj:j < ts.length) (k:Int):sh.ab ((u,ps,l,ts,n,()),(j:Int),k,())=some (uM (u,ps,l,ts.take j++ts.drop (j+1),n,()) (k,(ts[j]).1,(0:Int),([]:List cr),())):=by
 refine ag (k:=0) λm _=>(sh.ae m _).trans ?_;grind [sh.p,Sa,IS,HD]
section
variable {ps:ca} {l:Log} {ts:List Tx} {n:Int} {o:Op} (hq:py (ps,l)) (hp:Lb (bm ps,ts,n,())) (h:rR (bm ps,ts,n,())=0) (h2:(kx (bm ps) ts o).1=0)
include hq hp h h2
theorem X6 (hk:o.1=1):Ends (true,ps,l,ts,n,()) o (kx (bm ps) ts o) (if n=100 then .inl 9 else Ml n (true,ps,l,ts++[Mm n],n+1,()) ((1:Int),n,(0:Int),([]:List cr),())):=by
 have P:=so h;have hn:gj n 1 100=true:=P.next;unfold gj at hn;simp only[aD,bF] at hn;have hl:ts.length<=1048576:=hp.2.2.1;have MF:nW l<=16000:=hq.2;have pK:ts.length+[Mm n].length<=ct:=dc (by grind);by_cases acz:n=100
 ·rw[aM acz];refine th ⟨((0:Int),(9:Int),(true,ps,l,ts,n,()),()),λl0=>?_,rfl,by decide⟩ ⟨(n,(9:Int),(true,ps,l,ts,n,()),()),?_,rfl,by decide⟩
  ·grind [dg.p]
  ·unfold jo.p;rw[mC _ _ hl]
   have hb:oc.ab ((true,ps,l,ts,n,()),())=some ((9:Int),(true,ps,l,ts,n,()),()):=by
    refine ag (k:=0) λk _=>(oc.ae k _).trans ?_;grind [oc.p]
   grind
 ·rw[aV acz];have hw:af (n+1)=n+1:=be Bys;have An:af (n+1 - 1)=n:=by grind [be]
  obtain ⟨S,hS⟩:∃ S:ba,S=(true,ps,l,ts++[Mm n],n+1,()):=⟨_,rfl⟩
  have hSl:nW S.2.2.1<=16000:=by grind
  rw[<-hS];refine th ⟨_,λl0=>?_,Ll n S _⟩ ⟨_,?_,Ll n S _⟩
  ·grind [dg.p,Af,HD,ZL]
  ·unfold jo.p;rw[mC _ _ hl]
   have hb:oc.ab ((true,ps,l,ts,n,()),())=some (uM S ((1:Int),n,(0:Int),([]:List cr),())):=by
    refine ag (k:=0) λk _=>(oc.ae k _).trans ?_;grind [oc.p,IS,HD]
   grind
theorem ZM (hk:o.1=5) {j:Nat} (hj:j < ts.length) (jt:uj ts o.2.1=(j:Int)):Ends (true,ps,l,ts,n,()) o (kx (bm ps) ts o) (.inr ((List.length (ts[j]).2.2.1:Int),(true,ps,l,ts.set j (Lg ts[j]),n,())))/\List.length (ts[j]).2.2.1<=8:=by
 have P:=so h;have AD:rj o=0/\gj o.1 1 9=true/\kx (bm ps) ts o=uN (bm ps) ts o:=CN P h2;have hl:ts.length<=1048576:=hp.2.2.1;have hF:=h2;rw[AD.2.2] at hF;have zo:=Eg AD.2.2 (by grind [v6])
 have hm8:List.length (ts[j]).2.2.1<=8:=by
  grind [uN,AH]
 refine ⟨th ⟨_,λl0=>?_,rfl⟩ ⟨_,?_,rfl⟩,hm8⟩
 ·unfold dg.p;simp only[hk,zo,aJ,aO,aE,show ¬ (5:Int)=1 by decide,aG];rw[NE hp.2.2 hj jt hm8];rfl
 ·unfold jo.p;rw[mC _ _ hl];have gw:(0:Int)<=(j:Int)/\(j:Int) < (ts.length:Int):=by omega
  have Le:ts.set j ts[j]=ts:=fV hj;have c1:List.length (ts[j]).2.2.1+[(List.length (ts[j]).2.1:Int)].length<=ct:=dc (by grind);simp only[hk,aJ,aO,aE,show ¬ (5:Int)=1 by decide,aG,jt,gw,bS,aH,aC,aB hj,aA,Le,c1];rfl
theorem ZN (hk:o.1=6) {j:Nat} (hj:j < ts.length) (jt:uj ts o.2.1=(j:Int)):∃ m k:Nat,Ends (true,ps,l,ts,n,()) o (kx (bm ps) ts o) (Nm ps l 3 o.2.1 (lK ((ts[j]).2.1.drop k)) λp=>.inr ((0:Int),(true,p.1,p.2,ts.set j (HH ts[j] k m),n,())))/\∀ p,mT true 3 o.2.1 (lK ((ts[j]).2.1.drop k)) (ps,l)=.inr p->py p:=by
 have P:=so h;have AD:rj o=0/\gj o.1 1 9=true/\kx (bm ps) ts o=uN (bm ps) ts o:=CN P h2;have hl:ts.length<=1048576:=hp.2.2.1;have hF:=h2;rw[AD.2.2] at hF;have zo:=Eg AD.2.2 (by grind [v6])
 have hmk:o.2.2.2.1 < (List.length (ts[j]).2.2.1:Int):=by
  unfold uN at hF;grind [AH]
 have hm0:0<=o.2.2.2.1:=by
  grind [HF,gj]
 have T:Bx ts:=CL P.Nj;have hm:ts[j] ∈ ts:=aN hj
 obtain ⟨m,CT⟩:∃ m:Nat,o.2.2.2.1=(m:Int):=⟨o.2.2.2.1.toNat,by omega⟩
 have Tu:m < List.length (ts[j]).2.2.1:=by omega
 have hmm:=ZK (Tv P.Nj _ hm).2 _ (aN Tu)
 obtain ⟨k,lU⟩:∃ k:Nat,(ts[j]).2.2.1[m]=(k:Int):=⟨((ts[j]).2.2.1[m]).toNat,by omega⟩
 have hn:(ts[j]).2.2.1[m]?=some (k:Int):=by grind
 have Al:k<=List.length (ts[j]).2.1:=by omega
 have hu:=T.vv _ hm;have X7:∀ c ∈ (ts[j]).2.1.drop k,nC c=0:=λc hc=>T.ch _ hm c (dC hc);have hc:=CM X7;have xm:=Qn (λc hc=>(hp.2.2.2 _ hm).2.2.2 c (dC hc:c ∈ (ts[j]).2.1):∀ c ∈ (ts[j]).2.1.drop k,cl c);have Wi:(lK ((ts[j]).2.1.drop k)).length<=12:=by grind [zO]
 refine ⟨m,k,?_,λp hd=>AE _ _ _ hq hc hd⟩
 obtain ⟨In,hts⟩:∃ t,t=ts.set j (HH ts[j] k m):=⟨_,rfl⟩
 have d1:dh.ab ((true,ps,l,In,n,()),lK ((ts[j]).2.1.drop k),(3:Int),o.2.1,())=some (mB (true,ps,l,In,n,()) (mT true 3 o.2.1 (lK ((ts[j]).2.1.drop k)) (ps,l))):=DM (s:=(true,ps,l,In,n,())) hq hc xm Bys;have d2:jB.ab ((true,ps,l,In,n,()),(ts[j]).2.1.drop k,o.2.1,())=some (mB (true,ps,l,In,n,()) (mT false 3 o.2.1 (lK ((ts[j]).2.1.drop k)) (ps,l))):=HB (s:=(true,ps,l,In,n,())) hq X7 (by grind);have Mn:=Mi hp.2.2 hj jt hk CT Tu hn Al;have aeJ:=Sb (hp.2.2.2 _ hm) Tu hn Al;rw[<-hts] at Mn ⊢;have gw:(0:Int)<=(j:Int)/\(j:Int) < (ts.length:Int):=by omega
 unfold Nm
 rcases HJ 3 o.2.1 (lK ((ts[j]).2.1.drop k)) (ps,l) with ⟨p,p',e1,e2,e3,e4,e5⟩ | ⟨p,e1,e2⟩
 ·rw[e1] at d1 ⊢;rw[e2] at d2;refine th ⟨_,λl0=>?_,show vC (.inl p.1) ((0:Int),p.1,(true,p.2.1,p.2.2,In,n,()),()) from ⟨rfl,e4⟩⟩ ⟨_,?_,show vC (.inl p.1) ((0:Int),p'.1,(true,p'.2.1,p'.2.2,In,n,()),()) from ⟨e3,e4⟩⟩
  ·grind [dg.p,mB]
  ·unfold jo.p;grind [mC,mB]
 ·rw[e1] at d1 ⊢;rw[e2] at d2;refine th ⟨_,λl0=>?_,rfl⟩ ⟨_,?_,rfl⟩
  ·grind [dg.p,mB]
  ·unfold jo.p;rw[mC _ _ hl];grind [mB]
theorem X8 (hk:o.1=8) {j:Nat} (hj:j < ts.length) (jt:uj ts o.2.1=(j:Int)) (Li:(ts[j]).1=o.2.1):Ends (true,ps,l,ts,n,()) o (kx (bm ps) ts o) (Nm ps l 3 o.2.1 (lK (ts[j]).2.1) λp=>Ml 0 (true,p.1,p.2,ts.take j++ts.drop (j+1),n,()) ((6:Int),o.2.1,(0:Int),([]:List cr),()))/\∀ p,mT true 3 o.2.1 (lK (ts[j]).2.1) (ps,l)=.inr p->py p:=by
 have P:=so h;have AD:rj o=0/\gj o.1 1 9=true/\kx (bm ps) ts o=uN (bm ps) ts o:=CN P h2;have hl:ts.length<=1048576:=hp.2.2.1;have zo:=Eg AD.2.2 (by grind [v6]);have T:Bx ts:=CL P.Nj;have hm:ts[j] ∈ ts:=aN hj;have hu:=T.vv _ hm;have X7:=T.ch _ hm;have hc:=CM X7;have xm:=Qn (hp.2.2.2 _ hm).2.2.2;have Wi:(lK (ts[j]).2.1).length<=12:=by grind [zO]
 refine ⟨?_,λp hd=>AE _ _ _ hq hc hd⟩
 obtain ⟨g,hg⟩:∃ g,g=ts.take j++ts.drop (j+1):=⟨_,rfl⟩
 have d1:dh.ab ((true,ps,l,g,n,()),lK (ts[j]).2.1,(3:Int),o.2.1,())=some (mB (true,ps,l,g,n,()) (mT true 3 o.2.1 (lK (ts[j]).2.1) (ps,l))):=DM (s:=(true,ps,l,g,n,())) hq hc xm Bys;have d2:jB.ab ((true,ps,l,ts,n,()),(ts[j]).2.1,o.2.1,())=some (mB (true,ps,l,ts,n,()) (mT false 3 o.2.1 (lK (ts[j]).2.1) (ps,l))):=HB (s:=(true,ps,l,ts,n,())) hq X7 Bys;have Mn:=FY (o:=o) hp.2.2 hj jt Bys;rw[<-hg] at Mn ⊢;have gw:(0:Int)<=(j:Int)/\(j:Int) < (ts.length:Int):=by omega
 unfold Nm
 rcases HJ 3 o.2.1 (lK (ts[j]).2.1) (ps,l) with ⟨p,p',e1,e2,e3,e4,e5⟩ | ⟨p,e1,e2⟩
 ·rw[e1] at d1 ⊢;rw[e2] at d2;refine th ⟨_,λl0=>?_,show vC (.inl p.1) ((0:Int),p.1,(true,p.2.1,p.2.2,g,n,()),()) from ⟨rfl,e4⟩⟩ ⟨_,?_,show vC (.inl p.1) ((0:Int),p'.1,(true,p'.2.1,p'.2.2,ts,n,()),()) from ⟨e3,e4⟩⟩
  ·grind [dg.p,mB]
  ·unfold jo.p;grind [mC,mB]
 ·have hgd:=AE _ _ _ hq hc e1;rw[e1] at d1 ⊢;rw[e2] at d2;refine th ⟨_,λl0=>?_,Ll 0 _ _⟩ ⟨_,?_,Ll 0 _ _⟩
  ·unfold dg.p;simp only[hk,zo,aJ,aO,aE,show ¬ (8:Int)=1 by decide,show ¬ (8:Int)=5 by decide,show ¬ (8:Int)=6 by decide,aG,Mn,aA,d1,mB];rw[Af (s:=(true,p.1,p.2,g,n,())) hgd.2 (HD 6 o.2.1)];rfl
  ·unfold jo.p;rw[mC _ _ hl];simp only[hk,aJ,aO,aE,show ¬ (8:Int)=1 by decide,show ¬ (8:Int)=5 by decide,show ¬ (8:Int)=6 by decide,show ¬ (8:Int)=7 by decide,aG,jt,gw,bS,aH,aC,aB hj,aA,d2,mB,aR];rw[Lm hgd.2 hl hj 6,Li,<- hg];rfl
theorem VJ (hk:o.1=7) {j:Nat} (hj:j < ts.length) (jt:uj ts o.2.1=(j:Int)) (Li:(ts[j]).1=o.2.1):Ends (true,ps,l,ts,n,()) o (kx (bm ps) ts o) (VH (true,ps,l,ts.take j++ts.drop (j+1),n,()) ((5:Int),o.2.1,(0:Int),([]:List cr),())):=by
 have P:=so h;have AD:rj o=0/\gj o.1 1 9=true/\kx (bm ps) ts o=uN (bm ps) ts o:=CN P h2;have hl:ts.length<=1048576:=hp.2.2.1;have MF:nW l<=16000:=hq.2;have zo:=Eg AD.2.2 (by grind [v6])
 obtain ⟨g,hg⟩:∃ g,g=ts.take j++ts.drop (j+1):=⟨_,rfl⟩
 have Mn:=FY (o:=o) hp.2.2 hj jt Bys;have Dw:=Lm (u:=true) (ps:=ps) (n:=n) MF hl hj 5;have VK:=Af (s:=(true,ps,l,g,n,())) MF (HD 5 o.2.1);rw[Li] at Dw;rw[<-hg] at Mn Dw ⊢;unfold VH;unfold uM at Dw VK;simp only at Dw VK ⊢
 cases ha:ox l ((5:Int),o.2.1,(0:Int),([]:List cr),()) with
 | none=>
  rw[ha] at Dw VK;have hsy:=Mk MF;have aes:=DN MF;refine th ⟨_,λl0=>?_,show vC (.inl 9) ((0:Int),(9:Int),(true,ps,uz l,g,n,()),()) from ⟨rfl,by decide⟩⟩ ⟨_,?_,show vC (.inl 9) ((0:Int),(9:Int),(true,ps,uz l,g,n,()),()) from ⟨rfl,by decide⟩⟩
  all_goals grind [dg.p,jo.p,mC]
 | some l'=>
  rw[ha] at Dw VK;have hsy:=Mk (uf ha);have aes:=DN (uf ha);refine th ⟨_,λl0=>?_,rfl⟩ ⟨_,?_,rfl⟩
  all_goals grind [dg.p,jo.p,mC]
theorem X9 (hk:o.1=9):Ends (true,ps,l,ts,n,()) o (kx (bm ps) ts o) (VI (true,ps,l,ts,n,())):=by
 have P:=so h;have AD:rj o=0/\gj o.1 1 9=true/\kx (bm ps) ts o=uN (bm ps) ts o:=CN P h2;have hl:ts.length<=1048576:=hp.2.2.1;have zo:=Eg AD.2.2 (by grind [v6]);have hg:=BE hq.1;have i1:∀ k,100<=k->_:=λk hk=>Sc (u:=true) (T:=(ts,n,())) (o:=o) (C:=kx (bm ps) ts o) hg hq.2 hk;have i2:=Sd (u:=true) (T:=(ts,n,())) hg hq.2;simp only at i1 i2;unfold VI;simp only
 have two:∀ r1 r2:Int×Int×ba×Unit,(∀ k,100<=k->dg.r0 k ((true,ps,l,ts,n,()),o,kx (bm ps) ts o,()) ((true,ps,l,ts,n,()),(0:Int))=some r1)->(jL.ab ((true,ps,l,ts,n,()),())=some (r2.2.1,r2.2.2.1,())/\r2.1=0)->∀ E,vC E r1->vC E r2->Ends (true,ps,l,ts,n,()) o (kx (bm ps) ts o) E:=λr1 r2 a1 a2 E b1 b2=>by
  refine ⟨⟨r1,ag (k:=100) λk nB=>(dg.ae k _).trans ?_,b1⟩,⟨r2,ag (k:=0) λk _=>(jo.ae k _).trans ?_,b2⟩⟩
  ·grind [dg.p]
  grind [jo.p,mC]
 cases hm:Ag 0 ps l with
 | inl l'=>
  simp only[hm] at i1 i2;exact two _ ((0:Int),(9:Int),(true,ps,l',ts,n,()),()) i1 ⟨i2,rfl⟩ _ ⟨rfl,by decide⟩ ⟨rfl,by decide⟩
 | inr l'=>
  simp only[hm] at i1 i2;exact two _ ((0:Int),(0:Int),(true,ps,uz l',ts,n,()),()) i1 ⟨i2,rfl⟩ _ rfl rfl
theorem ZO (n1:¬ o.1=1) (n5:¬ o.1=5) (n6:¬ o.1=6) (n7:¬ o.1=7) (n8:¬ o.1=8) (n9:¬ o.1=9) (zo:(kx (bm ps) ts o).2.1=false):Ends (true,ps,l,ts,n,()) o (kx (bm ps) ts o) (.inr ((0:Int),(true,ps,l,ts,n,()))):=by
 have hl:ts.length<=1048576:=hp.2.2.1;refine th ⟨_,λl0=>?_,rfl⟩ ⟨_,?_,rfl⟩
 all_goals grind [dg.p,jo.p,mC]
theorem ZP (hk:v6 o.1=true) {j:Nat} (hj:j < ts.length) (jt:uj ts o.2.1=(j:Int)) (Li:(ts[j]).1=o.2.1) (zo:(kx (bm ps) ts o).2.1=true):Ends (true,ps,l,ts,n,()) o (kx (bm ps) ts o) (Nm ps l 2 o.2.1 [(ef (bm ps) o).1] λp=>.inr ((0:Int),(true,p.1,p.2,w7 ts j (ef (bm ps) o).1,n,())))/\(∀ p,mT true 2 o.2.1 [(ef (bm ps) o).1] (ps,l)=.inr p->py p)/\cl (ef (bm ps) o).1:=by
 have P:=so h;have AD:rj o=0/\gj o.1 1 9=true/\kx (bm ps) ts o=uN (bm ps) ts o:=CN P h2;have hl:ts.length<=1048576:=hp.2.2.1
 have Om:o.1=2\/o.1=3\/o.1=4:=by
  grind [v6]
 have n1:¬ o.1=1:=by omega
 have n5:¬ o.1=5:=by omega
 have n6:¬ o.1=6:=by omega
 have n7:¬ o.1=7:=by omega
 have n8:¬ o.1=8:=by omega
 have n9:¬ o.1=9:=by omega
 have hF:uN (bm ps) ts o=vH (bm ps) ts o:=by
  grind [uN]
 have FS:jb o.2.2.1=0:=Mh AD.1 hk;have ht:(vH (bm ps) ts o).2.1=true:=by grind
 obtain ⟨r1,r2,r3,r4,r5,r6⟩:=Nk ht;obtain ⟨w1,w2,w3,w4⟩:=Lh P.VF FS r2;have hce:kx (bm ps) ts o=(0,true,(ef (bm ps) o).1,()):=by grind
 have hN:zP ts o.2.1 (ef (bm ps) o).1=((0:Int),w7 ts j (ef (bm ps) o).1,()):=X5 P FS hj jt Li ht;have hn1:nv.ab (ts,o.2.1,(ef (bm ps) o).1,())=some (zP ts o.2.1 (ef (bm ps) o).1,()):=QC ts o.2.1 _ hp.2.2 w4;have hn2:pP.ab (ts,(j:Int),(ef (bm ps) o).1,())=_:=RZ ts j _ hp.2.2 hj;simp only at w1 w4;rw[hN] at hn1;rw[hce];generalize (ef (bm ps) o).1=c at *;have lY:∀ d ∈ [c],nC d=0:=λd hd=>by grind
 have Gu:∀ d ∈ [c],cl d:=λd hd=>by grind
 refine ⟨?_,λp hd=>AE _ _ _ hq lY hd,w4⟩
 have d1:dh.ab ((true,ps,l,ts,n,()),[c],(2:Int),o.2.1,())=some (mB (true,ps,l,ts,n,()) (mT true 2 o.2.1 [c] (ps,l))):=DM (s:=(true,ps,l,ts,n,())) hq lY Gu (by simp);have d2:jj.ab ((true,ps,l,ts,n,()),c,(2:Int),o.2.1,())=some (mB (true,ps,l,ts,n,()) (mT false 2 o.2.1 [c] (ps,l))):=HA (s:=(true,ps,l,ts,n,())) hq w1;unfold Nm
 rcases HJ 2 o.2.1 [c] (ps,l) with ⟨p,p',e1,e2,e3,e4,e5⟩ | ⟨p,e1,e2⟩
 ·rw[e1] at d1 ⊢;rw[e2] at d2;refine th ⟨_,λl0=>?_,show vC (.inl p.1) ((0:Int),p.1,(true,p.2.1,p.2.2,ts,n,()),()) from ⟨rfl,e4⟩⟩ ⟨_,?_,show vC (.inl p.1) ((0:Int),p'.1,(true,p'.2.1,p'.2.2,ts,n,()),()) from ⟨e3,e4⟩⟩
  ·grind [dg.p,mB]
  grind [jo.p,mC,mB]
 ·rw[e1] at d1 ⊢;rw[e2] at d2;refine th ⟨_,λl0=>?_,rfl⟩ ⟨_,?_,rfl⟩
  all_goals grind [dg.p,mB,jo.p,mC]
end
end OT
namespace OT
open Go
theorem abs {x:Tx} (h:tl x) (hm:List.length x.2.2.1<=8):tl (Lg x):=⟨h.1,by
 show (x.2.2.1++[(List.length x.2.1:Int)]).length<=_
 grind,h.2.2.1,h.2.2.2⟩
theorem acA {x:Tx} (h:tl x) (n m:Nat):tl (HH x n m):=by
 obtain ⟨h1,h2,h3,h4⟩:=h;refine ⟨?_,?_,h3,λc hc=>h4 c (dG hc)⟩
 ·show (x.2.1.take n).length<=_;grind
 ·show (x.2.2.1.take (m+1)).length<=_;grind
theorem abt {x:Tx} (h:tl x) (hu:List.length x.2.1<=12) (hk:List.length x.2.2.2.1<=12) {c:Change} (hc:cl c):tl (Dm x c):=by
 obtain ⟨h1,h2,h3,h4⟩:=h;refine ⟨?_,h2,?_,λd hd=>?_⟩
 ·show (x.2.1++[c]).length<=_;grind
 ·show (if jO x.2.2.2.1 (oy c) then x.2.2.2.1 else x.2.2.2.1++[oy c]).length<=_;grind
 ·rcases bO.1 hd with g | g
  all_goals grind
theorem Mo {xs:List Tx} (h:pr xs) (j:Nat) {y:Tx} (hy:tl y):pr (xs.set j y):=⟨by rw[bB];exact h.1,λx hx=>by
 rcases eK hx with g | g
 ·exact h.2 x g
 grind⟩
theorem QM {xs:List Tx} (h:pr xs) (j:Nat):pr (xs.take j++xs.drop (j+1)):=⟨by
 have:=h.1
 grind,λx hx=>by
 rcases bO.1 hx with g | g
 ·exact h.2 x (dG g)
 ·exact h.2 x (dC g)⟩
theorem abu {xs:List Tx} (h:pr xs) (hl:xs.length<=4) (n:Int):pr (xs++[Mm n]):=⟨by grind,λx hx=>by
 rcases bO.1 hx with g | g
 ·exact h.2 x g
 ·rw[bL] at g;rw[g];exact ⟨aW _,aW _,aW _,λc hc=>by cases hc⟩⟩
def Nn (ts:List Tx) (E:Sum Int (Int×ba)):Prop:=∀ v s',E=.inr (v,s')->py (s'.2.1,s'.2.2.1)/\pr s'.2.2.2.1/\zz (.aa bh) s'.2.2.2.1<=zz (.aa bh) ts+3000
section
variable {ts:List Tx} {S:ba}
theorem Eh (c:Int):Nn ts (.inl c):=λv s' h=>by cases h
theorem zQ {v:Int} (h1:py (S.2.1,S.2.2.1)) (h2:pr S.2.2.2.1) (h3:zz (.aa bh) S.2.2.2.1<=zz (.aa bh) ts+3000):Nn ts (.inr (v,S)):=λv' s' h=>by
 grind
theorem TA {v:Int} {r:bk} (h1:py (S.2.1,S.2.2.1)) (h2:pr S.2.2.2.1) (h3:zz (.aa bh) S.2.2.2.1<=zz (.aa bh) ts+3000):Nn ts (Ml v S r):=by
 unfold Ml
 cases ha:ox S.2.2.1 r with
 | none=>exact Eh _
 | some l=>exact zQ (S:=(S.1,S.2.1,l,S.2.2.2)) ⟨h1.1,uf ha⟩ h2 h3
theorem abv {r:bk} (h1:py (S.2.1,S.2.2.1)) (h2:pr S.2.2.2.1) (h3:zz (.aa bh) S.2.2.2.1<=zz (.aa bh) ts+3000):Nn ts (VH S r):=by
 unfold VH
 cases ha:ox S.2.2.1 r with
 | none=>exact Eh _
 | some l=>exact zQ (S:=(S.1,S.2.1,uz l,S.2.2.2)) ⟨h1.1,by grind [QJ,uf]⟩ h2 h3
theorem abw (h1:py (S.2.1,S.2.2.1)) (h2:pr S.2.2.2.1) (h3:zz (.aa bh) S.2.2.2.1<=zz (.aa bh) ts+3000):Nn ts (VI S):=by
 unfold VI
 cases ha:Ag 0 S.2.1 S.2.2.1 with
 | inl _=>exact Eh _
 | inr l=>exact zQ (S:=(S.1,S.2.1,uz l,S.2.2.2)) ⟨h1.1,by show nW (uz l)<=_;rw[QJ];exact QL _ _ _ _ ha h1.2⟩ h2 h3
theorem QN {ps:ca} {l:Log} {kind tx:Int} {cs:List Change} {f:ca×Log->Sum Int (Int×ba)} (h:∀ p,mT true kind tx cs (ps,l)=.inr p->Nn ts (f p)):Nn ts (Nm ps l kind tx cs f):=by
 grind [Nm,Eh]
end
theorem abx {rows:List Row} {o:Op} {x:Tx} (FS:jb o.2.2.1=0) (QH:zz (.aa aT) rows<=1000):zz bh (Dm x (ef rows o).1)<=zz bh x+1020:=by
 have hw:=VG rows o;have h2:=Ay FS;have h3:zz oY o=0+(0+((0+(0+(0+(List.length o.2.2.1.2.2.2.1+0))))+(0+0))):=rfl;have c:zz (.aa ao) (x.2.1++[(ef rows o).1])=zz (.aa ao) x.2.1+zz (.aa ao) [(ef rows o).1]:=wo (e:=ao) _ _;have c2:zz (.aa ao) [(ef rows o).1]=1+(zz ao (ef rows o).1+0):=rfl;have d:zz bh (Dm x (ef rows o).1)=0+(zz (.aa ao) (x.2.1++[(ef rows o).1])+(zz (.aa i64) x.2.2.1+(zz (.aa bc) (if jO x.2.2.2.1 (oy (ef rows o).1) then x.2.2.2.1 else x.2.2.2.1++[oy (ef rows o).1])+0))):=rfl;have e:zz bh x=0+(zz (.aa ao) x.2.1+(zz (.aa i64) x.2.2.1+(zz (.aa bc) x.2.2.2.1+0))):=rfl
 have f0:∀ (b:Bool) (L:List Key) (q:Key),zz (.aa bc) (if b=true then L else L++[q])<=zz (.aa bc) L+1:=λb L q=>by
  cases b
  ·exact fQ (wo (e:=bc) L [q])
  ·exact Nat.le_succ _
 have f:=f0 (jO x.2.2.2.1 (oy (ef rows o).1)) x.2.2.2.1 (oy (ef rows o).1);omega
section
variable {ps:ca} {l:Log} {ts:List Tx} {n:Int} {o:Op} (hq:py (ps,l)) (hp:Lb (bm ps,ts,n,())) (h:rR (bm ps,ts,n,())=0) (h2:(kx (bm ps) ts o).1=0)
include hq hp h h2
theorem aby:∃ E,Ends (true,ps,l,ts,n,()) o (kx (bm ps) ts o) E/\Nn ts E:=by
 have P:=so h;obtain ⟨c1,c2,c3⟩:rj o=0/\gj o.1 1 9=true/\kx (bm ps) ts o=uN (bm ps) ts o:=CN P h2;have T:Bx ts:=CL P.Nj;have ht:pr ts:=hp.2.2;by_cases k1:o.1=1
 ·refine ⟨_,X6 hq hp h h2 k1,?_⟩
  split
  ·exact Eh _
  ·have h1:zz (.aa bh) (ts++[Mm n])=zz (.aa bh) ts+1:=wo (e:=bh) ts [Mm n];exact TA hq (abu ht T.len n) (by grind)
 by_cases k9:o.1=9
 ·exact ⟨_,X9 hq hp h h2 k9,abw hq ht (fY _ _)⟩
 have hF:=h2;rw[c3] at hF
 have hna:¬ uj ts o.2.1 < 0:=λhn=>by
  grind [uN]
 obtain ⟨j,hj,jt,Li⟩:=at_mem hna;have hm:ts[j] ∈ ts:=aN hj;have aeK:zz (.aa bh) (ts.take j++ts.drop (j+1))+(zz bh ts[j]+1)=zz (.aa bh) ts:=abr (e:=bh) ts j hj;have BT:∀ y:Tx,zz (.aa bh) (ts.set j y)+zz bh ts[j]=zz (.aa bh) ts+zz bh y:=λy=>abq (e:=bh) ts j hj y;by_cases k5:o.1=5
 ·obtain ⟨e,hm8⟩:=ZM hq hp h h2 k5 hj jt;refine ⟨_,e,zQ hq (Mo ht j (abs (ht.2 _ hm) hm8)) ?_⟩
  have a:=BT (Lg ts[j]);have c:zz (.aa i64) ((ts[j]).2.2.1++[(List.length (ts[j]).2.1:Int)])=zz (.aa i64) (ts[j]).2.2.1+1:=wo (e:=i64) (ts[j]).2.2.1 [(List.length (ts[j]).2.1:Int)];have d:zz bh (Lg ts[j])=0+(zz (.aa ao) (ts[j]).2.1+(zz (.aa i64) ((ts[j]).2.2.1++[(List.length (ts[j]).2.1:Int)])+(zz (.aa bc) (ts[j]).2.2.2.1+0))):=rfl;have e:zz bh ts[j]=0+(zz (.aa ao) (ts[j]).2.1+(zz (.aa i64) (ts[j]).2.2.1+(zz (.aa bc) (ts[j]).2.2.2.1+0))):=rfl;grind
 by_cases k6:o.1=6
 ·obtain ⟨m,k,e,hg⟩:=ZN hq hp h h2 k6 hj jt;refine ⟨_,e,QN λp hd=>zQ (S:=(true,p.1,p.2,ts.set j (HH ts[j] k m),n,())) (hg p hd) (Mo ht j (acA (ht.2 _ hm) k m)) ?_⟩
  have a:=BT (HH ts[j] k m);have c:zz (.aa ao) ((ts[j]).2.1.take k)<=zz (.aa ao) (ts[j]).2.1:=(Tz (e:=ao) (ts[j]).2.1 k).1;have c':zz (.aa i64) ((ts[j]).2.2.1.take (m+1))<=zz (.aa i64) (ts[j]).2.2.1:=(Tz (e:=i64) (ts[j]).2.2.1 (m+1)).1;have d:zz bh (HH ts[j] k m)=0+(zz (.aa ao) ((ts[j]).2.1.take k)+(zz (.aa i64) ((ts[j]).2.2.1.take (m+1))+(zz (.aa bc) (ts[j]).2.2.2.1+0))):=rfl;have e:zz bh ts[j]=0+(zz (.aa ao) (ts[j]).2.1+(zz (.aa i64) (ts[j]).2.2.1+(zz (.aa bc) (ts[j]).2.2.2.1+0))):=rfl;grind
 by_cases k7:o.1=7
 ·grind [VJ,abv,QM]
 by_cases k8:o.1=8
 ·obtain ⟨e,hg⟩:=X8 hq hp h h2 k8 hj jt Li;grind [QN,TA,QM]
 have hon:v6 o.1=true:=by
  grind [gj,v6]
 cases zo:(kx (bm ps) ts o).2.1 with
 | false=>exact ⟨_,ZO hq hp h h2 k1 k5 k6 k7 k8 k9 zo,zQ hq ht (fY _ _)⟩
 | true=>
  obtain ⟨e,hg,hc⟩:=ZP hq hp h h2 hon hj jt Li zo
  have J2:∀ c,w7 ts j c=ts.set j (Dm ts[j] c):=λc=>by
   grind [w7]
  refine ⟨_,e,QN λp hd=>zQ (S:=(true,p.1,p.2,w7 ts j (ef (bm ps) o).1,n,())) (hg p hd) ?_ ?_⟩
  ·show pr (w7 ts j _);rw[J2];exact Mo ht j (abt (ht.2 _ hm) (T.vv _ hm) (T.Vt _ hm) hc)
  ·show zz (.aa bh) (w7 ts j _)<=_;rw[J2];have a:=BT (Dm ts[j] (ef (bm ps) o).1)
   have QH:zz (.aa aT) (bm ps)<=1000:=by
    have:=S4 (xs:=bm ps) P.VF.2;have hl:=P.len;grind
   grind [abx,Mh]
end
theorem acB {O:Type} (z k:Int) (A B:O):(bif decide ((4000:Int) < z) then (bif !decide (k=(6:Int)) then (bif !decide (k=(8:Int)) then A else B) else B) else B)=if 4000 < z/\¬ k=6/\¬ k=8 then A else B:=by
 grind
theorem acC {O:Type} (z k:Int) (A B:O):(bif !decide (k=(6:Int)) then (bif !decide (k=(8:Int)) then (bif decide ((4000:Int) < z) then A else B) else B) else B)=if 4000 < z/\¬ k=6/\¬ k=8 then A else B:=by
 grind
def Mp (E:Sum Int (Int×ba)):mn:=match E with
 | .inl c=>FH c
 | .inr p=>((0:Int),p.1,p.2,())
theorem acD {s:ba} {o:Op} (hs:Qv s) (ho:rl o.2.2.1) (h0:xz s=0):∃ R,kH.ab (s,o,())=some (R,())/\pQ.ab (s,o,())=some (R,())/\zz ff R<=20000+zz bv s:=by
 obtain ⟨u,ps,l,ts,n,⟨⟩⟩:=s;have VL:∀ c,zz ff (FH c)<=20000+zz bv (u,ps,l,ts,n,()):=λc=>bH (fQ (show zz ff (FH c)=0 from rfl)) (aW _);have L1:∀ R,kH.p ((u,ps,l,ts,n,()),o,())=some (R,())->kH.ab ((u,ps,l,ts,n,()),o,())=some (R,()):=λR hR=>ag (k:=0) λk _=>(kH.ae k _).trans hR;have L2:∀ R,pQ.p ((u,ps,l,ts,n,()),o,())=some (R,())->pQ.ab ((u,ps,l,ts,n,()),o,())=some (R,()):=λR hR=>ag (k:=0) λk _=>(pQ.ae k _).trans hR;have hf:=Hy hs;rw[h0] at hf
 cases u with
 | false=>
  refine ⟨FH 8,L1 _ ?_,L2 _ ?_,VL _⟩
  all_goals grind [kH.p,pQ.p,Ia]
 | true=>
  obtain ⟨hq,hP⟩:=ZC h0 rfl;simp only at hq hP;have hp:Lb (bm ps,ts,n,()):=Qw hs hq.1;have xi:=Qs (s:=(true,ps,l,ts,n,())) hq.1;have wd:=FX hq.1;have lY:=VE (bm ps) ts o hp.1 hp.2.1 hp.2.2 ho;have Gu:=VD (bm ps) ts o hp.1 hp.2.1 hp.2.2 ho;simp only at xi wd;by_cases h2:(kx (bm ps) ts o).1=0;rotate_left
  ·refine ⟨FH (kx (bm ps) ts o).1,L1 _ ?_,L2 _ ?_,VL _⟩
   all_goals grind [kH.p,pQ.p,Ia]
  obtain ⟨E,⟨⟨r,i1,i2⟩,⟨q,s1,s2⟩⟩,hE⟩:=aby hq hp hP h2;have xn:jM.ab (l,())=some (((List.length l.1+List.length l.2.1:Nat):Int),()):=size_eq l hs.1
  have An:af ((List.length l.1:Int)+(List.length l.2.1:Int))=((List.length l.1+List.length l.2.1:Nat):Int):=by
   have a:=hs.1.1;have b:=hs.1.2;grind [be]
  have ho1:=Ts (s:=(true,ps,l,ts,n,())) hq hp.2.2;have VW:=ZE (s:=(true,ps,l,ts,n,())) hq hp.2.2;refine ⟨if 4000 < ((List.length l.1+List.length l.2.1:Nat):Int)/\¬ o.1=6/\¬ o.1=8 then FH 9 else Mp E,L1 _ ?_,L2 _ ?_,?_⟩
  ·unfold kH.p;simp only[hf,aA,aJ,aR,aE,xi,lY,h2,xn,ho1,i1];rw[acB];split
   ·rfl
   ·cases E with
    | inl c=>
     obtain ⟨a,b⟩:=i2;grind [Mp]
    | inr p=>
     have i2:r=_:=i2;subst i2;obtain ⟨g1,g2,g3⟩:=hE p.1 p.2 rfl;grind [Ts,Mp]
  ·unfold pQ.p;simp only[aR,aE,Ia,aA,aJ,wd,Gu,h2,VW,s1,An];rw[acC];split
   ·rfl
   ·cases E with
    | inl c=>
     obtain ⟨a,b⟩:=s2;grind [Mp]
    | inr p=>
     have s2:q=_:=s2;grind [Mp]
  ·split
   ·exact VL _
   ·cases E with
    | inl c=>exact VL c
    | inr p=>
     obtain ⟨g1,g2,g3⟩:=hE p.1 p.2 rfl
     have hz:zz ff (Mp (.inr p))=zz bv p.2:=by
      show 0+(0+(zz bv p.2+0))=_;omega
     rw[hz];have h3:=abo g1
     have h4:zz (.aa bh) ts<=zz bv (true,ps,l,ts,n,()):=by
      rw[QD];omega
     refine bH ?_ (Nat.add_le_add_left h4 20000);omega
theorem ZQ {s:ba} {o:Op} (hs:Qv s) (ho:rl o.2.2.1):∃ R,kH.ab (s,o,())=some (R,())/\pR.ab (s,o,())=some (R,())/\zz ff R<=20000+zz bv s:=by
 by_cases h0:xz s=0
 ·obtain ⟨R,h1,h2,h3⟩:=acD hs ho h0;refine ⟨R,h1,ag (k:=0) λk _=>(pR.ae k _).trans ?_,h3⟩
  grind [pR.p,Ef]
 ·refine ⟨FH (xz s),ag (k:=0) λk _=>(kH.ae k _).trans ?_,ag (k:=0) λk _=>(pR.ae k _).trans ?_,bH (fQ (show zz ff (FH (xz s))=0 from rfl)) (aW _)⟩
  all_goals grind [kH.p,Hy,pR.p,Ef,Ia]
theorem QO (v:gy.A) (hv:WG gy.ps v):gy.ab v=some (true,()):=by
 obtain ⟨s,o,⟨⟩⟩:=v;obtain ⟨acE,acF,_⟩:=hv;refine ag (k:=0) λk _=>(gy.ae k _).trans ?_;show gy.p _=_;unfold gy.p;simp only[UT s 1048576 acE (show (0:Int)<=1048576 by omega) Bys,aA];by_cases DX:((zz bv s:Nat):Int)<=1048576;rotate_left
 ·grind [mV]
 have e1:mV (1048576) (zz bv s)=1048576 - ((zz bv s:Nat):Int):=aM DX;have n1:¬ (1048576 - ((zz bv s:Nat):Int) < 0):=by omega
 simp only[e1,n1,aG,aE,aa3 o _ acF (show (0:Int)<=1048576 - ((zz bv s:Nat):Int) by omega) Bys,aA];by_cases Ak:((zz oY o:Nat):Int)<=1048576 - ((zz bv s:Nat):Int);rotate_left
 ·grind [mV]
 have e2:mV (1048576 - ((zz bv s:Nat):Int)) (zz oY o)=1048576 - ((zz bv s:Nat):Int) - ((zz oY o:Nat):Int):=aM Ak;have n2:¬ (1048576 - ((zz bv s:Nat):Int) - ((zz oY o:Nat):Int) < 0):=by omega
 have h1:Qv s:=ZA acE Bys;have h2:rl o.2.2.1:=NV acF.2.2.1;obtain ⟨R,i1,i2,hR⟩:=ZQ h1 h2;have hB:mW=4611686018427387904:=rfl;obtain ⟨k',y,a1,a2,a3,a4⟩:=Nz (R) 1 Bys Bys;obtain ⟨l1,w1,b1,c1,d1⟩:=aa8 s 1 Bys Bys;simp only[e2,n2,aG,aE,UU s Bys,aa5 o Bys,i2,i1,GO (R) Bys,a1,a2,show ¬ k' < 0 by omega,GN s Bys,b1,show ¬ l1 < 0 by omega,aA,aR,aJ,aO]
end OT
