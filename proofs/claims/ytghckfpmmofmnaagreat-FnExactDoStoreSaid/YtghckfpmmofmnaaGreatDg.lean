/- The proof's parts, merged: Runs and records  what the program and the reference find at fault and pack  conditions on the lengths alone.. No conditions but those that each states. -/
import Derived.Test.YtghckfpmmofmnaaGreatDf
set_option linter.unusedVariables false
set_option linter.unusedSimpArgs false
namespace OT
open Go
def bl (x:cr):Int:=(List.length x.2.1:Int)
def su (s:Int) (x:cr):Sum (Int×Unit) Int:=
 if gj x.1 0 63 then (if gj (bl x) 1 64 then (if 64 < x.1+bl x then .inl (3,()) else if x.1 < s then .inl (1,()) else .inr (x.1+bl x+1)) else .inl (3,())) else .inl (3,())
def Kv (s:Int) (xs:List cr):Int:=(ci (λ_ s x=>su s x) (λ_=>((0:Int),())) 0 xs s).1
def wS (xs:List cr):Int:=if 64 < xs.length then 2 else Kv 0 xs
theorem MP {s s':Int} {x:cr} (h:su s x=.inr s'):0<=x.1/\x.1<=63/\1<=bl x/\bl x<=64/\x.1+bl x<=64/\s<=x.1/\s'=x.1+bl x+1:=by
 grind [su,gj]
theorem Y5 {s:Int} {x:cr} {o:Int×Unit} (h:su s x=.inl o):o.1≠0:=by
 grind [su]
theorem ST {S O α:Type} {f:S->α->Sum O S} {fin:S->O}:∀ (xs:List α) (i j:Nat) (s:S),ci (λ_ s x=>f s x) fin i xs s=ci (λ_ s x=>f s x) fin j xs s
 | [],_,_,_=>rfl
 | x::xs,i,j,s=>by
  simp only[ci];split
  ·rfl
  ·exact ST xs _ _ _
theorem Kw (s:Int) (x:cr) (xs:List cr):Kv s (x::xs)=match su s x with | .inl o=>o.1 | .inr s'=>Kv s' xs:=by
 unfold Kv;simp only[ci]
 cases h:su s x with
 | inl o=>rfl
 | inr s'=>simp only;rw[ST xs 1 0]
theorem Kx:∀ (xs:List cr) (s:Int),Kv s xs=0->∀ x ∈ xs,0<=x.1/\x.1<=63/\1<=bl x/\bl x<=64
 | [],_,_,_,hx=>by cases hx
 | y::ys,s,h,x,hx=>by
  rw[Kw] at h
  cases hs:su s y with
  | inl o=>grind [Y5]
  | inr s'=>
   rw[hs] at h;have:=MP hs;rcases aY.1 hx with e | e
   ·grind
   ·exact Kx ys s' h x e
theorem UZ {xs:List cr} (h:wS xs=0):List.length xs<=64/\∀ x ∈ xs,0<=x.1/\x.1<=63/\1<=bl x/\bl x<=64:=by
 unfold wS at h;split at h
 ·cases h
 ·exact ⟨by omega,Kx xs 0 h⟩
theorem W_ {y z:cr} {ys:List cr} (h:wS (y::z::ys)=0):List.length y.2.1≠64:=by
 grind [wS,Kw,su,bl]
theorem Ri (xs:List cr):kh.ab (xs,())=some (wS xs,()):=by
 refine ag (k:=66) λk hk=>(kh.ae k _).trans ?_;unfold kh.p wS;by_cases hl:64 < xs.length
 ·grind
 have xZ:¬ (64:Int) < (xs.length:Int):=by omega
 have:=cz (B:=λself v=>kh.b0 self (λz=>kh.q0 (xs,()) z) (xs,()) v) xs (λ(s:Int) (i:Int)=>(s,i)) (λ_ s x=>su s x) (λ_=>(0,())) (λ_ _=>True) (by rw[an];omega)
  (λi hi s self _=>by
   show kh.b0 _ _ _ _=_;unfold kh.b0
   grind [Int.natCast_nonneg,Int.toNat_natCast,sj,su,bl,gj,be]) (λ_ _ _ _ _ _=>trivial) (λs self _=>by
   grind [kh.b0,kh.q0]) 0 trivial k Bys
 simp only[hl,aS,xZ,aG,aE];exact this
theorem Is (xs:List cr):li.ab (xs,())=some (wS xs,()):=by
 refine ag (k:=66) λk hk=>(li.ae k _).trans ?_;unfold li.p wS;by_cases hl:64 < xs.length
 ·grind
 have xZ:¬ (64:Int) < (xs.length:Int):=by omega
 have:=cz (B:=λself v=>li.b0 self (λz=>li.q0 (xs,()) z) (xs,()) v) xs (λ(s:Int) (i:Int)=>i) (λ_ s x=>su s x) (λ_=>(0,()))
  (λi s=>(i=0->s=0)/\∀ y,0 < i->xs[i - 1]?=some y->0<=y.1/\y.1<=63/\bl y<=64/\s=y.1+bl y+1) (by rw[an];omega)
  (λi hi s self hI=>by
   show li.b0 _ _ _ _=_;unfold li.b0;have a8:(i:Int) < (xs.length:Int):=by omega
   simp only[a8,aJ,aO,aK,aH,aC,aB hi,aA,mL];generalize xs[i]=x;unfold su bl gj;by_cases a1:(0:Int)<=x.1;rotate_left
   ·simp[a1]
   by_cases a2:x.1<=63;rotate_left
   ·simp[a2]
   by_cases a3:(1:Int)<=(List.length x.2.1:Int)
   rotate_left
   ·grind
   by_cases a4:(List.length x.2.1:Int)<=64;rotate_left
   ·grind
   have e1:af (x.1+(List.length x.2.1:Int))=x.1+(List.length x.2.1:Int):=be Bys
   grind [be,bl,Int.toNat_natCast])
  (λi hi s s' _ hs=>⟨λe=>by omega,λy _ hy=>by
   rw[Nat.add_sub_cancel,aB hi] at hy;injection hy with hy;subst hy;have:=MP hs
   omega⟩) (λs self _=>by
   grind [li.b0,li.q0]) 0 ⟨λ_=>rfl,λy h=>by omega⟩ k Bys
 simp only[hl,aS,xZ,aG,aE];exact this
def Ky (k:Int) (xs:List cr):Int:=match xs with
 | []=>1
 | y::_=>if decide (k=4)&&!decide (List.length y.2.1=64) then 1 else 0
def wx (r:bk):Int:=
 if !gj r.1 1 6||(!gj r.1 2 4&&(!decide (r.2.2.1=0)||decide (0 < List.length r.2.2.2.1)))||(decide (r.1=4)&&!decide (r.2.1=0)) then 1
 else if (!decide (r.1=4)&&!gj r.2.1 1 99)||!gj r.2.2.1 0 11 then 3
 else if !gj r.1 2 4 then 0
 else if wS r.2.2.2.1=0 then Ky r.1 r.2.2.2.1 else wS r.2.2.2.1
theorem GP (k:Int):nX.ab (k,())=some (gj k 2 4,()):=by
 refine ag (k:=0) λn _=>(nX.ae n _).trans ?_;show nX.p _=_;unfold nX.p;simp[mL,gj]
theorem Ps (k:Int):pU.ab (k,())=some (gj k 2 4,()):=by
 refine ag (k:=0) λn _=>(pU.ae n _).trans ?_;grind [pU.p,gj,decide]
theorem Kz (r:bk):nK.ab (r,())=some (wx r,()):=by
 obtain ⟨k,t,p,xs,⟨⟩⟩:=r;refine ag (k:=0) λn _=>(nK.ae n _).trans ?_;show nK.p _=_;unfold nK.p wx;simp only[mL,GP,Is,aA,show ∀ a b c:Int,(decide (b<=a)&&decide (a<=c))=gj a b c from λ_ _ _=>rfl];have h0:decide ((0:Int) < (xs.length:Int))=decide (0 < xs.length):=by simp
 have hj:(li.ab (xs,()))=some (wS xs,()):=Is xs;rw[h0]
 have hh:(bif decide ((List.length xs:Int)=0) then some ((1:Int),()) else bif decide (k=4) then (xs[0]?).bind λPf=>bif !decide ((List.length Pf.2.1:Int)=64) then some ((1:Int),()) else some (0,()) else some (0,()))=some (Ky k xs,()):=by
  cases xs <;> grind [Ky]
 grind
theorem KA (r:bk):kB.ab (r,())=some (wx r,()):=by
 obtain ⟨k,t,p,xs,⟨⟩⟩:=r;refine ag (k:=0) λn _=>(kB.ae n _).trans ?_;show kB.p _=_;unfold kB.p wx;simp only[sj,Ps,LX,Ri,aA,show ∀ a b c:Int,(decide (b<=a)&&decide (a<=c))=gj a b c from λ_ _ _=>rfl];have h0:decide ((0:Int) < (xs.length:Int))=decide (0 < xs.length):=by simp
 rw[h0]
 have hk:gj k 2 4=false->decide (k=4)=false:=by
  intro h;by_cases e:k=4
  ·subst e;cases h
  ·simp[e]
 have Pt:∀ y:cr,decide ((List.length y.2.1:Int)=64)=decide (List.length y.2.1=64):=λy=>by
  grind
 have hz:decide (0 < xs.length)=false->xs=[]:=by
  simp_all
 have hh:wS xs=0->(bif decide ((List.length xs:Int)=0) then some ((1:Int),()) else bif decide (k=4) then bif !decide ((List.length xs:Int)=1) then some ((1:Int),()) else (xs[0]?).bind λPf=>bif !decide ((List.length Pf.2.1:Int)=64) then some ((1:Int),()) else some (0,()) else some (0,()))=some (Ky k xs,()):=by
  intro hr
  cases xs with
  | nil=>rfl
  | cons y ys=>
   have:¬ ((List.length (y::ys):Int)=0):=by grind
   simp only[this,aG,aE,Ky,eS,aA,Pt]
   cases ys with
   | nil=>grind
   | cons z ys=>
    have h1:=W_ hr;grind
 cases nB:gj k 2 4 with
 | false=>
  have hk4:=hk nB;have FS:wS ([]:List cr)=0:=rfl;grind
 | true=>
  grind
theorem x_ {r:bk} (h:wx r=0):1<=r.1/\r.1<=6/\0<=r.2.1/\r.2.1<=99/\0<=r.2.2.1/\r.2.2.1<=11/\List.length r.2.2.2.1<=64/\∀ x ∈ r.2.2.2.1,0<=x.1/\x.1<=63/\1<=bl x/\bl x<=64:=by
 obtain ⟨k,t,p,xs,⟨⟩⟩:=r;unfold wx at h;split at h
 all_goals grind [UZ,gj]
end OT
namespace OT
open Go
theorem EY:iV.ab ((0:UInt8),())=some (ww,()):=by
 refine ag (k:=66) λk hk=>(iV.ae k _).trans ?_;unfold iV.p
 have:=cz (B:=λself v=>iV.b0 self (λz=>iV.q0 ((0:UInt8),()) z) ((0:UInt8),()) v) (List.replicate 64 (0:UInt8)) (λ(s:List UInt8) (i:Int)=>(s,i)) (λ_ s _=>.inr s) (λs=>(ww,())) (λ_ s=>s=List.replicate 64 (0:UInt8)) (by rw[an];simp)
  (λi hi s self hI=>by
   show iV.b0 _ _ _ _=_;unfold iV.b0;subst hI;simp only[cR] at hi ⊢;have a8:(i:Int) < ((64:Nat):Int):=by omega
   have gw:(0:Int)<=(i:Int)/\(i:Int) < ((64:Nat):Int):=by omega
   have hg:(List.replicate 64 (0:UInt8))[i]?=some 0:=(fO (n:=64) (i:=i) (a:=(0:UInt8))).trans (aM hi);have hs:(List.replicate 64 (0:UInt8)).set i 0=List.replicate 64 (0:UInt8):=List.set_replicate_self
   simp only[a8,gw,bS,aJ,aO,aH,aC,hg,aA,hs])
  (λi hi s s' hI hs=>by injection hs with hs;rw[<-hs,hI]) (λs self hI=>by
   show iV.b0 _ _ _ _=_;unfold iV.b0;subst hI;simp only[cR,aU,aG,aE]
   rfl) (List.replicate 64 (0:UInt8)) rfl k (by simp;omega)
 rw[iv (g:=λs _=>s)] at this
 have hc:(0:Int)<=64/\(64:Int)<=64/\(64:Int)<=(ct:Int):=⟨by omega,by omega,by simp only[ct];omega⟩
 rw[aM hc];exact this
theorem EZ:jU.ab ((0:UInt8),())=some (ww,()):=by
 refine ag (k:=66) λk hk=>(jU.ae k _).trans ?_;unfold jU.p
 have:=cz (B:=λself v=>jU.b0 self (λz=>jU.q0 ((0:UInt8),()) z) ((0:UInt8),()) v) (List.replicate 64 (0:UInt8)) (λ(s:List UInt8) (i:Int)=>(s,i)) (λ_ s _=>.inr s) (λs=>(ww,())) (λ_ s=>s=List.replicate 64 (0:UInt8)) (by rw[an];simp)
  (λi hi s self hI=>by
   show jU.b0 _ _ _ _=_;unfold jU.b0;subst hI;simp only[cR] at hi ⊢;have a8:(i:Int) < (64:Int):=by omega
   have gw:(0:Int)<=(i:Int)/\(i:Int) < ((64:Nat):Int):=by omega
   have hg:(List.replicate 64 (0:UInt8))[i]?=some 0:=(fO (n:=64) (i:=i) (a:=(0:UInt8))).trans (aM hi);have hs:(List.replicate 64 (0:UInt8)).set i 0=List.replicate 64 (0:UInt8):=List.set_replicate_self
   simp only[a8,gw,bS,aJ,aO,aH,aC,hg,aA,hs])
  (λi hi s s' hI hs=>by injection hs with hs;rw[<-hs,hI]) (λs self hI=>by
   show jU.b0 _ _ _ _=_;unfold jU.b0;subst hI;have:¬ (((64:Nat):Int) < 64):=by omega
   simp only[cR,this,aG,aE]
   rfl) (List.replicate 64 (0:UInt8)) rfl k (by simp;omega)
 rw[iv (g:=λs _=>s)] at this
 have hc:(0:Int)<=64/\(64:Int)<=64/\(64:Int)<=(ct:Int):=⟨by omega,by omega,by simp only[ct];omega⟩
 rw[aM hc];exact this
end OT
namespace OT
open Go
def U0 (p:List UInt8) (r:cr):List UInt8:=o5 p r.1.toNat (min (List.length r.2.1) (p.length - r.1.toNat)) r.2.1
def KB (p:List UInt8) (rs:List cr):List UInt8:=rs.foldl U0 p
theorem Ji {p:List UInt8} {r:cr} (h:r.1.toNat<=p.length):(U0 p r).length=p.length:=sc _ _ Bys Bys
theorem KC:∀ (rs:List cr) (p:List UInt8),p.length=64->(∀ r ∈ rs,0<=r.1/\r.1<=63)->(KB p rs).length=64
 | [],p,h,_=>h
 | r::rs,p,h,hr=>by
  have:=hr r (by simp);exact KC rs _ (by grind [Ji]) (λx hx=>hr x (by simp[hx]))
theorem LY (p:List UInt8) (rs:List cr) (hp:p.length=64) (hl:rs.length<=64) (hr:∀ r ∈ rs,0<=r.1/\r.1<=63):ls.ab (p,rs,())=some (KB p rs,()):=by
 refine ag (k:=66) λk hk=>(ls.ae k _).trans ?_;unfold ls.p;rw[l9 _ (by grind)]
 have:=cz (B:=λself v=>ls.b0 self (λz=>ls.q0 (p,rs,()) z) (p,rs,()) v) rs (λ(s:List UInt8) (i:Int)=>(s,i)) (λ_ s r=>.inr (U0 s r)) (λs=>(s,())) (λ_ s=>s.length=64) (by rw[an];omega)
  (λi hi s self hI=>by
   show ls.b0 _ _ _ _=_;unfold ls.b0;have a8:(i:Int) < (rs.length:Int):=by omega
   have hx:=hr rs[i] (aN hi);have gw:(0:Int)<=(rs[i]).1/\(rs[i]).1<=(s.length:Int):=by omega
   simp only[a8,aJ,aO,aK,aH,aC,aB hi,aA,gw,bS]
   rfl)
  (λi hi s s' hI hs=>by
   grind [Ji]) (λs self hI=>by
   show ls.b0 _ _ _ _=_;unfold ls.b0;simp only[aU,aG,aE]
   rfl) p hp k Bys
 rw[iv] at this;exact this
theorem LZ (p:List UInt8) (rs:List cr) (hp:p.length=64) (hl:rs.length<=64) (hr:∀ r ∈ rs,0<=r.1/\r.1<=63):lm.ab (p,rs,())=some (KB p rs,()):=by
 refine ag (k:=66) λk hk=>(lm.ae k _).trans ?_;unfold lm.p;rw[my _ (by grind)]
 have:=cz (B:=λself v=>lm.b0 self (λz=>lm.q0 (p,rs,()) z) (p,rs,()) v) rs (λ(s:List UInt8) (i:Int)=>(s,i)) (λ_ s r=>.inr (U0 s r)) (λs=>(s,())) (λ_ s=>s.length=64) (by rw[an];omega)
  (λi hi s self hI=>by
   show lm.b0 _ _ _ _=_;unfold lm.b0;have a8:(i:Int) < (rs.length:Int):=by omega
   have hx:=hr rs[i] (aN hi);have gw:(0:Int)<=(rs[i]).1/\(rs[i]).1<=(s.length:Int):=by omega
   simp only[a8,aJ,aO,aK,aH,aC,aB hi,aA,gw,bS]
   rfl)
  (λi hi s s' hI hs=>by
   grind [Ji]) (λs self hI=>by
   show lm.b0 _ _ _ _=_;unfold lm.b0;simp only[aU,aG,aE]
   rfl) p hp k Bys
 rw[iv] at this;exact this
theorem Y6 (ps:mz) (h:ps.length<=12):mI.ab (ps,())=some (ps,()):=by
 refine ag (k:=0) λk _=>(mI.ae k _).trans ?_;show mI.p _=_;unfold mI.p;refine D2 (λe=>by grind) ?_;grind [dc]
def Jj (q:mz) (r:bk):mz:=q.set r.2.2.1.toNat (KB (q.getD r.2.2.1.toNat []) r.2.2.2.1)
def ut (ps:mz) (r:bk):Sum Int mz:=
 if wx r=0 then (if gj r.1 2 4 then (if (ps.length:Int) < r.2.2.1 then .inl 1 else .inr (Jj (if r.2.2.1=(ps.length:Int) then ps++[ww] else ps) r)) else .inr ps) else .inl (wx r)
theorem MQ {ps:mz} {r:bk} {c:Int} (h:ut ps r=.inl c):c≠0:=by
 grind [ut]
theorem MR {q:mz} {r:bk} (hq:gp q) (hr:wx r=0) (hp:r.2.2.1.toNat < q.length):gp (Jj q r):=by
 have hg:=x_ hr;refine ⟨by simp[Jj];exact hq.1,λp hm=>?_⟩
 rcases eK hm with h | h
 ·exact hq.2 p h
 ·subst h;have hx:q.getD r.2.2.1.toNat []=q[r.2.2.1.toNat]:=by simp[hp]
  rw[hx];exact KC _ _ (hq.2 _ (aN hp)) (λx hx=>by grind)
theorem E0 {ps ya:mz} {r:bk} (hp:gp ps) (h:ut ps r=.inr ya):gp ya:=by
 unfold ut at h;split at h
 ·rename_i hr;have hg:=x_ hr;split at h
  ·split at h
   ·cases h
   ·rename_i hl;injection h with h;subst h;split
    ·rename_i he;refine MR ⟨by simp;omega,λp hm=>?_⟩ hr (by simp;omega);rcases bO.1 hm with hm | hm
     ·exact hp.2 p hm
     grind [zG]
    grind [MR]
  grind
 ·cases h
theorem KD (ps:mz) (r:bk) (hp:gp ps) (hr:wx r=0):oV.ab (ps,r,())=some (match ut ps r with | .inl c=>(([]:mz),c,()) | .inr ya=>(ya,(0:Int),())):=by
 refine ag (k:=0) λk _=>(oV.ae k _).trans ?_;show oV.p _=_;have hg:=x_ hr;unfold oV.p ut;simp only[Ps,hr,aH,aA]
 cases ht:gj r.1 2 4 with
 | false=>rfl
 | true=>
  simp only[aR,aE,aH];by_cases hl:(ps.length:Int) < r.2.2.1
  ·grind
  have zt:¬ r.2.2.1=12:=by omega
  simp only[hl,zt,aG,aE,aS,Y6 ps hp.1,aA]
  have key:∀ q:mz,gp q->r.2.2.1.toNat < q.length->(if 0<=r.2.2.1/\r.2.2.1 < (q.length:Int) then ((q[r.2.2.1.toNat]?).bind λWW=>(ls.ab (WW,r.2.2.2.1,())).bind λru=>if 0<=r.2.2.1/\r.2.2.1 < (q.length:Int) then ((q[r.2.2.1.toNat]?).bind λKq=>some (q.set r.2.2.1.toNat ru.1,(0:Int),())) else none) else none:Option oV.O)=some (Jj q r,(0:Int),()):=λq hq a8=>by
   have hc:0<=r.2.2.1/\r.2.2.1 < (q.length:Int):=by omega
   simp only[hc,bS,aH,aB a8,aA];rw[LY _ _ (hq.2 _ (aN a8)) hg.2.2.2.2.2.2.1 (λx hx=>by grind)];grind [Jj]
  by_cases he:r.2.2.1=(ps.length:Int)
  ·have Pb:ps.length+[ww].length<=ct:=dc (by grind);rw[aM he];simp only[he,aJ,aO,EY,aA,Pb,aH];rw[<-he];refine key _ ⟨by simp;omega,λp hm=>?_⟩ (by simp;omega);rcases bO.1 hm with hm | hm
   ·exact hp.2 p hm
   grind [zG]
  grind
theorem Rj (c:Int):fu.ab (c,())=some ((c,([]:List cr),([]:List (List UInt8)),()),()):=by
 refine ag (k:=0) λk _=>(fu.ae k _).trans ?_;rfl
theorem NA (ps:mz) (r:bk) (hp:gp ps):gq.ab (ps,r,())=some (match ut ps r with | .inl c=>((c,([]:List cr),([]:mz),()),()) | .inr ya=>(((0:Int),([]:List cr),ya,()),())):=by
 refine ag (k:=14) λk hk=>(gq.ae k _).trans ?_;unfold gq.p;have zt:¬ (12:Int) < (ps.length:Int):=by have:=hp.1;omega
 simp only[zt,aG,aE]
 have main:gq.q0 (ps,r,()) ()=some (match ut ps r with | .inl c=>((c,([]:List cr),([]:mz),()),()) | .inr ya=>(((0:Int),([]:List cr),ya,()),())):=by
  show gq.q0 _ _=_;unfold gq.q0 ut;simp only[Kz,Rj,xD ps hp,GP,aA];by_cases hr:wx r=0;rotate_left
  ·grind
  have hg:=x_ hr;simp only[hr,aJ,aR,aE,aH]
  cases ht:gj r.1 2 4 with
  | false=>rfl
  | true=>
   simp only[aR,aE,aH];by_cases hl:(ps.length:Int) < r.2.2.1
   ·grind
   have zt:¬ r.2.2.1=12:=by omega
   simp only[hl,zt,aG,aE,aS]
   have key:∀ q:mz,gp q->r.2.2.1.toNat < q.length->(if 0<=r.2.2.1/\r.2.2.1 < (q.length:Int) then ((q[r.2.2.1.toNat]?).bind λLQ=>(q[r.2.2.1.toNat]?).bind λPi=>(lm.ab (Pi,r.2.2.2.1,())).bind λYN=>if 0<=r.2.2.1/\r.2.2.1 < (q.length:Int) then ((q[r.2.2.1.toNat]?).bind λaea=>some (((0:Int),([]:List cr),q.set r.2.2.1.toNat YN.1,()),())) else none) else none:Option gq.O)=some (((0:Int),([]:List cr),Jj q r,()),()):=λq hq a8=>by
    have hc:0<=r.2.2.1/\r.2.2.1 < (q.length:Int):=by omega
    simp only[hc,bS,aH,aB a8,aA];rw[LZ _ _ (hq.2 _ (aN a8)) hg.2.2.2.2.2.2.1 (λx hx=>by grind)];grind [Jj]
   by_cases he:r.2.2.1=(ps.length:Int)
   ·have Pb:ps.length+[ww].length<=ct:=dc (by grind);rw[aM he];simp only[he,aJ,aO,EZ,aA,Pb,aH];rw[<-he];refine key _ ⟨by simp;omega,λp hm=>?_⟩ (by simp;omega);rcases bO.1 hm with hm | hm
    ·exact hp.2 p hm
    grind [zG]
   grind
 have:=cz (B:=λself v=>gq.b0 self (λz=>gq.q0 (ps,r,()) z) (ps,r,()) v) ps (λ(s:Unit) (i:Int)=>i) (λ_ s x=>.inr s) (λs=>(match ut ps r with | .inl c=>((c,([]:List cr),([]:mz),()),()) | .inr ya=>(((0:Int),([]:List cr),ya,()),()))) (λi s=>True) (by grind [an])
  (λi hi s self hI=>by
   show gq.b0 _ _ _ _=_;unfold gq.b0;have a8:(i:Int) < (ps.length:Int):=by omega
   have hx:((ps[i].length:Nat):Int)=64:=by have:=hp.2 ps[i] (aN hi);omega
   grind)
  (λ_ _ _ _ _ _=>trivial) (λs self hI=>by
   grind [gq.b0]) () trivial k (by grind)
 rw[iv (g:=λs _=>s)] at this;exact this
def zZ (xs:List bk):mz×Int×Unit:=ci (λ_ ps r=>match ut ps r with | .inl c=>.inl (([]:mz),c,()) | .inr ya=>.inr ya) (λps=>(ps,(0:Int),())) 0 xs []
theorem KE (xs:List bk):(zZ xs).2.1=0->gp (zZ xs).1:=by
 have main:∀ (xs:List bk) (i:Nat) (ps:mz),gp ps->(ci (λ_ ps r=>match ut ps r with | .inl c=>.inl (([]:mz),c,()) | .inr ya=>.inr ya) (λps=>(ps,(0:Int),())) i xs ps).2.1=0->gp (ci (λ_ ps r=>match ut ps r with | .inl c=>.inl (([]:mz),c,()) | .inr ya=>.inr ya) (λps=>(ps,(0:Int),())) i xs ps).1:=by
  intro xs
  induction xs <;> grind [ci,MQ,E0]
 exact main xs 0 [] ⟨by simp,λ_ h=>by cases h⟩
theorem Rk (xs:List bk) (hx:xs.length<=maxLen):nM.ab (xs,())=some (zZ xs):=by
 refine ag (k:=xs.length+1) λk hk=>(nM.ae k _).trans ?_
 exact cz (B:=λself v=>nM.b0 self (λz=>nM.q0 (xs,()) z) (xs,()) v) xs (λ(s:mz) (i:Int)=>(s,i)) (λ_ ps r=>match ut ps r with | .inl c=>.inl (([]:mz),c,()) | .inr ya=>.inr ya) (λps=>(ps,(0:Int),())) (λ_ s=>gp s) hx
  (λi hi s self hI=>by
   grind [nM.b0,Int.toNat_natCast,NA,MQ])
  (λi hi s s' hI hs=>by
   grind [E0]) (λs self hI=>by
   show nM.b0 _ _ _ _=_;unfold nM.b0;simp only[aU,aG,aE]
   rfl) [] ⟨by simp,λ_ h=>by cases h⟩ k Bys
theorem Rl (xs:List bk) (hx:xs.length<=maxLen):qZ.ab (xs,())=some (zZ xs):=by
 refine ag (k:=xs.length+1) λk hk=>(qZ.ae k _).trans ?_
 exact cz (B:=λself v=>qZ.b0 self (λz=>qZ.q0 (xs,()) z) (xs,()) v) xs (λ(s:mz) (i:Int)=>(s,i)) (λ_ ps r=>match ut ps r with | .inl c=>.inl (([]:mz),c,()) | .inr ya=>.inr ya) (λps=>(ps,(0:Int),())) (λ_ s=>gp s) hx
  (λi hi s self hI=>by
   grind [qZ.b0,Int.toNat_natCast,KA,KD,ut])
  (λi hi s s' hI hs=>by
   grind [E0]) (λs self hI=>by
   show qZ.b0 _ _ _ _=_;unfold qZ.b0;simp only[aU,aG,aE]
   rfl) [] ⟨by simp,λ_ h=>by cases h⟩ k Bys
theorem Y7 (ps:mz) (h:gp ps):zz (.aa (.aa u8)) ps<=12*65:=by
 obtain ⟨h1,h2⟩:=h
 have main:∀ ps:mz,(∀ p ∈ ps,p.length=64)->zz (.aa (.aa u8)) ps=65*ps.length:=by
  intro ps
  induction ps <;> grind [zz,lT,As]
 grind
end OT
set_option linter.unusedSectionVars false
namespace OT
open Go
theorem It {V R:Type} {B:(V->Option R)->V->Option R} (f:V->Option R) (I:V->Prop) (μ:V->Nat)
  (h:∀ v,I v->∀ self,B self v=f v\/∃ v',B self v=self v'/\f v'=f v/\I v'/\μ v' < μ v):∀ (k:Nat) (v:V),I v->μ v < k->am B k v=f v
 | 0,v,_,hk=>by omega
 | k+1,v,hI,hk=>by
  show B (am B k) v=f v
  rcases h v hI (am B k) with h1 | ⟨v',h1,h2,h3,h4⟩
  ·exact h1
  ·rw[h1,It f I μ h k v' h3 Bys,h2]
def DB (out:List cr) (y:UInt8):List cr:=match out[out.length - 1]? with
 | some r=>out.set (out.length - 1) (r.1,r.2.1++[y],())
 | none=>out
theorem Pu (out:List cr) (j:Int) (bs:List UInt8) (y:UInt8):DB (out++[(j,bs,())]) y=out++[(j,bs++[y],())]:=by
 grind [DB]
def A7:Nat->List (UInt8×UInt8)->List cr->Bool->List cr
 | _,[],out,_=>out
 | i,(x,y)::l,out,op=>if x=y then A7 (i+1) l out false else A7 (i+1) l (DB (if op then out else out++[((i:Int),([]:List UInt8),())]) y) true
def E1 (a b:List UInt8):List cr:=A7 0 (a.zip b) [] false
theorem Jk (out:List cr) (y:UInt8):(DB out y).length=out.length:=by
 grind [DB]
theorem Pv {out:List cr} {y:UInt8} {n:Nat} (h:∀ r ∈ out,List.length r.2.1<=n):∀ r ∈ DB out y,List.length r.2.1<=n+1:=λr hr=>by
 grind [DB]
theorem GQ:∀ (l:List (UInt8×UInt8)) (i:Nat) (out:List cr) (op:Bool),out.length<=i->(∀ r ∈ out,List.length r.2.1<=i)->(A7 i l out op).length<=i+l.length/\∀ r ∈ A7 i l out op,List.length r.2.1<=i+l.length
 | [],i,out,op,h1,h2=>⟨h1,h2⟩
 | (x,y)::l,i,out,op,h1,h2=>by
  simp only[A7];have e:i+((x,y)::l).length=i+1+l.length:=by grind
  rw[e];split
  ·exact GQ l (i+1) out false Bys λr hr=>by grind
  ·refine GQ l (i+1) _ true ?_ ?_
   ·grind [Jk]
   ·refine Pv λr hr=>?_;grind
theorem Rm {a b:List UInt8} (h:a.length=64):(E1 a b).length<=64/\∀ r ∈ E1 a b,List.length r.2.1<=64:=by
 grind [GQ,E1]
def runN:List (UInt8×UInt8)->Nat
 | []=>0
 | (x,y)::l=>if x=y then 0 else runN l+1
theorem SV:∀ (l:List (UInt8×UInt8)) (i:Nat) (out:List cr) (j:Int) (bs:List UInt8),A7 i l (out++[(j,bs,())]) true=A7 (i+runN l+1) (l.drop (runN l+1)) (out++[(j,bs++(l.take (runN l)).map (·.2),())]) false
 | [],i,out,j,bs=>by simp[A7,runN]
 | (x,y)::l,i,out,j,bs=>by
  simp only[A7,runN];by_cases h:x=y
  ·simp[h]
  ·simp only[h,aS,aH];rw[Pu,SV l (i+1) out j (bs++[y])];grind
theorem Pw {x y:UInt8}:((x.toNat:Int)=(y.toNat:Int))↔x=y:=by
 constructor
 ·intro h;exact fI.1 Bys
 grind
theorem wy {a b:List UInt8} {i:Nat} (ha:i < a.length) (hb:i < b.length):(a.zip b).drop i=(a[i],b[i])::(a.zip b).drop (i+1):=by
 grind [List.drop_eq_getElem_cons]
section
variable {a b:List UInt8} (ha:a.length=64) (hb:b.length=64)
include ha hb
theorem Iu:pE.ab (a,b,())=some (E1 a b,()):=by
 refine ag (k:=100) λk hk=>(pE.ae k _).trans ?_
 have:=tq (B:=λself v=>pE.b0 self (pE.q0 (a,b,())) (a,b,()) v) (λv=>(A7 v.2.2.toNat ((a.zip b).drop v.2.2.toNat) v.1 v.2.1,()))
  (λv=>0<=v.2.2/\v.2.2<=64/\List.length v.1<=v.2.2.toNat/\(v.2.1=true->v.1≠[])/\∀ r ∈ v.1,List.length r.2.1<=v.2.2.toNat) (λv=>64 - v.2.2.toNat) (λv hv self=>by
   obtain ⟨out,op,n⟩:=v;obtain ⟨h0,h1,h2,h3,h4⟩:=hv;simp only at h0 h1 h2 h3 h4
   obtain ⟨i,rfl⟩:∃ i:Nat,n=(i:Int):=⟨n.toNat,by omega⟩
   simp only[aC] at h2 h4;unfold pE.b0;by_cases hi:i=64
   ·left;subst hi;have:¬ ((64:Nat):Int) < (a.length:Int):=by omega
    simp only[this,aG,aE,aC];rw[eU (by grind)];rfl
   ·right;have hia:i < a.length:=by omega
    have hib:i < b.length:=by omega
    have a8:(i:Int) < (a.length:Int):=by omega
    have hw:af ((i:Int)+1)=((i+1:Nat):Int):=by grind [be]
    simp only[a8,aJ,aO,aK,aH,aC,aB hia,aB hib,aA,hw,Pw];by_cases he:a[i]=b[i]
    ·refine ⟨(out,false,((i+1:Nat):Int)),by grind,?_,⟨aK _,by grind,by grind,(λe=>by cases e),λr hr=>by grind⟩,by grind⟩
     grind [wy,A7]
    ·have key:∀ (q:List cr),q≠[]->q.length<=i+1->(∀ r ∈ q,List.length r.2.1<=i)->(if 0<=af ((q.length:Int) - (1:Int))/\af ((q.length:Int) - (1:Int)) < (q.length:Int) then (q[(af ((q.length:Int) - (1:Int))).toNat]?).bind λCn=>(q[(af ((q.length:Int) - (1:Int))).toNat]?).bind λCo=>(q[(af ((q.length:Int) - (1:Int))).toNat]?).bind λGF=>if Co.2.1.length+[b[i]].length<=ct then ((q.set (af ((q.length:Int) - (1:Int))).toNat GF)[(af ((q.length:Int) - (1:Int))).toNat]?).bind λwu=>self ((q.set (af ((q.length:Int) - (1:Int))).toNat GF).set (af ((q.length:Int) - (1:Int))).toNat (wu.1,Co.2.1++[b[i]],wu.2.2),true,((i+1:Nat):Int)) else none else none)=self (DB q b[i],true,((i+1:Nat):Int)):=λq hq hl hr=>by
      have I2:0 < q.length:=List.length_pos_iff.2 hq;have xn:af ((q.length:Int) - 1)=((q.length - 1:Nat):Int):=by grind [be]
      have aeX:q.length - 1 < q.length:=by omega
      rw[xn,aM ⟨aK _,by omega⟩];grind [dc,DB,List.set_getElem_self]
     simp only[he,aG,aE];have hlen:out.length+[((i:Int),([]:List UInt8),())].length<=ct:=dc (by grind);refine ⟨(DB (if op then out else out++[((i:Int),([]:List UInt8),())]) b[i],true,((i+1:Nat):Int)),?_,?_,⟨aK _,by grind,?_,λ_ hn=>?_,?_⟩,by grind⟩
     ·cases op with
      | true=>
       simp only[aR,aE,aH];exact key out (h3 rfl) Bys h4
      | false=>
       simp only[bW,aO,aF,aS];rw[aM hlen];refine key _ (by simp) (by grind) λr hr=>?_;grind
     ·grind [Int.toNat_natCast,wy,A7]
     ·grind [Jk]
     ·grind [Jk]
     ·simp only[aC];refine Pv λr hr=>?_
      grind) k (([]:List cr),false,(0:Int)) ⟨gB _,by grind,aW _,(λe=>by cases e),λr hr=>by cases hr⟩ (by grind)
 exact this
theorem Rn:jw.ab (a,b,())=some (E1 a b,()):=by
 refine ag (k:=200) λk hk=>(jw.ae k _).trans ?_
 have:=tq (B:=λself v=>jw.B0 k self (jw.q1 (a,b,())) (a,b,()) v) (λv=>(A7 v.2.2.2.toNat ((a.zip b).drop v.2.2.2.toNat) v.2.2.1 false,()))
  (λv=>v.1=a/\v.2.1=b/\0<=v.2.2.2/\v.2.2.2<=65/\List.length v.2.2.1<=v.2.2.2.toNat) (λv=>65 - v.2.2.2.toNat) (λv hv self=>by
   obtain ⟨a',b',out,n⟩:=v;obtain ⟨rfl,rfl,h0,h1,h2⟩:=hv;simp only at h0 h1 h2 ha hb
   obtain ⟨i,rfl⟩:∃ i:Nat,n=(i:Int):=⟨n.toNat,by omega⟩
   simp only[aC] at h2;show jw.b0 _ _ _ _ _=_\/∃ v',jw.b0 _ _ _ _ _=_/\_;unfold jw.b0;by_cases hi:64<=i
   ·left;have:¬ (i:Int) < (64:Int):=by omega
    simp only[this,aG,aE,aC];rw[eU (by grind)];rfl
   ·right;have hia:i < a'.length:=by omega
    have hib:i < b'.length:=by omega
    have a8:(i:Int) < (64:Int):=by omega
    have hw:af ((i:Int)+1)=((i+1:Nat):Int):=by grind [be]
    simp only[a8,aJ,aO,aK,aH,aC,aB hia,aB hib,aA,hw,Pw];by_cases he:a'[i]=b'[i]
    ·refine ⟨(a',b',out,((i+1:Nat):Int)),by grind,?_,⟨rfl,rfl,by grind,by grind,by grind⟩,by grind⟩
     grind [wy,A7]
    ·simp only[he,aG,aE]
     obtain ⟨n,hn⟩:∃ n,n=runN ((a'.zip b').drop i):=⟨_,rfl⟩
     have hle:∀ l:List (UInt8×UInt8),runN l<=l.length:=λl=>by
      induction l <;> grind [runN]
     have Dw:i+n<=64:=by
      grind
     have gw:jw.r1 k self (jw.q1 (a',b',())) (a',b',()) a' b' out (i:Int) (i:Int)=jw.q0 self (jw.q1 (a',b',())) (a',b',()) a' b' out (i:Int) ((i+n:Nat):Int):=by
      have:=It (B:=λw v=>jw.b1 w (jw.q0 self (jw.q1 (a',b',())) (a',b',()) a' b' out (i:Int)) (a',b',()) a' b' out (i:Int) v) (λv=>jw.q0 self (jw.q1 (a',b',())) (a',b',()) a' b' out (i:Int) (v+(runN ((a'.zip b').drop v.toNat):Int)))
       (λv=>0<=v/\v<=64) (λv=>64 - v.toNat) (λv hv aeE=>by
        obtain ⟨g0,g1⟩:=hv
        obtain ⟨j,rfl⟩:∃ j:Nat,v=(j:Int):=⟨v.toNat,by omega⟩
        unfold jw.b1;by_cases hj:j=64
        ·grind
        ·have hja:j < a'.length:=by omega
         have hjb:j < b'.length:=by omega
         have a8:(j:Int) < (64:Int):=by omega
         have hw:af ((j:Int)+1)=((j+1:Nat):Int):=by grind [be]
         simp only[a8,aJ,aO,aK,aH,aC,aB hja,aB hjb,aA,hw,Pw];by_cases he2:a'[j]=b'[j]
         ·grind [wy,runN]
         grind [Int.toNat_natCast,wy,runN]) k (i:Int) ⟨by omega,by omega⟩ (by grind)
      refine this.trans ?_;grind
     have hn1:1<=n:=by
      grind [wy,runN]
     refine ⟨(a',b',out++[((i:Int),(b'.take (i+n)).drop i,())],((i+n+1:Nat):Int)),?_,?_,⟨rfl,rfl,by grind,by grind,by grind⟩,by grind⟩
     ·refine gw.trans ?_;unfold jw.q0;rw[aM ⟨by omega,by omega,by omega⟩];simp only[aC];grind [l9,dc,be]
     ·simp only[aC];rw[wy hia hib];simp only[A7,he,aS,aF]
      have Al:n=runN ((a'.zip b').drop (i+1))+1:=by
       grind [wy,runN]
      rw[Pu,SV];have e1:i+1+runN ((a'.zip b').drop (i+1))+1=i+n+1:=by omega
      have e2:((a'.zip b').drop (i+1)).drop (runN ((a'.zip b').drop (i+1))+1)=(a'.zip b').drop (i+n+1):=by grind [List.drop_drop]
      rw[e1,e2]
      grind [List.map_snd_zip,List.map_take,List.map_drop,List.drop_eq_getElem_cons]) k (a,b,([]:List cr),(0:Int)) ⟨rfl,rfl,by grind,by grind,aW _⟩ (by grind)
 exact this
end
end OT
namespace OT
open Go
def yU (c:UInt8):Bool:=!decide ((c.toNat:Int) < 97)&&!decide ((122:Int) < (c.toNat:Int))
def Bk (s:List UInt8):Bool:=s.all yU&&decide (s.length<=8)
def jb (x:Row):Int:=if gj x.1 0 3&&(gj x.2.1 1 99&&gj x.2.2.1 0 999) then (if Bk x.2.2.2.1 then 0 else 5) else 3
theorem len8 (s:List UInt8):decide ((s.length:Int)<=8)=decide (s.length<=8):=by
 by_cases h:s.length<=8
 ·have:(s.length:Int)<=8:=by omega
  simp[h,this]
 ·have:¬ (s.length:Int)<=8:=by omega
  simp[h,this]
theorem Rp (s:List UInt8) (h:s.length<=maxLen):mq.ab (s,())=some (Bk s,()):=by
 refine ag (k:=s.length+1) λk hk=>(mq.ae k _).trans ?_
 have:=cz (B:=λself v=>mq.b0 self (λz=>mq.q0 (s,()) z) (s,()) v) s (λ(_:Unit) (i:Int)=>i) (λ_ _ x=>if yU x then .inr () else .inl (false,())) (λ_=>(decide (s.length<=8),())) (λ_ _=>True) h
  (λi hi _ self _=>by
   show mq.b0 _ _ _ _=_;unfold mq.b0;have a8:(i:Int) < (s.length:Int):=by omega
   simp only[a8,aJ,aO,aK,aH,aC,aB hi,aA];unfold yU
   by_cases h1:((s[i].toNat:Int) < 97) <;> by_cases h2:((122:Int) < (s[i].toNat:Int)) <;> simp[h1,h2]) (λ_ _ _ _ _ _=>trivial) (λ_ self _=>by
   show mq.b0 _ _ _ _=_;unfold mq.b0
   simp[mq.q0,mq.q0,len8]) () trivial k Bys
 refine this.trans ?_;rw[tr yU (false,()) (λ_=>(decide (s.length<=8),()))];unfold Bk;cases s.all yU <;> rfl
theorem yV (x:Row) (h:List.length x.2.2.2.1<=maxLen):gn.ab (x,())=some (jb x,()):=by
 refine ag (k:=0) λk _=>(gn.ae k _).trans ?_;show gn.p _=_;unfold gn.p jb gj;simp only[mL,Rp _ h,aA];cases decide ((0:Int)<=x.1) <;> cases decide (x.1<=3) <;> cases decide ((1:Int)<=x.2.1) <;> cases decide (x.2.1<=99) <;> cases decide ((0:Int)<=x.2.2.1) <;> cases decide (x.2.2.1<=999) <;> cases Bk x.2.2.2.1 <;> rfl
theorem yW (x:Row) (h:List.length x.2.2.2.1<=maxLen):dp.ab (x,())=some (jb x,()):=by
 refine ag (k:=List.length x.2.2.2.1+1) λk hk=>(dp.ae k _).trans ?_
 have:=cz (B:=λself v=>dp.b0 self (λz=>dp.q0 (x,()) z) (x,()) v) x.2.2.2.1 (λ(_:Unit) (i:Int)=>i) (λ_ _ c=>if yU c then .inr () else .inl (5,())) (λ_=>(0,())) (λ_ _=>True) h
  (λi hi _ self _=>by
   show dp.b0 _ _ _ _=_;unfold dp.b0;have a8:(i:Int) < (List.length x.2.2.2.1:Int):=by omega
   simp only[a8,aJ,aO,aK,aH,aC,aB hi,aA];unfold yU
   by_cases h1:(((x.2.2.2.1)[i].toNat:Int) < 97) <;> by_cases h2:((122:Int) < ((x.2.2.2.1)[i].toNat:Int)) <;> simp[h1,h2]) (λ_ _ _ _ _ _=>trivial) (λ_ self _=>by
   show dp.b0 _ _ _ _=_;unfold dp.b0
   simp[dp.q0,dp.q0]) () trivial k Bys
 rw[tr yU (5,()) (λ_=>(0,()))] at this;have this:dp.r0 k (x,()) 0=_:=this;unfold dp.p jb gj Bk;simp only[sj,this,aA]
 have h8:decide ((8:Int) < (List.length x.2.2.2.1:Int))=!decide (List.length x.2.2.2.1<=8):=by
  by_cases hc:List.length x.2.2.2.1<=8
  ·have:¬ (8:Int) < (List.length x.2.2.2.1:Int):=by omega
   simp[hc,this]
  ·have:(8:Int) < (List.length x.2.2.2.1:Int):=by omega
   simp[hc,this]
 rw[h8];cases decide ((0:Int)<=x.1) <;> cases decide (x.1<=3) <;> cases decide ((1:Int)<=x.2.1) <;> cases decide (x.2.1<=99) <;> cases decide ((0:Int)<=x.2.2.1) <;> cases decide (x.2.2.1<=999) <;> cases decide (List.length x.2.2.2.1<=8) <;> cases (x.2.2.2.1).all yU <;> rfl
def rl (x:Row):Prop:=List.length x.2.2.2.1<=maxLen
def cl (c:Change):Prop:=rl c.2.1/\rl c.2.2.2.1
def sameKey (a b:Row):Bool:=decide (a.1=b.1)&&decide (a.2.1=b.2.1)
def jc (a b:Int×Int):Bool:=decide (a.1 < b.1)||(decide (a.1=b.1)&&decide (a.2 < b.2))
def nC (c:Change):Int:=if (!c.1&&!c.2.2.1)||(c.1&&c.2.2.1&&!sameKey c.2.1 c.2.2.2.1) then 1 else if c.1&&!decide (jb c.2.1=0) then jb c.2.1 else if c.2.2.1 then jb c.2.2.2.1 else 0
def FT (c:Change):Int:=if nC c=0 then (if c.1&&c.2.2.1&&Ty.eq aT c.2.1 c.2.2.2.1 then 1 else 0) else nC c
def ck (c:Change):Int×Int:=if c.2.2.1 then (c.2.2.2.1.1,c.2.2.2.1.2.1) else (c.2.1.1,c.2.1.2.1)
theorem NB (c:Change) (h:cl c):qh.ab (c,())=some (nC c,()):=by
 refine ag (k:=0) λk _=>(qh.ae k _).trans ?_;show qh.p _=_;unfold qh.p nC sameKey;simp only[yV _ h.1,yV _ h.2,aA];cases c.1 <;> cases c.2.2.1 <;> by_cases h1:c.2.1.1=c.2.2.2.1.1 <;> by_cases h2:c.2.1.2.1=c.2.2.2.1.2.1 <;> by_cases h3:jb c.2.1=0 <;> simp[h1,h2,h3]
theorem DC (a b:Row):jN.ab (a,b,())=some (jc (a.1,a.2.1) (b.1,b.2.1),()):=by
 refine ag (k:=0) λk _=>(jN.ae k _).trans ?_;show jN.p _=_;unfold jN.p jc;by_cases h1:a.1 < b.1 <;> by_cases h2:a.1=b.1 <;> simp[h1,h2]
theorem E2 (a b:Row):l6.ab (a,b,())=some (if jc (a.1,a.2.1) (b.1,b.2.1) then -1 else if jc (b.1,b.2.1) (a.1,a.2.1) then 1 else 0,()):=by
 refine ag (k:=0) λk _=>(l6.ae k _).trans ?_;show l6.p _=_;unfold l6.p;simp only[DC,aA];cases jc (a.1,a.2.1) (b.1,b.2.1) <;> cases jc (b.1,b.2.1) (a.1,a.2.1) <;> rfl
theorem KF (a b:Row):decide ((if jc (a.1,a.2.1) (b.1,b.2.1) then (-1:Int) else if jc (b.1,b.2.1) (a.1,a.2.1) then 1 else 0)=0)=sameKey a b:=by
 unfold jc sameKey;by_cases h1:a.1 < b.1
 ·have:¬ a.1=b.1:=by omega
  simp[h1,this]
 ·by_cases h2:a.1=b.1
  ·by_cases h3:a.2.1 < b.2.1
   ·have:¬ a.2.1=b.2.1:=by omega
    simp[h2,h3,this]
   ·by_cases h4:b.2.1 < a.2.1
    ·have:¬ a.2.1=b.2.1:=by omega
     simp[h2,h3,h4,this]
    ·have:a.2.1=b.2.1:=by omega
     simp[h2,this]
  ·have:b.1 < a.1:=by omega
   simp[h1,h2,this]
theorem AT (c:Change) (h:cl c):iW.ab (c,())=some (nC c,()):=by
 refine ag (k:=0) λk _=>(iW.ae k _).trans ?_;show iW.p _=_;unfold iW.p nC;simp only[yW _ h.1,yW _ h.2,E2,aA,KF];cases c.1 <;> cases c.2.2.1 <;> cases sameKey c.2.1 c.2.2.2.1 <;> by_cases h3:jb c.2.1=0 <;> simp[h3]
theorem L4 (c:Change) (h:cl c):qi.ab (c,())=some (FT c,()):=by
 refine ag (k:=0) λk _=>(qi.ae k _).trans ?_;show qi.p _=_;unfold qi.p FT;simp only[NB c h,aA];by_cases h1:nC c=0
 ·simp only[h1,aJ,aR,aE,aH];cases c.1 <;> cases c.2.2.1 <;> cases Ty.eq aT c.2.1 c.2.2.2.1 <;> rfl
 ·simp[h1]
theorem MS (c:Change) (h:cl c):kC.ab (c,())=some (FT c,()):=by
 refine ag (k:=0) λk _=>(kC.ae k _).trans ?_;show kC.p _=_;unfold kC.p FT;simp only[AT c h,aA];by_cases h1:nC c=0
 ·simp only[h1,aJ,aR,aE,aH];cases c.1 <;> cases c.2.2.1 <;> cases Ty.eq aT c.2.1 c.2.2.2.1 <;> rfl
 ·simp[h1]
theorem yX (c:Change):jA.ab (c,())=some ((ck c).1,(ck c).2,()):=by
 refine ag (k:=0) λk _=>(jA.ae k _).trans ?_;show jA.p _=_;unfold jA.p ck;cases c.2.2.1 <;> rfl
def Av (c:Change):Row:=if c.2.2.1 then c.2.2.2.1 else c.2.1
theorem yc (c:Change):((Av c).1,(Av c).2.1)=ck c:=by unfold Av ck;cases c.2.2.1 <;> rfl
theorem wT (c:Change):dq.ab (c,())=some (Av c,()):=by
 refine ag (k:=0) λk _=>(dq.ae k _).trans ?_;show dq.p _=_;unfold dq.p Av;cases c.2.2.1 <;> rfl
theorem KG {i:Nat} (hi:0 < i) (h:i<=maxLen):af ((i:Int) - 1)=((i - 1:Nat):Int):=by
 rw[an] at h;rw[be Bys];omega
theorem NV {x:Row} (h:ui aT x):rl x:=h.2.2.2.1
theorem adw {c:Change} (h:ui ao c):cl c:=⟨NV h.2.1,NV h.2.2.2.1⟩
end OT
namespace OT
open Go
theorem dj {V S O α:Type} {B:(V->Option O)->V->Option O} (xs:List α) (enc:S->Int->V) (f:Nat->S->α->Sum (Option O) S) (fin:S->Option O) (I:Nat->S->Prop) (Dy:xs.length<=maxLen)
  (gw:∀ (i:Nat) (hi:i < xs.length) (s:S) self,I i s->B self (enc s (i:Int))=match f i s xs[i] with | .inl o=>o | .inr s'=>self (enc s' (af ((i:Int)+1))))
  (hI:∀ (i:Nat) (hi:i < xs.length) (s s':S),I i s->f i s xs[i]=.inr s'->I (i+1) s')
  (pL:∀ (s:S) self,I xs.length s->B self (enc s (xs.length:Int))=fin s) (s:S) (h0:I 0 s):∀ k,xs.length < k->am B k (enc s 0)=ci f fin 0 xs s:=by
 have main:∀ (m i:Nat) (s:S),xs.length - i=m->i<=xs.length->I i s->∀ k,m < k->am B k (enc s (i:Int))=ci f fin i (xs.drop i) s:=by
  intro m
  induction m with
  | zero=>
   intro i s hm hi hs k hk;have sR:i=xs.length:=by omega
   subst sR;cases k <;> grind [am,ci]
  | succ m ih=>
   intro i s hm hi hs k hk;have a8:i < xs.length:=by omega
   cases k <;> grind [am,List.drop_eq_getElem_cons,ci,be,an]
 intro k hk
 simpa using main xs.length 0 s Bys Bys h0 k hk
theorem rK {O α:Type} (p:α->Bool) (a:O) (fin:Unit->O):∀ (xs:List α) (i:Nat),ci (λ_ _ x=>if p x then .inl a else .inr ()) fin i xs ()=if xs.any p then a else fin ()
 | [],_=>rfl
 | x::xs,i=>by
  simp only[ci,fZ];by_cases h:p x=true
  ·simp[h]
  ·simp[h,rK p a fin xs (i+1)]
def vD {α:Type} (p:α->Bool):Nat->List α->Int
 | _,[]=>-1
 | i,x::xs=>if p x then (i:Int) else vD p (i+1) xs
theorem Bl {α:Type} (p:α->Bool):∀ (xs:List α) (i:Nat),ci (λi _ x=>if p x then .inl ((i:Int),()) else .inr ()) (λ_=>((-1:Int),())) i xs ()=(vD p i xs,())
 | [],_=>rfl
 | x::xs,i=>by
  simp only[ci,vD];by_cases h:p x=true
  ·simp[h]
  ·simp[h,Bl p xs (i+1)]
theorem MT {α:Type} (p:α->Bool):∀ (xs:List α) (i:Nat),decide (0<=vD p i xs)=xs.any p
 | [],_=>rfl
 | x::xs,i=>by
  simp only[vD,fZ];by_cases h:p x=true
  ·simp[h]
  ·simp[h,MT p xs (i+1)]
theorem E3 {α:Type} (p:α->Bool):∀ (xs:List α) (i:Nat),0<=vD p i xs->∃ (j:Nat) (hj:j < xs.length),vD p i xs=((i+j:Nat):Int)/\p xs[j]=true
 | [],_,h=>by simp[vD] at h
 | x::xs,i,h=>by
  simp only[vD] at h ⊢;by_cases hp:p x=true
  ·exact ⟨0,by simp,by simp[hp],hp⟩
  ·rw[aV hp] at h ⊢;obtain ⟨j,hj,h1,h2⟩:=E3 p xs (i+1) h;exact ⟨j+1,by simp;omega,by rw[h1];omega,by simpa using h2⟩
theorem z6 (a b:Key):Ty.eq bc a b=decide (a=b):=by
 obtain ⟨a1,a2,⟨⟩⟩:=a;obtain ⟨b1,b2,⟨⟩⟩:=b;show (decide (a1=b1)&&(decide (a2=b2)&&true))=decide ((a1,a2,())=(b1,b2,()));grind
def oy (c:Change):Key:=((ck c).1,(ck c).2,())
def jO (ks:List Key) (k:Key):Bool:=ks.any λx=>decide (x=k)
theorem xL {ks:List Key} {k:Key}:jO ks k=true↔k ∈ ks:=by simp[jO]
def Bm (k:Key):Bool:=gj k.1 0 3&&gj k.2.1 1 99
theorem GS (c:Change):mY.ab (c,())=some (oy c,()):=by
 refine ag (k:=0) λk _=>(mY.ae k _).trans ?_;show mY.p _=_;unfold mY.p;simp only[yX,aA];rfl
theorem L5 (c:Change):iX.ab (c,())=some (oy c,()):=by
 refine ag (k:=0) λk _=>(iX.ae k _).trans ?_;grind [iX.p,oy,wT,yc]
theorem Rq (x:Key):tY.ab (x,())=some (Bm x,()):=by
 refine ag (k:=0) λk _=>(tY.ae k _).trans ?_;grind [tY.p,Bm,gj,mL]
theorem Y8 (x:Key):ve.ab (x.1,x.2.1,())=some (Bm x,()):=by
 refine ag (k:=0) λk _=>(ve.ae k _).trans ?_;grind [ve.p,Bm,gj,sj]
theorem Jl (x:Tx) (k0:Key) (h:List.length x.2.2.2.1<=maxLen):i9.ab (x,k0,())=some (jO x.2.2.2.1 k0,()):=by
 refine ag (k:=List.length x.2.2.2.1+1) λk hk=>(i9.ae k _).trans ?_
 have:=cz (B:=λself v=>i9.b0 self (λz=>i9.q0 (x,k0,()) z) (x,k0,()) v) x.2.2.2.1 (λ(_:Unit) (i:Int)=>i) (λ_ _ y=>if decide (y=k0) then .inl (true,()) else .inr ()) (λ_=>(false,())) (λ_ _=>True) h
  (λi hi s self _=>by
   grind [i9.b0,z6])
  (λ_ _ _ _ _ _=>trivial) (λs self _=>by
   show i9.b0 _ _ _ _=_;unfold i9.b0;simp only[aU,aG,aE]
   rfl) () trivial k Bys
 rw[rK] at this;refine aL this ?_;grind [jO]
theorem contains_eq (ks:List Key) (k0:Key) (h:ks.length<=maxLen):gf.ab (ks,k0,())=some (jO ks k0,()):=by
 have hix:kD.ab (ks,k0,())=some (vD (λy=>decide (k0=y)) 0 ks,()):=by
  refine ag (k:=ks.length+1) λk hk=>(kD.ae k _).trans ?_
  have:=cz (B:=λself v=>kD.b0 self (λz=>kD.q0 (ks,k0,()) z) (ks,k0,()) v) ks (λ(_:Unit) (i:Int)=>i) (λi _ y=>if decide (k0=y) then .inl ((i:Int),()) else .inr ()) (λ_=>((-1:Int),())) (λ_ _=>True) h
   (λi hi s self _=>by
    grind [kD.b0,z6])
   (λ_ _ _ _ _ _=>trivial) (λs self _=>by
    show kD.b0 _ _ _ _=_;unfold kD.b0;simp only[aU,aG,aE]
    rfl) () trivial k Bys
  rw[Bl] at this;exact this
 refine ag (k:=0) λk _=>(gf.ae k _).trans ?_;grind [gf.p,MT,jO]
def tl (x:Tx):Prop:=List.length x.2.1<=1048576/\List.length x.2.2.1<=1048576/\List.length x.2.2.2.1<=1048576/\∀ c ∈ x.2.1,cl c
def z7 (ks:List Key) (c:Change):Int:=if FT c=0 then (if jO ks (oy c) then 0 else 8) else FT c
def KH (n last:Int) (ms:List Int):Bool:=ci (λ_ last m=>if gj m last n then .inr m else .inl false) (λ_=>true) 0 ms last
def tL (ks:List Key) (i:Nat) (k:Key):Int:=if Bm k then (if jO (ks.take i) k then 6 else 0) else 3
def yY (ks:List Key):Int:=ci (λi (_:Unit) k=>if tL ks i k=0 then .inr () else .inl (tL ks i k)) (λ_=>(0:Int)) 0 ks ()
def vE (x:Tx):Int:=if decide (8 < List.length x.2.2.1)||decide (12 < List.length x.2.2.2.1) then 2 else if KH (List.length x.2.1:Int) 0 x.2.2.1 then yY x.2.2.2.1 else 3
def E4 (x:Tx):Int:=nI (z7 x.2.2.2.1) x.2.1
theorem Px (n:Int) (E:Option (Int×Unit)):∀ (ms:List Int) (i:Nat) (last:Int),ci (λ_ last m=>if gj m last n then .inr m else .inl (some ((3:Int),()))) (λ_=>E) i ms last=if ci (λ_ last m=>if gj m last n then .inr m else .inl false) (λ_=>true) i ms last then E else some ((3:Int),())
 | [],_,_=>rfl
 | m::ms,i,last=>by
  simp only[ci];by_cases hb:gj m last n=true
  ·simp only[hb,aH];exact Px n E ms _ _
  ·simp[hb]
theorem Rr (x:Tx) (h:tl x):mZ.ab (x,())=some (E4 x,()):=by
 obtain ⟨h1,h2,h3,h4⟩:=h;refine ag (k:=List.length x.2.1+1) λk hk=>(mZ.ae k _).trans ?_
 have:=cz (B:=λself v=>mZ.b0 self (λz=>mZ.q0 (x,()) z) (x,()) v) x.2.1 (λ(_:Unit) (i:Int)=>i) (λ_ _ c=>if z7 x.2.2.2.1 c=0 then .inr () else .inl (z7 x.2.2.2.1 c,())) (λ_=>(0,())) (λ_ _=>True) (by rw[an];omega)
  (λi hi s self _=>by
   show mZ.b0 _ _ _ _=_;unfold mZ.b0;have a8:(i:Int) < (List.length x.2.1:Int):=by omega
   simp only[a8,aJ,aO,aK,aH,aC,aB hi,aA,L4 _ (h4 _ (aN hi)),GS]
   grind [Jl,an,z7])
  (λ_ _ _ _ _ _=>trivial) (λs self _=>by
   show mZ.b0 _ _ _ _=_;unfold mZ.b0;simp only[aU,aG,aE]
   rfl) () trivial k Bys
 rw[Be (z7 x.2.2.2.1) (λc=>(c,())) (λ_=>((0:Int),()))] at this;refine aL this ?_;grind [E4]
theorem Y9 {m last n:Int} (h:0<=last):(gj m 0 n&&decide (last<=m))=gj m last n:=by
 grind [gj]
theorem Py (x:Tx) (h:tl x):dw.ab (x,())=some (vE x,()):=by
 obtain ⟨h1,h2,h3,h4⟩:=h;refine ag (k:=20) λk hk=>(dw.ae k _).trans ?_;unfold dw.p vE;by_cases hm:8 < List.length x.2.2.1
 ·grind
 have SW:¬ (8:Int) < (List.length x.2.2.1:Int):=by omega
 by_cases nB:12 < List.length x.2.2.2.1
 ·grind
 have Sx:¬ (12:Int) < (List.length x.2.2.2.1:Int):=by omega
 simp only[hm,SW,Sx,nB,aG,aE,gG,aF,aS]
 have second:dw.r1 k (x,()) (x,(0:Int))=some (yY x.2.2.2.1,()):=by
  have inner:∀ (self:(Tx×Int)->Option dw.O) (e2:Unit->Option dw.O) (i:Nat) (hi:i < List.length x.2.2.2.1),dw.r2 k self e2 (x,()) x (i:Int) (0:Int)=if jO (x.2.2.2.1.take i) (x.2.2.2.1)[i] then some ((6:Int),()) else self (x,af ((i:Int)+1)):=λself e2 i hi=>by
   have kY:(x.2.2.2.1.take i).length=i:=by simp;omega
   have:=dj (B:=λfx v=>dw.b2 fx (λz=>dw.q1 self e2 (x,()) x (i:Int) z) (x,()) x (i:Int) v) (x.2.2.2.1.take i) (λ(_:Unit) (j:Int)=>j) (λ_ _ y=>if decide (y=(x.2.2.2.1)[i]) then .inl (some ((6:Int),())) else .inr ()) (λ_=>self (x,af ((i:Int)+1))) (λ_ _=>True) (by rw[an];omega)
    (λj hj s fx _=>by
     grind [dw.b2,z6])
    (λ_ _ _ _ _ _=>trivial) (λs fx _=>by
     show dw.b2 _ _ _ _ _ _=_;unfold dw.b2;simp only[kY,aU,aG,aE]
     rfl) () trivial k Bys
   rw[rK] at this;exact this
  have:=cz (B:=λself v=>dw.B1 k self (λz=>dw.q2 (x,()) z) (x,()) v) x.2.2.2.1 (λ(_:Unit) (i:Int)=>(x,i)) (λi _ y=>if tL x.2.2.2.1 i y=0 then .inr () else .inl (tL x.2.2.2.1 i y,())) (λ_=>(0,())) (λ_ _=>True) (by rw[an];omega)
   (λi hi s self _=>by
    show dw.b1 _ _ _ _ _=_
    grind [dw.b1,tL,Int.toNat_natCast,Rq])
   (λ_ _ _ _ _ _=>trivial) (λs self _=>by
    show dw.b1 _ _ _ _ _=_;unfold dw.b1;simp only[aU,aG,aE]
    rfl) () trivial k Bys
  refine aL this ?_;unfold yY;generalize SX:x.2.2.2.1=ks
  have gen:∀ (f:Nat->Key->Int) (ys:List Key) (i:Nat),ci (λi (_:Unit) y=>if f i y=0 then .inr () else .inl (f i y,())) (λ_=>((0:Int),())) i ys ()=(ci (λi (_:Unit) y=>if f i y=0 then .inr () else .inl (f i y)) (λ_=>(0:Int)) i ys (),()):=by
   intro f ys
   induction ys <;> grind [ci]
  simp_all
 have:=dj (B:=λself v=>dw.b0 self (λz=>dw.Q0 k (x,()) z) (x,()) v) x.2.2.1 (λ(_:Int) (i:Int)=>i) (λi last m=>if gj m last (List.length x.2.1:Int) then .inr m else .inl (some ((3:Int),()))) (λ_=>some (yY x.2.2.2.1,()))
  (λi last=>0<=last/\(i=0->last=0)/\∀ y,0 < i->x.2.2.1[i - 1]?=some y->last=y) (by rw[an];omega)
  (λi hi last self hI=>by
   obtain ⟨i1,i2,i3⟩:=hI;show dw.b0 _ _ _ _=_;unfold dw.b0;have a8:(i:Int) < (List.length x.2.2.1:Int):=by omega
   simp only[a8,aJ,aO,aK,aH,aC,aB hi,aA,mL];generalize hmm:(x.2.2.1)[i]=m;rw[<-Y9 i1];show (bif !gj m 0 (List.length x.2.1:Int) then _ else _)=_
   cases Z4:gj m 0 (List.length x.2.1:Int) with
   | false=>rfl
   | true=>
    have hm0:0<=m:=by
     grind [gj]
    simp only[aR,aE,dT];by_cases h0:i=0
    ·grind
    ·have hi1:i - 1 < List.length x.2.2.1:=by omega
     have hl:=i3 (x.2.2.1)[i - 1] Bys (aB hi1);have hp:(0:Int) < (i:Int):=by omega
     simp only[hp,aJ,aO,KG (show 0 < i by omega) (by rw[an];omega),aK,aH,aC,aB hi1,aA]
     grind)
  (λi hi last aeF hI hs=>by
   grind [gj])
  (λlast self hI=>by
   show dw.b0 _ _ _ _=_;unfold dw.b0;simp only[aU,aG,aE]
   exact second) 0 ⟨gB _,λ_=>rfl,λ_ h=>by omega⟩ k Bys
 refine aL this ?_;unfold KH;rw[Px];grind
end OT
namespace OT
open Go
def pb (D:List UInt8) (i:Nat):Nat:=(D.getD i 0).toNat
theorem mA (D:List UInt8) (i:Nat):pb D i < 256:=iA _
theorem jF {D:List UInt8} {i:Nat} (h:i < D.length):D[i]?=some D[i]/\(D[i]).toNat=pb D i:=⟨aB h,by simp[pb,h]⟩
theorem rg (D:List UInt8) (i j:Nat) (v:UInt8):pb (D.set i v) j=if i=j/\i < D.length then v.toNat else pb D j:=by
 unfold pb;simp only[cI,eC];by_cases h:i=j
 ·subst h;by_cases h2:i < D.length
  ·simp[h2]
  ·simp[h2,eX (Nat.le_of_not_lt h2)]
 ·simp[h]
theorem L6 {D c:List UInt8} {a:Nat} (h:a+c.length<=D.length) (j:Nat):pb (o5 D a c.length c) j=if a<=j/\j < a+c.length then pb c (j - a) else pb D j:=by
 unfold pb;simp only[cI,OG D c h (aI _)];split <;> rfl
theorem Ct {A B:List UInt8} (h:A.length=B.length) (h2:∀ j,j < A.length->pb A j=pb B j):A=B:=by
 refine List.ext_getElem h λi h1 h3=>?_;have:=h2 i h1;rw[<-(jF h1).2,<- (jF h3).2] at this;exact fI.1 this
theorem ofNat_toNat {n:Nat} (h:n < 256):(UInt8.ofNat n).toNat=n:=by
 rw[fL];omega
theorem Y_ (D:List UInt8) (a n j:Nat) (h:j < n):pb ((D.drop a).take n) j=pb D (a+j):=by
 unfold pb;simp only[cI,bT,h,aH,bM]
def pn (p:List UInt8):Nat:=pb p 0
def et (p:List UInt8):Nat:=pb p 1
def pat (p:List UInt8) (i:Nat):Nat:=pb p (2+2*i)
def bg (p:List UInt8) (i:Nat):Nat:=pb p (3+2*i)
def yZ (p:List UInt8) (i:Nat):Bool:=if pat p i=0\/bg p i=0 then decide (pat p i=bg p i) else decide (et p<=pat p i)&&decide (pat p i+bg p i<=64)
def uI (p:List UInt8) (i k:Nat):Bool:=(decide (bg p i=0)||decide (bg p k=0))||(decide (pat p i+bg p i<=pat p k)||decide (pat p k+bg p k<=pat p i))
def y0 (p:List UInt8):Int:=
 if p.length=64 then
  if pn p<=16/\2+2*pn p<=et p/\et p<=64 then
   if (List.range (pn p)).all (yZ p) then
    if (List.range (pn p)).all (λi=>(List.range i).all (uI p i)) then
     if 0 < pn p/\bg p (pn p - 1)=0 then 8 else 0
    else 8
   else 3
  else 3
 else 1
structure ig (p:List UInt8):Prop where
 len:p.length=64
 n:pn p<=16
 lo:2+2*pn p<=et p
 hi:et p<=64
 slot:∀ i,i < pn p->bg p i≠0->et p<=pat p i/\pat p i+bg p i<=64
 zero:∀ i,i < pn p->bg p i=0->pat p i=0
 apart:∀ i k,i < pn p->k < pn p->i≠k->bg p i≠0->bg p k≠0->pat p i+bg p i<=pat p k\/pat p k+bg p k<=pat p i
 last:0 < pn p->bg p (pn p - 1)≠0
theorem GT {p:List UInt8} {i:Nat} (xl:2<=et p):yZ p i=true↔(bg p i≠0->et p<=pat p i/\pat p i+bg p i<=64)/\(bg p i=0->pat p i=0):=by
 unfold yZ;by_cases h1:bg p i=0
 ·simp[h1]
 ·by_cases h2:pat p i=0
  ·simp[h1,h2];omega
  ·simp[h1,h2]
theorem E5 {p:List UInt8} {i k:Nat}:uI p i k=true↔(bg p i≠0->bg p k≠0->pat p i+bg p i<=pat p k\/pat p k+bg p k<=pat p i):=by
 unfold uI;by_cases h1:bg p i=0
 ·simp[h1]
 ·by_cases h2:bg p k=0
  ·simp[h2]
  ·simp[h1,h2]
theorem uT {p:List UInt8}:y0 p=0↔ig p:=by
 constructor
 ·intro h;unfold y0 at h;split at h
  ·rename_i h1;split at h
   ·rename_i h2;split at h
    ·rename_i h3;split at h
     ·rename_i h4;split at h
      ·cases h
      ·rename_i h5;have hs:∀ i,i < pn p->(bg p i≠0->et p<=pat p i/\pat p i+bg p i<=64)/\(bg p i=0->pat p i=0):=λi hi=>(GT Bys).1 (bG.1 h3 i (cD.2 hi));have ha:∀ i k,i < pn p->k < i->bg p i≠0->bg p k≠0->pat p i+bg p i<=pat p k\/pat p k+bg p k<=pat p i:=λi k hi hk=>E5.1 (bG.1 (bG.1 h4 i (cD.2 hi)) k (cD.2 hk));refine ⟨h1,h2.1,h2.2.1,h2.2.2,λi hi=>(hs i hi).1,λi hi=>(hs i hi).2,λi k hi hk FU z1 z2=>?_,λhn hz=>h5 ⟨hn,hz⟩⟩
       rcases Nat.lt_or_gt_of_ne FU with h6 | h6
       ·exact (ha k i hk h6 z2 z1).symm
       ·exact ha i k hi h6 z1 z2
     ·cases h
    ·cases h
   ·cases h
  ·cases h
 ·intro h;unfold y0;rw[aM h.len,aM ⟨h.n,h.lo,h.hi⟩,aM,aM,aV]
  ·intro ⟨h1,h2⟩;exact h.last h1 h2
  ·refine bG.2 λi hi=>bG.2 λk hk=>E5.2 ?_;have:=cD.1 hi;have:=cD.1 hk;exact h.apart i k Bys Bys Bys
  ·exact bG.2 λi hi=>(GT (by have:=h.lo;omega)).2 ⟨h.slot i (cD.1 hi),h.zero i (cD.1 hi)⟩
def je (p:List UInt8) (i:Nat):List UInt8:=(p.drop (pat p i)).take (bg p i)
def cellOf (p:List UInt8) (i:Nat):List UInt8:=if i < pn p then je p i else []
theorem po {p:List UInt8} (h:ig p) {i:Nat} (hi:i < pn p):(je p i).length=bg p i:=by
 unfold je;by_cases hz:bg p i=0
 ·simp[hz]
 ·have:=h.slot i hi hz;have:=h.len;simp only[dQ,bX];omega
theorem E6 (p:List UInt8) (i j:Nat) (h:j < bg p i):pb (je p i) j=pb p (pat p i+j):=Y_ p _ _ j h
theorem Jm {p q:List UInt8} {i k:Nat} (hp:(je p i).length=bg p i) (hq:(je q k).length=bg q k) (hs:bg p i=bg q k) (hb:∀ j,j < bg p i->pb p (pat p i+j)=pb q (pat q k+j)):je p i=je q k:=by
 refine Ct Bys λj hj=>?_;rw[E6 p i j Bys,E6 q k j Bys];exact hb j Bys
theorem Za {p c:List UInt8} {i:Nat} (hp:(je p i).length=bg p i) (hs:bg p i=c.length) (hb:∀ j,j < c.length->pb p (pat p i+j)=pb c j):je p i=c:=by
 refine Ct Bys λj hj=>?_;rw[E6 p i j Bys];exact hb j Bys
def l7 (p:List UInt8) (s a:Nat) (c:List UInt8):List UInt8:=((o5 p a c.length c).set (2+2*s) (UInt8.ofNat a)).set (3+2*s) (UInt8.ofNat c.length)
theorem rh {p:List UInt8} (hp:p.length=64) (s:Nat) {a:Nat} {c:List UInt8} (h:a+c.length<=64):(l7 p s a c).length=64:=by
 unfold l7;rw[bB,bB,sc _ _ Bys (aI _),hp]
theorem xM {p:List UInt8} (hp:p.length=64) {s a:Nat} {c:List UInt8} (h:a+c.length<=64) (hs:s < 16) (j:Nat):pb (l7 p s a c) j=if j=3+2*s then c.length else if j=2+2*s then a else if a<=j/\j < a+c.length then pb c (j - a) else pb p j:=by
 unfold l7;have hl:(o5 p a c.length c).length=64:=by rw[sc _ _ Bys (aI _),hp]
 rw[rg,rg,L6 Bys,bB,hl];by_cases h1:j=3+2*s
 ·subst h1;rw[aM ⟨rfl,by omega⟩,aM rfl,ofNat_toNat Bys]
 ·rw[aV (λh=>h1 h.1.symm),aV h1];by_cases h2:j=2+2*s
  ·subst h2;rw[aM ⟨rfl,by omega⟩,aM rfl,ofNat_toNat Bys]
  ·rw[aV (λh=>h2 h.1.symm),aV h2]
structure xv (p q:List UInt8) (s a m:Nat):Prop where
 len:q.length=64
 n:pn q=pn p\/(pn q=pn p+1/\s=pn p)
 acq:s < pn q
 n16:pn q<=16
 lo:2+2*pn q<=et q
 lo2:et q<=et p
 at_:pat q s=a
 sz:bg q s=m
 pos:0 < m
 aei:et q<=a
 aej:a+m<=64
 Pz:∀ i,i < pn q->i≠s->pat q i=pat p i/\bg q i=bg p i
 free:∀ i,i < pn p->i≠s->bg p i≠0->a+m<=pat p i\/pat p i+bg p i<=a
 same:∀ j,et p<=j->j < 64->(j < a\/a+m<=j)->pb q j=pb p j
theorem xv.ok {p q:List UInt8} {s a m:Nat} (t:xv p q s a m) (h:ig p):ig q:=by
 have a8:∀ i,i < pn q->i≠s->i < pn p:=λi hi hs=>by rcases t.n with h1 | ⟨h1,h2⟩ <;> omega
 have ha:=t.at_;have hm:=t.sz;have I2:=t.pos;have xl:=t.aei;have Ii:=t.aej;have aeY:=t.lo2;have hh:=h.hi;refine ⟨t.len,t.n16,t.lo,by omega,λi hi hz=>?_,λi hi hz=>?_,λi k hi hk FU z1 z2=>?_,λhn=>?_⟩
 ·by_cases hs:i=s
  ·subst hs;omega
  ·obtain ⟨h1,h2⟩:=t.Pz i hi hs;have:=h.slot i (a8 i hi hs) Bys;omega
 ·by_cases hs:i=s
  ·subst hs;omega
  ·obtain ⟨h1,h2⟩:=t.Pz i hi hs;have:=h.zero i (a8 i hi hs) Bys;omega
 ·by_cases hs:i=s
  ·subst hs;have SX:k≠i:=λe=>FU e.symm;obtain ⟨h1,h2⟩:=t.Pz k hk SX;have:=t.free k (a8 k hk SX) SX Bys;omega
  ·obtain ⟨h1,h2⟩:=t.Pz i hi hs;by_cases CZ:k=s
   ·subst CZ;have:=t.free i (a8 i hi hs) hs Bys;omega
   ·obtain ⟨h3,h4⟩:=t.Pz k hk CZ;have:=h.apart i k (a8 i hi hs) (a8 k hk CZ) FU Bys Bys;omega
 ·by_cases hs:pn q - 1=s
  ·rw[hs];omega
  ·obtain ⟨h1,h2⟩:=t.Pz (pn q - 1) Bys hs
   have hq:pn q=pn p:=by
    rcases t.n with h3 | ⟨h3,h4⟩
    ·exact h3
    ·omega
   rw[h2,hq];exact h.last Bys
theorem xv.U1 {p q:List UInt8} {s a m:Nat} (t:xv p q s a m) (h:ig p) {i:Nat} (hi:i < pn q) (hs:i≠s):je q i=je p i:=by
 have C6:i < pn p:=by rcases t.n with h1 | ⟨h1,h2⟩ <;> omega
 obtain ⟨h1,h2⟩:=t.Pz i hi hs;refine Jm (po (t.ok h) hi) (po h C6) h2 λj hj=>?_;have hz:bg p i≠0:=by omega
 have h3:=h.slot i C6 hz;have h4:=t.free i C6 hs hz;rw[h1];exact t.same _ Bys Bys Bys
theorem xv.Xa {p q:List UInt8} {s a:Nat} {c:List UInt8} (t:xv p q s a c.length) (h:ig p) (hc:∀ j,j < c.length->pb q (a+j)=pb c j):je q s=c:=
 Za (po (t.ok h) t.acq) t.sz λj hj=>by rw[t.at_];exact hc j hj
theorem xv.cells {p q:List UInt8} {s a:Nat} {c:List UInt8} (t:xv p q s a c.length) (h:ig p) (hc:∀ j,j < c.length->pb q (a+j)=pb c j) (i:Nat):cellOf q i=if i=s then c else cellOf p i:=by
 have hs:=t.acq;unfold cellOf;by_cases uh:i=s
 ·subst uh;rw[aM hs,aM rfl,t.Xa h hc]
 ·rw[aV uh];by_cases hi:i < pn q
  ·have C6:i < pn p:=by rcases t.n with h1 | ⟨h1,h2⟩ <;> omega
   rw[aM hi,aM C6,t.U1 h hi uh]
  ·have C6:¬ i < pn p:=by rcases t.n with h1 | ⟨h1,h2⟩ <;> omega
   rw[aV hi,aV C6]
theorem qO {p:List UInt8} (h:ig p) {i:Nat} (hi:i < pn p):cellOf p i=[]↔bg p i=0:=by
 unfold cellOf;rw[aM hi];have:=po h hi;constructor
 ·intro e;rw[e] at this;simpa using this.symm
 ·intro e;rw[e] at this;exact bR this
end OT
namespace OT
open Go
def wz (p:List UInt8):Nat->Nat->Nat
 | 0,i=>i
 | m+1,i=>if bg p i=0 then i else wz p m (i+1)
def gc (p:List UInt8):Nat:=wz p (pn p) 0
theorem Iv (p:List UInt8):∀ (m i:Nat),i<=wz p m i/\wz p m i<=i+m/\(∀ j,i<=j->j < wz p m i->bg p j≠0)/\(wz p m i < i+m->bg p (wz p m i)=0)
 | 0,i=>by grind [wz]
 | m+1,i=>by
  simp only[wz];split
  ·grind
  ·rename_i h;obtain ⟨h1,h2,h3,h4⟩:=Iv p m (i+1);grind
theorem vQ (p:List UInt8):gc p<=pn p/\(∀ j,j < gc p->bg p j≠0)/\(gc p < pn p->bg p (gc p)=0):=by
 grind [Iv,gc]
def nc (p:List UInt8):Nat->Nat
 | 0=>0
 | m+1=>nc p m+bg p m
def sN (p:List UInt8):Int:=62 - 2*(pn p:Int) - (nc p (pn p):Int)
theorem sk (p:List UInt8) {a b:Nat} (h:a<=b):nc p a<=nc p b:=by
 induction b <;> grind [nc]
theorem MU {α:Type} {a b:α->Bool}:∀ {l:List α},(∀ x ∈ l,a x=true->b x=true->False)->l.countP (λx=>a x||b x)=l.countP a+l.countP b
 | [],_=>rfl
 | x::l,h=>by
  have ih:=MU (l:=l) λy hy=>h y (bD _ hy);grind
theorem E7 (a m:Nat):∀ N,(List.range N).countP (λj=>decide (a<=j/\j < a+m))=min N (a+m) - min N a
 | 0=>by simp
 | N+1=>by
  rw[gC,List.countP_append,E7 a m N];grind
def t8 (p:List UInt8):Nat->Nat->Bool
 | 0,_=>false
 | k+1,j=>t8 p k j||decide (pat p k<=j/\j < pat p k+bg p k)
theorem L7 {p:List UInt8}:∀ {k j:Nat},t8 p k j=true->∃ i,i < k/\pat p i<=j/\j < pat p i+bg p i
 | k+1,j,h=>by
  simp only[t8,cZ,bF] at h;rcases h with h | h
  ·obtain ⟨i,h1,h2⟩:=L7 h;grind
  grind
theorem KI {p:List UInt8} (h:ig p):∀ k,k<=pn p->(List.range 64).countP (t8 p k)=nc p k
 | 0,_=>by
  grind [t8,nc]
 | k+1,hk=>by
  have ih:=KI h k Bys;show (List.range 64).countP (λj=>t8 p k j||decide (pat p k<=j/\j < pat p k+bg p k))=nc p k+bg p k;rw[MU,ih,E7]
  ·by_cases hz:bg p k=0
   ·omega
   ·have:=h.slot k Bys hz;omega
  ·intro j _ h1 h2;obtain ⟨i,h3,h4⟩:=L7 h1;simp only[bF] at h2;have:=h.apart i k Bys Bys Bys Bys Bys;omega
theorem E8 {p:List UInt8} (h:ig p):nc p (pn p)+et p<=64:=by
 rw[<-KI h (pn p) (aI _)]
 have h1:(List.range 64).countP (t8 p (pn p))<=(List.range 64).countP (λj=>decide (et p<=j/\j < et p+(64 - et p))):=by
  refine List.countP_mono_left λj hj hc=>?_;obtain ⟨i,h3,h4,h5⟩:=L7 hc;have:=h.slot i h3 Bys;grind
 rw[E7] at h1;have:=h.hi;omega
theorem D5 {p:List UInt8} (h:ig p):0<=sN p/\sN p<=62:=by
 have:=E8 h;have:=h.lo;grind [sN]
def uu (p:List UInt8):Nat:=if gc p=pn p then 1 else 0
def r_ (p:List UInt8) (c:List UInt8):List UInt8:=((l7 p (gc p) (et p - c.length) c).set 0 (UInt8.ofNat (pn p+uu p))).set 1 (UInt8.ofNat (et p - c.length))
def mR (p:List UInt8) (c:List UInt8):Int:=
 if gc p=pn p/\16<=pn p then 2
 else if sN p < (c.length:Int)+2*(uu p:Int) then 9
 else if et p < 2+2*(pn p+uu p)+c.length then 8
 else 0
theorem acr {p c:List UInt8} (h:ig p) (hc:mR p c=0) (j:Nat):pb (r_ p c) j=if j=1 then et p - c.length else if j=0 then pn p+uu p else pb (l7 p (gc p) (et p - c.length) c) j:=by
 unfold mR at hc;split at hc
 ·cases hc
 ·split at hc
  ·cases hc
  ·split at hc
   ·cases hc
   ·have hl:(l7 p (gc p) (et p - c.length) c).length=64:=rh h.len _ (by have:=h.hi;omega);have Ii:=h.hi;grind [r_,rg,ofNat_toNat]
theorem U2 {p c:List UInt8} (h:ig p) (lY:1<=c.length) (hc:mR p c=0):xv p (r_ p c) (gc p) (et p - c.length) c.length/\∀ j,j < c.length->pb (r_ p c) (et p - c.length+j)=pb c j:=by
 have hb:=acr h hc;obtain ⟨e1,e2,e3⟩:=vQ p;unfold mR at hc;split at hc
 ·cases hc
 rename_i c1;split at hc
 ·cases hc
 split at hc
 ·cases hc
 rename_i c3;have Ii:=h.hi;have xl:=h.lo;have hn:=h.n;have hm:(gc p=pn p/\uu p=1)\/(gc p < pn p/\uu p=0):=by grind [uu]
 have hs:gc p < 16:=by omega
 have hlen:(r_ p c).length=64:=by
  unfold r_;rw[bB,bB,rh h.len _ Bys]
 have qz:∀ j,pb (l7 p (gc p) (et p - c.length) c) j=_:=xM h.len (a:=et p - c.length) (c:=c) Bys hs;have Iw:pn (r_ p c)=pn p+uu p:=by show pb _ 0=_;rw[hb];simp
 have i7:et (r_ p c)=et p - c.length:=by show pb _ 1=_;rw[hb];simp
 refine ⟨⟨hlen,by omega,by omega,by omega,by omega,by omega,?_,?_,by omega,by omega,by omega,λi hi uh=>?_,λi hi uh hz=>?_,λj j1 j2 j3=>?_⟩,λj hj=>?_⟩
 ·show pb _ _=_;grind
 ·show pb _ _=_;grind
 ·constructor
  ·show pb _ _=pb _ _;grind
  ·show pb _ _=pb _ _;grind
 ·have:=h.slot i hi hz;omega
 all_goals grind
theorem zH {p c:List UInt8} (h:ig p) (lY:1<=c.length) (hc:mR p c=0):ig (r_ p c)/\(∀ i,cellOf (r_ p c) i=if i=gc p then c else cellOf p i)/\cellOf p (gc p)=[]:=by
 obtain ⟨t,hb⟩:=U2 h lY hc;refine ⟨t.ok h,t.cells h hb,?_⟩
 grind [vQ,qO,cellOf]
def zI (p:List UInt8) (s:Nat) (c:List UInt8):List UInt8:=if c.length<=bg p s then l7 p s (pat p s+bg p s - c.length) c else (l7 p s (et p - c.length) c).set 1 (UInt8.ofNat (et p - c.length))
def sK (p:List UInt8) (s:Nat) (c:List UInt8):Int:=
 if c.length<=bg p s then 0
 else if sN p+(bg p s:Int) < (c.length:Int) then 9
 else if et p < 2+2*pn p+c.length then 8
 else 0
theorem U3 {p c:List UInt8} {s:Nat} (h:ig p) (hs:s < pn p) (hz:bg p s≠0) (lY:1<=c.length) (hc:sK p s c=0):∃ a,xv p (zI p s c) s a c.length/\∀ j,j < c.length->pb (zI p s c) (a+j)=pb c j:=by
 have Ii:=h.hi;have xl:=h.lo;have hn:=h.n;have mF:=h.slot s hs hz;unfold sK at hc;split at hc
 ·rename_i c1;unfold zI;rw[aM c1];have qz:∀ j,pb (l7 p s (pat p s+bg p s - c.length) c) j=_:=xM h.len (a:=pat p s+bg p s - c.length) (c:=c) Bys Bys
  have Iw:pn (l7 p s (pat p s+bg p s - c.length) c)=pn p:=by
   show pb _ 0=pb p 0;grind
  have i7:et (l7 p s (pat p s+bg p s - c.length) c)=et p:=by
   show pb _ 1=pb p 1;grind
  refine ⟨pat p s+bg p s - c.length,⟨rh h.len _ Bys,by omega,by omega,by omega,by omega,by omega,?_,?_,by omega,by omega,by omega,λi hi uh=>?_,λi hi uh Ak=>?_,λj j1 j2 j3=>?_⟩,λj hj=>?_⟩
  ·show pb _ _=_;grind
  ·show pb _ _=_;grind
  ·constructor
   ·show pb _ _=pb _ _;grind
   ·show pb _ _=pb _ _;grind
  ·have:=h.apart i s hi hs uh Ak hz;omega
  all_goals grind
 ·rename_i c1;split at hc
  ·cases hc
  split at hc
  ·cases hc
  rename_i c3;have hq:zI p s c=(l7 p s (et p - c.length) c).set 1 (UInt8.ofNat (et p - c.length)):=by grind [zI]
  rw[hq];have hl:(l7 p s (et p - c.length) c).length=64:=rh h.len _ Bys;have qz:∀ j,pb (l7 p s (et p - c.length) c) j=_:=xM h.len (a:=et p - c.length) (c:=c) Bys Bys
  have hb:∀ j,pb ((l7 p s (et p - c.length) c).set 1 (UInt8.ofNat (et p - c.length))) j=if j=1 then et p - c.length else pb (l7 p s (et p - c.length) c) j:=λj=>by
   grind [rg,ofNat_toNat]
  have Iw:pn ((l7 p s (et p - c.length) c).set 1 (UInt8.ofNat (et p - c.length)))=pn p:=by
   show pb _ 0=pb p 0;grind
  have i7:et ((l7 p s (et p - c.length) c).set 1 (UInt8.ofNat (et p - c.length)))=et p - c.length:=by
   show pb _ 1=_;grind
  refine ⟨et p - c.length,⟨by grind,by omega,by omega,by omega,by omega,by omega,?_,?_,by omega,by omega,by omega,λi hi uh=>?_,λi hi uh Ak=>?_,λj j1 j2 j3=>?_⟩,λj hj=>?_⟩
  ·show pb _ _=_;grind
  ·show pb _ _=_;grind
  ·constructor
   ·show pb _ _=pb _ _;grind
   ·show pb _ _=pb _ _;grind
  ·have:=h.slot i hi Ak;omega
  all_goals grind
theorem BC {p c:List UInt8} {s:Nat} (h:ig p) (hs:s < pn p) (hz:bg p s≠0) (lY:1<=c.length) (hc:sK p s c=0):ig (zI p s c)/\(∀ i,cellOf (zI p s c) i=if i=s then c else cellOf p i):=by
 obtain ⟨a,t,hb⟩:=U3 h hs hz lY hc;exact ⟨t.ok h,t.cells h hb⟩
def vg (q:List UInt8):Nat->Nat
 | 0=>0
 | m+1=>if bg q m=0 then vg q m else m+1
def tM (p:List UInt8) (s:Nat):List UInt8:=(p.set (2+2*s) 0).set (3+2*s) 0
def sa (p:List UInt8) (s:Nat):List UInt8:=(tM p s).set 0 (UInt8.ofNat (vg (tM p s) (pn p)))
theorem E9 (q:List UInt8):∀ m,vg q m<=m/\(∀ i,vg q m<=i->i < m->bg q i=0)/\(0 < vg q m->bg q (vg q m - 1)≠0)
 | 0=>by grind [vg]
 | m+1=>by
  simp only[vg];obtain ⟨h1,h2,h3⟩:=E9 q m;grind
theorem Jn {p:List UInt8} {s:Nat} (h:ig p) (hs:s < pn p):ig (sa p s)/\(∀ i,cellOf (sa p s) i=if i=s then [] else cellOf p i):=by
 have Ii:=h.hi;have xl:=h.lo;have hn:=h.n;have hlen:=h.len
 have Z4:∀ j,pb (tM p s) j=if j=3+2*s\/j=2+2*s then 0 else pb p j:=λj=>by
  grind [tM,rg]
 have hl0:(tM p s).length=64:=by grind [tM]
 obtain ⟨t1,t2,t3⟩:=E9 (tM p s) (pn p)
 have hb:∀ j,pb (sa p s) j=if j=0 then vg (tM p s) (pn p) else if j=3+2*s\/j=2+2*s then 0 else pb p j:=λj=>by
  grind [sa,rg,ofNat_toNat]
 have Iw:pn (sa p s)=vg (tM p s) (pn p):=by show pb _ 0=_;grind
 have i7:et (sa p s)=et p:=by show pb _ 1=pb p 1;grind
 have hz0:∀ i,bg (sa p s) i=bg (tM p s) i:=λi=>by
  show pb _ _=pb _ _;grind
 have hzs:bg (sa p s) s=0/\pat (sa p s) s=0:=by
  constructor
  ·show pb _ _=_;grind
  ·show pb _ _=_;grind
 have Xb:∀ i,i≠s->bg (sa p s) i=bg p i/\pat (sa p s) i=pat p i:=λi hi=>by
  constructor
  ·show pb _ _=pb _ _;grind
  ·show pb _ _=pb _ _;grind
 have bd:ig (sa p s):=by
  refine ⟨by grind [sa],by omega,by omega,by omega,λi hi hz=>?_,λi hi hz=>?_,λi k hi hk FU z1 z2=>?_,λhn=>?_⟩
  ·by_cases uh:i=s
   ·grind
   ·obtain ⟨g1,g2⟩:=Xb i uh;have:=h.slot i Bys Bys;omega
  ·by_cases uh:i=s
   ·grind
   ·obtain ⟨g1,g2⟩:=Xb i uh;have:=h.zero i Bys Bys;omega
  ·have uh:i≠s:=λe=>by grind
   have SX:k≠s:=λe=>by grind
   obtain ⟨g1,g2⟩:=Xb i uh;obtain ⟨g3,g4⟩:=Xb k SX;have:=h.apart i k Bys Bys FU Bys Bys;omega
  grind
 refine ⟨bd,λi=>?_⟩
 by_cases uh:i=s
 ·grind [qO,cellOf]
 ·rw[aV uh];obtain ⟨g1,g2⟩:=Xb i uh;by_cases hi:i < pn (sa p s)
  ·have C6:i < pn p:=by omega
   unfold cellOf;rw[aM hi,aM C6];refine Jm (po bd hi) (po h C6) g1 λj hj=>?_;have:=h.slot i C6 Bys;grind
  grind [cellOf,qO]
def Bn (p:List UInt8) (s:List UInt8×Nat) (i:Nat):List UInt8×Nat:=if bg p i=0 then s else (l7 s.1 i (s.2 - bg p i) (je p i),s.2 - bg p i)
def z8 (p:List UInt8):List UInt8:=p.take (2+2*pn p)++List.replicate (62 - 2*pn p) (0:UInt8)
def jG (p:List UInt8) (k:Nat):List UInt8×Nat:=(List.range k).foldl (Bn p) (z8 p,64)
def mS (p:List UInt8):List UInt8:=(jG p (pn p)).1.set 1 (UInt8.ofNat (jG p (pn p)).2)
theorem E_ (p:List UInt8) (k:Nat):jG p (k+1)=Bn p (jG p k) k:=by
 grind [jG,List.range_succ]
structure adx (p:List UInt8) (k:Nat) (o:List UInt8) (a:Nat):Prop where
 len:o.length=64
 n:pb o 0=pn p
 a:a=64 - nc p k
 sz:∀ i,i < pn p->bg o i=bg p i
 old:∀ i,i < pn p->(k<=i\/bg p i=0)->pat o i=pat p i
 new:∀ i,i < k->bg p i≠0->pat o i=64 - nc p (i+1)/\∀ j,j < bg p i->pb o (64 - nc p (i+1)+j)=pb p (pat p i+j)
theorem Fc {p:List UInt8} (h:ig p):∀ k,k<=pn p->adx p k (jG p k).1 (jG p k).2
 | 0,_=>by
  have hn:=h.n;have hlen:=h.len;have hl:(z8 p).length=64:=by grind [z8]
  have hb:∀ j,j < 2+2*pn p->pb (z8 p) j=pb p j:=λj hj=>by
   grind [pb,z8]
  refine ⟨hl,hb 0 Bys,by simp only[nc];rfl,λi hi=>?_,λi hi _=>?_,λi hi=>by omega⟩
  ·exact hb _ Bys
  ·exact hb _ Bys
 | k+1,hk=>by
  have ih:=Fc h k Bys;rw[E_];unfold Bn;have Bc:=E8 h;have ady:=sk p (show k+1<=pn p from hk);have xl:=h.lo;have hn:=h.n;simp only[nc] at ady;by_cases hz:bg p k=0
  ·rw[aM hz];refine ⟨ih.len,ih.n,?_,ih.sz,λi hi ho=>ih.old i hi (by grind),λi hi Ix=>?_⟩
   ·rw[ih.a];grind [nc]
   ·have:i≠k:=λe=>by grind
    exact ih.new i Bys Ix
  ·rw[aV hz];have xm:(je p k).length=bg p k:=po h Bys;have ha:=ih.a;have B_:(jG p k).2 - bg p k+(je p k).length<=64:=by omega
   have qz:∀ j,pb (l7 (jG p k).1 k ((jG p k).2 - bg p k) (je p k)) j=_:=xM ih.len (a:=(jG p k).2 - bg p k) (c:=je p k) B_ Bys;refine ⟨rh ih.len _ B_,?_,by grind [nc],λi hi=>?_,λi hi ho=>?_,λi hi Ix=>?_⟩
   ·rw[qz,aV Bys,aV Bys,aV Bys];exact ih.n
   ·show pb _ _=_;rw[qz];by_cases FU:i=k
    ·grind
    ·rw[aV Bys,aV Bys,aV Bys];exact ih.sz i hi
   ·have FU:i≠k:=λe=>by grind
    show pb _ _=_;rw[qz,aV Bys,aV Bys,aV Bys];exact ih.old i hi (by grind)
   ·by_cases FU:i=k
    ·subst FU;constructor
     ·show pb _ _=_;grind [nc]
     grind [nc,E6]
    ·have hm2:=sk p (show i+1<=k by omega);have hm3:=sk p (show i+1<=pn p by omega);obtain ⟨g1,g2⟩:=ih.new i Bys Ix;constructor
     ·show pb _ _=_;rw[qz,aV Bys,aV Bys,aV Bys];exact g1
     grind
theorem t_ {p:List UInt8} (h:ig p):ig (mS p)/\(∀ i,cellOf (mS p) i=cellOf p i)/\pn (mS p)=pn p:=by
 have I:=Fc h (pn p) (aI _);have Bc:=E8 h;have xl:=h.lo;have hn:=h.n;have ha:=I.a
 have hb:∀ j,pb (mS p) j=if j=1 then (jG p (pn p)).2 else pb (jG p (pn p)).1 j:=λj=>by
  unfold mS;rw[rg,I.len,ofNat_toNat Bys];grind
 have Iw:pn (mS p)=pn p:=by show pb _ 0=_;rw[hb,aV Bys];exact I.n
 have i7:et (mS p)=64 - nc p (pn p):=by show pb _ 1=_;grind
 have hz:∀ i,i < pn p->bg (mS p) i=bg p i:=λi hi=>by show pb _ _=_;rw[hb,aV Bys];exact I.sz i hi
 have jt:∀ i,i < pn p->bg p i≠0->pat (mS p) i=64 - nc p (i+1):=λi hi Ix=>by show pb _ _=_;rw[hb,aV Bys];exact (I.new i hi Ix).1
 have bd:ig (mS p):=by
  refine ⟨by unfold mS;rw[bB];exact I.len,by omega,by omega,by omega,λi hi Ix=>?_,λi hi Ix=>?_,λi k hi hk FU z1 z2=>?_,λhn=>?_⟩
  ·have h1:=hz i Bys;have h2:=jt i Bys Bys;have h3:=sk p (show i+1<=pn p by omega);grind [nc]
  ·have h1:=hz i Bys;show pb _ _=_;rw[hb,aV Bys];exact (I.old i Bys (Or.inr Bys)).trans (h.zero i Bys Bys)
  ·have h1:=hz i Bys;have h2:=jt i Bys Bys;have h3:=hz k Bys;have h4:=jt k Bys Bys;have e1:nc p (i+1)=nc p i+bg p i:=rfl;have e2:nc p (k+1)=nc p k+bg p k:=rfl;have m1:=sk p (show i+1<=pn p by omega);have m2:=sk p (show k+1<=pn p by omega);rcases Nat.lt_or_gt_of_ne FU with h6 | h6
   ·have:=sk p (show i+1<=k from h6);omega
   ·have:=sk p (show k+1<=i from h6);omega
  ·rw[Iw,hz _ Bys];exact h.last Bys
 refine ⟨bd,λi=>?_,Iw⟩
 unfold cellOf;rw[Iw];by_cases hi:i < pn p
 ·rw[aM hi,aM hi];refine Jm (po bd Bys) (po h hi) (hz i hi) λj hj=>?_;have h1:=hz i hi;have Ix:bg p i≠0:=by omega
  rw[jt i hi Ix,hb,aV (by
   have:=sk p (show i+1<=pn p by omega)
   omega)]
  exact (I.new i hi Ix).2 j Bys
 grind
def vh:List UInt8:=((List.replicate 64 (0:UInt8)).set 0 0).set 1 64
theorem Fe:ig vh/\∀ i,cellOf vh i=[]:=by
 refine ⟨uT.1 (by decide +kernel),λi=>?_⟩
 unfold cellOf;rw[aV (by show ¬ i < 0;omega)]
end OT
namespace OT
open Go
theorem MV {i:Nat} (h:i < 1000):af ((3:Int)+af ((2:Int)*(i:Int)))=((3+2*i:Nat):Int):=by
 grind [be]
theorem D6 {i:Nat} (h:i < 1000):af ((2:Int)+af ((2:Int)*(i:Int)))=((2+2*i:Nat):Int):=by
 grind [be]
theorem Dd (p:List UInt8) (i:Nat):af ((pb p i:Nat):Int)=((pb p i:Nat):Int):=by
 grind [mA,be]
theorem fd {R:Type} {p:List UInt8} {i:Nat} (h:i < p.length) (K:UInt8->Option R):(p[i]?).bind K=K p[i]:=by grind
section
variable {p:List UInt8} (hp:p.length=64)
include hp
theorem nS:c_.ab (p,())=some ((pn p:Int),()):=by
 refine ag (k:=0) λk _=>(c_.ae k _).trans ?_;show c_.p _=_;unfold c_.p;simp only[fd (show 0 < p.length by omega),(jF (show 0 < p.length by omega)).2,Dd];rfl
theorem uU:fj.ab (p,())=some ((pn p:Int),()):=by
 refine ag (k:=0) λk _=>(fj.ae k _).trans ?_;show fj.p _=_;unfold fj.p;simp only[fd (show 0 < p.length by omega),(jF (show 0 < p.length by omega)).2,Dd];rfl
theorem HZ:kJ.ab (p,())=some ((et p:Int),()):=by
 refine ag (k:=0) λk _=>(kJ.ae k _).trans ?_;show kJ.p _=_;unfold kJ.p;simp only[fd (show 1 < p.length by omega),(jF (show 1 < p.length by omega)).2,Dd];rfl
theorem qG {i:Nat} (hi:i < 16):cn.ab (p,(i:Int),())=some ((bg p i:Int),()):=by
 refine ag (k:=0) λk _=>(cn.ae k _).trans ?_;show cn.p _=_;unfold cn.p;simp only[MV (show i < 1000 by omega),aK,aH,aC,fd (show 3+2*i < p.length by omega),(jF (show 3+2*i < p.length by omega)).2,Dd];rfl
theorem Aw {i:Nat} (hi:i < 16):iq.ab (p,(i:Int),())=some ((pat p i:Int),()):=by
 refine ag (k:=0) λk _=>(iq.ae k _).trans ?_;show iq.p _=_;unfold iq.p;simp only[D6 (show i < 1000 by omega),aK,aH,aC,fd (show 2+2*i < p.length by omega),(jF (show 2+2*i < p.length by omega)).2,Dd];rfl
theorem Cu {i:Nat} (hi:i < 16):lW.ab (p,(i:Int),())=some ((pat p i:Int),(bg p i:Int),()):=by
 refine ag (k:=0) λk _=>(lW.ae k _).trans ?_;show lW.p _=_;unfold lW.p;simp only[D6 (show i < 1000 by omega),MV (show i < 1000 by omega),aK,aH,aC,fd (show 2+2*i < p.length by omega),(jF (show 2+2*i < p.length by omega)).2,fd (show 3+2*i < p.length by omega),(jF (show 3+2*i < p.length by omega)).2,Dd];rfl
theorem Zb {i:Nat} (hi:i < 16):tX.ab (p,(i:Int),())=some (yZ p i,()):=by
 refine ag (k:=0) λk _=>(tX.ae k _).trans ?_;grind [tX.p,yZ,mA,pat,bg,be,Aw,qG,HZ,decide]
theorem Xc {i j:Nat} (hi:i < 16) (hj:j < 16):qV.ab (p,(i:Int),(j:Int),())=some (uI p i j,()):=by
 refine ag (k:=0) λk _=>(qV.ae k _).trans ?_;show qV.p _=_;unfold qV.p uI;have h1:pat p i < 256:=mA p _;have h2:bg p i < 256:=mA p _;have h3:pat p j < 256:=mA p _;have h4:bg p j < 256:=mA p _;have hw:af ((pat p i:Int)+(bg p i:Int))=((pat p i+bg p i:Nat):Int):=by grind [be]
 have An:af ((pat p j:Int)+(bg p j:Int))=((pat p j+bg p j:Nat):Int):=by grind [be]
 simp only[Aw hp hi,qG hp hi,Aw hp hj,qG hp hj,aA,hw,An];grind [decide]
end
theorem vR {O:Type} (q:Nat->Bool) (bad e:O):∀ (xs:List Nat) (i:Nat),ci (λ_ (_:Unit) x=>if q x then .inr () else .inl bad) (λ_=>e) i xs ()=if xs.all q then e else bad:=λxs i=>tr q bad (λ_=>e) xs i
theorem Rs (p:List UInt8) (hl:p.length<=maxLen):df.ab (p,())=some (y0 p,()):=by
 refine ag (k:=100) λk hk=>(df.ae k _).trans ?_;unfold df.p y0;have e0:decide ((p.length:Int)=64)=decide (p.length=64):=by grind
 rw[e0];by_cases hp:p.length=64;rotate_left
 ·grind
 have hn:pn p < 256:=mA p 0;have xl:et p < 256:=mA p 1;have hw:af ((2:Int)+af ((2:Int)*(pn p:Int)))=((2+2*pn p:Nat):Int):=D6 Bys;simp only[hp,aJ,aR,aE,nS hp,HZ hp,aA,hw,aH];by_cases c1:pn p<=16;rotate_left
 ·grind
 have n1:¬ ((16:Int) < (pn p:Int)):=by omega
 simp only[n1,aG,aE,c1,dN];by_cases c2:2+2*pn p<=et p;rotate_left
 ·grind
 have n2:¬ ((et p:Int) < ((2+2*pn p:Nat):Int)):=by omega
 simp only[n2,aG,aE,c2,dN];by_cases c3:et p<=64;rotate_left
 ·grind
 have n3:¬ ((64:Int) < (et p:Int)):=by omega
 simp only[n3,aG,aE,c3,aH]
 have inner:∀ (self:((List UInt8)×Int×Int)->Option df.O) (e2:((List UInt8)×Int)->Option df.O) (i:Nat) (hi:i < pn p),df.r2 k self e2 (p,()) p (pn p:Int) (i:Int) (0:Int)=if (List.range i).all (uI p i) then self (p,(pn p:Int),af ((i:Int)+1)) else some ((8:Int),()):=λself e2 i hi=>by
  have:=dj (B:=λfx v=>df.b2 fx (λz=>df.q1 self e2 (p,()) p (pn p:Int) (i:Int) z) (p,()) p (pn p:Int) (i:Int) v) (List.range i) (λ(_:Unit) (j:Int)=>j) (λ_ _ x=>if uI p i x then .inr () else .inl (some ((8:Int),()))) (λ_=>self (p,(pn p:Int),af ((i:Int)+1))) (λ_ _=>True) (by grind)
   (λj hj s fx _=>by
    grind [df.b2,Xc])
   (λ_ _ _ _ _ _=>trivial) (λs fx _=>by
    rw[cW];show df.b2 _ _ _ _ _ _ _=_;unfold df.b2;simp only[aU,aG,aE]
    rfl) () trivial k (by grind)
  rw[vR] at this;exact this
 have outer:df.r1 k (p,()) (pn p:Int) (p,(pn p:Int),(0:Int))=if (List.range (pn p)).all (λi=>(List.range i).all (uI p i)) then df.q2 (p,()) (p,(pn p:Int)) else some ((8:Int),()):=by
  have:=dj (B:=λself v=>df.B1 k self (λz=>df.q2 (p,()) z) (p,()) v) (List.range (pn p)) (λ(_:Unit) (i:Int)=>(p,(pn p:Int),i)) (λ_ _ x=>if (List.range x).all (uI p x) then .inr () else .inl (some ((8:Int),()))) (λ_=>df.q2 (p,()) (p,(pn p:Int))) (λ_ _=>True) (by grind)
   (λi hi s self _=>by
    rw[cW] at hi;show df.b1 _ _ _ _ _=_
    grind [df.b1])
   (λ_ _ _ _ _ _=>trivial) (λs self _=>by
    rw[cW];show df.b1 _ _ _ _ _=_
    grind [df.b1]) () trivial k (by grind)
  rw[vR] at this;exact this
 have first:df.r0 k (p,()) (pn p:Int) (0:Int)=if (List.range (pn p)).all (yZ p) then df.r1 k (p,()) (pn p:Int) (p,(pn p:Int),(0:Int)) else some ((3:Int),()):=by
  have:=dj (B:=λself v=>df.b0 self (λz=>df.Q0 k (p,()) (pn p:Int) z) (p,()) (pn p:Int) v) (List.range (pn p)) (λ(_:Unit) (i:Int)=>i) (λ_ _ x=>if yZ p x then .inr () else .inl (some ((3:Int),()))) (λ_=>df.r1 k (p,()) (pn p:Int) (p,(pn p:Int),(0:Int))) (λ_ _=>True) (by grind)
   (λi hi s self _=>by
    grind [df.b0,Zb])
   (λ_ _ _ _ _ _=>trivial) (λs self _=>by
    rw[cW];show df.b0 _ _ _ _ _=_;unfold df.b0;simp only[aU,aG,aE]
    rfl) () trivial k (by grind)
  rw[vR] at this;exact this
 grind [df.q2,be,qG,bg]
theorem GU {S O:Type} (q:Nat->Bool) (g:Nat->S) (bad e:O):∀ (xs:List Nat) (i:Nat) (s:S),ci (λ_ s x=>if q x then .inl bad else .inr (g x)) (λ_=>e) i xs s=if xs.any q then bad else e
 | [],_,_=>rfl
 | x::xs,i,s=>by
  simp only[ci,fZ];by_cases h:q x=true
  ·simp[h]
  ·simp[h,GU q g bad e xs (i+1)]
def zJ (p:List UInt8) (i t:Nat):List Bool:=(List.range 64).map λj=>t8 p i j||decide (pat p i<=j/\j < pat p i+t)
def H6 (p:List UInt8) (i:Nat):Bool:=(List.range (bg p i)).any λt=>t8 p i (pat p i+t)
theorem Xd (p:List UInt8) (i:Nat):zJ p i 0=(List.range 64).map (t8 p i):=by
 grind [zJ,List.map_congr_left]
theorem Xe (p:List UInt8) (i:Nat):zJ p i (bg p i)=(List.range 64).map (t8 p (i+1)):=rfl
theorem Jo (p:List UInt8) (i t j:Nat) (h:j < 64):(zJ p i t)[j]?=some (t8 p i j||decide (pat p i<=j/\j < pat p i+t)):=by
 grind [zJ]
theorem Jp (p:List UInt8) (i t:Nat):(zJ p i t).length=64:=by simp[zJ]
theorem Xf (p:List UInt8) (i t:Nat) (h:pat p i+t < 64):(zJ p i t).set (pat p i+t) true=zJ p i (t+1):=by
 refine eB λj=>?_;rw[eC,Jp];by_cases hj:j < 64
 ·rw[Jo p i t j hj,Jo p i (t+1) j hj];by_cases e:pat p i+t=j
  ·subst e;grind
  ·rw[aV e];have:(pat p i<=j/\j < pat p i+t)↔(pat p i<=j/\j < pat p i+(t+1)):=by omega
   grind
 grind [Jp]
theorem PA {p:List UInt8}:∀ {k j:Nat},t8 p k j=true↔∃ i,i < k/\pat p i<=j/\j < pat p i+bg p i
 | 0,j=>by simp[t8]
 | k+1,j=>by
  simp only[t8,cZ,bF,PA (k:=k)];grind
theorem U4 (p:List UInt8) (i:Nat):H6 p i=!(List.range i).all (uI p i):=by
 rw[fH];simp only[H6,dY,cD,PA,cC,List.all_eq_false,Bool.not_eq_true];constructor
 ·rintro ⟨t,ht,k,hk,h1,h2⟩;refine ⟨k,hk,?_⟩
  grind [uI]
 ·rintro ⟨k,hk,h⟩;have hn:¬ (bg p i≠0->bg p k≠0->pat p i+bg p i<=pat p k\/pat p k+bg p k<=pat p i):=λh2=>by rw[E5.2 h2] at h;cases h
  by_cases c1:bg p i=0
  ·grind
  ·by_cases c2:bg p k=0
   ·grind
   ·have c3:¬ (pat p i+bg p i<=pat p k):=λh3=>hn λ_ _=>.inl h3;have c4:¬ (pat p k+bg p k<=pat p i):=λh3=>hn λ_ _=>.inr h3;exact ⟨max (pat p i) (pat p k) - pat p i,by omega,k,hk,by omega,by omega⟩
theorem Zc (p:List UInt8) (n:Nat):(List.range n).any (H6 p)=!(List.range n).all (λi=>(List.range i).all (uI p i)):=by
 grind [U4]
theorem z_ (p:List UInt8) (hl:p.length<=maxLen):bj.ab (p,())=some (y0 p,()):=by
 refine ag (k:=300) λk hk=>(bj.ae k _).trans ?_;unfold bj.p y0;have e0:decide ((p.length:Int)=64)=decide (p.length=64):=by grind
 rw[e0];by_cases hp:p.length=64;rotate_left
 ·grind
 have hn:pn p < 256:=mA p 0;have xl:et p < 256:=mA p 1;have hw:af ((2:Int)+af ((2:Int)*(pn p:Int)))=((2+2*pn p:Nat):Int):=D6 Bys;have hb1:((p[1]'Bys).toNat)=et p:=(jF (show 1 < p.length by omega)).2;have hwl:af (et p:Int)=(et p:Int):=Dd p 1;simp only[hp,aJ,aR,aE,fd (show 1 < p.length by omega),hb1,hwl,uU hp,aA,hw,aH];by_cases c1:pn p<=16;rotate_left
 ·grind
 have n1:¬ ((16:Int) < (pn p:Int)):=by omega
 simp only[n1,aG,aE,c1,dN];by_cases c2:2+2*pn p<=et p;rotate_left
 ·grind
 have n2:¬ ((et p:Int) < ((2+2*pn p:Nat):Int)):=by omega
 simp only[n2,aG,aE,c2,dN];by_cases c3:et p<=64;rotate_left
 ·grind
 have n3:¬ ((64:Int) < (et p:Int)):=by omega
 simp only[n3,aG,aE,c3,aH]
 have first:bj.r0 k (p,()) (pn p:Int) (et p:Int) (0:Int)=if (List.range (pn p)).all (yZ p) then bj.Q0 k (p,()) (pn p:Int) (et p:Int) () else some ((3:Int),()):=by
  have:=dj (B:=λself v=>bj.b0 self (λz=>bj.Q0 k (p,()) (pn p:Int) (et p:Int) z) (p,()) (pn p:Int) (et p:Int) v) (List.range (pn p)) (λ(_:Unit) (i:Int)=>i) (λ_ _ x=>if yZ p x then .inr () else .inl (some ((3:Int),()))) (λ_=>bj.Q0 k (p,()) (pn p:Int) (et p:Int) ()) (λ_ _=>True) (by grind)
   (λi hi s self _=>by
    rw[cW] at hi
    grind [bj.b0,pat,mA,bg,be,Cu,yZ])
   (λ_ _ _ _ _ _=>trivial) (λs self _=>by
    grind [bj.b0]) () trivial k (by grind)
  rw[vR] at this;exact this
 rw[first];by_cases mF:(List.range (pn p)).all (yZ p)=true;rotate_left
 ·grind
 simp only[mF,aH];have hs:∀ i,i < pn p->bg p i≠0->et p<=pat p i/\pat p i+bg p i<=64:=λi hi=>((GT Bys).1 (bG.1 mF i (cD.2 hi))).1
 have inner:∀ (self:((List UInt8)×Int×(List Bool)×Int×Int)->Option bj.O) (e2:((List UInt8)×Int)->Option bj.O) (i:Nat) (hi:i < pn p),bj.r2 k self e2 (p,()) p (pn p:Int) (pat p i:Int) (bg p i:Int) (pn p:Int) (i:Int) ((List.range 64).map (t8 p i),(pat p i:Int))=if H6 p i then some ((8:Int),()) else self (p,(pn p:Int),(List.range 64).map (t8 p (i+1)),(pn p:Int),af ((i:Int)+1)):=λself e2 i hi=>by
  have h1:pat p i < 256:=mA p _;have h2:bg p i < 256:=mA p _;have An:af ((pat p i:Int)+(bg p i:Int))=((pat p i+bg p i:Nat):Int):=by grind [be]
  have:=dj (B:=λfx v=>bj.b2 fx (λz=>bj.q1 self e2 (p,()) p (pn p:Int) (pat p i:Int) (bg p i:Int) (pn p:Int) (i:Int) z) (p,()) p (pn p:Int) (pat p i:Int) (bg p i:Int) (pn p:Int) (i:Int) v) (List.range (bg p i)) (λ(s:List Bool) (t:Int)=>(s,(pat p i:Int)+t)) (λ_ s t=>if t8 p i (pat p i+t) then .inl (some ((8:Int),())) else .inr (zJ p i (t+1))) (λ_=>self (p,(pn p:Int),(List.range 64).map (t8 p (i+1)),(pn p:Int),af ((i:Int)+1))) (λt s=>s=zJ p i t) (by grind)
   (λt ht s fx hI=>by
    rw[cW] at ht;subst hI;obtain ⟨g1,g2⟩:=hs i hi Bys;show bj.b2 _ _ _ _ _ _ _ _ _ _=_;unfold bj.b2;have a8:(pat p i:Int)+(t:Int) < ((pat p i+bg p i:Nat):Int):=by omega
    have Iy:(0:Int)<=(pat p i:Int)+(t:Int):=by omega
    have hlen:(pat p i:Int)+(t:Int) < ((zJ p i t).length:Int):=by rw[Jp];omega
    have htn:((pat p i:Int)+(t:Int)).toNat=pat p i+t:=by omega
    have ab0:¬ (pat p i<=pat p i+t/\pat p i+t < pat p i+t):=by omega
    have hwt:af ((pat p i:Int)+(t:Int)+1)=(pat p i:Int)+af ((t:Int)+1):=by grind [be]
    grind [Jo,Xf])
   (λt ht s s' hI hf=>by
    grind) (λs fx hI=>by
    rw[cW] at hI ⊢;show bj.b2 _ _ _ _ _ _ _ _ _ _=_;unfold bj.b2;have a8:¬ ((pat p i:Int)+(bg p i:Int) < ((pat p i+bg p i:Nat):Int)):=by omega
    simp only[An,a8,aG,aE];rw[hI,Xe]
    rfl) (zJ p i 0) rfl k (by grind)
  rw[GU] at this;rw[<-Xd];simp only[Int.add_zero] at this;exact this
 have outer:bj.r1 k (p,()) (pn p:Int) (et p:Int) (p,(pn p:Int),List.replicate 64 false,(pn p:Int),(0:Int))=if (List.range (pn p)).any (H6 p) then some ((8:Int),()) else bj.q2 (p,()) (p,(pn p:Int)):=by
  have:=dj (B:=λself v=>bj.B1 k self (λz=>bj.q2 (p,()) z) (p,()) v) (List.range (pn p)) (λ(s:List Bool) (i:Int)=>(p,(pn p:Int),s,(pn p:Int),i)) (λ_ s x=>if H6 p x then .inl (some ((8:Int),())) else .inr ((List.range 64).map (t8 p (x+1)))) (λ_=>bj.q2 (p,()) (p,(pn p:Int))) (λi s=>s=(List.range 64).map (t8 p i)) (by grind)
   (λi hi s self hI=>by
    rw[cW] at hi;subst hI;show bj.b1 _ _ _ _ _=_
    grind [bj.b1,Cu])
   (λi hi s s' hI hf=>by
    grind) (λs self _=>by
    rw[cW];show bj.b1 _ _ _ _ _=_
    grind [bj.b1]) (List.replicate 64 false) (by show _=(List.range 64).map (λ_=>false);decide) k (by grind)
  rw[GU] at this;exact this
 show bj.q0 _ _ _ _ _=_;unfold bj.q0;rw[outer,Zc];by_cases Gw:(List.range (pn p)).all (λi=>(List.range i).all (uI p i))=true;rotate_left
 ·grind
 simp only[Gw,aR,aF,aS,aH];show bj.q2 _ _=_;unfold bj.q2;by_cases h0:0 < pn p
 ·have a8:(0:Int) < (pn p:Int):=by omega
  have hwm:af (af ((2:Int)*(pn p:Int))+1)=((2*pn p+1:Nat):Int):=by grind [be]
  have hz:((p[2*pn p+1]'Bys).toNat)=bg p (pn p - 1):=by
   rw[(jF (show 2*pn p+1 < p.length by omega)).2];show pb p _=pb p _;congr 1;omega
  simp only[a8,aJ,aO,hwm,aK,aH,aC,fd (show 2*pn p+1 < p.length by omega),hz,h0,dN];grind
 grind
end OT
namespace OT
open Go
theorem oW {V S O:Type} {B:(V->Option O)->V->Option O} (n:Nat) (enc:S->Int->V) (f:Nat->S->Sum (Option O) S) (fin:S->Option O) (I:Nat->S->Prop) (hn:n<=1048576)
  (gw:∀ (i:Nat),i < n->∀ (s:S) self,I i s->B self (enc s (i:Int))=match f i s with | .inl o=>o | .inr s'=>self (enc s' (af ((i:Int)+1))))
  (hI:∀ (i:Nat),i < n->∀ (s s':S),I i s->f i s=.inr s'->I (i+1) s')
  (pL:∀ (s:S) self,I n s->B self (enc s (n:Int))=fin s) (s:S) (h0:I 0 s) (k:Nat) (hk:n < k):am B k (enc s 0)=ci (λ_ s x=>f x s) fin 0 (List.range n) s:=
 dj (List.range n) enc (λ_ s x=>f x s) fin I (by grind [an])
  (λi hi s self h=>by grind)
  (λi hi s s' h hf=>by grind)
  (λs self h=>by grind) s h0 k (by grind)
theorem Ff {O α β:Type} (g:α->List β) (fin:List β->O):∀ (xs:List α) (i:Nat) (s:List β),ci (λ_ s x=>.inr (s++g x)) fin i xs s=fin (s++xs.flatMap g)
 | [],_,s=>by simp[ci]
 | x::xs,i,s=>by simp only[ci];rw[Ff g fin xs (i+1)];simp[bK]
abbrev Cv:Row:=((0:Int),(0:Int),(0:Int),([]:List UInt8),())
abbrev KJ:tt:=((0:Int),(0:Int),(0:Int),(0:Int),Cv,())
abbrev Fg:tt:=((5:Int),(0:Int),(0:Int),(0:Int),Cv,())
def vj (d:List UInt8):Row:=((pb d 1:Int),(pb d 2:Int),(pb d 3:Int)*256+(pb d 4:Int),d.drop 6,())
def ee (d:List UInt8):tt×Bool:=
 if d.length=3/\pb d 0=1 then (((0:Int),(1:Int),(pb d 1:Int),(pb d 2:Int),Cv,()),decide (pb d 1<=11)&&decide (pb d 2<=15))
 else if d.length < 6\/pb d 0=1\/2 < pb d 0\/d.length≠6+pb d 5 then (KJ,false)
 else (((0:Int),(pb d 0:Int),(0:Int),(0:Int),vj d,()),decide (jb (vj d)=0))
theorem Zd {a b:Nat} (ha:a < 256) (hb:b < 256):((BitVec.ofInt 64 (af ((a:Int)*2 ^ 8)) ||| BitVec.ofInt 64 (b:Int)).toNat:Int)=(a:Int)*256+(b:Int):=by
 have e1:af ((a:Int)*2 ^ 8)=((2 ^ 8*a:Nat):Int):=by grind [be]
 rw[e1,BitVec.toNat_or]
 have e2:(BitVec.ofInt 64 ((2 ^ 8*a:Nat):Int)).toNat=2 ^ 8*a:=by
  rw[fM];omega
 have e3:(BitVec.ofInt 64 (b:Int)).toNat=b:=by
  grind
 rw[e2,e3,<- Nat.two_pow_add_eq_or_of_lt Bys a];omega
theorem Cw (d:List UInt8) (hd:d.length<=100):mr.ab (d,())=some ((ee d).1,(ee d).2,()):=by
 refine ag (k:=0) λk _=>(mr.ae k _).trans ?_;show mr.p _=_;unfold mr.p ee;have b0:=mA d 0;have b1:=mA d 1;have b2:=mA d 2;have b3:=mA d 3;have b4:=mA d 4;have b5:=mA d 5;by_cases h3:d.length=3
 ·have e3:decide ((d.length:Int)=3)=true:=aX Bys;have e6:decide ((d.length:Int) < 6)=true:=aX Bys;have hl6:d.length < 6:=by omega
  simp only[e3,e6,aO,fd (show 0 < d.length by omega),(jF (show 0 < d.length by omega)).2];by_cases h1:pb d 0=1
  ·have e1:decide ((pb d 0:Int)=1)=true:=aX Bys;rw[aM ⟨h3,h1⟩];simp only[e1,aO,fd (show 1 < d.length by omega),(jF (show 1 < d.length by omega)).2,fd (show 2 < d.length by omega),(jF (show 2 < d.length by omega)).2,Dd]
   have i7:sE.ab ((pb d 1:Int),(pb d 2:Int),())=some (decide (pb d 1<=11)&&decide (pb d 2<=15),()):=by
    refine ag (k:=0) λk _=>(sE.ae k _).trans ?_;grind [sE.p,mL,decide]
   grind
  grind
 ·have e3:decide ((d.length:Int)=3)=false:=bA Bys;simp only[e3,aE,h3,iH,aS];by_cases h6:d.length < 6
  ·grind
  ·have e6:decide ((d.length:Int) < 6)=false:=bA Bys;simp only[e6,aE,fd (show 0 < d.length by omega),(jF (show 0 < d.length by omega)).2,h6,iJ];by_cases h1:pb d 0=1
   ·grind
   have e1:decide ((pb d 0:Int)=1)=false:=bA Bys;simp only[e1,aE,h1,iJ];by_cases h2:2 < pb d 0
   ·grind
   have e2:decide ((2:Int) < (pb d 0:Int))=false:=bA Bys;have w6:af ((6:Int)+(pb d 5:Int))=((6+pb d 5:Nat):Int):=by grind [be]
   simp only[e2,aE,h2,iJ,fd (show 5 < d.length by omega),(jF (show 5 < d.length by omega)).2,Dd,w6];by_cases h5:d.length=6+pb d 5;rotate_left
   ·grind
   have e5:decide ((d.length:Int)=((6+pb d 5:Nat):Int))=true:=aX Bys;have h6':(0:Int)<=6/\(6:Int)<=(d.length:Int):=by omega
   have w3:af (af ((pb d 3:Int)*256)+(pb d 4:Int))=(pb d 3:Int)*256+(pb d 4:Int):=by grind [be]
   have ht:(d.take d.length).drop 6=d.drop 6:=by rw[dW]
   have hr:gn.ab (vj d,())=some (jb (vj d),()):=yV (vj d) (by grind [an,vj]);unfold vj at hr;rw[aV (λh=>h h5)]
   simp only[e5,aR,aE,fd (show 1 < d.length by omega),(jF (show 1 < d.length by omega)).2,fd (show 2 < d.length by omega),(jF (show 2 < d.length by omega)).2,
    fd (show 3 < d.length by omega),(jF (show 3 < d.length by omega)).2,fd (show 4 < d.length by omega),(jF (show 4 < d.length by omega)).2,Dd,w3,ht,hr,aA]
   rw[aM Bys];rfl
theorem FV (d:List UInt8) (hd:d.length<=100):kq.ab (d,())=some (if (ee d).2 then (ee d).1 else Fg,()):=by
 refine ag (k:=0) λk _=>(kq.ae k _).trans ?_;show kq.p _=_;unfold kq.p;have b0:=mA d 0;have b1:=mA d 1;have b2:=mA d 2;have b3:=mA d 3;have b4:=mA d 4;have b5:=mA d 5;by_cases h3:d.length=3
 ·grind [pb,ee,Dd]
 ·have e3:decide ((d.length:Int)=3)=false:=bA Bys;simp only[e3,aE];by_cases h6:d.length < 6
  ·grind [ee]
  ·have e6:decide ((d.length:Int) < 6)=false:=bA Bys
   have hc:ee d=if pb d 0=1\/2 < pb d 0\/d.length≠6+pb d 5 then (KJ,false) else (((0:Int),(pb d 0:Int),(0:Int),(0:Int),vj d,()),decide (jb (vj d)=0)):=by
    grind [ee]
   have hlen:∀ i,i < 6->i < d.length:=λi hi=>by omega
   have w6:af ((6:Int)+(pb d 5:Int))=((6+pb d 5:Nat):Int):=by grind [be]
   have h6':(0:Int)<=6/\(6:Int)<=(d.length:Int):=by omega
   have w3:af ((BitVec.ofInt 64 (af ((pb d 3:Int)*2 ^ 8)) ||| BitVec.ofInt 64 (pb d 4:Int)).toNat:Int)=(pb d 3:Int)*256+(pb d 4:Int):=by rw[Zd b3 b4,be Bys]
   have ht:(d.take d.length).drop 6=d.drop 6:=by rw[dW]
   have hr:dp.ab (vj d,())=some (jb (vj d),()):=yW (vj d) (by grind [an,vj]);unfold vj at hr
   simp only[e6,aE,fd (show 0 < d.length by omega),(jF (show 0 < d.length by omega)).2,fd (show 5 < d.length by omega),(jF (show 5 < d.length by omega)).2,fd (show 1 < d.length by omega),(jF (show 1 < d.length by omega)).2,fd (show 2 < d.length by omega),(jF (show 2 < d.length by omega)).2,
    fd (show 3 < d.length by omega),(jF (show 3 < d.length by omega)).2,fd (show 4 < d.length by omega),(jF (show 4 < d.length by omega)).2,Dd,w6,h6'.2,show (0:Int)<=6 by omega,bS,aH,w3,ht,hr,aA]
   have e5:decide ((d.length:Int)=((6+pb d 5:Nat):Int))=decide (d.length=6+pb d 5):=by grind
   have e0:decide ((pb d 0:Int)=0)=decide (pb d 0=0):=by grind
   have e2:decide ((pb d 0:Int)=2)=decide (pb d 0=2):=by grind
   rw[e5,e0,e2]
   have fin:∀ (c5:d.length=6+pb d 5) (c0:¬ (pb d 0=1\/2 < pb d 0\/d.length≠6+pb d 5)),(bif !decide (jb ((pb d 1:Int),(pb d 2:Int),(pb d 3:Int)*256+(pb d 4:Int),d.drop 6,())=0) then some (Fg,()) else some (((0:Int),(pb d 0:Int),(0:Int),(0:Int),((pb d 1:Int),(pb d 2:Int),(pb d 3:Int)*256+(pb d 4:Int),d.drop 6,()),()),()))=some (if (ee d).2 then (ee d).1 else Fg,()):=λc5 c0=>by
    rw[hc,aV c0];show (bif !decide (jb (vj d)=0) then some (Fg,()) else some (((0:Int),(pb d 0:Int),(0:Int),(0:Int),vj d,()),()))=some (if decide (jb (vj d)=0)=true then ((0:Int),(pb d 0:Int),(0:Int),(0:Int),vj d,()) else Fg,());grind
   have bad:(pb d 0=1\/2 < pb d 0\/d.length≠6+pb d 5)->(some (Fg,()):Option kq.O)=some (if (ee d).2 then (ee d).1 else Fg,()):=λh=>by
    grind
   by_cases c5:d.length=6+pb d 5
   ·rw[aX c5];by_cases c0:pb d 0=0
    ·simp_all
    grind
   grind
section
variable {p:List UInt8} (hp:ig p)
include hp
theorem y9 (s:Nat):it.ab (p,(s:Int),())=some (decide (s < pn p)&&!decide (bg p s=0),()):=by
 refine ag (k:=0) λk _=>(it.ae k _).trans ?_;show it.p _=_;unfold it.p;have h0:(0:Int)<=(s:Int):=by omega
 have hn:=hp.n;have hl:=hp.len;grind [uU,decide,bg,jF,MV]
theorem U5 (s:Nat):tC.ab (p,(s:Int),())=some (decide (s < pn p)&&!decide (bg p s=0),()):=by
 refine ag (k:=0) λk _=>(tC.ae k _).trans ?_;show tC.p _=_;unfold tC.p;have hn:=hp.n;have hl:=hp.len;grind [be,nS,mL,decide_eq_false,qG]
theorem L8 {s:Nat} (hs:s < pn p):pat p s+bg p s<=64:=by
 by_cases hz:bg p s=0
 ·have:=hp.zero s hs hz;omega
 ·exact (hp.slot s hs hz).2
theorem AU {s:Nat} (hs:s < pn p):mu.ab (p,(s:Int),())=some (je p s,()):=by
 refine ag (k:=0) λk _=>(mu.ae k _).trans ?_;show mu.p _=_;unfold mu.p je;have hn:=hp.n;have hl:=hp.len;have hc:=L8 hp hs;grind [be,Cu,Int.toNat_natCast,List.drop_take]
theorem xE {s:Nat} (hs:s < pn p):j_.ab (p,(s:Int),())=some (je p s,()):=by
 refine ag (k:=0) λk _=>(j_.ae k _).trans ?_;show j_.p _=_;unfold j_.p je;have hn:=hp.n;have hl:=hp.len;have hc:=L8 hp hs;have hw:af ((pat p s:Int)+(bg p s:Int))=((pat p s+bg p s:Nat):Int):=by grind [be]
 grind [Aw,qG,dc,List.drop_take]
end
theorem xw {p:List UInt8} (hp:ig p) {s:Nat} (hs:s < pn p):(je p s).length<=64:=by
 have:=po hp hs;have:=L8 hp hs;omega
end OT
namespace OT
open Go
def rk (x:Row):Int×Int:=(x.1,x.2.1)
theorem Fh (a b:Int×Int):jc a b=true↔a.1 < b.1\/(a.1=b.1/\a.2 < b.2):=by grind [jc]
theorem vk {a b c:Int×Int} (h1:jc a b=true) (h2:jc b c=true):jc a c=true:=by
 grind [Fh]
theorem vl (a:Int×Int):jc a a=false:=by
 grind [Fh]
theorem Xg {a b:Int×Int} (h:jc a b=true):jc b a=false:=by
 grind [Fh]
theorem zK {a b:Int×Int} (h1:jc a b=false) (h2:jc b a=false):a=b:=by
 grind [Fh]
def up (xs:List Row):Prop:=xs.Pairwise (λa b=>jc (rk a) (rk b)=true)
theorem D7 {x:Row} {xs:List Row}:up (x::xs)↔(∀ y ∈ xs,jc (rk x) (rk y)=true)/\up xs:=dP
def pos:List Row->Int×Int->Nat
 | [],_=>0
 | x::xs,k=>if jc (rk x) k then pos xs k+1 else 0
theorem GV:∀ (xs:List Row) (k:Int×Int),pos xs k<=xs.length
 | [],_=>aI _
 | x::xs,k=>by simp only[pos];split <;> simp[GV xs k]
theorem Cx:∀ (xs:List Row) (k:Int×Int) (i:Nat) (h:i < xs.length),i < pos xs k->jc (rk xs[i]) k=true
 | x::xs,k,i,h,hp=>by
  simp only[pos] at hp;split at hp
  ·rename_i hx
   cases i with
   | zero=>exact hx
   | succ i=>exact Cx xs k i (by simpa using h) Bys
  ·omega
theorem y_:∀ (xs:List Row) (k:Int×Int) (i:Nat) (h:i < xs.length),up xs->pos xs k<=i->jc (rk xs[i]) k=false
 | x::xs,k,i,h,hu,hp=>by
  simp only[pos] at hp;split at hp
  ·cases i with
   | zero=>omega
   | succ i=>exact y_ xs k i (by simpa using h) (D7.1 hu).2 Bys
  ·rename_i hx;have hx:jc (rk x) k=false:=by simpa using hx
   cases i with
   | zero=>exact hx
   | succ i=>
    have sR:i < xs.length:=by simpa using h
    have hm:jc (rk x) (rk xs[i])=true:=(D7.1 hu).1 _ (aN _);grind [vk]
def nD (xs:List Row) (k:Int×Int):Bool:=match xs[pos xs k]? with
 | some x=>decide (rk x=k)
 | none=>false
theorem vF {xs:List Row} {k:Int×Int} (h:nD xs k=true):∃ hp:pos xs k < xs.length,rk xs[pos xs k]=k:=by
 grind [nD]
theorem Xh (a b:Row):decide ((if jc (a.1,a.2.1) (b.1,b.2.1) then (-1:Int) else if jc (b.1,b.2.1) (a.1,a.2.1) then 1 else 0) < 0)=jc (rk a) (rk b):=by
 grind [rk]
theorem Fl (a b:Row):sameKey a b=decide (rk a=rk b):=by
 grind [sameKey,rk]
theorem half (lo hi:Nat) (h:lo+hi<=4611686018427387904):af ((IntKind.wrap .u64 (af ((lo:Int)+(hi:Int)))).fdiv (2 ^ 1))=(((lo+hi) / 2:Nat):Int):=by
 grind [be,IntKind.wrap,IntKind.bits]
theorem GW (xs:List Row) (key:Row) (f:Nat×Int) (hu:up xs) (hl:xs.length<=2000000):bq.ab (xs,key,f,())=some ((pos xs (rk key):Int),nD xs (rk key),()):=by
 have hp:=GV xs (rk key)
 have hq:bq.q0 (xs,key,f,()) (pos xs (rk key):Int)=some ((pos xs (rk key):Int),nD xs (rk key),()):=by
  grind [bq.q0,nD,E2,KF,Fl]
 refine ag (k:=xs.length+1) λk hk=>(bq.ae k _).trans ?_
 refine tq (B:=λself v=>bq.b0 self (λz=>bq.q0 (xs,key,f,()) z) (xs,key,f,()) v) (λ_=>((pos xs (rk key):Int),nD xs (rk key),()))
  (λv=>∃ lo hi:Nat,v=((lo:Int),(hi:Int))/\lo<=pos xs (rk key)/\pos xs (rk key)<=hi/\hi<=xs.length) (λv=>(v.2 - v.1).toNat) (λv hv self=>?_) k (0,(xs.length:Int)) ⟨0,xs.length,rfl,by omega,hp,by omega⟩ (by simp;omega)
 obtain ⟨lo,hi,rfl,h1,h2,h3⟩:=hv;by_cases a8:lo < hi
 ·right;have BS:(lo:Int) < (hi:Int):=by omega
  have hm:(lo+hi) / 2 < xs.length:=by omega
  have hb:∀ self,bq.b0 self (λz=>bq.q0 (xs,key,f,()) z) (xs,key,f,()) ((lo:Int),(hi:Int))=if jc (rk xs[(lo+hi) / 2]) (rk key) then self (af ((((lo+hi) / 2:Nat):Int)+1),(hi:Int)) else self ((lo:Int),(((lo+hi) / 2:Nat):Int)):=λself=>by
   grind [bq.b0,half,Int.toNat_natCast,E2,Xh]
  cases hc:jc (rk xs[(lo+hi) / 2]) (rk key) with
  | true=>
   refine ⟨((((lo+hi) / 2+1:Nat):Int),(hi:Int)),?_,rfl,⟨_,_,rfl,?_,h2,h3⟩,by grind⟩
   all_goals grind [be,y_]
  | false=>
   refine ⟨((lo:Int),(((lo+hi) / 2:Nat):Int)),?_,rfl,⟨_,_,rfl,h1,?_,by omega⟩,by grind⟩
   all_goals grind [Cx]
 grind [bq.b0]
def uw (xs:List Row) (c:Change):Bool:=(nD xs (ck c) == c.1)&&(!nD xs (ck c)||(match xs[pos xs (ck c)]? with | some x=>Ty.eq aT x c.2.1 | none=>true))
def ry (xs:List Row) (c:Change):List Row:=xs.take (pos xs (ck c))++(if c.2.2.1 then [c.2.2.2.1] else [])++xs.drop (pos xs (ck c)+if nD xs (ck c) then 1 else 0)
theorem Xi (c:Change):rk (Av c)=ck c:=yc c
theorem MW (c:Change) (xs:List Row) (hu:up xs) (hl:xs.length<=2000000):ke.ab (c,xs,())=some (uw xs c,()):=by
 refine ag (k:=0) λk _=>(ke.ae k _).trans ?_;grind [ke.p,uw,wT,GW,Xi,vF]
theorem U6 (xs:List Row) (c:Change) (hu:up xs) (hl:xs.length<=2000000):q9.ab (xs,c,())=some (ry xs c,()):=by
 refine ag (k:=0) λk _=>(q9.ae k _).trans ?_;show q9.p _=_;unfold q9.p ry;have hp:=GV xs (ck c);have Ci:0<=((pos xs (ck c):Nat):Int)/\((pos xs (ck c):Nat):Int)<=(xs.length:Int):=by omega
 have c1:([]:List Row).length+(List.take (pos xs (ck c)) xs).length<=ct:=dc (by simp;omega);simp only[wT,GW xs _ _ hu hl,Xi,aA,Ci,bS,aH,aC,c1,dM,cG,dW];have c2:(List.take (pos xs (ck c)) xs).length+[c.2.2.2.1].length<=ct:=dc (by simp;omega);have hd:∀ (p7:List Row) (n:Nat),p7.length<=2000001->p7.length+(List.drop n xs).length<=ct:=λp7 n h=>dc (by grind);have hw:af (((pos xs (ck c):Nat):Int)+1)=((pos xs (ck c)+1:Nat):Int):=by grind [be]
 have c3:=hd (List.take (pos xs (ck c)) xs++[c.2.2.2.1]);have c4:=hd (List.take (pos xs (ck c)) xs);have l3:(List.take (pos xs (ck c)) xs++[c.2.2.2.1]).length<=2000001:=by simp;omega
 have l4:(List.take (pos xs (ck c)) xs).length<=2000001:=by simp;omega
 cases hf:nD xs (ck c) with
 | false=>
  grind
 | true=>
  obtain ⟨i7,_⟩:=vF hf;grind
theorem FW (a b:Row):nY.ab (a,b,())=some (jc (rk a) (rk b),()):=by
 refine ag (k:=0) λk _=>(nY.ae k _).trans ?_;grind [nY.p,jc,rk]
theorem SY {xs:List Row} {k:Int×Int} (h:nD xs k=true):∃ y ∈ xs,rk y=k:=by
 obtain ⟨hp,hk⟩:=vF h;grind
theorem SZ (k:Int×Int):∀ (xs:List Row) (j:Nat),up xs->ci (λi (_:Unit) x=>if rk x=k then .inl ((i:Int),()) else .inr ()) (λ_=>((-1:Int),())) j xs ()=if nD xs k then (((j+pos xs k:Nat):Int),()) else (-1,())
 | [],j,_=>by simp[ci,nD]
 | x::xs,j,hu=>by
  have hu:=D7.1 hu;simp only[ci];by_cases hx:rk x=k
  ·grind [vl,nD,pos]
  ·simp only[hx,aS];rw[SZ k xs (j+1) hu.2];grind [pos,nD]
def Ax (xs:List Row) (k:Int×Int):Int:=if nD xs k then (pos xs k:Int) else -1
theorem GX (xs:List Row) (t k:Int) (hu:up xs) (hl:xs.length<=2000000):ll.ab (xs,t,k,())=some (Ax xs (t,k),()):=by
 refine ag (k:=xs.length+1) λf hf=>(ll.ae f _).trans ?_
 have:=cz (B:=λself v=>ll.b0 self (λz=>ll.q0 (xs,t,k,()) z) (xs,t,k,()) v) xs (λ(_:Unit) (i:Int)=>i) (λi _ x=>if rk x=(t,k) then .inl ((i:Int),()) else .inr ()) (λ_=>((-1:Int),())) (λ_ _=>True) (by rw[an];omega)
  (λi hi _ self _=>by
   grind [ll.b0,rk]) (λ_ _ _ _ _ _=>trivial) (λ_ self _=>by
   grind [ll.b0,ll.q0]) () trivial f Bys
 rw[SZ (t,k) xs 0 hu] at this;have this:ll.r0 f (xs,t,k,()) 0=_:=this;grind [ll.p,Ax]
theorem PB {O:Type} (k:Int×Int) (g:Nat->O) (n:Nat):∀ (xs:List Row) (j:Nat),j+xs.length=n->ci (λi (_:Unit) x=>if jc (rk x) k then .inr () else .inl (g i)) (λ_=>g n) j xs ()=g (j+pos xs k)
 | [],j,h=>by grind [ci,pos]
 | x::xs,j,h=>by
  simp only[ci,pos]
  cases hb:jc (rk x) k with
  | true=>
   simp only[aH];rw[PB k g n xs (j+1) (by grind)];congr 1;omega
  | false=>simp
def rL (xs:List Row) (r:Row):List Row:=xs.take (pos xs (rk r))++[r]++xs.drop (pos xs (rk r))
theorem KK (xs:List Row) (r:Row) (hl:xs.length<=2000000):lk.ab (xs,r,())=some (rL xs r,()):=by
 refine ag (k:=xs.length+1) λf hf=>(lk.ae f _).trans ?_
 have hq:∀ i:Nat,i<=xs.length->lk.q0 (xs,r,()) (i:Int)=some (xs.take i++[r]++xs.drop i,()):=λi hi=>by
  show lk.q0 _ _=_;unfold lk.q0;have Ci:0<=(i:Int)/\(i:Int)<=(xs.length:Int):=by omega
  have c1:([]:List Row).length+(List.take i xs).length<=ct:=dc (by simp;omega);have c2:(List.take i xs).length+[r].length<=ct:=dc (by simp;omega);have c3:(List.take i xs++[r]).length+(List.drop i xs).length<=ct:=dc (by simp;omega);grind
 have:=cz (B:=λself v=>lk.b0 self (λz=>lk.q0 (xs,r,()) z) (xs,r,()) v) xs (λ(_:Unit) (i:Int)=>i) (λi _ x=>if jc (rk x) (rk r) then .inr () else .inl (xs.take i++[r]++xs.drop i,())) (λ_=>(xs.take xs.length++[r]++xs.drop xs.length,())) (λ_ _=>True) (by rw[an];omega)
  (λi hi _ self _=>by
   show lk.b0 _ _ _ _=_;unfold lk.b0;have a8:(i:Int) < (xs.length:Int):=by omega
   simp only[a8,aJ,aO,aK,aH,aC,aB hi,aA,FW]
   cases jc (rk xs[i]) (rk r) <;> grind) (λ_ _ _ _ _ _=>trivial) (λ_ self _=>by
   grind [lk.b0]) () trivial f Bys
 rw[PB (rk r) (λi=>(xs.take i++[r]++xs.drop i,())) xs.length xs 0 Bys] at this;refine this.trans ?_;simp[rL]
theorem Jq (t:Int):∀ (xs:List Row) (j:Nat) (s:List Row),ci (O:=List Row×Unit) (λi s x=>if (i:Int)=t then .inr s else .inr (s++[x])) (λs=>(s,())) j xs s=(s++(if (j:Int)<=t/\t < j+xs.length then xs.take (t - j).toNat++xs.drop ((t - j).toNat+1) else xs),())
 | [],j,s=>by
  grind [ci]
 | x::xs,j,s=>by
  simp only[ci];by_cases h:(j:Int)=t
  ·have h1:¬ (((j+1:Nat):Int)<=t/\t < ((j+1:Nat):Int)+(xs.length:Int)):=by omega
   have h2:(j:Int)<=t/\t < (j:Int)+((x::xs).length:Int):=by simp;omega
   have h3:(t - j).toNat=0:=by omega
   simp only[h,aH];rw[Jq t xs (j+1) s,aV h1];grind
  ·simp only[h,aS];rw[Jq t xs (j+1) (s++[x])];grind
def Jr (xs:List Row) (k:Int×Int):List Row:=if nD xs k then xs.take (pos xs k)++xs.drop (pos xs k+1) else xs
theorem KL (k:Int×Int):∀ (l1 l2:List Row),(∀ x ∈ l1,jc (rk x) k=true)->pos (l1++l2) k=l1.length+pos l2 k
 | [],l2,_=>by simp
 | x::l1,l2,h=>by
  simp only[dA,pos,h x bV,aH,bE];rw[KL k l1 l2 λy hy=>h y (bD _ hy)];omega
theorem Cy {xs:List Row} {k:Int×Int} {x:Row} (h:x ∈ xs.take (pos xs k)):jc (rk x) k=true:=by
 obtain ⟨i,hi,e⟩:=cV.1 h;grind [Cx]
theorem Ze {xs:List Row} {k:Int×Int} (hu:up xs) {n:Nat} (hn:pos xs k<=n):pos (xs.drop n) k=0:=by
 grind [List.drop_eq_nil_of_le,List.drop_eq_getElem_cons,pos,y_]
theorem abb {xs:List Row} {k:Int×Int} {r:Row} (hu:up xs) (hk:rk r=k):rL (Jr xs k) r=xs.take (pos xs k)++[r]++xs.drop (pos xs k+if nD xs k then 1 else 0):=by
 have hp:=GV xs k
 have key:∀ n,pos xs k<=n->pos (xs.take (pos xs k)++xs.drop n) k=pos xs k:=λn hn=>by
  grind [KL,Cy,Ze]
 have hl:(xs.take (pos xs k)).length=pos xs k:=by grind
 unfold rL Jr;grind
theorem Xj (xs:List Row) (c:Change) (hu:up xs) (hl:xs.length<=2000000) (hc:c.2.2.1=true->rk c.2.2.2.1=ck c):pi.ab (xs,c,())=some (if uw xs c then (ry xs c,true,()) else ([],false,())):=by
 refine ag (k:=xs.length+1) λf hf=>(pi.ae f _).trans ?_;have hp:=GV xs (ck c)
 have Xk:=cz (B:=λself v=>pi.b0 self (λz=>pi.q0 (xs,c,()) (Ax xs (ck c)) z) (xs,c,()) (Ax xs (ck c)) v) (O:=List Row×Bool×Unit) xs (λ(s:List Row) (i:Int)=>(s,i)) (λi s x=>if (i:Int)=Ax xs (ck c) then .inr s else .inr (s++[x]))
  (λs=>(if c.2.2.1 then rL s c.2.2.2.1 else s,true,())) (λi s=>s.length<=i) (by rw[an];omega)
  (λi hi s self hI=>by
   grind [pi.b0,dc]) (λi hi s s' hI hf=>by
   grind) (λs self hI=>by
   grind [pi.b0,pi.q0,KK]) [] (aI _) f Bys
 have GD:∀ (xs0:List Row) (j:Nat) (s:List Row),ci (O:=List Row×Bool×Unit) (λi s x=>if (i:Int)=Ax xs (ck c) then .inr s else .inr (s++[x])) (λs=>(if c.2.2.1 then rL s c.2.2.2.1 else s,true,())) j xs0 s
   = (λs=>(if c.2.2.1 then rL s c.2.2.2.1 else s,true,())) (ci (O:=List Row×Unit) (λi s x=>if (i:Int)=Ax xs (ck c) then .inr s else .inr (s++[x])) (λs=>(s,())) j xs0 s).1:=by
  intro xs0
  induction xs0 <;> grind [ci]
 rw[GD,Jq (Ax xs (ck c)) xs 0 []] at Xk
 have aek:([]++(if ((0:Nat):Int)<=Ax xs (ck c)/\Ax xs (ck c) < ((0:Nat):Int)+(xs.length:Int) then xs.take (Ax xs (ck c) - ((0:Nat):Int)).toNat++xs.drop ((Ax xs (ck c) - ((0:Nat):Int)).toNat+1) else xs))=Jr xs (ck c):=by
  grind [Ax,Jr,nD]
 simp only[aek] at Xk;have Xk:pi.r0 f (xs,c,()) (Ax xs (ck c)) (([]:List Row),(0:Int))=_:=Xk;unfold pi.p uw;simp only[yX,GX xs _ _ hu hl,aA,Xk]
 have aeG:(if c.2.2.1 then rL (Jr xs (ck c)) c.2.2.2.1 else Jr xs (ck c))=ry xs c:=by
  unfold ry
  cases hi:c.2.2.1 with
  | true=>grind [abb]
  | false=>
   simp only[aF,aS,cY];unfold Jr;cases nD xs (ck c) <;> simp_all
 grind [nD,Ax,Int.toNat_natCast]
end OT
namespace OT
open Go
def ua (xs:List Row) (i:Nat) (x:Row):Sum (Int×Unit) Unit:=
 if jb x=0 then (if 0 < i then (match xs[i - 1]? with | some y=>if jc (rk y) (rk x) then .inr () else .inl (1,()) | none=>.inl (1,())) else .inr ()) else .inl (jb x,())
def l8 (xs:List Row):Int:=if 60 < xs.length then 2 else (ci (λi (_:Unit) x=>ua xs i x) (λ_=>((0:Int),())) 0 xs ()).1
theorem Iz (xs:List Row) (hl:xs.length<=maxLen) (h:∀ c ∈ xs,rl c):kd.ab (xs,())=some (l8 xs,()):=by
 refine ag (k:=xs.length+1) λk hk=>(kd.ae k _).trans ?_
 have:=cz (B:=λself v=>kd.b0 self (λz=>kd.q0 (xs,()) z) (xs,()) v) xs (λ(_:Unit) (i:Int)=>i) (λi _ x=>ua xs i x) (λ_=>(0,())) (λ_ _=>True) hl
  (λi hi _ self _=>by
   show kd.b0 _ _ _ _=_;unfold kd.b0 ua;have a8:(i:Int) < (xs.length:Int):=by omega
   simp only[a8,aJ,aO,aK,aH,aC,aB hi,aA,yV _ (h _ (aN hi))]
   grind [KG,Int.toNat_natCast,FW]) (λ_ _ _ _ _ _=>trivial) (λ_ self _=>by
   grind [kd.b0,kd.q0]) () trivial k Bys
 have this:kd.r0 k (xs,()) 0=_:=this;grind [kd.p,l8]
theorem DD (xs:List Row) (hl:xs.length<=maxLen) (h:∀ c ∈ xs,rl c):gb.ab (xs,())=some (l8 xs,()):=by
 refine ag (k:=xs.length+1) λk hk=>(gb.ae k _).trans ?_
 have:=cz (B:=λself v=>gb.b0 self (λz=>gb.q0 (xs,()) z) (xs,()) v) xs (λ(_:Unit) (i:Int)=>i) (λi _ x=>ua xs i x) (λ_=>(0,())) (λ_ _=>True) hl
  (λi hi _ self _=>by
   show gb.b0 _ _ _ _=_;unfold gb.b0 ua rk;have a8:(i:Int) < (xs.length:Int):=by omega
   simp only[a8,aJ,aO,aK,aH,aC,aB hi,aA,yW _ (h _ (aN hi))]
   grind [KG,Int.toNat_natCast,DC]) (λ_ _ _ _ _ _=>trivial) (λ_ self _=>by
   grind [gb.b0,gb.q0]) () trivial k Bys
 have this:gb.r0 k (xs,()) 0=_:=this;grind [gb.p,l8]
theorem MX {α:Type} {f:Nat->Unit->α->Sum (Int×Unit) Unit} (hf:∀ i s x o,f i s x=.inl o->o.1≠0):∀ (xs:List α) (j:Nat),(ci f (λ_=>((0:Int),())) j xs ()).1=0->∀ i (hi:i < xs.length),f (j+i) () xs[i]=.inr ()
 | x::xs,j,h,i,hi=>by
  simp only[ci] at h
  cases hx:f j () x with
  | inl o=>grind
  | inr u=>
   rw[hx] at h
   cases i with
   | zero=>exact hx
   | succ i=>
    have:=MX hf xs (j+1) h i (by simpa using hi);grind
theorem Xl:∀ (xs:List Row),(∀ i (hi:i < xs.length),0 < i->jc (rk (xs[i - 1]'Bys)) (rk xs[i])=true)->up xs
 | [],_=>List.Pairwise.nil
 | [x],_=>List.pairwise_singleton _ _
 | x::y::xs,h=>by
  have hu:up (y::xs):=Xl (y::xs) λi hi h0=>by
   have:=h (i+1) (by grind) Bys;grind
  have uO:jc (rk x) (rk y)=true:=h 1 (by simp) Bys;refine D7.2 ⟨λz hz=>?_,hu⟩;rcases aY.1 hz with rfl | hz
  ·exact uO
  ·exact vk uO ((D7.1 hu).1 z hz)
theorem Ay {x:Row} (h:jb x=0):List.length x.2.2.2.1<=8:=by
 grind [jb,Bk]
structure Good (xs:List Row):Prop where
 up:up xs
 ok:∀ x ∈ xs,jb x=0
theorem tN {xs:List Row} (h:l8 xs=0):Good xs/\xs.length<=60:=by
 unfold l8 at h;split at h
 ·cases h
 ·rename_i hl
  have hn:=MX (f:=λi (_:Unit) x=>ua xs i x) (λi s x o ho=>by
   grind [ua]) xs 0 h
  have h1:∀ i (hi:i < xs.length),jb xs[i]=0:=λi hi=>by
   grind [ua]
  refine ⟨⟨Xl xs λi hi h0=>?_,λx hx=>?_⟩,by omega⟩
  ·grind [ua]
  ·obtain ⟨i,hi,rfl⟩:=cV.1 hx;exact h1 i hi
theorem td {c:Change} (h:nC c=0):(c.2.2.1=true->rk c.2.2.2.1=ck c)/\(c.2.2.1=true->jb c.2.2.2.1=0):=by
 grind [rk,ck,nC]
theorem Az {xs:List Row} {c:Change} (h:Good xs) (hc:nC c=0):Good (ry xs c):=by
 obtain ⟨hk,hr⟩:=td hc;have hb:=h.up;constructor
 ·unfold ry up;have h1:(xs.take (pos xs (ck c))).Pairwise (λa b=>jc (rk a) (rk b)=true):=hb.sublist (List.take_sublist _ _);have JN:∀ n,(xs.drop n).Pairwise (λa b=>jc (rk a) (rk b)=true):=λn=>hb.sublist (List.drop_sublist _ _)
  have acs:∀ y ∈ xs.drop (pos xs (ck c)+if nD xs (ck c) then 1 else 0),jc (ck c) (rk y)=true:=λy hy=>by
   obtain ⟨i,e⟩:=eZ.1 hy;rw[bM] at e;obtain ⟨a8,e1⟩:=aP.1 e;have hn:=y_ xs (ck c) _ a8 hb Bys;rw[e1] at hn;clear e1 a8
   cases Mx:jc (ck c) (rk y) with
   | true=>rfl
   | false=>
    have he:=zK Mx hn;exfalso
    cases hf:nD xs (ck c) with
    | true=>
     obtain ⟨hp,Om⟩:=vF hf;rw[hf] at e;simp only[aH] at e;obtain ⟨a8,e⟩:=aP.1 e;have:=dD.1 hb (pos xs (ck c)) (pos xs (ck c)+1+i) hp a8 Bys;grind
    | false=>
     rw[hf] at e;simp only[aF,aS,eM] at e;obtain ⟨a8,e⟩:=aP.1 e;have hp:pos xs (ck c) < xs.length:=by omega
     have J6:=y_ xs (ck c) _ hp hb (aI _)
     have lU:rk xs[pos xs (ck c)]≠ck c:=λe2=>by
      grind [nD]
     have aeZ:jc (ck c) (rk xs[pos xs (ck c)])=true:=by
      grind [zK]
     cases i with
     | zero=>
      grind
     | succ i=>
      have:=dD.1 hb (pos xs (ck c)) (pos xs (ck c)+(i+1)) hp a8 Bys;grind
  have aew:∀ a ∈ xs.take (pos xs (ck c)),∀ y ∈ xs.drop (pos xs (ck c)+if nD xs (ck c) then 1 else 0),jc (rk a) (rk y)=true:=λa ha y hy=>vk (Cy ha) (acs y hy);grind [Cy]
 ·intro x hx;unfold ry at hx;rcases bO.1 hx with hx | hx
  ·rcases bO.1 hx with hx | hx
   ·exact h.ok x (dG hx)
   grind
  ·exact h.ok x (dC hx)
theorem Fm (xs:List Row) (c:Change):(ry xs c).length<=xs.length+1:=by
 grind [ry]
def wA (i:Nat) (s:List Row) (c:Change):Sum (Bg×Unit) (List Row):=if nC c=0 then (if uw s c then .inr (ry s c) else .inl ((8,[],()),())) else .inl ((nC c,[],()),())
def Cz (s:List Row):Bg×Unit:=if 60 < s.length then ((2,[],()),()) else ((0,s,()),())
def KM (xs:List Row) (cs:List Change):Bg:=if l8 xs=0 then (ci wA Cz 0 cs xs).1 else (l8 xs,[],())
theorem Zf (n i:Nat) (s s':List Row) (c:Change) (h:Good s/\s.length<=60+i) (hf:wA n s c=.inr s'):Good s'/\s'.length<=60+(i+1):=by
 grind [wA,Az,Fm]
theorem IA (xs:List Row) (h:xs.length<=1048576):kF.ab (xs,())=some (xs,()):=by
 refine ag (k:=0) λk _=>(kF.ae k _).trans ?_;show kF.p _=_;unfold kF.p;have c1:([]:List Row).length+xs.length<=ct:=dc (by grind);exact D2 (λe=>by grind) (by grind)
theorem PC (xs:List Row) (cs:List Change) (hl:xs.length<=maxLen) (h:∀ x ∈ xs,rl x) (xm:cs.length<=1048576) (hc:∀ c ∈ cs,cl c):iY.ab (xs,cs,())=some (KM xs cs,()):=by
 refine ag (k:=cs.length+1) λk hk=>(iY.ae k _).trans ?_;unfold iY.p KM;simp only[DD xs hl h,aA];by_cases h0:l8 xs=0
 ·obtain ⟨hg,hn⟩:=tN h0;simp only[h0,aJ,aR,aE,aH,IA xs Bys,aA]
  exact cz (B:=λself v=>iY.b0 self (λz=>iY.q0 (xs,cs,()) z) (xs,cs,()) v) cs (λ(s:List Row) (i:Int)=>(s,i)) wA Cz (λi s=>Good s/\s.length<=60+i) (by rw[an];omega)
   (λi hi s self hI=>by
    show iY.b0 _ _ _ _=_;unfold iY.b0 wA;have a8:(i:Int) < (cs.length:Int):=by omega
    simp only[a8,aJ,aO,aK,aH,aC,aB hi,aA,AT _ (hc _ (aN hi)),MW _ s hI.1.up Bys,U6 s _ hI.1.up Bys]
    grind) (λi hi s s' hI hf=>Zf _ i s s' _ hI hf) (λs self hI=>by
    grind [iY.b0,Cz,iY.q0]) xs ⟨hg,by omega⟩ k Bys
 grind
theorem S4:∀ {xs:List Row},(∀ x ∈ xs,jb x=0)->zz (.aa aT) xs<=9*xs.length
 | [],_=>aI _
 | x::xs,h=>by
  have h1:zz (.aa aT) (x::xs:List Row)=zz aT x+1+zz (.aa aT) xs:=SJ (e:=aT) x xs;have h2:=Ay (h x bV);have h3:zz aT x=0+(0+(0+(List.length x.2.2.2.1+0))):=rfl;have h4:=S4 λy hy=>h y (bD _ hy);grind
end OT
namespace OT
open Go
theorem PD {α β O:Type} [DecidableEq β] (g:α->Option β) (bad:O) (fin:Unit->O) (p:α->α->Bool) (hp:∀ x y,p x y=true↔∃ b,g x=some b/\g y=some b) (all:List α):∀ (xs pre:List α),all=pre++xs->(pre.filterMap g).Nodup->ci (λi _ x=>if (all.take i).any (p x) then .inl bad else .inr ()) fin pre.length xs ()=if (all.filterMap g).Nodup then fin () else bad
 | [],pre,h,hn=>by
  rw[cY] at h;subst h;simp only[ci,hn,aH]
 | x::xs,pre,h,hn=>by
  have ht:all.take pre.length=pre:=by rw[h];exact List.take_left
  simp only[ci,ht];have tV:all.filterMap g=pre.filterMap g++([x].filterMap g++xs.filterMap g):=by rw[h,<- fU (x:=x),cL,cL]
  cases hc:pre.any (p x) with
  | true=>
   simp only[aH];obtain ⟨y,hy,hpy⟩:=dY.1 hc;obtain ⟨b,h1,h2⟩:=(hp x y).1 hpy;rw[aV];intro wm;rw[tV,eE] at wm;exact wm.2.2 b (gJ.2 ⟨y,hy,h2⟩) b (by simp[h1]) rfl
  | false=>
   simp only[aF,aS]
   have:=PD g bad fin p hp all xs (pre++[x]) (by rw[h];simp) (by
    rw[cL,eE];refine ⟨hn,?_,λa ha b hb e=>?_⟩
    ·cases hg:g x with
     | none=>simp[hg]
     | some b=>simp[hg]
    ·subst e;obtain ⟨y,hy,hgy⟩:=gJ.1 ha;obtain ⟨z,hz,hgz⟩:=gJ.1 hb;rw[bL] at hz;subst hz;have:pre.any (p z)=true:=dY.2 ⟨y,hy,(hp z y).2 ⟨a,hgz,hgy⟩⟩
     rw[this] at hc;cases hc)
   rw[cB] at this;exact this
theorem GY {α β O:Type} [DecidableEq β] (g:α->Option β) (bad:O) (fin:Unit->O) (p:α->α->Bool) (hp:∀ x y,p x y=true↔∃ b,g x=some b/\g y=some b) (xs:List α):ci (λi _ x=>if (xs.take i).any (p x) then .inl bad else .inr ()) fin 0 xs ()=if (xs.filterMap g).Nodup then fin () else bad:=
 PD g bad fin p hp xs xs [] rfl fP
theorem AV {α:Type} {lt:α->α->Prop} (has:∀ a b,lt a b->¬ lt b a):∀ (xs ys:List α),xs.Perm ys->xs.Pairwise lt->ys.Pairwise lt->xs=ys
 | [],ys,h,_,_=>(List.nil_perm.1 h).symm
 | x::xs,[],h,_,_=>by have:=h.length_eq;cases this
 | x::xs,y::ys,h,h1,h2=>by
  obtain ⟨a1,a2⟩:=dP.1 h1;obtain ⟨b1,b2⟩:=dP.1 h2;by_cases uO:x=y
  ·subst uO;rw[AV has xs ys ((List.perm_cons x).1 h) a2 b2]
  ·have hx:x ∈ ys:=by
    have:=h.mem_iff.1 (bV (a:=x) (l:=xs));rcases aY.1 this with e | e
    ·exact absurd e uO
    ·exact e
   have hy:y ∈ xs:=by
    have:=h.mem_iff.2 (bV (a:=y) (l:=ys));rcases aY.1 this with e | e
    ·exact absurd e.symm uO
    ·exact e
   exact absurd (b1 x hx) (has _ _ (a1 y hy))
theorem MY (xs:List Row) (r:Row):(rL xs r).Perm (r::xs):=by
 unfold rL;rw[bK];have:=gS (a:=r) (l₁:=xs.take (pos xs (rk r))) (l₂:=xs.drop (pos xs (rk r)));rw[cP] at this;exact this
theorem S5 {xs:List Row} {k:Int×Int} {x:Row} (hu:up xs) (h:x ∈ xs.drop (pos xs k)):jc (rk x) k=false:=by
 obtain ⟨i,hi,e⟩:=cV.1 h;rw[bX] at hi;rw[List.getElem_drop] at e;rw[<-e];exact y_ xs k _ _ hu Bys
theorem abc {xs:List Row} {r:Row} (hu:up xs) (hn:∀ x ∈ xs,rk x≠rk r):up (rL xs r):=by
 unfold rL up;rw[bK,List.pairwise_append];have hd:=hu.drop (i:=pos xs (rk r));refine ⟨hu.take,?_,λa ha b hb=>?_⟩
 ·rw[fU,dP];refine ⟨λb hb=>?_,hd⟩
  have h1:=S5 hu hb;have h2:=hn b (dC hb)
  cases h3:jc (rk r) (rk b) with
  | true=>rfl
  | false=>exact absurd (zK h1 h3) h2
 ·have h1:=Cy ha;rw[fU] at hb;rcases aY.1 hb with e | e
  ·subst e;exact h1
  ·have h2:=S5 hu e;have h3:=hn b (dC e)
   cases h4:jc (rk a) (rk b) with
   | true=>rfl
   | false=>
    cases h5:jc (rk b) (rk a) with
    | true=>rw[vk h5 h1] at h2;cases h2
    | false=>
     have:=zK h4 h5;rw[this] at h1;rw[h1] at h2;cases h2
def KN (l:List Row):List Row:=l.foldl rL []
theorem KO:∀ (l acc:List Row),(l.foldl rL acc).Perm (l++acc)
 | [],acc=>iC _
 | r::l,acc=>by
  have h1:=KO l (rL acc r);have h2:(l++rL acc r).Perm (l++r::acc):=(iC l).append (MY acc r);exact h1.trans (h2.trans gS)
theorem Bo (l:List Row):(KN l).Perm l:=by
 have:=KO l [];rw[cY] at this;exact this
theorem PE:∀ (l acc:List Row),up acc->(l.map rk++acc.map rk).Nodup->up (l.foldl rL acc)
 | [],acc,h,_=>h
 | r::l,acc,h,hn=>by
  simp only[dR,dA,cH,bO,not_or] at hn;refine PE l (rL acc r) (abc h λx hx e=>hn.1.2 (eV.2 ⟨x,hx,e⟩)) ?_
  have:(l.map rk++(rL acc r).map rk).Perm (rk r::(l.map rk++acc.map rk)):=by
   refine ((iC _).append ((MY acc r).map rk)).trans ?_;rw[dR];exact gS
  rw[this.nodup_iff,cH,bO,not_or];exact hn
theorem PG {l:List Row} (h:(l.map rk).Nodup):up (KN l):=PE l [] List.Pairwise.nil (by simpa using h)
theorem PH {a b:Int×Int} (h:jc a b=true):¬ jc b a=true:=by rw[Xg h];exact λh=>by cases h
theorem Xm {xs ys:List Row} (hp:xs.Perm ys) (hx:up xs) (hy:up ys):xs=ys:=AV (λa b h=>PH h) xs ys hp hx hy
theorem Fo {xs:List Row} (h:up xs):(xs.map rk).Nodup:=by
 unfold List.Nodup;rw[gP];refine h.imp λh1 e=>?_;rw[e,vl] at h1;cases h1
end OT
namespace OT
open Go
abbrev ca:Type:=List (List UInt8)
def CA {α β:Type} (g:Nat->α->List β):Nat->List α->List β
 | _,[]=>[]
 | i,x::xs=>g i x++CA g (i+1) xs
theorem GZ {O α β:Type} (g:Nat->α->List β) (fin:List β->O):∀ (xs:List α) (i:Nat) (s:List β),ci (λi s x=>.inr (s++g i x)) fin i xs s=fin (s++CA g i xs)
 | [],_,s=>by simp[ci,CA]
 | x::xs,i,s=>by simp only[ci,CA];rw[GZ g fin xs (i+1)];simp[bK]
theorem S6 {α β:Type} {g:Nat->α->List β} {n:Nat}:∀ (xs:List α) (i:Nat),(∀ i x,x ∈ xs->(g i x).length<=n)->(CA g i xs).length<=n*xs.length
 | [],_,_=>by simp[CA]
 | x::xs,i,h=>by
  have h1:=h i x bV;have h2:=S6 xs (i+1) λi y hy=>h i y (bD _ hy);grind [CA,Nat.mul_add]
theorem S7 {α β:Type} {g:Nat->α->List β} {y:β}:∀ {xs:List α} {i:Nat},y ∈ CA g i xs↔∃ (j:Nat) (x:α),xs[j]?=some x/\y ∈ g (i+j) x
 | [],i=>by simp[CA]
 | x::xs,i=>by
  simp only[CA,bO,S7 (xs:=xs)];constructor
  ·rintro (h | ⟨j,z,h1,h2⟩)
   ·exact ⟨0,x,rfl,h⟩
   ·exact ⟨j+1,z,h1,by grind⟩
  grind
def fe (x:ax):Int:=x.2.2.1.2.1
def pz (x:ax):Int:=x.2.2.1.2.2.1
def pA (x:ax):Int:=x.2.2.1.2.2.2.1
def gr (x:ax):Row:=x.2.2.1.2.2.2.2.1
def rz (P:Nat) (p:List UInt8) (s:Nat):List ax:=if bg p s=0 then [] else [((P:Int),(s:Int),(ee (je p s)).1,())]
def rA (P:Nat) (p:List UInt8):List ax:=(List.range (pn p)).flatMap (rz P p)
def cv (ps:ca):List ax:=CA rA 0 ps
def pw (ps:ca) (a b:Int):tt×Bool:=match ps[a.toNat]? with
 | some p=>if b.toNat < pn p/\bg p b.toNat≠0 then ee (je p b.toNat) else (KJ,false)
 | none=>(KJ,false)
def za (p:List UInt8) (s:Nat):Bool:=decide (bg p s=0)||(ee (je p s)).2
def xx (p:List UInt8):Int:=if y0 p=0 then (if (List.range (pn p)).all (za p) then 0 else 5) else y0 p
def qB (ps:ca) (x:ax):Bool:=!decide (fe x=1)||((pw ps (pz x) (pA x)).2&&decide ((pw ps (pz x) (pA x)).1.2.1=2))
def zb (x:ax):Option (Int×Int):=if fe x=1 then some (pz x,pA x) else none
def S8 (x:ax) (r:Row):ax:=(x.1,x.2.1,(x.2.2.1.1,x.2.2.1.2.1,x.2.2.1.2.2.1,x.2.2.1.2.2.2.1,r,x.2.2.1.2.2.2.2.2),x.2.2.2)
def wU (ps:ca) (x:ax):ax:=if fe x=1 then S8 x (pw ps (pz x) (pA x)).1.2.2.2.2.1 else x
def sO (ps:ca) (x:ax):List ax:=if fe x=2 then [] else [wU ps x]
def jH (ps:ca):List ax:=(cv ps).flatMap (sO ps)
def De (ps:ca):Int:=
 if (cv ps).all (qB ps) then
  if ((cv ps).filterMap zb).Nodup then (if ((jH ps).map λx=>rk (gr x)).Nodup then 0 else 8) else 6
 else 4
def ip (ps:ca):Int:=if 12 < ps.length then 2 else if nI xx ps=0 then De ps else nI xx ps
def lP (ps:ca):Prop:=ps.length<=12/\∀ p ∈ ps,ig p
theorem KP {p:List UInt8} (h:xx p=0):ig p/\∀ s,s < pn p->bg p s≠0->(ee (je p s)).2=true:=by
 unfold xx at h;split at h
 ·rename_i h1;split at h
  ·rename_i h2;refine ⟨uT.1 h1,λs hs hz=>?_⟩
   have:=bG.1 h2 s (cD.2 hs);grind [za]
  ·cases h
 grind
theorem zd {α:Type} {c:α->Int}:∀ {xs:List α},nI c xs=0->∀ x ∈ xs,c x=0
 | [],_,_,hx=>by cases hx
 | y::xs,h,x,hx=>by
  simp only[nI] at h;split at h
  ·rename_i hy;rcases aY.1 hx with rfl | hx
   ·exact hy
   ·exact zd h x hx
  grind
theorem Bp {ps:ca} (h:ip ps=0):lP ps/\nI xx ps=0/\De ps=0:=by
 unfold ip at h;split at h
 ·cases h
 ·rename_i h1;split at h
  ·rename_i h2;exact ⟨⟨by omega,λp hp=>(KP (zd h2 p hp)).1⟩,h2,h⟩
  grind
theorem DE {p:List UInt8} (h:ig p) (P:Nat):(rA P p).length<=16:=by
 have:∀ n,((List.range n).flatMap (rz P p)).length<=n:=by
  intro n
  induction n with
  | zero=>simp
  | succ n ih=>
   rw[gC,eP,cB]
   have:(([n]:List Nat).flatMap (rz P p)).length<=1:=by
    simp only[eN,List.flatMap_nil,cY,rz];split <;> simp
   omega
 have h1:=this (pn p);have h2:=h.n;grind [rA]
theorem Df {ps:ca} (h:lP ps):(cv ps).length<=192:=by
 have:=S6 (g:=rA) (n:=16) ps 0 λi p hp=>DE (h.2 p hp) i;unfold cv;have:=h.1;omega
theorem CB {ps:ca} (h:lP ps):(jH ps).length<=192:=by
 have:∀ xs:List ax,(xs.flatMap (sO ps)).length<=xs.length:=by
  intro xs
  induction xs <;> grind [sO]
 grind [Df,jH]
theorem G0 (d:List UInt8):0<=(ee d).1.2.2.1/\0<=(ee d).1.2.2.2.1:=by
 grind [ee]
theorem xN {ps:ca} {x:ax}:x ∈ cv ps↔∃ (P:Nat) (p:List UInt8) (s:Nat),ps[P]?=some p/\s < pn p/\bg p s≠0/\x=((P:Int),(s:Int),(ee (je p s)).1,()):=by
 unfold cv;rw[S7];constructor
 ·rintro ⟨j,p,h1,h2⟩;obtain ⟨s,h3,h4⟩:=dF.1 h2;grind [rz]
 ·rintro ⟨P,p,s,h1,h2,h3,rfl⟩;refine ⟨P,p,h1,dF.2 ⟨s,cD.2 h2,?_⟩⟩
  grind [rz]
theorem xy {ps:ca} {x:ax} (h:x ∈ cv ps):0<=pz x/\0<=pA x:=by
 obtain ⟨P,p,s,_,_,_,rfl⟩:=xN.1 h;exact G0 _
theorem G3 (ps:ca) (h:lP ps):fq.ab (ps,())=some (cv ps,()):=by
 obtain ⟨hl,hp⟩:=h;refine ag (k:=100) λk hk=>(fq.ae k _).trans ?_
 have inner:∀ (self:(ca×(List ax)×Int)->Option fq.O) (e0:(List ax)->Option fq.O) (i:Nat) (hi:i < ps.length) (s:List ax),s.length<=1000->fq.r1 k self e0 (ps,()) ps (i:Int) (s,(0:Int))=self (ps,s++rA i ps[i],af ((i:Int)+1)):=λself e0 i hi s0 hs0=>by
  have bd:=hp _ (aN hi);have hn:=bd.n;have hlen:=bd.len
  have:=oW (B:=λfx v=>fq.b1 fx (λz=>fq.q0 self e0 (ps,()) ps (i:Int) z) (ps,()) ps (i:Int) v) (pn ps[i]) (λ(s:List ax) (j:Int)=>(s,j)) (λj s=>.inr (s++rz i ps[i] j)) (λs=>self (ps,s,af ((i:Int)+1))) (λj s=>s.length<=1000+j) Bys
   (λj hj s fx hI=>by
    show fq.b1 _ _ _ _ _ _=_;unfold fq.b1 rz;have a8:(j:Int) < (pn ps[i]:Int):=by omega
    simp only[aK,aH,aC,aB hi,aA,nS hlen,a8,aJ,aO,qG hlen (show j < 16 by omega)]
    grind [xE,Cw,xw,dc])
   (λj hj s s' hI hf=>by
    grind [rz]) (λs fx hI=>by
    show fq.b1 _ _ _ _ _ _=_;unfold fq.b1;simp only[aK,aH,aC,aB hi,aA,nS hlen,aU,aG,aE]
    rfl) s0 Bys k Bys
  rw[Ff (rz i ps[i])] at this;exact this
 have:=dj (B:=λself v=>fq.B0 k self (λz=>fq.q1 (ps,()) z) (ps,()) v) ps (λ(s:List ax) (i:Int)=>(ps,s,i)) (λi s p=>.inr (s++rA i p)) (λs=>some (s,())) (λi s=>s.length<=16*i) (by rw[an];omega)
  (λi hi s self hI=>by
   show fq.b0 _ _ _ _ _=_
   grind [fq.b0])
  (λi hi s s' hI hf=>by
   grind [DE]) (λs self _=>by
   show fq.b0 _ _ _ _ _=_;unfold fq.b0;simp only[aU,aG,aE]
   rfl) [] (by simp) k Bys
 rw[GZ] at this;exact this
theorem PI (ps:ca) (hl:ps.length<=12) (hp:∀ p ∈ ps,p.length<=maxLen):h_.ab (ps,())=some (nI xx ps,()):=by
 refine ag (k:=100) λk hk=>(h_.ae k _).trans ?_
 have inner:∀ (self:(ca×Int)->Option h_.O) (e0:Unit->Option h_.O) (i:Nat) (hi:i < ps.length),ig ps[i]->h_.r1 k self e0 (ps,()) ps (i:Int) (0:Int)=if (List.range (pn ps[i])).all (za ps[i]) then self (ps,af ((i:Int)+1)) else some ((5:Int),()):=λself e0 i hi bd=>by
  have hn:=bd.n;have hlen:=bd.len
  have:=oW (B:=λfx v=>h_.b1 fx (λz=>h_.q0 self e0 (ps,()) ps (i:Int) z) (ps,()) ps (i:Int) v) (pn ps[i]) (λ(_:Unit) (j:Int)=>j) (λj _=>if za ps[i] j then .inr () else .inl (some ((5:Int),()))) (λs=>self (ps,af ((i:Int)+1))) (λ_ _=>True) Bys
   (λj hj s fx hI=>by
    show h_.b1 _ _ _ _ _ _=_;unfold h_.b1 za;have a8:(j:Int) < (pn ps[i]:Int):=by omega
    simp only[aK,aH,aC,aB hi,aA,nS hlen,a8,aJ,aO,qG hlen (show j < 16 by omega)];by_cases hz:bg ps[i] j=0
    ·grind
    ·have:((0:Int) < (bg ps[i] j:Int)):=by omega
     rw[aX this];simp only[aO,xE bd hj,Cw _ (bH (xw bd hj) Bys),aA,hz,aG,dJ]
     grind)
   (λ_ _ _ _ _ _=>trivial) (λs fx hI=>by
    show h_.b1 _ _ _ _ _ _=_;unfold h_.b1;simp only[aK,aH,aC,aB hi,aA,nS hlen,aU,aG,aE]
    rfl) () trivial k Bys
  rw[vR] at this;exact this
 have:=dj (B:=λself v=>h_.B0 k self (λz=>h_.q1 (ps,()) z) (ps,()) v) ps (λ(_:Unit) (i:Int)=>(ps,i)) (λi _ p=>if xx p=0 then .inr () else .inl (some (xx p,()))) (λ_=>some ((0:Int),())) (λ_ _=>True) (by rw[an];omega)
  (λi hi s self hI=>by
   show h_.b0 _ _ _ _ _=_;unfold h_.b0 xx;have a8:(i:Int) < (ps.length:Int):=by omega
   simp only[a8,aJ,aO,aK,aH,aC,aB hi,aA,Rs _ (hp _ (aN hi))];by_cases h0:y0 ps[i]=0
   ·rw[aX h0];simp only[aR,aE,inner self _ i hi (uT.1 h0),h0,aH];grind
   grind)
  (λ_ _ _ _ _ _=>trivial) (λs self _=>by
   show h_.b0 _ _ _ _ _=_;unfold h_.b0;simp only[aU,aG,aE]
   rfl) () trivial k Bys
 rw[Be xx (λc=>some (c,())) (λ_=>some ((0:Int),()))] at this;refine aL this ?_;grind
theorem G4 (ps:ca) (h:lP ps) (a b:Int) (ha:0<=a) (hb:0<=b):ng.ab (ps,a,b,())=some ((pw ps a b).1,(pw ps a b).2,()):=by
 obtain ⟨hl,hp⟩:=h;obtain ⟨a,rfl⟩:=dB ha;obtain ⟨b,rfl⟩:=dB hb;refine ag (k:=0) λk hk=>(ng.ae k _).trans ?_;show ng.p _=_;unfold ng.p pw;have hw:af ((ps.length:Int) - 1)=(ps.length:Int) - 1:=be Bys;have h0:decide ((0:Int)<=(a:Int))=true:=aX Bys;have h1:decide ((a:Int)<=(ps.length:Int) - 1)=decide (a < ps.length):=by grind
 simp only[mL,hw,h0,h1,aA,dT,aC];by_cases hal:a < ps.length;rotate_left
 ·grind
 rw[aX hal];have bd:=hp _ (aN hal);simp only[aR,aE,aK,aH,aB hal,aA,U5 bd];by_cases hc:b < pn ps[a]/\bg ps[a] b≠0
 ·grind [xE,Cw,xw]
 grind
theorem PJ (ps:ca) (h:lP ps):d6.ab (cv ps,ps,())=some (if (cv ps).all (qB ps) then (if ((cv ps).filterMap zb).Nodup then 0 else 6) else 4,()):=by
 have mF:=Df h;have Iy:∀ x ∈ cv ps,0<=pz x/\0<=pA x:=λx hx=>xy hx;generalize cv ps=xs at mF Iy ⊢;refine ag (k:=300) λk hk=>(d6.ae k _).trans ?_
 have inner:∀ (self:(List ax×Int)->Option d6.O) (e2:Unit->Option d6.O) (i:Nat) (hi:i < xs.length),d6.r2 k self e2 (xs,ps,()) xs (i:Int) (0:Int)=if (xs.take i).any (λy=>decide (fe xs[i]=1)&&(decide (fe y=1)&&(decide (pz xs[i]=pz y)&&decide (pA xs[i]=pA y)))) then some ((6:Int),()) else self (xs,af ((i:Int)+1)):=λself e2 i hi=>by
  have kY:(xs.take i).length=i:=by grind
  have:=dj (B:=λfx v=>d6.b2 fx (λz=>d6.q1 self e2 (xs,ps,()) xs (i:Int) z) (xs,ps,()) xs (i:Int) v) (xs.take i) (λ(_:Unit) (j:Int)=>j) (λ_ _ y=>if decide (fe xs[i]=1)&&(decide (fe y=1)&&(decide (pz xs[i]=pz y)&&decide (pA xs[i]=pA y))) then .inl (some ((6:Int),())) else .inr ()) (λ_=>self (xs,af ((i:Int)+1))) (λ_ _=>True) (by rw[an];omega)
   (λj hj s fx _=>by
    grind [d6.b2,Int.toNat_natCast,fe,pz,pA])
   (λ_ _ _ _ _ _=>trivial) (λs fx _=>by
    rw[kY];show d6.b2 _ _ _ _ _ _=_;unfold d6.b2;simp only[aU,aG,aE]
    rfl) () trivial k Bys
  rw[rK] at this;exact this
 have second:d6.r1 k (xs,ps,()) (xs,(0:Int))=if (xs.filterMap zb).Nodup then some ((0:Int),()) else some ((6:Int),()):=by
  have:=dj (B:=λself v=>d6.B1 k self (λz=>d6.q2 (xs,ps,()) z) (xs,ps,()) v) xs (λ(_:Unit) (i:Int)=>(xs,i)) (λi _ x=>if (xs.take i).any (λy=>decide (fe x=1)&&(decide (fe y=1)&&(decide (pz x=pz y)&&decide (pA x=pA y)))) then .inl (some ((6:Int),())) else .inr ()) (λ_=>some ((0:Int),())) (λ_ _=>True) (by rw[an];omega)
   (λi hi s self _=>by
    show d6.b1 _ _ _ _ _=_
    grind [d6.b1])
   (λ_ _ _ _ _ _=>trivial) (λs self _=>by
    show d6.b1 _ _ _ _ _=_;unfold d6.b1;simp only[aU,aG,aE]
    rfl) () trivial k Bys
  rw[GY zb (some ((6:Int),())) (λ_=>some ((0:Int),())) (λx y=>decide (fe x=1)&&(decide (fe y=1)&&(decide (pz x=pz y)&&decide (pA x=pA y)))) (λx y=>?_) xs] at this
  ·exact this
  ·unfold zb;simp only[aD,bF];constructor
   ·rintro ⟨h1,h2,h3,h4⟩;exact ⟨(pz x,pA x),by rw[aM h1],by grind⟩
   grind
 have:=dj (B:=λself v=>d6.b0 self (λz=>d6.Q0 k (xs,ps,()) z) (xs,ps,()) v) xs (λ(_:Unit) (i:Int)=>i) (λi _ x=>if qB ps x then .inr () else .inl (some ((4:Int),()))) (λ_=>d6.r1 k (xs,ps,()) (xs,(0:Int))) (λ_ _=>True) (by rw[an];omega)
  (λi hi s self _=>by
   show d6.b0 _ _ _ _=_;unfold d6.b0 qB;have a8:(i:Int) < (xs.length:Int):=by omega
   obtain ⟨g1,g2⟩:=Iy _ (aN hi);have Pb:ng.ab (ps,(xs[i]).2.2.1.2.2.1,(xs[i]).2.2.1.2.2.2.1,())=some ((pw ps (pz xs[i]) (pA xs[i])).1,(pw ps (pz xs[i]) (pA xs[i])).2,()):=G4 ps h _ _ g1 g2
   grind [Int.natCast_nonneg,Int.toNat_natCast,fe])
  (λ_ _ _ _ _ _=>trivial) (λs self _=>by
   show d6.b0 _ _ _ _=_;unfold d6.b0;simp only[aU,aG,aE]
   rfl) () trivial k Bys
 rw[tr (qB ps) (some ((4:Int),())) (λ_=>d6.r1 k (xs,ps,()) (xs,(0:Int)))] at this;refine aL this ?_;grind
theorem DF (ps:ca) (h:lP ps):jn.ab (ps,())=some (jH ps,()):=by
 refine ag (k:=300) λk hk=>(jn.ae k _).trans ?_;unfold jn.p;rw[G3 ps h];simp only[aA];have mF:=Df h;have Iy:∀ x ∈ cv ps,0<=pz x/\0<=pA x:=λx hx=>xy hx;unfold jH;generalize cv ps=xs at mF Iy ⊢
 have:=dj (B:=λself v=>jn.b0 self (λz=>jn.q0 (ps,()) xs z) (ps,()) xs v) xs (λ(s:List ax) (i:Int)=>(s,i)) (λi s x=>.inr (s++sO ps x)) (λs=>some (s,())) (λi s=>s.length<=i) (by rw[an];omega)
  (λi hi s self hI=>by
   show jn.b0 _ _ _ _ _=_;unfold jn.b0 sO;have a8:(i:Int) < (xs.length:Int):=by omega
   obtain ⟨g1,g2⟩:=Iy _ (aN hi);have Pb:ng.ab (ps,(xs[i]).2.2.1.2.2.1,(xs[i]).2.2.1.2.2.2.1,())=some ((pw ps (pz xs[i]) (pA xs[i])).1,(pw ps (pz xs[i]) (pA xs[i])).2,()):=G4 ps h _ _ g1 g2;have pK:∀ y:ax,s.length+[y].length<=ct:=λy=>dc (by grind);simp only[a8,aJ,aO,aK,bS,aH,aC,aB hi,aA,Pb,pK];show (bif decide (fe xs[i]=2) then _ else bif decide (fe xs[i]=1) then _ else _)=_;unfold wU;by_cases c2:fe xs[i]=2
   ·grind
   ·by_cases c1:fe xs[i]=1
    ·simp only[c1,c2,aJ,aG,aO,aE,aH,aS];rfl
    grind)
  (λi hi s s' hI hf=>by
   grind [sO]) (λs self _=>by
   show jn.b0 _ _ _ _ _=_;unfold jn.b0;simp only[aU,aG,aE]
   rfl) [] (by simp) k Bys
 rw[Ff (sO ps)] at this;exact this
def Zg (x:ax):Option (Int×Int):=some (rk (gr x))
theorem Rt (ps:ca) (hp:∀ p ∈ ps,p.length<=maxLen):ic.ab (ps,())=some (ip ps,()):=by
 refine ag (k:=300) λk hk=>(ic.ae k _).trans ?_;unfold ic.p ip;by_cases hl:12 < ps.length
 ·grind
 have xZ:¬ ((12:Int) < (ps.length:Int)):=by omega
 simp only[xZ,aG,aE,hl,aS,PI ps Bys hp,aA];by_cases hc:nI xx ps=0;rotate_left
 ·grind
 have h:lP ps:=⟨by omega,λp hp=>(KP (zd hc p hp)).1⟩
 simp only[hc,aJ,aR,aE,aH,G3 ps h,PJ ps h,DF ps h,aA];unfold De;by_cases h1:(cv ps).all (qB ps)=true;rotate_left
 ·grind
 by_cases h2:((cv ps).filterMap zb).Nodup;rotate_left
 ·grind
 simp only[h1,h2,aH,aJ,aR,aE];have mF:=CB h;generalize jH ps=xs at mF ⊢
 have inner:∀ (self:(List ax×Int)->Option ic.O) (e0:Unit->Option ic.O) (i:Nat) (hi:i < xs.length),ic.r1 k self e0 (ps,()) xs (i:Int) (0:Int)=if (xs.take i).any (λy=>decide ((gr xs[i]).1=(gr y).1)&&decide ((gr xs[i]).2.1=(gr y).2.1)) then some ((8:Int),()) else self (xs,af ((i:Int)+1)):=λself e0 i hi=>by
  have kY:(xs.take i).length=i:=by grind
  have:=dj (B:=λfx v=>ic.b1 fx (λz=>ic.q0 self e0 (ps,()) xs (i:Int) z) (ps,()) xs (i:Int) v) (xs.take i) (λ(_:Unit) (j:Int)=>j) (λ_ _ y=>if decide ((gr xs[i]).1=(gr y).1)&&decide ((gr xs[i]).2.1=(gr y).2.1) then .inl (some ((8:Int),())) else .inr ()) (λ_=>self (xs,af ((i:Int)+1))) (λ_ _=>True) (by rw[an];omega)
   (λj hj s fx _=>by
    grind [ic.b1,Int.toNat_natCast,gr])
   (λ_ _ _ _ _ _=>trivial) (λs fx _=>by
    rw[kY];show ic.b1 _ _ _ _ _ _=_;unfold ic.b1;simp only[aU,aG,aE]
    rfl) () trivial k Bys
  rw[rK] at this;exact this
 have:=dj (B:=λself v=>ic.B0 k self (λz=>ic.q1 (ps,()) z) (ps,()) v) xs (λ(_:Unit) (i:Int)=>(xs,i)) (λi _ x=>if (xs.take i).any (λy=>decide ((gr x).1=(gr y).1)&&decide ((gr x).2.1=(gr y).2.1)) then .inl (some ((8:Int),())) else .inr ()) (λ_=>some ((0:Int),())) (λ_ _=>True) (by rw[an];omega)
  (λi hi s self _=>by
   show ic.b0 _ _ _ _ _=_
   grind [ic.b0])
  (λ_ _ _ _ _ _=>trivial) (λs self _=>by
   show ic.b0 _ _ _ _ _=_;unfold ic.b0;simp only[aU,aG,aE]
   rfl) () trivial k Bys
 rw[GY Zg (some ((8:Int),())) (λ_=>some ((0:Int),())) (λx y=>decide ((gr x).1=(gr y).1)&&decide ((gr x).2.1=(gr y).2.1)) (λx y=>?_) xs] at this
 ·refine aL this ?_;grind [Zg]
 ·unfold Zg rk;grind
end OT
namespace OT
open Go Go.Sort
abbrev D8:Ty:=.arr 2 i64
theorem D9 (a b c d:Int):Ty.eq D8 [a,b] [c,d]=(decide (a=c)&&decide (b=d)):=by
 simp_all [Ty.eq]
theorem Js (a b:Int):((List.replicate 2 (0:Int)).set 0 a).set 1 b=[a,b]:=rfl
theorem G5 {α:Type} (k:Ty) (m:List (k.den×α)) (x:k.den) (y:α) (h:∀ e ∈ m,k.eq x e.1=false):nG k m x y=m++[(x,y)]:=by
 grind [nG]
def jq (x:ax):List Seen:=if fe x=0 then [(gr x,x.1,x.2.1,false,x.1,x.2.1,())] else []
def gz (x:ax):List Seen:=if fe x=1 then [(Cv,x.1,x.2.1,true,pz x,pA x,())] else []
def mM (x:ax):List (List Int×Row):=if fe x=2 then [([x.1,x.2.1],gr x)] else []
theorem Fq (d:List UInt8):(ee d).2=true->(ee d).1.1=0/\((ee d).1.2.1=0\/(ee d).1.2.1=1\/(ee d).1.2.1=2):=by
 grind [ee]
def BD (ps:ca):Prop:=lP ps/\∀ p ∈ ps,∀ s,s < pn p->bg p s≠0->(ee (je p s)).2=true
theorem PK {ps:ca} (hl:ps.length<=12) (h:nI xx ps=0):BD ps:=
 ⟨⟨hl,λp hp=>(KP (zd h p hp)).1⟩,λp hp=>(KP (zd h p hp)).2⟩
theorem Xn {ps:ca} (h:BD ps) {x:ax} (hx:x ∈ cv ps):fe x=0\/fe x=1\/fe x=2:=by
 obtain ⟨P,p,s,h1,h2,h3,rfl⟩:=xN.1 hx;exact (Fq _ (h.2 p (bU h1) s h2 h3)).2
theorem KQ (S:List ax):(S.flatMap jq).length<=S.length/\(S.flatMap gz).length<=S.length:=by
 induction S <;> grind [jq,gz]
theorem S9 {ps:ca} (h:BD ps) (a b:Int) (ha:0<=a) (hb:0<=b):jY D8 ((cv ps).flatMap mM) [a,b]=if (pw ps a b).2&&decide ((pw ps a b).1.2.1=2) then some (pw ps a b).1.2.2.2.2.1 else none:=by
 obtain ⟨a,rfl⟩:=dB ha;obtain ⟨b,rfl⟩:=dB hb;unfold jY
 have at_:∀ x ∈ cv ps,x.1=(a:Int)->x.2.1=(b:Int)->pw ps (a:Int) (b:Int)=(x.2.2.1,true):=λx hx e1 e2=>by
  obtain ⟨P,p,s,h1,h2,h3,rfl⟩:=xN.1 hx;have e1:(P:Int)=(a:Int):=e1;have e2:(s:Int)=(b:Int):=e2;have e1:P=a:=by omega
  have e2:s=b:=by omega
  subst e1;subst e2;unfold pw;simp only[aC,h1];rw[aM ⟨h2,h3⟩];have:=h.2 p (bU h1) s h2 h3;rw[<-this]
 cases hf:((cv ps).flatMap mM).find? (λe=>Ty.eq D8 [(a:Int),(b:Int)] e.1) with
 | some e=>
  have hm:=cT hf;have hp:=gD hf;obtain ⟨x,hx,SA⟩:=dF.1 hm;unfold mM at SA;split at SA
  ·rename_i h2;rw[bL] at SA;subst SA;rw[D9,aD,bF,bF] at hp;have hg:=at_ x hx hp.1.symm hp.2.symm;rw[hg];have:(x.2.2.1).2.1=2:=h2;simp only[this,aJ,gQ,aH,bN];rfl
  ·cases SA
 | none=>
  rw[aV]
  ·rfl
  ·intro hc;rw[aD,bF] at hc;obtain ⟨c1,c2⟩:=hc
   have:∃ x ∈ cv ps,x.1=(a:Int)/\x.2.1=(b:Int)/\fe x=2:=by
    unfold pw at c1 c2;simp only[aC] at c1 c2
    cases hpa:ps[a]? with
    | none=>grind
    | some p=>
     rw[hpa] at c1 c2;simp only at c1 c2;by_cases hc:b < pn p/\bg p b≠0
     ·rw[aM hc] at c2;exact ⟨_,xN.2 ⟨a,p,b,hpa,hc.1,hc.2,rfl⟩,rfl,rfl,c2⟩
     grind
   grind [mM,D9]
def qx (x:ax):Seen:=(gr x,x.1,x.2.1,decide (fe x=1),(if fe x=1 then pz x else x.1),(if fe x=1 then pA x else x.2.1),())
def Aa (ps:ca) (y:Seen):Seen:=(CQ (jY D8 ((cv ps).flatMap mM) [y.2.2.2.2.1,y.2.2.2.2.2.1]) Cv,y.2)
def H7 (ps:ca):List Seen:=(cv ps).flatMap jq++((cv ps).flatMap gz).map (Aa ps)
theorem U7 {ps:ca} (h:BD ps) (hs:(cv ps).all (qB ps)=true):(H7 ps).Perm ((jH ps).map qx):=by
 unfold H7 jH;have tV:=bG.1 hs;have DY:∀ x ∈ cv ps,fe x=0\/fe x=1\/fe x=2:=λx hx=>Xn h hx;have Iy:∀ x ∈ cv ps,0<=pz x/\0<=pA x:=λx hx=>xy hx
 have key:∀ S:List ax,(∀ x ∈ S,x ∈ cv ps)->(S.flatMap jq++(S.flatMap gz).map (Aa ps)).Perm ((S.flatMap (sO ps)).map qx):=by
  intro S
  induction S with
  | nil=>grind
  | cons x S ih=>
   intro hS;have ih:=ih λy hy=>hS y (bD _ hy);have hx:=hS x bV;simp only[eN,fJ];rcases DY x hx with h0 | h1 | h2
   ·simp_all [jq,qx,wU,gz,sO]
   ·have e1:jq x=[]:=by grind [jq]
    have e3:sO ps x=[wU ps x]:=by grind [sO]
    have e2:(gz x).map (Aa ps)=[qx (wU ps x)]:=by
     unfold gz;rw[aM h1];simp only[dR,gW];obtain ⟨g1,g2⟩:=Iy x hx;have dt:=tV x hx;unfold qB at dt;rw[aX h1] at dt;simp only[aR,dJ] at dt;have hg:=S9 h (pz x) (pA x) g1 g2;rw[aM dt] at hg;unfold Aa;simp only[hg,CQ];unfold wU;rw[aM h1];have Zh:fe (S8 x (pw ps (pz x) (pA x)).1.2.2.2.2.1)=1:=h1;unfold qx;rw[aM Zh,aM Zh,aX Zh];rfl
    grind
   grind [jq,gz,sO]
 grind
def D_ (x y:Seen):Bool:=jc (rk x.1) (rk y.1)
def S_ (x y:Seen):Int:=if jc (x.1.1,x.1.2.1) (y.1.1,y.1.2.1) then -1 else if jc (y.1.1,y.1.2.1) (x.1.1,x.1.2.1) then 1 else 0
theorem Xo:Go.Proofs.ltOf S_=D_:=by
 funext x y;exact Xh x.1 y.1
theorem Zi (x y:Seen):pF.ab (x,y,())=some (S_ x y,()):=by
 refine ag (k:=0) λk hk=>(pF.ae k _).trans ?_;show pF.p _=_;unfold pF.p;rw[E2];rfl
theorem ael:SWO D_ where
 irrefl x:=vl _
 trans x y z h1 h2:=vk h1 h2
 ntrans x y z h1 h2:=by
  grind [D_,vk,zK]
def Jt (xs:List Seen) (x:Seen):List Seen:=xs.take (pos (xs.map (·.1)) (rk x.1))++[x]++xs.drop (pos (xs.map (·.1)) (rk x.1))
def Fs (l:List Seen):List Seen:=l.foldl Jt []
theorem Zj (xs:List Seen) (x:Seen):(Jt xs x).map (·.1)=rL (xs.map (·.1)) x.1:=by
 grind [Jt,rL,List.map_take,List.map_drop]
theorem Xp (xs:List Seen) (x:Seen):(Jt xs x).Perm (x::xs):=by
 grind [Jt,List.take_append_drop]
theorem MZ (l:List Seen):(Fs l).map (·.1)=KN (l.map (·.1)):=by
 have main:∀ (l acc:List Seen),(l.foldl Jt acc).map (·.1)=(l.map (·.1)).foldl rL (acc.map (·.1)):=by
  intro l
  induction l <;> grind [Zj]
 exact main l []
theorem KR (l:List Seen):(Fs l).Perm l:=by
 have main:∀ (l acc:List Seen),(l.foldl Jt acc).Perm (l++acc):=by
  intro l
  induction l <;> grind [Xp]
 have:=main l [];rw[cY] at this;exact this
def M0 (xs:List Seen):Prop:=xs.Pairwise λx y=>D_ x y=true
theorem Ta {xs:List Seen}:M0 xs↔up (xs.map (·.1)):=by
 unfold M0 up;rw[gP];rfl
theorem PL {l r:List Seen} (hp:r.Perm l) (hr:M0 r) (hn:(l.map λx=>rk x.1).Nodup):r=Fs l:=by
 refine AV (lt:=λx y=>D_ x y=true) (λa b h=>PH h) r (Fs l) (hp.trans (KR l).symm) hr (Ta.2 ?_);grind [MZ,PG]
theorem Xq {r:List Seen} (h:M0 r):(r.map λx=>rk x.1).Nodup:=by
 have:=Fo (Ta.1 h);grind
def Ft:List Seen->Bool
 | x::y::l=>D_ x y&&Ft (y::l)
 | _=>true
theorem Xr:∀ (l:List Seen),Ft l=true->M0 l
 | [],_=>List.Pairwise.nil
 | [x],_=>List.pairwise_singleton _ _
 | x::y::l,h=>by
  simp only[Ft,aD] at h;have ih:=Xr (y::l) h.2;refine dP.2 ⟨λz hz=>?_,ih⟩;rcases aY.1 hz with rfl | hz
  ·exact h.1
  ·exact vk h.1 ((dP.1 ih).1 z hz)
theorem Tb:∀ (l:List Seen),M0 l->Ft l=true
 | [],_=>rfl
 | [x],_=>rfl
 | x::y::l,h=>by
  obtain ⟨h1,h2⟩:=dP.1 h;simp only[Ft,aD];exact ⟨h1 y bV,Tb (y::l) h2⟩
theorem Xs {r:List Seen} (h:r.Pairwise λx y=>D_ y x=false) (hn:(r.map λx=>rk x.1).Nodup):M0 r:=by
 unfold M0
 have h2:r.Pairwise λx y=>rk x.1≠rk y.1:=by
  grind
 refine (h.and h2).imp λ{x y} ⟨g1,g2⟩=>?_;grind [D_,zK]
end OT
namespace OT
open Go Go.Sort
theorem Zk (z:List Seen) (hl:z.length<=1000):∃ r:List Seen,(∀ f:Nat×Int,pZ.ab (z,f,())=some (r,()))/\r.Perm z/\r.Pairwise λx y=>D_ y x=false:=by
 have hs:SWO (Go.Proofs.ltOf S_):=by rw[Xo];exact ael
 have h1:=O_ (e:=gt) (cs:=pF.ab) (cf:=S_) (λx y=>Zi x y) hs z (dc (bH hl Bys));have h2:=Pa (α:=gt.den) (lt:=Go.Proofs.ltOf S_) hs z;refine ⟨_,λf=>?_,h2.1,?_⟩
 ·show (Bf gt pF.ab z).map (λr=>(r,()))=_;rw[h1];rfl
 ·exact h2.2.imp λ{x y} (h:Go.Proofs.ltOf (α:=Seen) S_ y x=false)=>by simp_all [Xo]
theorem PN {O:Type} (r:List Seen) (bad e:O):∀ (l pre:List Seen) (x:Seen),r=pre++x::l->ci (λi (_:Unit) y=>if (match r[i]? with | some z=>D_ z y | none=>true) then .inr () else .inl bad) (λ_=>e) pre.length l ()=if Ft (x::l) then e else bad
 | [],pre,x,_=>by simp[ci,Ft]
 | y::l,pre,x,h=>by
  have hx:r[pre.length]?=some x:=by grind
  simp only[ci,hx,Ft];by_cases hc:D_ x y=true;rotate_left
  ·grind
  ·simp only[hc,aH,dT];have:=PN r bad e l (pre++[x]) y (by rw[h];simp);grind
theorem Zl (ps:ca) (k:Nat) (hk:300<=k) (r:List Seen) (hl:r.length<=192):am (λself v=>cc.B4 k self (λz=>cc.Q4 k (ps,()) r z) (ps,()) r v) k 1=if Ft r then some (r,(0:Int),()) else some (([]:List Seen),(8:Int),()):=by
 have:=dj (B:=λself v=>cc.B4 k self (λz=>cc.Q4 k (ps,()) r z) (ps,()) r v) (r.drop 1) (λ(_:Unit) (i:Int)=>i+1) (λi _ y=>if (match r[i]? with | some z=>D_ z y | none=>true) then .inr () else .inl (some (([]:List Seen),(8:Int),()))) (λ_=>some (r,(0:Int),())) (λ_ _=>True) (by grind [an])
  (λi hi s self _=>by
   rw[bX] at hi;show cc.b4 _ _ _ _ _=_;unfold cc.b4;have a8:(i:Int)+1 < (r.length:Int):=by omega
   have O9:(i:Int) < (r.length:Int):=by omega
   have Iy:(0:Int)<=(i:Int)+1:=by omega
   have xn:af ((i:Int)+1 - 1)=(i:Int):=by grind [be]
   have An:af ((i:Int)+1+1)=af ((i:Int)+1)+1:=by grind [be]
   have htn:((i:Int)+1).toNat=i+1:=by omega
   have hg:(r.drop 1)[i]'(by grind)=r[i+1]'Bys:=by grind
   rw[hg];simp only[a8,O9,Iy,xn,An,htn,aJ,aO,aK,bS,aH,aC,aB (show i < r.length by omega),aB (show i+1 < r.length by omega),aA,DC];show (bif !D_ r[i] (r[i+1]'Bys) then _ else _)=_
   grind)
  (λ_ _ _ _ _ _=>trivial) (λs self _=>by
   rw[bX];show cc.b4 _ _ _ _ _=_;unfold cc.b4;have a8:¬ (((r.length - 1:Nat):Int)+1 < (r.length:Int)):=by omega
   simp only[a8,aG,aE]
   rfl) () trivial k (by grind)
 refine aL this ?_
 cases r with
 | nil=>rfl
 | cons x l=>
  exact PN (x::l) _ _ l [] x rfl
def ze (ps:ca):List Seen:=if ip ps=0 then Fs ((jH ps).map qx) else []
def aas (ps:ca):List Seen:=if De ps=0 then Fs ((jH ps).map qx) else []
def NW (y:Seen):Option (Int×Int):=some (y.2.2.2.2.1,y.2.2.2.2.2.1)
def NX (y:Seen):List Int×Bool:=([y.2.2.2.2.1,y.2.2.2.2.2.1],true)
theorem PO (T:List Seen) (a b:Int):CQ (jY D8 (T.map NX) [a,b]) false=T.any λy=>decide (a=y.2.2.2.2.1)&&decide (b=y.2.2.2.2.2.1):=by
 induction T with
 | nil=>rfl
 | cons y T ih=>
  have hk:Ty.eq D8 [a,b] (NX y).1=(decide (a=y.2.2.2.2.1)&&decide (b=y.2.2.2.2.2.1)):=D9 _ _ _ _;unfold jY at ih ⊢;rw[dR,hK,fZ,hk]
  cases (decide (a=y.2.2.2.2.1)&&decide (b=y.2.2.2.2.2.1)) with
  | true=>rfl
  | false=>simpa using ih
theorem Zm (S:List ax):(S.flatMap gz).filterMap NW=S.filterMap zb:=by
 induction S <;> grind [gz,zb,NW]
theorem Ru (ps:ca) (h:BD ps):cc.ab (ps,())=some (aas ps,De ps,()):=by
 obtain ⟨hl,hp⟩:=h.1;have mF:=Df h.1;refine ag (k:=300) λk hk=>(cc.ae k _).trans ?_
 have inner:∀ (self:(List Seen×List Seen×List (List Int×Row)×ca×Int×Int)->Option cc.O) (e0:(List Seen×List Seen×List (List Int×Row))->Option cc.O) (i:Nat) (hi:i < ps.length) (S:List ax),S.length<=16*i->(∀ x ∈ S,x.1 < (i:Int)) ->
   cc.r1 k self e0 (ps,()) (i:Int) ps[i] ps (ps.length:Int) (pn ps[i]:Int) (S.flatMap jq,S.flatMap gz,S.flatMap mM,(0:Int))=self ((S++rA i ps[i]).flatMap jq,(S++rA i ps[i]).flatMap gz,(S++rA i ps[i]).flatMap mM,ps,(ps.length:Int),af ((i:Int)+1)):=λself e0 i hi S0 hS0 oh=>by
  have bd:=hp _ (aN hi);have hn:=bd.n;have hlen:=bd.len;have to:=h.2 _ (aN hi)
  have:=oW (B:=λfx v=>cc.B1 k fx (λz=>cc.Q0 k self e0 (ps,()) (i:Int) ps[i] ps (ps.length:Int) (pn ps[i]:Int) z) (ps,()) (i:Int) ps[i] ps (ps.length:Int) (pn ps[i]:Int) v) (pn ps[i]) (λ(S:List ax) (j:Int)=>(S.flatMap jq,S.flatMap gz,S.flatMap mM,j)) (λj S=>.inr (S++rz i ps[i] j)) (λS=>self (S.flatMap jq,S.flatMap gz,S.flatMap mM,ps,(ps.length:Int),af ((i:Int)+1))) (λj S=>S.length<=16*i+j/\∀ x ∈ S,x.1 < (i:Int)\/(x.1=(i:Int)/\x.2.1 < (j:Int))) Bys
   (λj hj S fx ⟨hI1,hI2⟩=>by
    show cc.b1 _ _ _ _ _ _ _ _ _=_;unfold cc.b1 rz;have a8:(j:Int) < (pn ps[i]:Int):=by omega
    simp only[a8,aJ,aO,y9 bd,hj,dT,aA];by_cases hz:bg ps[i] j=0
    ·grind
    ·have Gu:=to j hj hz;obtain ⟨f1,f2⟩:=Fq _ Gu;obtain ⟨l1,l2⟩:=KQ S;have pK:∀ (T:List Seen) (y:Seen),T.length<=S.length->T.length+[y].length<=ct:=λT y hT=>dc (by grind);simp only[hz,aG,bW,aR,aE,AU bd hj,FV _ (bH (xw bd hj) Bys),Gu,aH,aS,aA,f1,aJ,pK _ _ l1,pK _ _ l2,Js]
     obtain ⟨x,hx⟩:∃ x:ax,x=((i:Int),(j:Int),(ee (je ps[i] j)).1,()):=⟨_,rfl⟩
     have hxf:fe x=(ee (je ps[i] j)).1.2.1:=by rw[hx];rfl
     rw[<-hx];simp only[eP,eN,List.flatMap_nil,cY];rcases f2 with g | g | g
     ·have e1:jq x=[((ee (je ps[i] j)).1.2.2.2.2.1,(i:Int),(j:Int),false,(i:Int),(j:Int),())]:=by unfold jq;rw[aM (hxf.trans g),hx];rfl
      grind [gz,mM]
     ·have e1:jq x=[]:=by grind [jq]
      have e2:gz x=[(Cv,(i:Int),(j:Int),true,(ee (je ps[i] j)).1.2.2.1,(ee (je ps[i] j)).1.2.2.2.1,())]:=by unfold gz;rw[aM (hxf.trans g),hx];rfl
      grind [mM]
     ·have e1:jq x=[]:=by grind [jq]
      have e2:gz x=[]:=by grind [gz]
      have e3:mM x=[([(i:Int),(j:Int)],(ee (je ps[i] j)).1.2.2.2.2.1)]:=by unfold mM;rw[aM (hxf.trans g),hx];rfl
      rw[e1,e2,e3];have n1:¬ ((2:Int)=0):=by decide
      have BZ:nG D8 (S.flatMap mM) [(i:Int),(j:Int)] (ee (je ps[i] j)).1.2.2.2.2.1=S.flatMap mM++[([(i:Int),(j:Int)],(ee (je ps[i] j)).1.2.2.2.2.1)]:=G5 D8 _ _ _ λe he=>by
       grind [mM,D9]
      grind)
   (λj hj S S' ⟨hI1,hI2⟩ hf=>by
    grind [rz]) (λS fx hI=>by
    show cc.b1 _ _ _ _ _ _ _ _ _=_;unfold cc.b1;simp only[aU,aG,aE]
    rfl) S0 ⟨by omega,λx hx=>.inl (oh x hx)⟩ k Bys
  rw[Ff (rz i ps[i])] at this;exact this
 have outer:cc.r0 k (ps,()) (([]:List Seen),([]:List Seen),([]:List (List Int×Row)),ps,(ps.length:Int),(0:Int))=cc.Q1 k (ps,()) ((cv ps).flatMap jq,(cv ps).flatMap gz,(cv ps).flatMap mM):=by
  have:=dj (B:=λself v=>cc.B0 k self (λz=>cc.Q1 k (ps,()) z) (ps,()) v) ps (λ(S:List ax) (i:Int)=>(S.flatMap jq,S.flatMap gz,S.flatMap mM,ps,(ps.length:Int),i)) (λi S p=>.inr (S++rA i p)) (λS=>cc.Q1 k (ps,()) (S.flatMap jq,S.flatMap gz,S.flatMap mM)) (λi S=>S.length<=16*i/\∀ x ∈ S,x.1 < (i:Int)) (by rw[an];omega)
   (λi hi S self ⟨hI1,hI2⟩=>by
    show cc.b0 _ _ _ _ _=_;unfold cc.b0;have a8:(i:Int) < (ps.length:Int):=by omega
    have hlen:=(hp _ (aN hi)).len
    grind [uU])
   (λi hi S S' ⟨hI1,hI2⟩ hf=>by
    injection hf with hf;subst hf;have:=DE (hp _ (aN hi)) i;refine ⟨by grind,λx hx=>?_⟩
    rcases bO.1 hx with hx | hx
    ·grind
    ·obtain ⟨s,_,hs⟩:=dF.1 hx
     grind [rz]) (λS self hI=>by
    show cc.b0 _ _ _ _ _=_
    grind [cc.b0]) [] ⟨by simp,λx hx=>by cases hx⟩ k Bys
  rw[GZ] at this;exact this
 show cc.r0 k (ps,()) (([]:List Seen),([]:List Seen),([]:List (List Int×Row)),ps,(ps.length:Int),(0:Int))=_;rw[outer];show cc.q1 _ _ _=_;unfold cc.q1;obtain ⟨gl1,gl2⟩:=KQ (cv ps)
 have hT:∀ y ∈ (cv ps).flatMap gz,∃ x ∈ cv ps,fe x=1/\y=(Cv,x.1,x.2.1,true,pz x,pA x,()):=λy hy=>by
  grind [gz]
 have l2w:cc.r2 k (ps,()) ((cv ps).flatMap jq) ((cv ps).flatMap gz) ((cv ps).flatMap mM) (((cv ps).flatMap gz).length:Int) (0:Int)=if (cv ps).all (qB ps) then cc.Q2 k (ps,()) ((cv ps).flatMap jq) ((cv ps).flatMap gz) ((cv ps).flatMap mM) (((cv ps).flatMap gz).length:Int) () else some (([]:List Seen),(4:Int),()):=by
  obtain ⟨T,hTd⟩:∃ T,T=(cv ps).flatMap gz:=⟨_,rfl⟩
  obtain ⟨M,hM⟩:∃ M,M=(cv ps).flatMap mM:=⟨_,rfl⟩
  rw[<-hTd,<- hM];have hTl:T.length<=192:=by grind
  have:=dj (B:=λself v=>cc.B2 k self (λz=>cc.Q2 k (ps,()) ((cv ps).flatMap jq) T M (T.length:Int) z) (ps,()) ((cv ps).flatMap jq) T M (T.length:Int) v) T (λ(_:Unit) (i:Int)=>i) (λi _ y=>if (jY D8 M [y.2.2.2.2.1,y.2.2.2.2.2.1]).isSome then .inr () else .inl (some (([]:List Seen),(4:Int),()))) (λ_=>cc.Q2 k (ps,()) ((cv ps).flatMap jq) T M (T.length:Int) ()) (λ_ _=>True) (by rw[an];omega)
   (λi hi s self _=>by
    grind [cc.b2,Int.toNat_natCast,Js,List.length_replicate])
   (λ_ _ _ _ _ _=>trivial) (λs self _=>by
    grind [cc.b2]) () trivial k Bys
  rw[tr (λy:Seen=>(jY D8 M [y.2.2.2.2.1,y.2.2.2.2.2.1]).isSome) (some (([]:List Seen),(4:Int),())) (λ_=>cc.Q2 k (ps,()) ((cv ps).flatMap jq) T M (T.length:Int) ())] at this;refine aL this ?_
  have hb:T.all (λy:Seen=>(jY D8 M [y.2.2.2.2.1,y.2.2.2.2.2.1]).isSome)=(cv ps).all (qB ps):=by
   have rU:∀ x ∈ cv ps,fe x=1->(jY D8 M [pz x,pA x]).isSome=qB ps x:=λx hx hf=>by
    grind [xy,S9,qB]
   grind [gz,qB]
  rw[hb]
 rw[l2w];unfold aas De;by_cases dt:(cv ps).all (qB ps)=true;rotate_left
 ·grind
 simp only[dt,aH];show cc.q2 _ _ _ _ _ _ _=_;unfold cc.q2
 have l3w:cc.r3 k (ps,()) ((cv ps).flatMap jq) ((cv ps).flatMap gz) ((cv ps).flatMap mM) (((cv ps).flatMap gz).length:Int) ((cv ps).flatMap gz) ((cv ps).flatMap mM) (((cv ps).flatMap gz).length:Int) ((cv ps).flatMap jq,([]:List (List Int×Bool)),(0:Int))=if ((cv ps).filterMap zb).Nodup then cc.Q3 k (ps,()) ((cv ps).flatMap gz) ((cv ps).flatMap mM) (((cv ps).flatMap gz).length:Int) (H7 ps) else some (([]:List Seen),(6:Int),()):=by
  have NY:=Zm (cv ps);unfold H7
  obtain ⟨T,hTd⟩:∃ T,T=(cv ps).flatMap gz:=⟨_,rfl⟩
  obtain ⟨M,hM⟩:∃ M,M=(cv ps).flatMap mM:=⟨_,rfl⟩
  obtain ⟨L,hL⟩:∃ L,L=(cv ps).flatMap jq:=⟨_,rfl⟩
  have aeH:∀ y:Seen,Aa ps y=(CQ (jY D8 M [y.2.2.2.2.1,y.2.2.2.2.2.1]) Cv,y.2):=λy=>by grind [Aa]
  rw[<-hTd,<- hM,<- hL];rw[<-hTd] at NY;have hTl:T.length<=192:=by grind
  have hLl:L.length<=192:=by rw[hL];omega
  have:=dj (B:=λself v=>cc.B3 k self (λz=>cc.Q3 k (ps,()) T M (T.length:Int) z) (ps,()) T M (T.length:Int) v) T (λ(_:Unit) (i:Int)=>(L++(T.take i.toNat).map (Aa ps),(T.take i.toNat).map NX,i)) (λi _ y=>if (T.take i).any (λz=>decide (y.2.2.2.2.1=z.2.2.2.2.1)&&decide (y.2.2.2.2.2.1=z.2.2.2.2.2.1)) then .inl (some (([]:List Seen),(6:Int),())) else .inr ()) (λ_=>cc.Q3 k (ps,()) T M (T.length:Int) (L++T.map (Aa ps))) (λ_ _=>True) (by rw[an];omega)
   (λi hi s self _=>by
    show cc.b3 _ _ _ _ _ _ _=_;unfold cc.b3;have a8:(i:Int) < (T.length:Int):=by omega
    have pK:∀ y:Seen,(L++(T.take i).map (Aa ps)).length+[y].length<=ct:=λy=>dc (by grind);have hw:(af ((i:Int)+1)).toNat=i+1:=by grind [be]
    have rm:T.take (i+1)=T.take i++[T[i]]:=dV hi;simp only[a8,aJ,aO,aK,bS,aH,aC,aB hi,aA,Js,cR,bB,show (0:Nat) < 2 by omega,show (1:Nat) < 2 by omega,PO,pK,hw,rm,fJ,dR,gW];have htg:=PO (T.take i) (T[i]).2.2.2.2.1 (T[i]).2.2.2.2.2.1
    grind [NX,G5,D9])
   (λ_ _ _ _ _ _=>trivial) (λs self _=>by
    grind [cc.b3,List.take_length]) () trivial k Bys
  rw[GY NW (some (([]:List Seen),(6:Int),())) (λ_=>cc.Q3 k (ps,()) T M (T.length:Int) (L++T.map (Aa ps))) (λy z=>decide (y.2.2.2.2.1=z.2.2.2.2.1)&&decide (y.2.2.2.2.2.1=z.2.2.2.2.2.1)) (λy z=>?_) T,NY] at this
  ·simp only[Int.toNat_zero,List.take_zero,gW,cY] at this;exact this
  ·unfold NW;simp only[aD,bF];constructor
   all_goals grind
 rw[l3w];by_cases rm:((cv ps).filterMap zb).Nodup;rotate_left
 ·grind
 simp only[rm,aH];show cc.q3 _ _ _ _ _ _=_;unfold cc.q3;have aat:=U7 h dt
 have Sk:(H7 ps).length<=192:=by
  have:=aat.length_eq;rw[hU] at this;have:=CB h.1;omega
 obtain ⟨r,xi,wd,hr3⟩:=Zk (H7 ps) Bys;rw[xi];simp only[aA];have xW:r.length<=192:=by have:=wd.length_eq;omega
 have hrp:=wd.trans aat
 have hkn:(r.map λx=>rk x.1).Nodup↔((jH ps).map λx=>rk (gr x)).Nodup:=by
  have h1:(r.map λx=>rk x.1).Perm (((jH ps).map qx).map λx=>rk x.1):=hrp.map _;rw[h1.nodup_iff,List.map_map];exact iG
 refine (Zl ps k hk r xW).trans ?_;by_cases wm:((jH ps).map λx=>rk (gr x)).Nodup
 all_goals grind [Xs,PL,Tb,Xq,Xr]
theorem DG (ps:ca) (hp:∀ p ∈ ps,p.length<=maxLen):fb.ab (ps,())=some (ze ps,ip ps,()):=by
 refine ag (k:=300) λk hk=>(fb.ae k _).trans ?_;unfold fb.p ze ip;by_cases hl:12 < ps.length
 ·grind
 have xZ:¬ ((12:Int) < (ps.length:Int)):=by omega
 simp only[xZ,aG,aE,hl,aS]
 have inner:∀ (self:(ca×ca×Int×Int)->Option fb.O) (e0:ca->Option fb.O) (i:Nat) (hi:i < ps.length),ig ps[i]->fb.r1 k self e0 (ps,()) ps ps[i] ps (ps.length:Int) (i:Int) (pn ps[i]:Int) (0:Int)=if (List.range (pn ps[i])).all (za ps[i]) then self (ps,ps,(ps.length:Int),af ((i:Int)+1)) else some (([]:List Seen),(5:Int),()):=λself e0 i hi bd=>by
  have hn:=bd.n;have hlen:=bd.len
  have:=oW (B:=λfx v=>fb.b1 fx (λz=>fb.q0 self e0 (ps,()) ps ps[i] ps (ps.length:Int) (i:Int) (pn ps[i]:Int) z) (ps,()) ps ps[i] ps (ps.length:Int) (i:Int) (pn ps[i]:Int) v) (pn ps[i]) (λ(_:Unit) (j:Int)=>j) (λj _=>if za ps[i] j then .inr () else .inl (some (([]:List Seen),(5:Int),()))) (λ_=>self (ps,ps,(ps.length:Int),af ((i:Int)+1))) (λ_ _=>True) Bys
   (λj hj s fx hI=>by
    show fb.b1 _ _ _ _ _ _ _ _ _ _=_;unfold fb.b1 za;have a8:(j:Int) < (pn ps[i]:Int):=by omega
    simp only[a8,aJ,aO,y9 bd,hj,dT,aA];by_cases hz:bg ps[i] j=0
    ·grind
    ·simp only[hz,aG,bW,aO,AU bd hj,FV _ (bH (xw bd hj) Bys),aA,dJ]
     grind [Fq])
   (λ_ _ _ _ _ _=>trivial) (λs fx hI=>by
    show fb.b1 _ _ _ _ _ _ _ _ _ _=_;unfold fb.b1;simp only[aU,aG,aE]
    rfl) () trivial k Bys
  rw[vR] at this;exact this
 have outer:fb.r0 k (ps,()) (ps,ps,(ps.length:Int),(0:Int))=if nI xx ps=0 then fb.q1 (ps,()) ps else some (([]:List Seen),nI xx ps,()):=by
  have:=dj (B:=λself v=>fb.B0 k self (λz=>fb.q1 (ps,()) z) (ps,()) v) ps (λ(_:Unit) (i:Int)=>(ps,ps,(ps.length:Int),i)) (λi _ p=>if xx p=0 then .inr () else .inl (some (([]:List Seen),xx p,()))) (λ_=>fb.q1 (ps,()) ps) (λ_ _=>True) (by rw[an];omega)
   (λi hi s self hI=>by
    show fb.b0 _ _ _ _ _=_;unfold fb.b0 xx;have a8:(i:Int) < (ps.length:Int):=by omega
    simp only[a8,aJ,aO,aK,aH,aC,aB hi,aA,z_ _ (hp _ (aN hi))];by_cases h0:y0 ps[i]=0
    ·have bd:=uT.1 h0;rw[aX h0];simp only[aR,aE,uU bd.len,aA,inner self _ i hi bd,h0,aH];grind
    grind)
   (λ_ _ _ _ _ _=>trivial) (λs self _=>by
    show fb.b0 _ _ _ _ _=_
    grind [fb.b0]) () trivial k Bys
  rw[Be xx (λc=>some (([]:List Seen),c,())) (λ_=>fb.q1 (ps,()) ps)] at this;exact this
 rw[outer];by_cases hc:nI xx ps=0
 ·simp only[hc,aH];show fb.q1 _ _=_;unfold fb.q1;rw[Ru ps (PK Bys hc)];rfl
 grind
end OT
namespace OT
open Go
structure wV (ps:ca):Prop where
 right:lP ps
 cells:BD ps
 aau:(cv ps).all (qB ps)=true
 aem:((cv ps).filterMap zb).Nodup
 keys:((jH ps).map λx=>rk (gr x)).Nodup
 list:ze ps=Fs ((jH ps).map qx)
theorem qH {ps:ca} (h:ip ps=0):wV ps:=by
 obtain ⟨h1,h2,h3⟩:=Bp h;have hc:=PK h1.1 h2;unfold De at h3;split at h3
 ·rename_i a1;split at h3
  ·rename_i a2;split at h3
   ·rename_i a3;exact ⟨h1,hc,a1,a2,a3,by unfold ze;rw[aM h]⟩
   ·cases h3
  ·cases h3
 ·cases h3
theorem KS {ps:ca} (h:wV ps):(ze ps).Perm ((jH ps).map qx):=by rw[h.list];exact KR _
theorem Dg {ps:ca} (h:wV ps):(ze ps).length<=192:=by
 have:=(KS h).length_eq;rw[hU] at this;have:=CB h.right;omega
def bm (ps:ca):List Row:=(ze ps).map (·.1)
theorem zL {ps:ca} (h:wV ps):bm ps=KN ((jH ps).map gr):=by
 unfold bm;rw[h.list,MZ,List.map_map];rfl
theorem xO {ps:ca} (h:wV ps):up (bm ps):=by
 rw[zL h];refine PG ?_;rw[List.map_map];exact h.keys
theorem DH (l:List Seen) (hl:l.length<=1000):kM.ab (l,())=some (l.map (·.1),()):=by
 refine ag (k:=1100) λq hq=>(kM.ae q _).trans ?_
 have:=cz (B:=λself v=>kM.b0 self (λz=>kM.q0 (l,()) z) (l,()) v) l (λ(s:List Row) (i:Int)=>(s,i)) (λ_ s x=>.inr (s++[x.1])) (λs=>(s,())) (λi s=>s.length=i) (by rw[an];omega)
  (λi hi s self hs=>by
   show kM.b0 _ _ _ _=_;unfold kM.b0;have a8:(i:Int) < (l.length:Int):=by omega
   rw[aX a8,aO,aM (aK i)];simp only[aC,aB hi,aA]
   rw[aM (dc (by simp only[bE,cA];omega))])
  (λi hi s s' hs hf=>by injection hf with hf;subst hf;simp[hs]) (λs self _=>by
   show kM.b0 _ _ _ _=_;unfold kM.b0;rw[bA (aU _),aE]
   rfl) [] rfl q Bys
 rw[iv (g:=λ(s:List Row) (x:Seen)=>s++[x.1])] at this;refine this.trans ?_
 have hm:∀ (xs:List Seen) (s:List Row),xs.foldl (λs x=>s++[x.1]) s=s++xs.map (·.1):=by
  intro xs
  induction xs with
  | nil=>intro s;simp
  | cons x xs ih=>intro s;rw[eW,ih];simp
 rw[hm,cG]
theorem FX {ps:ca} (h:ip ps=0):jk.ab (ps,())=some (bm ps,()):=by
 have hr:=Bp h;have hl:=CB hr.1;refine ag (k:=300) λk hk=>(jk.ae k _).trans ?_;unfold jk.p;rw[DF ps hr.1];simp only[aA]
 have:=cz (B:=λself v=>jk.b0 self (λz=>jk.q0 (ps,()) (jH ps) z) (ps,()) (jH ps) v) (jH ps) (λ(s:List Row) (i:Int)=>(s,i)) (λ_ s x=>.inr (rL s (gr x))) (λs=>(s,())) (λi s=>s.length<=i) (by rw[an];omega)
  (λi hi s self hs=>by
   show jk.b0 _ _ _ _ _=_;unfold jk.b0;have a8:(i:Int) < ((jH ps).length:Int):=by omega
   rw[aX a8,aO,aM ⟨aK i,a8⟩];simp only[aC,aB hi,aA];rw[KK _ _ Bys]
   rfl)
  (λi hi s s' hs hf=>by
   injection hf with hf;subst hf;unfold rL;simp only[cB,dQ,bX,bE,cA]
   omega) (λs self _=>by
   show jk.b0 _ _ _ _ _=_;unfold jk.b0;rw[bA (aU _),aE]
   rfl) [] (aI 0) k Bys
 rw[iv (g:=λ(s:List Row) (x:ax)=>rL s (gr x))] at this;refine this.trans ?_;rw[zL (qH h)];unfold KN;rw[List.foldl_map]
end OT
namespace OT
open Go
theorem PP {p:List UInt8} {i n:Nat} (h:pb p i=n) (hn:n < 256):p.set i (UInt8.ofNat n)=p:=by
 refine Ct (by rw[bB]) λj hj=>?_;rw[rg];split
 ·rename_i h1;rw[ofNat_toNat hn,<- h,h1.1]
 ·rfl
theorem vm (n:Nat):UInt8.ofInt ((n:Nat):Int)=UInt8.ofNat n:=by
 refine fI.1 ?_;rw[fL];simp only[UInt8.ofInt];rw[fL];omega
theorem Fu {O:Type} (p:List UInt8) (g:Nat->O):∀ (m a i:Nat),ci (λ_ (_:Unit) (x:Nat)=>if bg p x=0 then .inl (g x) else .inr ()) (λ_=>g (a+m)) i (List.range' a m) ()=g (wz p m a)
 | 0,a,i=>rfl
 | m+1,a,i=>by
  rw[gR];simp only[ci,wz];by_cases h:bg p a=0
  ·simp only[h,aH]
  ·simp only[h,aS];have:=Fu p g m (a+1) (i+1);rw[show a+1+m=a+(m+1) by omega] at this;exact this
theorem G6 (p:List UInt8) (b:Int):∀ n,(List.range n).foldl (λs x=>s - (bg p x:Int)) b=b - (nc p n:Int)
 | 0=>by simp[nc]
 | n+1=>by rw[gC,List.foldl_append,G6 p b n];simp only[eW,List.foldl_nil,nc];omega
theorem L9 (p:List UInt8):∀ n,nc p n<=256*n
 | 0=>by simp[nc]
 | n+1=>by have:=L9 p n;have:=mA p (3+2*n);simp only[nc];unfold bg;omega
section
variable {p:List UInt8} (hp:ig p)
include hp
theorem PR:kA.ab (p,())=some ((gc p:Int),()):=by
 have hn:=hp.n;refine ag (k:=100) λk hk=>(kA.ae k _).trans ?_
 have:=oW (B:=λself v=>kA.b0 self (λz=>kA.q0 (p,()) z) (p,()) v) (pn p) (λ(_:Unit) (i:Int)=>i) (λx _=>if bg p x=0 then .inl (some ((x:Int),())) else .inr ()) (λ_=>some ((pn p:Int),())) (λ_ _=>True) Bys
  (λi hi s self _=>by
   show kA.b0 _ _ _ _=_;unfold kA.b0;have a8:(i:Int) < (pn p:Int):=by omega
   simp only[nS hp.len,aA,a8,aJ,aO,qG hp.len (show i < 16 by omega)];by_cases hz:bg p i=0
   ·simp only[hz,Int.natCast_zero,aJ,aO,aH]
   ·have:¬ ((bg p i:Int)=0):=by omega
    simp only[hz,this,aG,aE,aS])
  (λ_ _ _ _ _ _=>trivial) (λs self _=>by
   show kA.b0 _ _ _ _=_;unfold kA.b0;simp only[nS hp.len,aA,aU,aG,aE];show kA.q0 _ _=_;unfold kA.q0
   simp only[nS hp.len,aA]) () trivial k Bys
 refine this.trans ?_;rw[fD];have h2:=Fu p (λn=>(some ((n:Int),()):Option kA.O)) (pn p) 0 0;simp only[bQ] at h2;exact h2
theorem IB:kQ.ab (p,())=some (sN p,()):=by
 have hn:=hp.n;have hw:af ((62:Int) - af ((2:Int)*(pn p:Int)))=62 - 2*(pn p:Int):=by rw[be (n:=(2:Int)*(pn p:Int)) Bys,be Bys]
 refine ag (k:=100) λk hk=>(kQ.ae k _).trans ?_;unfold kQ.p;simp only[nS hp.len,aA,hw]
 have:=oW (B:=λself v=>kQ.b0 self (λz=>kQ.q0 (p,()) z) (p,()) v) (pn p) (λ(s:Int) (i:Int)=>(s,i)) (λx s=>.inr (s - (bg p x:Int))) (λs=>some (s,())) (λi s=>s=62 - 2*(pn p:Int) - (nc p i:Int)) Bys
  (λi hi s self hs=>by
   show kQ.b0 _ _ _ _=_;unfold kQ.b0;have a8:(i:Int) < (pn p:Int):=by omega
   have h1:=mA p (3+2*i);have h2:=L9 p i;have h3:bg p i < 256:=h1;simp only[nS hp.len,aA,a8,aJ,aO,qG hp.len (show i < 16 by omega)]
   rw[be (n:=s - (bg p i:Int)) Bys])
  (λi hi s s' hs hf=>by injection hf with hf;simp only[nc];omega) (λs self _=>by
   show kQ.b0 _ _ _ _=_;unfold kQ.b0;simp only[nS hp.len,aA,aU,aG,aE]
   rfl) (62 - 2*(pn p:Int)) (by simp[nc]) k Bys
 rw[iv (g:=λs x=>s - (bg p x:Int)),G6] at this;exact this
theorem IC:kT.ab (p,())=some (sN p,()):=by
 have hn:=hp.n;have hw:af ((62:Int) - af ((2:Int)*(pn p:Int)))=62 - 2*(pn p:Int):=by rw[be (n:=(2:Int)*(pn p:Int)) Bys,be Bys]
 refine ag (k:=100) λk hk=>(kT.ae k _).trans ?_;unfold kT.p;simp only[uU hp.len,aA,hw]
 have:=oW (B:=λself v=>kT.b0 self (λz=>kT.q0 (p,()) (pn p:Int) z) (p,()) (pn p:Int) v) (pn p) (λ(s:Int) (i:Int)=>(s,i)) (λx s=>.inr (s - (bg p x:Int))) (λs=>some (s,())) (λi s=>s=62 - 2*(pn p:Int) - (nc p i:Int)) Bys
  (λi hi s self hs=>by
   show kT.b0 _ _ _ _ _=_;unfold kT.b0;have a8:(i:Int) < (pn p:Int):=by omega
   have h1:=mA p (3+2*i);have h2:=L9 p i;have h3:bg p i < 256:=h1;simp only[aA,a8,aJ,aO,Cu hp.len (show i < 16 by omega)]
   rw[be (n:=s - (bg p i:Int)) Bys])
  (λi hi s s' hs hf=>by injection hf with hf;simp only[nc];omega) (λs self _=>by
   show kT.b0 _ _ _ _ _=_;unfold kT.b0;simp only[aA,aU,aG,aE]
   rfl) (62 - 2*(pn p:Int)) (by simp[nc]) k Bys
 rw[iv (g:=λs x=>s - (bg p x:Int)),G6] at this;exact this
end
theorem zf {p c:List UInt8} {s a:Nat} (hp:p.length=64) (hs:s < 16) (h:a+c.length<=64):jQ.ab (p,(s:Int),(a:Int),c,())=some (l7 p s a c,()):=by
 refine ag (k:=0) λk _=>(jQ.ae k _).trans ?_;show jQ.p _=_;unfold jQ.p l7;have h1:(0:Int)<=(a:Int)/\(a:Int)<=(p.length:Int):=by omega
 have hm:min c.length (p.length - a)=c.length:=by omega
 have hl:(o5 p a c.length c).length=64:=by rw[sc _ _ Bys (aI _),hp]
 have i2:(0:Int)<=((2+2*s:Nat):Int)/\((2+2*s:Nat):Int) < ((64:Nat):Int):=by omega
 have i3:(0:Int)<=((3+2*s:Nat):Int)/\((3+2*s:Nat):Int) < ((64:Nat):Int):=by omega
 simp only[h1,bS,aH,aC,hm,D6 (show s < 1000 by omega),MV (show s < 1000 by omega),bB,hl,i2,i3,vm];rw[fd Bys,fd (by rw[bB];omega)]
theorem CC {p c:List UInt8} {s a:Nat} (hp:p.length=64) (hs:s < 16) (h:a+c.length<=64):ou.ab (p,(s:Int),(a:Int),c,())=some (l7 p s a c,()):=by
 refine ag (k:=0) λk _=>(ou.ae k _).trans ?_;show ou.p _=_;unfold ou.p l7;have h1:(0:Int)<=(a:Int)/\(a:Int)<=(p.length:Int):=by omega
 have hm:min c.length (p.length - a)=c.length:=by omega
 have hl:(o5 p a c.length c).length=64:=by rw[sc _ _ Bys (aI _),hp]
 have i2:(0:Int)<=((2+2*s:Nat):Int)/\((2+2*s:Nat):Int) < ((64:Nat):Int):=by omega
 have i3:(0:Int)<=((3+2*s:Nat):Int)/\((3+2*s:Nat):Int) < ((64:Nat):Int):=by omega
 simp only[l9 p Bys,aA,h1,bS,aH,aC,hm,D6 (show s < 1000 by omega),MV (show s < 1000 by omega),bB,hl,i2,i3,vm];rw[fd Bys,fd (by rw[bB];omega)]
section
variable {p:List UInt8} (hp:ig p) (c:List UInt8) (lY:1<=c.length) (hc:c.length<=20)
include hp lY hc
theorem PT:∀ m:Nat,uu p=m->m<=1->¬ (gc p=pn p/\16<=pn p)->gc p < 16->∀ (d:Int),d=2*(m:Int)->∀ (e:Int),e=((pn p+m:Nat):Int) ->
   (bif decide (sN p < af ((c.length:Int)+d)) then (some (([]:List UInt8),(0:Int),(9:Int),()):Option oq.O) else
    bif decide (af ((et p:Int) - (c.length:Int)) < af ((2:Int)+af ((2:Int)*e))) then some (([]:List UInt8),(0:Int),(8:Int),()) else
     if 0<=(0:Int)/\(0:Int) < (p.length:Int) then ((p[0]?).bind λx18=>if 0<=(1:Int)/\(1:Int) < ((p.set 0 (UInt8.ofInt e)).length:Int) then (((p.set 0 (UInt8.ofInt e))[1]?).bind λWR=>(jQ.ab ((p.set 0 (UInt8.ofInt e)).set 1 (UInt8.ofInt (af ((et p:Int) - (c.length:Int)))),(gc p:Int),af ((et p:Int) - (c.length:Int)),c,())).bind λCm=>some (Cm.1,(gc p:Int),(0:Int),())) else none) else none) =
    some (if mR p c=0 then r_ p c else [],if mR p c=0 then (gc p:Int) else 0,mR p c,()):=by
 intro m hm DS rP he d hd e hee;have hn:=hp.n;have xl:=hp.lo;have Ii:=hp.hi;obtain ⟨e1,e2,e3⟩:=vQ p;obtain ⟨f1,f2⟩:=D5 hp;subst hd;subst hee;unfold mR;rw[aV rP,hm];have w1:af ((c.length:Int)+2*(m:Int))=(c.length:Int)+2*(m:Int):=be Bys;rw[w1];by_cases c1:sN p < (c.length:Int)+2*(m:Int)
 ·simp only[c1,aJ,aO,aH,show ¬ ((9:Int)=0) by decide,aS]
 have w2:af ((et p:Int) - (c.length:Int))=(et p:Int) - (c.length:Int):=be Bys;have w3:af ((2:Int)+af ((2:Int)*((pn p+m:Nat):Int)))=((2+2*(pn p+m):Nat):Int):=D6 Bys;simp only[c1,aG,aE,aS,w2,w3];by_cases c2:et p < 2+2*(pn p+m)+c.length
 ·have:(et p:Int) - (c.length:Int) < ((2+2*(pn p+m):Nat):Int):=by omega
  simp only[c2,this,aJ,aO,aH,show ¬ ((8:Int)=0) by decide,aS]
 have n2:¬ ((et p:Int) - (c.length:Int) < ((2+2*(pn p+m):Nat):Int)):=by omega
 have hl:=hp.len;have g1:(0:Int)<=0/\(0:Int) < (p.length:Int):=by omega
 have g2:(0:Int)<=1/\(1:Int) < (p.length:Int):=by omega
 have w4:(et p:Int) - (c.length:Int)=((et p - c.length:Nat):Int):=by omega
 have n4:¬ (((et p - c.length:Nat):Int) < ((2+2*(pn p+m):Nat):Int)):=by omega
 simp only[c2,n4,aG,aE,aS,g1,g2,bS,aH,bB,w4,vm];rw[fd Bys,fd (by rw[bB];omega)];rw[zf (by rw[bB,bB];omega) he Bys];simp only[aA]
 have:l7 ((p.set 0 (UInt8.ofNat (pn p+m))).set 1 (UInt8.ofNat (et p - c.length))) (gc p) (et p - c.length) c=r_ p c:=by
  unfold r_;rw[hm];have A5:(l7 p (gc p) (et p - c.length) c).length=64:=rh hl _ Bys;refine Ct ?_ λj hj=>?_
  ·rw[rh (by rw[bB,bB];omega) _ Bys,bB,bB,A5]
  rw[xM (by rw[bB,bB];omega) Bys he,rg,rg,rg,rg,xM hl Bys he];simp only[bB,hl,A5]
  have o1:2+2*gc p<=et p - c.length:=by
   unfold uu at hm;split at hm <;> omega
  by_cases j0:j=0
  ·subst j0;rw[aV Bys,aV Bys,aV Bys,aV Bys,aM ⟨rfl,by omega⟩,aV Bys,aM ⟨rfl,by omega⟩]
  ·by_cases j1:j=1
   ·subst j1;rw[aV Bys,aV Bys,aV Bys,aM ⟨rfl,by omega⟩,aM ⟨rfl,by omega⟩]
   ·have k0:¬ (0=j/\0 < 64):=by omega
    have k1:¬ (1=j/\1 < 64):=by omega
    simp only[k0,k1,aS]
 rw[this]
theorem L_:oq.ab (p,c,())=some (if mR p c=0 then r_ p c else [],if mR p c=0 then (gc p:Int) else 0,mR p c,()):=by
 have hn:=hp.n;have xl:=hp.lo;have Ii:=hp.hi;obtain ⟨e1,e2,e3⟩:=vQ p;refine ag (k:=0) λk _=>(oq.ae k _).trans ?_;show oq.p _=_;unfold oq.p;obtain ⟨f1,f2⟩:=D5 hp;simp only[PR hp,nS hp.len,IB hp,HZ hp.len,my p (by have:=hp.len;omega),aA];by_cases he:gc p=pn p
 ·have Kb:(gc p:Int)=(pn p:Int):=by omega
  rw[aX Kb,aO];by_cases h16:16<=pn p
  ·have PU:(16:Int)<=(pn p:Int):=by omega
   have:mR p c=2:=by unfold mR;rw[aM ⟨he,h16⟩]
   simp only[PU,aJ,aO,this,show ¬ ((2:Int)=0) by decide,aS]
  ·have PU:¬ (16:Int)<=(pn p:Int):=by omega
   simp only[PU,aG,aE];have hw:af ((pn p:Int)+1)=((pn p+1:Nat):Int):=by rw[be Bys];omega
   have:=PT hp c lY hc 1 (by unfold uu;rw[aM he]) Bys (λh=>h16 h.2) Bys 2 Bys (af ((pn p:Int)+1)) hw;exact this
 ·have Kb:¬ ((gc p:Int)=(pn p:Int)):=by omega
  simp only[Kb,aG,aE];exact PT hp c lY hc 0 (by unfold uu;rw[aV he]) Bys (λh=>he h.1) Bys 0 Bys (pn p:Int) Bys
end
end OT
namespace OT
open Go
section
variable {p:List UInt8} (hp:ig p) (c:List UInt8) (lY:1<=c.length) (hc:c.length<=20)
include hp lY hc
theorem G7:mh.ab (p,c,())=some ((0:Int),()):=by
 refine ag (k:=0) λk _=>(mh.ae k _).trans ?_;show mh.p _=_;unfold mh.p;rw[z_ p (by rw[hp.len,an];omega),uT.2 hp];grind
theorem Fx:iu.ab (p,c,())=some ((mR p c,if mR p c=0 then (gc p:Int) else 0,if mR p c=0 then r_ p c else [],()),()):=by
 have hn:=hp.n;have xl:=hp.lo;have Ii:=hp.hi;have hl:=hp.len;obtain ⟨e1,e2,e3⟩:=vQ p;obtain ⟨f1,f2⟩:=D5 hp;refine ag (k:=100) λk hk=>(iu.ae k _).trans ?_;unfold iu.p;simp only[G7 hp c lY hc,uU hp.len,aA,aJ,aR,aE]
 have:=oW (B:=λself v=>iu.b0 self (λz=>iu.q0 (p,c,()) (pn p:Int) z) (p,c,()) (pn p:Int) v) (pn p) (λ(_:Unit) (i:Int)=>i) (λx _=>if bg p x=0 then .inl (iu.q0 (p,c,()) (pn p:Int) (x:Int)) else .inr ()) (λ_=>iu.q0 (p,c,()) (pn p:Int) (pn p:Int)) (λ_ _=>True) Bys
  (λi hi s self _=>by
   show iu.b0 _ _ _ _ _=_;unfold iu.b0;have a8:(i:Int) < (pn p:Int):=by omega
   simp only[a8,aJ,aO,MV (show i < 1000 by omega),aK,aH,aC,fd (show 3+2*i < p.length by omega),(jF (show 3+2*i < p.length by omega)).2]
   grind [bg])
  (λ_ _ _ _ _ _=>trivial) (λs self _=>by
   grind [iu.b0]) () trivial k Bys
 refine this.trans ?_;rw[fD];have h2:=Fu p (λn=>iu.q0 (p,c,()) (pn p:Int) (n:Int)) (pn p) 0 0;simp only[bQ] at h2;refine h2.trans ?_;show iu.q0 _ _ (gc p:Int)=_;unfold iu.q0;simp only[IC hp,aA,fd (show 1 < p.length by omega),(jF (show 1 < p.length by omega)).2,Dd];show (bif decide ((gc p:Int)=(pn p:Int)) then _ else _)=_
 have key:∀ m:Nat,uu p=m->m<=1->¬ (gc p=pn p/\16<=pn p)->gc p < 16->∀ (d:Int),d=2*(m:Int) ->
   (bif decide (sN p < af ((c.length:Int)+d)) then (some (((9:Int),(0:Int),([]:List UInt8),()),()):Option iu.O) else
    bif decide (af ((et p:Int) - (af ((af ((2:Int)+(af ((2:Int)*(pn p:Int)))))+d))) < (c.length:Int)) then some (((8:Int),(0:Int),([]:List UInt8),()),()) else
     (ou.ab (p,(gc p:Int),af ((et p:Int) - (c.length:Int)),c,())).bind λyO=>if 0<=(0:Int)/\(0:Int) < (yO.1.length:Int) then ((yO.1[0]?).bind λEW=>let Cs:=yO.1.set 0 (UInt8.ofInt (af ((pn p:Int)+(af (d.tdiv (2:Int))))));if 0<=(1:Int)/\(1:Int) < (Cs.length:Int) then ((Cs[1]?).bind λPi=>let YS:=Cs.set 1 (UInt8.ofInt (af ((et p:Int) - (c.length:Int))));some (((0:Int),(gc p:Int),YS,()),())) else none) else none) =
    some ((mR p c,if mR p c=0 then (gc p:Int) else 0,if mR p c=0 then r_ p c else [],()),()):=by
  intro m hm DS rP he d hd;subst hd;unfold mR;rw[aV rP,hm];have w1:af ((c.length:Int)+2*(m:Int))=(c.length:Int)+2*(m:Int):=be Bys;rw[w1];by_cases c1:sN p < (c.length:Int)+2*(m:Int)
  ·grind
  have w2:af ((et p:Int) - (c.length:Int))=(et p:Int) - (c.length:Int):=be Bys
  have w3:af ((et p:Int) - (af ((af ((2:Int)+af ((2:Int)*(pn p:Int))))+2*(m:Int))))=(et p:Int) - ((2+2*(pn p+m):Nat):Int):=by
   grind [be]
  have w5:af ((pn p:Int)+af ((2*(m:Int)).tdiv 2))=((pn p+m:Nat):Int):=by
   grind [be]
  simp only[c1,aG,aE,aS,w2,w3,w5];grind [rh,CC,vm,r_]
 by_cases he:gc p=pn p
 ·have Kb:(gc p:Int)=(pn p:Int):=by omega
  rw[aX Kb,aO];by_cases h16:pn p=16
  ·grind [mR]
  ·have PU:¬ (pn p:Int)=16:=by omega
   rw[bA PU,aE];have:=key 1 (by grind [uu]) Bys (λh=>h16 Bys) Bys 2 Bys;exact this
 ·have Kb:¬ ((gc p:Int)=(pn p:Int)):=by omega
  simp only[Kb,aG,aE];exact key 0 (by grind [uu]) Bys (λh=>he h.1) Bys 0 Bys
variable {s:Nat} (hs:s < pn p) (hz:bg p s≠0)
include hs hz
theorem KU:rX.ab (p,(s:Int),c,())=some (if sK p s c=0 then zI p s c else [],sK p s c,()):=by
 have hn:=hp.n;have xl:=hp.lo;have Ii:=hp.hi;have hl:=hp.len;obtain ⟨f1,f2⟩:=D5 hp;obtain ⟨s1,s2⟩:=hp.slot s hs hz;refine ag (k:=0) λk _=>(rX.ae k _).trans ?_;show rX.p _=_;unfold rX.p sK zI;simp only[qG hl (show s < 16 by omega),my p Bys,Aw hl (show s < 16 by omega),IB hp,HZ hl,nS hl,aA];by_cases c1:c.length<=bg p s
 ·grind [be,zf]
 have c1':¬ (c.length:Int)<=(bg p s:Int):=by omega
 have w2:af (sN p+(bg p s:Int))=sN p+(bg p s:Int):=be Bys;simp only[c1,c1',aG,aE,aS,w2];by_cases c2:sN p+(bg p s:Int) < (c.length:Int)
 ·grind
 have w3:af ((et p:Int) - (c.length:Int))=(et p:Int) - (c.length:Int):=be Bys;simp only[c2,aG,aE,aS,w3,D6 (show pn p < 1000 by omega)];by_cases c3:et p < 2+2*pn p+c.length
 ·grind
 have n3:¬ ((et p:Int) - (c.length:Int) < ((2+2*pn p:Nat):Int)):=by omega
 have w4:(et p:Int) - (c.length:Int)=((et p - c.length:Nat):Int):=by omega
 have n4:¬ (((et p - c.length:Nat):Int) < ((2+2*pn p:Nat):Int)):=by omega
 have g2:(0:Int)<=1/\(1:Int) < (p.length:Int):=by omega
 simp only[c3,n4,aG,aE,aS,w4,g2,bS,aH,vm];rw[fd Bys,zf (by grind) Bys Bys];simp only[aA]
 have:l7 (p.set 1 (UInt8.ofNat (et p - c.length))) s (et p - c.length) c=(l7 p s (et p - c.length) c).set 1 (UInt8.ofNat (et p - c.length)):=by
  have A5:(l7 p s (et p - c.length) c).length=64:=rh hl _ Bys;refine Ct ?_ λj hj=>?_
  all_goals grind [rh,xM,rg]
 rw[this]
theorem KV:qa.ab (p,(s:Int),c,())=some ((sK p s c,if sK p s c=0 then (s:Int) else 0,if sK p s c=0 then zI p s c else [],()),()):=by
 have hn:=hp.n;have xl:=hp.lo;have Ii:=hp.hi;have hl:=hp.len;obtain ⟨f1,f2⟩:=D5 hp;obtain ⟨s1,s2⟩:=hp.slot s hs hz;refine ag (k:=0) λk _=>(qa.ae k _).trans ?_;show qa.p _=_;unfold qa.p sK zI;have w_:(decide (s < pn p)&&!decide (bg p s=0))=true:=by simp[hs,hz]
 simp only[G7 hp c lY hc,y9 hp s,w_,Cu hl (show s < 16 by omega),IC hp,uU hl,aA,aJ,aR,aE,fd (show 1 < p.length by omega),(jF (show 1 < p.length by omega)).2,Dd];by_cases c1:c.length<=bg p s
 ·grind [be,CC]
 have c1':¬ (c.length:Int)<=(bg p s:Int):=by omega
 have w2:af (sN p+(bg p s:Int))=sN p+(bg p s:Int):=be Bys;simp only[c1,c1',aG,aE,aS,w2];by_cases c2:sN p+(bg p s:Int) < (c.length:Int)
 ·grind
 have e1:pb p 1=et p:=rfl;grind [be,rh,CC,vm]
end
def Bq (v:List UInt8):List UInt8:=v.set 0 (UInt8.ofNat (vg v (pn v)))
theorem KW {v w:List UInt8} (h:∀ i,bg v i=bg w i):∀ m,vg v m=vg w m
 | 0=>rfl
 | m+1=>by simp only[vg,h,KW h m]
theorem M1 {v:List UInt8} (hl:v.length=64) (h0:0 < pn v) (hz:bg v (pn v - 1)=0):Bq (v.set 0 (UInt8.ofNat (pn v - 1)))=Bq v/\pn (v.set 0 (UInt8.ofNat (pn v - 1)))=pn v - 1:=by
 have a8:pn v < 256:=mA v 0
 have Iw:pn (v.set 0 (UInt8.ofNat (pn v - 1)))=pn v - 1:=by
  show pb _ 0=_;grind [rg,ofNat_toNat]
 refine ⟨?_,Iw⟩
 have hs:∀ i,bg (v.set 0 (UInt8.ofNat (pn v - 1))) i=bg v i:=λi=>by
  show pb _ _=pb _ _;grind [rg]
 unfold Bq;rw[Iw,KW hs,fR]
 obtain ⟨n,hn⟩:∃ n,pn v=n+1:=⟨pn v - 1,by omega⟩
 grind [vg]
theorem Dh {v:List UInt8} (h:pn v=0\/bg v (pn v - 1)≠0):Bq v=v:=by
 grind [Bq,PP,pn,E9,mA]
theorem Tc {v:List UInt8} (hl:v.length=64) (h0:0 < pn v):UInt8.ofInt ((((v[0]'Bys).toNat:Nat):Int) - 1)=UInt8.ofNat (pn v - 1):=by
 have h1:(v[0]'Bys).toNat=pn v:=(jF (show 0 < v.length by omega)).2;grind [vm]
section
variable {p:List UInt8} (hp:ig p) {s:Nat} (hs:s < pn p)
include hp hs
theorem M2:(tM p s).length=64:=by unfold tM;rw[bB,bB,hp.len]
theorem Ju:pn (tM p s)=pn p:=by
 show pb _ 0=pb _ 0;grind [tM,rg]
theorem KX:sa p s=Bq (tM p s):=by grind [sa,Bq,Ju]
theorem Rv:pC.ab (p,(s:Int),())=some (sa p s,()):=by
 have hn:=hp.n;have hl:=hp.len;refine ag (k:=100) λk hk=>(pC.ae k _).trans ?_;unfold pC.p;have i2:(0:Int)<=((2+2*s:Nat):Int)/\((2+2*s:Nat):Int) < (p.length:Int):=by omega
 have i3:(0:Int)<=((3+2*s:Nat):Int)/\((3+2*s:Nat):Int) < (p.length:Int):=by omega
 simp only[my p Bys,aA,D6 (show s < 1000 by omega),MV (show s < 1000 by omega),i2,i3,bS,aH,aC,bB];rw[fd Bys,fd (by grind),KX hp hs];have hd:=Ju hp hs;refine tq (λv=>(Bq v,())) (λv=>v.length=64/\pn v<=16) pn (λv ⟨hv,hvn⟩ self=>?_) k (tM p s) ⟨M2 hp hs,by omega⟩ Bys;show pC.b0 _ _ _ _=_\/∃ v',pC.b0 _ _ _ _=_/\_;unfold pC.b0;have g:(0:Int)<=0/\(0:Int) < (v.length:Int):=by omega
 have e0:((v[0]'Bys).toNat:Nat)=pn v:=(jF (show 0 < v.length by omega)).2;simp only[g,bS,aH,fd (show 0 < v.length by omega)];by_cases h0:pn v=0
 ·left;have:¬ ((0:Int) < (((v[0]'Bys).toNat:Nat):Int)):=by rw[e0];omega
  rw[bA this,Dh (Or.inl h0)];rfl
 have h1:(0:Int) < (((v[0]'Bys).toNat:Nat):Int):=by rw[e0];omega
 have hw:af ((af (((v[0]'Bys).toNat:Nat):Int)) - 1)=((pn v - 1:Nat):Int):=by
  grind [be]
 rw[aX h1,hw,qG hv (show pn v - 1 < 16 by omega)];simp only[aA,aO];by_cases hz:bg v (pn v - 1)=0
 ·grind [M1,Tc]
 ·left;have:¬ ((bg v (pn v - 1):Int)=0):=by omega
  rw[bA this,Dh (Or.inr hz)];rfl
theorem Rw (hz:bg p s≠0):of.ab (p,(s:Int),())=some (((0:Int),(s:Int),sa p s,()),()):=by
 have hn:=hp.n;have hl:=hp.len;refine ag (k:=100) λk hk=>(of.ae k _).trans ?_;unfold of.p;have i2:(0:Int)<=((2+2*s:Nat):Int)/\((2+2*s:Nat):Int) < (p.length:Int):=by omega
 have i3:(0:Int)<=((3+2*s:Nat):Int)/\((3+2*s:Nat):Int) < (p.length:Int):=by omega
 have w_:(decide (s < pn p)&&!decide (bg p s=0))=true:=by simp[hs,hz]
 rw[z_ p (by grind [an]),uT.2 hp];simp only[l9 p Bys,y9 hp s,w_,aA,aJ,aR,aE,D6 (show s < 1000 by omega),MV (show s < 1000 by omega),i2,i3,bS,aH,aC,bB];rw[fd Bys,fd (by grind),KX hp hs];have hd:=Ju hp hs;refine tq (λv=>(((0:Int),(s:Int),Bq v,()),())) (λv=>v.length=64/\pn v<=16) pn (λv ⟨hv,hvn⟩ self=>?_) k (tM p s) ⟨M2 hp hs,by omega⟩ Bys;show of.b0 _ _ _ _=_\/∃ v',of.b0 _ _ _ _=_/\_;unfold of.b0;have g:(0:Int)<=0/\(0:Int) < (v.length:Int):=by omega
 have e0:((v[0]'Bys).toNat:Nat)=pn v:=(jF (show 0 < v.length by omega)).2;simp only[g,bS,aH,fd (show 0 < v.length by omega)];by_cases h0:pn v=0
 ·left;have:¬ ((0:Int) < (((v[0]'Bys).toNat:Nat):Int)):=by rw[e0];omega
  rw[bA this,Dh (Or.inl h0)];rfl
 have h1:(0:Int) < (((v[0]'Bys).toNat:Nat):Int):=by rw[e0];omega
 have hw:af ((af ((2:Int)*(af (((v[0]'Bys).toNat:Nat):Int))))+1)=((3+2*(pn v - 1):Nat):Int):=by
  grind [be]
 have g3:(0:Int)<=((3+2*(pn v - 1):Nat):Int)/\((3+2*(pn v - 1):Nat):Int) < (v.length:Int):=by omega
 rw[aX h1,hw];simp only[g3,bS,aH,aC,fd (show 3+2*(pn v - 1) < v.length by omega),(jF (show 3+2*(pn v - 1) < v.length by omega)).2,aO];show (bif decide ((bg v (pn v - 1):Int)=0) then _ else _)=_\/∃ v',(bif decide ((bg v (pn v - 1):Int)=0) then _ else _)=_/\_;by_cases hz:bg v (pn v - 1)=0
 ·grind [M1,Tc]
 ·left;have:¬ ((bg v (pn v - 1):Int)=0):=by omega
  rw[bA this,Dh (Or.inr hz)];rfl
end
end OT
namespace OT
open Go
theorem act (a b:List UInt8) (j:Nat):pb (a++b) j=if j < a.length then pb a j else pb b (j - a.length):=by
 unfold pb;simp only[cI];split
 ·rename_i h;rw[cS h]
 ·rename_i h;rw[fE Bys]
theorem Td (n j:Nat):pb (List.replicate n (0:UInt8)) j=0:=by
 unfold pb;simp only[cI,fO];split <;> rfl
section
variable {p:List UInt8} (hp:ig p)
include hp
theorem PV:o5 (List.replicate 64 (0:UInt8)) 0 (min ((p.take (2+2*pn p)).drop 0).length (List.replicate 64 (0:UInt8)).length) ((p.take (2+2*pn p)).drop 0)=z8 p:=by
 have hn:=hp.n;have hl:=hp.len;have ht:(p.take (2+2*pn p)).length=2+2*pn p:=by rw[dQ];omega
 rw[dM,cR,show min (p.take (2+2*pn p)).length 64=(p.take (2+2*pn p)).length by omega];refine Ct ?_ λj hj=>?_
 ·rw[sc _ _ (by rw[cR];omega) (aI _)];unfold z8;rw[cB,cR,cR];omega
 ·rw[L6 (by rw[cR];omega)];unfold z8;rw[act,ht,Td,Td];by_cases h:j < 2+2*pn p
  ·rw[aM ⟨by omega,by omega⟩,aM h,Nat.sub_zero]
  ·rw[aV Bys,aV h]
theorem Te {k:Nat} (hk:k < pn p) (hz:bg p k≠0):(jG p k).1.length=64/\bg p k<=(jG p k).2/\(jG p k).2<=64/\bg (jG p k).1 k=bg p k/\2+2*pn p<=(jG p k).2 - bg p k:=by
 have I:=Fc hp k Bys;have Bc:=E8 hp;have hm:=sk p (show k+1<=pn p from hk);have xl:=hp.lo;have ha:=I.a;simp only[nc] at hm;exact ⟨I.len,by omega,by omega,I.sz k hk,by omega⟩
theorem PW:(jG p (pn p)).1.length=64/\(jG p (pn p)).2<=64:=by
 have I:=Fc hp (pn p) (aI _);have ha:=I.a;exact ⟨I.len,by omega⟩
theorem ID:gx.ab (p,())=some (mS p,()):=by
 have hn:=hp.n;have hl:=hp.len;refine ag (k:=100) λk hk=>(gx.ae k _).trans ?_;unfold gx.p;have g1:(0:Int)<=64/\(64:Int)<=64/\(64:Int)<=(ct:Int):=by unfold ct;omega
 have g2:(0:Int)<=((2+2*pn p:Nat):Int)/\((2+2*pn p:Nat):Int)<=(p.length:Int):=by omega
 simp only[nS hl,aA,D6 (show pn p < 1000 by omega),g1,g2,bS,aH,aC];rw[PV hp]
 have:=oW (B:=λself v=>gx.b0 self (λz=>gx.q0 (p,()) (pn p:Int) z) (p,()) (pn p:Int) v) (pn p) (λ(s:List UInt8×Nat) (i:Int)=>(s.1,(s.2:Int),i)) (λx s=>.inr (Bn p s x)) (λs=>some (s.1.set 1 (UInt8.ofNat s.2),())) (λi s=>s=jG p i) Bys
  (λi hi s self hs=>by
   subst hs;show gx.b0 _ _ _ _ _=_;unfold gx.b0 Bn;have a8:(i:Int) < (pn p:Int):=by omega
   simp only[a8,aJ,aO,qG hl (show i < 16 by omega),aA];by_cases hz:bg p i=0
   ·simp only[hz,Int.natCast_zero,aJ,aO,aH]
   ·have hz':¬ ((bg p i:Int)=0):=by omega
    obtain ⟨c1,c2,c3,c4,c5⟩:=Te hp hi hz;have xm:=po hp hi;have hw:af (((jG p i).2:Int) - (bg p i:Int))=(((jG p i).2 - bg p i:Nat):Int):=by rw[be Bys];omega
    simp only[hz,hz',aG,aE,aS,xE hp hi,aA,xm,hw,zf c1 (show i < 16 by omega) (show (jG p i).2 - bg p i+(je p i).length<=64 by omega)])
  (λi hi s s' hs hf=>by injection hf with hf;subst hf;rw[hs,E_]) (λs self hs=>by
   subst hs;obtain ⟨c1,c2⟩:=PW hp;show gx.b0 _ _ _ _ _=_;unfold gx.b0;simp only[aU,aG,aE];show gx.q0 _ _ _=_;unfold gx.q0;have g:(0:Int)<=1/\(1:Int) < ((jG p (pn p)).1.length:Int):=by omega
   simp only[g,bS,aH,vm]
   rw[fd Bys]) (z8 p,64) rfl k Bys
 rw[iv (g:=λs x=>Bn p s x)] at this;exact this
theorem Rx:il.ab (p,())=some (((0:Int),(0:Int),mS p,()),()):=by
 have hn:=hp.n;have hl:=hp.len;refine ag (k:=100) λk hk=>(il.ae k _).trans ?_;unfold il.p;have g1:(0:Int)<=64/\(64:Int)<=64/\(64:Int)<=(ct:Int):=by unfold ct;omega
 have g2:(0:Int)<=((2+2*pn p:Nat):Int)/\((2+2*pn p:Nat):Int)<=(p.length:Int):=by omega
 rw[z_ p (by rw[hp.len,an];omega),uT.2 hp];simp only[uU hl,aA,aJ,aR,aE,D6 (show pn p < 1000 by omega),g1,g2,bS,aH,aC];rw[PV hp]
 have:=oW (B:=λself v=>il.b0 self (λz=>il.q0 (p,()) (pn p:Int) z) (p,()) (pn p:Int) v) (pn p) (λ(s:List UInt8×Nat) (i:Int)=>(s.1,(s.2:Int),i)) (λx s=>.inr (Bn p s x)) (λs=>some (((0:Int),(0:Int),s.1.set 1 (UInt8.ofNat s.2),()),())) (λi s=>s=jG p i) Bys
  (λi hi s self hs=>by
   subst hs;show il.b0 _ _ _ _ _=_;unfold il.b0 Bn;have a8:(i:Int) < (pn p:Int):=by omega
   simp only[a8,aJ,aO,y9 hp i,aA];by_cases hz:bg p i=0
   ·simp only[hz,aJ,aR,iD,bW,aO,aH]
   ·obtain ⟨c1,c2,c3,c4,c5⟩:=Te hp hi hz;have xm:=po hp hi;have hw:af (((jG p i).2:Int) - (bg p i:Int))=(((jG p i).2 - bg p i:Nat):Int):=by rw[be Bys];omega
    have w_:(decide (i < pn p)&&!decide (bg p i=0))=true:=by simp[hi,hz]
    have g3:(0:Int)<=(((jG p i).2 - bg p i:Nat):Int)/\(((jG p i).2 - bg p i:Nat):Int)<=((jG p i).1.length:Int):=by omega
    have hm:min (bg p i) ((jG p i).1.length - ((jG p i).2 - bg p i))=bg p i:=by omega
    have FK:(o5 (jG p i).1 ((jG p i).2 - bg p i) (bg p i) (je p i)).length=64:=by rw[sc _ _ Bys Bys,c1]
    have g4:(0:Int)<=((2+2*i:Nat):Int)/\((2+2*i:Nat):Int) < ((64:Nat):Int):=by omega
    rw[w_];simp only[aR,aE,aV hz,AU hp hi,aA,xm,hw,g3,bS,aH,aC,hm,D6 (show i < 1000 by omega),FK,g4,vm];rw[fd Bys]
    have dt:l7 (jG p i).1 i ((jG p i).2 - bg p i) (je p i)=(o5 (jG p i).1 ((jG p i).2 - bg p i) (bg p i) (je p i)).set (2+2*i) (UInt8.ofNat ((jG p i).2 - bg p i)):=by
     unfold l7;rw[xm];refine PP ?_ Bys;rw[rg,aV Bys,<- xm,L6 Bys,aV Bys,xm];exact c4
    rw[dt])
  (λi hi s s' hs hf=>by injection hf with hf;subst hf;rw[hs,E_]) (λs self hs=>by
   subst hs;obtain ⟨c1,c2⟩:=PW hp;show il.b0 _ _ _ _ _=_;unfold il.b0;simp only[aU,aG,aE];show il.q0 _ _ _=_;unfold il.q0;have g:(0:Int)<=1/\(1:Int) < ((jG p (pn p)).1.length:Int):=by omega
   simp only[g,bS,aH,vm]
   rw[fd Bys]) (z8 p,64) rfl k Bys
 rw[iv (g:=λs x=>Bn p s x)] at this;exact this
end
end OT
