/- The proof's parts, merged: Records packed and read  the program s way and the reference s way give the same  conditions on the lengths alone.. No conditions but those that each states. -/
import Derived.Test.YtghckfpmmofmnaaGreatUf
set_option linter.unusedVariables false
set_option linter.unusedSimpArgs false
namespace OT
open Go
def tB (x:ci):List UInt8:=UInt8.ofInt x.1::UInt8.ofInt (List.length x.2.1:Int)::x.2.1
def im (xs:List ci):List UInt8:=xs.flatMap tB
def w_ (r:bq):List UInt8:=[(0:UInt8),UInt8.ofInt r.1,UInt8.ofInt r.2.1,UInt8.ofInt r.2.2.1,UInt8.ofInt (List.length r.2.2.2.1:Int)]
def wH (s:Int) (l:List UInt8):Int:=l.foldl (λs c=>(s*31+(c.toNat:Int)) % 65521) s
def Ha (r:bq):List UInt8:=(w_ r++im r.2.2.2.1).set 0 (UInt8.ofInt (af (((w_ r++im r.2.2.2.1).length:Int)+2)))
def l_ (r:bq):List UInt8:=Ha r++[UInt8.ofInt ((wH 1 (Ha r)) / 256),UInt8.ofInt (wH 1 (Ha r))]
def wI (r:bq):Prop:=List.length r.2.2.2.1<=64/\∀ x ∈ r.2.2.2.1,List.length x.2.1<=64
theorem ZU {r:bq} (h:rM r=0):wI r:=by
 have:=Ax h;refine ⟨this.2.2.2.2.2.2.1,λx hx=>?_⟩
 grind [bl]
theorem y_ (x:ci) (xs:List ci):im (x::xs)=tB x++im xs:=dU
theorem Hc {xs:List ci} (h:∀ x ∈ xs,List.length x.2.1<=64):(im xs).length<=66*xs.length:=by
 induction xs <;> grind [im,tB]
theorem TM (r:bq):(Ha r).length=5+(im r.2.2.2.1).length:=by grind [Ha,w_]
theorem Hd (r:bq):(l_ r).length=7+(im r.2.2.2.1).length:=by
 grind [l_,TM]
theorem DR {r:bq} (h:wI r):(l_ r).length<=5000:=by
 rw[Hd];have:=Hc h.2;have:=h.1;omega
theorem TN:∀ (l:List UInt8) (s:Int),0<=s/\s < 65521->0<=wH s l/\wH s l < 65521
 | [],s,h=>h
 | c::l,s,h=>TN l ((s*31+(c.toNat:Int)) % 65521) ⟨Int.emod_nonneg _ Bys,Int.emod_lt_of_pos _ Bys⟩
theorem X6 {s:Int} (h:0<=s):UInt8.ofInt (s.tmod 256)=UInt8.ofInt s:=by
 grind [UInt8.ofInt]
theorem He:∀ (xs:List ci) (s:List UInt8),xs.foldl (λs x=>s++tB x) s=s++im xs
 | [],s=>by simp[im]
 | x::xs,s=>by rw[eD,He,y_,bT]
theorem Qo {s:Int} {c:UInt8} (h:0<=s/\s < 65521):((af ((af (s*(31:Int)))+(af (c.toNat:Int)))).tmod (65521:Int))=(s*31+(c.toNat:Int)) % 65521:=by
 have hc:=c.toNat_lt;grind [bi]
theorem VL (l:List UInt8) (h:l.length<=100000):pO.ab (l,())=some (wH 1 l,()):=by
 refine ag (k:=100001) λk hk=>(pO.ae k _).trans ?_
 have:=c8 (B:=λself v=>pO.b0 self (λz=>pO.q0 (l,()) z) (l,()) v) l (λ(s:Int) (i:Int)=>(s,i)) (λ_ s c=>.inr ((s*31+(c.toNat:Int)) % 65521)) (λs=>(s,())) (λ_ s=>0<=s/\s < 65521) (by rw[ao];omega)
  (λi hi s self hI=>by
   grind [pO.b0,Qo])
  (λi hi s s' hI hs=>by grind) (λs self _=>by
   grind [pO.b0,pO.q0]) 1 Bys k Bys
 rw[ic] at this;exact this
theorem Sf (r:bq) (h:wI r):mA.ab (r,())=some (l_ r,()):=by
 obtain ⟨K,T,P,xs,⟨⟩⟩:=r;obtain ⟨h1,h2⟩:=h;simp only at h1 h2;refine ag (k:=100) λk hk=>(mA.ae k _).trans ?_
 have hlen:∀ i,(im (xs.take i)).length<=66*64:=λi=>by
  grind [Hc]
 have:=c8 (B:=λself v=>mA.b0 self (λz=>mA.q0 ((K,T,P,xs,()),()) z) ((K,T,P,xs,()),()) v) xs (λ(s:List UInt8) (i:Int)=>(s,i)) (λ_ s x=>.inr (s++tB x)) (λs=>(let q:=s.set 0 (UInt8.ofInt (af ((s.length:Int)+2)));(q++[UInt8.ofInt ((wH 1 q) / 256),UInt8.ofInt (wH 1 q)],())))
  (λi s=>s=w_ (K,T,P,xs,())++im (xs.take i)) (by rw[ao];omega)
  (λi hi s self hI=>by
   show mA.b0 _ _ _ _=_;unfold mA.b0;have a7:(i:Int) < (xs.length:Int):=by omega
   have hs:s.length<=5000:=by grind [w_,List.length_cons]
   have hx:=h2 xs[i] (aJ hi);simp only[a7,aO,aS,aN,aK,aC,aB hi,aA]
   grind [c9,tB])
  (λi hi s s' hI hs=>by
   grind [List.take_succ_eq_append_getElem,im]) (λs self hI=>by
   show mA.b0 _ _ _ _=_;unfold mA.b0;have hs:5<=s.length/\s.length<=5000:=by grind [w_]
   simp only[aV,aI,aF,mA.q0,mA.q0]
   have c0:(0:Int)<=0/\(0:Int) < (s.length:Int):=⟨by omega,by omega⟩
   rw[aG c0,aB (by omega:0 < s.length)];simp only[aA];generalize hq:s.set 0 (UInt8.ofInt (af ((s.length:Int)+2)))=q;have hql:q.length=s.length:=by grind
   rw[VL q Bys];simp only[aA];have hb:=TN q 1 Bys;have c1:q.length+[UInt8.ofInt (af ((wH 1 q).tdiv 256)),UInt8.ofInt ((wH 1 q).tmod 256)].length<=cg:=c9 (by grind)
   grind [X6,bi]) (w_ (K,T,P,xs,())) (by simp[im]) k Bys
 rw[ic,He] at this;exact this
theorem I4 (r:bq) (h:wI r):gm.ab (r,())=some (l_ r,()):=by
 obtain ⟨K,T,P,xs,⟨⟩⟩:=r;obtain ⟨h1,h2⟩:=h;simp only at h1 h2;refine ag (k:=6000) λk hk=>(gm.ae k _).trans ?_
 have hlen:∀ i,(im (xs.take i)).length<=66*64:=λi=>by
  grind [Hc]
 have afr:∀ q:List UInt8,q.length<=5000->gm.r1 k ((K,T,P,xs,()),()) q (q.length:Int) (1,0)=some (q++[UInt8.ofInt ((wH 1 q) / 256),UInt8.ofInt (wH 1 q)],()):=λq hq=>by
  have:=c8 (B:=λself v=>gm.b1 self (λz=>gm.q1 ((K,T,P,xs,()),()) q (q.length:Int) z) ((K,T,P,xs,()),()) q (q.length:Int) v) q (λ(s:Int) (i:Int)=>(s,i)) (λ_ s c=>.inr ((s*31+(c.toNat:Int)) % 65521)) (λs=>(q++[UInt8.ofInt (s / 256),UInt8.ofInt s],())) (λ_ s=>0<=s/\s < 65521) (by rw[ao];omega)
   (λi hi s self hI=>by
    grind [gm.b1,Qo])
   (λi hi s s' hI hs=>by grind) (λs self hI=>by
    grind [gm.b1,gm.q1,c9]) 1 Bys k Bys
  rw[ic] at this;exact this
 have:=c8 (B:=λself v=>gm.b0 self (λz=>gm.Q0 k ((K,T,P,xs,()),()) z) ((K,T,P,xs,()),()) v) xs (λ(s:List UInt8) (i:Int)=>(s,i)) (λ_ s x=>.inr (s++tB x)) (λs=>(let q:=s.set 0 (UInt8.ofInt (af ((s.length:Int)+2)));(q++[UInt8.ofInt ((wH 1 q) / 256),UInt8.ofInt (wH 1 q)],())))
  (λi s=>s=w_ (K,T,P,xs,())++im (xs.take i)) (by rw[ao];omega)
  (λi hi s self hI=>by
   show gm.b0 _ _ _ _=_;unfold gm.b0;have a7:(i:Int) < (xs.length:Int):=by omega
   have hs:s.length<=5000:=by grind [w_]
   have hx:=h2 xs[i] (aJ hi);simp only[a7,aO,aS,aN,aK,aC,aB hi,aA];generalize xs[i]=x at hx;have c1:s.length+[UInt8.ofInt x.1,UInt8.ofInt (List.length x.2.1:Int)].length<=cg:=c9 (by grind);have c2:(s++[UInt8.ofInt x.1,UInt8.ofInt (List.length x.2.1:Int)]).length+List.length x.2.1<=cg:=c9 (by grind)
   grind [tB])
  (λi hi s s' hI hs=>by
   grind [List.take_succ_eq_append_getElem,im]) (λs self hI=>by
   show gm.b0 _ _ _ _=_;unfold gm.b0;have hs:5<=s.length/\s.length<=5000:=by rw[hI];have:=hlen xs.length;simp only[bK,w_,aZ,bR];omega
   grind [gm.Q0,gm.q0]) (w_ (K,T,P,xs,())) (by simp[im]) k Bys
 rw[ic,He] at this;exact this
end OT
namespace OT
open Go
def gd (D:List UInt8) (i:Nat):Nat:=(D.getD i 0).toNat
theorem CC (D:List UInt8) (i:Nat):gd D i < 256:=iY _
theorem zF {D:List UInt8} {i:Nat} (h:i < D.length):D[i]?=some D[i]/\(D[i]).toNat=gd D i:=⟨aB h,by simp[gd,h]⟩
def piece (D:List UInt8) (at' n:Nat):ci:=((gd D at':Int),(D.take (at'+2+n)).drop (at'+2),())
def pI (D:List UInt8) (e:Nat):Nat->Nat->List ci->Option (List ci×Nat)
 | 0,a,rs=>some (rs,a)
 | c+1,a,rs=>if e < a+2 then none else if e < a+2+gd D (a+1) then none else pI D e c (a+2+gd D (a+1)) (rs++[piece D a (gd D (a+1))])
theorem TO {e:Nat}:∀ (ys:List ci) (pre Hf:List UInt8) (rs:List ci),(∀ y ∈ ys,0<=y.1/\y.1<=63/\1<=bl y/\bl y<=64)->pre.length+(im ys).length<=e ->
  pI (pre++im ys++Hf) e ys.length pre.length rs=some (rs++ys,pre.length+(im ys).length)
 | [],pre,Hf,rs,_,_=>by simp[pI,im]
 | y::ys,pre,Hf,rs,h,he=>by
  obtain ⟨b1,b2,b3,b4⟩:=h y (by simp);unfold bl at b3 b4;have hD:pre++im (y::ys)++Hf=(pre++tB y)++im ys++Hf:=by grind [y_]
  have hf1:(tB y).length=2+List.length y.2.1:=by grind [tB]
  have Bd:(im (y::ys)).length=2+List.length y.2.1+(im ys).length:=by grind [List.length_append]
  have h8:∀ n:Int,0<=n->n<=64->((UInt8.ofInt n).toNat:Int)=n:=λn h1 h2=>by
   simp[UInt8.ofInt,hJ];omega
  have g0:(gd (pre++im (y::ys)++Hf) pre.length:Int)=y.1:=by
   grind [gd,tB]
  have g1:gd (pre++im (y::ys)++Hf) (pre.length+1)=List.length y.2.1:=by
   unfold gd;grind [y_,tB,Nat.add_sub_cancel_left]
  have g2:piece (pre++im (y::ys)++Hf) pre.length (List.length y.2.1)=y:=by
   obtain ⟨yi,yb,⟨⟩⟩:=y;unfold piece;have g0:(gd (pre++im ((yi,yb,())::ys)++Hf) pre.length:Int)=yi:=g0;rw[g0]
   have:((pre++im ((yi,yb,())::ys)++Hf).take (pre.length+2+yb.length)).drop (pre.length+2)=yb:=by
    rw[y_];simp only[tB,bT,dA];rw[List.take_append,List.drop_append];have e1:List.take (pre.length+2+yb.length) pre=pre:=fF Bys;have e2:pre.length+2+yb.length - pre.length=yb.length+1+1:=by omega
    simp_all
   grind
  simp only[aZ,pI];rw[aL Bys,g1,aL Bys,g2,hD];have hl:(pre++tB y).length=pre.length+2+List.length y.2.1:=by grind
  have:=TO (e:=e) ys (pre++tB y) Hf (rs++[y]) (λz hz=>h z (by simp[hz])) (by rw[hl];omega);grind
def u9 (d:List UInt8):Option (bq×Nat):=
 if d.length < 7\/gd d 0 < 7\/d.length < gd d 0 then none else
 match pI (d.take (gd d 0)) (gd d 0 - 2) (gd d 4) 5 [] with
 | none=>none
 | some (rs,a)=>if a=gd d 0 - 2/\rM ((gd d 1:Int),(gd d 2:Int),(gd d 3:Int),rs,())=0/\l_ ((gd d 1:Int),(gd d 2:Int),(gd d 3:Int),rs,())=d.take (gd d 0) then
   some (((gd d 1:Int),(gd d 2:Int),(gd d 3:Int),rs,()),gd d 0) else none
theorem ZV {d:List UInt8} {n i:Nat} (h:i < n) (hn:n<=d.length):gd (d.take n) i=gd d i:=by
 grind [gd]
theorem zG {n:Nat} (h:n<=4000000000):af (n:Int)=(n:Int):=bi Bys
theorem Qp (a b:List UInt8) (h:a.length<=100000):e_.ab (a,b,())=some (decide (a=b),()):=by
 refine ag (k:=100001) λk hk=>(e_.ae k _).trans ?_;unfold e_.p;by_cases hl:a.length=b.length;rotate_left
 ·have h1:¬ ((a.length:Int)=(b.length:Int)):=by omega
  have h2:¬ a=b:=λe=>hl (by rw[e]);grind
 have Ge:(a.length:Int)=(b.length:Int):=by omega
 simp only[Ge,aO,aU,aF]
 have key:∀ (m i:Nat),a.length - i=m->i<=a.length->∀ j,m < j->al (λself v=>e_.B0 k self (λz=>e_.Q0 k (a,b,()) z) (a,b,()) v) j (i:Int)=some (decide (a.drop i=b.drop i),()):=by
  intro m
  induction m with
  | zero=>
   intro i hm hi j hj;have:i=a.length:=by omega
   subst this
   cases j with
   | zero=>omega
   | succ j=>
    show e_.b0 _ _ _ _=_;grind [e_.b0,e_.q0]
  | succ m ih=>
   intro i hm hi j hj;have a7:i < a.length:=by omega
   cases j with
   | zero=>omega
   | succ j=>
    show e_.b0 _ _ _ _=_;unfold e_.b0;have aeP:(i:Int) < (a.length:Int):=by omega
    have hlb:i < b.length:=by omega
    have hw:af ((i:Int)+1)=((i+1:Nat):Int):=by grind [bi]
    simp only[aeP,aO,aS,aN,aK,aC,aB a7,aB hlb,aA,hw];rw[cJ a7,cJ hlb];by_cases he:a[i]=b[i]
    ·grind [List.cons.injEq]
    ·have:¬ (((a[i]).toNat:Int)=((b[i]).toNat:Int)):=λe=>he (fT.1 Bys);have h2:¬ (a[i]::a.drop (i+1)=b[i]::b.drop (i+1)):=λe=>he (by injection e);grind
 have:=key a.length 0 Bys Bys k Bys;simp only[eK] at this;exact this
def aa3:bq:=((0:Int),(0:Int),(0:Int),([]:List ci),())
theorem X7 {D:List UInt8} (hD:7<=D.length) (hD2:D.length<=255) {a1:mK.A} {e0:(bq×Int)->Option mK.O} {K T P N:Int} (hN:0<=N/\N<=255) {k:Nat} :
  ∀ (c a i:Nat) (rs:List ci),(i:Int)+c=N->a<=D.length - 2->rs.length<=i->∀ j,c < j ->
   al (λself v=>mK.B0 k self e0 a1 D ((D.length - 2:Nat):Int) N v) j ((K,T,P,rs,()),(a:Int),(i:Int))=match pI D (D.length - 2) c a rs with
    | none=>some (aa3,(0:Int),())
    | some (rs',a')=>e0 ((K,T,P,rs',()),(a':Int)):=by
 intro c
 induction c with
 | zero=>
  intro a i rs hi ha hrs j hj
  cases j with
  | zero=>omega
  | succ j=>
   show mK.b0 _ _ a1 _ _ _ _=_;grind [mK.b0,pI]
 | succ c ih=>
  intro a i rs hi ha hrs j hj
  cases j with
  | zero=>omega
  | succ j=>
   show mK.b0 _ _ a1 _ _ _ _=_;unfold mK.b0;have h1:(i:Int) < N:=by omega
   have e1:af ((a:Int)+2)=((a+2:Nat):Int):=by grind [bi]
   have e2:af ((a:Int)+1)=((a+1:Nat):Int):=by grind [bi]
   have e3:af ((i:Int)+1)=((i+1:Nat):Int):=by grind [bi]
   simp only[h1,aO,aS,e1,e2,e3,pI];by_cases h2:D.length - 2 < a+2
   ·have:((D.length - 2:Nat):Int) < ((a+2:Nat):Int):=by omega
    simp only[this,aO,aS,aG h2];rfl
   have h2':¬ ((D.length - 2:Nat):Int) < ((a+2:Nat):Int):=by omega
   obtain ⟨g1,g2⟩:=zF (show a+1 < D.length by omega);obtain ⟨g3,g4⟩:=zF (show a < D.length by omega);have hb:=CC D (a+1);have WP:=CC D a;simp only[h2',aI,aF,aL h2,aN,aK,aC,g1,g3,aA,g2,g4,zG (show gd D (a+1)<=4000000000 by omega),zG (show gd D a<=4000000000 by omega)];have e4:af (((a+2:Nat):Int)+(gd D (a+1):Int))=((a+2+gd D (a+1):Nat):Int):=by rw[bi Bys];omega
   have e5:af ((2:Int)+(gd D (a+1):Int))=((2+gd D (a+1):Nat):Int):=by grind [bi]
   have e6:af ((a:Int)+((2+gd D (a+1):Nat):Int))=((a+2+gd D (a+1):Nat):Int):=by grind
   simp only[e4,e5,e6];by_cases h3:D.length - 2 < a+2+gd D (a+1)
   ·have:((D.length - 2:Nat):Int) < ((a+2+gd D (a+1):Nat):Int):=by omega
    simp only[this,aO,aS,aG h3];rfl
   have h3':¬ ((D.length - 2:Nat):Int) < ((a+2+gd D (a+1):Nat):Int):=by omega
   have h4:((a+2:Nat):Int)<=((a+2+gd D (a+1):Nat):Int)/\((a+2+gd D (a+1):Nat):Int)<=(D.length:Int):=by omega
   simp only[h3',aI,aF,aL h3,h4,cM,aK,aC];rw[mg _ (by simp only[bU,cO];omega)];have hc:rs.length+[(((gd D a:Nat):Int),((D.take (a+2+gd D (a+1))).drop (a+2)),())].length<=cg:=c9 (by grind [List.length_nil]);simp only[aA,hc,aK];exact ih (a+2+gd D (a+1)) (i+1) _ Bys Bys (by simp;omega) j Bys
theorem Sg (d:List UInt8) (hd:d.length<=2000000000):mK.ab (d,())=some (match u9 d with | none=>(aa3,(0:Int),()) | some (r,n)=>(r,(n:Int),())):=by
 refine ag (k:=300) λk hk=>(mK.ae k _).trans ?_;unfold mK.p u9;by_cases h7:d.length < 7
 ·have:(d.length:Int) < 7:=by omega
  simp only[this,aO,aS,h7,true_or,aK];rfl
 have h7':¬ (d.length:Int) < 7:=by omega
 obtain ⟨g1,g2⟩:=zF (show 0 < d.length by omega);have hb:=CC d 0;simp only[h7',aI,aF,h7,false_or,g1,aA,g2,zG (show gd d 0<=4000000000 by omega)];by_cases hl:d.length < gd d 0
 ·have:(d.length:Int) < (gd d 0:Int):=by omega
  simp only[this,aO,aS,hl,or_true,aK];rfl
 have Ge:¬ (d.length:Int) < (gd d 0:Int):=by omega
 by_cases hm:gd d 0 < 7
 ·have:(gd d 0:Int) < 7:=by omega
  simp only[Ge,aI,aF,this,aO,aS,hm,true_or,aK];rfl
 have hm':¬ (gd d 0:Int) < 7:=by omega
 have gb:0<=(gd d 0:Int)/\(gd d 0:Int)<=(d.length:Int):=by omega
 simp only[Ge,hm',aI,aF,hl,hm,or_self,aR,gb,cM,aK,aC,eK];generalize hDD:d.take (gd d 0)=D;have hDl:D.length=gd d 0:=by grind
 have ga:∀ i,i < gd d 0->gd D i=gd d i:=λi hi=>by grind [ZV]
 obtain ⟨q1,q2⟩:=zF (show 1 < D.length by omega);obtain ⟨q3,q4⟩:=zF (show 2 < D.length by omega);obtain ⟨q5,q6⟩:=zF (show 3 < D.length by omega);obtain ⟨q7,q8⟩:=zF (show 4 < D.length by omega);have b1:=CC d 1;have b2:=CC d 2;have b3:=CC d 3;have b4:=CC d 4;have ew:af ((D.length:Int) - 2)=((D.length - 2:Nat):Int):=by grind [bi]
 simp only[q1,q3,q5,q7,aA,q2,q4,q6,q8,ga 1 Bys,ga 2 Bys,ga 3 Bys,ga 4 Bys,ew,zG (show gd d 1<=4000000000 by omega),zG (show gd d 2<=4000000000 by omega),zG (show gd d 3<=4000000000 by omega),zG (show gd d 4<=4000000000 by omega)];have hp:=X7 (D:=D) Bys Bys (a1:=(d,())) (e0:=λz=>mK.Q0 k (d,()) D ((D.length - 2:Nat):Int) (gd d 4:Int) z) (K:=(gd d 1:Int)) (T:=(gd d 2:Int)) (P:=(gd d 3:Int)) (N:=(gd d 4:Int)) Bys (k:=k) (gd d 4) 5 0 [] Bys Bys (aH _) k Bys;refine aQ hp ?_;rw[<-hDl]
 cases IY:pI D (D.length - 2) (gd d 4) 5 [] with
 | none=>rfl
 | some q=>
  obtain ⟨rs,a⟩:=q;simp only[mK.Q0,mK.q0];by_cases ha:a=D.length - 2;rotate_left
  ·have:¬ ((a:Int)=((D.length - 2:Nat):Int)):=by omega
   simp only[this,aI,cI,aS,ha,false_and,aR];rfl
  subst ha;simp only[aO,aU,aF,Lg,aA,eL];by_cases hr:rM ((gd d 1:Int),(gd d 2:Int),(gd d 3:Int),rs,())=0;rotate_left
  ·simp only[hr,aI,cI,aS,false_and,aR];rfl
  have hs:=ZU hr;have gy:=DR hs;simp only[hr,aO,aU,aF,I4 _ hs,aA,eL];rw[Qp _ _ Bys];by_cases he:l_ ((gd d 1:Int),(gd d 2:Int),(gd d 3:Int),rs,())=D
  ·grind
  ·simp only[he,aI,aA,cI,aS,aR];rfl
end OT
namespace OT
open Go
theorem It {d:List UInt8} {r:bq} {n:Nat} (h:u9 d=some (r,n)):7<=n/\n<=d.length/\rM r=0:=by
 grind [u9]
theorem Nz:u9 []=none:=rfl
def lg:Nat->List UInt8->List bq×Nat
 | 0,_=>([],0)
 | k+1,d=>match u9 d with
  | none=>([],0)
  | some (r,n)=>(r::(lg k (d.drop n)).1,n+(lg k (d.drop n)).2)
theorem A4:∀ (k k':Nat) (d:List UInt8),d.length < k->d.length < k'->lg k d=lg k' d
 | 0,_,_,h,_=>by omega
 | _+1,0,_,_,h=>by omega
 | k+1,k'+1,d,h,h'=>by
  simp only[lg]
  cases hr:u9 d with
  | none=>rfl
  | some q=>
   obtain ⟨r,n⟩:=q;have hn:=It hr;have:(d.drop n).length=d.length - n:=bU;simp only;rw[A4 k k' (d.drop n) Bys Bys]
def vZ (d:List UInt8):List bq×Nat:=lg (d.length+1) d
theorem Lo (d:List UInt8) (hd:d.length<=1048576):mh.ab (d,())=some ((vZ d).1,((vZ d).2:Int),()):=by
 refine ag (k:=1048578) λk hk=>(mh.ae k _).trans ?_
 have key:∀ (m a:Nat) (acc:List bq),d.length - a=m->a<=d.length->acc.length<=a->∀ j,m < j ->
   al (λself v=>mh.B0 k self (d,()) v) j (acc,(a:Int))=some (acc++(lg (m+1) (d.drop a)).1,((a+(lg (m+1) (d.drop a)).2:Nat):Int),()):=by
  intro m
  induction m using Nat.strongRecOn with
  | ind m ih=>
  intro a acc hm ha afs j hj
  cases j with
  | zero=>omega
  | succ j=>
   show mh.b0 _ _ _=_;unfold mh.b0;have gb:(0:Int)<=(a:Int)/\(a:Int)<=(d.length:Int):=by omega
   simp only[gb,cM,aK,aC,eS];rw[Sg _ (by simp;omega)];simp only[aA,lg]
   cases hr:u9 (d.drop a) with
   | none=>grind
   | some q=>
    obtain ⟨r,n⟩:=q;have hn:=It hr;have hl:(d.drop a).length=d.length - a:=bU;have h0:¬ ((n:Int)=0):=by omega
    have hc:acc.length+[r].length<=cg:=c9 (by grind);have ew:af ((a:Int)+(n:Int))=((a+n:Nat):Int):=by grind [bi]
    simp only[h0,aI,aF,hc,aK,ew];have:=ih (d.length - (a+n)) Bys (a+n) (acc++[r]) rfl Bys (by simp;omega) j Bys;grind [List.drop_drop,A4]
 have:=key d.length 0 [] rfl Bys (aH _) k Bys;simp only[eK,cK,bZ] at this;exact this
def TP (l:Log):Prop:=List.length l.1<=1048576/\List.length l.2.1<=1048576
def tC (d:List UInt8):Bool:=decide ((vZ d).2=d.length)
def xr (l:Log):Int:=if 16000 < List.length l.1+List.length l.2.1 then 2 else if tC l.1&&tC l.2.1 then 0 else 5
theorem size_eq (l:Log) (h:TP l):jV.ab (l,())=some (((List.length l.1+List.length l.2.1:Nat):Int),()):=by
 refine ag (k:=0) λk _=>(jV.ae k _).trans ?_;show jV.p _=_;unfold jV.p;obtain ⟨h1,h2⟩:=h;grind [bi]
theorem VM (l:Log) (h:TP l):li.ab (l,())=some (xr l,()):=by
 refine ag (k:=5) λk hk=>(li.ae k _).trans ?_;unfold li.p xr;rw[size_eq l h]
 have hl:∀ x ∈ [l.1,l.2.1],List.length x<=1048576:=by
  intro x hx;simp only[bB,List.not_mem_nil,or_false] at hx;rcases hx with e | e <;> subst e
  ·exact h.1
  ·exact h.2
 have:=c8 (B:=λself v=>li.b0 self (λz=>li.q0 (l,()) z) (l,()) v) [l.1,l.2.1] (λ(_:Unit) (i:Int)=>i) (λ_ _ x=>if tC x then .inr () else .inl (5,())) (λ_=>(0,())) (λ_ _=>True) (by rw[ao];simp)
  (λi hi s self hI=>by
   grind [li.b0,Lo,tC])
  (λ_ _ _ _ _ _=>trivial) (λs self _=>by
   grind [li.b0,li.q0]) () trivial k (by grind)
 rw[uS tC (5,()) (λ_=>(0,()))] at this;have this:li.r0 k (l,()) 0=_:=this;grind
theorem Lp (l:Log) (r:bq) (h:TP l) (hs:wI r):nc.ab (l,r,())=some (if 16000 < List.length l.1+List.length l.2.1+(l_ r).length then (l,false,()) else ((l.1,l.2.1++l_ r,()),true,())):=by
 have gy:=DR hs;obtain ⟨o1,o2⟩:=h;refine ag (k:=0) λk _=>(nc.ae k _).trans ?_;show nc.p _=_;unfold nc.p
 have hcp:nk.ab (l,())=some (l,()):=by
  refine ag (k:=0) λk _=>(nk.ae k _).trans ?_;grind [nk.p,oT]
 grind [bi,c9,Sf]
theorem Lq (l:Log) (r:bq) (h:TP l) (hs:wI r):kZ.ab (l,r,())=some (if 16000 < List.length l.1+List.length l.2.1+(l_ r).length then (l,false,()) else ((l.1,l.2.1++l_ r,()),true,())):=by
 have gy:=DR hs;have bd:=h;obtain ⟨o1,o2⟩:=h;refine ag (k:=0) λk _=>(kZ.ae k _).trans ?_;grind [kZ.p,bi,c9,I4,size_eq,mg]
theorem abM (l:Log) (g1:List.length l.1<=2000000) (g2:List.length l.2.1<=2000000):sD.ab (l,())=some (l,()):=by
 refine ag (k:=0) λk _=>(sD.ae k _).trans ?_;grind [sD.p,mg]
end OT
set_option linter.unusedSectionVars false
namespace OT
open Go
theorem CD {a b:List UInt8} {i:Nat} (h:i < a.length):gd (a++b) i=gd a i:=by
 unfold gd;simp only[dH];rw[cZ h]
theorem ZW:∀ (xs:List ci) (s:Int),s<=65->(bt (λ_ s x=>mu s x) (λ_=>((0:Int),())) 0 xs s).1=0->s+(kK (λx:ci=>List.length x.2.1+1) xs:Int)<=65:=by
 have main:∀ (xs:List ci) (i:Nat) (s:Int),s<=65->(bt (λ_ s x=>mu s x) (λ_=>((0:Int),())) i xs s).1=0->s+(kK (λx:ci=>List.length x.2.1+1) xs:Int)<=65:=by
  intro xs
  induction xs with
  | nil=>intro i s h _;simp only[kK];omega
  | cons x xs ih=>
   intro i s h h0;simp only[bt] at h0
   cases hs:mu s x with
   | inl o=>rw[hs] at h0;exact absurd h0 (Qi hs)
   | inr s'=>
    rw[hs] at h0;have hg:=Nv hs;have hb:bl x=(List.length x.2.1:Int):=rfl;have:=ih (i+1) s' Bys h0;simp only[kK];omega
 exact λxs s=>main xs 0 s
theorem NA:∀ (xs:List ci),(im xs).length<=2*kK (λx:ci=>List.length x.2.1+1) xs
 | []=>aW _
 | x::xs=>by
  have:=NA xs;rw[y_,bK];simp only[tB,aZ,kK];omega
theorem ZX {r:bq} (h:rM r=0):(im r.2.2.2.1).length<=130:=by
 have hg:=NA r.2.2.2.1
 have:ui r.2.2.2.1=0\/List.length r.2.2.2.1=0:=by
  unfold rM at h;by_cases Lr:dm r.1 2 4=true
  ·left;split at h
   ·cases h
   ·split at h
    ·cases h
    ·rw[Lr] at h;simp only[aU,aE,aR] at h;split at h
     ·assumption
     ·rename_i hn;exact absurd h hn
  ·right;split at h
   ·cases h
   ·rename_i hc;simp only[dB,jD,aD,cD,not_and] at hc;have:=hc.1.2 (by simpa using Lr);simp only[bA] at this;omega
 rcases this with h0 | h0
 ·unfold ui at h0;split at h0
  ·cases h0
  ·have:=ZW r.2.2.2.1 0 Bys h0;omega
 ·have:r.2.2.2.1=[]:=cA h0;rw[this];exact aW _
theorem Hg {n:Int} (h0:0<=n) (h1:n<=255):((UInt8.ofInt n).toNat:Int)=n:=by
 simp[UInt8.ofInt,hJ];omega
theorem X8 {r:bq} (h:rM r=0) (s:List UInt8):u9 (l_ r++s)=some (r,(l_ r).length):=by
 have hg:=Ax h;have xk:=ZX h;have gy:=Hd r;have hhl:=TM r;obtain ⟨k,t,p,xs,⟨⟩⟩:=r;simp only at hg xk gy;have hnb:(im xs).length<=130:=xk;have hn:(l_ (k,t,p,xs,())).length=7+(im xs).length:=gy
 have hw:af (((w_ (k,t,p,xs,())++im xs).length:Int)+2)=((7+(im xs).length:Nat):Int):=by
  rw[bK];simp only[w_,aZ,bR];rw[bi Bys];omega
 have hhd:Ha (k,t,p,xs,())=[UInt8.ofInt ((7+(im xs).length:Nat):Int),UInt8.ofInt k,UInt8.ofInt t,UInt8.ofInt p,UInt8.ofInt (List.length xs:Int)]++im xs:=by
  unfold Ha;rw[show (k,t,p,xs,()).2.2.2.1=xs from rfl,hw];rfl
 have TQ:l_ (k,t,p,xs,())=[UInt8.ofInt ((7+(im xs).length:Nat):Int),UInt8.ofInt k,UInt8.ofInt t,UInt8.ofInt p,UInt8.ofInt (List.length xs:Int)]++im xs++[UInt8.ofInt ((wH 1 (Ha (k,t,p,xs,()))) / 256),UInt8.ofInt (wH 1 (Ha (k,t,p,xs,())))]:=by
  unfold l_;rw[hhd]
 have e0:gd (l_ (k,t,p,xs,())++s) 0=7+(im xs).length:=by
  have:=Hg (n:=((7+(im xs).length:Nat):Int)) Bys Bys;rw[CD Bys,TQ];show (UInt8.ofInt ((7+(im xs).length:Nat):Int)).toNat=_;omega
 have e1:(gd (l_ (k,t,p,xs,())++s) 1:Int)=k:=by
  rw[CD Bys,TQ];exact Hg (n:=k) Bys Bys
 have e2:(gd (l_ (k,t,p,xs,())++s) 2:Int)=t:=by
  rw[CD Bys,TQ];exact Hg (n:=t) Bys Bys
 have e3:(gd (l_ (k,t,p,xs,())++s) 3:Int)=p:=by
  rw[CD Bys,TQ];exact Hg (n:=p) Bys Bys
 have e4:gd (l_ (k,t,p,xs,())++s) 4=xs.length:=by
  have:=Hg (n:=(xs.length:Int)) Bys Bys;rw[CD Bys,TQ];show (UInt8.ofInt (xs.length:Int)).toNat=_;omega
 have hp:=TO (e:=5+(im xs).length) xs [UInt8.ofInt ((7+(im xs).length:Nat):Int),UInt8.ofInt k,UInt8.ofInt t,UInt8.ofInt p,UInt8.ofInt (List.length xs:Int)] [UInt8.ofInt ((wH 1 (Ha (k,t,p,xs,()))) / 256),UInt8.ofInt (wH 1 (Ha (k,t,p,xs,())))] [] hg.2.2.2.2.2.2.2 (by simp only[aZ,bR];omega);rw[<-TQ] at hp;unfold u9;rw[e0,e1,e2,e3,e4,aL (by rw[bK,hn];omega),gM Bys,fF Bys,show 7+(im xs).length - 2=5+(im xs).length by omega];simp only[aZ,bR] at hp;rw[hp];simp only[cK];exact (aG ⟨trivial,h,trivial⟩).trans (cP (λn=>some (((k,t,p,xs,()):bq),n)) hn.symm)
def uA (rs:List bq):List UInt8:=rs.flatMap l_
theorem Qq:∀ (rs:List bq) (k:Nat),(uA rs).length < k->(∀ r ∈ rs,rM r=0)->lg k (uA rs)=(rs,(uA rs).length)
 | [],k,hk,_=>by
  obtain ⟨j,rfl⟩:∃ j,k=j+1:=⟨k - 1,by omega⟩
  simp only[uA,iK,lg,Nz];rfl
 | r::rs,k,hk,h=>by
  have hc:uA (r::rs)=l_ r++uA rs:=by unfold uA;rw[dU]
  rw[hc,bK] at hk ⊢;have hp:=Hd r
  obtain ⟨j,rfl⟩:∃ j,k=j+1:=⟨k - 1,by omega⟩
  have ih:=Qq rs j Bys λq hq=>h q (aX _ hq);simp only[lg,X8 (h r bF),List.drop_left,ih]
theorem X9 {rs:List bq} (h:∀ r ∈ rs,rM r=0):vZ (uA rs)=(rs,(uA rs).length):=Qq rs _ Bys h
end OT
namespace OT
open Go
def Az (c:UInt8):Bool:=!decide ((c.toNat:Int) < 97)&&!decide ((122:Int) < (c.toNat:Int))
def Do (s:List UInt8):Bool:=s.all Az&&decide (s.length<=8)
def i7 (x:Row):Int:=if dm x.1 0 3&&(dm x.2.1 1 99&&dm x.2.2.1 0 999) then (if Do x.2.2.2.1 then 0 else 5) else 3
theorem len8 (s:List UInt8):decide ((s.length:Int)<=8)=decide (s.length<=8):=by
 grind
theorem Sh (s:List UInt8) (h:s.length<=maxLen):oP.ab (s,())=some (Do s,()):=by
 refine ag (k:=s.length+1) λk hk=>(oP.ae k _).trans ?_
 have:=c8 (B:=λself v=>oP.b0 self (λz=>oP.q0 (s,()) z) (s,()) v) s (λ(_:Unit) (i:Int)=>i) (λ_ _ x=>if Az x then .inr () else .inl (false,())) (λ_=>(decide (s.length<=8),())) (λ_ _=>True) h
  (λi hi _ self _=>by
   grind [oP.b0,Az]) (λ_ _ _ _ _ _=>trivial) (λ_ self _=>by
   grind [oP.b0,oP.q0,len8]) () trivial k Bys
 refine this.trans ?_;rw[uS Az (false,()) (λ_=>(decide (s.length<=8),()))];grind [Do]
theorem za (x:Row) (h:List.length x.2.2.2.1<=maxLen):gc.ab (x,())=some (i7 x,()):=by
 refine ag (k:=0) λk _=>(gc.ae k _).trans ?_;show gc.p _=_;unfold gc.p i7 dm;simp only[qu,Sh _ h,aA];grind
theorem zb (x:Row) (h:List.length x.2.2.2.1<=maxLen):dw.ab (x,())=some (i7 x,()):=by
 refine ag (k:=List.length x.2.2.2.1+1) λk hk=>(dw.ae k _).trans ?_
 have:=c8 (B:=λself v=>dw.b0 self (λz=>dw.q0 (x,()) z) (x,()) v) x.2.2.2.1 (λ(_:Unit) (i:Int)=>i) (λ_ _ c=>if Az c then .inr () else .inl (5,())) (λ_=>(0,())) (λ_ _=>True) h
  (λi hi _ self _=>by
   grind [dw.b0,Az]) (λ_ _ _ _ _ _=>trivial) (λ_ self _=>by
   grind [dw.b0,dw.q0]) () trivial k Bys
 rw[uS Az (5,()) (λ_=>(0,()))] at this;have this:dw.r0 k (x,()) 0=_:=this;unfold dw.p i7 dm Do;simp only[si,this,aA]
 have h8:decide ((8:Int) < (List.length x.2.2.2.1:Int))=!decide (List.length x.2.2.2.1<=8):=by
  grind
 rw[h8];cases decide ((0:Int)<=x.1) <;> cases decide (x.1<=3) <;> cases decide ((1:Int)<=x.2.1) <;> cases decide (x.2.1<=99) <;> cases decide ((0:Int)<=x.2.2.1) <;> cases decide (x.2.2.1<=999) <;> cases decide (List.length x.2.2.2.1<=8) <;> cases (x.2.2.2.1).all Az <;> rfl
def rl (x:Row):Prop:=List.length x.2.2.2.1<=maxLen
def cl (c:Change):Prop:=rl c.2.1/\rl c.2.2.2.1
def sameKey (a b:Row):Bool:=decide (a.1=b.1)&&decide (a.2.1=b.2.1)
def jt (a b:Int×Int):Bool:=decide (a.1 < b.1)||(decide (a.1=b.1)&&decide (a.2 < b.2))
def kI (c:Change):Int:=if (!c.1&&!c.2.2.1)||(c.1&&c.2.2.1&&!sameKey c.2.1 c.2.2.2.1) then 1 else if c.1&&!decide (i7 c.2.1=0) then i7 c.2.1 else if c.2.2.1 then i7 c.2.2.2.1 else 0
def Dp (c:Change):Int:=if kI c=0 then (if c.1&&c.2.2.1&&Ty.eq a8 c.2.1 c.2.2.2.1 then 1 else 0) else kI c
def ck (c:Change):Int×Int:=if c.2.2.1 then (c.2.2.2.1.1,c.2.2.2.1.2.1) else (c.2.1.1,c.2.1.2.1)
theorem On (c:Change) (h:cl c):qk.ab (c,())=some (kI c,()):=by
 refine ag (k:=0) λk _=>(qk.ae k _).trans ?_;show qk.p _=_;unfold qk.p kI sameKey;simp only[za _ h.1,za _ h.2,aA];grind
theorem DS (a b:Row):kD.ab (a,b,())=some (jt (a.1,a.2.1) (b.1,b.2.1),()):=by
 refine ag (k:=0) λk _=>(kD.ae k _).trans ?_;grind [kD.p,jt]
theorem Fm (a b:Row):mT.ab (a,b,())=some (if jt (a.1,a.2.1) (b.1,b.2.1) then -1 else if jt (b.1,b.2.1) (a.1,a.2.1) then 1 else 0,()):=by
 refine ag (k:=0) λk _=>(mT.ae k _).trans ?_;grind [mT.p,DS]
theorem Ls (a b:Row):decide ((if jt (a.1,a.2.1) (b.1,b.2.1) then (-1:Int) else if jt (b.1,b.2.1) (a.1,a.2.1) then 1 else 0)=0)=sameKey a b:=by
 grind [jt,sameKey]
theorem A5 (c:Change) (h:cl c):iz.ab (c,())=some (kI c,()):=by
 refine ag (k:=0) λk _=>(iz.ae k _).trans ?_;show iz.p _=_;unfold iz.p kI;simp only[zb _ h.1,zb _ h.2,Fm,aA,Ls];grind
theorem MJ (c:Change) (h:cl c):rH.ab (c,())=some (Dp c,()):=by
 refine ag (k:=0) λk _=>(rH.ae k _).trans ?_;grind [rH.p,Dp,On]
theorem NB (c:Change) (h:cl c):lJ.ab (c,())=some (Dp c,()):=by
 refine ag (k:=0) λk _=>(lJ.ae k _).trans ?_;grind [lJ.p,Dp,A5]
theorem Bq (c:Change):l7.ab (c,())=some ((ck c).1,(ck c).2,()):=by
 refine ag (k:=0) λk _=>(l7.ae k _).trans ?_;grind [l7.p,ck]
def AA (c:Change):Row:=if c.2.2.1 then c.2.2.2.1 else c.2.1
theorem yh (c:Change):((AA c).1,(AA c).2.1)=ck c:=by grind [AA,ck]
theorem xd (c:Change):dh.ab (c,())=some (AA c,()):=by
 refine ag (k:=0) λk _=>(dh.ae k _).trans ?_;grind [dh.p,AA]
theorem aa4 (n:Nat) (m:Nat):decide ((m:Int) < (n:Int))=decide (m < n):=by
 grind
theorem Lt {i:Nat} (hi:0 < i) (h:i<=maxLen):af ((i:Int) - 1)=((i - 1:Nat):Int):=by
 grind [ao,bi]
theorem ad8 {x:Row} (h:Cq a8 x):rl x:=h.2.2.2.1
end OT
namespace OT
open Go
theorem eo {V S O α:Type} {B:(V->Option O)->V->Option O} (xs:List α) (enc:S->Int->V) (f:Nat->S->α->Sum (Option O) S) (fin:S->Option O) (I:Nat->S->Prop) (DO:xs.length<=maxLen)
  (gb:∀ (i:Nat) (hi:i < xs.length) (s:S) self,I i s->B self (enc s (i:Int))=match f i s xs[i] with | .inl o=>o | .inr s'=>self (enc s' (af ((i:Int)+1))))
  (hI:∀ (i:Nat) (hi:i < xs.length) (s s':S),I i s->f i s xs[i]=.inr s'->I (i+1) s')
  (pM:∀ (s:S) self,I xs.length s->B self (enc s (xs.length:Int))=fin s) (s:S) (h0:I 0 s):∀ k,xs.length < k->al B k (enc s 0)=bt f fin 0 xs s:=by
 have main:∀ (m i:Nat) (s:S),xs.length - i=m->i<=xs.length->I i s->∀ k,m < k->al B k (enc s (i:Int))=bt f fin i (xs.drop i) s:=by
  intro m
  induction m with
  | zero=>
   intro i s hm hi hs k hk;have sS:i=xs.length:=by omega
   subst sS;cases k <;> grind [al,bt]
  | succ m ih=>
   intro i s hm hi hs k hk;have a7:i < xs.length:=by omega
   cases k <;> grind [al,List.drop_eq_getElem_cons,bt,bi,ao]
 intro k hk
 simpa using main xs.length 0 s Bys Bys h0 k hk
theorem tR {O α:Type} (p:α->Bool) (a:O) (fin:Unit->O):∀ (xs:List α) (i:Nat),bt (λ_ _ x=>if p x then .inl a else .inr ()) fin i xs ()=if xs.any p then a else fin ()
 | [],_=>rfl
 | x::xs,i=>by
  simp only[bt,gL];by_cases h:p x=true
  ·simp[h]
  ·simp[h,tR p a fin xs (i+1)]
def vH {α:Type} (p:α->Bool):Nat->List α->Int
 | _,[]=>-1
 | i,x::xs=>if p x then (i:Int) else vH p (i+1) xs
theorem Br {α:Type} (p:α->Bool):∀ (xs:List α) (i:Nat),bt (λi _ x=>if p x then .inl ((i:Int),()) else .inr ()) (λ_=>((-1:Int),())) i xs ()=(vH p i xs,())
 | [],_=>rfl
 | x::xs,i=>by
  simp only[bt,vH];by_cases h:p x=true
  ·simp[h]
  ·simp[h,Br p xs (i+1)]
theorem NC {α:Type} (p:α->Bool):∀ (xs:List α) (i:Nat),decide (0<=vH p i xs)=xs.any p
 | [],_=>rfl
 | x::xs,i=>by
  simp only[vH,gL];by_cases h:p x=true
  ·simp[h]
  ·simp[h,NC p xs (i+1)]
theorem Fo {α:Type} (p:α->Bool):∀ (xs:List α) (i:Nat),0<=vH p i xs->∃ (j:Nat) (hj:j < xs.length),vH p i xs=((i+j:Nat):Int)/\p xs[j]=true
 | [],_,h=>by simp[vH] at h
 | x::xs,i,h=>by
  simp only[vH] at h ⊢;by_cases hp:p x=true
  ·exact ⟨0,by simp,by simp[hp],hp⟩
  ·rw[aL hp] at h ⊢;obtain ⟨j,hj,h1,h2⟩:=Fo p xs (i+1) h;exact ⟨j+1,by simp;omega,by rw[h1];omega,by simpa using h2⟩
theorem z_ (a b:Key):Ty.eq be a b=decide (a=b):=by
 obtain ⟨a1,a2,⟨⟩⟩:=a;obtain ⟨b1,b2,⟨⟩⟩:=b;show (decide (a1=b1)&&(decide (a2=b2)&&true))=decide ((a1,a2,())=(b1,b2,()));grind
def kg (c:Change):Key:=((ck c).1,(ck c).2,())
def jk (ks:List Key) (k:Key):Bool:=ks.any λx=>decide (x=k)
theorem nY {ks:List Key} {k:Key}:jk ks k=true↔k ∈ ks:=by simp[jk]
def xM (k:Key):Bool:=dm k.1 0 3&&dm k.2.1 1 99
theorem Hh (c:Change):m9.ab (c,())=some (kg c,()):=by
 refine ag (k:=0) λk _=>(m9.ae k _).trans ?_;show m9.p _=_;unfold m9.p;simp only[Bq,aA];rfl
theorem MK (c:Change):iF.ab (c,())=some (kg c,()):=by
 refine ag (k:=0) λk _=>(iF.ae k _).trans ?_;grind [iF.p,kg,xd,yh]
theorem Si (x:Key):tN.ab (x,())=some (xM x,()):=by
 refine ag (k:=0) λk _=>(tN.ae k _).trans ?_;grind [tN.p,xM,dm,qu]
theorem ZY (x:Key):u0.ab (x.1,x.2.1,())=some (xM x,()):=by
 refine ag (k:=0) λk _=>(u0.ae k _).trans ?_;grind [u0.p,xM,dm,si]
theorem JW (x:Tx) (k0:Key) (h:List.length x.2.2.2.1<=maxLen):ja.ab (x,k0,())=some (jk x.2.2.2.1 k0,()):=by
 refine ag (k:=List.length x.2.2.2.1+1) λk hk=>(ja.ae k _).trans ?_
 have:=c8 (B:=λself v=>ja.b0 self (λz=>ja.q0 (x,k0,()) z) (x,k0,()) v) x.2.2.2.1 (λ(_:Unit) (i:Int)=>i) (λ_ _ y=>if decide (y=k0) then .inl (true,()) else .inr ()) (λ_=>(false,())) (λ_ _=>True) h
  (λi hi s self _=>by
   grind [ja.b0,z_])
  (λ_ _ _ _ _ _=>trivial) (λs self _=>by
   show ja.b0 _ _ _ _=_;unfold ja.b0;simp only[aV,aI,aF]
   rfl) () trivial k Bys
 rw[tR] at this;refine aQ this ?_;grind [jk]
theorem contains_eq (ks:List Key) (k0:Key) (h:ks.length<=maxLen):fw.ab (ks,k0,())=some (jk ks k0,()):=by
 have hix:kN.ab (ks,k0,())=some (vH (λy=>decide (k0=y)) 0 ks,()):=by
  refine ag (k:=ks.length+1) λk hk=>(kN.ae k _).trans ?_
  have:=c8 (B:=λself v=>kN.b0 self (λz=>kN.q0 (ks,k0,()) z) (ks,k0,()) v) ks (λ(_:Unit) (i:Int)=>i) (λi _ y=>if decide (k0=y) then .inl ((i:Int),()) else .inr ()) (λ_=>((-1:Int),())) (λ_ _=>True) h
   (λi hi s self _=>by
    grind [kN.b0,z_])
   (λ_ _ _ _ _ _=>trivial) (λs self _=>by
    show kN.b0 _ _ _ _=_;unfold kN.b0;simp only[aV,aI,aF]
    rfl) () trivial k Bys
  rw[Br] at this;exact this
 refine ag (k:=0) λk _=>(fw.ae k _).trans ?_;grind [fw.p,NC,jk]
def tl (x:Tx):Prop:=List.length x.2.1<=1048576/\List.length x.2.2.1<=1048576/\List.length x.2.2.2.1<=1048576/\∀ c ∈ x.2.1,cl c
def wc (ks:List Key) (c:Change):Int:=if Dp c=0 then (if jk ks (kg c) then 0 else 8) else Dp c
def Hj (n last:Int) (ms:List Int):Bool:=bt (λ_ last m=>if dm m last n then .inr m else .inl false) (λ_=>true) 0 ms last
def qU (ks:List Key) (i:Nat) (k:Key):Int:=if xM k then (if jk (ks.take i) k then 6 else 0) else 3
def vI (ks:List Key):Int:=bt (λi (_:Unit) k=>if qU ks i k=0 then .inr () else .inl (qU ks i k)) (λ_=>(0:Int)) 0 ks ()
def tD (x:Tx):Int:=if decide (8 < List.length x.2.2.1)||decide (12 < List.length x.2.2.2.1) then 2 else if Hj (List.length x.2.1:Int) 0 x.2.2.1 then vI x.2.2.2.1 else 3
def Dq (x:Tx):Int:=oO (wc x.2.2.2.1) x.2.1
theorem Qr (n:Int) (E:Option (Int×Unit)):∀ (ms:List Int) (i:Nat) (last:Int),bt (λ_ last m=>if dm m last n then .inr m else .inl (some ((3:Int),()))) (λ_=>E) i ms last=if bt (λ_ last m=>if dm m last n then .inr m else .inl false) (λ_=>true) i ms last then E else some ((3:Int),())
 | [],_,_=>rfl
 | m::ms,i,last=>by
  simp only[bt];by_cases hb:dm m last n=true
  ·simp only[hb,aK];exact Qr n E ms _ _
  ·simp[hb]
theorem Sj (x:Tx) (h:tl x):m_.ab (x,())=some (Dq x,()):=by
 obtain ⟨h1,h2,h3,h4⟩:=h;refine ag (k:=List.length x.2.1+1) λk hk=>(m_.ae k _).trans ?_
 have:=c8 (B:=λself v=>m_.b0 self (λz=>m_.q0 (x,()) z) (x,()) v) x.2.1 (λ(_:Unit) (i:Int)=>i) (λ_ _ c=>if wc x.2.2.2.1 c=0 then .inr () else .inl (wc x.2.2.2.1 c,())) (λ_=>(0,())) (λ_ _=>True) (by rw[ao];omega)
  (λi hi s self _=>by
   show m_.b0 _ _ _ _=_;unfold m_.b0;have a7:(i:Int) < (List.length x.2.1:Int):=by omega
   simp only[a7,aO,aS,aN,aK,aC,aB hi,aA,MJ _ (h4 _ (aJ hi)),Hh]
   grind [JW,ao,wc])
  (λ_ _ _ _ _ _=>trivial) (λs self _=>by
   show m_.b0 _ _ _ _=_;unfold m_.b0;simp only[aV,aI,aF]
   rfl) () trivial k Bys
 rw[E3 (wc x.2.2.2.1) (λc=>(c,())) (λ_=>((0:Int),()))] at this;refine aQ this ?_;grind [Dq]
theorem ZZ {m last n:Int} (h:0<=last):(dm m 0 n&&decide (last<=m))=dm m last n:=by
 grind [dm]
theorem Qs (x:Tx) (h:tl x):dg.ab (x,())=some (tD x,()):=by
 obtain ⟨h1,h2,h3,h4⟩:=h;refine ag (k:=20) λk hk=>(dg.ae k _).trans ?_;unfold dg.p tD;by_cases hm:8 < List.length x.2.2.1
 ·grind
 have hm':¬ (8:Int) < (List.length x.2.2.1:Int):=by omega
 by_cases mY:12 < List.length x.2.2.2.1
 ·grind
 have Tn:¬ (12:Int) < (List.length x.2.2.2.1:Int):=by omega
 simp only[hm,hm',Tn,mY,aI,aF,gW,aE,aR]
 have second:dg.r1 k (x,()) (x,(0:Int))=some (vI x.2.2.2.1,()):=by
  have inner:∀ (self:(Tx×Int)->Option dg.O) (e2:Unit->Option dg.O) (i:Nat) (hi:i < List.length x.2.2.2.1),dg.r2 k self e2 (x,()) x (i:Int) (0:Int)=if jk (x.2.2.2.1.take i) (x.2.2.2.1)[i] then some ((6:Int),()) else self (x,af ((i:Int)+1)):=λself e2 i hi=>by
   have lY:(x.2.2.2.1.take i).length=i:=by simp;omega
   have:=eo (B:=λju v=>dg.b2 ju (λz=>dg.q1 self e2 (x,()) x (i:Int) z) (x,()) x (i:Int) v) (x.2.2.2.1.take i) (λ(_:Unit) (j:Int)=>j) (λ_ _ y=>if decide (y=(x.2.2.2.1)[i]) then .inl (some ((6:Int),())) else .inr ()) (λ_=>self (x,af ((i:Int)+1))) (λ_ _=>True) (by rw[ao];omega)
    (λj hj s ju _=>by
     grind [dg.b2,z_])
    (λ_ _ _ _ _ _=>trivial) (λs ju _=>by
     show dg.b2 _ _ _ _ _ _=_;unfold dg.b2;simp only[lY,aV,aI,aF]
     rfl) () trivial k Bys
   rw[tR] at this;exact this
  have:=c8 (B:=λself v=>dg.B1 k self (λz=>dg.q2 (x,()) z) (x,()) v) x.2.2.2.1 (λ(_:Unit) (i:Int)=>(x,i)) (λi _ y=>if qU x.2.2.2.1 i y=0 then .inr () else .inl (qU x.2.2.2.1 i y,())) (λ_=>(0,())) (λ_ _=>True) (by rw[ao];omega)
   (λi hi s self _=>by
    show dg.b1 _ _ _ _ _=_
    grind [dg.b1,qU,Int.toNat_natCast,Si])
   (λ_ _ _ _ _ _=>trivial) (λs self _=>by
    show dg.b1 _ _ _ _ _=_;unfold dg.b1;simp only[aV,aI,aF]
    rfl) () trivial k Bys
  refine aQ this ?_;unfold vI;generalize TR:x.2.2.2.1=ks
  have gen:∀ (f:Nat->Key->Int) (ys:List Key) (i:Nat),bt (λi (_:Unit) y=>if f i y=0 then .inr () else .inl (f i y,())) (λ_=>((0:Int),())) i ys ()=(bt (λi (_:Unit) y=>if f i y=0 then .inr () else .inl (f i y)) (λ_=>(0:Int)) i ys (),()):=by
   intro f ys
   induction ys <;> grind [bt]
  simp_all
 have:=eo (B:=λself v=>dg.b0 self (λz=>dg.Q0 k (x,()) z) (x,()) v) x.2.2.1 (λ(_:Int) (i:Int)=>i) (λi last m=>if dm m last (List.length x.2.1:Int) then .inr m else .inl (some ((3:Int),()))) (λ_=>some (vI x.2.2.2.1,()))
  (λi last=>0<=last/\(i=0->last=0)/\∀ y,0 < i->x.2.2.1[i - 1]?=some y->last=y) (by rw[ao];omega)
  (λi hi last self hI=>by
   obtain ⟨i1,i2,i3⟩:=hI;show dg.b0 _ _ _ _=_;unfold dg.b0;have a7:(i:Int) < (List.length x.2.2.1:Int):=by omega
   simp only[a7,aO,aS,aN,aK,aC,aB hi,aA,qu];generalize hmm:(x.2.2.1)[i]=m;rw[<-ZZ i1];show (bif !dm m 0 (List.length x.2.1:Int) then _ else _)=_
   cases hb0:dm m 0 (List.length x.2.1:Int) with
   | false=>rfl
   | true=>
    have hm0:0<=m:=by
     grind [dm]
    simp only[aU,aF,eJ];by_cases h0:i=0
    ·grind
    ·have hi1:i - 1 < List.length x.2.2.1:=by omega
     have hl:=i3 (x.2.2.1)[i - 1] Bys (aB hi1);have hp:(0:Int) < (i:Int):=by omega
     simp only[hp,aO,aS,Lt (show 0 < i by omega) (by rw[ao];omega),aN,aK,aC,aB hi1,aA]
     grind)
  (λi hi last ae9 hI hs=>by
   grind [dm])
  (λlast self hI=>by
   show dg.b0 _ _ _ _=_;unfold dg.b0;simp only[aV,aI,aF]
   exact second) 0 ⟨fD _,λ_=>rfl,λ_ h=>by omega⟩ k Bys
 refine aQ this ?_;unfold Hj;rw[Qr];grind
end OT
namespace OT
open Go
def pb (D:List UInt8) (i:Nat):Nat:=(D.getD i 0).toNat
theorem oX (D:List UInt8) (i:Nat):pb D i < 256:=iY _
theorem jO {D:List UInt8} {i:Nat} (h:i < D.length):D[i]?=some D[i]/\(D[i]).toNat=pb D i:=⟨aB h,by simp[pb,h]⟩
theorem uB (D:List UInt8) (i j:Nat) (v:UInt8):pb (D.set i v) j=if i=j/\i < D.length then v.toNat else pb D j:=by
 grind [pb]
theorem ML {D c:List UInt8} {a:Nat} (h:a+c.length<=D.length) (j:Nat):pb (oM D a c.length c) j=if a<=j/\j < a+c.length then pb c (j - a) else pb D j:=by
 grind [pb,Pz]
theorem CE {A B:List UInt8} (h:A.length=B.length) (h2:∀ j,j < A.length->pb A j=pb B j):A=B:=by
 refine List.ext_getElem h λi h1 h3=>?_;have:=h2 i h1;rw[<-(jO h1).2,<- (jO h3).2] at this;exact fT.1 this
theorem ofNat_toNat {n:Nat} (h:n < 256):(UInt8.ofNat n).toNat=n:=by
 simp_all
theorem Z0 (D:List UInt8) (a n j:Nat) (h:j < n):pb ((D.drop a).take n) j=pb D (a+j):=by
 grind [pb]
def pn (p:List UInt8):Nat:=pb p 0
def ep (p:List UInt8):Nat:=pb p 1
def pat (p:List UInt8) (i:Nat):Nat:=pb p (2+2*i)
def bh (p:List UInt8) (i:Nat):Nat:=pb p (3+2*i)
def Fq (p:List UInt8) (i:Nat):Bool:=if pat p i=0\/bh p i=0 then decide (pat p i=bh p i) else decide (ep p<=pat p i)&&decide (pat p i+bh p i<=64)
def CF (p:List UInt8) (i k:Nat):Bool:=(decide (bh p i=0)||decide (bh p k=0))||(decide (pat p i+bh p i<=pat p k)||decide (pat p k+bh p k<=pat p i))
def Dr (p:List UInt8):Int:=
 if p.length=64 then
  if pn p<=16/\2+2*pn p<=ep p/\ep p<=64 then
   if (List.range (pn p)).all (Fq p) then
    if (List.range (pn p)).all (λi=>(List.range i).all (CF p i)) then
     if 0 < pn p/\bh p (pn p - 1)=0 then 8 else 0
    else 8
   else 3
  else 3
 else 1
structure gn (p:List UInt8):Prop where
 len:p.length=64
 n:pn p<=16
 lo:2+2*pn p<=ep p
 hi:ep p<=64
 slot:∀ i,i < pn p->bh p i≠0->ep p<=pat p i/\pat p i+bh p i<=64
 zero:∀ i,i < pn p->bh p i=0->pat p i=0
 apart:∀ i k,i < pn p->k < pn p->i≠k->bh p i≠0->bh p k≠0->pat p i+bh p i<=pat p k\/pat p k+bh p k<=pat p i
 last:0 < pn p->bh p (pn p - 1)≠0
theorem Hk {p:List UInt8} {i:Nat} (yd:2<=ep p):Fq p i=true↔(bh p i≠0->ep p<=pat p i/\pat p i+bh p i<=64)/\(bh p i=0->pat p i=0):=by
 grind [Fq]
theorem Fs {p:List UInt8} {i k:Nat}:CF p i k=true↔(bh p i≠0->bh p k≠0->pat p i+bh p i<=pat p k\/pat p k+bh p k<=pat p i):=by
 grind [CF]
theorem wJ {p:List UInt8}:Dr p=0↔gn p:=by
 constructor
 ·intro h;unfold Dr at h;split at h
  ·rename_i h1;split at h
   ·rename_i h2;split at h
    ·rename_i h3;split at h
     ·rename_i h4;split at h
      ·cases h
      ·rename_i h5;have hs:∀ i,i < pn p->(bh p i≠0->ep p<=pat p i/\pat p i+bh p i<=64)/\(bh p i=0->pat p i=0):=λi hi=>(Hk Bys).1 (bJ.1 h3 i (cC.2 hi));have ha:∀ i k,i < pn p->k < i->bh p i≠0->bh p k≠0->pat p i+bh p i<=pat p k\/pat p k+bh p k<=pat p i:=λi k hi hk=>Fs.1 (bJ.1 (bJ.1 h4 i (cC.2 hi)) k (cC.2 hk));refine ⟨h1,h2.1,h2.2.1,h2.2.2,λi hi=>(hs i hi).1,λi hi=>(hs i hi).2,λi k hi hk Gl z1 z2=>?_,λhn hz=>h5 ⟨hn,hz⟩⟩
       rcases fV Gl with h6 | h6
       all_goals grind
     ·cases h
    ·cases h
   ·cases h
  ·cases h
 ·intro h;unfold Dr;rw[aG h.len,aG ⟨h.n,h.lo,h.hi⟩,aG,aG,aL]
  ·intro ⟨h1,h2⟩;exact h.last h1 h2
  ·refine bJ.2 λi hi=>bJ.2 λk hk=>Fs.2 ?_;have:=cC.1 hi;have:=cC.1 hk;exact h.apart i k Bys Bys Bys
  ·exact bJ.2 λi hi=>(Hk (by have:=h.lo;omega)).2 ⟨h.slot i (cC.1 hi),h.zero i (cC.1 hi)⟩
def jh (p:List UInt8) (i:Nat):List UInt8:=(p.drop (pat p i)).take (bh p i)
def cellOf (p:List UInt8) (i:Nat):List UInt8:=if i < pn p then jh p i else []
theorem pk {p:List UInt8} (h:gn p) {i:Nat} (hi:i < pn p):(jh p i).length=bh p i:=by
 unfold jh;by_cases hz:bh p i=0
 ·simp[hz]
 ·have:=h.slot i hi hz;have:=h.len;grind
theorem JX (p:List UInt8) (i j:Nat) (h:j < bh p i):pb (jh p i) j=pb p (pat p i+j):=Z0 p _ _ j h
theorem JY {p q:List UInt8} {i k:Nat} (hp:(jh p i).length=bh p i) (hq:(jh q k).length=bh q k) (hs:bh p i=bh q k) (hb:∀ j,j < bh p i->pb p (pat p i+j)=pb q (pat q k+j)):jh p i=jh q k:=by
 grind [CE,JX]
theorem Z1 {p c:List UInt8} {i:Nat} (hp:(jh p i).length=bh p i) (hs:bh p i=c.length) (hb:∀ j,j < c.length->pb p (pat p i+j)=pb c j):jh p i=c:=by
 grind [CE,JX]
def ma (p:List UInt8) (s a:Nat) (c:List UInt8):List UInt8:=((oM p a c.length c).set (2+2*s) (UInt8.ofNat a)).set (3+2*s) (UInt8.ofNat c.length)
theorem rq {p:List UInt8} (hp:p.length=64) (s:Nat) {a:Nat} {c:List UInt8} (h:a+c.length<=64):(ma p s a c).length=64:=by
 grind [ma,sb]
theorem zH {p:List UInt8} (hp:p.length=64) {s a:Nat} {c:List UInt8} (h:a+c.length<=64) (hs:s < 16) (j:Nat):pb (ma p s a c) j=if j=3+2*s then c.length else if j=2+2*s then a else if a<=j/\j < a+c.length then pb c (j - a) else pb p j:=by
 grind [ma,sb,uB,ML,ofNat_toNat]
structure xE (p q:List UInt8) (s a m:Nat):Prop where
 len:q.length=64
 n:pn q=pn p\/(pn q=pn p+1/\s=pn p)
 acZ:s < pn q
 n16:pn q<=16
 lo:2+2*pn q<=ep q
 lo2:ep q<=ep p
 at_:pat q s=a
 sz:bh q s=m
 pos:0 < m
 aeQ:ep q<=a
 aeR:a+m<=64
 Qt:∀ i,i < pn q->i≠s->pat q i=pat p i/\bh q i=bh p i
 free:∀ i,i < pn p->i≠s->bh p i≠0->a+m<=pat p i\/pat p i+bh p i<=a
 same:∀ j,ep p<=j->j < 64->(j < a\/a+m<=j)->pb q j=pb p j
theorem xE.ok {p q:List UInt8} {s a m:Nat} (t:xE p q s a m) (h:gn p):gn q:=by
 have a7:∀ i,i < pn q->i≠s->i < pn p:=λi hi hs=>by rcases t.n with h1 | ⟨h1,h2⟩ <;> omega
 have ha:=t.at_;have hm:=t.sz;have Jy:=t.pos;have yd:=t.aeQ;have IM:=t.aeR;have aft:=t.lo2;have hh:=h.hi;refine ⟨t.len,t.n16,t.lo,by omega,λi hi hz=>?_,λi hi hz=>?_,λi k hi hk Gl z1 z2=>?_,λhn=>?_⟩
 ·by_cases hs:i=s
  ·grind
  ·obtain ⟨h1,h2⟩:=t.Qt i hi hs;have:=h.slot i (a7 i hi hs) Bys;omega
 ·by_cases hs:i=s
  ·grind
  ·obtain ⟨h1,h2⟩:=t.Qt i hi hs;have:=h.zero i (a7 i hi hs) Bys;omega
 ·by_cases hs:i=s
  ·subst hs;have TR:k≠i:=λe=>Gl e.symm;obtain ⟨h1,h2⟩:=t.Qt k hk TR;have:=t.free k (a7 k hk TR) TR Bys;omega
  ·obtain ⟨h1,h2⟩:=t.Qt i hi hs;by_cases Db:k=s
   ·subst Db;have:=t.free i (a7 i hi hs) hs Bys;omega
   ·obtain ⟨h3,h4⟩:=t.Qt k hk Db;have:=h.apart i k (a7 i hi hs) (a7 k hk Db) Gl Bys Bys;omega
 ·by_cases hs:pn q - 1=s
  ·rw[hs];omega
  ·obtain ⟨h1,h2⟩:=t.Qt (pn q - 1) Bys hs
   have hq:pn q=pn p:=by
    rcases t.n with h3 | ⟨h3,h4⟩
    all_goals grind
   rw[h2,hq];exact h.last Bys
theorem xE.VN {p q:List UInt8} {s a m:Nat} (t:xE p q s a m) (h:gn p) {i:Nat} (hi:i < pn q) (hs:i≠s):jh q i=jh p i:=by
 have Ee:i < pn p:=by rcases t.n with h1 | ⟨h1,h2⟩ <;> omega
 obtain ⟨h1,h2⟩:=t.Qt i hi hs;refine JY (pk (t.ok h) hi) (pk h Ee) h2 λj hj=>?_;have hz:bh p i≠0:=by omega
 have h3:=h.slot i Ee hz;have h4:=t.free i Ee hs hz;rw[h1];exact t.same _ Bys Bys Bys
theorem xE.X_ {p q:List UInt8} {s a:Nat} {c:List UInt8} (t:xE p q s a c.length) (h:gn p) (hc:∀ j,j < c.length->pb q (a+j)=pb c j):jh q s=c:=
 Z1 (pk (t.ok h) t.acZ) t.sz λj hj=>by rw[t.at_];exact hc j hj
theorem xE.cells {p q:List UInt8} {s a:Nat} {c:List UInt8} (t:xE p q s a c.length) (h:gn p) (hc:∀ j,j < c.length->pb q (a+j)=pb c j) (i:Nat):cellOf q i=if i=s then c else cellOf p i:=by
 have hs:=t.acZ;unfold cellOf;by_cases t7:i=s
 ·subst t7;rw[aG hs,aG rfl,t.X_ h hc]
 ·rw[aL t7];by_cases hi:i < pn q
  ·have Ee:i < pn p:=by rcases t.n with h1 | ⟨h1,h2⟩ <;> omega
   rw[aG hi,aG Ee,t.VN h hi t7]
  ·have Ee:¬ i < pn p:=by rcases t.n with h1 | ⟨h1,h2⟩ <;> omega
   grind
theorem qV {p:List UInt8} (h:gn p) {i:Nat} (hi:i < pn p):cellOf p i=[]↔bh p i=0:=by
 grind [cellOf,pk]
end OT
namespace OT
open Go
def wK (p:List UInt8):Nat->Nat->Nat
 | 0,i=>i
 | m+1,i=>if bh p i=0 then i else wK p m (i+1)
def fm (p:List UInt8):Nat:=wK p (pn p) 0
theorem I5 (p:List UInt8):∀ (m i:Nat),i<=wK p m i/\wK p m i<=i+m/\(∀ j,i<=j->j < wK p m i->bh p j≠0)/\(wK p m i < i+m->bh p (wK p m i)=0)
 | 0,i=>by grind [wK]
 | m+1,i=>by
  simp only[wK];split
  ·grind
  ·rename_i h;obtain ⟨h1,h2,h3,h4⟩:=I5 p m (i+1);grind
theorem vR (p:List UInt8):fm p<=pn p/\(∀ j,j < fm p->bh p j≠0)/\(fm p < pn p->bh p (fm p)=0):=by
 grind [I5,fm]
def nf (p:List UInt8):Nat->Nat
 | 0=>0
 | m+1=>nf p m+bh p m
def sM (p:List UInt8):Int:=62 - 2*(pn p:Int) - (nf p (pn p):Int)
theorem sj (p:List UInt8) {a b:Nat} (h:a<=b):nf p a<=nf p b:=by
 induction b <;> grind [nf]
theorem ND {α:Type} {a b:α->Bool}:∀ {l:List α},(∀ x ∈ l,a x=true->b x=true->False)->l.countP (λx=>a x||b x)=l.countP a+l.countP b
 | [],_=>rfl
 | x::l,h=>by
  have ih:=ND (l:=l) λy hy=>h y (aX _ hy);grind
theorem Ft (a m:Nat):∀ N,(List.range N).countP (λj=>decide (a<=j/\j < a+m))=min N (a+m) - min N a
 | 0=>by simp
 | N+1=>by
  rw[gP,List.countP_append,Ft a m N];grind
def tS (p:List UInt8):Nat->Nat->Bool
 | 0,_=>false
 | k+1,j=>tS p k j||decide (pat p k<=j/\j < pat p k+bh p k)
theorem MM {p:List UInt8}:∀ {k j:Nat},tS p k j=true->∃ i,i < k/\pat p i<=j/\j < pat p i+bh p i
 | k+1,j,h=>by
  simp only[tS,dB,bA] at h;rcases h with h | h
  ·obtain ⟨i,h1,h2⟩:=MM h;grind
  grind
theorem Lu {p:List UInt8} (h:gn p):∀ k,k<=pn p->(List.range 64).countP (tS p k)=nf p k
 | 0,_=>by
  grind [tS,nf]
 | k+1,hk=>by
  have ih:=Lu h k Bys;show (List.range 64).countP (λj=>tS p k j||decide (pat p k<=j/\j < pat p k+bh p k))=nf p k+bh p k;rw[ND,ih,Ft]
  ·by_cases hz:bh p k=0
   ·omega
   ·have:=h.slot k Bys hz;omega
  ·intro j _ h1 h2;obtain ⟨i,h3,h4⟩:=MM h1;simp only[bA] at h2;have:=h.apart i k Bys Bys Bys Bys Bys;omega
theorem Fu {p:List UInt8} (h:gn p):nf p (pn p)+ep p<=64:=by
 rw[<-Lu h (pn p) (aH _)]
 have h1:(List.range 64).countP (tS p (pn p))<=(List.range 64).countP (λj=>decide (ep p<=j/\j < ep p+(64 - ep p))):=by
  refine List.countP_mono_left λj hj hc=>?_;obtain ⟨i,h3,h4,h5⟩:=MM hc;have:=h.slot i h3 Bys;grind
 rw[Ft] at h1;have:=h.hi;omega
theorem Eg {p:List UInt8} (h:gn p):0<=sM p/\sM p<=62:=by
 have:=Fu h;have:=h.lo;grind [sM]
def u_ (p:List UInt8):Nat:=if fm p=pn p then 1 else 0
def rN (p:List UInt8) (c:List UInt8):List UInt8:=((ma p (fm p) (ep p - c.length) c).set 0 (UInt8.ofNat (pn p+u_ p))).set 1 (UInt8.ofNat (ep p - c.length))
def mw (p:List UInt8) (c:List UInt8):Int:=
 if fm p=pn p/\16<=pn p then 2
 else if sM p < (c.length:Int)+2*(u_ p:Int) then 9
 else if ep p < 2+2*(pn p+u_ p)+c.length then 8
 else 0
theorem ac0 {p c:List UInt8} (h:gn p) (hc:mw p c=0) (j:Nat):pb (rN p c) j=if j=1 then ep p - c.length else if j=0 then pn p+u_ p else pb (ma p (fm p) (ep p - c.length) c) j:=by
 unfold mw at hc;split at hc
 ·cases hc
 ·split at hc
  ·cases hc
  ·split at hc
   ·cases hc
   ·have hl:(ma p (fm p) (ep p - c.length) c).length=64:=rq h.len _ (by have:=h.hi;omega);have IM:=h.hi;grind [rN,uB,ofNat_toNat]
theorem VO {p c:List UInt8} (h:gn p) (jX:1<=c.length) (hc:mw p c=0):xE p (rN p c) (fm p) (ep p - c.length) c.length/\∀ j,j < c.length->pb (rN p c) (ep p - c.length+j)=pb c j:=by
 have hb:=ac0 h hc;obtain ⟨e1,e2,e3⟩:=vR p;unfold mw at hc;split at hc
 ·cases hc
 rename_i c1;split at hc
 ·cases hc
 split at hc
 ·cases hc
 rename_i c3;have IM:=h.hi;have yd:=h.lo;have hn:=h.n;have hm:(fm p=pn p/\u_ p=1)\/(fm p < pn p/\u_ p=0):=by grind [u_]
 have hs:fm p < 16:=by omega
 have hlen:(rN p c).length=64:=by
  unfold rN;rw[bQ,bQ,rq h.len _ Bys]
 have qB:∀ j,pb (ma p (fm p) (ep p - c.length) c) j=_:=zH h.len (a:=ep p - c.length) (c:=c) Bys hs;have I6:pn (rN p c)=pn p+u_ p:=by show pb _ 0=_;rw[hb];simp
 have gy:ep (rN p c)=ep p - c.length:=by show pb _ 1=_;rw[hb];simp
 refine ⟨⟨hlen,by omega,by omega,by omega,by omega,by omega,?_,?_,by omega,by omega,by omega,λi hi t7=>?_,λi hi t7 hz=>?_,λj j1 j2 j3=>?_⟩,λj hj=>?_⟩
 ·show pb _ _=_;grind
 ·show pb _ _=_;grind
 ·constructor
  ·show pb _ _=pb _ _;grind
  ·show pb _ _=pb _ _;grind
 ·have:=h.slot i hi hz;omega
 all_goals grind
theorem zI {p c:List UInt8} (h:gn p) (jX:1<=c.length) (hc:mw p c=0):gn (rN p c)/\(∀ i,cellOf (rN p c) i=if i=fm p then c else cellOf p i)/\cellOf p (fm p)=[]:=by
 obtain ⟨t,hb⟩:=VO h jX hc;refine ⟨t.ok h,t.cells h hb,?_⟩
 grind [vR,qV,cellOf]
def zJ (p:List UInt8) (s:Nat) (c:List UInt8):List UInt8:=if c.length<=bh p s then ma p s (pat p s+bh p s - c.length) c else (ma p s (ep p - c.length) c).set 1 (UInt8.ofNat (ep p - c.length))
def rr (p:List UInt8) (s:Nat) (c:List UInt8):Int:=
 if c.length<=bh p s then 0
 else if sM p+(bh p s:Int) < (c.length:Int) then 9
 else if ep p < 2+2*pn p+c.length then 8
 else 0
theorem VP {p c:List UInt8} {s:Nat} (h:gn p) (hs:s < pn p) (hz:bh p s≠0) (jX:1<=c.length) (hc:rr p s c=0):∃ a,xE p (zJ p s c) s a c.length/\∀ j,j < c.length->pb (zJ p s c) (a+j)=pb c j:=by
 have IM:=h.hi;have yd:=h.lo;have hn:=h.n;have nx:=h.slot s hs hz;unfold rr at hc;split at hc
 ·rename_i c1;unfold zJ;rw[aG c1];have qB:∀ j,pb (ma p s (pat p s+bh p s - c.length) c) j=_:=zH h.len (a:=pat p s+bh p s - c.length) (c:=c) Bys Bys
  have I6:pn (ma p s (pat p s+bh p s - c.length) c)=pn p:=by
   show pb _ 0=pb p 0;grind
  have gy:ep (ma p s (pat p s+bh p s - c.length) c)=ep p:=by
   show pb _ 1=pb p 1;grind
  refine ⟨pat p s+bh p s - c.length,⟨rq h.len _ Bys,by omega,by omega,by omega,by omega,by omega,?_,?_,by omega,by omega,by omega,λi hi t7=>?_,λi hi t7 Gc=>?_,λj j1 j2 j3=>?_⟩,λj hj=>?_⟩
  ·show pb _ _=_;grind
  ·show pb _ _=_;grind
  ·constructor
   ·show pb _ _=pb _ _;grind
   ·show pb _ _=pb _ _;grind
  ·have:=h.apart i s hi hs t7 Gc hz;omega
  all_goals grind
 ·rename_i c1;split at hc
  ·cases hc
  split at hc
  ·cases hc
  rename_i c3;have hq:zJ p s c=(ma p s (ep p - c.length) c).set 1 (UInt8.ofNat (ep p - c.length)):=by grind [zJ]
  rw[hq];have hl:(ma p s (ep p - c.length) c).length=64:=rq h.len _ Bys;have qB:∀ j,pb (ma p s (ep p - c.length) c) j=_:=zH h.len (a:=ep p - c.length) (c:=c) Bys Bys
  have hb:∀ j,pb ((ma p s (ep p - c.length) c).set 1 (UInt8.ofNat (ep p - c.length))) j=if j=1 then ep p - c.length else pb (ma p s (ep p - c.length) c) j:=λj=>by
   grind [uB,ofNat_toNat]
  have I6:pn ((ma p s (ep p - c.length) c).set 1 (UInt8.ofNat (ep p - c.length)))=pn p:=by
   show pb _ 0=pb p 0;grind
  have gy:ep ((ma p s (ep p - c.length) c).set 1 (UInt8.ofNat (ep p - c.length)))=ep p - c.length:=by
   show pb _ 1=_;grind
  refine ⟨ep p - c.length,⟨by grind,by omega,by omega,by omega,by omega,by omega,?_,?_,by omega,by omega,by omega,λi hi t7=>?_,λi hi t7 Gc=>?_,λj j1 j2 j3=>?_⟩,λj hj=>?_⟩
  ·show pb _ _=_;grind
  ·show pb _ _=_;grind
  ·constructor
   ·show pb _ _=pb _ _;grind
   ·show pb _ _=pb _ _;grind
  ·have:=h.slot i hi Gc;omega
  all_goals grind
theorem BG {p c:List UInt8} {s:Nat} (h:gn p) (hs:s < pn p) (hz:bh p s≠0) (jX:1<=c.length) (hc:rr p s c=0):gn (zJ p s c)/\(∀ i,cellOf (zJ p s c) i=if i=s then c else cellOf p i):=by
 obtain ⟨a,t,hb⟩:=VP h hs hz jX hc;exact ⟨t.ok h,t.cells h hb⟩
def va (q:List UInt8):Nat->Nat
 | 0=>0
 | m+1=>if bh q m=0 then va q m else m+1
def tE (p:List UInt8) (s:Nat):List UInt8:=(p.set (2+2*s) 0).set (3+2*s) 0
def r_ (p:List UInt8) (s:Nat):List UInt8:=(tE p s).set 0 (UInt8.ofNat (va (tE p s) (pn p)))
theorem Fx (q:List UInt8):∀ m,va q m<=m/\(∀ i,va q m<=i->i < m->bh q i=0)/\(0 < va q m->bh q (va q m - 1)≠0)
 | 0=>by grind [va]
 | m+1=>by
  simp only[va];obtain ⟨h1,h2,h3⟩:=Fx q m;grind
theorem JZ {p:List UInt8} {s:Nat} (h:gn p) (hs:s < pn p):gn (r_ p s)/\(∀ i,cellOf (r_ p s) i=if i=s then [] else cellOf p i):=by
 have IM:=h.hi;have yd:=h.lo;have hn:=h.n;have hlen:=h.len
 have hb0:∀ j,pb (tE p s) j=if j=3+2*s\/j=2+2*s then 0 else pb p j:=λj=>by
  grind [tE,uB]
 have hl0:(tE p s).length=64:=by grind [tE]
 obtain ⟨t1,t2,t3⟩:=Fx (tE p s) (pn p)
 have hb:∀ j,pb (r_ p s) j=if j=0 then va (tE p s) (pn p) else if j=3+2*s\/j=2+2*s then 0 else pb p j:=λj=>by
  grind [r_,uB,ofNat_toNat]
 have I6:pn (r_ p s)=va (tE p s) (pn p):=by show pb _ 0=_;grind
 have gy:ep (r_ p s)=ep p:=by show pb _ 1=pb p 1;grind
 have hz0:∀ i,bh (r_ p s) i=bh (tE p s) i:=λi=>by
  show pb _ _=pb _ _;grind
 have hzs:bh (r_ p s) s=0/\pat (r_ p s) s=0:=by
  constructor
  ·show pb _ _=_;grind
  ·show pb _ _=_;grind
 have Ya:∀ i,i≠s->bh (r_ p s) i=bh p i/\pat (r_ p s) i=pat p i:=λi hi=>by
  constructor
  ·show pb _ _=pb _ _;grind
  ·show pb _ _=pb _ _;grind
 have bd:gn (r_ p s):=by
  refine ⟨by grind [r_],by omega,by omega,by omega,λi hi hz=>?_,λi hi hz=>?_,λi k hi hk Gl z1 z2=>?_,λhn=>?_⟩
  ·by_cases t7:i=s
   ·grind
   ·obtain ⟨g1,g2⟩:=Ya i t7;have:=h.slot i Bys Bys;omega
  ·by_cases t7:i=s
   ·grind
   ·obtain ⟨g1,g2⟩:=Ya i t7;have:=h.zero i Bys Bys;omega
  ·have t7:i≠s:=λe=>by grind
   have TR:k≠s:=λe=>by grind
   obtain ⟨g1,g2⟩:=Ya i t7;obtain ⟨g3,g4⟩:=Ya k TR;have:=h.apart i k Bys Bys Gl Bys Bys;omega
  grind
 refine ⟨bd,λi=>?_⟩
 by_cases t7:i=s
 ·grind [qV,cellOf]
 ·rw[aL t7];obtain ⟨g1,g2⟩:=Ya i t7;by_cases hi:i < pn (r_ p s)
  ·have Ee:i < pn p:=by omega
   unfold cellOf;rw[aG hi,aG Ee];refine JY (pk bd hi) (pk h Ee) g1 λj hj=>?_;have:=h.slot i Ee Bys;grind
  grind [cellOf,qV]
def Bs (p:List UInt8) (s:List UInt8×Nat) (i:Nat):List UInt8×Nat:=if bh p i=0 then s else (ma s.1 i (s.2 - bh p i) (jh p i),s.2 - bh p i)
def Aa (p:List UInt8):List UInt8:=p.take (2+2*pn p)++List.replicate (62 - 2*pn p) (0:UInt8)
def jP (p:List UInt8) (k:Nat):List UInt8×Nat:=(List.range k).foldl (Bs p) (Aa p,64)
def mc (p:List UInt8):List UInt8:=(jP p (pn p)).1.set 1 (UInt8.ofNat (jP p (pn p)).2)
theorem Fy (p:List UInt8) (k:Nat):jP p (k+1)=Bs p (jP p k) k:=by
 grind [jP,List.range_succ]
structure ad9 (p:List UInt8) (k:Nat) (o:List UInt8) (a:Nat):Prop where
 len:o.length=64
 n:pb o 0=pn p
 a:a=64 - nf p k
 sz:∀ i,i < pn p->bh o i=bh p i
 old:∀ i,i < pn p->(k<=i\/bh p i=0)->pat o i=pat p i
 new:∀ i,i < k->bh p i≠0->pat o i=64 - nf p (i+1)/\∀ j,j < bh p i->pb o (64 - nf p (i+1)+j)=pb p (pat p i+j)
theorem Fz {p:List UInt8} (h:gn p):∀ k,k<=pn p->ad9 p k (jP p k).1 (jP p k).2
 | 0,_=>by
  have hn:=h.n;have hlen:=h.len;have hl:(Aa p).length=64:=by grind [Aa]
  have hb:∀ j,j < 2+2*pn p->pb (Aa p) j=pb p j:=λj hj=>by
   grind [pb,Aa]
  refine ⟨hl,hb 0 Bys,by simp only[nf];rfl,λi hi=>?_,λi hi _=>?_,λi hi=>by omega⟩
  ·exact hb _ Bys
  ·exact hb _ Bys
 | k+1,hk=>by
  have ih:=Fz h k Bys;rw[Fy];unfold Bs;have xH:=Fu h;have ad_:=sj p (show k+1<=pn p from hk);have yd:=h.lo;have hn:=h.n;simp only[nf] at ad_;by_cases hz:bh p k=0
  ·rw[aG hz];refine ⟨ih.len,ih.n,?_,ih.sz,λi hi ho=>ih.old i hi (by grind),λi hi I7=>?_⟩
   ·rw[ih.a];grind [nf]
   ·have:i≠k:=λe=>by grind
    exact ih.new i Bys I7
  ·rw[aL hz];have xy:(jh p k).length=bh p k:=pk h Bys;have ha:=ih.a;have Ce:(jP p k).2 - bh p k+(jh p k).length<=64:=by omega
   have qB:∀ j,pb (ma (jP p k).1 k ((jP p k).2 - bh p k) (jh p k)) j=_:=zH ih.len (a:=(jP p k).2 - bh p k) (c:=jh p k) Ce Bys;refine ⟨rq ih.len _ Ce,?_,by grind [nf],λi hi=>?_,λi hi ho=>?_,λi hi I7=>?_⟩
   ·rw[qB,aL Bys,aL Bys,aL Bys];exact ih.n
   ·show pb _ _=_;rw[qB];by_cases Gl:i=k
    ·grind
    ·rw[aL Bys,aL Bys,aL Bys];exact ih.sz i hi
   ·have Gl:i≠k:=λe=>by grind
    show pb _ _=_;rw[qB,aL Bys,aL Bys,aL Bys];exact ih.old i hi (by grind)
   ·by_cases Gl:i=k
    ·subst Gl;constructor
     ·show pb _ _=_;grind [nf]
     grind [nf,JX]
    ·have hm2:=sj p (show i+1<=k by omega);have hm3:=sj p (show i+1<=pn p by omega);obtain ⟨g1,g2⟩:=ih.new i Bys I7;constructor
     ·show pb _ _=_;rw[qB,aL Bys,aL Bys,aL Bys];exact g1
     grind
theorem tT {p:List UInt8} (h:gn p):gn (mc p)/\(∀ i,cellOf (mc p) i=cellOf p i)/\pn (mc p)=pn p:=by
 have I:=Fz h (pn p) (aH _);have xH:=Fu h;have yd:=h.lo;have hn:=h.n;have ha:=I.a
 have hb:∀ j,pb (mc p) j=if j=1 then (jP p (pn p)).2 else pb (jP p (pn p)).1 j:=λj=>by
  unfold mc;rw[uB,I.len,ofNat_toNat Bys];grind
 have I6:pn (mc p)=pn p:=by show pb _ 0=_;rw[hb,aL Bys];exact I.n
 have gy:ep (mc p)=64 - nf p (pn p):=by show pb _ 1=_;grind
 have hz:∀ i,i < pn p->bh (mc p) i=bh p i:=λi hi=>by show pb _ _=_;rw[hb,aL Bys];exact I.sz i hi
 have ii:∀ i,i < pn p->bh p i≠0->pat (mc p) i=64 - nf p (i+1):=λi hi I7=>by show pb _ _=_;rw[hb,aL Bys];exact (I.new i hi I7).1
 have bd:gn (mc p):=by
  refine ⟨by unfold mc;rw[bQ];exact I.len,by omega,by omega,by omega,λi hi I7=>?_,λi hi I7=>?_,λi k hi hk Gl z1 z2=>?_,λhn=>?_⟩
  ·have h1:=hz i Bys;have h2:=ii i Bys Bys;have h3:=sj p (show i+1<=pn p by omega);grind [nf]
  ·have h1:=hz i Bys;show pb _ _=_;rw[hb,aL Bys];exact (I.old i Bys (Or.inr Bys)).trans (h.zero i Bys Bys)
  ·have h1:=hz i Bys;have h2:=ii i Bys Bys;have h3:=hz k Bys;have h4:=ii k Bys Bys;have e1:nf p (i+1)=nf p i+bh p i:=rfl;have e2:nf p (k+1)=nf p k+bh p k:=rfl;have m1:=sj p (show i+1<=pn p by omega);have m2:=sj p (show k+1<=pn p by omega);rcases fV Gl with h6 | h6
   ·have:=sj p (show i+1<=k from h6);omega
   ·have:=sj p (show k+1<=i from h6);omega
  ·rw[I6,hz _ Bys];exact h.last Bys
 refine ⟨bd,λi=>?_,I6⟩
 unfold cellOf;rw[I6];by_cases hi:i < pn p
 ·rw[aG hi,aG hi];refine JY (pk bd Bys) (pk h hi) (hz i hi) λj hj=>?_;have h1:=hz i hi;have I7:bh p i≠0:=by omega
  rw[ii i hi I7,hb,aL (by
   have:=sj p (show i+1<=pn p by omega)
   omega)]
  exact (I.new i hi I7).2 j Bys
 grind
def uj:List UInt8:=((List.replicate 64 (0:UInt8)).set 0 0).set 1 64
theorem FA:gn uj/\∀ i,cellOf uj i=[]:=by
 refine ⟨wJ.1 (by decide +kernel),λi=>?_⟩
 unfold cellOf;rw[aL (by show ¬ i < 0;omega)]
end OT
namespace OT
open Go
theorem NE {i:Nat} (h:i < 1000):af ((3:Int)+af ((2:Int)*(i:Int)))=((3+2*i:Nat):Int):=by
 grind [bi]
theorem Gm {i:Nat} (h:i < 1000):af ((2:Int)+af ((2:Int)*(i:Int)))=((2+2*i:Nat):Int):=by
 grind [bi]
theorem Ds (p:List UInt8) (i:Nat):af ((pb p i:Nat):Int)=((pb p i:Nat):Int):=by
 grind [oX,bi]
theorem fq {R:Type} {p:List UInt8} {i:Nat} (h:i < p.length) (K:UInt8->Option R):(p[i]?).bind K=K p[i]:=by grind
section
variable {p:List UInt8} (hp:p.length=64)
include hp
theorem qv:dO.ab (p,())=some ((pn p:Int),()):=by
 refine ag (k:=0) λk _=>(dO.ae k _).trans ?_;show dO.p _=_;unfold dO.p;simp only[fq (show 0 < p.length by omega),(jO (show 0 < p.length by omega)).2,Ds];rfl
theorem uM:ez.ab (p,())=some ((pn p:Int),()):=by
 refine ag (k:=0) λk _=>(ez.ae k _).trans ?_;show ez.p _=_;unfold ez.p;simp only[fq (show 0 < p.length by omega),(jO (show 0 < p.length by omega)).2,Ds];rfl
theorem TS:pP.ab (p,())=some ((ep p:Int),()):=by
 refine ag (k:=0) λk _=>(pP.ae k _).trans ?_;show pP.p _=_;unfold pP.p;simp only[fq (show 1 < p.length by omega),(jO (show 1 < p.length by omega)).2,Ds];rfl
theorem wL {i:Nat} (hi:i < 16):ej.ab (p,(i:Int),())=some ((bh p i:Int),()):=by
 refine ag (k:=0) λk _=>(ej.ae k _).trans ?_;show ej.p _=_;unfold ej.p;simp only[NE (show i < 1000 by omega),aN,aK,aC,fq (show 3+2*i < p.length by omega),(jO (show 3+2*i < p.length by omega)).2,Ds];rfl
theorem NF {i:Nat} (hi:i < 16):nS.ab (p,(i:Int),())=some ((pat p i:Int),()):=by
 refine ag (k:=0) λk _=>(nS.ae k _).trans ?_;show nS.p _=_;unfold nS.p;simp only[Gm (show i < 1000 by omega),aN,aK,aC,fq (show 2+2*i < p.length by omega),(jO (show 2+2*i < p.length by omega)).2,Ds];rfl
theorem CG {i:Nat} (hi:i < 16):lZ.ab (p,(i:Int),())=some ((pat p i:Int),(bh p i:Int),()):=by
 refine ag (k:=0) λk _=>(lZ.ae k _).trans ?_;show lZ.p _=_;unfold lZ.p;simp only[Gm (show i < 1000 by omega),NE (show i < 1000 by omega),aN,aK,aC,fq (show 2+2*i < p.length by omega),(jO (show 2+2*i < p.length by omega)).2,fq (show 3+2*i < p.length by omega),(jO (show 3+2*i < p.length by omega)).2,Ds];rfl
end
theorem I8 {O:Type} (q:Nat->Bool) (bad e:O):∀ (xs:List Nat) (i:Nat),bt (λ_ (_:Unit) x=>if q x then .inr () else .inl bad) (λ_=>e) i xs ()=if xs.all q then e else bad:=λxs i=>uS q bad (λ_=>e) xs i
theorem Hl {S O:Type} (q:Nat->Bool) (g:Nat->S) (bad e:O):∀ (xs:List Nat) (i:Nat) (s:S),bt (λ_ s x=>if q x then .inl bad else .inr (g x)) (λ_=>e) i xs s=if xs.any q then bad else e
 | [],_,_=>rfl
 | x::xs,i,s=>by
  simp only[bt,gL];by_cases h:q x=true
  ·simp[h]
  ·simp[h,Hl q g bad e xs (i+1)]
def zK (p:List UInt8) (i t:Nat):List Bool:=(List.range 64).map λj=>tS p i j||decide (pat p i<=j/\j < pat p i+t)
def Iu (p:List UInt8) (i:Nat):Bool:=(List.range (bh p i)).any λt=>tS p i (pat p i+t)
theorem Yb (p:List UInt8) (i:Nat):zK p i 0=(List.range 64).map (tS p i):=by
 grind [zK,List.map_congr_left]
theorem Yc (p:List UInt8) (i:Nat):zK p i (bh p i)=(List.range 64).map (tS p (i+1)):=rfl
theorem J0 (p:List UInt8) (i t j:Nat) (h:j < 64):(zK p i t)[j]?=some (tS p i j||decide (pat p i<=j/\j < pat p i+t)):=by
 grind [zK]
theorem J1 (p:List UInt8) (i t:Nat):(zK p i t).length=64:=by simp[zK]
theorem Yd (p:List UInt8) (i t:Nat) (h:pat p i+t < 64):(zK p i t).set (pat p i+t) true=zK p i (t+1):=by
 refine dT λj=>?_;rw[eZ,J1];by_cases hj:j < 64
 ·rw[J0 p i t j hj,J0 p i (t+1) j hj];by_cases e:pat p i+t=j
  ·subst e;grind
  ·rw[aL e];have:(pat p i<=j/\j < pat p i+t)↔(pat p i<=j/\j < pat p i+(t+1)):=by omega
   grind
 grind [J1]
theorem Qu {p:List UInt8}:∀ {k j:Nat},tS p k j=true↔∃ i,i < k/\pat p i<=j/\j < pat p i+bh p i
 | 0,j=>by simp[tS]
 | k+1,j=>by
  simp only[tS,dB,bA,Qu (k:=k)];grind
theorem VQ (p:List UInt8) (i:Nat):Iu p i=!(List.range i).all (CF p i):=by
 rw[fS];simp only[Iu,eG,cC,Qu,cD,List.all_eq_false,Bool.not_eq_true];constructor
 ·rintro ⟨t,ht,k,hk,h1,h2⟩;refine ⟨k,hk,?_⟩
  grind [CF]
 ·rintro ⟨k,hk,h⟩;have hn:¬ (bh p i≠0->bh p k≠0->pat p i+bh p i<=pat p k\/pat p k+bh p k<=pat p i):=λh2=>by rw[Fs.2 h2] at h;cases h
  by_cases c1:bh p i=0
  ·grind
  ·by_cases c2:bh p k=0
   ·grind
   ·have c3:¬ (pat p i+bh p i<=pat p k):=λh3=>hn λ_ _=>.inl h3;have c4:¬ (pat p k+bh p k<=pat p i):=λh3=>hn λ_ _=>.inr h3;exact ⟨max (pat p i) (pat p k) - pat p i,by omega,k,hk,by omega,by omega⟩
theorem Z2 (p:List UInt8) (n:Nat):(List.range n).any (Iu p)=!(List.range n).all (λi=>(List.range i).all (CF p i)):=by
 grind [VQ]
theorem Ab (p:List UInt8) (hl:p.length<=maxLen):bg.ab (p,())=some (Dr p,()):=by
 refine ag (k:=300) λk hk=>(bg.ae k _).trans ?_;unfold bg.p Dr;have e0:decide ((p.length:Int)=64)=decide (p.length=64):=by grind
 rw[e0];by_cases hp:p.length=64;rotate_left
 ·grind
 have hn:pn p < 256:=oX p 0;have yd:ep p < 256:=oX p 1;have hw:af ((2:Int)+af ((2:Int)*(pn p:Int)))=((2+2*pn p:Nat):Int):=Gm Bys;have hb1:((p[1]'Bys).toNat)=ep p:=(jO (show 1 < p.length by omega)).2;have hwl:af (ep p:Int)=(ep p:Int):=Ds p 1;simp only[hp,aO,aU,aF,fq (show 1 < p.length by omega),hb1,hwl,uM hp,aA,hw,aK];by_cases c1:pn p<=16;rotate_left
 ·grind
 have n1:¬ ((16:Int) < (pn p:Int)):=by omega
 simp only[n1,aI,aF,c1,eL];by_cases c2:2+2*pn p<=ep p;rotate_left
 ·grind
 have n2:¬ ((ep p:Int) < ((2+2*pn p:Nat):Int)):=by omega
 simp only[n2,aI,aF,c2,eL];by_cases c3:ep p<=64;rotate_left
 ·grind
 have n3:¬ ((64:Int) < (ep p:Int)):=by omega
 simp only[n3,aI,aF,c3,aK]
 have first:bg.r0 k (p,()) (pn p:Int) (ep p:Int) (0:Int)=if (List.range (pn p)).all (Fq p) then bg.Q0 k (p,()) (pn p:Int) (ep p:Int) () else some ((3:Int),()):=by
  have:=eo (B:=λself v=>bg.b0 self (λz=>bg.Q0 k (p,()) (pn p:Int) (ep p:Int) z) (p,()) (pn p:Int) (ep p:Int) v) (List.range (pn p)) (λ(_:Unit) (i:Int)=>i) (λ_ _ x=>if Fq p x then .inr () else .inl (some ((3:Int),()))) (λ_=>bg.Q0 k (p,()) (pn p:Int) (ep p:Int) ()) (λ_ _=>True) (by grind)
   (λi hi s self _=>by
    rw[eA] at hi
    grind [bg.b0,pat,oX,bh,bi,CG,Fq])
   (λ_ _ _ _ _ _=>trivial) (λs self _=>by
    grind [bg.b0]) () trivial k (by grind)
  rw[I8] at this;exact this
 rw[first];by_cases nx:(List.range (pn p)).all (Fq p)=true;rotate_left
 ·grind
 simp only[nx,aK];have hs:∀ i,i < pn p->bh p i≠0->ep p<=pat p i/\pat p i+bh p i<=64:=λi hi=>((Hk Bys).1 (bJ.1 nx i (cC.2 hi))).1
 have inner:∀ (self:((List UInt8)×Int×(List Bool)×Int×Int)->Option bg.O) (e2:((List UInt8)×Int)->Option bg.O) (i:Nat) (hi:i < pn p),bg.r2 k self e2 (p,()) p (pn p:Int) (pat p i:Int) (bh p i:Int) (pn p:Int) (i:Int) ((List.range 64).map (tS p i),(pat p i:Int))=if Iu p i then some ((8:Int),()) else self (p,(pn p:Int),(List.range 64).map (tS p (i+1)),(pn p:Int),af ((i:Int)+1)):=λself e2 i hi=>by
  have h1:pat p i < 256:=oX p _;have h2:bh p i < 256:=oX p _;have Ci:af ((pat p i:Int)+(bh p i:Int))=((pat p i+bh p i:Nat):Int):=by grind [bi]
  have:=eo (B:=λju v=>bg.b2 ju (λz=>bg.q1 self e2 (p,()) p (pn p:Int) (pat p i:Int) (bh p i:Int) (pn p:Int) (i:Int) z) (p,()) p (pn p:Int) (pat p i:Int) (bh p i:Int) (pn p:Int) (i:Int) v) (List.range (bh p i)) (λ(s:List Bool) (t:Int)=>(s,(pat p i:Int)+t)) (λ_ s t=>if tS p i (pat p i+t) then .inl (some ((8:Int),())) else .inr (zK p i (t+1))) (λ_=>self (p,(pn p:Int),(List.range 64).map (tS p (i+1)),(pn p:Int),af ((i:Int)+1))) (λt s=>s=zK p i t) (by grind)
   (λt ht s ju hI=>by
    rw[eA] at ht;subst hI;obtain ⟨g1,g2⟩:=hs i hi Bys;show bg.b2 _ _ _ _ _ _ _ _ _ _=_;unfold bg.b2;have a7:(pat p i:Int)+(t:Int) < ((pat p i+bh p i:Nat):Int):=by omega
    have Qv:(0:Int)<=(pat p i:Int)+(t:Int):=by omega
    have hlen:(pat p i:Int)+(t:Int) < ((zK p i t).length:Int):=by rw[J1];omega
    have htn:((pat p i:Int)+(t:Int)).toNat=pat p i+t:=by omega
    have acA:¬ (pat p i<=pat p i+t/\pat p i+t < pat p i+t):=by omega
    have hwt:af ((pat p i:Int)+(t:Int)+1)=(pat p i:Int)+af ((t:Int)+1):=by grind [bi]
    grind [J0,Yd])
   (λt ht s s' hI hf=>by
    grind) (λs ju hI=>by
    rw[eA] at hI ⊢;show bg.b2 _ _ _ _ _ _ _ _ _ _=_;unfold bg.b2;have a7:¬ ((pat p i:Int)+(bh p i:Int) < ((pat p i+bh p i:Nat):Int)):=by omega
    simp only[Ci,a7,aI,aF];rw[hI,Yc]
    rfl) (zK p i 0) rfl k (by grind)
  rw[Hl] at this;rw[<-Yb];simp only[Int.add_zero] at this;exact this
 have outer:bg.r1 k (p,()) (pn p:Int) (ep p:Int) (p,(pn p:Int),List.replicate 64 false,(pn p:Int),(0:Int))=if (List.range (pn p)).any (Iu p) then some ((8:Int),()) else bg.q2 (p,()) (p,(pn p:Int)):=by
  have:=eo (B:=λself v=>bg.B1 k self (λz=>bg.q2 (p,()) z) (p,()) v) (List.range (pn p)) (λ(s:List Bool) (i:Int)=>(p,(pn p:Int),s,(pn p:Int),i)) (λ_ s x=>if Iu p x then .inl (some ((8:Int),())) else .inr ((List.range 64).map (tS p (x+1)))) (λ_=>bg.q2 (p,()) (p,(pn p:Int))) (λi s=>s=(List.range 64).map (tS p i)) (by grind)
   (λi hi s self hI=>by
    rw[eA] at hi;subst hI;show bg.b1 _ _ _ _ _=_
    grind [bg.b1,CG])
   (λi hi s s' hI hf=>by
    grind) (λs self _=>by
    rw[eA];show bg.b1 _ _ _ _ _=_
    grind [bg.b1]) (List.replicate 64 false) (by show _=(List.range 64).map (λ_=>false);decide) k (by grind)
  rw[Hl] at this;exact this
 show bg.q0 _ _ _ _ _=_;unfold bg.q0;rw[outer,Z2];by_cases Be:(List.range (pn p)).all (λi=>(List.range i).all (CF p i))=true;rotate_left
 ·grind
 simp only[Be,aU,aE,aR,aK];show bg.q2 _ _=_;unfold bg.q2;by_cases h0:0 < pn p
 ·have a7:(0:Int) < (pn p:Int):=by omega
  have hwm:af (af ((2:Int)*(pn p:Int))+1)=((2*pn p+1:Nat):Int):=by grind [bi]
  have hz:((p[2*pn p+1]'Bys).toNat)=bh p (pn p - 1):=by
   rw[(jO (show 2*pn p+1 < p.length by omega)).2];show pb p _=pb p _;congr 1;omega
  simp only[a7,aO,aS,hwm,aN,aK,aC,fq (show 2*pn p+1 < p.length by omega),hz,h0,eL];grind
 grind
end OT
namespace OT
open Go
theorem qb {V S O:Type} {B:(V->Option O)->V->Option O} (n:Nat) (enc:S->Int->V) (f:Nat->S->Sum (Option O) S) (fin:S->Option O) (I:Nat->S->Prop) (hn:n<=1048576)
  (gb:∀ (i:Nat),i < n->∀ (s:S) self,I i s->B self (enc s (i:Int))=match f i s with | .inl o=>o | .inr s'=>self (enc s' (af ((i:Int)+1))))
  (hI:∀ (i:Nat),i < n->∀ (s s':S),I i s->f i s=.inr s'->I (i+1) s')
  (pM:∀ (s:S) self,I n s->B self (enc s (n:Int))=fin s) (s:S) (h0:I 0 s) (k:Nat) (hk:n < k):al B k (enc s 0)=bt (λ_ s x=>f x s) fin 0 (List.range n) s:=
 eo (List.range n) enc (λ_ s x=>f x s) fin I (by grind [ao])
  (λi hi s self h=>by grind)
  (λi hi s s' h hf=>by grind)
  (λs self h=>by grind) s h0 k (by grind)
theorem FB {O α β:Type} (g:α->List β) (fin:List β->O):∀ (xs:List α) (i:Nat) (s:List β),bt (λ_ s x=>.inr (s++g x)) fin i xs s=fin (s++xs.flatMap g)
 | [],_,s=>by simp[bt]
 | x::xs,i,s=>by simp only[bt];rw[FB g fin xs (i+1)];simp[bT]
abbrev CH:Row:=((0:Int),(0:Int),(0:Int),([]:List UInt8),())
abbrev Lv:tn:=((0:Int),(0:Int),(0:Int),(0:Int),CH,())
abbrev FC:tn:=((5:Int),(0:Int),(0:Int),(0:Int),CH,())
def vd (d:List UInt8):Row:=((pb d 1:Int),(pb d 2:Int),(pb d 3:Int)*256+(pb d 4:Int),d.drop 6,())
def dz (d:List UInt8):tn×Bool:=
 if d.length=3/\pb d 0=1 then (((0:Int),(1:Int),(pb d 1:Int),(pb d 2:Int),CH,()),decide (pb d 1<=11)&&decide (pb d 2<=15))
 else if d.length < 6\/pb d 0=1\/2 < pb d 0\/d.length≠6+pb d 5 then (Lv,false)
 else (((0:Int),(pb d 0:Int),(0:Int),(0:Int),vd d,()),decide (i7 (vd d)=0))
theorem Z3 {a b:Nat} (ha:a < 256) (hb:b < 256):((BitVec.ofInt 64 (af ((a:Int)*2 ^ 8)) ||| BitVec.ofInt 64 (b:Int)).toNat:Int)=(a:Int)*256+(b:Int):=by
 have e1:af ((a:Int)*2 ^ 8)=((2 ^ 8*a:Nat):Int):=by grind [bi]
 rw[e1,BitVec.toNat_or]
 have e2:(BitVec.ofInt 64 ((2 ^ 8*a:Nat):Int)).toNat=2 ^ 8*a:=by
  rw[hJ];omega
 have e3:(BitVec.ofInt 64 (b:Int)).toNat=b:=by
  grind
 rw[e2,e3,<- Nat.two_pow_add_eq_or_of_lt Bys a];omega
theorem Hm (d:List UInt8) (hd:d.length<=100):oQ.ab (d,())=some ((dz d).1,(dz d).2,()):=by
 refine ag (k:=0) λk _=>(oQ.ae k _).trans ?_;show oQ.p _=_;unfold oQ.p dz;have b0:=oX d 0;have b1:=oX d 1;have b2:=oX d 2;have b3:=oX d 3;have b4:=oX d 4;have b5:=oX d 5;by_cases h3:d.length=3
 ·have e3:decide ((d.length:Int)=3)=true:=aY Bys;have e6:decide ((d.length:Int) < 6)=true:=aY Bys;have hl6:d.length < 6:=by omega
  simp only[e3,e6,aS,fq (show 0 < d.length by omega),(jO (show 0 < d.length by omega)).2];by_cases h1:pb d 0=1
  ·have e1:decide ((pb d 0:Int)=1)=true:=aY Bys;rw[aG ⟨h3,h1⟩];simp only[e1,aS,fq (show 1 < d.length by omega),(jO (show 1 < d.length by omega)).2,fq (show 2 < d.length by omega),(jO (show 2 < d.length by omega)).2,Ds]
   have gy:sB.ab ((pb d 1:Int),(pb d 2:Int),())=some (decide (pb d 1<=11)&&decide (pb d 2<=15),()):=by
    refine ag (k:=0) λk _=>(sB.ae k _).trans ?_;grind [sB.p,qu,decide]
   grind
  grind
 ·have e3:decide ((d.length:Int)=3)=false:=bD Bys;simp only[e3,aF,h3,false_and,aR];by_cases h6:d.length < 6
  ·grind
  ·have e6:decide ((d.length:Int) < 6)=false:=bD Bys;simp only[e6,aF,fq (show 0 < d.length by omega),(jO (show 0 < d.length by omega)).2,h6,false_or];by_cases h1:pb d 0=1
   ·grind
   have e1:decide ((pb d 0:Int)=1)=false:=bD Bys;simp only[e1,aF,h1,false_or];by_cases h2:2 < pb d 0
   ·grind
   have e2:decide ((2:Int) < (pb d 0:Int))=false:=bD Bys;have w6:af ((6:Int)+(pb d 5:Int))=((6+pb d 5:Nat):Int):=by grind [bi]
   simp only[e2,aF,h2,false_or,fq (show 5 < d.length by omega),(jO (show 5 < d.length by omega)).2,Ds,w6];by_cases h5:d.length=6+pb d 5;rotate_left
   ·grind
   have e5:decide ((d.length:Int)=((6+pb d 5:Nat):Int))=true:=aY Bys;have h6':(0:Int)<=6/\(6:Int)<=(d.length:Int):=by omega
   have w3:af (af ((pb d 3:Int)*256)+(pb d 4:Int))=(pb d 3:Int)*256+(pb d 4:Int):=by grind [bi]
   have ht:(d.take d.length).drop 6=d.drop 6:=by rw[eS]
   have hr:gc.ab (vd d,())=some (i7 (vd d),()):=za (vd d) (by grind [ao,vd]);unfold vd at hr;rw[aL (λh=>h h5)]
   simp only[e5,aU,aF,fq (show 1 < d.length by omega),(jO (show 1 < d.length by omega)).2,fq (show 2 < d.length by omega),(jO (show 2 < d.length by omega)).2,
    fq (show 3 < d.length by omega),(jO (show 3 < d.length by omega)).2,fq (show 4 < d.length by omega),(jO (show 4 < d.length by omega)).2,Ds,w3,ht,hr,aA]
   rw[aG Bys];rfl
theorem Gn (d:List UInt8) (hd:d.length<=100):kC.ab (d,())=some (if (dz d).2 then (dz d).1 else FC,()):=by
 refine ag (k:=0) λk _=>(kC.ae k _).trans ?_;show kC.p _=_;unfold kC.p;have b0:=oX d 0;have b1:=oX d 1;have b2:=oX d 2;have b3:=oX d 3;have b4:=oX d 4;have b5:=oX d 5;by_cases h3:d.length=3
 ·grind [pb,dz,Ds]
 ·have e3:decide ((d.length:Int)=3)=false:=bD Bys;simp only[e3,aF];by_cases h6:d.length < 6
  ·grind [dz]
  ·have e6:decide ((d.length:Int) < 6)=false:=bD Bys
   have hc:dz d=if pb d 0=1\/2 < pb d 0\/d.length≠6+pb d 5 then (Lv,false) else (((0:Int),(pb d 0:Int),(0:Int),(0:Int),vd d,()),decide (i7 (vd d)=0)):=by
    grind [dz]
   have hlen:∀ i,i < 6->i < d.length:=λi hi=>by omega
   have w6:af ((6:Int)+(pb d 5:Int))=((6+pb d 5:Nat):Int):=by grind [bi]
   have h6':(0:Int)<=6/\(6:Int)<=(d.length:Int):=by omega
   have w3:af ((BitVec.ofInt 64 (af ((pb d 3:Int)*2 ^ 8)) ||| BitVec.ofInt 64 (pb d 4:Int)).toNat:Int)=(pb d 3:Int)*256+(pb d 4:Int):=by rw[Z3 b3 b4,bi Bys]
   have ht:(d.take d.length).drop 6=d.drop 6:=by rw[eS]
   have hr:dw.ab (vd d,())=some (i7 (vd d),()):=zb (vd d) (by grind [ao,vd]);unfold vd at hr
   simp only[e6,aF,fq (show 0 < d.length by omega),(jO (show 0 < d.length by omega)).2,fq (show 5 < d.length by omega),(jO (show 5 < d.length by omega)).2,fq (show 1 < d.length by omega),(jO (show 1 < d.length by omega)).2,fq (show 2 < d.length by omega),(jO (show 2 < d.length by omega)).2,
    fq (show 3 < d.length by omega),(jO (show 3 < d.length by omega)).2,fq (show 4 < d.length by omega),(jO (show 4 < d.length by omega)).2,Ds,w6,h6'.2,show (0:Int)<=6 by omega,cM,aK,w3,ht,hr,aA]
   have e5:decide ((d.length:Int)=((6+pb d 5:Nat):Int))=decide (d.length=6+pb d 5):=by grind
   have e0:decide ((pb d 0:Int)=0)=decide (pb d 0=0):=by grind
   have e2:decide ((pb d 0:Int)=2)=decide (pb d 0=2):=by grind
   rw[e5,e0,e2]
   have fin:∀ (c5:d.length=6+pb d 5) (c0:¬ (pb d 0=1\/2 < pb d 0\/d.length≠6+pb d 5)),(bif !decide (i7 ((pb d 1:Int),(pb d 2:Int),(pb d 3:Int)*256+(pb d 4:Int),d.drop 6,())=0) then some (FC,()) else some (((0:Int),(pb d 0:Int),(0:Int),(0:Int),((pb d 1:Int),(pb d 2:Int),(pb d 3:Int)*256+(pb d 4:Int),d.drop 6,()),()),()))=some (if (dz d).2 then (dz d).1 else FC,()):=λc5 c0=>by
    rw[hc,aL c0];show (bif !decide (i7 (vd d)=0) then some (FC,()) else some (((0:Int),(pb d 0:Int),(0:Int),(0:Int),vd d,()),()))=some (if decide (i7 (vd d)=0)=true then ((0:Int),(pb d 0:Int),(0:Int),(0:Int),vd d,()) else FC,());grind
   have bad:(pb d 0=1\/2 < pb d 0\/d.length≠6+pb d 5)->(some (FC,()):Option kC.O)=some (if (dz d).2 then (dz d).1 else FC,()):=λh=>by
    grind
   by_cases c5:d.length=6+pb d 5
   ·rw[aY c5];by_cases c0:pb d 0=0
    ·simp_all
    grind
   grind
section
variable {p:List UInt8} (hp:gn p)
include hp
theorem zd (s:Nat):g_.ab (p,(s:Int),())=some (decide (s < pn p)&&!decide (bh p s=0),()):=by
 refine ag (k:=0) λk _=>(g_.ae k _).trans ?_;show g_.p _=_;unfold g_.p;have h0:(0:Int)<=(s:Int):=by omega
 have hn:=hp.n;have hl:=hp.len;grind [uM,decide,bh,jO,NE]
theorem VR (s:Nat):tr.ab (p,(s:Int),())=some (decide (s < pn p)&&!decide (bh p s=0),()):=by
 refine ag (k:=0) λk _=>(tr.ae k _).trans ?_;show tr.p _=_;unfold tr.p;have hn:=hp.n;have hl:=hp.len;grind [bi,qv,qu,decide_eq_false,wL]
theorem MN {s:Nat} (hs:s < pn p):pat p s+bh p s<=64:=by
 by_cases hz:bh p s=0
 ·have:=hp.zero s hs hz;omega
 ·exact (hp.slot s hs hz).2
theorem A6 {s:Nat} (hs:s < pn p):mD.ab (p,(s:Int),())=some (jh p s,()):=by
 refine ag (k:=0) λk _=>(mD.ae k _).trans ?_;show mD.p _=_;unfold mD.p jh;have hn:=hp.n;have hl:=hp.len;have hc:=MN hp hs;grind [bi,CG,Int.toNat_natCast,List.drop_take]
theorem A7 {s:Nat} (hs:s < pn p):mB.ab (p,(s:Int),())=some (jh p s,()):=by
 refine ag (k:=0) λk _=>(mB.ae k _).trans ?_;show mB.p _=_;unfold mB.p jh;have hn:=hp.n;have hl:=hp.len;have hc:=MN hp hs;have hw:af ((pat p s:Int)+(bh p s:Int))=((pat p s+bh p s:Nat):Int):=by grind [bi]
 grind [NF,wL,c9,List.drop_take]
end
theorem Ac {p:List UInt8} (hp:gn p) {s:Nat} (hs:s < pn p):(jh p s).length<=64:=by
 have:=pk hp hs;have:=MN hp hs;omega
end OT
namespace OT
open Go
def rk (x:Row):Int×Int:=(x.1,x.2.1)
theorem FE (a b:Int×Int):jt a b=true↔a.1 < b.1\/(a.1=b.1/\a.2 < b.2):=by grind [jt]
theorem ve {a b c:Int×Int} (h1:jt a b=true) (h2:jt b c=true):jt a c=true:=by
 grind [FE]
theorem vf (a:Int×Int):jt a a=false:=by
 grind [FE]
theorem Ye {a b:Int×Int} (h:jt a b=true):jt b a=false:=by
 grind [FE]
theorem zL {a b:Int×Int} (h1:jt a b=false) (h2:jt b a=false):a=b:=by
 grind [FE]
def up (xs:List Row):Prop:=xs.Pairwise (λa b=>jt (rk a) (rk b)=true)
theorem Eh {x:Row} {xs:List Row}:up (x::xs)↔(∀ y ∈ xs,jt (rk x) (rk y)=true)/\up xs:=dM
def pos:List Row->Int×Int->Nat
 | [],_=>0
 | x::xs,k=>if jt (rk x) k then pos xs k+1 else 0
theorem Qw:∀ (xs:List Row) (k:Int×Int),pos xs k<=xs.length
 | [],_=>aH _
 | x::xs,k=>by simp only[pos];split <;> simp[Qw xs k]
theorem CI:∀ (xs:List Row) (k:Int×Int) (i:Nat) (h:i < xs.length),i < pos xs k->jt (rk xs[i]) k=true
 | x::xs,k,i,h,hp=>by
  simp only[pos] at hp;split at hp
  ·rename_i hx
   cases i with
   | zero=>exact hx
   | succ i=>exact CI xs k i (by simpa using h) Bys
  ·omega
theorem AB:∀ (xs:List Row) (k:Int×Int) (i:Nat) (h:i < xs.length),up xs->pos xs k<=i->jt (rk xs[i]) k=false
 | x::xs,k,i,h,hu,hp=>by
  simp only[pos] at hp;split at hp
  ·cases i with
   | zero=>omega
   | succ i=>exact AB xs k i (by simpa using h) (Eh.1 hu).2 Bys
  ·rename_i hx;have hx:jt (rk x) k=false:=by simpa using hx
   cases i with
   | zero=>exact hx
   | succ i=>
    have sS:i < xs.length:=by simpa using h
    have hm:jt (rk x) (rk xs[i])=true:=(Eh.1 hu).1 _ (aJ _);grind [ve]
def oU (xs:List Row) (k:Int×Int):Bool:=match xs[pos xs k]? with
 | some x=>decide (rk x=k)
 | none=>false
theorem vJ {xs:List Row} {k:Int×Int} (h:oU xs k=true):∃ hp:pos xs k < xs.length,rk xs[pos xs k]=k:=by
 grind [oU]
theorem Yf (a b:Row):decide ((if jt (a.1,a.2.1) (b.1,b.2.1) then (-1:Int) else if jt (b.1,b.2.1) (a.1,a.2.1) then 1 else 0) < 0)=jt (rk a) (rk b):=by
 grind [rk]
theorem FF (a b:Row):sameKey a b=decide (rk a=rk b):=by
 grind [sameKey,rk]
theorem half (lo hi:Nat) (h:lo+hi<=4611686018427387904):af ((IntKind.wrap .u64 (af ((lo:Int)+(hi:Int)))).fdiv (2 ^ 1))=(((lo+hi) / 2:Nat):Int):=by
 grind [bi,IntKind.wrap,IntKind.bits]
theorem Hn (xs:List Row) (key:Row) (f:Nat×Int) (hu:up xs) (hl:xs.length<=2000000):bn.ab (xs,key,f,())=some ((pos xs (rk key):Int),oU xs (rk key),()):=by
 have hp:=Qw xs (rk key)
 have hq:bn.q0 (xs,key,f,()) (pos xs (rk key):Int)=some ((pos xs (rk key):Int),oU xs (rk key),()):=by
  grind [bn.q0,oU,Fm,Ls,FF]
 refine ag (k:=xs.length+1) λk hk=>(bn.ae k _).trans ?_
 refine tm (B:=λself v=>bn.b0 self (λz=>bn.q0 (xs,key,f,()) z) (xs,key,f,()) v) (λ_=>((pos xs (rk key):Int),oU xs (rk key),()))
  (λv=>∃ lo hi:Nat,v=((lo:Int),(hi:Int))/\lo<=pos xs (rk key)/\pos xs (rk key)<=hi/\hi<=xs.length) (λv=>(v.2 - v.1).toNat) (λv hv self=>?_) k (0,(xs.length:Int)) ⟨0,xs.length,rfl,by omega,hp,by omega⟩ (by simp;omega)
 obtain ⟨lo,hi,rfl,h1,h2,h3⟩:=hv;by_cases a7:lo < hi
 ·right;have EI:(lo:Int) < (hi:Int):=by omega
  have hm:(lo+hi) / 2 < xs.length:=by omega
  have hb:∀ self,bn.b0 self (λz=>bn.q0 (xs,key,f,()) z) (xs,key,f,()) ((lo:Int),(hi:Int))=if jt (rk xs[(lo+hi) / 2]) (rk key) then self (af ((((lo+hi) / 2:Nat):Int)+1),(hi:Int)) else self ((lo:Int),(((lo+hi) / 2:Nat):Int)):=λself=>by
   grind [bn.b0,half,Int.toNat_natCast,Fm,Yf]
  cases hc:jt (rk xs[(lo+hi) / 2]) (rk key) with
  | true=>
   refine ⟨((((lo+hi) / 2+1:Nat):Int),(hi:Int)),?_,rfl,⟨_,_,rfl,?_,h2,h3⟩,by grind⟩
   all_goals grind [bi,AB]
  | false=>
   refine ⟨((lo:Int),(((lo+hi) / 2:Nat):Int)),?_,rfl,⟨_,_,rfl,h1,?_,by omega⟩,by grind⟩
   all_goals grind [CI]
 grind [bn.b0]
def vg (xs:List Row) (c:Change):Bool:=(oU xs (ck c) == c.1)&&(!oU xs (ck c)||(match xs[pos xs (ck c)]? with | some x=>Ty.eq a8 x c.2.1 | none=>true))
def qc (xs:List Row) (c:Change):List Row:=xs.take (pos xs (ck c))++(if c.2.2.1 then [c.2.2.2.1] else [])++xs.drop (pos xs (ck c)+if oU xs (ck c) then 1 else 0)
theorem Yg (c:Change):rk (AA c)=ck c:=yh c
theorem NG (c:Change) (xs:List Row) (hu:up xs) (hl:xs.length<=2000000):kq.ab (c,xs,())=some (vg xs c,()):=by
 refine ag (k:=0) λk _=>(kq.ae k _).trans ?_;grind [kq.p,vg,xd,Hn,Yg,vJ]
theorem VS (xs:List Row) (c:Change) (hu:up xs) (hl:xs.length<=2000000):rn.ab (xs,c,())=some (qc xs c,()):=by
 refine ag (k:=0) λk _=>(rn.ae k _).trans ?_;show rn.p _=_;unfold rn.p qc;have hp:=Qw xs (ck c);have IY:0<=((pos xs (ck c):Nat):Int)/\((pos xs (ck c):Nat):Int)<=(xs.length:Int):=by omega
 have c1:([]:List Row).length+(List.take (pos xs (ck c)) xs).length<=cg:=c9 (by simp;omega);simp only[xd,Hn xs _ _ hu hl,Yg,aA,IY,cM,aK,aC,c1,eK,cK,eS];have c2:(List.take (pos xs (ck c)) xs).length+[c.2.2.2.1].length<=cg:=c9 (by simp;omega);have hd:∀ (p7:List Row) (n:Nat),p7.length<=2000001->p7.length+(List.drop n xs).length<=cg:=λp7 n h=>c9 (by grind);have hw:af (((pos xs (ck c):Nat):Int)+1)=((pos xs (ck c)+1:Nat):Int):=by grind [bi]
 have c3:=hd (List.take (pos xs (ck c)) xs++[c.2.2.2.1]);have c4:=hd (List.take (pos xs (ck c)) xs);have l3:(List.take (pos xs (ck c)) xs++[c.2.2.2.1]).length<=2000001:=by simp;omega
 have l4:(List.take (pos xs (ck c)) xs).length<=2000001:=by simp;omega
 cases hf:oU xs (ck c) with
 | false=>
  grind
 | true=>
  obtain ⟨gy,_⟩:=vJ hf;grind
theorem Gp (a b:Row):og.ab (a,b,())=some (jt (rk a) (rk b),()):=by
 refine ag (k:=0) λk _=>(og.ae k _).trans ?_;grind [og.p,jt,rk]
theorem TT {xs:List Row} {k:Int×Int} (h:oU xs k=true):∃ y ∈ xs,rk y=k:=by
 obtain ⟨hp,hk⟩:=vJ h;grind
theorem TU (k:Int×Int):∀ (xs:List Row) (j:Nat),up xs->bt (λi (_:Unit) x=>if rk x=k then .inl ((i:Int),()) else .inr ()) (λ_=>((-1:Int),())) j xs ()=if oU xs k then (((j+pos xs k:Nat):Int),()) else (-1,())
 | [],j,_=>by simp[bt,oU]
 | x::xs,j,hu=>by
  have hu:=Eh.1 hu;simp only[bt];by_cases hx:rk x=k
  ·grind [vf,oU,pos]
  ·simp only[hx,aR];rw[TU k xs (j+1) hu.2];grind [pos,oU]
def atI (xs:List Row) (k:Int×Int):Int:=if oU xs k then (pos xs k:Int) else -1
theorem NH (xs:List Row) (t k:Int) (hu:up xs) (hl:xs.length<=2000000):nr.ab (xs,t,k,())=some (atI xs (t,k),()):=by
 refine ag (k:=xs.length+1) λf hf=>(nr.ae f _).trans ?_
 have:=c8 (B:=λself v=>nr.b0 self (λz=>nr.q0 (xs,t,k,()) z) (xs,t,k,()) v) xs (λ(_:Unit) (i:Int)=>i) (λi _ x=>if rk x=(t,k) then .inl ((i:Int),()) else .inr ()) (λ_=>((-1:Int),())) (λ_ _=>True) (by rw[ao];omega)
  (λi hi _ self _=>by
   grind [nr.b0,rk]) (λ_ _ _ _ _ _=>trivial) (λ_ self _=>by
   grind [nr.b0,nr.q0]) () trivial f Bys
 rw[TU (t,k) xs 0 hu] at this;have this:nr.r0 f (xs,t,k,()) 0=_:=this;grind [nr.p,atI]
theorem Qx {O:Type} (k:Int×Int) (g:Nat->O) (n:Nat):∀ (xs:List Row) (j:Nat),j+xs.length=n->bt (λi (_:Unit) x=>if jt (rk x) k then .inr () else .inl (g i)) (λ_=>g n) j xs ()=g (j+pos xs k)
 | [],j,h=>by grind [bt,pos]
 | x::xs,j,h=>by
  simp only[bt,pos]
  cases hb:jt (rk x) k with
  | true=>
   simp only[aK];rw[Qx k g n xs (j+1) (by grind)];congr 1;omega
  | false=>simp
def vh (xs:List Row) (r:Row):List Row:=xs.take (pos xs (rk r))++[r]++xs.drop (pos xs (rk r))
theorem VT (xs:List Row) (r:Row) (hl:xs.length<=2000000):nB.ab (xs,r,())=some (vh xs r,()):=by
 refine ag (k:=xs.length+1) λf hf=>(nB.ae f _).trans ?_
 have hq:∀ i:Nat,i<=xs.length->nB.q0 (xs,r,()) (i:Int)=some (xs.take i++[r]++xs.drop i,()):=λi hi=>by
  show nB.q0 _ _=_;unfold nB.q0;have IY:0<=(i:Int)/\(i:Int)<=(xs.length:Int):=by omega
  have c1:([]:List Row).length+(List.take i xs).length<=cg:=c9 (by simp;omega);have c2:(List.take i xs).length+[r].length<=cg:=c9 (by simp;omega);have c3:(List.take i xs++[r]).length+(List.drop i xs).length<=cg:=c9 (by simp;omega);grind
 have:=c8 (B:=λself v=>nB.b0 self (λz=>nB.q0 (xs,r,()) z) (xs,r,()) v) xs (λ(_:Unit) (i:Int)=>i) (λi _ x=>if jt (rk x) (rk r) then .inr () else .inl (xs.take i++[r]++xs.drop i,())) (λ_=>(xs.take xs.length++[r]++xs.drop xs.length,())) (λ_ _=>True) (by rw[ao];omega)
  (λi hi _ self _=>by
   show nB.b0 _ _ _ _=_;unfold nB.b0;have a7:(i:Int) < (xs.length:Int):=by omega
   simp only[a7,aO,aS,aN,aK,aC,aB hi,aA,Gp]
   cases jt (rk xs[i]) (rk r) <;> grind) (λ_ _ _ _ _ _=>trivial) (λ_ self _=>by
   grind [nB.b0]) () trivial f Bys
 rw[Qx (rk r) (λi=>(xs.take i++[r]++xs.drop i,())) xs.length xs 0 Bys] at this;refine this.trans ?_;simp[vh]
theorem FH {xs:List Row} {k:Int×Int} {x:Row} (h:x ∈ xs.take (pos xs k)):jt (rk x) k=true:=by
 obtain ⟨i,hi,e⟩:=dE.1 h;grind [CI]
end OT
namespace OT
open Go
def tU (xs:List Row) (i:Nat) (x:Row):Sum (Int×Unit) Unit:=
 if i7 x=0 then (if 0 < i then (match xs[i - 1]? with | some y=>if jt (rk y) (rk x) then .inr () else .inl (1,()) | none=>.inl (1,())) else .inr ()) else .inl (i7 x,())
def mE (xs:List Row):Int:=if 60 < xs.length then 2 else (bt (λi (_:Unit) x=>tU xs i x) (λ_=>((0:Int),())) 0 xs ()).1
theorem Sk (xs:List Row) (hl:xs.length<=maxLen) (h:∀ c ∈ xs,rl c):mC.ab (xs,())=some (mE xs,()):=by
 refine ag (k:=xs.length+1) λk hk=>(mC.ae k _).trans ?_
 have:=c8 (B:=λself v=>mC.b0 self (λz=>mC.q0 (xs,()) z) (xs,()) v) xs (λ(_:Unit) (i:Int)=>i) (λi _ x=>tU xs i x) (λ_=>(0,())) (λ_ _=>True) hl
  (λi hi _ self _=>by
   show mC.b0 _ _ _ _=_;unfold mC.b0 tU;have a7:(i:Int) < (xs.length:Int):=by omega
   simp only[a7,aO,aS,aN,aK,aC,aB hi,aA,za _ (h _ (aJ hi))]
   grind [Lt,Int.toNat_natCast,Gp]) (λ_ _ _ _ _ _=>trivial) (λ_ self _=>by
   grind [mC.b0,mC.q0]) () trivial k Bys
 have this:mC.r0 k (xs,()) 0=_:=this;grind [mC.p,mE]
theorem DT (xs:List Row) (hl:xs.length<=maxLen) (h:∀ c ∈ xs,rl c):fi.ab (xs,())=some (mE xs,()):=by
 refine ag (k:=xs.length+1) λk hk=>(fi.ae k _).trans ?_
 have:=c8 (B:=λself v=>fi.b0 self (λz=>fi.q0 (xs,()) z) (xs,()) v) xs (λ(_:Unit) (i:Int)=>i) (λi _ x=>tU xs i x) (λ_=>(0,())) (λ_ _=>True) hl
  (λi hi _ self _=>by
   show fi.b0 _ _ _ _=_;unfold fi.b0 tU rk;have a7:(i:Int) < (xs.length:Int):=by omega
   simp only[a7,aO,aS,aN,aK,aC,aB hi,aA,zb _ (h _ (aJ hi))]
   grind [Lt,Int.toNat_natCast,DS]) (λ_ _ _ _ _ _=>trivial) (λ_ self _=>by
   grind [fi.b0,fi.q0]) () trivial k Bys
 have this:fi.r0 k (xs,()) 0=_:=this;grind [fi.p,mE]
theorem NI {α:Type} {f:Nat->Unit->α->Sum (Int×Unit) Unit} (hf:∀ i s x o,f i s x=.inl o->o.1≠0):∀ (xs:List α) (j:Nat),(bt f (λ_=>((0:Int),())) j xs ()).1=0->∀ i (hi:i < xs.length),f (j+i) () xs[i]=.inr ()
 | x::xs,j,h,i,hi=>by
  simp only[bt] at h
  cases hx:f j () x with
  | inl o=>grind
  | inr u=>
   rw[hx] at h
   cases i with
   | zero=>exact hx
   | succ i=>
    have:=NI hf xs (j+1) h i (by simpa using hi);grind
theorem Yh:∀ (xs:List Row),(∀ i (hi:i < xs.length),0 < i->jt (rk (xs[i - 1]'Bys)) (rk xs[i])=true)->up xs
 | [],_=>List.Pairwise.nil
 | [x],_=>fY _ _
 | x::y::xs,h=>by
  have hu:up (y::xs):=Yh (y::xs) λi hi h0=>by
   have:=h (i+1) (by grind) Bys;grind
  have sT:jt (rk x) (rk y)=true:=h 1 (by simp) Bys;refine Eh.2 ⟨λz hz=>?_,hu⟩;rcases bB.1 hz with rfl | hz
  ·exact sT
  ·exact ve sT ((Eh.1 hu).1 z hz)
theorem AC {x:Row} (h:i7 x=0):List.length x.2.2.2.1<=8:=by
 grind [i7,Do]
structure Good (xs:List Row):Prop where
 up:up xs
 ok:∀ x ∈ xs,i7 x=0
theorem vj {xs:List Row} (h:mE xs=0):Good xs/\xs.length<=60:=by
 unfold mE at h;split at h
 ·cases h
 ·rename_i hl
  have hn:=NI (f:=λi (_:Unit) x=>tU xs i x) (λi s x o ho=>by
   grind [tU]) xs 0 h
  have h1:∀ i (hi:i < xs.length),i7 xs[i]=0:=λi hi=>by
   grind [tU]
  refine ⟨⟨Yh xs λi hi h0=>?_,λx hx=>?_⟩,by omega⟩
  ·grind [tU]
  ·obtain ⟨i,hi,rfl⟩:=dE.1 hx;exact h1 i hi
theorem po {c:Change} (h:kI c=0):(c.2.2.1=true->rk c.2.2.2.1=ck c)/\(c.2.2.1=true->i7 c.2.2.2.1=0):=by
 grind [rk,ck,kI]
theorem sk {xs:List Row} {c:Change} (h:Good xs) (hc:kI c=0):Good (qc xs c):=by
 obtain ⟨hk,hr⟩:=po hc;have hb:=h.up;constructor
 ·unfold qc up;have h1:(xs.take (pos xs (ck c))).Pairwise (λa b=>jt (rk a) (rk b)=true):=hb.sublist (List.take_sublist _ _);have Kv:∀ n,(xs.drop n).Pairwise (λa b=>jt (rk a) (rk b)=true):=λn=>hb.sublist (List.drop_sublist _ _)
  have ac1:∀ y ∈ xs.drop (pos xs (ck c)+if oU xs (ck c) then 1 else 0),jt (ck c) (rk y)=true:=λy hy=>by
   obtain ⟨i,e⟩:=fJ.1 hy;rw[bP] at e;obtain ⟨a7,e1⟩:=aM.1 e;have hn:=AB xs (ck c) _ a7 hb Bys;rw[e1] at hn;clear e1 a7
   cases Nb:jt (ck c) (rk y) with
   | true=>rfl
   | false=>
    have he:=zL Nb hn;exfalso
    cases hf:oU xs (ck c) with
    | true=>
     obtain ⟨hp,Pg⟩:=vJ hf;rw[hf] at e;simp only[aK] at e;obtain ⟨a7,e⟩:=aM.1 e;have:=bN.1 hb (pos xs (ck c)) (pos xs (ck c)+1+i) hp a7 Bys;grind
    | false=>
     rw[hf] at e;simp only[aE,aR,dY] at e;obtain ⟨a7,e⟩:=aM.1 e;have hp:pos xs (ck c) < xs.length:=by omega
     have IQ:=AB xs (ck c) _ hp hb (aH _)
     have je:rk xs[pos xs (ck c)]≠ck c:=λe2=>by
      grind [oU]
     have afu:jt (ck c) (rk xs[pos xs (ck c)])=true:=by
      grind [zL]
     cases i with
     | zero=>
      grind
     | succ i=>
      have:=bN.1 hb (pos xs (ck c)) (pos xs (ck c)+(i+1)) hp a7 Bys;grind
  have ae1:∀ a ∈ xs.take (pos xs (ck c)),∀ y ∈ xs.drop (pos xs (ck c)+if oU xs (ck c) then 1 else 0),jt (rk a) (rk y)=true:=λa ha y hy=>ve (FH ha) (ac1 y hy);grind [FH]
 ·intro x hx;unfold qc at hx;rcases bG.1 hx with hx | hx
  ·rcases bG.1 hx with hx | hx
   ·exact h.ok x (dI hx)
   grind
  ·exact h.ok x (cN hx)
theorem J2 (xs:List Row) (c:Change):(qc xs c).length<=xs.length+1:=by
 grind [qc]
def wM (i:Nat) (s:List Row) (c:Change):Sum (Bn×Unit) (List Row):=if kI c=0 then (if vg s c then .inr (qc s c) else .inl ((8,[],()),())) else .inl ((kI c,[],()),())
def CJ (s:List Row):Bn×Unit:=if 60 < s.length then ((2,[],()),()) else ((0,s,()),())
def Lw (xs:List Row) (cs:List Change):Bn:=if mE xs=0 then (bt wM CJ 0 cs xs).1 else (mE xs,[],())
theorem Z4 (n i:Nat) (s s':List Row) (c:Change) (h:Good s/\s.length<=60+i) (hf:wM n s c=.inr s'):Good s'/\s'.length<=60+(i+1):=by
 grind [wM,sk,J2]
theorem I9 (xs:List Row) (h:xs.length<=1048576):kP.ab (xs,())=some (xs,()):=by
 refine ag (k:=0) λk _=>(kP.ae k _).trans ?_;show kP.p _=_;unfold kP.p;have c1:([]:List Row).length+xs.length<=cg:=c9 (by grind);exact Ef (λe=>by grind) (by grind)
theorem Qy (xs:List Row) (cs:List Change) (hl:xs.length<=maxLen) (h:∀ x ∈ xs,rl x) (xy:cs.length<=1048576) (hc:∀ c ∈ cs,cl c):iN.ab (xs,cs,())=some (Lw xs cs,()):=by
 refine ag (k:=cs.length+1) λk hk=>(iN.ae k _).trans ?_;unfold iN.p Lw;simp only[DT xs hl h,aA];by_cases h0:mE xs=0
 ·obtain ⟨hg,hn⟩:=vj h0;simp only[h0,aO,aU,aF,aK,I9 xs Bys,aA]
  exact c8 (B:=λself v=>iN.b0 self (λz=>iN.q0 (xs,cs,()) z) (xs,cs,()) v) cs (λ(s:List Row) (i:Int)=>(s,i)) wM CJ (λi s=>Good s/\s.length<=60+i) (by rw[ao];omega)
   (λi hi s self hI=>by
    show iN.b0 _ _ _ _=_;unfold iN.b0 wM;have a7:(i:Int) < (cs.length:Int):=by omega
    simp only[a7,aO,aS,aN,aK,aC,aB hi,aA,A5 _ (hc _ (aJ hi)),NG _ s hI.1.up Bys,VS s _ hI.1.up Bys]
    grind) (λi hi s s' hI hf=>Z4 _ i s s' _ hI hf) (λs self hI=>by
    grind [iN.b0,CJ,iN.q0]) xs ⟨hg,by omega⟩ k Bys
 grind
theorem TV:∀ {xs:List Row},(∀ x ∈ xs,i7 x=0)->zz (.aa a8) xs<=9*xs.length
 | [],_=>aH _
 | x::xs,h=>by
  have h1:zz (.aa a8) (x::xs:List Row)=zz a8 x+1+zz (.aa a8) xs:=Mx (e:=a8) x xs;have h2:=AC (h x bF);have h3:zz a8 x=0+(0+(0+(List.length x.2.2.2.1+0))):=rfl;have h4:=TV λy hy=>h y (aX _ hy);grind
end OT
namespace OT
open Go
theorem Qz {α β O:Type} [DecidableEq β] (g:α->Option β) (bad:O) (fin:Unit->O) (p:α->α->Bool) (hp:∀ x y,p x y=true↔∃ b,g x=some b/\g y=some b) (all:List α):∀ (xs pre:List α),all=pre++xs->(pre.filterMap g).Nodup->bt (λi _ x=>if (all.take i).any (p x) then .inl bad else .inr ()) fin pre.length xs ()=if (all.filterMap g).Nodup then fin () else bad
 | [],pre,h,hn=>by
  rw[cV] at h;subst h;simp only[bt,hn,aK]
 | x::xs,pre,h,hn=>by
  have ht:all.take pre.length=pre:=by rw[h];exact List.take_left
  simp only[bt,ht];have sy:all.filterMap g=pre.filterMap g++([x].filterMap g++xs.filterMap g):=by rw[h,<- fK (x:=x),cS,cS]
  cases hc:pre.any (p x) with
  | true=>
   simp only[aK];obtain ⟨y,hy,hpy⟩:=eG.1 hc;obtain ⟨b,h1,h2⟩:=(hp x y).1 hpy;rw[aL];intro ut;rw[sy,dF] at ut;exact ut.2.2 b (hK.2 ⟨y,hy,h2⟩) b (by simp[h1]) rfl
  | false=>
   simp only[aE,aR]
   have:=Qz g bad fin p hp all xs (pre++[x]) (by rw[h];simp) (by
    rw[cS,dF];refine ⟨hn,?_,λa ha b hb e=>?_⟩
    ·cases hg:g x with
     | none=>simp[hg]
     | some b=>simp[hg]
    ·subst e;obtain ⟨y,hy,hgy⟩:=hK.1 ha;obtain ⟨z,hz,hgz⟩:=hK.1 hb;rw[bE] at hz;subst hz;have:pre.any (p z)=true:=eG.2 ⟨y,hy,(hp z y).2 ⟨a,hgz,hgy⟩⟩
     rw[this] at hc;cases hc)
   rw[bK] at this;exact this
theorem Yi {α β O:Type} [DecidableEq β] (g:α->Option β) (bad:O) (fin:Unit->O) (p:α->α->Bool) (hp:∀ x y,p x y=true↔∃ b,g x=some b/\g y=some b) (xs:List α):bt (λi _ x=>if (xs.take i).any (p x) then .inl bad else .inr ()) fin 0 xs ()=if (xs.filterMap g).Nodup then fin () else bad:=
 Qz g bad fin p hp xs xs [] rfl fC
theorem A8 {α:Type} {lt:α->α->Prop} (has:∀ a b,lt a b->¬ lt b a):∀ (xs ys:List α),xs.Perm ys->xs.Pairwise lt->ys.Pairwise lt->xs=ys
 | [],ys,h,_,_=>(List.nil_perm.1 h).symm
 | x::xs,[],h,_,_=>by have:=h.length_eq;cases this
 | x::xs,y::ys,h,h1,h2=>by
  obtain ⟨a1,a2⟩:=dM.1 h1;obtain ⟨b1,b2⟩:=dM.1 h2;by_cases sT:x=y
  ·subst sT;rw[A8 has xs ys ((List.perm_cons x).1 h) a2 b2]
  ·have hx:x ∈ ys:=by
    have:=h.mem_iff.1 (bF (a:=x) (l:=xs));rcases bB.1 this with e | e
    ·exact absurd e sT
    ·exact e
   have hy:y ∈ xs:=by
    have:=h.mem_iff.2 (bF (a:=y) (l:=ys));rcases bB.1 this with e | e
    ·exact absurd e.symm sT
    ·exact e
   exact absurd (b1 x hx) (has _ _ (a1 y hy))
theorem NJ (xs:List Row) (r:Row):(vh xs r).Perm (r::xs):=by
 unfold vh;rw[bT];have:=gK (a:=r) (l₁:=xs.take (pos xs (rk r))) (l₂:=xs.drop (pos xs (rk r)));rw[cE] at this;exact this
theorem TW {xs:List Row} {k:Int×Int} {x:Row} (hu:up xs) (h:x ∈ xs.drop (pos xs k)):jt (rk x) k=false:=by
 obtain ⟨i,hi,e⟩:=dE.1 h;rw[bU] at hi;rw[gA] at e;rw[<-e];exact AB xs k _ _ hu Bys
theorem abN {xs:List Row} {r:Row} (hu:up xs) (hn:∀ x ∈ xs,rk x≠rk r):up (vh xs r):=by
 unfold vh up;rw[bT,gO];have hd:=hu.drop (i:=pos xs (rk r));refine ⟨hu.take,?_,λa ha b hb=>?_⟩
 ·rw[fK,dM];refine ⟨λb hb=>?_,hd⟩
  have h1:=TW hu hb;have h2:=hn b (cN hb)
  cases h3:jt (rk r) (rk b) with
  | true=>rfl
  | false=>exact absurd (zL h1 h3) h2
 ·have h1:=FH ha;rw[fK] at hb;rcases bB.1 hb with e | e
  ·subst e;exact h1
  ·have h2:=TW hu e;have h3:=hn b (cN e)
   cases h4:jt (rk a) (rk b) with
   | true=>rfl
   | false=>
    cases h5:jt (rk b) (rk a) with
    | true=>rw[ve h5 h1] at h2;cases h2
    | false=>
     have:=zL h4 h5;rw[this] at h1;rw[h1] at h2;cases h2
def Lx (l:List Row):List Row:=l.foldl vh []
theorem Ly:∀ (l acc:List Row),(l.foldl vh acc).Perm (l++acc)
 | [],acc=>jB _
 | r::l,acc=>by
  have h1:=Ly l (vh acc r);have h2:(l++vh acc r).Perm (l++r::acc):=(jB l).append (NJ acc r);exact h1.trans (h2.trans gK)
theorem Bt (l:List Row):(Lx l).Perm l:=by
 have:=Ly l [];rw[cV] at this;exact this
theorem QA:∀ (l acc:List Row),up acc->(l.map rk++acc.map rk).Nodup->up (l.foldl vh acc)
 | [],acc,h,_=>h
 | r::l,acc,h,hn=>by
  simp only[dX,dA,cL,bG,jD] at hn;refine QA l (vh acc r) (abN h λx hx e=>hn.1.2 (dQ.2 ⟨x,hx,e⟩)) ?_
  have:(l.map rk++(vh acc r).map rk).Perm (rk r::(l.map rk++acc.map rk)):=by
   refine ((jB _).append ((NJ acc r).map rk)).trans ?_;rw[dX];exact gK
  rw[this.nodup_iff,cL,bG,jD];exact hn
theorem QB {l:List Row} (h:(l.map rk).Nodup):up (Lx l):=QA l [] List.Pairwise.nil (by simpa using h)
theorem QC {a b:Int×Int} (h:jt a b=true):¬ jt b a=true:=by rw[Ye h];exact λh=>by cases h
theorem Yj {xs ys:List Row} (hp:xs.Perm ys) (hx:up xs) (hy:up ys):xs=ys:=A8 (λa b h=>QC h) xs ys hp hx hy
theorem FI {xs:List Row} (h:up xs):(xs.map rk).Nodup:=by
 unfold List.Nodup;rw[gB];refine h.imp λh1 e=>?_;rw[e,vf] at h1;cases h1
end OT
namespace OT
open Go
abbrev bk:Type:=List (List UInt8)
def CK {α β:Type} (g:Nat->α->List β):Nat->List α->List β
 | _,[]=>[]
 | i,x::xs=>g i x++CK g (i+1) xs
theorem Ho {O α β:Type} (g:Nat->α->List β) (fin:List β->O):∀ (xs:List α) (i:Nat) (s:List β),bt (λi s x=>.inr (s++g i x)) fin i xs s=fin (s++CK g i xs)
 | [],_,s=>by simp[bt,CK]
 | x::xs,i,s=>by simp only[bt,CK];rw[Ho g fin xs (i+1)];simp[bT]
theorem TX {α β:Type} {g:Nat->α->List β} {n:Nat}:∀ (xs:List α) (i:Nat),(∀ i x,x ∈ xs->(g i x).length<=n)->(CK g i xs).length<=n*xs.length
 | [],_,_=>by simp[CK]
 | x::xs,i,h=>by
  have h1:=h i x bF;have h2:=TX xs (i+1) λi y hy=>h i y (aX _ hy);grind [CK,Nat.mul_add]
theorem TY {α β:Type} {g:Nat->α->List β} {y:β}:∀ {xs:List α} {i:Nat},y ∈ CK g i xs↔∃ (j:Nat) (x:α),xs[j]?=some x/\y ∈ g (i+j) x
 | [],i=>by simp[CK]
 | x::xs,i=>by
  simp only[CK,bG,TY (xs:=xs)];constructor
  ·rintro (h | ⟨j,z,h1,h2⟩)
   ·exact ⟨0,x,rfl,h⟩
   ·exact ⟨j+1,z,h1,by grind⟩
  grind
def gj (x:bc):Int:=x.2.2.1.2.1
def uC (x:bc):Int:=x.2.2.1.2.2.1
def uD (x:bc):Int:=x.2.2.1.2.2.2.1
def jW (x:bc):Row:=x.2.2.1.2.2.2.2.1
def rD (P:Nat) (p:List UInt8) (s:Nat):List bc:=if bh p s=0 then [] else [((P:Int),(s:Int),(dz (jh p s)).1,())]
def rE (P:Nat) (p:List UInt8):List bc:=(List.range (pn p)).flatMap (rD P p)
def cv (ps:bk):List bc:=CK rE 0 ps
def qy (ps:bk) (a b:Int):tn×Bool:=match ps[a.toNat]? with
 | some p=>if b.toNat < pn p/\bh p b.toNat≠0 then dz (jh p b.toNat) else (Lv,false)
 | none=>(Lv,false)
def Ei (p:List UInt8) (s:Nat):Bool:=decide (bh p s=0)||(dz (jh p s)).2
def CL (p:List UInt8):Int:=if Dr p=0 then (if (List.range (pn p)).all (Ei p) then 0 else 5) else Dr p
def uE (ps:bk) (x:bc):Bool:=!decide (gj x=1)||((qy ps (uC x) (uD x)).2&&decide ((qy ps (uC x) (uD x)).1.2.1=2))
def FJ (x:bc):Option (Int×Int):=if gj x=1 then some (uC x,uD x) else none
def TZ (x:bc) (r:Row):bc:=(x.1,x.2.1,(x.2.2.1.1,x.2.2.1.2.1,x.2.2.1.2.2.1,x.2.2.1.2.2.2.1,r,x.2.2.1.2.2.2.2.2),x.2.2.2)
def xe (ps:bk) (x:bc):bc:=if gj x=1 then TZ x (qy ps (uC x) (uD x)).1.2.2.2.2.1 else x
def sN (ps:bk) (x:bc):List bc:=if gj x=2 then [] else [xe ps x]
def jZ (ps:bk):List bc:=(cv ps).flatMap (sN ps)
def FK (ps:bk):Int:=
 if (cv ps).all (uE ps) then
  if ((cv ps).filterMap FJ).Nodup then (if ((jZ ps).map λx=>rk (jW x)).Nodup then 0 else 8) else 6
 else 4
def gx (ps:bk):Int:=if 12 < ps.length then 2 else if oO CL ps=0 then FK ps else oO CL ps
def mO (ps:bk):Prop:=ps.length<=12/\∀ p ∈ ps,gn p
theorem QD {p:List UInt8} (h:CL p=0):gn p/\∀ s,s < pn p->bh p s≠0->(dz (jh p s)).2=true:=by
 unfold CL at h;split at h
 ·rename_i h1;split at h
  ·rename_i h2;refine ⟨wJ.1 h1,λs hs hz=>?_⟩
   have:=bJ.1 h2 s (cC.2 hs);grind [Ei]
  ·cases h
 grind
theorem Bu {α:Type} {c:α->Int}:∀ {xs:List α},oO c xs=0->∀ x ∈ xs,c x=0
 | [],_,_,hx=>by cases hx
 | y::xs,h,x,hx=>by
  simp only[oO] at h;split at h
  ·rename_i hy;rcases bB.1 hx with rfl | hx
   ·exact hy
   ·exact Bu h x hx
  grind
theorem Bv {ps:bk} (h:gx ps=0):mO ps/\oO CL ps=0/\FK ps=0:=by
 unfold gx at h;split at h
 ·cases h
 ·rename_i h1;split at h
  ·rename_i h2;exact ⟨⟨by omega,λp hp=>(QD (Bu h2 p hp)).1⟩,h2,h⟩
  grind
theorem DU {p:List UInt8} (h:gn p) (P:Nat):(rE P p).length<=16:=by
 have:∀ n,((List.range n).flatMap (rD P p)).length<=n:=by
  intro n
  induction n with
  | zero=>simp
  | succ n ih=>
   rw[gP,eC,bK]
   have:(([n]:List Nat).flatMap (rD P p)).length<=1:=by
    simp only[dU,iK,cV,rD];split <;> simp
   omega
 have h1:=this (pn p);have h2:=h.n;grind [rE]
theorem Hq {ps:bk} (h:mO ps):(cv ps).length<=192:=by
 have:=TX (g:=rE) (n:=16) ps 0 λi p hp=>DU (h.2 p hp) i;unfold cv;have:=h.1;omega
theorem FL {ps:bk} (h:mO ps):(jZ ps).length<=192:=by
 have:∀ xs:List bc,(xs.flatMap (sN ps)).length<=xs.length:=by
  intro xs
  induction xs <;> grind [sN]
 grind [Hq,jZ]
theorem Hr (d:List UInt8):0<=(dz d).1.2.2.1/\0<=(dz d).1.2.2.2.1:=by
 grind [dz]
theorem xT {ps:bk} {x:bc}:x ∈ cv ps↔∃ (P:Nat) (p:List UInt8) (s:Nat),ps[P]?=some p/\s < pn p/\bh p s≠0/\x=((P:Int),(s:Int),(dz (jh p s)).1,()):=by
 unfold cv;rw[TY];constructor
 ·rintro ⟨j,p,h1,h2⟩;obtain ⟨s,h3,h4⟩:=cG.1 h2;grind [rD]
 ·rintro ⟨P,p,s,h1,h2,h3,rfl⟩;refine ⟨P,p,h1,cG.2 ⟨s,cC.2 h2,?_⟩⟩
  grind [rD]
theorem Ad {ps:bk} {x:bc} (h:x ∈ cv ps):0<=uC x/\0<=uD x:=by
 obtain ⟨P,p,s,_,_,_,rfl⟩:=xT.1 h;exact Hr _
theorem QE (ps:bk) (h:mO ps):gk.ab (ps,())=some (cv ps,()):=by
 obtain ⟨hl,hp⟩:=h;refine ag (k:=100) λk hk=>(gk.ae k _).trans ?_
 have inner:∀ (self:(bk×(List bc)×Int)->Option gk.O) (e0:(List bc)->Option gk.O) (i:Nat) (hi:i < ps.length) (s:List bc),s.length<=1000->gk.r1 k self e0 (ps,()) ps (i:Int) (s,(0:Int))=self (ps,s++rE i ps[i],af ((i:Int)+1)):=λself e0 i hi s0 hs0=>by
  have bd:=hp _ (aJ hi);have hn:=bd.n;have hlen:=bd.len
  have:=qb (B:=λju v=>gk.b1 ju (λz=>gk.q0 self e0 (ps,()) ps (i:Int) z) (ps,()) ps (i:Int) v) (pn ps[i]) (λ(s:List bc) (j:Int)=>(s,j)) (λj s=>.inr (s++rD i ps[i] j)) (λs=>self (ps,s,af ((i:Int)+1))) (λj s=>s.length<=1000+j) Bys
   (λj hj s ju hI=>by
    show gk.b1 _ _ _ _ _ _=_;unfold gk.b1 rD;have a7:(j:Int) < (pn ps[i]:Int):=by omega
    simp only[aN,aK,aC,aB hi,aA,qv hlen,a7,aO,aS,wL hlen (show j < 16 by omega)]
    grind [A7,Hm,Ac,c9])
   (λj hj s s' hI hf=>by
    grind [rD]) (λs ju hI=>by
    show gk.b1 _ _ _ _ _ _=_;unfold gk.b1;simp only[aN,aK,aC,aB hi,aA,qv hlen,aV,aI,aF]
    rfl) s0 Bys k Bys
  rw[FB (rD i ps[i])] at this;exact this
 have:=eo (B:=λself v=>gk.B0 k self (λz=>gk.q1 (ps,()) z) (ps,()) v) ps (λ(s:List bc) (i:Int)=>(ps,s,i)) (λi s p=>.inr (s++rE i p)) (λs=>some (s,())) (λi s=>s.length<=16*i) (by rw[ao];omega)
  (λi hi s self hI=>by
   show gk.b0 _ _ _ _ _=_
   grind [gk.b0])
  (λi hi s s' hI hf=>by
   grind [DU]) (λs self _=>by
   show gk.b0 _ _ _ _ _=_;unfold gk.b0;simp only[aV,aI,aF]
   rfl) [] (by simp) k Bys
 rw[Ho] at this;exact this
theorem QF (ps:bk) (h:mO ps) (a b:Int) (ha:0<=a) (hb:0<=b):qR.ab (ps,a,b,())=some ((qy ps a b).1,(qy ps a b).2,()):=by
 obtain ⟨hl,hp⟩:=h;obtain ⟨a,rfl⟩:=dG ha;obtain ⟨b,rfl⟩:=dG hb;refine ag (k:=0) λk hk=>(qR.ae k _).trans ?_;show qR.p _=_;unfold qR.p qy;have hw:af ((ps.length:Int) - 1)=(ps.length:Int) - 1:=bi Bys;have h0:decide ((0:Int)<=(a:Int))=true:=aY Bys;have h1:decide ((a:Int)<=(ps.length:Int) - 1)=decide (a < ps.length):=by grind
 simp only[qu,hw,h0,h1,aA,eJ,aC];by_cases hal:a < ps.length;rotate_left
 ·grind
 rw[aY hal];have bd:=hp _ (aJ hal);simp only[aU,aF,aN,aK,aB hal,aA,VR bd];by_cases hc:b < pn ps[a]/\bh ps[a] b≠0
 ·grind [A7,Hm,Ac]
 grind
theorem I_ (ps:bk) (h:mO ps):kW.ab (ps,())=some (jZ ps,()):=by
 refine ag (k:=300) λk hk=>(kW.ae k _).trans ?_;unfold kW.p;rw[QE ps h];simp only[aA];have nx:=Hq h;have Qv:∀ x ∈ cv ps,0<=uC x/\0<=uD x:=λx hx=>Ad hx;unfold jZ;generalize cv ps=xs at nx Qv ⊢
 have:=eo (B:=λself v=>kW.b0 self (λz=>kW.q0 (ps,()) xs z) (ps,()) xs v) xs (λ(s:List bc) (i:Int)=>(s,i)) (λi s x=>.inr (s++sN ps x)) (λs=>some (s,())) (λi s=>s.length<=i) (by rw[ao];omega)
  (λi hi s self hI=>by
   show kW.b0 _ _ _ _ _=_;unfold kW.b0 sN;have a7:(i:Int) < (xs.length:Int):=by omega
   obtain ⟨g1,g2⟩:=Qv _ (aJ hi);have hcc:qR.ab (ps,(xs[i]).2.2.1.2.2.1,(xs[i]).2.2.1.2.2.2.1,())=some ((qy ps (uC xs[i]) (uD xs[i])).1,(qy ps (uC xs[i]) (uD xs[i])).2,()):=QF ps h _ _ g1 g2;have pL:∀ y:bc,s.length+[y].length<=cg:=λy=>c9 (by grind);simp only[a7,aO,aS,aN,cM,aK,aC,aB hi,aA,hcc,pL];show (bif decide (gj xs[i]=2) then _ else bif decide (gj xs[i]=1) then _ else _)=_;unfold xe;by_cases c2:gj xs[i]=2
   ·grind
   ·by_cases c1:gj xs[i]=1
    ·simp only[c1,c2,aO,aI,aS,aF,aK,aR];rfl
    grind)
  (λi hi s s' hI hf=>by
   grind [sN]) (λs self _=>by
   show kW.b0 _ _ _ _ _=_;unfold kW.b0;simp only[aV,aI,aF]
   rfl) [] (by simp) k Bys
 rw[FB (sN ps)] at this;exact this
end OT
namespace OT
open Go Go.Sort
abbrev Ej:Ty:=.arr 2 i64
theorem Ek (a b c d:Int):Ty.eq Ej [a,b] [c,d]=(decide (a=c)&&decide (b=d)):=by
 simp_all [Ty.eq]
theorem J3 (a b:Int):((List.replicate 2 (0:Int)).set 0 a).set 1 b=[a,b]:=rfl
theorem Hs {α:Type} (k:Ty) (m:List (k.den×α)) (x:k.den) (y:α) (h:∀ e ∈ m,k.eq x e.1=false):nP k m x y=m++[(x,y)]:=by
 grind [nP]
def jw (x:bc):List Seen:=if gj x=0 then [(jW x,x.1,x.2.1,false,x.1,x.2.1,())] else []
def gi (x:bc):List Seen:=if gj x=1 then [(CH,x.1,x.2.1,true,uC x,uD x,())] else []
def mP (x:bc):List (List Int×Row):=if gj x=2 then [([x.1,x.2.1],jW x)] else []
theorem FM (d:List UInt8):(dz d).2=true->(dz d).1.1=0/\((dz d).1.2.1=0\/(dz d).1.2.1=1\/(dz d).1.2.1=2):=by
 grind [dz]
def BH (ps:bk):Prop:=mO ps/\∀ p ∈ ps,∀ s,s < pn p->bh p s≠0->(dz (jh p s)).2=true
theorem QG {ps:bk} (hl:ps.length<=12) (h:oO CL ps=0):BH ps:=
 ⟨⟨hl,λp hp=>(QD (Bu h p hp)).1⟩,λp hp=>(QD (Bu h p hp)).2⟩
theorem Yk {ps:bk} (h:BH ps) {x:bc} (hx:x ∈ cv ps):gj x=0\/gj x=1\/gj x=2:=by
 obtain ⟨P,p,s,h1,h2,h3,rfl⟩:=xT.1 hx;exact (FM _ (h.2 p (bW h1) s h2 h3)).2
theorem LA (S:List bc):(S.flatMap jw).length<=S.length/\(S.flatMap gi).length<=S.length:=by
 induction S <;> grind [jw,gi]
theorem T5 {ps:bk} (h:BH ps) (a b:Int) (ha:0<=a) (hb:0<=b):ko Ej ((cv ps).flatMap mP) [a,b]=if (qy ps a b).2&&decide ((qy ps a b).1.2.1=2) then some (qy ps a b).1.2.2.2.2.1 else none:=by
 obtain ⟨a,rfl⟩:=dG ha;obtain ⟨b,rfl⟩:=dG hb;unfold ko
 have at_:∀ x ∈ cv ps,x.1=(a:Int)->x.2.1=(b:Int)->qy ps (a:Int) (b:Int)=(x.2.2.1,true):=λx hx e1 e2=>by
  obtain ⟨P,p,s,h1,h2,h3,rfl⟩:=xT.1 hx;have e1:(P:Int)=(a:Int):=e1;have e2:(s:Int)=(b:Int):=e2;have e1:P=a:=by omega
  have e2:s=b:=by omega
  subst e1;subst e2;unfold qy;simp only[aC,h1];rw[aG ⟨h2,h3⟩];have:=h.2 p (bW h1) s h2 h3;rw[<-this]
 cases hf:((cv ps).flatMap mP).find? (λe=>Ty.eq Ej [(a:Int),(b:Int)] e.1) with
 | some e=>
  have hm:=cT hf;have hp:=gQ hf;obtain ⟨x,hx,Tp⟩:=cG.1 hm;unfold mP at Tp;split at Tp
  ·rename_i h2;rw[bE] at Tp;subst Tp;rw[Ek,aD,bA,bA] at hp;have hg:=at_ x hx hp.1.symm hp.2.symm;rw[hg];have:(x.2.2.1).2.1=2:=h2;simp only[this,aO,iI,aK,bV];rfl
  ·cases Tp
 | none=>
  rw[aL]
  ·rfl
  ·intro hc;rw[aD,bA] at hc;obtain ⟨c1,c2⟩:=hc
   have:∃ x ∈ cv ps,x.1=(a:Int)/\x.2.1=(b:Int)/\gj x=2:=by
    unfold qy at c1 c2;simp only[aC] at c1 c2
    cases hpa:ps[a]? with
    | none=>grind
    | some p=>
     rw[hpa] at c1 c2;simp only at c1 c2;by_cases hc:b < pn p/\bh p b≠0
     ·rw[aG hc] at c2;exact ⟨_,xT.2 ⟨a,p,b,hpa,hc.1,hc.2,rfl⟩,rfl,rfl,c2⟩
     grind
   grind [mP,Ek]
def qz (x:bc):Seen:=(jW x,x.1,x.2.1,decide (gj x=1),(if gj x=1 then uC x else x.1),(if gj x=1 then uD x else x.2.1),())
def Ae (ps:bk) (y:Seen):Seen:=(C3 (ko Ej ((cv ps).flatMap mP) [y.2.2.2.2.1,y.2.2.2.2.2.1]) CH,y.2)
def Iv (ps:bk):List Seen:=(cv ps).flatMap jw++((cv ps).flatMap gi).map (Ae ps)
theorem VU {ps:bk} (h:BH ps) (hs:(cv ps).all (uE ps)=true):(Iv ps).Perm ((jZ ps).map qz):=by
 unfold Iv jZ;have sy:=bJ.1 hs;have Bd:∀ x ∈ cv ps,gj x=0\/gj x=1\/gj x=2:=λx hx=>Yk h hx;have Qv:∀ x ∈ cv ps,0<=uC x/\0<=uD x:=λx hx=>Ad hx
 have key:∀ S:List bc,(∀ x ∈ S,x ∈ cv ps)->(S.flatMap jw++(S.flatMap gi).map (Ae ps)).Perm ((S.flatMap (sN ps)).map qz):=by
  intro S
  induction S with
  | nil=>grind
  | cons x S ih=>
   intro hS;have ih:=ih λy hy=>hS y (aX _ hy);have hx:=hS x bF;simp only[dU,fH];rcases Bd x hx with h0 | h1 | h2
   ·simp_all [jw,qz,xe,gi,sN]
   ·have e1:jw x=[]:=by grind [jw]
    have e3:sN ps x=[xe ps x]:=by grind [sN]
    have e2:(gi x).map (Ae ps)=[qz (xe ps x)]:=by
     unfold gi;rw[aG h1];simp only[dX,iQ];obtain ⟨g1,g2⟩:=Qv x hx;have da:=sy x hx;unfold uE at da;rw[aY h1] at da;simp only[aU,dP] at da;have hg:=T5 h (uC x) (uD x) g1 g2;rw[aG da] at hg;unfold Ae;simp only[hg,C3];unfold xe;rw[aG h1];have Z5:gj (TZ x (qy ps (uC x) (uD x)).1.2.2.2.2.1)=1:=h1;unfold qz;rw[aG Z5,aG Z5,aY Z5];rfl
    grind
   grind [jw,gi,sN]
 grind
def El (x y:Seen):Bool:=jt (rk x.1) (rk y.1)
def T6 (x y:Seen):Int:=if jt (x.1.1,x.1.2.1) (y.1.1,y.1.2.1) then -1 else if jt (y.1.1,y.1.2.1) (x.1.1,x.1.2.1) then 1 else 0
theorem Yl:Go.Proofs.ltOf T6=El:=by
 funext x y;exact Yf x.1 y.1
theorem Z6 (x y:Seen):pF.ab (x,y,())=some (T6 x y,()):=by
 refine ag (k:=0) λk hk=>(pF.ae k _).trans ?_;show pF.p _=_;unfold pF.p;rw[Fm];rfl
theorem aeS:SWO El where
 irrefl x:=vf _
 trans x y z h1 h2:=ve h1 h2
 ntrans x y z h1 h2:=by
  grind [El,ve,zL]
def J4 (xs:List Seen) (x:Seen):List Seen:=xs.take (pos (xs.map (·.1)) (rk x.1))++[x]++xs.drop (pos (xs.map (·.1)) (rk x.1))
def FN (l:List Seen):List Seen:=l.foldl J4 []
theorem Z7 (xs:List Seen) (x:Seen):(J4 xs x).map (·.1)=vh (xs.map (·.1)) x.1:=by
 grind [J4,vh,List.map_take,List.map_drop]
theorem Ym (xs:List Seen) (x:Seen):(J4 xs x).Perm (x::xs):=by
 grind [J4,List.take_append_drop]
theorem NK (l:List Seen):(FN l).map (·.1)=Lx (l.map (·.1)):=by
 have main:∀ (l acc:List Seen),(l.foldl J4 acc).map (·.1)=(l.map (·.1)).foldl vh (acc.map (·.1)):=by
  intro l
  induction l <;> grind [Z7]
 exact main l []
theorem LB (l:List Seen):(FN l).Perm l:=by
 have main:∀ (l acc:List Seen),(l.foldl J4 acc).Perm (l++acc):=by
  intro l
  induction l <;> grind [Ym]
 have:=main l [];rw[cV] at this;exact this
def NL (xs:List Seen):Prop:=xs.Pairwise λx y=>El x y=true
theorem T7 {xs:List Seen}:NL xs↔up (xs.map (·.1)):=by
 unfold NL up;rw[gB];rfl
theorem QH {l r:List Seen} (hp:r.Perm l) (hr:NL r) (hn:(l.map λx=>rk x.1).Nodup):r=FN l:=by
 refine A8 (lt:=λx y=>El x y=true) (λa b h=>QC h) r (FN l) (hp.trans (LB l).symm) hr (T7.2 ?_);grind [NK,QB]
theorem Yn {r:List Seen} (h:NL r):(r.map λx=>rk x.1).Nodup:=by
 have:=FI (T7.1 h);grind
def FO:List Seen->Bool
 | x::y::l=>El x y&&FO (y::l)
 | _=>true
theorem Yo:∀ (l:List Seen),FO l=true->NL l
 | [],_=>List.Pairwise.nil
 | [x],_=>fY _ _
 | x::y::l,h=>by
  simp only[FO,aD] at h;have ih:=Yo (y::l) h.2;refine dM.2 ⟨λz hz=>?_,ih⟩;rcases bB.1 hz with rfl | hz
  ·exact h.1
  ·exact ve h.1 ((dM.1 ih).1 z hz)
theorem T8:∀ (l:List Seen),NL l->FO l=true
 | [],_=>rfl
 | [x],_=>rfl
 | x::y::l,h=>by
  obtain ⟨h1,h2⟩:=dM.1 h;simp only[FO,aD];exact ⟨h1 y bF,T8 (y::l) h2⟩
theorem Yp {r:List Seen} (h:r.Pairwise λx y=>El y x=false) (hn:(r.map λx=>rk x.1).Nodup):NL r:=by
 unfold NL
 have h2:r.Pairwise λx y=>rk x.1≠rk y.1:=by
  grind
 refine (h.and h2).imp λ{x y} ⟨g1,g2⟩=>?_;grind [El,zL]
end OT
namespace OT
open Go Go.Sort
theorem Z8 (z:List Seen) (hl:z.length<=1000):∃ r:List Seen,(∀ f:Nat×Int,pY.ab (z,f,())=some (r,()))/\r.Perm z/\r.Pairwise λx y=>El y x=false:=by
 have hs:SWO (Go.Proofs.ltOf T6):=by rw[Yl];exact aeS
 have h1:=P9 (e:=ge) (cs:=pF.ab) (cf:=T6) (λx y=>Z6 x y) hs z (c9 (bI hl Bys));have h2:=P_ (α:=ge.den) (lt:=Go.Proofs.ltOf T6) hs z;refine ⟨_,λf=>?_,h2.1,?_⟩
 ·show (Bm ge pF.ab z).map (λr=>(r,()))=_;rw[h1];rfl
 ·exact h2.2.imp λ{x y} (h:Go.Proofs.ltOf (α:=Seen) T6 y x=false)=>by simp_all [Yl]
theorem QI {O:Type} (r:List Seen) (bad e:O):∀ (l pre:List Seen) (x:Seen),r=pre++x::l->bt (λi (_:Unit) y=>if (match r[i]? with | some z=>El z y | none=>true) then .inr () else .inl bad) (λ_=>e) pre.length l ()=if FO (x::l) then e else bad
 | [],pre,x,_=>by simp[bt,FO]
 | y::l,pre,x,h=>by
  have hx:r[pre.length]?=some x:=by grind
  simp only[bt,hx,FO];by_cases hc:El x y=true;rotate_left
  ·grind
  ·simp only[hc,aK,eJ];have:=QI r bad e l (pre++[x]) y (by rw[h];simp);grind
theorem Z9 (ps:bk) (k:Nat) (hk:300<=k) (r:List Seen) (hl:r.length<=192):al (λself v=>bY.B4 k self (λz=>bY.Q4 k (ps,()) r z) (ps,()) r v) k 1=if FO r then some (r,(0:Int),()) else some (([]:List Seen),(8:Int),()):=by
 have:=eo (B:=λself v=>bY.B4 k self (λz=>bY.Q4 k (ps,()) r z) (ps,()) r v) (r.drop 1) (λ(_:Unit) (i:Int)=>i+1) (λi _ y=>if (match r[i]? with | some z=>El z y | none=>true) then .inr () else .inl (some (([]:List Seen),(8:Int),()))) (λ_=>some (r,(0:Int),())) (λ_ _=>True) (by grind [ao])
  (λi hi s self _=>by
   rw[bU] at hi;show bY.b4 _ _ _ _ _=_;unfold bY.b4;have a7:(i:Int)+1 < (r.length:Int):=by omega
   have Zw:(i:Int) < (r.length:Int):=by omega
   have Qv:(0:Int)<=(i:Int)+1:=by omega
   have xz:af ((i:Int)+1 - 1)=(i:Int):=by grind [bi]
   have Ci:af ((i:Int)+1+1)=af ((i:Int)+1)+1:=by grind [bi]
   have htn:((i:Int)+1).toNat=i+1:=by omega
   have hg:(r.drop 1)[i]'(by grind)=r[i+1]'Bys:=by grind
   rw[hg];simp only[a7,Zw,Qv,xz,Ci,htn,aO,aS,aN,cM,aK,aC,aB (show i < r.length by omega),aB (show i+1 < r.length by omega),aA,DS];show (bif !El r[i] (r[i+1]'Bys) then _ else _)=_
   grind)
  (λ_ _ _ _ _ _=>trivial) (λs self _=>by
   rw[bU];show bY.b4 _ _ _ _ _=_;unfold bY.b4;have a7:¬ (((r.length - 1:Nat):Int)+1 < (r.length:Int)):=by omega
   simp only[a7,aI,aF]
   rfl) () trivial k (by grind)
 refine aQ this ?_
 cases r with
 | nil=>rfl
 | cons x l=>
  exact QI (x::l) _ _ l [] x rfl
def ze (ps:bk):List Seen:=if gx ps=0 then FN ((jZ ps).map qz) else []
def aa5 (ps:bk):List Seen:=if FK ps=0 then FN ((jZ ps).map qz) else []
def OP (y:Seen):Option (Int×Int):=some (y.2.2.2.2.1,y.2.2.2.2.2.1)
def OQ (y:Seen):List Int×Bool:=([y.2.2.2.2.1,y.2.2.2.2.2.1],true)
theorem QJ (T:List Seen) (a b:Int):C3 (ko Ej (T.map OQ) [a,b]) false=T.any λy=>decide (a=y.2.2.2.2.1)&&decide (b=y.2.2.2.2.2.1):=by
 induction T with
 | nil=>rfl
 | cons y T ih=>
  have hk:Ty.eq Ej [a,b] (OQ y).1=(decide (a=y.2.2.2.2.1)&&decide (b=y.2.2.2.2.2.1)):=Ek _ _ _ _;unfold ko at ih ⊢;rw[dX,iV,gL,hk]
  cases (decide (a=y.2.2.2.2.1)&&decide (b=y.2.2.2.2.2.1)) with
  | true=>rfl
  | false=>simpa using ih
theorem Z_ (S:List bc):(S.flatMap gi).filterMap OP=S.filterMap FJ:=by
 induction S <;> grind [gi,FJ,OP]
theorem Sl (ps:bk) (h:BH ps):bY.ab (ps,())=some (aa5 ps,FK ps,()):=by
 obtain ⟨hl,hp⟩:=h.1;have nx:=Hq h.1;refine ag (k:=300) λk hk=>(bY.ae k _).trans ?_
 have inner:∀ (self:(List Seen×List Seen×List (List Int×Row)×bk×Int×Int)->Option bY.O) (e0:(List Seen×List Seen×List (List Int×Row))->Option bY.O) (i:Nat) (hi:i < ps.length) (S:List bc),S.length<=16*i->(∀ x ∈ S,x.1 < (i:Int)) ->
   bY.r1 k self e0 (ps,()) (i:Int) ps[i] ps (ps.length:Int) (pn ps[i]:Int) (S.flatMap jw,S.flatMap gi,S.flatMap mP,(0:Int))=self ((S++rE i ps[i]).flatMap jw,(S++rE i ps[i]).flatMap gi,(S++rE i ps[i]).flatMap mP,ps,(ps.length:Int),af ((i:Int)+1)):=λself e0 i hi S0 hS0 oq=>by
  have bd:=hp _ (aJ hi);have hn:=bd.n;have hlen:=bd.len;have tk:=h.2 _ (aJ hi)
  have:=qb (B:=λju v=>bY.B1 k ju (λz=>bY.Q0 k self e0 (ps,()) (i:Int) ps[i] ps (ps.length:Int) (pn ps[i]:Int) z) (ps,()) (i:Int) ps[i] ps (ps.length:Int) (pn ps[i]:Int) v) (pn ps[i]) (λ(S:List bc) (j:Int)=>(S.flatMap jw,S.flatMap gi,S.flatMap mP,j)) (λj S=>.inr (S++rD i ps[i] j)) (λS=>self (S.flatMap jw,S.flatMap gi,S.flatMap mP,ps,(ps.length:Int),af ((i:Int)+1))) (λj S=>S.length<=16*i+j/\∀ x ∈ S,x.1 < (i:Int)\/(x.1=(i:Int)/\x.2.1 < (j:Int))) Bys
   (λj hj S ju ⟨hI1,hI2⟩=>by
    show bY.b1 _ _ _ _ _ _ _ _ _=_;unfold bY.b1 rD;have a7:(j:Int) < (pn ps[i]:Int):=by omega
    simp only[a7,aO,aS,zd bd,hj,eJ,aA];by_cases hz:bh ps[i] j=0
    ·grind
    ·have Dc:=tk j hj hz;obtain ⟨f1,f2⟩:=FM _ Dc;obtain ⟨l1,l2⟩:=LA S;have pL:∀ (T:List Seen) (y:Seen),T.length<=S.length->T.length+[y].length<=cg:=λT y hT=>c9 (by grind);simp only[hz,aI,cI,aU,aF,A6 bd hj,Gn _ (bI (Ac bd hj) Bys),Dc,aK,aR,aA,f1,aO,pL _ _ l1,pL _ _ l2,J3]
     obtain ⟨x,hx⟩:∃ x:bc,x=((i:Int),(j:Int),(dz (jh ps[i] j)).1,()):=⟨_,rfl⟩
     have hxf:gj x=(dz (jh ps[i] j)).1.2.1:=by rw[hx];rfl
     rw[<-hx];simp only[eC,dU,iK,cV];rcases f2 with g | g | g
     ·have e1:jw x=[((dz (jh ps[i] j)).1.2.2.2.2.1,(i:Int),(j:Int),false,(i:Int),(j:Int),())]:=by unfold jw;rw[aG (hxf.trans g),hx];rfl
      grind [gi,mP]
     ·have e1:jw x=[]:=by grind [jw]
      have e2:gi x=[(CH,(i:Int),(j:Int),true,(dz (jh ps[i] j)).1.2.2.1,(dz (jh ps[i] j)).1.2.2.2.1,())]:=by unfold gi;rw[aG (hxf.trans g),hx];rfl
      grind [mP]
     ·have e1:jw x=[]:=by grind [jw]
      have e2:gi x=[]:=by grind [gi]
      have e3:mP x=[([(i:Int),(j:Int)],(dz (jh ps[i] j)).1.2.2.2.2.1)]:=by unfold mP;rw[aG (hxf.trans g),hx];rfl
      rw[e1,e2,e3];have n1:¬ ((2:Int)=0):=by decide
      have B7:nP Ej (S.flatMap mP) [(i:Int),(j:Int)] (dz (jh ps[i] j)).1.2.2.2.2.1=S.flatMap mP++[([(i:Int),(j:Int)],(dz (jh ps[i] j)).1.2.2.2.2.1)]:=Hs Ej _ _ _ λe he=>by
       grind [mP,Ek]
      grind)
   (λj hj S S' ⟨hI1,hI2⟩ hf=>by
    grind [rD]) (λS ju hI=>by
    show bY.b1 _ _ _ _ _ _ _ _ _=_;unfold bY.b1;simp only[aV,aI,aF]
    rfl) S0 ⟨by omega,λx hx=>.inl (oq x hx)⟩ k Bys
  rw[FB (rD i ps[i])] at this;exact this
 have outer:bY.r0 k (ps,()) (([]:List Seen),([]:List Seen),([]:List (List Int×Row)),ps,(ps.length:Int),(0:Int))=bY.Q1 k (ps,()) ((cv ps).flatMap jw,(cv ps).flatMap gi,(cv ps).flatMap mP):=by
  have:=eo (B:=λself v=>bY.B0 k self (λz=>bY.Q1 k (ps,()) z) (ps,()) v) ps (λ(S:List bc) (i:Int)=>(S.flatMap jw,S.flatMap gi,S.flatMap mP,ps,(ps.length:Int),i)) (λi S p=>.inr (S++rE i p)) (λS=>bY.Q1 k (ps,()) (S.flatMap jw,S.flatMap gi,S.flatMap mP)) (λi S=>S.length<=16*i/\∀ x ∈ S,x.1 < (i:Int)) (by rw[ao];omega)
   (λi hi S self ⟨hI1,hI2⟩=>by
    show bY.b0 _ _ _ _ _=_;unfold bY.b0;have a7:(i:Int) < (ps.length:Int):=by omega
    have hlen:=(hp _ (aJ hi)).len
    grind [uM])
   (λi hi S S' ⟨hI1,hI2⟩ hf=>by
    injection hf with hf;subst hf;have:=DU (hp _ (aJ hi)) i;refine ⟨by grind,λx hx=>?_⟩
    rcases bG.1 hx with hx | hx
    ·grind
    ·obtain ⟨s,_,hs⟩:=cG.1 hx
     grind [rD]) (λS self hI=>by
    show bY.b0 _ _ _ _ _=_
    grind [bY.b0]) [] ⟨by simp,λx hx=>by cases hx⟩ k Bys
  rw[Ho] at this;exact this
 show bY.r0 k (ps,()) (([]:List Seen),([]:List Seen),([]:List (List Int×Row)),ps,(ps.length:Int),(0:Int))=_;rw[outer];show bY.q1 _ _ _=_;unfold bY.q1;obtain ⟨gl1,gl2⟩:=LA (cv ps)
 have hT:∀ y ∈ (cv ps).flatMap gi,∃ x ∈ cv ps,gj x=1/\y=(CH,x.1,x.2.1,true,uC x,uD x,()):=λy hy=>by
  grind [gi]
 have l2w:bY.r2 k (ps,()) ((cv ps).flatMap jw) ((cv ps).flatMap gi) ((cv ps).flatMap mP) (((cv ps).flatMap gi).length:Int) (0:Int)=if (cv ps).all (uE ps) then bY.Q2 k (ps,()) ((cv ps).flatMap jw) ((cv ps).flatMap gi) ((cv ps).flatMap mP) (((cv ps).flatMap gi).length:Int) () else some (([]:List Seen),(4:Int),()):=by
  obtain ⟨T,hTd⟩:∃ T,T=(cv ps).flatMap gi:=⟨_,rfl⟩
  obtain ⟨M,hM⟩:∃ M,M=(cv ps).flatMap mP:=⟨_,rfl⟩
  rw[<-hTd,<- hM];have hTl:T.length<=192:=by grind
  have:=eo (B:=λself v=>bY.B2 k self (λz=>bY.Q2 k (ps,()) ((cv ps).flatMap jw) T M (T.length:Int) z) (ps,()) ((cv ps).flatMap jw) T M (T.length:Int) v) T (λ(_:Unit) (i:Int)=>i) (λi _ y=>if (ko Ej M [y.2.2.2.2.1,y.2.2.2.2.2.1]).isSome then .inr () else .inl (some (([]:List Seen),(4:Int),()))) (λ_=>bY.Q2 k (ps,()) ((cv ps).flatMap jw) T M (T.length:Int) ()) (λ_ _=>True) (by rw[ao];omega)
   (λi hi s self _=>by
    grind [bY.b2,Int.toNat_natCast,J3,List.length_replicate])
   (λ_ _ _ _ _ _=>trivial) (λs self _=>by
    grind [bY.b2]) () trivial k Bys
  rw[uS (λy:Seen=>(ko Ej M [y.2.2.2.2.1,y.2.2.2.2.2.1]).isSome) (some (([]:List Seen),(4:Int),())) (λ_=>bY.Q2 k (ps,()) ((cv ps).flatMap jw) T M (T.length:Int) ())] at this;refine aQ this ?_
  have hb:T.all (λy:Seen=>(ko Ej M [y.2.2.2.2.1,y.2.2.2.2.2.1]).isSome)=(cv ps).all (uE ps):=by
   have pH:∀ x ∈ cv ps,gj x=1->(ko Ej M [uC x,uD x]).isSome=uE ps x:=λx hx hf=>by
    grind [Ad,T5,uE]
   grind [gi,uE]
  rw[hb]
 rw[l2w];unfold aa5 FK;by_cases da:(cv ps).all (uE ps)=true;rotate_left
 ·grind
 simp only[da,aK];show bY.q2 _ _ _ _ _ _ _=_;unfold bY.q2
 have l3w:bY.r3 k (ps,()) ((cv ps).flatMap jw) ((cv ps).flatMap gi) ((cv ps).flatMap mP) (((cv ps).flatMap gi).length:Int) ((cv ps).flatMap gi) ((cv ps).flatMap mP) (((cv ps).flatMap gi).length:Int) ((cv ps).flatMap jw,([]:List (List Int×Bool)),(0:Int))=if ((cv ps).filterMap FJ).Nodup then bY.Q3 k (ps,()) ((cv ps).flatMap gi) ((cv ps).flatMap mP) (((cv ps).flatMap gi).length:Int) (Iv ps) else some (([]:List Seen),(6:Int),()):=by
  have OR:=Z_ (cv ps);unfold Iv
  obtain ⟨T,hTd⟩:∃ T,T=(cv ps).flatMap gi:=⟨_,rfl⟩
  obtain ⟨M,hM⟩:∃ M,M=(cv ps).flatMap mP:=⟨_,rfl⟩
  obtain ⟨L,hL⟩:∃ L,L=(cv ps).flatMap jw:=⟨_,rfl⟩
  have ae_:∀ y:Seen,Ae ps y=(C3 (ko Ej M [y.2.2.2.2.1,y.2.2.2.2.2.1]) CH,y.2):=λy=>by grind [Ae]
  rw[<-hTd,<- hM,<- hL];rw[<-hTd] at OR;have hTl:T.length<=192:=by grind
  have hLl:L.length<=192:=by rw[hL];omega
  have:=eo (B:=λself v=>bY.B3 k self (λz=>bY.Q3 k (ps,()) T M (T.length:Int) z) (ps,()) T M (T.length:Int) v) T (λ(_:Unit) (i:Int)=>(L++(T.take i.toNat).map (Ae ps),(T.take i.toNat).map OQ,i)) (λi _ y=>if (T.take i).any (λz=>decide (y.2.2.2.2.1=z.2.2.2.2.1)&&decide (y.2.2.2.2.2.1=z.2.2.2.2.2.1)) then .inl (some (([]:List Seen),(6:Int),())) else .inr ()) (λ_=>bY.Q3 k (ps,()) T M (T.length:Int) (L++T.map (Ae ps))) (λ_ _=>True) (by rw[ao];omega)
   (λi hi s self _=>by
    show bY.b3 _ _ _ _ _ _ _=_;unfold bY.b3;have a7:(i:Int) < (T.length:Int):=by omega
    have pL:∀ y:Seen,(L++(T.take i).map (Ae ps)).length+[y].length<=cg:=λy=>c9 (by grind);have hw:(af ((i:Int)+1)).toNat=i+1:=by grind [bi]
    have rt:T.take (i+1)=T.take i++[T[i]]:=gC hi;simp only[a7,aO,aS,aN,cM,aK,aC,aB hi,aA,J3,cY,bQ,show (0:Nat) < 2 by omega,show (1:Nat) < 2 by omega,QJ,pL,hw,rt,fH,dX,iQ];have htg:=QJ (T.take i) (T[i]).2.2.2.2.1 (T[i]).2.2.2.2.2.1
    grind [OQ,Hs,Ek])
   (λ_ _ _ _ _ _=>trivial) (λs self _=>by
    grind [bY.b3,List.take_length]) () trivial k Bys
  rw[Yi OP (some (([]:List Seen),(6:Int),())) (λ_=>bY.Q3 k (ps,()) T M (T.length:Int) (L++T.map (Ae ps))) (λy z=>decide (y.2.2.2.2.1=z.2.2.2.2.1)&&decide (y.2.2.2.2.2.1=z.2.2.2.2.2.1)) (λy z=>?_) T,OR] at this
  ·simp only[Int.toNat_zero,jA,iQ,cV] at this;exact this
  ·unfold OP;simp only[aD,bA];constructor
   all_goals grind
 rw[l3w];by_cases rt:((cv ps).filterMap FJ).Nodup;rotate_left
 ·grind
 simp only[rt,aK];show bY.q3 _ _ _ _ _ _=_;unfold bY.q3;have aa6:=VU h da
 have S_:(Iv ps).length<=192:=by
  have:=aa6.length_eq;rw[iX] at this;have:=FL h.1;omega
 obtain ⟨r,xv,wm,hr3⟩:=Z8 (Iv ps) Bys;rw[xv];simp only[aA];have xk:r.length<=192:=by have:=wm.length_eq;omega
 have hrp:=wm.trans aa6
 have hkn:(r.map λx=>rk x.1).Nodup↔((jZ ps).map λx=>rk (jW x)).Nodup:=by
  have h1:(r.map λx=>rk x.1).Perm (((jZ ps).map qz).map λx=>rk x.1):=hrp.map _;rw[h1.nodup_iff,List.map_map];exact iG
 refine (Z9 ps k hk r xk).trans ?_;by_cases ut:((jZ ps).map λx=>rk (jW x)).Nodup
 all_goals grind [Yp,QH,T8,Yn,Yo]
theorem DV (ps:bk) (hp:∀ p ∈ ps,p.length<=maxLen):en.ab (ps,())=some (ze ps,gx ps,()):=by
 refine ag (k:=300) λk hk=>(en.ae k _).trans ?_;unfold en.p ze gx;by_cases hl:12 < ps.length
 ·grind
 have Ge:¬ ((12:Int) < (ps.length:Int)):=by omega
 simp only[Ge,aI,aF,hl,aR]
 have inner:∀ (self:(bk×bk×Int×Int)->Option en.O) (e0:bk->Option en.O) (i:Nat) (hi:i < ps.length),gn ps[i]->en.r1 k self e0 (ps,()) ps ps[i] ps (ps.length:Int) (i:Int) (pn ps[i]:Int) (0:Int)=if (List.range (pn ps[i])).all (Ei ps[i]) then self (ps,ps,(ps.length:Int),af ((i:Int)+1)) else some (([]:List Seen),(5:Int),()):=λself e0 i hi bd=>by
  have hn:=bd.n;have hlen:=bd.len
  have:=qb (B:=λju v=>en.b1 ju (λz=>en.q0 self e0 (ps,()) ps ps[i] ps (ps.length:Int) (i:Int) (pn ps[i]:Int) z) (ps,()) ps ps[i] ps (ps.length:Int) (i:Int) (pn ps[i]:Int) v) (pn ps[i]) (λ(_:Unit) (j:Int)=>j) (λj _=>if Ei ps[i] j then .inr () else .inl (some (([]:List Seen),(5:Int),()))) (λ_=>self (ps,ps,(ps.length:Int),af ((i:Int)+1))) (λ_ _=>True) Bys
   (λj hj s ju hI=>by
    show en.b1 _ _ _ _ _ _ _ _ _ _=_;unfold en.b1 Ei;have a7:(j:Int) < (pn ps[i]:Int):=by omega
    simp only[a7,aO,aS,zd bd,hj,eJ,aA];by_cases hz:bh ps[i] j=0
    ·grind
    ·simp only[hz,aI,cI,aS,A6 bd hj,Gn _ (bI (Ac bd hj) Bys),aA,dP]
     grind [FM])
   (λ_ _ _ _ _ _=>trivial) (λs ju hI=>by
    show en.b1 _ _ _ _ _ _ _ _ _ _=_;unfold en.b1;simp only[aV,aI,aF]
    rfl) () trivial k Bys
  rw[I8] at this;exact this
 have outer:en.r0 k (ps,()) (ps,ps,(ps.length:Int),(0:Int))=if oO CL ps=0 then en.q1 (ps,()) ps else some (([]:List Seen),oO CL ps,()):=by
  have:=eo (B:=λself v=>en.B0 k self (λz=>en.q1 (ps,()) z) (ps,()) v) ps (λ(_:Unit) (i:Int)=>(ps,ps,(ps.length:Int),i)) (λi _ p=>if CL p=0 then .inr () else .inl (some (([]:List Seen),CL p,()))) (λ_=>en.q1 (ps,()) ps) (λ_ _=>True) (by rw[ao];omega)
   (λi hi s self hI=>by
    show en.b0 _ _ _ _ _=_;unfold en.b0 CL;have a7:(i:Int) < (ps.length:Int):=by omega
    simp only[a7,aO,aS,aN,aK,aC,aB hi,aA,Ab _ (hp _ (aJ hi))];by_cases h0:Dr ps[i]=0
    ·have bd:=wJ.1 h0;rw[aY h0];simp only[aU,aF,uM bd.len,aA,inner self _ i hi bd,h0,aK];grind
    grind)
   (λ_ _ _ _ _ _=>trivial) (λs self _=>by
    show en.b0 _ _ _ _ _=_
    grind [en.b0]) () trivial k Bys
  rw[E3 CL (λc=>some (([]:List Seen),c,())) (λ_=>en.q1 (ps,()) ps)] at this;exact this
 rw[outer];by_cases hc:oO CL ps=0
 ·simp only[hc,aK];show en.q1 _ _=_;unfold en.q1;rw[Sl ps (QG Bys hc)];rfl
 grind
end OT
namespace OT
open Go
structure xf (ps:bk):Prop where
 right:mO ps
 cells:BH ps
 aa7:(cv ps).all (uE ps)=true
 aeT:((cv ps).filterMap FJ).Nodup
 keys:((jZ ps).map λx=>rk (jW x)).Nodup
 list:ze ps=FN ((jZ ps).map qz)
theorem qJ {ps:bk} (h:gx ps=0):xf ps:=by
 obtain ⟨h1,h2,h3⟩:=Bv h;have hc:=QG h1.1 h2;unfold FK at h3;split at h3
 ·rename_i a1;split at h3
  ·rename_i a2;split at h3
   ·rename_i a3;exact ⟨h1,hc,a1,a2,a3,by unfold ze;rw[aG h]⟩
   ·cases h3
  ·cases h3
 ·cases h3
theorem LC {ps:bk} (h:xf ps):(ze ps).Perm ((jZ ps).map qz):=by rw[h.list];exact LB _
theorem Dt {ps:bk} (h:xf ps):(ze ps).length<=192:=by
 have:=(LC h).length_eq;rw[iX] at this;have:=FL h.right;omega
def ba (ps:bk):List Row:=(ze ps).map (·.1)
theorem zM {ps:bk} (h:xf ps):ba ps=Lx ((jZ ps).map jW):=by
 unfold ba;rw[h.list,NK,List.map_map];rfl
theorem xU {ps:bk} (h:xf ps):up (ba ps):=by
 rw[zM h];refine QB ?_;rw[List.map_map];exact h.keys
theorem DW (l:List Seen) (hl:l.length<=1000):kT.ab (l,())=some (l.map (·.1),()):=by
 refine ag (k:=1100) λq hq=>(kT.ae q _).trans ?_
 have:=c8 (B:=λself v=>kT.b0 self (λz=>kT.q0 (l,()) z) (l,()) v) l (λ(s:List Row) (i:Int)=>(s,i)) (λ_ s x=>.inr (s++[x.1])) (λs=>(s,())) (λi s=>s.length=i) (by rw[ao];omega)
  (λi hi s self hs=>by
   show kT.b0 _ _ _ _=_;unfold kT.b0;have a7:(i:Int) < (l.length:Int):=by omega
   rw[aY a7,aS,aG (aN i)];simp only[aC,aB hi,aA]
   rw[aG (c9 (by simp only[aZ,bR];omega))])
  (λi hi s s' hs hf=>by injection hf with hf;subst hf;simp[hs]) (λs self _=>by
   show kT.b0 _ _ _ _=_;unfold kT.b0;rw[bD (aV _),aF]
   rfl) [] rfl q Bys
 rw[ic (g:=λ(s:List Row) (x:Seen)=>s++[x.1])] at this;refine this.trans ?_
 have hm:∀ (xs:List Seen) (s:List Row),xs.foldl (λs x=>s++[x.1]) s=s++xs.map (·.1):=by
  intro xs
  induction xs with
  | nil=>intro s;simp
  | cons x xs ih=>intro s;rw[eD,ih];simp
 rw[hm,cK]
theorem Oo {ps:bk} (h:gx ps=0):lh.ab (ps,())=some (ba ps,()):=by
 have hr:=Bv h;have hl:=FL hr.1;refine ag (k:=300) λk hk=>(lh.ae k _).trans ?_;unfold lh.p;rw[I_ ps hr.1];simp only[aA]
 have:=c8 (B:=λself v=>lh.b0 self (λz=>lh.q0 (ps,()) (jZ ps) z) (ps,()) (jZ ps) v) (jZ ps) (λ(s:List Row) (i:Int)=>(s,i)) (λ_ s x=>.inr (vh s (jW x))) (λs=>(s,())) (λi s=>s.length<=i) (by rw[ao];omega)
  (λi hi s self hs=>by
   show lh.b0 _ _ _ _ _=_;unfold lh.b0;have a7:(i:Int) < ((jZ ps).length:Int):=by omega
   rw[aY a7,aS,aG ⟨aN i,a7⟩];simp only[aC,aB hi,aA];rw[VT _ _ Bys]
   rfl)
  (λi hi s s' hs hf=>by
   injection hf with hf;subst hf;unfold vh;simp only[bK,cO,bU,aZ,bR]
   omega) (λs self _=>by
   show lh.b0 _ _ _ _ _=_;unfold lh.b0;rw[bD (aV _),aF]
   rfl) [] (aH 0) k Bys
 rw[ic (g:=λ(s:List Row) (x:bc)=>vh s (jW x))] at this;refine this.trans ?_;rw[zM (qJ h)];unfold Lx;rw[List.foldl_map]
end OT
namespace OT
open Go
theorem QL {p:List UInt8} {i n:Nat} (h:pb p i=n) (hn:n < 256):p.set i (UInt8.ofNat n)=p:=by
 grind [CE,List.length_set,uB,ofNat_toNat]
theorem vk (n:Nat):UInt8.ofInt ((n:Nat):Int)=UInt8.ofNat n:=by
 refine fT.1 ?_;grind [UInt8.toNat_ofNat',UInt8.ofInt]
theorem FQ {O:Type} (p:List UInt8) (g:Nat->O):∀ (m a i:Nat),bt (λ_ (_:Unit) (x:Nat)=>if bh p x=0 then .inl (g x) else .inr ()) (λ_=>g (a+m)) i (List.range' a m) ()=g (wK p m a)
 | 0,a,i=>rfl
 | m+1,a,i=>by
  rw[iJ];simp only[bt,wK];by_cases h:bh p a=0
  ·grind
  ·simp only[h,aR];have:=FQ p g m (a+1) (i+1);grind
theorem Ht (p:List UInt8) (b:Int):∀ n,(List.range n).foldl (λs x=>s - (bh p x:Int)) b=b - (nf p n:Int)
 | 0=>by simp[nf]
 | n+1=>by rw[gP,iH,Ht p b n];grind [nf]
theorem MO (p:List UInt8):∀ n,nf p n<=256*n
 | 0=>by simp[nf]
 | n+1=>by have:=MO p n;grind [oX,nf,bh]
section
variable {p:List UInt8} (hp:gn p)
include hp
theorem QM:kL.ab (p,())=some ((fm p:Int),()):=by
 have hn:=hp.n;refine ag (k:=100) λk hk=>(kL.ae k _).trans ?_
 have:=qb (B:=λself v=>kL.b0 self (λz=>kL.q0 (p,()) z) (p,()) v) (pn p) (λ(_:Unit) (i:Int)=>i) (λx _=>if bh p x=0 then .inl (some ((x:Int),())) else .inr ()) (λ_=>some ((pn p:Int),())) (λ_ _=>True) Bys
  (λi hi s self _=>by
   show kL.b0 _ _ _ _=_;unfold kL.b0;have a7:(i:Int) < (pn p:Int):=by omega
   simp only[qv hp.len,aA,a7,aO,aS,wL hp.len (show i < 16 by omega)]
   grind)
  (λ_ _ _ _ _ _=>trivial) (λs self _=>by
   show kL.b0 _ _ _ _=_;unfold kL.b0;simp only[qv hp.len,aA,aV,aI,aF];show kL.q0 _ _=_;unfold kL.q0
   simp only[qv hp.len,aA]) () trivial k Bys
 refine this.trans ?_;rw[fP];have h2:=FQ p (λn=>(some ((n:Int),()):Option kL.O)) (pn p) 0 0;simp only[bZ] at h2;exact h2
theorem Ja:kX.ab (p,())=some (sM p,()):=by
 have hn:=hp.n;have hw:af ((62:Int) - af ((2:Int)*(pn p:Int)))=62 - 2*(pn p:Int):=by grind [bi]
 refine ag (k:=100) λk hk=>(kX.ae k _).trans ?_;unfold kX.p;simp only[qv hp.len,aA,hw]
 have:=qb (B:=λself v=>kX.b0 self (λz=>kX.q0 (p,()) z) (p,()) v) (pn p) (λ(s:Int) (i:Int)=>(s,i)) (λx s=>.inr (s - (bh p x:Int))) (λs=>some (s,())) (λi s=>s=62 - 2*(pn p:Int) - (nf p i:Int)) Bys
  (λi hi s self hs=>by
   show kX.b0 _ _ _ _=_;unfold kX.b0;have a7:(i:Int) < (pn p:Int):=by omega
   have h1:=oX p (3+2*i);have h2:=MO p i;have h3:bh p i < 256:=h1;simp only[qv hp.len,aA,a7,aO,aS,wL hp.len (show i < 16 by omega)]
   grind [bi])
  (λi hi s s' hs hf=>by grind [nf]) (λs self _=>by
   show kX.b0 _ _ _ _=_;unfold kX.b0;simp only[qv hp.len,aA,aV,aI,aF]
   rfl) (62 - 2*(pn p:Int)) (by simp[nf]) k Bys
 rw[ic (g:=λs x=>s - (bh p x:Int)),Ht] at this;exact this
theorem Jb:k_.ab (p,())=some (sM p,()):=by
 have hn:=hp.n;have hw:af ((62:Int) - af ((2:Int)*(pn p:Int)))=62 - 2*(pn p:Int):=by grind [bi]
 refine ag (k:=100) λk hk=>(k_.ae k _).trans ?_;unfold k_.p;simp only[uM hp.len,aA,hw]
 have:=qb (B:=λself v=>k_.b0 self (λz=>k_.q0 (p,()) (pn p:Int) z) (p,()) (pn p:Int) v) (pn p) (λ(s:Int) (i:Int)=>(s,i)) (λx s=>.inr (s - (bh p x:Int))) (λs=>some (s,())) (λi s=>s=62 - 2*(pn p:Int) - (nf p i:Int)) Bys
  (λi hi s self hs=>by
   show k_.b0 _ _ _ _ _=_;unfold k_.b0;have a7:(i:Int) < (pn p:Int):=by omega
   have h1:=oX p (3+2*i);have h2:=MO p i;have h3:bh p i < 256:=h1;simp only[aA,a7,aO,aS,CG hp.len (show i < 16 by omega)]
   grind [bi])
  (λi hi s s' hs hf=>by grind [nf]) (λs self _=>by
   show k_.b0 _ _ _ _ _=_;unfold k_.b0;simp only[aA,aV,aI,aF]
   rfl) (62 - 2*(pn p:Int)) (by simp[nf]) k Bys
 rw[ic (g:=λs x=>s - (bh p x:Int)),Ht] at this;exact this
end
theorem zf {p c:List UInt8} {s a:Nat} (hp:p.length=64) (hs:s < 16) (h:a+c.length<=64):ke.ab (p,(s:Int),(a:Int),c,())=some (ma p s a c,()):=by
 refine ag (k:=0) λk _=>(ke.ae k _).trans ?_;show ke.p _=_;unfold ke.p ma;have h1:(0:Int)<=(a:Int)/\(a:Int)<=(p.length:Int):=by omega
 have hm:min c.length (p.length - a)=c.length:=by omega
 have hl:(oM p a c.length c).length=64:=by grind [sb]
 grind [Gm,NE,vk]
theorem CM {p c:List UInt8} {s a:Nat} (hp:p.length=64) (hs:s < 16) (h:a+c.length<=64):oz.ab (p,(s:Int),(a:Int),c,())=some (ma p s a c,()):=by
 refine ag (k:=0) λk _=>(oz.ae k _).trans ?_;show oz.p _=_;unfold oz.p ma;have h1:(0:Int)<=(a:Int)/\(a:Int)<=(p.length:Int):=by omega
 have hm:min c.length (p.length - a)=c.length:=by omega
 have hl:(oM p a c.length c).length=64:=by grind [sb]
 grind [mg,Int.toNat_natCast,Gm,NE,vk]
section
variable {p:List UInt8} (hp:gn p) (c:List UInt8) (jX:1<=c.length) (hc:c.length<=20)
include hp jX hc
theorem QN:∀ m:Nat,u_ p=m->m<=1->¬ (fm p=pn p/\16<=pn p)->fm p < 16->∀ (d:Int),d=2*(m:Int)->∀ (e:Int),e=((pn p+m:Nat):Int) ->
   (bif decide (sM p < af ((c.length:Int)+d)) then (some (([]:List UInt8),(0:Int),(9:Int),()):Option ox.O) else
    bif decide (af ((ep p:Int) - (c.length:Int)) < af ((2:Int)+af ((2:Int)*e))) then some (([]:List UInt8),(0:Int),(8:Int),()) else
     if 0<=(0:Int)/\(0:Int) < (p.length:Int) then ((p[0]?).bind λx18=>if 0<=(1:Int)/\(1:Int) < ((p.set 0 (UInt8.ofInt e)).length:Int) then (((p.set 0 (UInt8.ofInt e))[1]?).bind λXN=>(ke.ab ((p.set 0 (UInt8.ofInt e)).set 1 (UInt8.ofInt (af ((ep p:Int) - (c.length:Int)))),(fm p:Int),af ((ep p:Int) - (c.length:Int)),c,())).bind λI0=>some (I0.1,(fm p:Int),(0:Int),())) else none) else none) =
    some (if mw p c=0 then rN p c else [],if mw p c=0 then (fm p:Int) else 0,mw p c,()):=by
 intro m hm D7 rQ he d hd e hee;have hn:=hp.n;have yd:=hp.lo;have IM:=hp.hi;obtain ⟨e1,e2,e3⟩:=vR p;obtain ⟨f1,f2⟩:=Eg hp;subst hd;subst hee;unfold mw;rw[aL rQ,hm];have w1:af ((c.length:Int)+2*(m:Int))=(c.length:Int)+2*(m:Int):=bi Bys;rw[w1];by_cases c1:sM p < (c.length:Int)+2*(m:Int)
 ·grind
 have w2:af ((ep p:Int) - (c.length:Int))=(ep p:Int) - (c.length:Int):=bi Bys;have w3:af ((2:Int)+af ((2:Int)*((pn p+m:Nat):Int)))=((2+2*(pn p+m):Nat):Int):=Gm Bys;simp only[c1,aI,aF,aR,w2,w3];by_cases c2:ep p < 2+2*(pn p+m)+c.length
 ·grind
 have n2:¬ ((ep p:Int) - (c.length:Int) < ((2+2*(pn p+m):Nat):Int)):=by omega
 have hl:=hp.len;have g1:(0:Int)<=0/\(0:Int) < (p.length:Int):=by omega
 have g2:(0:Int)<=1/\(1:Int) < (p.length:Int):=by omega
 have w4:(ep p:Int) - (c.length:Int)=((ep p - c.length:Nat):Int):=by omega
 have n4:¬ (((ep p - c.length:Nat):Int) < ((2+2*(pn p+m):Nat):Int)):=by omega
 simp only[c2,n4,aI,aF,aR,g1,g2,cM,aK,bQ,w4,vk];rw[fq Bys,fq (by grind)];rw[zf (by grind) he Bys];simp only[aA]
 have:ma ((p.set 0 (UInt8.ofNat (pn p+m))).set 1 (UInt8.ofNat (ep p - c.length))) (fm p) (ep p - c.length) c=rN p c:=by
  unfold rN;rw[hm];have Bc:(ma p (fm p) (ep p - c.length) c).length=64:=rq hl _ Bys;refine CE ?_ λj hj=>?_
  all_goals grind [rq,zH,uB]
 rw[this]
theorem MP:ox.ab (p,c,())=some (if mw p c=0 then rN p c else [],if mw p c=0 then (fm p:Int) else 0,mw p c,()):=by
 have hn:=hp.n;have yd:=hp.lo;have IM:=hp.hi;obtain ⟨e1,e2,e3⟩:=vR p;refine ag (k:=0) λk _=>(ox.ae k _).trans ?_;show ox.p _=_;unfold ox.p;obtain ⟨f1,f2⟩:=Eg hp;simp only[QM hp,qv hp.len,Ja hp,TS hp.len,oT p (by have:=hp.len;omega),aA];by_cases he:fm p=pn p
 ·have KU:(fm p:Int)=(pn p:Int):=by omega
  rw[aY KU,aS];by_cases Yq:16<=pn p
  ·grind [mw]
  ·have aaa:¬ (16:Int)<=(pn p:Int):=by omega
   simp only[aaa,aI,aF];have hw:af ((pn p:Int)+1)=((pn p+1:Nat):Int):=by grind [bi]
   have:=QN hp c jX hc 1 (by grind [u_]) Bys (λh=>Yq h.2) Bys 2 Bys (af ((pn p:Int)+1)) hw;exact this
 ·have KU:¬ ((fm p:Int)=(pn p:Int)):=by omega
  simp only[KU,aI,aF];exact QN hp c jX hc 0 (by grind [u_]) Bys (λh=>he h.1) Bys 0 Bys (pn p:Int) Bys
end
end OT
namespace OT
open Go
section
variable {p:List UInt8} (hp:gn p) (c:List UInt8) (jX:1<=c.length) (hc:c.length<=20)
include hp jX hc
theorem Hu:mn.ab (p,c,())=some ((0:Int),()):=by
 refine ag (k:=0) λk _=>(mn.ae k _).trans ?_;show mn.p _=_;unfold mn.p;rw[Ab p (by rw[hp.len,ao];omega),wJ.2 hp];grind
theorem FR:h_.ab (p,c,())=some ((mw p c,if mw p c=0 then (fm p:Int) else 0,if mw p c=0 then rN p c else [],()),()):=by
 have hn:=hp.n;have yd:=hp.lo;have IM:=hp.hi;have hl:=hp.len;obtain ⟨e1,e2,e3⟩:=vR p;obtain ⟨f1,f2⟩:=Eg hp;refine ag (k:=100) λk hk=>(h_.ae k _).trans ?_;unfold h_.p;simp only[Hu hp c jX hc,uM hp.len,aA,aO,aU,aF]
 have:=qb (B:=λself v=>h_.b0 self (λz=>h_.q0 (p,c,()) (pn p:Int) z) (p,c,()) (pn p:Int) v) (pn p) (λ(_:Unit) (i:Int)=>i) (λx _=>if bh p x=0 then .inl (h_.q0 (p,c,()) (pn p:Int) (x:Int)) else .inr ()) (λ_=>h_.q0 (p,c,()) (pn p:Int) (pn p:Int)) (λ_ _=>True) Bys
  (λi hi s self _=>by
   show h_.b0 _ _ _ _ _=_;unfold h_.b0;have a7:(i:Int) < (pn p:Int):=by omega
   simp only[a7,aO,aS,NE (show i < 1000 by omega),aN,aK,aC,fq (show 3+2*i < p.length by omega),(jO (show 3+2*i < p.length by omega)).2]
   grind [bh])
  (λ_ _ _ _ _ _=>trivial) (λs self _=>by
   grind [h_.b0]) () trivial k Bys
 refine this.trans ?_;rw[fP];have h2:=FQ p (λn=>h_.q0 (p,c,()) (pn p:Int) (n:Int)) (pn p) 0 0;simp only[bZ] at h2;refine h2.trans ?_;show h_.q0 _ _ (fm p:Int)=_;unfold h_.q0;simp only[Jb hp,aA,fq (show 1 < p.length by omega),(jO (show 1 < p.length by omega)).2,Ds];show (bif decide ((fm p:Int)=(pn p:Int)) then _ else _)=_
 have key:∀ m:Nat,u_ p=m->m<=1->¬ (fm p=pn p/\16<=pn p)->fm p < 16->∀ (d:Int),d=2*(m:Int) ->
   (bif decide (sM p < af ((c.length:Int)+d)) then (some (((9:Int),(0:Int),([]:List UInt8),()),()):Option h_.O) else
    bif decide (af ((ep p:Int) - (af ((af ((2:Int)+(af ((2:Int)*(pn p:Int)))))+d))) < (c.length:Int)) then some (((8:Int),(0:Int),([]:List UInt8),()),()) else
     (oz.ab (p,(fm p:Int),af ((ep p:Int) - (c.length:Int)),c,())).bind λyS=>if 0<=(0:Int)/\(0:Int) < (yS.1.length:Int) then ((yS.1[0]?).bind λFf=>let Cz:=yS.1.set 0 (UInt8.ofInt (af ((pn p:Int)+(af (d.tdiv (2:Int))))));if 0<=(1:Int)/\(1:Int) < (Cz.length:Int) then ((Cz[1]?).bind λaeH=>let ZK:=Cz.set 1 (UInt8.ofInt (af ((ep p:Int) - (c.length:Int))));some (((0:Int),(fm p:Int),ZK,()),())) else none) else none) =
    some ((mw p c,if mw p c=0 then (fm p:Int) else 0,if mw p c=0 then rN p c else [],()),()):=by
  intro m hm D7 rQ he d hd;subst hd;unfold mw;rw[aL rQ,hm];have w1:af ((c.length:Int)+2*(m:Int))=(c.length:Int)+2*(m:Int):=bi Bys;rw[w1];by_cases c1:sM p < (c.length:Int)+2*(m:Int)
  ·grind
  have w2:af ((ep p:Int) - (c.length:Int))=(ep p:Int) - (c.length:Int):=bi Bys
  have w3:af ((ep p:Int) - (af ((af ((2:Int)+af ((2:Int)*(pn p:Int))))+2*(m:Int))))=(ep p:Int) - ((2+2*(pn p+m):Nat):Int):=by
   grind [bi]
  have w5:af ((pn p:Int)+af ((2*(m:Int)).tdiv 2))=((pn p+m:Nat):Int):=by
   grind [bi]
  simp only[c1,aI,aF,aR,w2,w3,w5];grind [rq,CM,vk,rN]
 by_cases he:fm p=pn p
 ·have KU:(fm p:Int)=(pn p:Int):=by omega
  rw[aY KU,aS];by_cases Yq:pn p=16
  ·grind [mw]
  ·have aaa:¬ (pn p:Int)=16:=by omega
   rw[bD aaa,aF];have:=key 1 (by grind [u_]) Bys (λh=>Yq Bys) Bys 2 Bys;exact this
 ·have KU:¬ ((fm p:Int)=(pn p:Int)):=by omega
  simp only[KU,aI,aF];exact key 0 (by grind [u_]) Bys (λh=>he h.1) Bys 0 Bys
variable {s:Nat} (hs:s < pn p) (hz:bh p s≠0)
include hs hz
theorem LD:rW.ab (p,(s:Int),c,())=some (if rr p s c=0 then zJ p s c else [],rr p s c,()):=by
 have hn:=hp.n;have yd:=hp.lo;have IM:=hp.hi;have hl:=hp.len;obtain ⟨f1,f2⟩:=Eg hp;obtain ⟨s1,s2⟩:=hp.slot s hs hz;refine ag (k:=0) λk _=>(rW.ae k _).trans ?_;show rW.p _=_;unfold rW.p rr zJ;simp only[wL hl (show s < 16 by omega),oT p Bys,NF hl (show s < 16 by omega),Ja hp,TS hl,qv hl,aA];by_cases c1:c.length<=bh p s
 ·grind [bi,zf]
 have c1':¬ (c.length:Int)<=(bh p s:Int):=by omega
 have w2:af (sM p+(bh p s:Int))=sM p+(bh p s:Int):=bi Bys;simp only[c1,c1',aI,aF,aR,w2];by_cases c2:sM p+(bh p s:Int) < (c.length:Int)
 ·grind
 have w3:af ((ep p:Int) - (c.length:Int))=(ep p:Int) - (c.length:Int):=bi Bys;simp only[c2,aI,aF,aR,w3,Gm (show pn p < 1000 by omega)];by_cases c3:ep p < 2+2*pn p+c.length
 ·grind
 have n3:¬ ((ep p:Int) - (c.length:Int) < ((2+2*pn p:Nat):Int)):=by omega
 have w4:(ep p:Int) - (c.length:Int)=((ep p - c.length:Nat):Int):=by omega
 have n4:¬ (((ep p - c.length:Nat):Int) < ((2+2*pn p:Nat):Int)):=by omega
 have g2:(0:Int)<=1/\(1:Int) < (p.length:Int):=by omega
 simp only[c3,n4,aI,aF,aR,w4,g2,cM,aK,vk];rw[fq Bys,zf (by grind) Bys Bys];simp only[aA]
 have:ma (p.set 1 (UInt8.ofNat (ep p - c.length))) s (ep p - c.length) c=(ma p s (ep p - c.length) c).set 1 (UInt8.ofNat (ep p - c.length)):=by
  have Bc:(ma p s (ep p - c.length) c).length=64:=rq hl _ Bys;refine CE ?_ λj hj=>?_
  all_goals grind [rq,zH,uB]
 rw[this]
theorem LE:p_.ab (p,(s:Int),c,())=some ((rr p s c,if rr p s c=0 then (s:Int) else 0,if rr p s c=0 then zJ p s c else [],()),()):=by
 have hn:=hp.n;have yd:=hp.lo;have IM:=hp.hi;have hl:=hp.len;obtain ⟨f1,f2⟩:=Eg hp;obtain ⟨s1,s2⟩:=hp.slot s hs hz;refine ag (k:=0) λk _=>(p_.ae k _).trans ?_;show p_.p _=_;unfold p_.p rr zJ;have xn:(decide (s < pn p)&&!decide (bh p s=0))=true:=by simp[hs,hz]
 simp only[Hu hp c jX hc,zd hp s,xn,CG hl (show s < 16 by omega),Jb hp,uM hl,aA,aO,aU,aF,fq (show 1 < p.length by omega),(jO (show 1 < p.length by omega)).2,Ds];by_cases c1:c.length<=bh p s
 ·grind [bi,CM]
 have c1':¬ (c.length:Int)<=(bh p s:Int):=by omega
 have w2:af (sM p+(bh p s:Int))=sM p+(bh p s:Int):=bi Bys;simp only[c1,c1',aI,aF,aR,w2];by_cases c2:sM p+(bh p s:Int) < (c.length:Int)
 ·grind
 have e1:pb p 1=ep p:=rfl;grind [bi,rq,CM,vk]
end
def Bw (v:List UInt8):List UInt8:=v.set 0 (UInt8.ofNat (va v (pn v)))
theorem LF {v w:List UInt8} (h:∀ i,bh v i=bh w i):∀ m,va v m=va w m
 | 0=>rfl
 | m+1=>by simp only[va,h,LF h m]
theorem NM {v:List UInt8} (hl:v.length=64) (h0:0 < pn v) (hz:bh v (pn v - 1)=0):Bw (v.set 0 (UInt8.ofNat (pn v - 1)))=Bw v/\pn (v.set 0 (UInt8.ofNat (pn v - 1)))=pn v - 1:=by
 have a7:pn v < 256:=oX v 0
 have I6:pn (v.set 0 (UInt8.ofNat (pn v - 1)))=pn v - 1:=by
  show pb _ 0=_;grind [uB,ofNat_toNat]
 refine ⟨?_,I6⟩
 have hs:∀ i,bh (v.set 0 (UInt8.ofNat (pn v - 1))) i=bh v i:=λi=>by
  show pb _ _=pb _ _;grind [uB]
 unfold Bw;rw[I6,LF hs,gZ]
 obtain ⟨n,hn⟩:∃ n,pn v=n+1:=⟨pn v - 1,by omega⟩
 grind [va]
theorem Du {v:List UInt8} (h:pn v=0\/bh v (pn v - 1)≠0):Bw v=v:=by
 grind [Bw,QL,pn,Fx,oX]
theorem T9 {v:List UInt8} (hl:v.length=64) (h0:0 < pn v):UInt8.ofInt ((((v[0]'Bys).toNat:Nat):Int) - 1)=UInt8.ofNat (pn v - 1):=by
 have h1:(v[0]'Bys).toNat=pn v:=(jO (show 0 < v.length by omega)).2;grind [vk]
section
variable {p:List UInt8} (hp:gn p) {s:Nat} (hs:s < pn p)
include hp hs
theorem NN:(tE p s).length=64:=by unfold tE;rw[bQ,bQ,hp.len]
theorem J5:pn (tE p s)=pn p:=by
 show pb _ 0=pb _ 0;grind [tE,uB]
theorem LG:r_ p s=Bw (tE p s):=by grind [r_,Bw,J5]
theorem Sm:pC.ab (p,(s:Int),())=some (r_ p s,()):=by
 have hn:=hp.n;have hl:=hp.len;refine ag (k:=100) λk hk=>(pC.ae k _).trans ?_;unfold pC.p;have i2:(0:Int)<=((2+2*s:Nat):Int)/\((2+2*s:Nat):Int) < (p.length:Int):=by omega
 have i3:(0:Int)<=((3+2*s:Nat):Int)/\((3+2*s:Nat):Int) < (p.length:Int):=by omega
 simp only[oT p Bys,aA,Gm (show s < 1000 by omega),NE (show s < 1000 by omega),i2,i3,cM,aK,aC,bQ];rw[fq Bys,fq (by grind),LG hp hs];have hd:=J5 hp hs;refine tm (λv=>(Bw v,())) (λv=>v.length=64/\pn v<=16) pn (λv ⟨hv,hvn⟩ self=>?_) k (tE p s) ⟨NN hp hs,by omega⟩ Bys;show pC.b0 _ _ _ _=_\/∃ v',pC.b0 _ _ _ _=_/\_;unfold pC.b0;have g:(0:Int)<=0/\(0:Int) < (v.length:Int):=by omega
 have e0:((v[0]'Bys).toNat:Nat)=pn v:=(jO (show 0 < v.length by omega)).2;simp only[g,cM,aK,fq (show 0 < v.length by omega)];by_cases h0:pn v=0
 ·left;have:¬ ((0:Int) < (((v[0]'Bys).toNat:Nat):Int)):=by rw[e0];omega
  rw[bD this,Du (Or.inl h0)];rfl
 have h1:(0:Int) < (((v[0]'Bys).toNat:Nat):Int):=by rw[e0];omega
 have hw:af ((af (((v[0]'Bys).toNat:Nat):Int)) - 1)=((pn v - 1:Nat):Int):=by
  grind [bi]
 rw[aY h1,hw,wL hv (show pn v - 1 < 16 by omega)];simp only[aA,aS];by_cases hz:bh v (pn v - 1)=0
 ·grind [NM,T9]
 ·left;have:¬ ((bh v (pn v - 1):Int)=0):=by omega
  rw[bD this,Du (Or.inr hz)];rfl
theorem Sn (hz:bh p s≠0):om.ab (p,(s:Int),())=some (((0:Int),(s:Int),r_ p s,()),()):=by
 have hn:=hp.n;have hl:=hp.len;refine ag (k:=100) λk hk=>(om.ae k _).trans ?_;unfold om.p;have i2:(0:Int)<=((2+2*s:Nat):Int)/\((2+2*s:Nat):Int) < (p.length:Int):=by omega
 have i3:(0:Int)<=((3+2*s:Nat):Int)/\((3+2*s:Nat):Int) < (p.length:Int):=by omega
 have xn:(decide (s < pn p)&&!decide (bh p s=0))=true:=by simp[hs,hz]
 rw[Ab p (by grind [ao]),wJ.2 hp];simp only[mg p Bys,zd hp s,xn,aA,aO,aU,aF,Gm (show s < 1000 by omega),NE (show s < 1000 by omega),i2,i3,cM,aK,aC,bQ];rw[fq Bys,fq (by grind),LG hp hs];have hd:=J5 hp hs;refine tm (λv=>(((0:Int),(s:Int),Bw v,()),())) (λv=>v.length=64/\pn v<=16) pn (λv ⟨hv,hvn⟩ self=>?_) k (tE p s) ⟨NN hp hs,by omega⟩ Bys;show om.b0 _ _ _ _=_\/∃ v',om.b0 _ _ _ _=_/\_;unfold om.b0;have g:(0:Int)<=0/\(0:Int) < (v.length:Int):=by omega
 have e0:((v[0]'Bys).toNat:Nat)=pn v:=(jO (show 0 < v.length by omega)).2;simp only[g,cM,aK,fq (show 0 < v.length by omega)];by_cases h0:pn v=0
 ·left;have:¬ ((0:Int) < (((v[0]'Bys).toNat:Nat):Int)):=by rw[e0];omega
  rw[bD this,Du (Or.inl h0)];rfl
 have h1:(0:Int) < (((v[0]'Bys).toNat:Nat):Int):=by rw[e0];omega
 have hw:af ((af ((2:Int)*(af (((v[0]'Bys).toNat:Nat):Int))))+1)=((3+2*(pn v - 1):Nat):Int):=by
  grind [bi]
 have g3:(0:Int)<=((3+2*(pn v - 1):Nat):Int)/\((3+2*(pn v - 1):Nat):Int) < (v.length:Int):=by omega
 rw[aY h1,hw];simp only[g3,cM,aK,aC,fq (show 3+2*(pn v - 1) < v.length by omega),(jO (show 3+2*(pn v - 1) < v.length by omega)).2,aS];show (bif decide ((bh v (pn v - 1):Int)=0) then _ else _)=_\/∃ v',(bif decide ((bh v (pn v - 1):Int)=0) then _ else _)=_/\_;by_cases hz:bh v (pn v - 1)=0
 ·grind [NM,T9]
 ·left;have:¬ ((bh v (pn v - 1):Int)=0):=by omega
  rw[bD this,Du (Or.inr hz)];rfl
end
end OT
namespace OT
open Go
theorem ac2 (a b:List UInt8) (j:Nat):pb (a++b) j=if j < a.length then pb a j else pb b (j - a.length):=by
 unfold pb;simp only[dH];split
 ·rename_i h;rw[cZ h]
 ·rename_i h;rw[eV Bys]
theorem T_ (n j:Nat):pb (List.replicate n (0:UInt8)) j=0:=by
 unfold pb;simp only[dH,fX];split <;> rfl
section
variable {p:List UInt8} (hp:gn p)
include hp
theorem QO:oM (List.replicate 64 (0:UInt8)) 0 (min ((p.take (2+2*pn p)).drop 0).length (List.replicate 64 (0:UInt8)).length) ((p.take (2+2*pn p)).drop 0)=Aa p:=by
 have hn:=hp.n;have hl:=hp.len;have ht:(p.take (2+2*pn p)).length=2+2*pn p:=by rw[cO];omega
 rw[eK,cY,show min (p.take (2+2*pn p)).length 64=(p.take (2+2*pn p)).length by omega];refine CE ?_ λj hj=>?_
 ·rw[sb _ _ (by rw[cY];omega) (aH _)];unfold Aa;rw[bK,cY,cY];omega
 ·rw[ML (by rw[cY];omega)];unfold Aa;rw[ac2,ht,T_,T_];by_cases h:j < 2+2*pn p
  ·rw[aG ⟨by omega,by omega⟩,aG h,Nat.sub_zero]
  ·rw[aL Bys,aL h]
theorem Ua {k:Nat} (hk:k < pn p) (hz:bh p k≠0):(jP p k).1.length=64/\bh p k<=(jP p k).2/\(jP p k).2<=64/\bh (jP p k).1 k=bh p k/\2+2*pn p<=(jP p k).2 - bh p k:=by
 have I:=Fz hp k Bys;have xH:=Fu hp;have hm:=sj p (show k+1<=pn p from hk);have yd:=hp.lo;have ha:=I.a;simp only[nf] at hm;exact ⟨I.len,by omega,by omega,I.sz k hk,by omega⟩
theorem QP:(jP p (pn p)).1.length=64/\(jP p (pn p)).2<=64:=by
 have I:=Fz hp (pn p) (aH _);have ha:=I.a;exact ⟨I.len,by omega⟩
theorem Jc:gg.ab (p,())=some (mc p,()):=by
 have hn:=hp.n;have hl:=hp.len;refine ag (k:=100) λk hk=>(gg.ae k _).trans ?_;unfold gg.p;have g1:(0:Int)<=64/\(64:Int)<=64/\(64:Int)<=(cg:Int):=by unfold cg;omega
 have g2:(0:Int)<=((2+2*pn p:Nat):Int)/\((2+2*pn p:Nat):Int)<=(p.length:Int):=by omega
 simp only[qv hl,aA,Gm (show pn p < 1000 by omega),g1,g2,cM,aK,aC];rw[QO hp]
 have:=qb (B:=λself v=>gg.b0 self (λz=>gg.q0 (p,()) (pn p:Int) z) (p,()) (pn p:Int) v) (pn p) (λ(s:List UInt8×Nat) (i:Int)=>(s.1,(s.2:Int),i)) (λx s=>.inr (Bs p s x)) (λs=>some (s.1.set 1 (UInt8.ofNat s.2),())) (λi s=>s=jP p i) Bys
  (λi hi s self hs=>by
   subst hs;show gg.b0 _ _ _ _ _=_;unfold gg.b0 Bs;have a7:(i:Int) < (pn p:Int):=by omega
   simp only[a7,aO,aS,wL hl (show i < 16 by omega),aA];by_cases hz:bh p i=0
   ·simp only[hz,Int.natCast_zero,aO,aS,aK]
   ·have hz':¬ ((bh p i:Int)=0):=by omega
    obtain ⟨c1,c2,c3,c4,c5⟩:=Ua hp hi hz;have xy:=pk hp hi;have hw:af (((jP p i).2:Int) - (bh p i:Int))=(((jP p i).2 - bh p i:Nat):Int):=by rw[bi Bys];omega
    simp only[hz,hz',aI,aF,aR,A7 hp hi,aA,xy,hw,zf c1 (show i < 16 by omega) (show (jP p i).2 - bh p i+(jh p i).length<=64 by omega)])
  (λi hi s s' hs hf=>by injection hf with hf;subst hf;rw[hs,Fy]) (λs self hs=>by
   subst hs;obtain ⟨c1,c2⟩:=QP hp;show gg.b0 _ _ _ _ _=_;unfold gg.b0;simp only[aV,aI,aF];show gg.q0 _ _ _=_;unfold gg.q0;have g:(0:Int)<=1/\(1:Int) < ((jP p (pn p)).1.length:Int):=by omega
   simp only[g,cM,aK,vk]
   rw[fq Bys]) (Aa p,64) rfl k Bys
 rw[ic (g:=λs x=>Bs p s x)] at this;exact this
theorem So:gu.ab (p,())=some (((0:Int),(0:Int),mc p,()),()):=by
 have hn:=hp.n;have hl:=hp.len;refine ag (k:=100) λk hk=>(gu.ae k _).trans ?_;unfold gu.p;have g1:(0:Int)<=64/\(64:Int)<=64/\(64:Int)<=(cg:Int):=by unfold cg;omega
 have g2:(0:Int)<=((2+2*pn p:Nat):Int)/\((2+2*pn p:Nat):Int)<=(p.length:Int):=by omega
 rw[Ab p (by rw[hp.len,ao];omega),wJ.2 hp];simp only[uM hl,aA,aO,aU,aF,Gm (show pn p < 1000 by omega),g1,g2,cM,aK,aC];rw[QO hp]
 have:=qb (B:=λself v=>gu.b0 self (λz=>gu.q0 (p,()) (pn p:Int) z) (p,()) (pn p:Int) v) (pn p) (λ(s:List UInt8×Nat) (i:Int)=>(s.1,(s.2:Int),i)) (λx s=>.inr (Bs p s x)) (λs=>some (((0:Int),(0:Int),s.1.set 1 (UInt8.ofNat s.2),()),())) (λi s=>s=jP p i) Bys
  (λi hi s self hs=>by
   subst hs;show gu.b0 _ _ _ _ _=_;unfold gu.b0 Bs;have a7:(i:Int) < (pn p:Int):=by omega
   simp only[a7,aO,aS,zd hp i,aA];by_cases hz:bh p i=0
   ·simp only[hz,aO,aU,hU,cI,aS,aK]
   ·obtain ⟨c1,c2,c3,c4,c5⟩:=Ua hp hi hz;have xy:=pk hp hi;have hw:af (((jP p i).2:Int) - (bh p i:Int))=(((jP p i).2 - bh p i:Nat):Int):=by rw[bi Bys];omega
    have xn:(decide (i < pn p)&&!decide (bh p i=0))=true:=by simp[hi,hz]
    have g3:(0:Int)<=(((jP p i).2 - bh p i:Nat):Int)/\(((jP p i).2 - bh p i:Nat):Int)<=((jP p i).1.length:Int):=by omega
    have hm:min (bh p i) ((jP p i).1.length - ((jP p i).2 - bh p i))=bh p i:=by omega
    have Ga:(oM (jP p i).1 ((jP p i).2 - bh p i) (bh p i) (jh p i)).length=64:=by rw[sb _ _ Bys Bys,c1]
    have g4:(0:Int)<=((2+2*i:Nat):Int)/\((2+2*i:Nat):Int) < ((64:Nat):Int):=by omega
    rw[xn];simp only[aU,aF,aL hz,A6 hp hi,aA,xy,hw,g3,cM,aK,aC,hm,Gm (show i < 1000 by omega),Ga,g4,vk];rw[fq Bys]
    have da:ma (jP p i).1 i ((jP p i).2 - bh p i) (jh p i)=(oM (jP p i).1 ((jP p i).2 - bh p i) (bh p i) (jh p i)).set (2+2*i) (UInt8.ofNat ((jP p i).2 - bh p i)):=by
     unfold ma;rw[xy];refine QL ?_ Bys;rw[uB,aL Bys,<- xy,ML Bys,aL Bys,xy];exact c4
    rw[da])
  (λi hi s s' hs hf=>by injection hf with hf;subst hf;rw[hs,Fy]) (λs self hs=>by
   subst hs;obtain ⟨c1,c2⟩:=QP hp;show gu.b0 _ _ _ _ _=_;unfold gu.b0;simp only[aV,aI,aF];show gu.q0 _ _ _=_;unfold gu.q0;have g:(0:Int)<=1/\(1:Int) < ((jP p (pn p)).1.length:Int):=by omega
   simp only[g,cM,aK,vk]
   rw[fq Bys]) (Aa p,64) rfl k Bys
 rw[ic (g:=λs x=>Bs p s x)] at this;exact this
end
end OT
namespace OT
open Go
def fk (ps:bk) (P:Nat):List UInt8:=ps.getD P []
theorem nZ {ps:bk} {P:Nat} (h:P < ps.length):ps[P]?=some (fk ps P):=by
 grind [fk]
theorem J6 {ps:bk} {P:Nat} (h:P < ps.length):fk ps P ∈ ps:=bW (nZ h)
theorem pp {ps:bk} (h:mO ps) {P:Nat} (hP:P < ps.length):gn (fk ps P):=h.2 _ (J6 hP)
theorem QQ (ps:bk) (P Q:Nat) (b:List UInt8):fk (ps.set P b) Q=if P=Q/\P < ps.length then b else fk ps Q:=by
 grind [fk]
theorem QR (ps:bk) (Q:Nat) (b:List UInt8):fk (ps++[b]) Q=if Q=ps.length then b else fk ps Q:=by
 grind [fk]
def bm (ps:bk) (P s:Nat):List UInt8:=cellOf (fk ps P) s
theorem MQ {ps:bk} {P s:Nat} (h:ps.length<=P):bm ps P s=[]:=by
 have:fk ps P=[]:=by grind [fk]
 unfold bm;rw[this];rfl
theorem tF {ps:bk} (h:mO ps) {P s:Nat} (hc:bm ps P s≠[]):P < ps.length/\s < pn (fk ps P)/\bh (fk ps P) s≠0:=by
 grind [MQ,bm,cellOf,qV,pp]
def mf (w:ax) (P:Nat) (b:List UInt8):ax:=
 if P=List.length w.1 then (w.1++[b],w.2.1++[((P:Int),b,())],())
 else if fk w.1 P=b then w else (List.set w.1 P b,w.2.1++[((P:Int),b,())],())
structure okW (w:ax) (n:Nat):Prop where
 ji:mO w.1
 el:List.length w.2.1<=n
 eb:∀ e ∈ (w.2.1:List pz),List.length e.2.1=64
theorem okW.mono {w:ax} {n m:Nat} (h:okW w n) (hm:n<=m):okW w m:=⟨h.ji,by have:=h.el;omega,h.eb⟩
theorem tG {w:ax} {P:Nat} (hP:P < List.length w.1) (b:List UInt8):(mf w P b).1=List.set w.1 P b:=by
 unfold mf;rw[aL Bys];split
 ·rename_i h;refine dT λi=>?_;grind [nZ]
 ·rfl
theorem J7 (w:ax) (b:List UInt8):(mf w (List.length w.1) b).1=w.1++[b]:=by
 grind [mf]
theorem zN {w:ax} {n P:Nat} (h:okW w n) {b:List UInt8} (hb:gn b) (hP:P<=List.length w.1) (Ay:P < 12):okW (mf w P b) (n+1):=by
 have hl:=h.el
 have he:∀ e ∈ ((w.2.1++[((P:Int),b,())]):List pz),List.length e.2.1=64:=λe he=>by
  rcases bG.1 he with he | he
  ·exact h.eb e he
  ·rw[bE.1 he];exact hb.len
 unfold mf;split
 ·rename_i h1;refine ⟨⟨?_,λp hp=>?_⟩,?_,he⟩
  ·grind
  ·rcases bG.1 hp with hp | hp
   ·exact h.ji.2 p hp
   grind
  grind
 ·split
  ·exact h.mono Bys
  ·refine ⟨⟨?_,λp hp=>?_⟩,?_,he⟩
   ·rw[bQ];exact h.ji.1
   ·rcases eE hp with hp | hp
    ·exact h.ji.2 p hp
    grind
   grind
theorem xg {w:ax} {P:Nat} (hP:P < List.length w.1) (b:List UInt8) (Q s:Nat):bm (mf w P b).1 Q s=if Q=P then cellOf b s else bm w.1 Q s:=by
 grind [tG,bm,QQ]
theorem sm {w:ax} {n P:Nat} (h:okW w n) (hn:n<=1000) {b:List UInt8} (hb:b.length=64) (hP:P<=List.length w.1):jf.ab (w,(P:Int),b,())=some (mf w P b,()):=by
 refine ag (k:=0) λk _=>(jf.ae k _).trans ?_;show jf.p _=_;unfold jf.p mf;have hl:=h.ji.1;have he:=h.el;simp only[oT b Bys,aA];grind [c9,fk]
theorem tV {w:ax} {n P:Nat} (h:okW w n) (hn:n<=1000) {b:List UInt8} (hb:b.length=64) (hP:P<=List.length w.1):f9.ab (w,(P:Int),b,())=some (mf w P b,()):=by
 refine ag (k:=0) λk _=>(f9.ae k _).trans ?_;show f9.p _=_;unfold f9.p mf;have hl:=h.ji.1;have he:=h.el;simp only[mg b Bys,aA];grind [c9,fk]
def oB (w:ax) (P:Nat):ax:=mf w P (mc (fk w.1 P))
theorem FS {w:ax} {P:Nat} (hP:P < List.length w.1):fk (oB w P).1 P=mc (fk w.1 P):=by
 grind [oB,tG,QQ]
theorem sn {w:ax} {P:Nat} (hP:P < List.length w.1):List.length (oB w P).1=List.length w.1:=by
 grind [oB,tG]
theorem wN {w:ax} {n P:Nat} (h:okW w n) (hP:P < List.length w.1):okW (oB w P) (n+1):=
 zN h (tT (pp h.ji hP)).1 Bys (by have:=h.ji.1;omega)
theorem Af {w:ax} {n P:Nat} (h:okW w n) (hP:P < List.length w.1) (Q s:Nat):bm (oB w P).1 Q s=bm w.1 Q s:=by
 unfold oB;rw[xg hP];split
 ·rename_i hq;subst hq;exact (tT (pp h.ji hP)).2.1 s
 ·rfl
theorem Hv {w:ax} {n P:Nat} (h:okW w n) (hn:n<=1000) (hP:P < List.length w.1):kf.ab (w,(P:Int),())=some (oB w P,()):=by
 refine ag (k:=0) λk _=>(kf.ae k _).trans ?_;show kf.p _=_;unfold kf.p oB;have hp:=pp h.ji hP;have g:(0:Int)<=(P:Int)/\(P:Int) < (List.length w.1:Int):=by omega
 rw[aG g];simp only[aC,nZ hP,aA,So hp,tV h hn (tT hp).1.len (eB hP)]
def qW (w:ax) (P:Nat) (c:List UInt8):Option Nat×ax:=
 if mw (fk w.1 P) c=8 then
  if mw (mc (fk w.1 P)) c=0 then (some (fm (mc (fk w.1 P))),mf (oB w P) P (rN (mc (fk w.1 P)) c)) else (none,oB w P)
 else if mw (fk w.1 P) c=0 then (some (fm (fk w.1 P)),mf w P (rN (fk w.1 P) c)) else (none,w)
structure ac3 (w:ax) (n P:Nat) (c:List UInt8) (r:Option Nat×ax):Prop where
 ok:okW r.2 (n+2)
 len:List.length r.2.1=List.length w.1
 no:r.1=none->∀ Q s,bm r.2.1 Q s=bm w.1 Q s
 yes:∀ t,r.1=some t->t < 16/\bm w.1 P t=[]/\∀ Q s,bm r.2.1 Q s=if Q=P/\s=t then c else bm w.1 Q s
theorem NO {p c:List UInt8} (h:gn p) (hc:mw p c=0):fm p < 16:=by
 have:=(vR p).1;have:=h.n;grind [mw]
theorem xV {w:ax} {n P:Nat} (h:okW w n) (hP:P < List.length w.1) {c:List UInt8} (hc:1<=c.length):ac3 w n P c (qW w P c):=by
 have hp:=pp h.ji hP;have Ay:=h.ji.1;unfold qW;split
 ·obtain ⟨q1,q2,q3⟩:=tT hp;have hw:=wN h hP;have hl:=sn hP;split
  ·rename_i h0;obtain ⟨r1,r2,r3⟩:=zI q1 hc h0;have hP':P < List.length (oB w P).1:=by omega
   refine ⟨zN hw r1 Bys Bys,?_,λhh=>(by cases hh),λt ht=>?_⟩
   ·grind [tG]
   ·injection ht with ht;subst ht;refine ⟨NO q1 h0,?_,λQ s=>?_⟩
    ·show cellOf (fk w.1 P) _=[]
     grind
    ·rw[xg hP',r2,Af h hP];by_cases hq:Q=P
     ·subst hq;by_cases hs:s=fm (mc (fk w.1 Q))
      ·grind
      ·rw[aG rfl,aL hs,aL (λhh=>hs hh.2),q2];rfl
     grind
  ·exact ⟨hw.mono Bys,hl,λ_=>Af h hP,λt ht=>by cases ht⟩
 ·split
  ·rename_i h0;obtain ⟨r1,r2,r3⟩:=zI hp hc h0;refine ⟨(zN h r1 Bys Bys).mono Bys,?_,λhh=>(by cases hh),λt ht=>?_⟩
   ·rw[tG hP,bQ]
   ·injection ht with ht;subst ht;refine ⟨NO hp h0,r3,λQ s=>?_⟩
    rw[xg hP,r2];by_cases hq:Q=P
    ·subst hq;by_cases hs:s=fm (fk w.1 Q)
     ·grind
     ·rw[aG rfl,aL hs,aL (λhh=>hs hh.2)];rfl
    grind
  ·exact ⟨h.mono Bys,rfl,λ_ _ _=>rfl,λt ht=>by cases ht⟩
def Yr (r:Option Nat×ax):Int×Bool×ax×Unit:=match r.1 with
 | some t=>((t:Int),true,r.2,())
 | none=>((0:Int),false,r.2,())
theorem QS {w:ax} {n P:Nat} (h:okW w n) (hn:n<=900) (hP:P < List.length w.1) {c:List UInt8} (jX:1<=c.length) (hc:c.length<=20):rj.ab (w,(P:Int),c,())=some (Yr (qW w P c)):=by
 refine ag (k:=0) λk _=>(rj.ae k _).trans ?_;show rj.p _=_;unfold rj.p qW;have hp:=pp h.ji hP;obtain ⟨q1,q2,q3⟩:=tT hp;have hw:=wN h hP;have hl:=sn hP;have g:(0:Int)<=(P:Int)/\(P:Int) < (List.length w.1:Int):=by omega
 have g2:(0:Int)<=(P:Int)/\(P:Int) < (List.length (oB w P).1:Int):=by omega
 have ec:mf w P (mc (fk w.1 P))=oB w P:=rfl;rw[aG g];simp only[aC,nZ hP,aA,MP hp c jX hc,Jc hp,sm h Bys q1.len (eB hP),ec,nZ (show P < List.length (oB w P).1 by omega),FS hP,MP q1 c jX hc];by_cases h8:mw (fk w.1 P) c=8
 ·rw[aY h8,aS,aG h8,aG g,aG g2];by_cases h0:mw (mc (fk w.1 P)) c=0
  ·rw[aY h0,aG h0,aG h0,aG h0,aU,aF,sm hw Bys (zI q1 jX h0).1.len Bys];rfl
  ·rw[bD h0,cI,aS,aL h0];rfl
 ·rw[bD h8,aF,aL h8];by_cases h0:mw (fk w.1 P) c=0
  ·rw[aY h0,aG h0,aG h0,aG h0,aU,aF,sm h Bys (zI hp jX h0).1.len Bys];rfl
  ·rw[bD h0,cI,aS,aL h0];rfl
def j0 (w:ax) (P s:Nat) (c:List UInt8):Bool×ax:=
 if rr (fk w.1 P) s c=8 then
  if rr (mc (fk w.1 P)) s c=0 then (true,mf (oB w P) P (zJ (mc (fk w.1 P)) s c)) else (false,oB w P)
 else if rr (fk w.1 P) s c=0 then (true,mf w P (zJ (fk w.1 P) s c)) else (false,w)
theorem Hw {p:List UInt8} (h:gn p) {s:Nat} (hs:s < pn p) (hz:bh p s≠0):s < pn (mc p)/\bh (mc p) s≠0:=by
 obtain ⟨q1,q2,q3⟩:=tT h;refine ⟨by omega,λh0=>hz ?_⟩
 rw[<-qV h hs,<- q2,qV q1 Bys];exact h0
structure Ys (w:ax) (n P s:Nat) (c:List UInt8) (r:Bool×ax):Prop where
 ok:okW r.2 (n+2)
 len:List.length r.2.1=List.length w.1
 no:r.1=false->∀ Q t,bm r.2.1 Q t=bm w.1 Q t
 yes:r.1=true->∀ Q t,bm r.2.1 Q t=if Q=P/\t=s then c else bm w.1 Q t
theorem o9 {w:ax} {n P s:Nat} (h:okW w n) (ii:bm w.1 P s≠[]) {c:List UInt8} (hc:1<=c.length):Ys w n P s c (j0 w P s c):=by
 obtain ⟨hP,hs,hz⟩:=tF h.ji ii;have hp:=pp h.ji hP;have Ay:=h.ji.1;unfold j0;split
 ·obtain ⟨q1,q2,q3⟩:=tT hp;obtain ⟨z1,z2⟩:=Hw hp hs hz;have hw:=wN h hP;have hl:=sn hP;split
  ·rename_i h0;obtain ⟨r1,r2⟩:=BG q1 z1 z2 hc h0;have hP':P < List.length (oB w P).1:=by omega
   refine ⟨zN hw r1 Bys Bys,?_,λhh=>(by cases hh),λ_ Q t=>?_⟩
   ·grind [tG]
   ·rw[xg hP',r2,Af h hP];by_cases hq:Q=P
    ·subst hq;by_cases ht:t=s
     ·grind
     ·rw[aG rfl,aL ht,aL (λhh=>ht hh.2),q2];rfl
    grind
  ·exact ⟨hw.mono Bys,hl,λ_=>Af h hP,λht=>by cases ht⟩
 ·split
  ·rename_i h0;obtain ⟨r1,r2⟩:=BG hp hs hz hc h0;refine ⟨(zN h r1 Bys Bys).mono Bys,?_,λhh=>(by cases hh),λ_ Q t=>?_⟩
   ·rw[tG hP,bQ]
   ·rw[xg hP,r2];by_cases hq:Q=P
    ·subst hq;by_cases ht:t=s
     ·grind
     ·rw[aG rfl,aL ht,aL (λhh=>ht hh.2)];rfl
    grind
  ·exact ⟨h.mono Bys,rfl,λ_ _ _=>rfl,λht=>by cases ht⟩
theorem zg {w:ax} {n P s:Nat} (h:okW w n) (hn:n<=900) (ii:bm w.1 P s≠[]) {c:List UInt8} (jX:1<=c.length) (hc:c.length<=20):oy.ab (w,(P:Int),(s:Int),c,())=some ((j0 w P s c).1,(j0 w P s c).2,()):=by
 refine ag (k:=0) λk _=>(oy.ae k _).trans ?_;show oy.p _=_;unfold oy.p j0;obtain ⟨hP,hs,hz⟩:=tF h.ji ii;have hp:=pp h.ji hP;obtain ⟨q1,q2,q3⟩:=tT hp;obtain ⟨z1,z2⟩:=Hw hp hs hz;have hw:=wN h hP;have hl:=sn hP;have g:(0:Int)<=(P:Int)/\(P:Int) < (List.length w.1:Int):=by omega
 have g2:(0:Int)<=(P:Int)/\(P:Int) < (List.length (oB w P).1:Int):=by omega
 have ec:mf w P (mc (fk w.1 P))=oB w P:=rfl;rw[aG g];simp only[aC,nZ hP,aA,LD hp c jX hc hs hz,Jc hp,sm h Bys q1.len (eB hP),ec,nZ (show P < List.length (oB w P).1 by omega),FS hP,LD q1 c jX hc z1 z2];by_cases h8:rr (fk w.1 P) s c=8
 ·rw[aY h8,aS,aG h8,aG g,aG g2];by_cases h0:rr (mc (fk w.1 P)) s c=0
  ·rw[aY h0,aG h0,aG h0,aU,aF,sm hw Bys (BG q1 z1 z2 jX h0).1.len Bys];rfl
  grind
 ·rw[bD h8,aF,aL h8];by_cases h0:rr (fk w.1 P) s c=0
  ·rw[aY h0,aG h0,aG h0,aU,aF,sm h Bys (BG hp hs hz jX h0).1.len Bys];rfl
  grind
theorem Hx {w:ax} {n P s:Nat} (h:okW w n) (hn:n<=900) (ii:bm w.1 P s≠[]) {c:List UInt8} (jX:1<=c.length) (hc:c.length<=20):mp.ab (w,(P:Int),(s:Int),c,())=some ((j0 w P s c).1,(j0 w P s c).2,()):=by
 refine ag (k:=0) λk _=>(mp.ae k _).trans ?_;show mp.p _=_;unfold mp.p j0;obtain ⟨hP,hs,hz⟩:=tF h.ji ii;have hp:=pp h.ji hP;obtain ⟨q1,q2,q3⟩:=tT hp;obtain ⟨z1,z2⟩:=Hw hp hs hz;have hw:=wN h hP;have hl:=sn hP;have g:(0:Int)<=(P:Int)/\(P:Int) < (List.length w.1:Int):=by omega
 have g2:(0:Int)<=(P:Int)/\(P:Int) < (List.length (oB w P).1:Int):=by omega
 rw[aG g];simp only[aC,nZ hP,aA,LE hp c jX hc hs hz,Hv h Bys hP,nZ (show P < List.length (oB w P).1 by omega),FS hP,LE q1 c jX hc z1 z2];by_cases h8:rr (fk w.1 P) s c=8
 ·rw[aY h8,aS,aG h8,aG g2];by_cases h0:rr (mc (fk w.1 P)) s c=0
  ·rw[aY h0,aG h0,aG h0,aU,aF,tV hw Bys (BG q1 z1 z2 jX h0).1.len Bys];rfl
  grind
 ·rw[bD h8,aF,aL h8];by_cases h0:rr (fk w.1 P) s c=0
  ·rw[aY h0,aG h0,aG h0,aU,aF,tV h Bys (BG hp hs hz jX h0).1.len Bys];rfl
  grind
def jQ (w:ax) (P s:Nat):ax:=mf w P (r_ (fk w.1 P) s)
theorem pq {w:ax} {n P s:Nat} (h:okW w n) (ii:bm w.1 P s≠[]):okW (jQ w P s) (n+1)/\List.length (jQ w P s).1=List.length w.1/\∀ Q t,bm (jQ w P s).1 Q t=if Q=P/\t=s then [] else bm w.1 Q t:=by
 obtain ⟨hP,hs,hz⟩:=tF h.ji ii;have hp:=pp h.ji hP;have Ay:=h.ji.1;obtain ⟨r1,r2⟩:=JZ hp hs;refine ⟨zN h r1 Bys Bys,?_,λQ t=>?_⟩
 ·grind [jQ,tG]
 ·unfold jQ;rw[xg hP,r2];by_cases hq:Q=P
  ·subst hq;by_cases ht:t=s
   ·grind
   ·rw[aG rfl,aL ht,aL (λhh=>ht hh.2)];rfl
  grind
theorem A9 {w:ax} {n P s:Nat} (h:okW w n) (hn:n<=900) (ii:bm w.1 P s≠[]):oh.ab (w,(P:Int),(s:Int),())=some (jQ w P s,()):=by
 refine ag (k:=0) λk _=>(oh.ae k _).trans ?_;show oh.p _=_;unfold oh.p jQ;obtain ⟨hP,hs,hz⟩:=tF h.ji ii;have hp:=pp h.ji hP;have g:(0:Int)<=(P:Int)/\(P:Int) < (List.length w.1:Int):=by omega
 rw[aG g];simp only[aC,nZ hP,aA,Sm hp hs,sm h Bys (JZ hp hs).1.len (eB hP)]
theorem A_ {w:ax} {n P s:Nat} (h:okW w n) (hn:n<=900) (ii:bm w.1 P s≠[]):ky.ab (w,(P:Int),(s:Int),())=some (jQ w P s,()):=by
 refine ag (k:=0) λk _=>(ky.ae k _).trans ?_;show ky.p _=_;unfold ky.p jQ;obtain ⟨hP,hs,hz⟩:=tF h.ji ii;have hp:=pp h.ji hP;have g:(0:Int)<=(P:Int)/\(P:Int) < (List.length w.1:Int):=by omega
 rw[aG g];simp only[aC,nZ hP,aA,Sn hp hs hz,tV h Bys (JZ hp hs).1.len (eB hP)]
end OT
namespace OT
open Go
theorem Dv {α β:Type} {f:α->β}:∀ {l:List α},(l.map f).Nodup->∀ {x y:α},x ∈ l->y ∈ l->f x=f y->x=y
 | z::l,h,x,y,hx,hy,he=>by
  rw[dX,cL] at h;rcases bB.1 hx with Au | Au
  ·rcases bB.1 hy with Gq | Gq
   ·rw[Au,Gq]
   ·rw[Au] at he;exact absurd (he ▸ gS Gq) h.1
  ·rcases bB.1 hy with Gq | Gq
   ·rw[Gq] at he;exact absurd (he ▸ gS Au) h.1
   ·exact Dv h.2 Au Gq he
theorem Yt {α β K:Type} [DecidableEq K] {l:List α} {l':List β} {g:α->β} {ka:α->K} {kb:β->K} (hk:∀ x,kb (g x)=ka x) (hp:l'.Perm (l.map g)) (hn:(l.map ka).Nodup) (k:K):l'.find? (λy=>decide (kb y=k))=(l.find? (λx=>decide (ka x=k))).map g:=by
 cases h:l.find? (λx=>decide (ka x=k)) with
 | none=>
  rw[eW] at h;show _=none;rw[eW];intro y hy;obtain ⟨x,hx,rfl⟩:=dQ.1 (hp.mem_iff.1 hy);rw[hk];exact h x hx
 | some x=>
  have hx:=cT h;have NP:ka x=k:=by have:=gQ h;simpa using this
  show _=some (g x)
  cases h2:l'.find? (λy=>decide (kb y=k)) with
  | none=>
   rw[eW] at h2;have:=h2 (g x) (hp.mem_iff.2 (gS hx));rw[hk,NP] at this;simp at this
  | some y=>
   have hy:=cT h2;have hyk:kb y=k:=by have:=gQ h2;simpa using this
   obtain ⟨z,hz,rfl⟩:=dQ.1 (hp.mem_iff.1 hy);rw[hk] at hyk;rw[Dv hn hz hx (hyk.trans NP.symm)]
theorem Hy {α O:Type} (p:α->Bool) (g:α->O) (e:O):∀ (xs:List α) (i:Nat),bt (λ_ (_:Unit) x=>if p x then .inl (g x) else .inr ()) (λ_=>e) i xs ()=match xs.find? p with | some x=>g x | none=>e
 | [],_=>rfl
 | x::xs,i=>by
  simp only[bt,iV]
  cases h:p x with
  | true=>simp only[aK]
  | false=>simp only[aE,aR];exact Hy p g e xs (i+1)
abbrev aa8:bc:=((0:Int),(0:Int),((0:Int),(0:Int),(0:Int),(0:Int),CH,()),())
abbrev aa9:Seen:=(CH,(0:Int),(0:Int),false,(0:Int),(0:Int),())
def uk (ps:bk) (t k:Int):Option bc:=(jZ ps).find? (λx=>decide (rk (jW x)=(t,k)))
def VV (l:List Seen) (t k:Int):Option Seen:=l.find? (λy=>decide (rk y.1=(t,k)))
theorem Yu (r:Row) (t k:Int):decide (rk r=(t,k))=(decide (r.1=t)&&decide (r.2.1=k)):=by
 unfold rk;by_cases h1:r.1=t <;> by_cases h2:r.2.1=k <;> simp[h1,h2]
theorem Sp (ps:bk) (h:mO ps) (t k:Int):np.ab (ps,t,k,())=some (match uk ps t k with | some x=>(x,true,()) | none=>(aa8,false,())):=by
 refine ag (k:=300) λq hq=>(np.ae q _).trans ?_;unfold np.p;rw[I_ ps h];simp only[aA];have nx:=FL h;unfold uk;generalize jZ ps=xs at nx ⊢
 have:=c8 (B:=λself v=>np.b0 self (λz=>np.q0 (ps,t,k,()) xs z) (ps,t,k,()) xs v) xs (λ(_:Unit) (i:Int)=>i) (λ_ _ x=>if decide (rk (jW x)=(t,k)) then .inl (x,true,()) else .inr ()) (λ_=>((aa8,false,()):bc×Bool×Unit)) (λ_ _=>True) (by rw[ao];omega)
  (λi hi s self _=>by
   show np.b0 _ _ _ _ _=_;unfold np.b0;have a7:(i:Int) < (xs.length:Int):=by omega
   have g:(0:Int)<=(i:Int)/\(i:Int) < (xs.length:Int):=by omega
   rw[aY a7,aS,aG g,Yu];simp only[aC,aB hi,aA,aG g];show (bif decide ((jW xs[i]).1=t) then (bif decide ((jW xs[i]).2.1=k) then _ else _) else _)=_
   cases decide ((jW xs[i]).1=t) <;> cases decide ((jW xs[i]).2.1=k) <;> rfl)
  (λ_ _ _ _ _ _=>trivial) (λs self _=>by
   show np.b0 _ _ _ _ _=_;unfold np.b0;rw[bD (aV _),aF]
   rfl) () trivial q Bys
 rw[Hy] at this;refine this.trans (cP some ?_);cases List.find? (λx=>decide (rk (jW x)=(t,k))) xs <;> rfl
theorem Sq (l:List Seen) (hl:l.length<=1000) (t k:Int):qp.ab (l,t,k,())=some (match VV l t k with | some x=>(x,true,()) | none=>(aa9,false,())):=by
 refine ag (k:=1100) λq hq=>(qp.ae q _).trans ?_;unfold VV
 have:=c8 (B:=λself v=>qp.b0 self (λz=>qp.q0 (l,t,k,()) z) (l,t,k,()) v) l (λ(_:Unit) (i:Int)=>i) (λ_ _ x=>if decide (rk x.1=(t,k)) then .inl (x,true,()) else .inr ()) (λ_=>((aa9,false,()):Seen×Bool×Unit)) (λ_ _=>True) (by rw[ao];omega)
  (λi hi s self _=>by
   show qp.b0 _ _ _ _=_;unfold qp.b0;have a7:(i:Int) < (l.length:Int):=by omega
   have g:(0:Int)<=(i:Int):=by omega
   rw[aY a7,aS,aG g,Yu];simp only[aC,aB hi,aA];show (bif decide (l[i].1.1=t) then (bif decide (l[i].1.2.1=k) then _ else _) else _)=_
   cases decide (l[i].1.1=t) <;> cases decide (l[i].1.2.1=k) <;> rfl)
  (λ_ _ _ _ _ _=>trivial) (λs self _=>by
   show qp.b0 _ _ _ _=_;unfold qp.b0;rw[bD (aV _),aF]
   rfl) () trivial q Bys
 rw[Hy] at this;refine this.trans (cP some ?_);cases List.find? (λx:Seen=>decide (rk x.1=(t,k))) l <;> rfl
theorem Yv {ps:bk} (h:xf ps) (t k:Int):VV (ze ps) t k=(uk ps t k).map qz:=
 Yt (g:=qz) (ka:=λx=>rk (jW x)) (kb:=λy=>rk y.1) (λ_=>rfl) (LC h) h.keys (t,k)
theorem aab {ps:bk} {a b:Int} (h:(qy ps a b).2=true):bm ps a.toNat b.toNat≠[]/\(mO ps->(qy ps a b)=dz (bm ps a.toNat b.toNat)):=by
 unfold qy at h ⊢
 cases hg:ps[a.toNat]? with
 | none=>rw[hg] at h;cases h
 | some p=>
  rw[hg] at h;simp only at h ⊢;split at h
  ·rename_i hc;have hp:fk ps a.toNat=p:=by unfold fk;rw[dH,hg];rfl
   have e:bm ps a.toNat b.toNat=jh p b.toNat:=by unfold bm cellOf;rw[hp,aG hc.1]
   rw[e,aG hc];refine ⟨λh0=>?_,λ_=>rfl⟩
   rw[h0] at h;exact absurd h (by decide)
  ·cases h
theorem J8 {ps:bk} (h:xf ps) {x:bc} (hx:x ∈ jZ ps):∃ P s:Nat,x.1=(P:Int)/\x.2.1=(s:Int)/\bm ps P s≠[]/\(gj x=1->∃ Q t:Nat,uC x=(Q:Int)/\uD x=(t:Int)/\bm ps Q t≠[]/\(dz (bm ps Q t)).1.2.1=2)/\(dz (bm ps P s)).1.2.1=gj x:=by
 unfold jZ at hx;obtain ⟨y,hy,sT⟩:=cG.1 hx;obtain ⟨n1,n2⟩:=Ad hy;have da:=bJ.1 h.aa7 y hy;obtain ⟨P,p,s,h1,h2,h3,h4⟩:=xT.1 hy;unfold sN at sT;split at sT
 ·cases sT
 ·have Au:=bE.1 sT
  have hP:P < ps.length:=by
   rcases cR P ps.length with g | g
   ·exact g
   ·rw[eX g] at h1;cases h1
  have hp:fk ps P=p:=by unfold fk;rw[dH,h1];rfl
  have hpo:=pp h.right hP;rw[hp] at hpo
  have hc:bm ps P s≠[]:=by
   unfold bm;rw[hp];exact λh0=>h3 ((qV hpo h2).1 h0)
  have e1:x.1=y.1/\x.2.1=y.2.1/\gj x=gj y/\uC x=uC y/\uD x=uD y:=by
   rw[Au];unfold xe;split <;> exact ⟨rfl,rfl,rfl,rfl,rfl⟩
  have e2:y.1=(P:Int)/\y.2.1=(s:Int):=by rw[h4];exact ⟨rfl,rfl⟩
  have e3:bm ps P s=jh p s:=by unfold bm cellOf;rw[hp,aG h2]
  refine ⟨P,s,by rw[e1.1,e2.1],by rw[e1.2.1,e2.2],hc,λhf=>?_,by rw[e1.2.2.1,e3,h4];rfl⟩
  rw[e1.2.2.1] at hf;unfold uE at da;rw[aY hf,aU,dP,aD] at da;obtain ⟨c1,c2⟩:=aab da.1;refine ⟨(uC y).toNat,(uD y).toNat,by rw[e1.2.2.2.1];omega,by rw[e1.2.2.2.2];omega,c1,?_⟩
  rw[<-c2 h.right]
  simpa using da.2
theorem Hz {ps:bk} (h:xf ps) (t k:Int):(match uk ps t k with
  | some x=>oU (ba ps) (t,k)=true/\(ba ps)[pos (ba ps) (t,k)]?=some (jW x)/\x ∈ jZ ps/\rk (jW x)=(t,k)
  | none=>oU (ba ps) (t,k)=false):=by
 have AY:∀ r,r ∈ ba ps↔∃ x ∈ jZ ps,jW x=r:=λr=>by
  rw[zM h,(Bt _).mem_iff,dQ]
 cases hf:uk ps t k with
 | none=>
  simp only;unfold uk at hf;rw[eW] at hf
  cases hb:oU (ba ps) (t,k) with
  | false=>rfl
  | true=>
   obtain ⟨y,hy,hyk⟩:=TT hb;obtain ⟨x,hx,rfl⟩:=(AY y).1 hy;have:=hf x hx;rw[hyk] at this;simp at this
 | some x=>
  simp only;unfold uk at hf;have hx:=cT hf;have NP:rk (jW x)=(t,k):=by have:=gQ hf;simpa using this
  have hb:oU (ba ps) (t,k)=true:=by
   cases hb:oU (ba ps) (t,k) with
   | true=>rfl
   | false=>
    exfalso;have hm:=(AY (jW x)).2 ⟨x,hx,rfl⟩;obtain ⟨i,hi,he⟩:=bL hm;have hu:=xU h
    have hnb:¬ i < pos (ba ps) (t,k):=λa7=>by
     have:=CI (ba ps) (t,k) i hi a7;rw[he,NP,vf] at this;cases this
    have gy:pos (ba ps) (t,k) < (ba ps).length:=by omega
    unfold oU at hb;rw[aB gy] at hb;simp only[dW] at hb;by_cases IY:pos (ba ps) (t,k)=i
    ·refine hb ?_;have:(ba ps)[pos (ba ps) (t,k)]=(ba ps)[i]:=by congr
     rw[this,he,NP]
    ·have h1:=AB (ba ps) (t,k) (pos (ba ps) (t,k)) gy hu (aH _);have h2:=bN.1 hu (pos (ba ps) (t,k)) i gy hi Bys;rw[he,NP] at h2;rw[h2] at h1;cases h1
  refine ⟨hb,?_,hx,NP⟩
  obtain ⟨hp,hk⟩:=vJ hb;rw[aB hp];congr 1;obtain ⟨y,hy,he⟩:=(AY _).1 (aJ hp);have:y=x:=Dv h.keys hy hx (by show rk (jW y)=rk (jW x);rw[he,hk,NP]);rw[<-he,this]
end OT
namespace OT
open Go
def di (f:Nat) (r:Row):List UInt8:=[UInt8.ofNat f,UInt8.ofInt r.1,UInt8.ofInt r.2.1,UInt8.ofInt (r.2.2.1 / 256),UInt8.ofInt (r.2.2.1 % 256),UInt8.ofInt (List.length r.2.2.2.1:Int)]++r.2.2.2.1
theorem Iw {r:Row} (h:i7 r=0):(0<=r.1/\r.1<=3)/\(1<=r.2.1/\r.2.1<=99)/\(0<=r.2.2.1/\r.2.2.1<=999)/\Do r.2.2.2.1=true:=by
 grind [i7,dm]
theorem Dw {s:List UInt8} (h:Do s=true):s.length<=8:=by
 grind [Do]
theorem ff {f:Nat} {r:Row} (h:i7 r=0):1<=(di f r).length/\(di f r).length<=14:=by
 simp_all [Dw,Iw,di]
theorem ac4 (n:Int):UInt8.ofInt (n % 256)=UInt8.ofInt n:=by
 grind [UInt8.ofInt]
theorem Ag {f:Nat} {r:Row} (h:i7 r=0):jS.ab ((f:Int),r,())=some (di f r,()):=by
 obtain ⟨_,_,h3,h4⟩:=Iw h;have h1:=Dw h4;refine ag (k:=0) λk _=>(jS.ae k _).trans ?_;grind [jS.p,di,bi,c9,vk]
theorem DX {f:Nat} {r:Row} (h:i7 r=0):oL.ab ((f:Int),r,())=some (di f r,()):=by
 obtain ⟨_,_,h3,h4⟩:=Iw h;have h1:=Dw h4;refine ag (k:=0) λk _=>(oL.ae k _).trans ?_;grind [oL.p,di,c9,ac4,vk]
def j_ (P t:Nat):List UInt8:=[(1:UInt8),UInt8.ofNat P,UInt8.ofNat t]
theorem Jd (P t:Nat):pD.ab ((P:Int),(t:Int),())=some (j_ P t,()):=by
 refine ag (k:=0) λk _=>(pD.ae k _).trans ?_;grind [pD.p,j_,vk]
theorem Sr (P t:Nat):uJ.ab ((P:Int),(t:Int),())=some (j_ P t,()):=by
 refine ag (k:=0) λk _=>(uJ.ae k _).trans ?_;grind [uJ.p,j_,vk]
def jg (c:List UInt8) (no:Int):List Nat->ax->Option (Nat×Nat)×ax
 | [],w=>(none,w)
 | P::l,w=>if (P:Int)=no then jg c no l w else match (qW w P c).1 with
  | some t=>(some (P,t),(qW w P c).2)
  | none=>jg c no l (qW w P c).2
def lR (w:ax) (no:Int) (c:List UInt8):Option (Nat×Nat)×ax:=
 match (jg c no (List.range (List.length w.1)) w).1 with
 | some a=>jg c no (List.range (List.length w.1)) w
 | none=>if 12<=List.length w.1 then (none,(jg c no (List.range (List.length w.1)) w).2) else (some (List.length w.1,0),mf (jg c no (List.range (List.length w.1)) w).2 (List.length w.1) (rN uj c))
structure LH (w:ax) (n m:Nat) (c:List UInt8) (r:Option (Nat×Nat)×ax):Prop where
 ok:okW r.2 (n+m)
 no:r.1=none->List.length r.2.1=List.length w.1/\∀ Q s,bm r.2.1 Q s=bm w.1 Q s
 yes:∀ P t,r.1=some (P,t)->P < 12/\t < 16/\bm w.1 P t=[]/\∀ Q s,bm r.2.1 Q s=if Q=P/\s=t then c else bm w.1 Q s
theorem vl {c:List UInt8} (hc:1<=c.length) (no:Int):∀ (l:List Nat) (w:ax) (n:Nat),okW w n->(∀ P ∈ l,P < List.length w.1)->LH w n (2*l.length) c (jg c no l w)
 | [],w,n,h,_=>⟨h.mono Bys,λ_=>⟨rfl,λ_ _=>rfl⟩,λP t ht=>by cases ht⟩
 | P::l,w,n,h,hl=>by
  unfold jg;split
  ·have:=vl hc no l w n h λQ hQ=>hl Q (aX _ hQ);exact ⟨this.ok.mono (by grind),this.no,this.yes⟩
  ·have hP:=hl P bF;have R:=xV h hP hc;split
   ·rename_i t ht;obtain ⟨y1,y2,y3⟩:=R.yes t ht;refine ⟨R.ok.mono (by grind),λhh=>(by cases hh),λP' t' hh=>?_⟩
    injection hh with hh;injection hh with h1 h2;subst h1;subst h2;exact ⟨by have:=h.ji.1;omega,y1,y2,y3⟩
   ·rename_i ht;have e:=R.no ht;have:=vl hc no l (qW w P c).2 (n+2) R.ok λQ hQ=>by rw[R.len];grind
    refine ⟨this.ok.mono (by grind),λhh=>?_,λP' t' hh=>?_⟩
    ·obtain ⟨a1,a2⟩:=this.no hh;exact ⟨by rw[a1,R.len],λQ s=>by rw[a2,e]⟩
    ·obtain ⟨a1,a2,a3,a4⟩:=this.yes P' t' hh;grind
theorem Ix {c:List UInt8} (jX:1<=c.length) (hc:c.length<=20):mw uj c=0/\fm uj=0/\gn (rN uj c)/\∀ s,cellOf (rN uj c) s=if s=0 then c else []:=by
 have e0:fm uj=0:=by decide +kernel
 have hn:pn uj=0:=by decide +kernel
 have hl:ep uj=64:=by decide +kernel
 have hf:sM uj=62:=by decide +kernel
 have h0:mw uj c=0:=by
  grind [mw,u_]
 obtain ⟨r1,r2,r3⟩:=zI FA.1 jX h0;refine ⟨h0,e0,r1,λs=>?_⟩
 rw[r2,e0,FA.2]
theorem so {w:ax} {n:Nat} (h:okW w n) {c:List UInt8} (jX:1<=c.length) (hc:c.length<=20) (no:Int):LH w n 25 c (lR w no c):=by
 have R:=vl jX no (List.range (List.length w.1)) w n h λP hP=>cC.1 hP;have Ay:=h.ji.1;rw[eA] at R;unfold lR;split
 ·exact ⟨R.ok.mono Bys,R.no,R.yes⟩
 ·rename_i h0;obtain ⟨a1,a2⟩:=R.no h0;split
  ·exact ⟨R.ok.mono Bys,λ_=>⟨a1,a2⟩,λP t ht=>by cases ht⟩
  ·rename_i a7;obtain ⟨n1,n2,n3,n4⟩:=Ix jX hc;have hk:=zN R.ok n3 (P:=List.length w.1) Bys Bys;refine ⟨hk.mono Bys,λhh=>(by cases hh),λP t ht=>?_⟩
   injection ht with ht;injection ht with t1 t2;subst t1;subst t2;refine ⟨by omega,by omega,MQ (aH _),λQ s=>?_⟩
   have e:=J7 (jg c no (List.range (List.length w.1)) w).2 (rN uj c);rw[a1] at e;show bm (mf (jg c no (List.range (List.length w.1)) w).2 (List.length w.1) (rN uj c)).1 Q s=_;rw[e];unfold bm;rw[QR,a1];by_cases hq:Q=List.length w.1
   ·rw[aG hq,n4];by_cases hs:s=0
    ·grind
    ·rw[aL hs,aL (λhh=>hs hh.2)];subst hq;exact (MQ (aH _)).symm
   ·rw[aL hq,aL (λhh=>hq hh.1)];exact a2 Q s
def vm (r:Option (Nat×Nat)×ax):Int×Int×Bool×ax×Unit:=match r.1 with
 | some a=>((a.1:Int),(a.2:Int),true,r.2,())
 | none=>((0:Int),(0:Int),false,r.2,())
def AD (c:List UInt8) (no:Int) (P:Nat) (w:ax):Sum (Option (Int×Int×Bool×ax×Unit)) ax:=
 if (P:Int)=no then .inr w else match (qW w P c).1 with
  | some t=>.inl (some ((P:Int),(t:Int),true,(qW w P c).2,()))
  | none=>.inr (qW w P c).2
theorem Bx {c:List UInt8} {no:Int} {fin:ax->Option (Int×Int×Bool×ax×Unit)}:∀ (l:List Nat) (i:Nat) (w:ax),bt (λ_ s x=>AD c no x s) fin i l w=match (jg c no l w).1 with
  | some a=>some ((a.1:Int),(a.2:Int),true,(jg c no l w).2,())
  | none=>fin (jg c no l w).2
 | [],i,w=>rfl
 | P::l,i,w=>by
  simp only[bt,AD,jg];by_cases hn:(P:Int)=no
  ·rw[aG hn,aG hn];exact Bx l (i+1) w
  ·rw[aL hn,aL hn]
   cases (qW w P c).1 with
   | some t=>rfl
   | none=>exact Bx l (i+1) _
theorem QT:uy=uj:=rfl
theorem CN {w:ax} {n:Nat} (h:okW w n) (hn:n<=800) {c:List UInt8} (jX:1<=c.length) (hc:c.length<=20) (no:Int):iw.ab (w,no,c,())=some (vm (lR w no c)):=by
 have Ay:=h.ji.1;refine ag (k:=100) λk hk=>(iw.ae k _).trans ?_;obtain ⟨n1,n2,n3,n4⟩:=Ix jX hc
 have:=qb (B:=λself v=>iw.b0 self (λz=>iw.q0 (w,no,c,()) z) (w,no,c,()) v) (List.length w.1) (λ(s:ax) (i:Int)=>(s,i)) (AD c no) (λs=>iw.q0 (w,no,c,()) s) (λi s=>okW s (n+2*i)/\List.length s.1=List.length w.1) Bys
  (λi hi s self ⟨hs,nx⟩=>by
   grind [iw.b0,AD,QS,Yr])
  (λi hi s s' ⟨hs,nx⟩ hf=>by
   unfold AD at hf;have R:=xV hs (show i < List.length s.1 by omega) jX;split at hf
   ·injection hf with hf;subst hf;exact ⟨hs.mono Bys,nx⟩
   ·split at hf
    ·cases hf
    ·injection hf with hf;subst hf
     exact ⟨R.ok.mono Bys,by rw[R.len,nx]⟩)
  (λs self ⟨hs,nx⟩=>by
   grind [iw.b0]) w ⟨h,rfl⟩ k Bys
 refine this.trans ?_;rw[Bx];unfold lR vm;have R:=vl jX no (List.range (List.length w.1)) w n h λP hP=>cC.1 hP;rw[eA] at R
 cases hg:(jg c no (List.range (List.length w.1)) w).1 with
 | some a=>simp only[hg]
 | none=>
  obtain ⟨a1,a2⟩:=R.no hg;simp only;show iw.q0 _ _=_;unfold iw.q0;rw[a1];by_cases hl:12<=List.length w.1
  ·grind
  ·have:¬ (12:Int)<=(List.length w.1:Int):=by omega
   rw[bD this,aF,aL hl,Lh];simp only[aA,QT,MP FA.1 c jX hc,n1,n2,aK,sm R.ok Bys n3.len (show List.length w.1<=List.length (jg c no (List.range (List.length w.1)) w).2.1 by omega)];grind [J7,bi]
theorem HA {w:ax} {n:Nat} (h:okW w n) (hn:n<=800) {c:List UInt8} (jX:1<=c.length) (hc:c.length<=20) (no:Int):fx.ab (w,c,no,())=some (vm (lR w no c)):=by
 have Ay:=h.ji.1;refine ag (k:=100) λk hk=>(fx.ae k _).trans ?_;obtain ⟨n1,n2,n3,n4⟩:=Ix jX hc
 have:=qb (B:=λself v=>fx.b0 self (λz=>fx.q0 (w,c,no,()) z) (w,c,no,()) v) (List.length w.1) (λ(s:ax) (i:Int)=>(s,i)) (AD c no) (λs=>fx.q0 (w,c,no,()) s) (λi s=>okW s (n+2*i)/\List.length s.1=List.length w.1) Bys
  (λi hi s self ⟨hs,nx⟩=>by
   show fx.b0 _ _ _ _=_;unfold fx.b0 AD;have a7:(i:Int) < (List.length w.1:Int):=by omega
   rw[aY a7,aS];by_cases rQ:(i:Int)=no
   ·grind
   ·rw[bD rQ,aF,aL rQ];have hP:i < List.length s.1:=by omega
    have hp:=pp hs.ji hP;obtain ⟨q1,q2,q3⟩:=tT hp;have hw:=wN hs hP;have hl:=sn hP;have g:(0:Int)<=(i:Int)/\(i:Int) < (List.length s.1:Int):=by omega
    have g2:(0:Int)<=(i:Int)/\(i:Int) < (List.length (oB s i).1:Int):=by omega
    rw[aG g];unfold qW;simp only[aC,nZ hP,aA,FR hp c jX hc,Hv hs Bys hP,nZ (show i < List.length (oB s i).1 by omega),FS hP,FR q1 c jX hc];by_cases h8:mw (fk s.1 i) c=8
    ·rw[aY h8,aS,aG h8,aG g2];by_cases h0:mw (mc (fk s.1 i)) c=0
     ·rw[aY h0,aS,aG h0,aG h0,aG h0,tV hw Bys (zI q1 jX h0).1.len Bys];rfl
     grind
    ·rw[bD h8,aF,aL h8];by_cases h0:mw (fk s.1 i) c=0
     ·rw[aY h0,aS,aG h0,aG h0,aG h0,tV hs Bys (zI hp jX h0).1.len Bys];rfl
     grind)
  (λi hi s s' ⟨hs,nx⟩ hf=>by
   unfold AD at hf;have R:=xV hs (show i < List.length s.1 by omega) jX;split at hf
   ·injection hf with hf;subst hf;exact ⟨hs.mono Bys,nx⟩
   ·split at hf
    ·cases hf
    ·injection hf with hf;subst hf
     exact ⟨R.ok.mono Bys,by rw[R.len,nx]⟩)
  (λs self ⟨hs,nx⟩=>by
   grind [fx.b0]) w ⟨h,rfl⟩ k Bys
 refine this.trans ?_;rw[Bx];unfold lR vm;have R:=vl jX no (List.range (List.length w.1)) w n h λP hP=>cC.1 hP;rw[eA] at R
 cases hg:(jg c no (List.range (List.length w.1)) w).1 with
 | some a=>simp only[hg]
 | none=>
  obtain ⟨a1,a2⟩:=R.no hg;simp only;show fx.q0 _ _=_;unfold fx.q0;rw[a1];by_cases hl:12<=List.length w.1
  ·grind
  ·have:¬ (List.length w.1:Int)=12:=by omega
   rw[bD this,aF,aL hl,Fl];simp only[aA,QT,FR FA.1 c jX hc,n1,n2,aK,tV R.ok Bys n3.len (show List.length w.1<=List.length (jg c no (List.range (List.length w.1)) w).2.1 by omega)];grind [J7,bi]
end OT
