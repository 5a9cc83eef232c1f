/- The proof's parts, merged: Records applied to pages  the program and the reference alike  and the law of RedoAll.. No conditions but those that each states. -/
import Derived.Test.YtghckfpmmofmnaaGreatRg
set_option linter.unusedVariables false
set_option linter.unusedSimpArgs false
namespace OT
open Go
def Vv (p:List UInt8) (r:cq):List UInt8:=pD p r.1.toNat (min (List.length r.2.1) (p.length - r.1.toNat)) r.2.1
def K7 (p:List UInt8) (rs:List cq):List UInt8:=rs.foldl Vv p
theorem JL {p:List UInt8} {r:cq} (h:r.1.toNat<=p.length):(Vv p r).length=p.length:=sn _ _ Bys Bys
theorem K8:∀ (rs:List cq) (p:List UInt8),p.length=64->(∀ r ∈ rs,0<=r.1/\r.1<=63)->(K7 p rs).length=64
 | [],p,h,_=>h
 | r::rs,p,h,hr=>by
  have:=hr r (by simp);exact K8 rs _ (by grind [JL]) (λx hx=>hr x (by simp[hx]))
theorem Ms (p:List UInt8) (rs:List cq) (hp:p.length=64) (hl:rs.length<=64) (hr:∀ r ∈ rs,0<=r.1/\r.1<=63):lq.ae (p,rs,())=some (K7 p rs,()):=by
 refine ah (k:=66) λk hk=>(lq.af k _).trans ?_;unfold lq.p;rw[mY _ (by grind)]
 have:=ci (B:=λself v=>lq.b0 self (λz=>lq.q0 (p,rs,()) z) (p,rs,()) v) rs (λ(s:List UInt8) (i:Int)=>(s,i)) (λ_ s r=>.inr (Vv s r)) (λs=>(s,())) (λ_ s=>s.length=64) (by rw[au];omega)
  (λi hi s self hI=>by
   show lq.b0 _ _ _ _=_;unfold lq.b0;have a_:(i:Int) < (rs.length:Int):=by omega
   have hx:=hr rs[i] (aP hi);have iZ:(0:Int)<=(rs[i]).1/\(rs[i]).1<=(s.length:Int):=by omega
   simp only[a_,aI,aO,aK,aJ,aC,aB hi,aA,iZ,cI]
   rfl)
  (λi hi s s' hI hs=>by
   grind [JL]) (λs self hI=>by
   show lq.b0 _ _ _ _=_;unfold lq.b0;simp only[aU,aG,aE]
   rfl) p hp k Bys
 rw[gt] at this;exact this
theorem Mt (p:List UInt8) (rs:List cq) (hp:p.length=64) (hl:rs.length<=64) (hr:∀ r ∈ rs,0<=r.1/\r.1<=63):lm.ae (p,rs,())=some (K7 p rs,()):=by
 refine ah (k:=66) λk hk=>(lm.af k _).trans ?_;unfold lm.p;rw[nr _ (by grind)]
 have:=ci (B:=λself v=>lm.b0 self (λz=>lm.q0 (p,rs,()) z) (p,rs,()) v) rs (λ(s:List UInt8) (i:Int)=>(s,i)) (λ_ s r=>.inr (Vv s r)) (λs=>(s,())) (λ_ s=>s.length=64) (by rw[au];omega)
  (λi hi s self hI=>by
   show lm.b0 _ _ _ _=_;unfold lm.b0;have a_:(i:Int) < (rs.length:Int):=by omega
   have hx:=hr rs[i] (aP hi);have iZ:(0:Int)<=(rs[i]).1/\(rs[i]).1<=(s.length:Int):=by omega
   simp only[a_,aI,aO,aK,aJ,aC,aB hi,aA,iZ,cI]
   rfl)
  (λi hi s s' hI hs=>by
   grind [JL]) (λs self hI=>by
   show lm.b0 _ _ _ _=_;unfold lm.b0;simp only[aU,aG,aE]
   rfl) p hp k Bys
 rw[gt] at this;exact this
theorem ZO (ps:l_) (h:ps.length<=12):mH.ae (ps,())=some (ps,()):=by
 refine ah (k:=0) λk _=>(mH.af k _).trans ?_;show mH.p _=_;unfold mH.p;refine B8 (λe=>by grind) ?_;grind [cv]
def JM (q:l_) (r:bg):l_:=q.set r.2.2.1.toNat (K7 (q.getD r.2.2.1.toNat []) r.2.2.2.1)
def oR (ps:l_) (r:bg):Sum Int l_:=
 if ru r=0 then (if lD r.1 2 4 then (if (ps.length:Int) < r.2.2.1 then .inl 1 else .inr (JM (if r.2.2.1=(ps.length:Int) then ps++[wG] else ps) r)) else .inr ps) else .inl (ru r)
theorem yA {ps:l_} {r:bg} {c:Int} (h:oR ps r=.inl c):c≠0:=by
 grind [oR]
theorem Nd {q:l_} {r:bg} (hq:gp q) (hr:ru r=0) (hp:r.2.2.1.toNat < q.length):gp (JM q r):=by
 have hg:=yz hr;refine ⟨by simp[JM];exact hq.1,λp hm=>?_⟩
 rcases dK hm with h | h
 ·exact hq.2 p h
 ·subst h;have hx:q.getD r.2.2.1.toNat []=q[r.2.2.1.toNat]:=by simp[hp]
  rw[hx];exact K8 _ _ (hq.2 _ (aP hp)) (λx hx=>by grind)
theorem BK {ps vR:l_} {r:bg} (hp:gp ps) (h:oR ps r=.inr vR):gp vR:=by
 unfold oR at h;split at h
 ·rename_i hr;have hg:=yz hr;split at h
  ·split at h
   ·cases h
   ·rename_i hl;injection h with h;subst h;split
    ·rename_i he;refine Nd ⟨by simp;omega,λp hm=>?_⟩ hr (by simp;omega);rcases bR.1 hm with hm | hm
     ·exact hp.2 p hm
     grind [Aa]
    grind [Nd]
  grind
 ·cases h
theorem DE (ps:l_) (r:bg) (hp:gp ps) (hr:ru r=0):mg.ae (ps,r,())=some (match oR ps r with | .inl c=>(([]:l_),c,()) | .inr vR=>(vR,(0:Int),())):=by
 refine ah (k:=0) λk _=>(mg.af k _).trans ?_;show mg.p _=_;have hg:=yz hr;unfold mg.p oR;simp only[PX,hr,aJ,aA]
 cases ht:lD r.1 2 4 with
 | false=>rfl
 | true=>
  simp only[aN,aE,aJ];by_cases hl:(ps.length:Int) < r.2.2.1
  ·grind
  have zK:¬ r.2.2.1=12:=by omega
  simp only[hl,zK,aG,aE,aS,ZO ps hp.1,aA]
  have key:∀ q:l_,gp q->r.2.2.1.toNat < q.length->(if 0<=r.2.2.1/\r.2.2.1 < (q.length:Int) then ((q[r.2.2.1.toNat]?).bind λTq=>(lq.ae (Tq,r.2.2.2.1,())).bind λtd=>if 0<=r.2.2.1/\r.2.2.1 < (q.length:Int) then ((q[r.2.2.1.toNat]?).bind λx13=>some (q.set r.2.2.1.toNat td.1,(0:Int),())) else none) else none:Option mg.O)=some (JM q r,(0:Int),()):=λq hq a_=>by
   have hc:0<=r.2.2.1/\r.2.2.1 < (q.length:Int):=by omega
   simp only[hc,cI,aJ,aB a_,aA];rw[Ms _ _ (hq.2 _ (aP a_)) hg.2.2.2.2.2.2.1 (λx hx=>by grind)];grind [JM]
  by_cases he:r.2.2.1=(ps.length:Int)
  ·have Pz:ps.length+[wG].length<=b9:=cv (by grind);rw[aR he];simp only[he,aI,aO,FB,aA,Pz,aJ];rw[<-he];refine key _ ⟨by simp;omega,λp hm=>?_⟩ (by simp;omega);rcases bR.1 hm with hm | hm
   ·exact hp.2 p hm
   grind [Aa]
  grind
theorem RU (c:Int):f8.ae (c,())=some ((c,([]:List cq),([]:List (List UInt8)),()),()):=by
 refine ah (k:=0) λk _=>(f8.af k _).trans ?_;rfl
theorem GB (ps:l_) (r:bg) (hp:gp ps):fj.ae (ps,r,())=some (match oR ps r with | .inl c=>((c,([]:List cq),([]:l_),()),()) | .inr vR=>(((0:Int),([]:List cq),vR,()),())):=by
 refine ah (k:=14) λk hk=>(fj.af k _).trans ?_;unfold fj.p;have zK:¬ (12:Int) < (ps.length:Int):=by have:=hp.1;omega
 simp only[zK,aG,aE]
 have main:fj.q0 (ps,r,()) ()=some (match oR ps r with | .inl c=>((c,([]:List cq),([]:l_),()),()) | .inr vR=>(((0:Int),([]:List cq),vR,()),())):=by
  show fj.q0 _ _=_;unfold fj.q0 oR;simp only[Fz,RU,xS ps hp,Hm,aA];by_cases hr:ru r=0;rotate_left
  ·grind
  have hg:=yz hr;simp only[hr,aI,aN,aE,aJ]
  cases ht:lD r.1 2 4 with
  | false=>rfl
  | true=>
   simp only[aN,aE,aJ];by_cases hl:(ps.length:Int) < r.2.2.1
   ·grind
   have zK:¬ r.2.2.1=12:=by omega
   simp only[hl,zK,aG,aE,aS]
   have key:∀ q:l_,gp q->r.2.2.1.toNat < q.length->(if 0<=r.2.2.1/\r.2.2.1 < (q.length:Int) then ((q[r.2.2.1.toNat]?).bind λFq=>(q[r.2.2.1.toNat]?).bind λPN=>(lm.ae (PN,r.2.2.2.1,())).bind λZt=>if 0<=r.2.2.1/\r.2.2.1 < (q.length:Int) then ((q[r.2.2.1.toNat]?).bind λae_=>some (((0:Int),([]:List cq),q.set r.2.2.1.toNat Zt.1,()),())) else none) else none:Option fj.O)=some (((0:Int),([]:List cq),JM q r,()),()):=λq hq a_=>by
    have hc:0<=r.2.2.1/\r.2.2.1 < (q.length:Int):=by omega
    simp only[hc,cI,aJ,aB a_,aA];rw[Mt _ _ (hq.2 _ (aP a_)) hg.2.2.2.2.2.2.1 (λx hx=>by grind)];grind [JM]
   by_cases he:r.2.2.1=(ps.length:Int)
   ·have Pz:ps.length+[wG].length<=b9:=cv (by grind);rw[aR he];simp only[he,aI,aO,FC,aA,Pz,aJ];rw[<-he];refine key _ ⟨by simp;omega,λp hm=>?_⟩ (by simp;omega);rcases bR.1 hm with hm | hm
    ·exact hp.2 p hm
    grind [Aa]
   grind
 have:=ci (B:=λself v=>fj.b0 self (λz=>fj.q0 (ps,r,()) z) (ps,r,()) v) ps (λ(s:Unit) (i:Int)=>i) (λ_ s x=>.inr s) (λs=>(match oR ps r with | .inl c=>((c,([]:List cq),([]:l_),()),()) | .inr vR=>(((0:Int),([]:List cq),vR,()),()))) (λi s=>True) (by grind [au])
  (λi hi s self hI=>by
   show fj.b0 _ _ _ _=_;unfold fj.b0;have a_:(i:Int) < (ps.length:Int):=by omega
   have hx:((ps[i].length:Nat):Int)=64:=by have:=hp.2 ps[i] (aP hi);omega
   grind)
  (λ_ _ _ _ _ _=>trivial) (λs self hI=>by
   grind [fj.b0]) () trivial k (by grind)
 rw[gt (g:=λs _=>s)] at this;exact this
def zk (xs:List bg):l_×Int×Unit:=bq (λ_ ps r=>match oR ps r with | .inl c=>.inl (([]:l_),c,()) | .inr vR=>.inr vR) (λps=>(ps,(0:Int),())) 0 xs []
theorem K9 (xs:List bg):(zk xs).2.1=0->gp (zk xs).1:=by
 have main:∀ (xs:List bg) (i:Nat) (ps:l_),gp ps->(bq (λ_ ps r=>match oR ps r with | .inl c=>.inl (([]:l_),c,()) | .inr vR=>.inr vR) (λps=>(ps,(0:Int),())) i xs ps).2.1=0->gp (bq (λ_ ps r=>match oR ps r with | .inl c=>.inl (([]:l_),c,()) | .inr vR=>.inr vR) (λps=>(ps,(0:Int),())) i xs ps).1:=by
  intro xs
  induction xs <;> grind [bq,yA,BK]
 exact main xs 0 [] ⟨by simp,λ_ h=>by cases h⟩
theorem RV (xs:List bg) (hx:xs.length<=maxLen):nR.ae (xs,())=some (zk xs):=by
 refine ah (k:=xs.length+1) λk hk=>(nR.af k _).trans ?_
 exact ci (B:=λself v=>nR.b0 self (λz=>nR.q0 (xs,()) z) (xs,()) v) xs (λ(s:l_) (i:Int)=>(s,i)) (λ_ ps r=>match oR ps r with | .inl c=>.inl (([]:l_),c,()) | .inr vR=>.inr vR) (λps=>(ps,(0:Int),())) (λ_ s=>gp s) hx
  (λi hi s self hI=>by
   grind [nR.b0,Int.toNat_natCast,GB,yA])
  (λi hi s s' hI hs=>by
   grind [BK]) (λs self hI=>by
   show nR.b0 _ _ _ _=_;unfold nR.b0;simp only[aU,aG,aE]
   rfl) [] ⟨by simp,λ_ h=>by cases h⟩ k Bys
theorem IQ (xs:List bg) (hx:xs.length<=maxLen):oK.ae (xs,())=some (zk xs):=by
 refine ah (k:=xs.length+1) λk hk=>(oK.af k _).trans ?_
 exact ci (B:=λself v=>oK.b0 self (λz=>oK.q0 (xs,()) z) (xs,()) v) xs (λ(s:l_) (i:Int)=>(s,i)) (λ_ ps r=>match oR ps r with | .inl c=>.inl (([]:l_),c,()) | .inr vR=>.inr vR) (λps=>(ps,(0:Int),())) (λ_ s=>gp s) hx
  (λi hi s self hI=>by
   grind [oK.b0,Int.toNat_natCast,FA,DE,oR])
  (λi hi s s' hI hs=>by
   grind [BK]) (λs self hI=>by
   show oK.b0 _ _ _ _=_;unfold oK.b0;simp only[aU,aG,aE]
   rfl) [] ⟨by simp,λ_ h=>by cases h⟩ k Bys
theorem PY (ps:l_) (h:gp ps):zz (.aa (.aa u8)) ps<=12*65:=by
 obtain ⟨h1,h2⟩:=h
 have main:∀ ps:l_,(∀ p ∈ ps,p.length=64)->zz (.aa (.aa u8)) ps=65*ps.length:=by
  intro ps
  induction ps <;> grind [zz,nu,AS]
 grind
end OT
set_option linter.unusedSectionVars false
namespace OT
open Go
theorem IR {V R:Type} {B:(V->Option R)->V->Option R} (f:V->Option R) (I:V->Prop) (μ:V->Nat)
  (h:∀ v,I v->∀ self,B self v=f v\/∃ v',B self v=self v'/\f v'=f v/\I v'/\μ v' < μ v):∀ (k:Nat) (v:V),I v->μ v < k->am B k v=f v
 | 0,v,_,hk=>by omega
 | k+1,v,hI,hk=>by
  show B (am B k) v=f v
  rcases h v hI (am B k) with h1 | ⟨v',h1,h2,h3,h4⟩
  ·exact h1
  ·rw[h1,IR f I μ h k v' h3 Bys,h2]
def D0 (out:List cq) (y:UInt8):List cq:=match out[out.length - 1]? with
 | some r=>out.set (out.length - 1) (r.1,r.2.1++[y],())
 | none=>out
theorem PZ (out:List cq) (j:Int) (bs:List UInt8) (y:UInt8):D0 (out++[(j,bs,())]) y=out++[(j,bs++[y],())]:=by
 grind [D0]
def Bv:Nat->List (UInt8×UInt8)->List cq->Bool->List cq
 | _,[],out,_=>out
 | i,(x,y)::l,out,op=>if x=y then Bv (i+1) l out false else Bv (i+1) l (D0 (if op then out else out++[((i:Int),([]:List UInt8),())]) y) true
def FE (a b:List UInt8):List cq:=Bv 0 (a.zip b) [] false
theorem JN (out:List cq) (y:UInt8):(D0 out y).length=out.length:=by
 grind [D0]
theorem P0 {out:List cq} {y:UInt8} {n:Nat} (h:∀ r ∈ out,List.length r.2.1<=n):∀ r ∈ D0 out y,List.length r.2.1<=n+1:=λr hr=>by
 grind [D0]
theorem Hn:∀ (l:List (UInt8×UInt8)) (i:Nat) (out:List cq) (op:Bool),out.length<=i->(∀ r ∈ out,List.length r.2.1<=i)->(Bv i l out op).length<=i+l.length/\∀ r ∈ Bv i l out op,List.length r.2.1<=i+l.length
 | [],i,out,op,h1,h2=>⟨h1,h2⟩
 | (x,y)::l,i,out,op,h1,h2=>by
  simp only[Bv];have e:i+((x,y)::l).length=i+1+l.length:=by grind
  rw[e];split
  ·exact Hn l (i+1) out false Bys λr hr=>by grind
  ·refine Hn l (i+1) _ true ?_ ?_
   ·grind [JN]
   ·refine P0 λr hr=>?_;grind
theorem RW {a b:List UInt8} (h:a.length=64):(FE a b).length<=64/\∀ r ∈ FE a b,List.length r.2.1<=64:=by
 grind [Hn,FE]
def runN:List (UInt8×UInt8)->Nat
 | []=>0
 | (x,y)::l=>if x=y then 0 else runN l+1
theorem Tv:∀ (l:List (UInt8×UInt8)) (i:Nat) (out:List cq) (j:Int) (bs:List UInt8),Bv i l (out++[(j,bs,())]) true=Bv (i+runN l+1) (l.drop (runN l+1)) (out++[(j,bs++(l.take (runN l)).map (·.2),())]) false
 | [],i,out,j,bs=>by simp[Bv,runN]
 | (x,y)::l,i,out,j,bs=>by
  simp only[Bv,runN];by_cases h:x=y
  ·simp[h]
  ·simp only[h,aS,aJ];rw[PZ,Tv l (i+1) out j (bs++[y])];grind
theorem P1 {x y:UInt8}:((x.toNat:Int)=(y.toNat:Int))↔x=y:=by
 constructor
 ·intro h;exact fM.1 Bys
 grind
theorem wH {a b:List UInt8} {i:Nat} (ha:i < a.length) (hb:i < b.length):(a.zip b).drop i=(a[i],b[i])::(a.zip b).drop (i+1):=by
 grind [List.drop_eq_getElem_cons]
section
variable {a b:List UInt8} (ha:a.length=64) (hb:b.length=64)
include ha hb
theorem IS:pJ.ae (a,b,())=some (FE a b,()):=by
 refine ah (k:=100) λk hk=>(pJ.af k _).trans ?_
 have:=qV (B:=λself v=>pJ.b0 self (pJ.q0 (a,b,())) (a,b,()) v) (λv=>(Bv v.2.2.toNat ((a.zip b).drop v.2.2.toNat) v.1 v.2.1,()))
  (λv=>0<=v.2.2/\v.2.2<=64/\List.length v.1<=v.2.2.toNat/\(v.2.1=true->v.1≠[])/\∀ r ∈ v.1,List.length r.2.1<=v.2.2.toNat) (λv=>64 - v.2.2.toNat) (λv hv self=>by
   obtain ⟨out,op,n⟩:=v;obtain ⟨h0,h1,h2,h3,h4⟩:=hv;simp only at h0 h1 h2 h3 h4
   obtain ⟨i,rfl⟩:∃ i:Nat,n=(i:Int):=⟨n.toNat,by omega⟩
   simp only[aC] at h2 h4;unfold pJ.b0;by_cases hi:i=64
   ·left;subst hi;have:¬ ((64:Nat):Int) < (a.length:Int):=by omega
    simp only[this,aG,aE,aC];rw[eK (by grind)];rfl
   ·right;have hia:i < a.length:=by omega
    have hib:i < b.length:=by omega
    have a_:(i:Int) < (a.length:Int):=by omega
    have hw:ag ((i:Int)+1)=((i+1:Nat):Int):=by grind [bh]
    simp only[a_,aI,aO,aK,aJ,aC,aB hia,aB hib,aA,hw,P1];by_cases he:a[i]=b[i]
    ·refine ⟨(out,false,((i+1:Nat):Int)),by grind,?_,⟨aK _,by grind,by grind,(λe=>by cases e),λr hr=>by grind⟩,by grind⟩
     grind [wH,Bv]
    ·have key:∀ (q:List cq),q≠[]->q.length<=i+1->(∀ r ∈ q,List.length r.2.1<=i)->(if 0<=ag ((q.length:Int) - (1:Int))/\ag ((q.length:Int) - (1:Int)) < (q.length:Int) then (q[(ag ((q.length:Int) - (1:Int))).toNat]?).bind λCS=>(q[(ag ((q.length:Int) - (1:Int))).toNat]?).bind λBl=>(q[(ag ((q.length:Int) - (1:Int))).toNat]?).bind λHd=>if Bl.2.1.length+[b[i]].length<=b9 then ((q.set (ag ((q.length:Int) - (1:Int))).toNat Hd)[(ag ((q.length:Int) - (1:Int))).toNat]?).bind λub=>self ((q.set (ag ((q.length:Int) - (1:Int))).toNat Hd).set (ag ((q.length:Int) - (1:Int))).toNat (ub.1,Bl.2.1++[b[i]],ub.2.2),true,((i+1:Nat):Int)) else none else none)=self (D0 q b[i],true,((i+1:Nat):Int)):=λq hq hl hr=>by
      have Ju:0 < q.length:=List.length_pos_iff.2 hq;have xB:ag ((q.length:Int) - 1)=((q.length - 1:Nat):Int):=by grind [bh]
      have afZ:q.length - 1 < q.length:=by omega
      rw[xB,aR ⟨aK _,by omega⟩];grind [cv,D0,List.set_getElem_self]
     simp only[he,aG,aE];have hlen:out.length+[((i:Int),([]:List UInt8),())].length<=b9:=cv (by grind);refine ⟨(D0 (if op then out else out++[((i:Int),([]:List UInt8),())]) b[i],true,((i+1:Nat):Int)),?_,?_,⟨aK _,by grind,?_,λ_ hn=>?_,?_⟩,by grind⟩
     ·cases op with
      | true=>
       simp only[aN,aE,aJ];exact key out (h3 rfl) Bys h4
      | false=>
       simp only[bZ,aO,aF,aS];rw[aR hlen];refine key _ (by simp) (by grind) λr hr=>?_;grind
     ·grind [Int.toNat_natCast,wH,Bv]
     ·grind [JN]
     ·grind [JN]
     ·simp only[aC];refine P0 λr hr=>?_
      grind) k (([]:List cq),false,(0:Int)) ⟨gX _,by grind,aZ _,(λe=>by cases e),λr hr=>by cases hr⟩ (by grind)
 exact this
theorem RX:jB.ae (a,b,())=some (FE a b,()):=by
 refine ah (k:=200) λk hk=>(jB.af k _).trans ?_
 have:=qV (B:=λself v=>jB.B0 k self (jB.q1 (a,b,())) (a,b,()) v) (λv=>(Bv v.2.2.2.toNat ((a.zip b).drop v.2.2.2.toNat) v.2.2.1 false,()))
  (λv=>v.1=a/\v.2.1=b/\0<=v.2.2.2/\v.2.2.2<=65/\List.length v.2.2.1<=v.2.2.2.toNat) (λv=>65 - v.2.2.2.toNat) (λv hv self=>by
   obtain ⟨a',b',out,n⟩:=v;obtain ⟨rfl,rfl,h0,h1,h2⟩:=hv;simp only at h0 h1 h2 ha hb
   obtain ⟨i,rfl⟩:∃ i:Nat,n=(i:Int):=⟨n.toNat,by omega⟩
   simp only[aC] at h2;show jB.b0 _ _ _ _ _=_\/∃ v',jB.b0 _ _ _ _ _=_/\_;unfold jB.b0;by_cases hi:64<=i
   ·left;have:¬ (i:Int) < (64:Int):=by omega
    simp only[this,aG,aE,aC];rw[eK (by grind)];rfl
   ·right;have hia:i < a'.length:=by omega
    have hib:i < b'.length:=by omega
    have a_:(i:Int) < (64:Int):=by omega
    have hw:ag ((i:Int)+1)=((i+1:Nat):Int):=by grind [bh]
    simp only[a_,aI,aO,aK,aJ,aC,aB hia,aB hib,aA,hw,P1];by_cases he:a'[i]=b'[i]
    ·refine ⟨(a',b',out,((i+1:Nat):Int)),by grind,?_,⟨rfl,rfl,by grind,by grind,by grind⟩,by grind⟩
     grind [wH,Bv]
    ·simp only[he,aG,aE]
     obtain ⟨n,hn⟩:∃ n,n=runN ((a'.zip b').drop i):=⟨_,rfl⟩
     have hle:∀ l:List (UInt8×UInt8),runN l<=l.length:=λl=>by
      induction l <;> grind [runN]
     have zW:i+n<=64:=by
      grind
     have iZ:jB.r1 k self (jB.q1 (a',b',())) (a',b',()) a' b' out (i:Int) (i:Int)=jB.q0 self (jB.q1 (a',b',())) (a',b',()) a' b' out (i:Int) ((i+n:Nat):Int):=by
      have:=IR (B:=λw v=>jB.b1 w (jB.q0 self (jB.q1 (a',b',())) (a',b',()) a' b' out (i:Int)) (a',b',()) a' b' out (i:Int) v) (λv=>jB.q0 self (jB.q1 (a',b',())) (a',b',()) a' b' out (i:Int) (v+(runN ((a'.zip b').drop v.toNat):Int)))
       (λv=>0<=v/\v<=64) (λv=>64 - v.toNat) (λv hv afE=>by
        obtain ⟨g0,g1⟩:=hv
        obtain ⟨j,rfl⟩:∃ j:Nat,v=(j:Int):=⟨v.toNat,by omega⟩
        unfold jB.b1;by_cases hj:j=64
        ·grind
        ·have hja:j < a'.length:=by omega
         have hjb:j < b'.length:=by omega
         have a_:(j:Int) < (64:Int):=by omega
         have hw:ag ((j:Int)+1)=((j+1:Nat):Int):=by grind [bh]
         simp only[a_,aI,aO,aK,aJ,aC,aB hja,aB hjb,aA,hw,P1];by_cases he2:a'[j]=b'[j]
         ·grind [wH,runN]
         grind [Int.toNat_natCast,wH,runN]) k (i:Int) ⟨by omega,by omega⟩ (by grind)
      refine this.trans ?_;grind
     have hn1:1<=n:=by
      grind [wH,runN]
     refine ⟨(a',b',out++[((i:Int),(b'.take (i+n)).drop i,())],((i+n+1:Nat):Int)),?_,?_,⟨rfl,rfl,by grind,by grind,by grind⟩,by grind⟩
     ·refine iZ.trans ?_;unfold jB.q0;rw[aR ⟨by omega,by omega,by omega⟩];simp only[aC];grind [mY,cv,bh]
     ·simp only[aC];rw[wH hia hib];simp only[Bv,he,aS,aF]
      have Ek:n=runN ((a'.zip b').drop (i+1))+1:=by
       grind [wH,runN]
      rw[PZ,Tv];have e1:i+1+runN ((a'.zip b').drop (i+1))+1=i+n+1:=by omega
      have e2:((a'.zip b').drop (i+1)).drop (runN ((a'.zip b').drop (i+1))+1)=(a'.zip b').drop (i+n+1):=by grind [List.drop_drop]
      rw[e1,e2]
      grind [List.map_snd_zip,List.map_take,List.map_drop,List.drop_eq_getElem_cons]) k (a,b,([]:List cq),(0:Int)) ⟨rfl,rfl,by grind,by grind,aZ _⟩ (by grind)
 exact this
end
end OT
namespace OT
open Go
def AW (c:UInt8):Bool:=!decide ((c.toNat:Int) < 97)&&!decide ((122:Int) < (c.toNat:Int))
def DF (s:List UInt8):Bool:=s.all AW&&decide (s.length<=8)
def ly (x:Row):Int:=if lD x.1 0 3&&(lD x.2.1 1 99&&lD x.2.2.1 0 999) then (if DF x.2.2.2.1 then 0 else 5) else 3
theorem len8 (s:List UInt8):decide ((s.length:Int)<=8)=decide (s.length<=8):=by
 grind
theorem RY (s:List UInt8) (h:s.length<=maxLen):oW.ae (s,())=some (DF s,()):=by
 refine ah (k:=s.length+1) λk hk=>(oW.af k _).trans ?_
 have:=ci (B:=λself v=>oW.b0 self (λz=>oW.q0 (s,()) z) (s,()) v) s (λ(_:Unit) (i:Int)=>i) (λ_ _ x=>if AW x then .inr () else .inl (false,())) (λ_=>(decide (s.length<=8),())) (λ_ _=>True) h
  (λi hi _ self _=>by
   grind [oW.b0,AW]) (λ_ _ _ _ _ _=>trivial) (λ_ self _=>by
   grind [oW.b0,oW.q0,len8]) () trivial k Bys
 refine this.trans ?_;rw[tE AW (false,()) (λ_=>(decide (s.length<=8),()))];grind [DF]
theorem BL (x:Row) (h:List.length x.2.2.2.1<=maxLen):jA.ae (x,())=some (ly x,()):=by
 refine ah (k:=0) λk _=>(jA.af k _).trans ?_;show jA.p _=_;unfold jA.p ly lD;simp only[pu,RY _ h,aA];grind
theorem BM (x:Row) (h:List.length x.2.2.2.1<=maxLen):f_.ae (x,())=some (ly x,()):=by
 refine ah (k:=List.length x.2.2.2.1+1) λk hk=>(f_.af k _).trans ?_
 have:=ci (B:=λself v=>f_.b0 self (λz=>f_.q0 (x,()) z) (x,()) v) x.2.2.2.1 (λ(_:Unit) (i:Int)=>i) (λ_ _ c=>if AW c then .inr () else .inl (5,())) (λ_=>(0,())) (λ_ _=>True) h
  (λi hi _ self _=>by
   grind [f_.b0,AW]) (λ_ _ _ _ _ _=>trivial) (λ_ self _=>by
   grind [f_.b0,f_.q0]) () trivial k Bys
 rw[tE AW (5,()) (λ_=>(0,()))] at this;have this:f_.r0 k (x,()) 0=_:=this;unfold f_.p ly lD DF;simp only[uV,this,aA]
 have h8:decide ((8:Int) < (List.length x.2.2.2.1:Int))=!decide (List.length x.2.2.2.1<=8):=by
  grind
 rw[h8];cases decide ((0:Int)<=x.1) <;> cases decide (x.1<=3) <;> cases decide ((1:Int)<=x.2.1) <;> cases decide (x.2.1<=99) <;> cases decide ((0:Int)<=x.2.2.1) <;> cases decide (x.2.2.1<=999) <;> cases decide (List.length x.2.2.2.1<=8) <;> cases (x.2.2.2.1).all AW <;> rfl
def rl (x:Row):Prop:=List.length x.2.2.2.1<=maxLen
def cl (c:Change):Prop:=rl c.2.1/\rl c.2.2.2.1
def sameKey (a b:Row):Bool:=decide (a.1=b.1)&&decide (a.2.1=b.2.1)
def cr (a b:Int×Int):Bool:=decide (a.1 < b.1)||(decide (a.1=b.1)&&decide (a.2 < b.2))
def om (c:Change):Int:=if (!c.1&&!c.2.2.1)||(c.1&&c.2.2.1&&!sameKey c.2.1 c.2.2.2.1) then 1 else if c.1&&!decide (ly c.2.1=0) then ly c.2.1 else if c.2.2.1 then ly c.2.2.2.1 else 0
def AY (c:Change):Int:=if om c=0 then (if c.1&&c.2.2.1&&Ty.eq bd c.2.1 c.2.2.2.1 then 1 else 0) else om c
def ck (c:Change):Int×Int:=if c.2.2.1 then (c.2.2.2.1.1,c.2.2.2.1.2.1) else (c.2.1.1,c.2.1.2.1)
theorem NV (c:Change) (h:cl c):qg.ae (c,())=some (om c,()):=by
 refine ah (k:=0) λk _=>(qg.af k _).trans ?_;show qg.p _=_;unfold qg.p om sameKey;simp only[BL _ h.1,BL _ h.2,aA];grind
theorem Au (a b:Row):jk.ae (a,b,())=some (cr (a.1,a.2.1) (b.1,b.2.1),()):=by
 refine ah (k:=0) λk _=>(jk.af k _).trans ?_;grind [jk.p,cr]
theorem vl (a b:Row):jw.ae (a,b,())=some (if cr (a.1,a.2.1) (b.1,b.2.1) then -1 else if cr (b.1,b.2.1) (a.1,a.2.1) then 1 else 0,()):=by
 refine ah (k:=0) λk _=>(jw.af k _).trans ?_;grind [jw.p,Au]
theorem K_ (a b:Row):decide ((if cr (a.1,a.2.1) (b.1,b.2.1) then (-1:Int) else if cr (b.1,b.2.1) (a.1,a.2.1) then 1 else 0)=0)=sameKey a b:=by
 grind [cr,sameKey]
theorem Bn (c:Change) (h:cl c):jd.ae (c,())=some (om c,()):=by
 refine ah (k:=0) λk _=>(jd.af k _).trans ?_;show jd.p _=_;unfold jd.p om;simp only[BM _ h.1,BM _ h.2,vl,aA,K_];grind
theorem Ab (c:Change) (h:cl c):kW.ae (c,())=some (AY c,()):=by
 refine ah (k:=0) λk _=>(kW.af k _).trans ?_;grind [kW.p,AY,NV]
theorem Ho (c:Change) (h:cl c):jr.ae (c,())=some (AY c,()):=by
 refine ah (k:=0) λk _=>(jr.af k _).trans ?_;grind [jr.p,AY,Bn]
theorem BN (c:Change):lj.ae (c,())=some ((ck c).1,(ck c).2,()):=by
 refine ah (k:=0) λk _=>(lj.af k _).trans ?_;grind [lj.p,ck]
def rx (c:Change):Row:=if c.2.2.1 then c.2.2.2.1 else c.2.1
theorem yB (c:Change):((rx c).1,(rx c).2.1)=ck c:=by grind [rx,ck]
theorem vm (c:Change):cz.ae (c,())=some (rx c,()):=by
 refine ah (k:=0) λk _=>(cz.af k _).trans ?_;grind [cz.p,rx]
theorem aaX (n:Nat) (m:Nat):decide ((m:Int) < (n:Int))=decide (m < n):=by
 grind
theorem FF {i:Nat} (hi:0 < i) (h:i<=maxLen):ag ((i:Int) - 1)=((i - 1:Nat):Int):=by
 grind [au,bh]
theorem Vw {x:Row} (h:uG bd x):rl x:=h.2.2.2.1
theorem aes {c:Change} (h:uG aq c):cl c:=⟨Vw h.2.1,Vw h.2.2.2.1⟩
end OT
namespace OT
open Go
theorem eh {V S O α:Type} {B:(V->Option O)->V->Option O} (xs:List α) (enc:S->Int->V) (f:Nat->S->α->Sum (Option O) S) (fin:S->Option O) (I:Nat->S->Prop) (yc:xs.length<=maxLen)
  (iZ:∀ (i:Nat) (hi:i < xs.length) (s:S) self,I i s->B self (enc s (i:Int))=match f i s xs[i] with | .inl o=>o | .inr s'=>self (enc s' (ag ((i:Int)+1))))
  (hI:∀ (i:Nat) (hi:i < xs.length) (s s':S),I i s->f i s xs[i]=.inr s'->I (i+1) s')
  (mL:∀ (s:S) self,I xs.length s->B self (enc s (xs.length:Int))=fin s) (s:S) (h0:I 0 s):∀ k,xs.length < k->am B k (enc s 0)=bq f fin 0 xs s:=by
 have main:∀ (m i:Nat) (s:S),xs.length - i=m->i<=xs.length->I i s->∀ k,m < k->am B k (enc s (i:Int))=bq f fin i (xs.drop i) s:=by
  intro m
  induction m with
  | zero=>
   intro i s hm hi hs k hk;have rE:i=xs.length:=by omega
   subst rE;cases k <;> grind [am,bq]
  | succ m ih=>
   intro i s hm hi hs k hk;have a_:i < xs.length:=by omega
   cases k <;> grind [am,List.drop_eq_getElem_cons,bq,bh,au]
 intro k hk
 simpa using main xs.length 0 s Bys Bys h0 k hk
theorem Ac {O α:Type} (p:α->Bool) (a:O) (fin:Unit->O):∀ (xs:List α) (i:Nat),bq (λ_ _ x=>if p x then .inl a else .inr ()) fin i xs ()=if xs.any p then a else fin ()
 | [],_=>rfl
 | x::xs,i=>by
  simp only[bq,gF];by_cases h:p x=true
  ·simp[h]
  ·simp[h,Ac p a fin xs (i+1)]
def xI {α:Type} (p:α->Bool):Nat->List α->Int
 | _,[]=>-1
 | i,x::xs=>if p x then (i:Int) else xI p (i+1) xs
theorem BO {α:Type} (p:α->Bool):∀ (xs:List α) (i:Nat),bq (λi _ x=>if p x then .inl ((i:Int),()) else .inr ()) (λ_=>((-1:Int),())) i xs ()=(xI p i xs,())
 | [],_=>rfl
 | x::xs,i=>by
  simp only[bq,xI];by_cases h:p x=true
  ·simp[h]
  ·simp[h,BO p xs (i+1)]
theorem Nf {α:Type} (p:α->Bool):∀ (xs:List α) (i:Nat),decide (0<=xI p i xs)=xs.any p
 | [],_=>rfl
 | x::xs,i=>by
  simp only[xI,gF];by_cases h:p x=true
  ·simp[h]
  ·simp[h,Nf p xs (i+1)]
theorem FH (a b:Key):Ty.eq bp a b=decide (a=b):=by
 obtain ⟨a1,a2,⟨⟩⟩:=a;obtain ⟨b1,b2,⟨⟩⟩:=b;show (decide (a1=b1)&&(decide (a2=b2)&&true))=decide ((a1,a2,())=(b1,b2,()));grind
def La (c:Change):Key:=((ck c).1,(ck c).2,())
def mE (ks:List Key) (k:Key):Bool:=ks.any λx=>decide (x=k)
theorem CW {ks:List Key} {k:Key}:mE ks k=true↔k ∈ ks:=by simp[mE]
def DG (k:Key):Bool:=lD k.1 0 3&&lD k.2.1 1 99
theorem P2 (c:Change):qh.ae (c,())=some (La c,()):=by
 refine ah (k:=0) λk _=>(qh.af k _).trans ?_;show qh.p _=_;unfold qh.p;simp only[BN,aA];rfl
theorem abL (c:Change):pe.ae (c,())=some (La c,()):=by
 refine ah (k:=0) λk _=>(pe.af k _).trans ?_;grind [pe.p,La,vm,yB]
theorem RZ (x:Key):t_.ae (x,())=some (DG x,()):=by
 refine ah (k:=0) λk _=>(t_.af k _).trans ?_;grind [t_.p,DG,lD,pu]
theorem ZP (x:Key):vj.ae (x.1,x.2.1,())=some (DG x,()):=by
 refine ah (k:=0) λk _=>(vj.af k _).trans ?_;grind [vj.p,DG,lD,uV]
theorem P3 (x:Tx) (k0:Key) (h:List.length x.2.2.2.1<=maxLen):ko.ae (x,k0,())=some (mE x.2.2.2.1 k0,()):=by
 refine ah (k:=List.length x.2.2.2.1+1) λk hk=>(ko.af k _).trans ?_
 have:=ci (B:=λself v=>ko.b0 self (λz=>ko.q0 (x,k0,()) z) (x,k0,()) v) x.2.2.2.1 (λ(_:Unit) (i:Int)=>i) (λ_ _ y=>if decide (y=k0) then .inl (true,()) else .inr ()) (λ_=>(false,())) (λ_ _=>True) h
  (λi hi s self _=>by
   grind [ko.b0,FH])
  (λ_ _ _ _ _ _=>trivial) (λs self _=>by
   show ko.b0 _ _ _ _=_;unfold ko.b0;simp only[aU,aG,aE]
   rfl) () trivial k Bys
 rw[Ac] at this;refine aL this ?_;grind [mE]
theorem contains_eq (ks:List Key) (k0:Key) (h:ks.length<=maxLen):l5.ae (ks,k0,())=some (mE ks k0,()):=by
 have hix:kD.ae (ks,k0,())=some (xI (λy=>decide (k0=y)) 0 ks,()):=by
  refine ah (k:=ks.length+1) λk hk=>(kD.af k _).trans ?_
  have:=ci (B:=λself v=>kD.b0 self (λz=>kD.q0 (ks,k0,()) z) (ks,k0,()) v) ks (λ(_:Unit) (i:Int)=>i) (λi _ y=>if decide (k0=y) then .inl ((i:Int),()) else .inr ()) (λ_=>((-1:Int),())) (λ_ _=>True) h
   (λi hi s self _=>by
    grind [kD.b0,FH])
   (λ_ _ _ _ _ _=>trivial) (λs self _=>by
    show kD.b0 _ _ _ _=_;unfold kD.b0;simp only[aU,aG,aE]
    rfl) () trivial k Bys
  rw[BO] at this;exact this
 refine ah (k:=0) λk _=>(l5.af k _).trans ?_;grind [l5.p,Nf,mE]
def tl (x:Tx):Prop:=List.length x.2.1<=1048576/\List.length x.2.2.1<=1048576/\List.length x.2.2.2.1<=1048576/\∀ c ∈ x.2.1,cl c
def Av (ks:List Key) (c:Change):Int:=if AY c=0 then (if mE ks (La c) then 0 else 8) else AY c
def Lb (n last:Int) (ms:List Int):Bool:=bq (λ_ last m=>if lD m last n then .inr m else .inl false) (λ_=>true) 0 ms last
def tP (ks:List Key) (i:Nat) (k:Key):Int:=if DG k then (if mE (ks.take i) k then 6 else 0) else 3
def zl (ks:List Key):Int:=bq (λi (_:Unit) k=>if tP ks i k=0 then .inr () else .inl (tP ks i k)) (λ_=>(0:Int)) 0 ks ()
def wI (x:Tx):Int:=if decide (8 < List.length x.2.2.1)||decide (12 < List.length x.2.2.2.1) then 2 else if Lb (List.length x.2.1:Int) 0 x.2.2.1 then zl x.2.2.2.1 else 3
def FI (x:Tx):Int:=nO (Av x.2.2.2.1) x.2.1
theorem P4 (n:Int) (E:Option (Int×Unit)):∀ (ms:List Int) (i:Nat) (last:Int),bq (λ_ last m=>if lD m last n then .inr m else .inl (some ((3:Int),()))) (λ_=>E) i ms last=if bq (λ_ last m=>if lD m last n then .inr m else .inl false) (λ_=>true) i ms last then E else some ((3:Int),())
 | [],_,_=>rfl
 | m::ms,i,last=>by
  simp only[bq];by_cases hb:lD m last n=true
  ·simp only[hb,aJ];exact P4 n E ms _ _
  ·simp[hb]
theorem R4 (x:Tx) (h:tl x):mV.ae (x,())=some (FI x,()):=by
 obtain ⟨h1,h2,h3,h4⟩:=h;refine ah (k:=List.length x.2.1+1) λk hk=>(mV.af k _).trans ?_
 have:=ci (B:=λself v=>mV.b0 self (λz=>mV.q0 (x,()) z) (x,()) v) x.2.1 (λ(_:Unit) (i:Int)=>i) (λ_ _ c=>if Av x.2.2.2.1 c=0 then .inr () else .inl (Av x.2.2.2.1 c,())) (λ_=>(0,())) (λ_ _=>True) (by rw[au];omega)
  (λi hi s self _=>by
   show mV.b0 _ _ _ _=_;unfold mV.b0;have a_:(i:Int) < (List.length x.2.1:Int):=by omega
   simp only[a_,aI,aO,aK,aJ,aC,aB hi,aA,Ab _ (h4 _ (aP hi)),P2]
   grind [P3,au,Av])
  (λ_ _ _ _ _ _=>trivial) (λs self _=>by
   show mV.b0 _ _ _ _=_;unfold mV.b0;simp only[aU,aG,aE]
   rfl) () trivial k Bys
 rw[BC (Av x.2.2.2.1) (λc=>(c,())) (λ_=>((0:Int),()))] at this;refine aL this ?_;grind [FI]
theorem ZQ {m last n:Int} (h:0<=last):(lD m 0 n&&decide (last<=m))=lD m last n:=by
 grind [lD]
theorem P5 (x:Tx) (h:tl x):dx.ae (x,())=some (wI x,()):=by
 obtain ⟨h1,h2,h3,h4⟩:=h;refine ah (k:=20) λk hk=>(dx.af k _).trans ?_;unfold dx.p wI;by_cases hm:8 < List.length x.2.2.1
 ·grind
 have Ng:¬ (8:Int) < (List.length x.2.2.1:Int):=by omega
 by_cases nM:12 < List.length x.2.2.2.1
 ·grind
 have sK:¬ (12:Int) < (List.length x.2.2.2.1:Int):=by omega
 simp only[hm,Ng,sK,nM,aG,aE,fU,aF,aS]
 have second:dx.r1 k (x,()) (x,(0:Int))=some (zl x.2.2.2.1,()):=by
  have inner:∀ (self:(Tx×Int)->Option dx.O) (e2:Unit->Option dx.O) (i:Nat) (hi:i < List.length x.2.2.2.1),dx.r2 k self e2 (x,()) x (i:Int) (0:Int)=if mE (x.2.2.2.1.take i) (x.2.2.2.1)[i] then some ((6:Int),()) else self (x,ag ((i:Int)+1)):=λself e2 i hi=>by
   have kV:(x.2.2.2.1.take i).length=i:=by simp;omega
   have:=eh (B:=λim v=>dx.b2 im (λz=>dx.q1 self e2 (x,()) x (i:Int) z) (x,()) x (i:Int) v) (x.2.2.2.1.take i) (λ(_:Unit) (j:Int)=>j) (λ_ _ y=>if decide (y=(x.2.2.2.1)[i]) then .inl (some ((6:Int),())) else .inr ()) (λ_=>self (x,ag ((i:Int)+1))) (λ_ _=>True) (by rw[au];omega)
    (λj hj s im _=>by
     grind [dx.b2,FH])
    (λ_ _ _ _ _ _=>trivial) (λs im _=>by
     show dx.b2 _ _ _ _ _ _=_;unfold dx.b2;simp only[kV,aU,aG,aE]
     rfl) () trivial k Bys
   rw[Ac] at this;exact this
  have:=ci (B:=λself v=>dx.B1 k self (λz=>dx.q2 (x,()) z) (x,()) v) x.2.2.2.1 (λ(_:Unit) (i:Int)=>(x,i)) (λi _ y=>if tP x.2.2.2.1 i y=0 then .inr () else .inl (tP x.2.2.2.1 i y,())) (λ_=>(0,())) (λ_ _=>True) (by rw[au];omega)
   (λi hi s self _=>by
    show dx.b1 _ _ _ _ _=_
    grind [dx.b1,tP,Int.toNat_natCast,RZ])
   (λ_ _ _ _ _ _=>trivial) (λs self _=>by
    show dx.b1 _ _ _ _ _=_;unfold dx.b1;simp only[aU,aG,aE]
    rfl) () trivial k Bys
  refine aL this ?_;unfold zl;generalize GC:x.2.2.2.1=ks
  have gen:∀ (f:Nat->Key->Int) (ys:List Key) (i:Nat),bq (λi (_:Unit) y=>if f i y=0 then .inr () else .inl (f i y,())) (λ_=>((0:Int),())) i ys ()=(bq (λi (_:Unit) y=>if f i y=0 then .inr () else .inl (f i y)) (λ_=>(0:Int)) i ys (),()):=by
   intro f ys
   induction ys <;> grind [bq]
  simp_all
 have:=eh (B:=λself v=>dx.b0 self (λz=>dx.Q0 k (x,()) z) (x,()) v) x.2.2.1 (λ(_:Int) (i:Int)=>i) (λi last m=>if lD m last (List.length x.2.1:Int) then .inr m else .inl (some ((3:Int),()))) (λ_=>some (zl x.2.2.2.1,()))
  (λi last=>0<=last/\(i=0->last=0)/\∀ y,0 < i->x.2.2.1[i - 1]?=some y->last=y) (by rw[au];omega)
  (λi hi last self hI=>by
   obtain ⟨i1,i2,i3⟩:=hI;show dx.b0 _ _ _ _=_;unfold dx.b0;have a_:(i:Int) < (List.length x.2.2.1:Int):=by omega
   simp only[a_,aI,aO,aK,aJ,aC,aB hi,aA,pu];generalize hmm:(x.2.2.1)[i]=m;rw[<-ZQ i1];show (bif !lD m 0 (List.length x.2.1:Int) then _ else _)=_
   cases hb0:lD m 0 (List.length x.2.1:Int) with
   | false=>rfl
   | true=>
    have hm0:0<=m:=by
     grind [lD]
    simp only[aN,aE,dV];by_cases h0:i=0
    ·grind
    ·have hi1:i - 1 < List.length x.2.2.1:=by omega
     have hl:=i3 (x.2.2.1)[i - 1] Bys (aB hi1);have hp:(0:Int) < (i:Int):=by omega
     simp only[hp,aI,aO,FF (show 0 < i by omega) (by rw[au];omega),aK,aJ,aC,aB hi1,aA]
     grind)
  (λi hi last afF hI hs=>by
   grind [lD])
  (λlast self hI=>by
   show dx.b0 _ _ _ _=_;unfold dx.b0;simp only[aU,aG,aE]
   exact second) 0 ⟨gX _,λ_=>rfl,λ_ h=>by omega⟩ k Bys
 refine aL this ?_;unfold Lb;rw[P4];grind
end OT
namespace OT
open Go
def pb (D:List UInt8) (i:Nat):Nat:=(D.getD i 0).toNat
theorem mC (D:List UInt8) (i:Nat):pb D i < 256:=iH _
theorem jH {D:List UInt8} {i:Nat} (h:i < D.length):D[i]?=some D[i]/\(D[i]).toNat=pb D i:=⟨aB h,by simp[pb,h]⟩
theorem uJ (D:List UInt8) (i j:Nat) (v:UInt8):pb (D.set i v) j=if i=j/\i < D.length then v.toNat else pb D j:=by
 grind [pb]
theorem Mu {D c:List UInt8} {a:Nat} (h:a+c.length<=D.length) (j:Nat):pb (pD D a c.length c) j=if a<=j/\j < a+c.length then pb c (j - a) else pb D j:=by
 grind [pb,O1]
theorem CX {A B:List UInt8} (h:A.length=B.length) (h2:∀ j,j < A.length->pb A j=pb B j):A=B:=by
 refine List.ext_getElem h λi h1 h3=>?_;have:=h2 i h1;rw[<-(jH h1).2,<- (jH h3).2] at this;exact fM.1 this
theorem ofNat_toNat {n:Nat} (h:n < 256):(UInt8.ofNat n).toNat=n:=by
 simp_all
theorem ZR (D:List UInt8) (a n j:Nat) (h:j < n):pb ((D.drop a).take n) j=pb D (a+j):=by
 grind [pb]
def pn (p:List UInt8):Nat:=pb p 0
def ff (p:List UInt8):Nat:=pb p 1
def pat (p:List UInt8) (i:Nat):Nat:=pb p (2+2*i)
def bj (p:List UInt8) (i:Nat):Nat:=pb p (3+2*i)
def zm (p:List UInt8) (i:Nat):Bool:=if pat p i=0\/bj p i=0 then decide (pat p i=bj p i) else decide (ff p<=pat p i)&&decide (pat p i+bj p i<=64)
def uK (p:List UInt8) (i k:Nat):Bool:=(decide (bj p i=0)||decide (bj p k=0))||(decide (pat p i+bj p i<=pat p k)||decide (pat p k+bj p k<=pat p i))
def zn (p:List UInt8):Int:=
 if p.length=64 then
  if pn p<=16/\2+2*pn p<=ff p/\ff p<=64 then
   if (List.range (pn p)).all (zm p) then
    if (List.range (pn p)).all (λi=>(List.range i).all (uK p i)) then
     if 0 < pn p/\bj p (pn p - 1)=0 then 8 else 0
    else 8
   else 3
  else 3
 else 1
structure ij (p:List UInt8):Prop where
 len:p.length=64
 n:pn p<=16
 lo:2+2*pn p<=ff p
 hi:ff p<=64
 slot:∀ i,i < pn p->bj p i≠0->ff p<=pat p i/\pat p i+bj p i<=64
 zero:∀ i,i < pn p->bj p i=0->pat p i=0
 apart:∀ i k,i < pn p->k < pn p->i≠k->bj p i≠0->bj p k≠0->pat p i+bj p i<=pat p k\/pat p k+bj p k<=pat p i
 last:0 < pn p->bj p (pn p - 1)≠0
theorem Hq {p:List UInt8} {i:Nat} (wh:2<=ff p):zm p i=true↔(bj p i≠0->ff p<=pat p i/\pat p i+bj p i<=64)/\(bj p i=0->pat p i=0):=by
 grind [zm]
theorem FJ {p:List UInt8} {i k:Nat}:uK p i k=true↔(bj p i≠0->bj p k≠0->pat p i+bj p i<=pat p k\/pat p k+bj p k<=pat p i):=by
 grind [uK]
theorem uW {p:List UInt8}:zn p=0↔ij p:=by
 constructor
 ·intro h;unfold zn at h;split at h
  ·rename_i h1;split at h
   ·rename_i h2;split at h
    ·rename_i h3;split at h
     ·rename_i h4;split at h
      ·cases h
      ·rename_i h5;have hs:∀ i,i < pn p->(bj p i≠0->ff p<=pat p i/\pat p i+bj p i<=64)/\(bj p i=0->pat p i=0):=λi hi=>(Hq Bys).1 (bH.1 h3 i (cD.2 hi));have ha:∀ i k,i < pn p->k < i->bj p i≠0->bj p k≠0->pat p i+bj p i<=pat p k\/pat p k+bj p k<=pat p i:=λi k hi hk=>FJ.1 (bH.1 (bH.1 h4 i (cD.2 hi)) k (cD.2 hk));refine ⟨h1,h2.1,h2.2.1,h2.2.2,λi hi=>(hs i hi).1,λi hi=>(hs i hi).2,λi k hi hk AU z1 z2=>?_,λhn hz=>h5 ⟨hn,hz⟩⟩
       rcases Nat.lt_or_gt_of_ne AU with h6 | h6
       all_goals grind
     ·cases h
    ·cases h
   ·cases h
  ·cases h
 ·intro h;unfold zn;rw[aR h.len,aR ⟨h.n,h.lo,h.hi⟩,aR,aR,aV]
  ·intro ⟨h1,h2⟩;exact h.last h1 h2
  ·refine bH.2 λi hi=>bH.2 λk hk=>FJ.2 ?_;have:=cD.1 hi;have:=cD.1 hk;exact h.apart i k Bys Bys Bys
  ·exact bH.2 λi hi=>(Hq (by have:=h.lo;omega)).2 ⟨h.slot i (cD.1 hi),h.zero i (cD.1 hi)⟩
def jm (p:List UInt8) (i:Nat):List UInt8:=(p.drop (pat p i)).take (bj p i)
def cellOf (p:List UInt8) (i:Nat):List UInt8:=if i < pn p then jm p i else []
theorem pv {p:List UInt8} (h:ij p) {i:Nat} (hi:i < pn p):(jm p i).length=bj p i:=by
 unfold jm;by_cases hz:bj p i=0
 ·simp[hz]
 ·have:=h.slot i hi hz;have:=h.len;grind
theorem JO (p:List UInt8) (i j:Nat) (h:j < bj p i):pb (jm p i) j=pb p (pat p i+j):=ZR p _ _ j h
theorem JP {p q:List UInt8} {i k:Nat} (hp:(jm p i).length=bj p i) (hq:(jm q k).length=bj q k) (hs:bj p i=bj q k) (hb:∀ j,j < bj p i->pb p (pat p i+j)=pb q (pat q k+j)):jm p i=jm q k:=by
 grind [CX,JO]
theorem ZS {p c:List UInt8} {i:Nat} (hp:(jm p i).length=bj p i) (hs:bj p i=c.length) (hb:∀ j,j < c.length->pb p (pat p i+j)=pb c j):jm p i=c:=by
 grind [CX,JO]
def ma (p:List UInt8) (s a:Nat) (c:List UInt8):List UInt8:=((pD p a c.length c).set (2+2*s) (UInt8.ofNat a)).set (3+2*s) (UInt8.ofNat c.length)
theorem ry {p:List UInt8} (hp:p.length=64) (s:Nat) {a:Nat} {c:List UInt8} (h:a+c.length<=64):(ma p s a c).length=64:=by
 grind [ma,sn]
theorem Ad {p:List UInt8} (hp:p.length=64) {s a:Nat} {c:List UInt8} (h:a+c.length<=64) (hs:s < 16) (j:Nat):pb (ma p s a c) j=if j=3+2*s then c.length else if j=2+2*s then a else if a<=j/\j < a+c.length then pb c (j - a) else pb p j:=by
 grind [ma,sn,uJ,Mu,ofNat_toNat]
structure xJ (p q:List UInt8) (s a m:Nat):Prop where
 len:q.length=64
 n:pn q=pn p\/(pn q=pn p+1/\s=pn p)
 ac9:s < pn q
 n16:pn q<=16
 lo:2+2*pn q<=ff q
 lo2:ff q<=ff p
 at_:pat q s=a
 sz:bj q s=m
 pos:0 < m
 afj:ff q<=a
 afk:a+m<=64
 P6:∀ i,i < pn q->i≠s->pat q i=pat p i/\bj q i=bj p i
 free:∀ i,i < pn p->i≠s->bj p i≠0->a+m<=pat p i\/pat p i+bj p i<=a
 same:∀ j,ff p<=j->j < 64->(j < a\/a+m<=j)->pb q j=pb p j
theorem xJ.ok {p q:List UInt8} {s a m:Nat} (t:xJ p q s a m) (h:ij p):ij q:=by
 have a_:∀ i,i < pn q->i≠s->i < pn p:=λi hi hs=>by rcases t.n with h1 | ⟨h1,h2⟩ <;> omega
 have ha:=t.at_;have hm:=t.sz;have Ju:=t.pos;have wh:=t.afj;have Ej:=t.afk;have af0:=t.lo2;have hh:=h.hi;refine ⟨t.len,t.n16,t.lo,by omega,λi hi hz=>?_,λi hi hz=>?_,λi k hi hk AU z1 z2=>?_,λhn=>?_⟩
 ·by_cases hs:i=s
  ·grind
  ·obtain ⟨h1,h2⟩:=t.P6 i hi hs;have:=h.slot i (a_ i hi hs) Bys;omega
 ·by_cases hs:i=s
  ·grind
  ·obtain ⟨h1,h2⟩:=t.P6 i hi hs;have:=h.zero i (a_ i hi hs) Bys;omega
 ·by_cases hs:i=s
  ·subst hs;have GC:k≠i:=λe=>AU e.symm;obtain ⟨h1,h2⟩:=t.P6 k hk GC;have:=t.free k (a_ k hk GC) GC Bys;omega
  ·obtain ⟨h1,h2⟩:=t.P6 i hi hs;by_cases Dp:k=s
   ·subst Dp;have:=t.free i (a_ i hi hs) hs Bys;omega
   ·obtain ⟨h3,h4⟩:=t.P6 k hk Dp;have:=h.apart i k (a_ i hi hs) (a_ k hk Dp) AU Bys Bys;omega
 ·by_cases hs:pn q - 1=s
  ·rw[hs];omega
  ·obtain ⟨h1,h2⟩:=t.P6 (pn q - 1) Bys hs
   have hq:pn q=pn p:=by
    rcases t.n with h3 | ⟨h3,h4⟩
    all_goals grind
   rw[h2,hq];exact h.last Bys
theorem xJ.Vx {p q:List UInt8} {s a m:Nat} (t:xJ p q s a m) (h:ij p) {i:Nat} (hi:i < pn q) (hs:i≠s):jm q i=jm p i:=by
 have Er:i < pn p:=by rcases t.n with h1 | ⟨h1,h2⟩ <;> omega
 obtain ⟨h1,h2⟩:=t.P6 i hi hs;refine JP (pv (t.ok h) hi) (pv h Er) h2 λj hj=>?_;have hz:bj p i≠0:=by omega
 have h3:=h.slot i Er hz;have h4:=t.free i Er hs hz;rw[h1];exact t.same _ Bys Bys Bys
theorem xJ.XF {p q:List UInt8} {s a:Nat} {c:List UInt8} (t:xJ p q s a c.length) (h:ij p) (hc:∀ j,j < c.length->pb q (a+j)=pb c j):jm q s=c:=
 ZS (pv (t.ok h) t.ac9) t.sz λj hj=>by rw[t.at_];exact hc j hj
theorem xJ.cells {p q:List UInt8} {s a:Nat} {c:List UInt8} (t:xJ p q s a c.length) (h:ij p) (hc:∀ j,j < c.length->pb q (a+j)=pb c j) (i:Nat):cellOf q i=if i=s then c else cellOf p i:=by
 have hs:=t.ac9;unfold cellOf;by_cases un:i=s
 ·subst un;rw[aR hs,aR rfl,t.XF h hc]
 ·rw[aV un];by_cases hi:i < pn q
  ·have Er:i < pn p:=by rcases t.n with h1 | ⟨h1,h2⟩ <;> omega
   rw[aR hi,aR Er,t.Vx h hi un]
  ·have Er:¬ i < pn p:=by rcases t.n with h1 | ⟨h1,h2⟩ <;> omega
   grind
theorem qY {p:List UInt8} (h:ij p) {i:Nat} (hi:i < pn p):cellOf p i=[]↔bj p i=0:=by
 grind [cellOf,pv]
end OT
namespace OT
open Go
def wJ (p:List UInt8):Nat->Nat->Nat
 | 0,i=>i
 | m+1,i=>if bj p i=0 then i else wJ p m (i+1)
def gg (p:List UInt8):Nat:=wJ p (pn p) 0
theorem IT (p:List UInt8):∀ (m i:Nat),i<=wJ p m i/\wJ p m i<=i+m/\(∀ j,i<=j->j < wJ p m i->bj p j≠0)/\(wJ p m i < i+m->bj p (wJ p m i)=0)
 | 0,i=>by grind [wJ]
 | m+1,i=>by
  simp only[wJ];split
  ·grind
  ·rename_i h;obtain ⟨h1,h2,h3,h4⟩:=IT p m (i+1);grind
theorem v6 (p:List UInt8):gg p<=pn p/\(∀ j,j < gg p->bj p j≠0)/\(gg p < pn p->bj p (gg p)=0):=by
 grind [IT,gg]
def mZ (p:List UInt8):Nat->Nat
 | 0=>0
 | m+1=>mZ p m+bj p m
def sX (p:List UInt8):Int:=62 - 2*(pn p:Int) - (mZ p (pn p):Int)
theorem sv (p:List UInt8) {a b:Nat} (h:a<=b):mZ p a<=mZ p b:=by
 induction b <;> grind [mZ]
theorem Nh {α:Type} {a b:α->Bool}:∀ {l:List α},(∀ x ∈ l,a x=true->b x=true->False)->l.countP (λx=>a x||b x)=l.countP a+l.countP b
 | [],_=>rfl
 | x::l,h=>by
  have ih:=Nh (l:=l) λy hy=>h y (aW _ hy);grind
theorem FK (a m:Nat):∀ N,(List.range N).countP (λj=>decide (a<=j/\j < a+m))=min N (a+m) - min N a
 | 0=>by simp
 | N+1=>by
  rw[gJ,List.countP_append,FK a m N];grind
def ue (p:List UInt8):Nat->Nat->Bool
 | 0,_=>false
 | k+1,j=>ue p k j||decide (pat p k<=j/\j < pat p k+bj p k)
theorem Mv {p:List UInt8}:∀ {k j:Nat},ue p k j=true->∃ i,i < k/\pat p i<=j/\j < pat p i+bj p i
 | k+1,j,h=>by
  simp only[ue,dQ,bP] at h;rcases h with h | h
  ·obtain ⟨i,h1,h2⟩:=Mv h;grind
  grind
theorem Lc {p:List UInt8} (h:ij p):∀ k,k<=pn p->(List.range 64).countP (ue p k)=mZ p k
 | 0,_=>by
  grind [ue,mZ]
 | k+1,hk=>by
  have ih:=Lc h k Bys;show (List.range 64).countP (λj=>ue p k j||decide (pat p k<=j/\j < pat p k+bj p k))=mZ p k+bj p k;rw[Nh,ih,FK]
  ·by_cases hz:bj p k=0
   ·omega
   ·have:=h.slot k Bys hz;omega
  ·intro j _ h1 h2;obtain ⟨i,h3,h4⟩:=Mv h1;simp only[bP] at h2;have:=h.apart i k Bys Bys Bys Bys Bys;omega
theorem FL {p:List UInt8} (h:ij p):mZ p (pn p)+ff p<=64:=by
 rw[<-Lc h (pn p) (aH _)]
 have h1:(List.range 64).countP (ue p (pn p))<=(List.range 64).countP (λj=>decide (ff p<=j/\j < ff p+(64 - ff p))):=by
  refine List.countP_mono_left λj hj hc=>?_;obtain ⟨i,h3,h4,h5⟩:=Mv hc;have:=h.slot i h3 Bys;grind
 rw[FK] at h1;have:=h.hi;omega
theorem Eu {p:List UInt8} (h:ij p):0<=sX p/\sX p<=62:=by
 have:=FL h;have:=h.lo;grind [sX]
def vn (p:List UInt8):Nat:=if gg p=pn p then 1 else 0
def si (p:List UInt8) (c:List UInt8):List UInt8:=((ma p (gg p) (ff p - c.length) c).set 0 (UInt8.ofNat (pn p+vn p))).set 1 (UInt8.ofNat (ff p - c.length))
def m9 (p:List UInt8) (c:List UInt8):Int:=
 if gg p=pn p/\16<=pn p then 2
 else if sX p < (c.length:Int)+2*(vn p:Int) then 9
 else if ff p < 2+2*(pn p+vn p)+c.length then 8
 else 0
theorem ac_ {p c:List UInt8} (h:ij p) (hc:m9 p c=0) (j:Nat):pb (si p c) j=if j=1 then ff p - c.length else if j=0 then pn p+vn p else pb (ma p (gg p) (ff p - c.length) c) j:=by
 unfold m9 at hc;split at hc
 ·cases hc
 ·split at hc
  ·cases hc
  ·split at hc
   ·cases hc
   ·have hl:(ma p (gg p) (ff p - c.length) c).length=64:=ry h.len _ (by have:=h.hi;omega);have Ej:=h.hi;grind [si,uJ,ofNat_toNat]
theorem Vy {p c:List UInt8} (h:ij p) (lY:1<=c.length) (hc:m9 p c=0):xJ p (si p c) (gg p) (ff p - c.length) c.length/\∀ j,j < c.length->pb (si p c) (ff p - c.length+j)=pb c j:=by
 have hb:=ac_ h hc;obtain ⟨e1,e2,e3⟩:=v6 p;unfold m9 at hc;split at hc
 ·cases hc
 rename_i c1;split at hc
 ·cases hc
 split at hc
 ·cases hc
 rename_i c3;have Ej:=h.hi;have wh:=h.lo;have hn:=h.n;have hm:(gg p=pn p/\vn p=1)\/(gg p < pn p/\vn p=0):=by grind [vn]
 have hs:gg p < 16:=by omega
 have hlen:(si p c).length=64:=by
  unfold si;rw[cE,cE,ry h.len _ Bys]
 have oT:∀ j,pb (ma p (gg p) (ff p - c.length) c) j=_:=Ad h.len (a:=ff p - c.length) (c:=c) Bys hs;have IU:pn (si p c)=pn p+vn p:=by show pb _ 0=_;rw[hb];simp
 have ji:ff (si p c)=ff p - c.length:=by show pb _ 1=_;rw[hb];simp
 refine ⟨⟨hlen,by omega,by omega,by omega,by omega,by omega,?_,?_,by omega,by omega,by omega,λi hi un=>?_,λi hi un hz=>?_,λj j1 j2 j3=>?_⟩,λj hj=>?_⟩
 ·show pb _ _=_;grind
 ·show pb _ _=_;grind
 ·constructor
  ·show pb _ _=pb _ _;grind
  ·show pb _ _=pb _ _;grind
 ·have:=h.slot i hi hz;omega
 all_goals grind
theorem Ae {p c:List UInt8} (h:ij p) (lY:1<=c.length) (hc:m9 p c=0):ij (si p c)/\(∀ i,cellOf (si p c) i=if i=gg p then c else cellOf p i)/\cellOf p (gg p)=[]:=by
 obtain ⟨t,hb⟩:=Vy h lY hc;refine ⟨t.ok h,t.cells h hb,?_⟩
 grind [v6,qY,cellOf]
def Af (p:List UInt8) (s:Nat) (c:List UInt8):List UInt8:=if c.length<=bj p s then ma p s (pat p s+bj p s - c.length) c else (ma p s (ff p - c.length) c).set 1 (UInt8.ofNat (ff p - c.length))
def sR (p:List UInt8) (s:Nat) (c:List UInt8):Int:=
 if c.length<=bj p s then 0
 else if sX p+(bj p s:Int) < (c.length:Int) then 9
 else if ff p < 2+2*pn p+c.length then 8
 else 0
theorem Vz {p c:List UInt8} {s:Nat} (h:ij p) (hs:s < pn p) (hz:bj p s≠0) (lY:1<=c.length) (hc:sR p s c=0):∃ a,xJ p (Af p s c) s a c.length/\∀ j,j < c.length->pb (Af p s c) (a+j)=pb c j:=by
 have Ej:=h.hi;have wh:=h.lo;have hn:=h.n;have mF:=h.slot s hs hz;unfold sR at hc;split at hc
 ·rename_i c1;unfold Af;rw[aR c1];have oT:∀ j,pb (ma p s (pat p s+bj p s - c.length) c) j=_:=Ad h.len (a:=pat p s+bj p s - c.length) (c:=c) Bys Bys
  have IU:pn (ma p s (pat p s+bj p s - c.length) c)=pn p:=by
   show pb _ 0=pb p 0;grind
  have ji:ff (ma p s (pat p s+bj p s - c.length) c)=ff p:=by
   show pb _ 1=pb p 1;grind
  refine ⟨pat p s+bj p s - c.length,⟨ry h.len _ Bys,by omega,by omega,by omega,by omega,by omega,?_,?_,by omega,by omega,by omega,λi hi un=>?_,λi hi un CB=>?_,λj j1 j2 j3=>?_⟩,λj hj=>?_⟩
  ·show pb _ _=_;grind
  ·show pb _ _=_;grind
  ·constructor
   ·show pb _ _=pb _ _;grind
   ·show pb _ _=pb _ _;grind
  ·have:=h.apart i s hi hs un CB hz;omega
  all_goals grind
 ·rename_i c1;split at hc
  ·cases hc
  split at hc
  ·cases hc
  rename_i c3;have hq:Af p s c=(ma p s (ff p - c.length) c).set 1 (UInt8.ofNat (ff p - c.length)):=by grind [Af]
  rw[hq];have hl:(ma p s (ff p - c.length) c).length=64:=ry h.len _ Bys;have oT:∀ j,pb (ma p s (ff p - c.length) c) j=_:=Ad h.len (a:=ff p - c.length) (c:=c) Bys Bys
  have hb:∀ j,pb ((ma p s (ff p - c.length) c).set 1 (UInt8.ofNat (ff p - c.length))) j=if j=1 then ff p - c.length else pb (ma p s (ff p - c.length) c) j:=λj=>by
   grind [uJ,ofNat_toNat]
  have IU:pn ((ma p s (ff p - c.length) c).set 1 (UInt8.ofNat (ff p - c.length)))=pn p:=by
   show pb _ 0=pb p 0;grind
  have ji:ff ((ma p s (ff p - c.length) c).set 1 (UInt8.ofNat (ff p - c.length)))=ff p - c.length:=by
   show pb _ 1=_;grind
  refine ⟨ff p - c.length,⟨by grind,by omega,by omega,by omega,by omega,by omega,?_,?_,by omega,by omega,by omega,λi hi un=>?_,λi hi un CB=>?_,λj j1 j2 j3=>?_⟩,λj hj=>?_⟩
  ·show pb _ _=_;grind
  ·show pb _ _=_;grind
  ·constructor
   ·show pb _ _=pb _ _;grind
   ·show pb _ _=pb _ _;grind
  ·have:=h.slot i hi CB;omega
  all_goals grind
theorem B9 {p c:List UInt8} {s:Nat} (h:ij p) (hs:s < pn p) (hz:bj p s≠0) (lY:1<=c.length) (hc:sR p s c=0):ij (Af p s c)/\(∀ i,cellOf (Af p s c) i=if i=s then c else cellOf p i):=by
 obtain ⟨a,t,hb⟩:=Vz h hs hz lY hc;exact ⟨t.ok h,t.cells h hb⟩
def vo (q:List UInt8):Nat->Nat
 | 0=>0
 | m+1=>if bj q m=0 then vo q m else m+1
def tQ (p:List UInt8) (s:Nat):List UInt8:=(p.set (2+2*s) 0).set (3+2*s) 0
def sj (p:List UInt8) (s:Nat):List UInt8:=(tQ p s).set 0 (UInt8.ofNat (vo (tQ p s) (pn p)))
theorem FM (q:List UInt8):∀ m,vo q m<=m/\(∀ i,vo q m<=i->i < m->bj q i=0)/\(0 < vo q m->bj q (vo q m - 1)≠0)
 | 0=>by grind [vo]
 | m+1=>by
  simp only[vo];obtain ⟨h1,h2,h3⟩:=FM q m;grind
theorem JQ {p:List UInt8} {s:Nat} (h:ij p) (hs:s < pn p):ij (sj p s)/\(∀ i,cellOf (sj p s) i=if i=s then [] else cellOf p i):=by
 have Ej:=h.hi;have wh:=h.lo;have hn:=h.n;have hlen:=h.len
 have hb0:∀ j,pb (tQ p s) j=if j=3+2*s\/j=2+2*s then 0 else pb p j:=λj=>by
  grind [tQ,uJ]
 have hl0:(tQ p s).length=64:=by grind [tQ]
 obtain ⟨t1,t2,t3⟩:=FM (tQ p s) (pn p)
 have hb:∀ j,pb (sj p s) j=if j=0 then vo (tQ p s) (pn p) else if j=3+2*s\/j=2+2*s then 0 else pb p j:=λj=>by
  grind [sj,uJ,ofNat_toNat]
 have IU:pn (sj p s)=vo (tQ p s) (pn p):=by show pb _ 0=_;grind
 have ji:ff (sj p s)=ff p:=by show pb _ 1=pb p 1;grind
 have hz0:∀ i,bj (sj p s) i=bj (tQ p s) i:=λi=>by
  show pb _ _=pb _ _;grind
 have hzs:bj (sj p s) s=0/\pat (sj p s) s=0:=by
  constructor
  ·show pb _ _=_;grind
  ·show pb _ _=_;grind
 have XG:∀ i,i≠s->bj (sj p s) i=bj p i/\pat (sj p s) i=pat p i:=λi hi=>by
  constructor
  ·show pb _ _=pb _ _;grind
  ·show pb _ _=pb _ _;grind
 have bf:ij (sj p s):=by
  refine ⟨by grind [sj],by omega,by omega,by omega,λi hi hz=>?_,λi hi hz=>?_,λi k hi hk AU z1 z2=>?_,λhn=>?_⟩
  ·by_cases un:i=s
   ·grind
   ·obtain ⟨g1,g2⟩:=XG i un;have:=h.slot i Bys Bys;omega
  ·by_cases un:i=s
   ·grind
   ·obtain ⟨g1,g2⟩:=XG i un;have:=h.zero i Bys Bys;omega
  ·have un:i≠s:=λe=>by grind
   have GC:k≠s:=λe=>by grind
   obtain ⟨g1,g2⟩:=XG i un;obtain ⟨g3,g4⟩:=XG k GC;have:=h.apart i k Bys Bys AU Bys Bys;omega
  grind
 refine ⟨bf,λi=>?_⟩
 by_cases un:i=s
 ·grind [qY,cellOf]
 ·rw[aV un];obtain ⟨g1,g2⟩:=XG i un;by_cases hi:i < pn (sj p s)
  ·have Er:i < pn p:=by omega
   unfold cellOf;rw[aR hi,aR Er];refine JP (pv bf hi) (pv h Er) g1 λj hj=>?_;have:=h.slot i Er Bys;grind
  grind [cellOf,qY]
def BP (p:List UInt8) (s:List UInt8×Nat) (i:Nat):List UInt8×Nat:=if bj p i=0 then s else (ma s.1 i (s.2 - bj p i) (jm p i),s.2 - bj p i)
def Aw (p:List UInt8):List UInt8:=p.take (2+2*pn p)++List.replicate (62 - 2*pn p) (0:UInt8)
def jI (p:List UInt8) (k:Nat):List UInt8×Nat:=(List.range k).foldl (BP p) (Aw p,64)
def mP (p:List UInt8):List UInt8:=(jI p (pn p)).1.set 1 (UInt8.ofNat (jI p (pn p)).2)
theorem FN (p:List UInt8) (k:Nat):jI p (k+1)=BP p (jI p k) k:=by
 grind [jI,List.range_succ]
structure aet (p:List UInt8) (k:Nat) (o:List UInt8) (a:Nat):Prop where
 len:o.length=64
 n:pb o 0=pn p
 a:a=64 - mZ p k
 sz:∀ i,i < pn p->bj o i=bj p i
 old:∀ i,i < pn p->(k<=i\/bj p i=0)->pat o i=pat p i
 new:∀ i,i < k->bj p i≠0->pat o i=64 - mZ p (i+1)/\∀ j,j < bj p i->pb o (64 - mZ p (i+1)+j)=pb p (pat p i+j)
theorem FO {p:List UInt8} (h:ij p):∀ k,k<=pn p->aet p k (jI p k).1 (jI p k).2
 | 0,_=>by
  have hn:=h.n;have hlen:=h.len;have hl:(Aw p).length=64:=by grind [Aw]
  have hb:∀ j,j < 2+2*pn p->pb (Aw p) j=pb p j:=λj hj=>by
   grind [pb,Aw]
  refine ⟨hl,hb 0 Bys,by simp only[mZ];rfl,λi hi=>?_,λi hi _=>?_,λi hi=>by omega⟩
  ·exact hb _ Bys
  ·exact hb _ Bys
 | k+1,hk=>by
  have ih:=FO h k Bys;rw[FN];unfold BP;have sW:=FL h;have aeu:=sv p (show k+1<=pn p from hk);have wh:=h.lo;have hn:=h.n;simp only[mZ] at aeu;by_cases hz:bj p k=0
  ·rw[aR hz];refine ⟨ih.len,ih.n,?_,ih.sz,λi hi ho=>ih.old i hi (by grind),λi hi IV=>?_⟩
   ·rw[ih.a];grind [mZ]
   ·have:i≠k:=λe=>by grind
    exact ih.new i Bys IV
  ·rw[aV hz];have ta:(jm p k).length=bj p k:=pv h Bys;have ha:=ih.a;have yY:(jI p k).2 - bj p k+(jm p k).length<=64:=by omega
   have oT:∀ j,pb (ma (jI p k).1 k ((jI p k).2 - bj p k) (jm p k)) j=_:=Ad ih.len (a:=(jI p k).2 - bj p k) (c:=jm p k) yY Bys;refine ⟨ry ih.len _ yY,?_,by grind [mZ],λi hi=>?_,λi hi ho=>?_,λi hi IV=>?_⟩
   ·rw[oT,aV Bys,aV Bys,aV Bys];exact ih.n
   ·show pb _ _=_;rw[oT];by_cases AU:i=k
    ·grind
    ·rw[aV Bys,aV Bys,aV Bys];exact ih.sz i hi
   ·have AU:i≠k:=λe=>by grind
    show pb _ _=_;rw[oT,aV Bys,aV Bys,aV Bys];exact ih.old i hi (by grind)
   ·by_cases AU:i=k
    ·subst AU;constructor
     ·show pb _ _=_;grind [mZ]
     grind [mZ,JO]
    ·have hm2:=sv p (show i+1<=k by omega);have hm3:=sv p (show i+1<=pn p by omega);obtain ⟨g1,g2⟩:=ih.new i Bys IV;constructor
     ·show pb _ _=_;rw[oT,aV Bys,aV Bys,aV Bys];exact g1
     grind
theorem uf {p:List UInt8} (h:ij p):ij (mP p)/\(∀ i,cellOf (mP p) i=cellOf p i)/\pn (mP p)=pn p:=by
 have I:=FO h (pn p) (aH _);have sW:=FL h;have wh:=h.lo;have hn:=h.n;have ha:=I.a
 have hb:∀ j,pb (mP p) j=if j=1 then (jI p (pn p)).2 else pb (jI p (pn p)).1 j:=λj=>by
  unfold mP;rw[uJ,I.len,ofNat_toNat Bys];grind
 have IU:pn (mP p)=pn p:=by show pb _ 0=_;rw[hb,aV Bys];exact I.n
 have ji:ff (mP p)=64 - mZ p (pn p):=by show pb _ 1=_;grind
 have hz:∀ i,i < pn p->bj (mP p) i=bj p i:=λi hi=>by show pb _ _=_;rw[hb,aV Bys];exact I.sz i hi
 have nN:∀ i,i < pn p->bj p i≠0->pat (mP p) i=64 - mZ p (i+1):=λi hi IV=>by show pb _ _=_;rw[hb,aV Bys];exact (I.new i hi IV).1
 have bf:ij (mP p):=by
  refine ⟨by unfold mP;rw[cE];exact I.len,by omega,by omega,by omega,λi hi IV=>?_,λi hi IV=>?_,λi k hi hk AU z1 z2=>?_,λhn=>?_⟩
  ·have h1:=hz i Bys;have h2:=nN i Bys Bys;have h3:=sv p (show i+1<=pn p by omega);grind [mZ]
  ·have h1:=hz i Bys;show pb _ _=_;rw[hb,aV Bys];exact (I.old i Bys (Or.inr Bys)).trans (h.zero i Bys Bys)
  ·have h1:=hz i Bys;have h2:=nN i Bys Bys;have h3:=hz k Bys;have h4:=nN k Bys Bys;have e1:mZ p (i+1)=mZ p i+bj p i:=rfl;have e2:mZ p (k+1)=mZ p k+bj p k:=rfl;have m1:=sv p (show i+1<=pn p by omega);have m2:=sv p (show k+1<=pn p by omega);rcases Nat.lt_or_gt_of_ne AU with h6 | h6
   ·have:=sv p (show i+1<=k from h6);omega
   ·have:=sv p (show k+1<=i from h6);omega
  ·rw[IU,hz _ Bys];exact h.last Bys
 refine ⟨bf,λi=>?_,IU⟩
 unfold cellOf;rw[IU];by_cases hi:i < pn p
 ·rw[aR hi,aR hi];refine JP (pv bf Bys) (pv h hi) (hz i hi) λj hj=>?_;have h1:=hz i hi;have IV:bj p i≠0:=by omega
  rw[nN i hi IV,hb,aV (by
   have:=sv p (show i+1<=pn p by omega)
   omega)]
  exact (I.new i hi IV).2 j Bys
 grind
def vp:List UInt8:=((List.replicate 64 (0:UInt8)).set 0 0).set 1 64
theorem FQ:ij vp/\∀ i,cellOf vp i=[]:=by
 refine ⟨uW.1 (by decide +kernel),λi=>?_⟩
 unfold cellOf;rw[aV (by show ¬ i < 0;omega)]
end OT
namespace OT
open Go
theorem Ni {i:Nat} (h:i < 1000):ag ((3:Int)+ag ((2:Int)*(i:Int)))=((3+2*i:Nat):Int):=by
 grind [bh]
theorem Ev {i:Nat} (h:i < 1000):ag ((2:Int)+ag ((2:Int)*(i:Int)))=((2+2*i:Nat):Int):=by
 grind [bh]
theorem DH (p:List UInt8) (i:Nat):ag ((pb p i:Nat):Int)=((pb p i:Nat):Int):=by
 grind [mC,bh]
theorem gi {R:Type} {p:List UInt8} {i:Nat} (h:i < p.length) (K:UInt8->Option R):(p[i]?).bind K=K p[i]:=by grind
section
variable {p:List UInt8} (hp:p.length=64)
include hp
theorem nX:db.ae (p,())=some ((pn p:Int),()):=by
 refine ah (k:=0) λk _=>(db.af k _).trans ?_;show db.p _=_;unfold db.p;simp only[gi (show 0 < p.length by omega),(jH (show 0 < p.length by omega)).2,DH];rfl
theorem uX:ft.ae (p,())=some ((pn p:Int),()):=by
 refine ah (k:=0) λk _=>(ft.af k _).trans ?_;show ft.p _=_;unfold ft.p;simp only[gi (show 0 < p.length by omega),(jH (show 0 < p.length by omega)).2,DH];rfl
theorem Ik:kI.ae (p,())=some ((ff p:Int),()):=by
 refine ah (k:=0) λk _=>(kI.af k _).trans ?_;show kI.p _=_;unfold kI.p;simp only[gi (show 1 < p.length by omega),(jH (show 1 < p.length by omega)).2,DH];rfl
theorem qN {i:Nat} (hi:i < 16):b_.ae (p,(i:Int),())=some ((bj p i:Int),()):=by
 refine ah (k:=0) λk _=>(b_.af k _).trans ?_;show b_.p _=_;unfold b_.p;simp only[Ni (show i < 1000 by omega),aK,aJ,aC,gi (show 3+2*i < p.length by omega),(jH (show 3+2*i < p.length by omega)).2,DH];rfl
theorem AZ {i:Nat} (hi:i < 16):it.ae (p,(i:Int),())=some ((pat p i:Int),()):=by
 refine ah (k:=0) λk _=>(it.af k _).trans ?_;show it.p _=_;unfold it.p;simp only[Ev (show i < 1000 by omega),aK,aJ,aC,gi (show 2+2*i < p.length by omega),(jH (show 2+2*i < p.length by omega)).2,DH];rfl
theorem CY {i:Nat} (hi:i < 16):lZ.ae (p,(i:Int),())=some ((pat p i:Int),(bj p i:Int),()):=by
 refine ah (k:=0) λk _=>(lZ.af k _).trans ?_;show lZ.p _=_;unfold lZ.p;simp only[Ev (show i < 1000 by omega),Ni (show i < 1000 by omega),aK,aJ,aC,gi (show 2+2*i < p.length by omega),(jH (show 2+2*i < p.length by omega)).2,gi (show 3+2*i < p.length by omega),(jH (show 3+2*i < p.length by omega)).2,DH];rfl
theorem ZT {i:Nat} (hi:i < 16):t8.ae (p,(i:Int),())=some (zm p i,()):=by
 refine ah (k:=0) λk _=>(t8.af k _).trans ?_;grind [t8.p,zm,mC,pat,bj,bh,AZ,qN,Ik,decide]
theorem XH {i j:Nat} (hi:i < 16) (hj:j < 16):rm.ae (p,(i:Int),(j:Int),())=some (uK p i j,()):=by
 refine ah (k:=0) λk _=>(rm.af k _).trans ?_;show rm.p _=_;unfold rm.p uK;have h1:pat p i < 256:=mC p _;have h2:bj p i < 256:=mC p _;have h3:pat p j < 256:=mC p _;have h4:bj p j < 256:=mC p _;have hw:ag ((pat p i:Int)+(bj p i:Int))=((pat p i+bj p i:Nat):Int):=by grind [bh]
 have Dq:ag ((pat p j:Int)+(bj p j:Int))=((pat p j+bj p j:Nat):Int):=by grind [bh]
 simp only[AZ hp hi,qN hp hi,AZ hp hj,qN hp hj,aA,hw,Dq];grind [decide]
end
theorem v7 {O:Type} (q:Nat->Bool) (bad e:O):∀ (xs:List Nat) (i:Nat),bq (λ_ (_:Unit) x=>if q x then .inr () else .inl bad) (λ_=>e) i xs ()=if xs.all q then e else bad:=λxs i=>tE q bad (λ_=>e) xs i
theorem R5 (p:List UInt8) (hl:p.length<=maxLen):dj.ae (p,())=some (zn p,()):=by
 refine ah (k:=100) λk hk=>(dj.af k _).trans ?_;unfold dj.p zn;have e0:decide ((p.length:Int)=64)=decide (p.length=64):=by grind
 rw[e0];by_cases hp:p.length=64;rotate_left
 ·grind
 have hn:pn p < 256:=mC p 0;have wh:ff p < 256:=mC p 1;have hw:ag ((2:Int)+ag ((2:Int)*(pn p:Int)))=((2+2*pn p:Nat):Int):=Ev Bys;simp only[hp,aI,aN,aE,nX hp,Ik hp,aA,hw,aJ];by_cases c1:pn p<=16;rotate_left
 ·grind
 have n1:¬ ((16:Int) < (pn p:Int)):=by omega
 simp only[n1,aG,aE,c1,dE];by_cases c2:2+2*pn p<=ff p;rotate_left
 ·grind
 have n2:¬ ((ff p:Int) < ((2+2*pn p:Nat):Int)):=by omega
 simp only[n2,aG,aE,c2,dE];by_cases c3:ff p<=64;rotate_left
 ·grind
 have n3:¬ ((64:Int) < (ff p:Int)):=by omega
 simp only[n3,aG,aE,c3,aJ]
 have inner:∀ (self:((List UInt8)×Int×Int)->Option dj.O) (e2:((List UInt8)×Int)->Option dj.O) (i:Nat) (hi:i < pn p),dj.r2 k self e2 (p,()) p (pn p:Int) (i:Int) (0:Int)=if (List.range i).all (uK p i) then self (p,(pn p:Int),ag ((i:Int)+1)) else some ((8:Int),()):=λself e2 i hi=>by
  have:=eh (B:=λim v=>dj.b2 im (λz=>dj.q1 self e2 (p,()) p (pn p:Int) (i:Int) z) (p,()) p (pn p:Int) (i:Int) v) (List.range i) (λ(_:Unit) (j:Int)=>j) (λ_ _ x=>if uK p i x then .inr () else .inl (some ((8:Int),()))) (λ_=>self (p,(pn p:Int),ag ((i:Int)+1))) (λ_ _=>True) (by grind)
   (λj hj s im _=>by
    grind [dj.b2,XH])
   (λ_ _ _ _ _ _=>trivial) (λs im _=>by
    rw[cZ];show dj.b2 _ _ _ _ _ _ _=_;unfold dj.b2;simp only[aU,aG,aE]
    rfl) () trivial k (by grind)
  rw[v7] at this;exact this
 have outer:dj.r1 k (p,()) (pn p:Int) (p,(pn p:Int),(0:Int))=if (List.range (pn p)).all (λi=>(List.range i).all (uK p i)) then dj.q2 (p,()) (p,(pn p:Int)) else some ((8:Int),()):=by
  have:=eh (B:=λself v=>dj.B1 k self (λz=>dj.q2 (p,()) z) (p,()) v) (List.range (pn p)) (λ(_:Unit) (i:Int)=>(p,(pn p:Int),i)) (λ_ _ x=>if (List.range x).all (uK p x) then .inr () else .inl (some ((8:Int),()))) (λ_=>dj.q2 (p,()) (p,(pn p:Int))) (λ_ _=>True) (by grind)
   (λi hi s self _=>by
    rw[cZ] at hi;show dj.b1 _ _ _ _ _=_
    grind [dj.b1])
   (λ_ _ _ _ _ _=>trivial) (λs self _=>by
    rw[cZ];show dj.b1 _ _ _ _ _=_
    grind [dj.b1]) () trivial k (by grind)
  rw[v7] at this;exact this
 have first:dj.r0 k (p,()) (pn p:Int) (0:Int)=if (List.range (pn p)).all (zm p) then dj.r1 k (p,()) (pn p:Int) (p,(pn p:Int),(0:Int)) else some ((3:Int),()):=by
  have:=eh (B:=λself v=>dj.b0 self (λz=>dj.Q0 k (p,()) (pn p:Int) z) (p,()) (pn p:Int) v) (List.range (pn p)) (λ(_:Unit) (i:Int)=>i) (λ_ _ x=>if zm p x then .inr () else .inl (some ((3:Int),()))) (λ_=>dj.r1 k (p,()) (pn p:Int) (p,(pn p:Int),(0:Int))) (λ_ _=>True) (by grind)
   (λi hi s self _=>by
    grind [dj.b0,ZT])
   (λ_ _ _ _ _ _=>trivial) (λs self _=>by
    rw[cZ];show dj.b0 _ _ _ _ _=_;unfold dj.b0;simp only[aU,aG,aE]
    rfl) () trivial k (by grind)
  rw[v7] at this;exact this
 grind [dj.q2,bh,qN,bj]
theorem Hr {S O:Type} (q:Nat->Bool) (g:Nat->S) (bad e:O):∀ (xs:List Nat) (i:Nat) (s:S),bq (λ_ s x=>if q x then .inl bad else .inr (g x)) (λ_=>e) i xs s=if xs.any q then bad else e
 | [],_,_=>rfl
 | x::xs,i,s=>by
  simp only[bq,gF];by_cases h:q x=true
  ·simp[h]
  ·simp[h,Hr q g bad e xs (i+1)]
def Ag (p:List UInt8) (i t:Nat):List Bool:=(List.range 64).map λj=>ue p i j||decide (pat p i<=j/\j < pat p i+t)
def Il (p:List UInt8) (i:Nat):Bool:=(List.range (bj p i)).any λt=>ue p i (pat p i+t)
theorem XI (p:List UInt8) (i:Nat):Ag p i 0=(List.range 64).map (ue p i):=by
 grind [Ag,List.map_congr_left]
theorem XJ (p:List UInt8) (i:Nat):Ag p i (bj p i)=(List.range 64).map (ue p (i+1)):=rfl
theorem JR (p:List UInt8) (i t j:Nat) (h:j < 64):(Ag p i t)[j]?=some (ue p i j||decide (pat p i<=j/\j < pat p i+t)):=by
 grind [Ag]
theorem JS (p:List UInt8) (i t:Nat):(Ag p i t).length=64:=by simp[Ag]
theorem XK (p:List UInt8) (i t:Nat) (h:pat p i+t < 64):(Ag p i t).set (pat p i+t) true=Ag p i (t+1):=by
 refine eE λj=>?_;rw[eS,JS];by_cases hj:j < 64
 ·rw[JR p i t j hj,JR p i (t+1) j hj];by_cases e:pat p i+t=j
  ·subst e;grind
  ·rw[aV e];have:(pat p i<=j/\j < pat p i+t)↔(pat p i<=j/\j < pat p i+(t+1)):=by omega
   grind
 grind [JS]
theorem P7 {p:List UInt8}:∀ {k j:Nat},ue p k j=true↔∃ i,i < k/\pat p i<=j/\j < pat p i+bj p i
 | 0,j=>by simp[ue]
 | k+1,j=>by
  simp only[ue,dQ,bP,P7 (k:=k)];grind
theorem VA (p:List UInt8) (i:Nat):Il p i=!(List.range i).all (uK p i):=by
 rw[iD];simp only[Il,eX,cD,P7,cH,List.all_eq_false,Bool.not_eq_true];constructor
 ·rintro ⟨t,ht,k,hk,h1,h2⟩;refine ⟨k,hk,?_⟩
  grind [uK]
 ·rintro ⟨k,hk,h⟩;have hn:¬ (bj p i≠0->bj p k≠0->pat p i+bj p i<=pat p k\/pat p k+bj p k<=pat p i):=λh2=>by rw[FJ.2 h2] at h;cases h
  by_cases c1:bj p i=0
  ·grind
  ·by_cases c2:bj p k=0
   ·grind
   ·have c3:¬ (pat p i+bj p i<=pat p k):=λh3=>hn λ_ _=>.inl h3;have c4:¬ (pat p k+bj p k<=pat p i):=λh3=>hn λ_ _=>.inr h3;exact ⟨max (pat p i) (pat p k) - pat p i,by omega,k,hk,by omega,by omega⟩
theorem ZU (p:List UInt8) (n:Nat):(List.range n).any (Il p)=!(List.range n).all (λi=>(List.range i).all (uK p i)):=by
 grind [VA]
theorem Ax (p:List UInt8) (hl:p.length<=maxLen):bm.ae (p,())=some (zn p,()):=by
 refine ah (k:=300) λk hk=>(bm.af k _).trans ?_;unfold bm.p zn;have e0:decide ((p.length:Int)=64)=decide (p.length=64):=by grind
 rw[e0];by_cases hp:p.length=64;rotate_left
 ·grind
 have hn:pn p < 256:=mC p 0;have wh:ff p < 256:=mC p 1;have hw:ag ((2:Int)+ag ((2:Int)*(pn p:Int)))=((2+2*pn p:Nat):Int):=Ev Bys;have Wr:((p[1]'Bys).toNat)=ff p:=(jH (show 1 < p.length by omega)).2;have hwl:ag (ff p:Int)=(ff p:Int):=DH p 1;simp only[hp,aI,aN,aE,gi (show 1 < p.length by omega),Wr,hwl,uX hp,aA,hw,aJ];by_cases c1:pn p<=16;rotate_left
 ·grind
 have n1:¬ ((16:Int) < (pn p:Int)):=by omega
 simp only[n1,aG,aE,c1,dE];by_cases c2:2+2*pn p<=ff p;rotate_left
 ·grind
 have n2:¬ ((ff p:Int) < ((2+2*pn p:Nat):Int)):=by omega
 simp only[n2,aG,aE,c2,dE];by_cases c3:ff p<=64;rotate_left
 ·grind
 have n3:¬ ((64:Int) < (ff p:Int)):=by omega
 simp only[n3,aG,aE,c3,aJ]
 have first:bm.r0 k (p,()) (pn p:Int) (ff p:Int) (0:Int)=if (List.range (pn p)).all (zm p) then bm.Q0 k (p,()) (pn p:Int) (ff p:Int) () else some ((3:Int),()):=by
  have:=eh (B:=λself v=>bm.b0 self (λz=>bm.Q0 k (p,()) (pn p:Int) (ff p:Int) z) (p,()) (pn p:Int) (ff p:Int) v) (List.range (pn p)) (λ(_:Unit) (i:Int)=>i) (λ_ _ x=>if zm p x then .inr () else .inl (some ((3:Int),()))) (λ_=>bm.Q0 k (p,()) (pn p:Int) (ff p:Int) ()) (λ_ _=>True) (by grind)
   (λi hi s self _=>by
    rw[cZ] at hi
    grind [bm.b0,pat,mC,bj,bh,CY,zm])
   (λ_ _ _ _ _ _=>trivial) (λs self _=>by
    grind [bm.b0]) () trivial k (by grind)
  rw[v7] at this;exact this
 rw[first];by_cases mF:(List.range (pn p)).all (zm p)=true;rotate_left
 ·grind
 simp only[mF,aJ];have hs:∀ i,i < pn p->bj p i≠0->ff p<=pat p i/\pat p i+bj p i<=64:=λi hi=>((Hq Bys).1 (bH.1 mF i (cD.2 hi))).1
 have inner:∀ (self:((List UInt8)×Int×(List Bool)×Int×Int)->Option bm.O) (e2:((List UInt8)×Int)->Option bm.O) (i:Nat) (hi:i < pn p),bm.r2 k self e2 (p,()) p (pn p:Int) (pat p i:Int) (bj p i:Int) (pn p:Int) (i:Int) ((List.range 64).map (ue p i),(pat p i:Int))=if Il p i then some ((8:Int),()) else self (p,(pn p:Int),(List.range 64).map (ue p (i+1)),(pn p:Int),ag ((i:Int)+1)):=λself e2 i hi=>by
  have h1:pat p i < 256:=mC p _;have h2:bj p i < 256:=mC p _;have Dq:ag ((pat p i:Int)+(bj p i:Int))=((pat p i+bj p i:Nat):Int):=by grind [bh]
  have:=eh (B:=λim v=>bm.b2 im (λz=>bm.q1 self e2 (p,()) p (pn p:Int) (pat p i:Int) (bj p i:Int) (pn p:Int) (i:Int) z) (p,()) p (pn p:Int) (pat p i:Int) (bj p i:Int) (pn p:Int) (i:Int) v) (List.range (bj p i)) (λ(s:List Bool) (t:Int)=>(s,(pat p i:Int)+t)) (λ_ s t=>if ue p i (pat p i+t) then .inl (some ((8:Int),())) else .inr (Ag p i (t+1))) (λ_=>self (p,(pn p:Int),(List.range 64).map (ue p (i+1)),(pn p:Int),ag ((i:Int)+1))) (λt s=>s=Ag p i t) (by grind)
   (λt ht s im hI=>by
    rw[cZ] at ht;subst hI;obtain ⟨g1,g2⟩:=hs i hi Bys;show bm.b2 _ _ _ _ _ _ _ _ _ _=_;unfold bm.b2;have a_:(pat p i:Int)+(t:Int) < ((pat p i+bj p i:Nat):Int):=by omega
    have IW:(0:Int)<=(pat p i:Int)+(t:Int):=by omega
    have hlen:(pat p i:Int)+(t:Int) < ((Ag p i t).length:Int):=by rw[JS];omega
    have htn:((pat p i:Int)+(t:Int)).toNat=pat p i+t:=by omega
    have acA:¬ (pat p i<=pat p i+t/\pat p i+t < pat p i+t):=by omega
    have hwt:ag ((pat p i:Int)+(t:Int)+1)=(pat p i:Int)+ag ((t:Int)+1):=by grind [bh]
    grind [JR,XK])
   (λt ht s s' hI hf=>by
    grind) (λs im hI=>by
    rw[cZ] at hI ⊢;show bm.b2 _ _ _ _ _ _ _ _ _ _=_;unfold bm.b2;have a_:¬ ((pat p i:Int)+(bj p i:Int) < ((pat p i+bj p i:Nat):Int)):=by omega
    simp only[Dq,a_,aG,aE];rw[hI,XJ]
    rfl) (Ag p i 0) rfl k (by grind)
  rw[Hr] at this;rw[<-XI];simp only[Int.add_zero] at this;exact this
 have outer:bm.r1 k (p,()) (pn p:Int) (ff p:Int) (p,(pn p:Int),List.replicate 64 false,(pn p:Int),(0:Int))=if (List.range (pn p)).any (Il p) then some ((8:Int),()) else bm.q2 (p,()) (p,(pn p:Int)):=by
  have:=eh (B:=λself v=>bm.B1 k self (λz=>bm.q2 (p,()) z) (p,()) v) (List.range (pn p)) (λ(s:List Bool) (i:Int)=>(p,(pn p:Int),s,(pn p:Int),i)) (λ_ s x=>if Il p x then .inl (some ((8:Int),())) else .inr ((List.range 64).map (ue p (x+1)))) (λ_=>bm.q2 (p,()) (p,(pn p:Int))) (λi s=>s=(List.range 64).map (ue p i)) (by grind)
   (λi hi s self hI=>by
    rw[cZ] at hi;subst hI;show bm.b1 _ _ _ _ _=_
    grind [bm.b1,CY])
   (λi hi s s' hI hf=>by
    grind) (λs self _=>by
    rw[cZ];show bm.b1 _ _ _ _ _=_
    grind [bm.b1]) (List.replicate 64 false) (by show _=(List.range 64).map (λ_=>false);decide) k (by grind)
  rw[Hr] at this;exact this
 show bm.q0 _ _ _ _ _=_;unfold bm.q0;rw[outer,ZU];by_cases G7:(List.range (pn p)).all (λi=>(List.range i).all (uK p i))=true;rotate_left
 ·grind
 simp only[G7,aN,aF,aS,aJ];show bm.q2 _ _=_;unfold bm.q2;by_cases h0:0 < pn p
 ·have a_:(0:Int) < (pn p:Int):=by omega
  have hwm:ag (ag ((2:Int)*(pn p:Int))+1)=((2*pn p+1:Nat):Int):=by grind [bh]
  have hz:((p[2*pn p+1]'Bys).toNat)=bj p (pn p - 1):=by
   rw[(jH (show 2*pn p+1 < p.length by omega)).2];show pb p _=pb p _;congr 1;omega
  simp only[a_,aI,aO,hwm,aK,aJ,aC,gi (show 2*pn p+1 < p.length by omega),hz,h0,dE];grind
 grind
end OT
namespace OT
open Go
theorem o8 {V S O:Type} {B:(V->Option O)->V->Option O} (n:Nat) (enc:S->Int->V) (f:Nat->S->Sum (Option O) S) (fin:S->Option O) (I:Nat->S->Prop) (hn:n<=1048576)
  (iZ:∀ (i:Nat),i < n->∀ (s:S) self,I i s->B self (enc s (i:Int))=match f i s with | .inl o=>o | .inr s'=>self (enc s' (ag ((i:Int)+1))))
  (hI:∀ (i:Nat),i < n->∀ (s s':S),I i s->f i s=.inr s'->I (i+1) s')
  (mL:∀ (s:S) self,I n s->B self (enc s (n:Int))=fin s) (s:S) (h0:I 0 s) (k:Nat) (hk:n < k):am B k (enc s 0)=bq (λ_ s x=>f x s) fin 0 (List.range n) s:=
 eh (List.range n) enc (λ_ s x=>f x s) fin I (by grind [au])
  (λi hi s self h=>by grind)
  (λi hi s s' h hf=>by grind)
  (λs self h=>by grind) s h0 k (by grind)
theorem FR {O α β:Type} (g:α->List β) (fin:List β->O):∀ (xs:List α) (i:Nat) (s:List β),bq (λ_ s x=>.inr (s++g x)) fin i xs s=fin (s++xs.flatMap g)
 | [],_,s=>by simp[bq]
 | x::xs,i,s=>by simp only[bq];rw[FR g fin xs (i+1)];simp[cA]
abbrev CZ:Row:=((0:Int),(0:Int),(0:Int),([]:List UInt8),())
abbrev Ld:tF:=((0:Int),(0:Int),(0:Int),(0:Int),CZ,())
abbrev FS:tF:=((5:Int),(0:Int),(0:Int),(0:Int),CZ,())
def vq (d:List UInt8):Row:=((pb d 1:Int),(pb d 2:Int),(pb d 3:Int)*256+(pb d 4:Int),d.drop 6,())
def en (d:List UInt8):tF×Bool:=
 if d.length=3/\pb d 0=1 then (((0:Int),(1:Int),(pb d 1:Int),(pb d 2:Int),CZ,()),decide (pb d 1<=11)&&decide (pb d 2<=15))
 else if d.length < 6\/pb d 0=1\/2 < pb d 0\/d.length≠6+pb d 5 then (Ld,false)
 else (((0:Int),(pb d 0:Int),(0:Int),(0:Int),vq d,()),decide (ly (vq d)=0))
theorem ZV {a b:Nat} (ha:a < 256) (hb:b < 256):((BitVec.ofInt 64 (ag ((a:Int)*2 ^ 8)) ||| BitVec.ofInt 64 (b:Int)).toNat:Int)=(a:Int)*256+(b:Int):=by
 have e1:ag ((a:Int)*2 ^ 8)=((2 ^ 8*a:Nat):Int):=by grind [bh]
 rw[e1,BitVec.toNat_or]
 have e2:(BitVec.ofInt 64 ((2 ^ 8*a:Nat):Int)).toNat=2 ^ 8*a:=by
  rw[gT];omega
 have e3:(BitVec.ofInt 64 (b:Int)).toNat=b:=by
  grind
 rw[e2,e3,<- Nat.two_pow_add_eq_or_of_lt Bys a];omega
theorem C0 (d:List UInt8) (hd:d.length<=100):mw.ae (d,())=some ((en d).1,(en d).2,()):=by
 refine ah (k:=0) λk _=>(mw.af k _).trans ?_;show mw.p _=_;unfold mw.p en;have b0:=mC d 0;have b1:=mC d 1;have b2:=mC d 2;have b3:=mC d 3;have b4:=mC d 4;have b5:=mC d 5;by_cases h3:d.length=3
 ·have e3:decide ((d.length:Int)=3)=true:=bA Bys;have e6:decide ((d.length:Int) < 6)=true:=bA Bys;have hl6:d.length < 6:=by omega
  simp only[e3,e6,aO,gi (show 0 < d.length by omega),(jH (show 0 < d.length by omega)).2];by_cases h1:pb d 0=1
  ·have e1:decide ((pb d 0:Int)=1)=true:=bA Bys;rw[aR ⟨h3,h1⟩];simp only[e1,aO,gi (show 1 < d.length by omega),(jH (show 1 < d.length by omega)).2,gi (show 2 < d.length by omega),(jH (show 2 < d.length by omega)).2,DH]
   have ji:sO.ae ((pb d 1:Int),(pb d 2:Int),())=some (decide (pb d 1<=11)&&decide (pb d 2<=15),()):=by
    refine ah (k:=0) λk _=>(sO.af k _).trans ?_;grind [sO.p,pu,decide]
   grind
  grind
 ·have e3:decide ((d.length:Int)=3)=false:=bC Bys;simp only[e3,aE,h3,iM,aS];by_cases h6:d.length < 6
  ·grind
  ·have e6:decide ((d.length:Int) < 6)=false:=bC Bys;simp only[e6,aE,gi (show 0 < d.length by omega),(jH (show 0 < d.length by omega)).2,h6,iJ];by_cases h1:pb d 0=1
   ·grind
   have e1:decide ((pb d 0:Int)=1)=false:=bC Bys;simp only[e1,aE,h1,iJ];by_cases h2:2 < pb d 0
   ·grind
   have e2:decide ((2:Int) < (pb d 0:Int))=false:=bC Bys;have w6:ag ((6:Int)+(pb d 5:Int))=((6+pb d 5:Nat):Int):=by grind [bh]
   simp only[e2,aE,h2,iJ,gi (show 5 < d.length by omega),(jH (show 5 < d.length by omega)).2,DH,w6];by_cases h5:d.length=6+pb d 5;rotate_left
   ·grind
   have e5:decide ((d.length:Int)=((6+pb d 5:Nat):Int))=true:=bA Bys;have h6':(0:Int)<=6/\(6:Int)<=(d.length:Int):=by omega
   have w3:ag (ag ((pb d 3:Int)*256)+(pb d 4:Int))=(pb d 3:Int)*256+(pb d 4:Int):=by grind [bh]
   have ht:(d.take d.length).drop 6=d.drop 6:=by rw[eM]
   have hr:jA.ae (vq d,())=some (ly (vq d),()):=BL (vq d) (by grind [au,vq]);unfold vq at hr;rw[aV (λh=>h h5)]
   simp only[e5,aN,aE,gi (show 1 < d.length by omega),(jH (show 1 < d.length by omega)).2,gi (show 2 < d.length by omega),(jH (show 2 < d.length by omega)).2,
    gi (show 3 < d.length by omega),(jH (show 3 < d.length by omega)).2,gi (show 4 < d.length by omega),(jH (show 4 < d.length by omega)).2,DH,w3,ht,hr,aA]
   rw[aR Bys];rfl
theorem GD (d:List UInt8) (hd:d.length<=100):kt.ae (d,())=some (if (en d).2 then (en d).1 else FS,()):=by
 refine ah (k:=0) λk _=>(kt.af k _).trans ?_;show kt.p _=_;unfold kt.p;have b0:=mC d 0;have b1:=mC d 1;have b2:=mC d 2;have b3:=mC d 3;have b4:=mC d 4;have b5:=mC d 5;by_cases h3:d.length=3
 ·grind [pb,en,DH]
 ·have e3:decide ((d.length:Int)=3)=false:=bC Bys;simp only[e3,aE];by_cases h6:d.length < 6
  ·grind [en]
  ·have e6:decide ((d.length:Int) < 6)=false:=bC Bys
   have hc:en d=if pb d 0=1\/2 < pb d 0\/d.length≠6+pb d 5 then (Ld,false) else (((0:Int),(pb d 0:Int),(0:Int),(0:Int),vq d,()),decide (ly (vq d)=0)):=by
    grind [en]
   have hlen:∀ i,i < 6->i < d.length:=λi hi=>by omega
   have w6:ag ((6:Int)+(pb d 5:Int))=((6+pb d 5:Nat):Int):=by grind [bh]
   have h6':(0:Int)<=6/\(6:Int)<=(d.length:Int):=by omega
   have w3:ag ((BitVec.ofInt 64 (ag ((pb d 3:Int)*2 ^ 8)) ||| BitVec.ofInt 64 (pb d 4:Int)).toNat:Int)=(pb d 3:Int)*256+(pb d 4:Int):=by rw[ZV b3 b4,bh Bys]
   have ht:(d.take d.length).drop 6=d.drop 6:=by rw[eM]
   have hr:f_.ae (vq d,())=some (ly (vq d),()):=BM (vq d) (by grind [au,vq]);unfold vq at hr
   simp only[e6,aE,gi (show 0 < d.length by omega),(jH (show 0 < d.length by omega)).2,gi (show 5 < d.length by omega),(jH (show 5 < d.length by omega)).2,gi (show 1 < d.length by omega),(jH (show 1 < d.length by omega)).2,gi (show 2 < d.length by omega),(jH (show 2 < d.length by omega)).2,
    gi (show 3 < d.length by omega),(jH (show 3 < d.length by omega)).2,gi (show 4 < d.length by omega),(jH (show 4 < d.length by omega)).2,DH,w6,h6'.2,show (0:Int)<=6 by omega,cI,aJ,w3,ht,hr,aA]
   have e5:decide ((d.length:Int)=((6+pb d 5:Nat):Int))=decide (d.length=6+pb d 5):=by grind
   have e0:decide ((pb d 0:Int)=0)=decide (pb d 0=0):=by grind
   have e2:decide ((pb d 0:Int)=2)=decide (pb d 0=2):=by grind
   rw[e5,e0,e2]
   have fin:∀ (c5:d.length=6+pb d 5) (c0:¬ (pb d 0=1\/2 < pb d 0\/d.length≠6+pb d 5)),(bif !decide (ly ((pb d 1:Int),(pb d 2:Int),(pb d 3:Int)*256+(pb d 4:Int),d.drop 6,())=0) then some (FS,()) else some (((0:Int),(pb d 0:Int),(0:Int),(0:Int),((pb d 1:Int),(pb d 2:Int),(pb d 3:Int)*256+(pb d 4:Int),d.drop 6,()),()),()))=some (if (en d).2 then (en d).1 else FS,()):=λc5 c0=>by
    rw[hc,aV c0];show (bif !decide (ly (vq d)=0) then some (FS,()) else some (((0:Int),(pb d 0:Int),(0:Int),(0:Int),vq d,()),()))=some (if decide (ly (vq d)=0)=true then ((0:Int),(pb d 0:Int),(0:Int),(0:Int),vq d,()) else FS,());grind
   have bad:(pb d 0=1\/2 < pb d 0\/d.length≠6+pb d 5)->(some (FS,()):Option kt.O)=some (if (en d).2 then (en d).1 else FS,()):=λh=>by
    grind
   by_cases c5:d.length=6+pb d 5
   ·rw[bA c5];by_cases c0:pb d 0=0
    ·simp_all
    grind
   grind
section
variable {p:List UInt8} (hp:ij p)
include hp
theorem zo (s:Nat):iv.ae (p,(s:Int),())=some (decide (s < pn p)&&!decide (bj p s=0),()):=by
 refine ah (k:=0) λk _=>(iv.af k _).trans ?_;show iv.p _=_;unfold iv.p;have h0:(0:Int)<=(s:Int):=by omega
 have hn:=hp.n;have hl:=hp.len;grind [uX,decide,bj,jH,Ni]
theorem VB (s:Nat):tJ.ae (p,(s:Int),())=some (decide (s < pn p)&&!decide (bj p s=0),()):=by
 refine ah (k:=0) λk _=>(tJ.af k _).trans ?_;show tJ.p _=_;unfold tJ.p;have hn:=hp.n;have hl:=hp.len;grind [bh,nX,pu,decide_eq_false,qN]
theorem Mw {s:Nat} (hs:s < pn p):pat p s+bj p s<=64:=by
 by_cases hz:bj p s=0
 ·have:=hp.zero s hs hz;omega
 ·exact (hp.slot s hs hz).2
theorem Bo {s:Nat} (hs:s < pn p):mz.ae (p,(s:Int),())=some (jm p s,()):=by
 refine ah (k:=0) λk _=>(mz.af k _).trans ?_;show mz.p _=_;unfold mz.p jm;have hn:=hp.n;have hl:=hp.len;have hc:=Mw hp hs;grind [bh,CY,Int.toNat_natCast,List.drop_take]
theorem xT {s:Nat} (hs:s < pn p):j_.ae (p,(s:Int),())=some (jm p s,()):=by
 refine ah (k:=0) λk _=>(j_.af k _).trans ?_;show j_.p _=_;unfold j_.p jm;have hn:=hp.n;have hl:=hp.len;have hc:=Mw hp hs;have hw:ag ((pat p s:Int)+(bj p s:Int))=((pat p s+bj p s:Nat):Int):=by grind [bh]
 grind [AZ,qN,cv,List.drop_take]
end
theorem xK {p:List UInt8} (hp:ij p) {s:Nat} (hs:s < pn p):(jm p s).length<=64:=by
 have:=pv hp hs;have:=Mw hp hs;omega
end OT
namespace OT
open Go
def rk (x:Row):Int×Int:=(x.1,x.2.1)
theorem FT (a b:Int×Int):cr a b=true↔a.1 < b.1\/(a.1=b.1/\a.2 < b.2):=by grind [cr]
theorem qZ {a b c:Int×Int} (h1:cr a b=true) (h2:cr b c=true):cr a c=true:=by
 grind [FT]
theorem mQ (a:Int×Int):cr a a=false:=by
 grind [FT]
theorem A4 {a b:Int×Int} (h:cr a b=true):cr b a=false:=by
 grind [FT]
theorem vt {a b:Int×Int} (h1:cr a b=false) (h2:cr b a=false):a=b:=by
 grind [FT]
def up (xs:List Row):Prop:=xs.Pairwise (λa b=>cr (rk a) (rk b)=true)
theorem v_ {x:Row} {xs:List Row}:up (x::xs)↔(∀ y ∈ xs,cr (rk x) (rk y)=true)/\up xs:=dD
def pos:List Row->Int×Int->Nat
 | [],_=>0
 | x::xs,k=>if cr (rk x) k then pos xs k+1 else 0
theorem A5:∀ (xs:List Row) (k:Int×Int),pos xs k<=xs.length
 | [],_=>aH _
 | x::xs,k=>by simp only[pos];split <;> simp[A5 xs k]
theorem C3:∀ (xs:List Row) (k:Int×Int) (i:Nat) (h:i < xs.length),i < pos xs k->cr (rk xs[i]) k=true
 | x::xs,k,i,h,hp=>by
  simp only[pos] at hp;split at hp
  ·rename_i hx
   cases i with
   | zero=>exact hx
   | succ i=>exact C3 xs k i (by simpa using h) Bys
  ·omega
theorem wK:∀ (xs:List Row) (k:Int×Int) (i:Nat) (h:i < xs.length),up xs->pos xs k<=i->cr (rk xs[i]) k=false
 | x::xs,k,i,h,hu,hp=>by
  simp only[pos] at hp;split at hp
  ·cases i with
   | zero=>omega
   | succ i=>exact wK xs k i (by simpa using h) (v_.1 hu).2 Bys
  ·rename_i hx;have hx:cr (rk x) k=false:=by simpa using hx
   cases i with
   | zero=>exact hx
   | succ i=>
    have rE:i < xs.length:=by simpa using h
    have hm:cr (rk x) (rk xs[i])=true:=(v_.1 hu).1 _ (aP _);grind [qZ]
def lz (xs:List Row) (k:Int×Int):Bool:=match xs[pos xs k]? with
 | some x=>decide (rk x=k)
 | none=>false
theorem zp {xs:List Row} {k:Int×Int} (h:lz xs k=true):∃ hp:pos xs k < xs.length,rk xs[pos xs k]=k:=by
 grind [lz]
theorem XL (a b:Row):decide ((if cr (a.1,a.2.1) (b.1,b.2.1) then (-1:Int) else if cr (b.1,b.2.1) (a.1,a.2.1) then 1 else 0) < 0)=cr (rk a) (rk b):=by
 grind [rk]
theorem FU (a b:Row):sameKey a b=decide (rk a=rk b):=by
 grind [sameKey,rk]
theorem half (lo hi:Nat) (h:lo+hi<=4611686018427387904):ag ((IntKind.wrap .u64 (ag ((lo:Int)+(hi:Int)))).fdiv (2 ^ 1))=(((lo+hi) / 2:Nat):Int):=by
 grind [bh,IntKind.wrap,IntKind.bits]
theorem Nj (xs:List Row) (key:Row) (f:Nat×Int) (hu:up xs) (hl:xs.length<=2000000):cd.ae (xs,key,f,())=some ((pos xs (rk key):Int),lz xs (rk key),()):=by
 have hp:=A5 xs (rk key)
 have hq:cd.q0 (xs,key,f,()) (pos xs (rk key):Int)=some ((pos xs (rk key):Int),lz xs (rk key),()):=by
  grind [cd.q0,lz,vl,K_,FU]
 refine ah (k:=xs.length+1) λk hk=>(cd.af k _).trans ?_
 refine qV (B:=λself v=>cd.b0 self (λz=>cd.q0 (xs,key,f,()) z) (xs,key,f,()) v) (λ_=>((pos xs (rk key):Int),lz xs (rk key),()))
  (λv=>∃ lo hi:Nat,v=((lo:Int),(hi:Int))/\lo<=pos xs (rk key)/\pos xs (rk key)<=hi/\hi<=xs.length) (λv=>(v.2 - v.1).toNat) (λv hv self=>?_) k (0,(xs.length:Int)) ⟨0,xs.length,rfl,by omega,hp,by omega⟩ (by simp;omega)
 obtain ⟨lo,hi,rfl,h1,h2,h3⟩:=hv;by_cases a_:lo < hi
 ·right;have zP:(lo:Int) < (hi:Int):=by omega
  have hm:(lo+hi) / 2 < xs.length:=by omega
  have hb:∀ self,cd.b0 self (λz=>cd.q0 (xs,key,f,()) z) (xs,key,f,()) ((lo:Int),(hi:Int))=if cr (rk xs[(lo+hi) / 2]) (rk key) then self (ag ((((lo+hi) / 2:Nat):Int)+1),(hi:Int)) else self ((lo:Int),(((lo+hi) / 2:Nat):Int)):=λself=>by
   grind [cd.b0,half,Int.toNat_natCast,vl,XL]
  cases hc:cr (rk xs[(lo+hi) / 2]) (rk key) with
  | true=>
   refine ⟨((((lo+hi) / 2+1:Nat):Int),(hi:Int)),?_,rfl,⟨_,_,rfl,?_,h2,h3⟩,by grind⟩
   all_goals grind [bh,wK]
  | false=>
   refine ⟨((lo:Int),(((lo+hi) / 2:Nat):Int)),?_,rfl,⟨_,_,rfl,h1,?_,by omega⟩,by grind⟩
   all_goals grind [C3]
 grind [cd.b0]
def xg (xs:List Row) (c:Change):Bool:=(lz xs (ck c) == c.1)&&(!lz xs (ck c)||(match xs[pos xs (ck c)]? with | some x=>Ty.eq bd x c.2.1 | none=>true))
def rK (xs:List Row) (c:Change):List Row:=xs.take (pos xs (ck c))++(if c.2.2.1 then [c.2.2.2.1] else [])++xs.drop (pos xs (ck c)+if lz xs (ck c) then 1 else 0)
theorem wL (c:Change):rk (rx c)=ck c:=yB c
theorem Nk (c:Change) (xs:List Row) (hu:up xs) (hl:xs.length<=2000000):kd.ae (c,xs,())=some (xg xs c,()):=by
 refine ah (k:=0) λk _=>(kd.af k _).trans ?_;grind [kd.p,xg,vm,Nj,wL,zp]
theorem VC (xs:List Row) (c:Change) (hu:up xs) (hl:xs.length<=2000000):rq.ae (xs,c,())=some (rK xs c,()):=by
 refine ah (k:=0) λk _=>(rq.af k _).trans ?_;show rq.p _=_;unfold rq.p rK;have hp:=A5 xs (ck c);have CK:0<=((pos xs (ck c):Nat):Int)/\((pos xs (ck c):Nat):Int)<=(xs.length:Int):=by omega
 have c1:([]:List Row).length+(List.take (pos xs (ck c)) xs).length<=b9:=cv (by simp;omega);simp only[vm,Nj xs _ _ hu hl,wL,aA,CK,cI,aJ,aC,c1,eD,cJ,eM];have c2:(List.take (pos xs (ck c)) xs).length+[c.2.2.2.1].length<=b9:=cv (by simp;omega);have hd:∀ (p7:List Row) (n:Nat),p7.length<=2000001->p7.length+(List.drop n xs).length<=b9:=λp7 n h=>cv (by grind);have hw:ag (((pos xs (ck c):Nat):Int)+1)=((pos xs (ck c)+1:Nat):Int):=by grind [bh]
 have c3:=hd (List.take (pos xs (ck c)) xs++[c.2.2.2.1]);have c4:=hd (List.take (pos xs (ck c)) xs);have l3:(List.take (pos xs (ck c)) xs++[c.2.2.2.1]).length<=2000001:=by simp;omega
 have l4:(List.take (pos xs (ck c)) xs).length<=2000001:=by simp;omega
 cases hf:lz xs (ck c) with
 | false=>
  grind
 | true=>
  obtain ⟨ji,_⟩:=zp hf;grind
theorem GE (a b:Row):n9.ae (a,b,())=some (cr (rk a) (rk b),()):=by
 refine ah (k:=0) λk _=>(n9.af k _).trans ?_;grind [n9.p,cr,rk]
theorem IX {x:Row} {xs:List Row} {k:Int×Int} (h:cr (rk x) k=true):lz (x::xs) k=lz xs k:=by
 grind [lz,pos]
theorem Im {xs:List Row} {k:Int×Int} (h:lz xs k=true):∃ y ∈ xs,rk y=k:=by
 obtain ⟨hp,hk⟩:=zp h;grind
theorem Tw (k:Int×Int):∀ (xs:List Row) (j:Nat),up xs->bq (λi (_:Unit) x=>if rk x=k then .inl ((i:Int),()) else .inr ()) (λ_=>((-1:Int),())) j xs ()=if lz xs k then (((j+pos xs k:Nat):Int),()) else (-1,())
 | [],j,_=>by simp[bq,lz]
 | x::xs,j,hu=>by
  have hu:=v_.1 hu;simp only[bq];by_cases hx:rk x=k
  ·grind [mQ,lz,pos]
  ·simp only[hx,aS];rw[Tw k xs (j+1) hu.2];grind [pos,lz]
def zL (xs:List Row) (k:Int×Int):Int:=if lz xs k then (pos xs k:Int) else -1
theorem Hs (xs:List Row) (t k:Int) (hu:up xs) (hl:xs.length<=2000000):lk.ae (xs,t,k,())=some (zL xs (t,k),()):=by
 refine ah (k:=xs.length+1) λf hf=>(lk.af f _).trans ?_
 have:=ci (B:=λself v=>lk.b0 self (λz=>lk.q0 (xs,t,k,()) z) (xs,t,k,()) v) xs (λ(_:Unit) (i:Int)=>i) (λi _ x=>if rk x=(t,k) then .inl ((i:Int),()) else .inr ()) (λ_=>((-1:Int),())) (λ_ _=>True) (by rw[au];omega)
  (λi hi _ self _=>by
   grind [lk.b0,rk]) (λ_ _ _ _ _ _=>trivial) (λ_ self _=>by
   grind [lk.b0,lk.q0]) () trivial f Bys
 rw[Tw (t,k) xs 0 hu] at this;have this:lk.r0 f (xs,t,k,()) 0=_:=this;grind [lk.p,zL]
theorem P8 {O:Type} (k:Int×Int) (g:Nat->O) (n:Nat):∀ (xs:List Row) (j:Nat),j+xs.length=n->bq (λi (_:Unit) x=>if cr (rk x) k then .inr () else .inl (g i)) (λ_=>g n) j xs ()=g (j+pos xs k)
 | [],j,h=>by grind [bq,pos]
 | x::xs,j,h=>by
  simp only[bq,pos]
  cases hb:cr (rk x) k with
  | true=>
   simp only[aJ];rw[P8 k g n xs (j+1) (by grind)];congr 1;omega
  | false=>simp
def m_ (xs:List Row) (r:Row):List Row:=xs.take (pos xs (rk r))++[r]++xs.drop (pos xs (rk r))
theorem FV (xs:List Row) (r:Row) (hl:xs.length<=2000000):jD.ae (xs,r,())=some (m_ xs r,()):=by
 refine ah (k:=xs.length+1) λf hf=>(jD.af f _).trans ?_
 have hq:∀ i:Nat,i<=xs.length->jD.q0 (xs,r,()) (i:Int)=some (xs.take i++[r]++xs.drop i,()):=λi hi=>by
  show jD.q0 _ _=_;unfold jD.q0;have CK:0<=(i:Int)/\(i:Int)<=(xs.length:Int):=by omega
  have c1:([]:List Row).length+(List.take i xs).length<=b9:=cv (by simp;omega);have c2:(List.take i xs).length+[r].length<=b9:=cv (by simp;omega);have c3:(List.take i xs++[r]).length+(List.drop i xs).length<=b9:=cv (by simp;omega);grind
 have:=ci (B:=λself v=>jD.b0 self (λz=>jD.q0 (xs,r,()) z) (xs,r,()) v) xs (λ(_:Unit) (i:Int)=>i) (λi _ x=>if cr (rk x) (rk r) then .inr () else .inl (xs.take i++[r]++xs.drop i,())) (λ_=>(xs.take xs.length++[r]++xs.drop xs.length,())) (λ_ _=>True) (by rw[au];omega)
  (λi hi _ self _=>by
   show jD.b0 _ _ _ _=_;unfold jD.b0;have a_:(i:Int) < (xs.length:Int):=by omega
   simp only[a_,aI,aO,aK,aJ,aC,aB hi,aA,GE]
   cases cr (rk xs[i]) (rk r) <;> grind) (λ_ _ _ _ _ _=>trivial) (λ_ self _=>by
   grind [jD.b0]) () trivial f Bys
 rw[P8 (rk r) (λi=>(xs.take i++[r]++xs.drop i,())) xs.length xs 0 Bys] at this;refine this.trans ?_;simp[m_]
theorem JT (t:Int):∀ (xs:List Row) (j:Nat) (s:List Row),bq (O:=List Row×Unit) (λi s x=>if (i:Int)=t then .inr s else .inr (s++[x])) (λs=>(s,())) j xs s=(s++(if (j:Int)<=t/\t < j+xs.length then xs.take (t - j).toNat++xs.drop ((t - j).toNat+1) else xs),())
 | [],j,s=>by
  grind [bq]
 | x::xs,j,s=>by
  simp only[bq];by_cases h:(j:Int)=t
  ·have h1:¬ (((j+1:Nat):Int)<=t/\t < ((j+1:Nat):Int)+(xs.length:Int)):=by omega
   have h2:(j:Int)<=t/\t < (j:Int)+((x::xs).length:Int):=by simp;omega
   have h3:(t - j).toNat=0:=by omega
   simp only[h,aJ];rw[JT t xs (j+1) s,aV h1];grind
  ·simp only[h,aS];rw[JT t xs (j+1) (s++[x])];grind
def JU (xs:List Row) (k:Int×Int):List Row:=if lz xs k then xs.take (pos xs k)++xs.drop (pos xs k+1) else xs
theorem Le (k:Int×Int):∀ (l1 l2:List Row),(∀ x ∈ l1,cr (rk x) k=true)->pos (l1++l2) k=l1.length+pos l2 k
 | [],l2,_=>by simp
 | x::l1,l2,h=>by
  simp only[dR,pos,h x bB,aJ,bM];rw[Le k l1 l2 λy hy=>h y (aW _ hy)];omega
theorem Ah {xs:List Row} {k:Int×Int} {x:Row} (h:x ∈ xs.take (pos xs k)):cr (rk x) k=true:=by
 obtain ⟨i,hi,e⟩:=cK.1 h;grind [C3]
theorem ZW {xs:List Row} {k:Int×Int} (hu:up xs) {n:Nat} (hn:pos xs k<=n):pos (xs.drop n) k=0:=by
 grind [List.drop_eq_nil_of_le,List.drop_eq_getElem_cons,pos,wK]
theorem abM {xs:List Row} {k:Int×Int} {r:Row} (hu:up xs) (hk:rk r=k):m_ (JU xs k) r=xs.take (pos xs k)++[r]++xs.drop (pos xs k+if lz xs k then 1 else 0):=by
 have hp:=A5 xs k
 have key:∀ n,pos xs k<=n->pos (xs.take (pos xs k)++xs.drop n) k=pos xs k:=λn hn=>by
  grind [Le,Ah,ZW]
 have hl:(xs.take (pos xs k)).length=pos xs k:=by grind
 unfold m_ JU;grind
theorem XM (xs:List Row) (c:Change) (hu:up xs) (hl:xs.length<=2000000) (hc:c.2.2.1=true->rk c.2.2.2.1=ck c):pr.ae (xs,c,())=some (if xg xs c then (rK xs c,true,()) else ([],false,())):=by
 refine ah (k:=xs.length+1) λf hf=>(pr.af f _).trans ?_;have hp:=A5 xs (ck c)
 have XN:=ci (B:=λself v=>pr.b0 self (λz=>pr.q0 (xs,c,()) (zL xs (ck c)) z) (xs,c,()) (zL xs (ck c)) v) (O:=List Row×Bool×Unit) xs (λ(s:List Row) (i:Int)=>(s,i)) (λi s x=>if (i:Int)=zL xs (ck c) then .inr s else .inr (s++[x]))
  (λs=>(if c.2.2.1 then m_ s c.2.2.2.1 else s,true,())) (λi s=>s.length<=i) (by rw[au];omega)
  (λi hi s self hI=>by
   grind [pr.b0,cv]) (λi hi s s' hI hf=>by
   grind) (λs self hI=>by
   grind [pr.b0,pr.q0,FV]) [] (aH _) f Bys
 have zX:∀ (xs0:List Row) (j:Nat) (s:List Row),bq (O:=List Row×Bool×Unit) (λi s x=>if (i:Int)=zL xs (ck c) then .inr s else .inr (s++[x])) (λs=>(if c.2.2.1 then m_ s c.2.2.2.1 else s,true,())) j xs0 s
   = (λs=>(if c.2.2.1 then m_ s c.2.2.2.1 else s,true,())) (bq (O:=List Row×Unit) (λi s x=>if (i:Int)=zL xs (ck c) then .inr s else .inr (s++[x])) (λs=>(s,())) j xs0 s).1:=by
  intro xs0
  induction xs0 <;> grind [bq]
 rw[zX,JT (zL xs (ck c)) xs 0 []] at XN
 have afl:([]++(if ((0:Nat):Int)<=zL xs (ck c)/\zL xs (ck c) < ((0:Nat):Int)+(xs.length:Int) then xs.take (zL xs (ck c) - ((0:Nat):Int)).toNat++xs.drop ((zL xs (ck c) - ((0:Nat):Int)).toNat+1) else xs))=JU xs (ck c):=by
  grind [zL,JU,lz]
 simp only[afl] at XN;have XN:pr.r0 f (xs,c,()) (zL xs (ck c)) (([]:List Row),(0:Int))=_:=XN;unfold pr.p xg;simp only[BN,Hs xs _ _ hu hl,aA,XN]
 have afG:(if c.2.2.1 then m_ (JU xs (ck c)) c.2.2.2.1 else JU xs (ck c))=rK xs c:=by
  unfold rK
  cases hi:c.2.2.1 with
  | true=>grind [abM]
  | false=>
   simp only[aF,aS,cR];unfold JU;cases lz xs (ck c) <;> simp_all
 grind [lz,zL,Int.toNat_natCast]
end OT
namespace OT
open Go
def ug (xs:List Row) (i:Nat) (x:Row):Sum (Int×Unit) Unit:=
 if ly x=0 then (if 0 < i then (match xs[i - 1]? with | some y=>if cr (rk y) (rk x) then .inr () else .inl (1,()) | none=>.inl (1,())) else .inr ()) else .inl (ly x,())
def vu (xs:List Row):Int:=if 60 < xs.length then 2 else (bq (λi (_:Unit) x=>ug xs i x) (λ_=>((0:Int),())) 0 xs ()).1
theorem R6 (xs:List Row) (hl:xs.length<=maxLen) (h:∀ c ∈ xs,rl c):my.ae (xs,())=some (vu xs,()):=by
 refine ah (k:=xs.length+1) λk hk=>(my.af k _).trans ?_
 have:=ci (B:=λself v=>my.b0 self (λz=>my.q0 (xs,()) z) (xs,()) v) xs (λ(_:Unit) (i:Int)=>i) (λi _ x=>ug xs i x) (λ_=>(0,())) (λ_ _=>True) hl
  (λi hi _ self _=>by
   show my.b0 _ _ _ _=_;unfold my.b0 ug;have a_:(i:Int) < (xs.length:Int):=by omega
   simp only[a_,aI,aO,aK,aJ,aC,aB hi,aA,BL _ (h _ (aP hi))]
   grind [FF,Int.toNat_natCast,GE]) (λ_ _ _ _ _ _=>trivial) (λ_ self _=>by
   grind [my.b0,my.q0]) () trivial k Bys
 have this:my.r0 k (xs,()) 0=_:=this;grind [my.p,vu]
theorem IY (xs:List Row) (hl:xs.length<=maxLen) (h:∀ c ∈ xs,rl c):iw.ae (xs,())=some (vu xs,()):=by
 refine ah (k:=xs.length+1) λk hk=>(iw.af k _).trans ?_
 have:=ci (B:=λself v=>iw.b0 self (λz=>iw.q0 (xs,()) z) (xs,()) v) xs (λ(_:Unit) (i:Int)=>i) (λi _ x=>ug xs i x) (λ_=>(0,())) (λ_ _=>True) hl
  (λi hi _ self _=>by
   show iw.b0 _ _ _ _=_;unfold iw.b0 ug rk;have a_:(i:Int) < (xs.length:Int):=by omega
   simp only[a_,aI,aO,aK,aJ,aC,aB hi,aA,BM _ (h _ (aP hi))]
   grind [FF,Int.toNat_natCast,Au]) (λ_ _ _ _ _ _=>trivial) (λ_ self _=>by
   grind [iw.b0,iw.q0]) () trivial k Bys
 have this:iw.r0 k (xs,()) 0=_:=this;grind [iw.p,vu]
theorem Ht {α:Type} {f:Nat->Unit->α->Sum (Int×Unit) Unit} (hf:∀ i s x o,f i s x=.inl o->o.1≠0):∀ (xs:List α) (j:Nat),(bq f (λ_=>((0:Int),())) j xs ()).1=0->∀ i (hi:i < xs.length),f (j+i) () xs[i]=.inr ()
 | x::xs,j,h,i,hi=>by
  simp only[bq] at h
  cases hx:f j () x with
  | inl o=>grind
  | inr u=>
   rw[hx] at h
   cases i with
   | zero=>exact hx
   | succ i=>
    have:=Ht hf xs (j+1) h i (by simpa using hi);grind
theorem P9:∀ (xs:List Row),(∀ i (hi:i < xs.length),0 < i->cr (rk (xs[i - 1]'Bys)) (rk xs[i])=true)->up xs
 | [],_=>List.Pairwise.nil
 | [x],_=>List.pairwise_singleton _ _
 | x::y::xs,h=>by
  have hu:up (y::xs):=P9 (y::xs) λi hi h0=>by
   have:=h (i+1) (by grind) Bys;grind
  have uR:cr (rk x) (rk y)=true:=h 1 (by simp) Bys;refine v_.2 ⟨λz hz=>?_,hu⟩;rcases aY.1 hz with rfl | hz
  ·exact uR
  ·exact qZ uR ((v_.1 hu).1 z hz)
theorem XO {x:Row} (h:ly x=0):List.length x.2.2.2.1<=8:=by
 grind [ly,DF]
structure Good (xs:List Row):Prop where
 up:up xs
 ok:∀ x ∈ xs,ly x=0
theorem FW {xs:List Row} (h:vu xs=0):Good xs/\xs.length<=60:=by
 unfold vu at h;split at h
 ·cases h
 ·rename_i hl
  have hn:=Ht (f:=λi (_:Unit) x=>ug xs i x) (λi s x o ho=>by
   grind [ug]) xs 0 h
  have h1:∀ i (hi:i < xs.length),ly xs[i]=0:=λi hi=>by
   grind [ug]
  refine ⟨⟨P9 xs λi hi h0=>?_,λx hx=>?_⟩,by omega⟩
  ·grind [ug]
  ·obtain ⟨i,hi,rfl⟩:=cK.1 hx;exact h1 i hi
theorem sE {c:Change} (h:om c=0):(c.2.2.1=true->rk c.2.2.2.1=ck c)/\(c.2.2.1=true->ly c.2.2.2.1=0):=by
 grind [rk,ck,om]
theorem A6 {xs:List Row} {c:Change} (h:Good xs) (hc:om c=0):Good (rK xs c):=by
 obtain ⟨hk,hr⟩:=sE hc;have hb:=h.up;constructor
 ·unfold rK up;have h1:(xs.take (pos xs (ck c))).Pairwise (λa b=>cr (rk a) (rk b)=true):=hb.sublist (List.take_sublist _ _);have GP:∀ n,(xs.drop n).Pairwise (λa b=>cr (rk a) (rk b)=true):=λn=>hb.sublist (List.drop_sublist _ _)
  have ada:∀ y ∈ xs.drop (pos xs (ck c)+if lz xs (ck c) then 1 else 0),cr (ck c) (rk y)=true:=λy hy=>by
   obtain ⟨i,e⟩:=fB.1 hy;rw[bK] at e;obtain ⟨a_,e1⟩:=aM.1 e;have hn:=wK xs (ck c) _ a_ hb Bys;rw[e1] at hn;clear e1 a_
   cases MW:cr (ck c) (rk y) with
   | true=>rfl
   | false=>
    have he:=vt MW hn;exfalso
    cases hf:lz xs (ck c) with
    | true=>
     obtain ⟨hp,Km⟩:=zp hf;rw[hf] at e;simp only[aJ] at e;obtain ⟨a_,e⟩:=aM.1 e;have:=cW.1 hb (pos xs (ck c)) (pos xs (ck c)+1+i) hp a_ Bys;grind
    | false=>
     rw[hf] at e;simp only[aF,aS,eJ] at e;obtain ⟨a_,e⟩:=aM.1 e;have hp:pos xs (ck c) < xs.length:=by omega
     have El:=wK xs (ck c) _ hp hb (aH _)
     have jx:rk xs[pos xs (ck c)]≠ck c:=λe2=>by
      grind [lz]
     have af1:cr (ck c) (rk xs[pos xs (ck c)])=true:=by
      grind [vt]
     cases i with
     | zero=>
      grind
     | succ i=>
      have:=cW.1 hb (pos xs (ck c)) (pos xs (ck c)+(i+1)) hp a_ Bys;grind
  have afv:∀ a ∈ xs.take (pos xs (ck c)),∀ y ∈ xs.drop (pos xs (ck c)+if lz xs (ck c) then 1 else 0),cr (rk a) (rk y)=true:=λa ha y hy=>qZ (Ah ha) (ada y hy);grind [Ah]
 ·intro x hx;unfold rK at hx;rcases bR.1 hx with hx | hx
  ·rcases bR.1 hx with hx | hx
   ·exact h.ok x (dU hx)
   grind
  ·exact h.ok x (cQ hx)
theorem FX (xs:List Row) (c:Change):(rK xs c).length<=xs.length+1:=by
 grind [rK]
def wM (i:Nat) (s:List Row) (c:Change):Sum (BF×Unit) (List Row):=if om c=0 then (if xg s c then .inr (rK s c) else .inl ((8,[],()),())) else .inl ((om c,[],()),())
def C4 (s:List Row):BF×Unit:=if 60 < s.length then ((2,[],()),()) else ((0,s,()),())
def Lf (xs:List Row) (cs:List Change):BF:=if vu xs=0 then (bq wM C4 0 cs xs).1 else (vu xs,[],())
theorem ZX (n i:Nat) (s s':List Row) (c:Change) (h:Good s/\s.length<=60+i) (hf:wM n s c=.inr s'):Good s'/\s'.length<=60+(i+1):=by
 grind [wM,A6,FX]
theorem IZ (xs:List Row) (h:xs.length<=1048576):kE.ae (xs,())=some (xs,()):=by
 refine ah (k:=0) λk _=>(kE.af k _).trans ?_;show kE.p _=_;unfold kE.p;have c1:([]:List Row).length+xs.length<=b9:=cv (by grind);exact B8 (λe=>by grind) (by grind)
theorem P_ (xs:List Row) (cs:List Change) (hl:xs.length<=maxLen) (h:∀ x ∈ xs,rl x) (ta:cs.length<=1048576) (hc:∀ c ∈ cs,cl c):je.ae (xs,cs,())=some (Lf xs cs,()):=by
 refine ah (k:=cs.length+1) λk hk=>(je.af k _).trans ?_;unfold je.p Lf;simp only[IY xs hl h,aA];by_cases h0:vu xs=0
 ·obtain ⟨hg,hn⟩:=FW h0;simp only[h0,aI,aN,aE,aJ,IZ xs Bys,aA]
  exact ci (B:=λself v=>je.b0 self (λz=>je.q0 (xs,cs,()) z) (xs,cs,()) v) cs (λ(s:List Row) (i:Int)=>(s,i)) wM C4 (λi s=>Good s/\s.length<=60+i) (by rw[au];omega)
   (λi hi s self hI=>by
    show je.b0 _ _ _ _=_;unfold je.b0 wM;have a_:(i:Int) < (cs.length:Int):=by omega
    simp only[a_,aI,aO,aK,aJ,aC,aB hi,aA,Bn _ (hc _ (aP hi)),Nk _ s hI.1.up Bys,VC s _ hI.1.up Bys]
    grind) (λi hi s s' hI hf=>ZX _ i s s' _ hI hf) (λs self hI=>by
    grind [je.b0,C4,je.q0]) xs ⟨hg,by omega⟩ k Bys
 grind
end OT
namespace OT
open Go
theorem Qa {α β O:Type} [DecidableEq β] (g:α->Option β) (bad:O) (fin:Unit->O) (p:α->α->Bool) (hp:∀ x y,p x y=true↔∃ b,g x=some b/\g y=some b) (all:List α):∀ (xs pre:List α),all=pre++xs->(pre.filterMap g).Nodup->bq (λi _ x=>if (all.take i).any (p x) then .inl bad else .inr ()) fin pre.length xs ()=if (all.filterMap g).Nodup then fin () else bad
 | [],pre,h,hn=>by
  rw[cR] at h;subst h;simp only[bq,hn,aJ]
 | x::xs,pre,h,hn=>by
  have ht:all.take pre.length=pre:=by rw[h];exact List.take_left
  simp only[bq,ht];have t7:all.filterMap g=pre.filterMap g++([x].filterMap g++xs.filterMap g):=by rw[h,<- gC (x:=x),cO,cO]
  cases hc:pre.any (p x) with
  | true=>
   simp only[aJ];obtain ⟨y,hy,hpy⟩:=eX.1 hc;obtain ⟨b,h1,h2⟩:=(hp x y).1 hpy;rw[aV];intro xF;rw[t7,fH] at xF;exact xF.2.2 b (gU.2 ⟨y,hy,h2⟩) b (by simp[h1]) rfl
  | false=>
   simp only[aF,aS]
   have:=Qa g bad fin p hp all xs (pre++[x]) (by rw[h];simp) (by
    rw[cO,fH];refine ⟨hn,?_,λa ha b hb e=>?_⟩
    ·cases hg:g x with
     | none=>simp[hg]
     | some b=>simp[hg]
    ·subst e;obtain ⟨y,hy,hgy⟩:=gU.1 ha;obtain ⟨z,hz,hgz⟩:=gU.1 hb;rw[bV] at hz;subst hz;have:pre.any (p z)=true:=eX.2 ⟨y,hy,(hp z y).2 ⟨a,hgz,hgy⟩⟩
     rw[this] at hc;cases hc)
   rw[bU] at this;exact this
theorem Hu {α β O:Type} [DecidableEq β] (g:α->Option β) (bad:O) (fin:Unit->O) (p:α->α->Bool) (hp:∀ x y,p x y=true↔∃ b,g x=some b/\g y=some b) (xs:List α):bq (λi _ x=>if (xs.take i).any (p x) then .inl bad else .inr ()) fin 0 xs ()=if (xs.filterMap g).Nodup then fin () else bad:=
 Qa g bad fin p hp xs xs [] rfl fV
theorem Bp {α:Type} {lt:α->α->Prop} (has:∀ a b,lt a b->¬ lt b a):∀ (xs ys:List α),xs.Perm ys->xs.Pairwise lt->ys.Pairwise lt->xs=ys
 | [],ys,h,_,_=>(List.nil_perm.1 h).symm
 | x::xs,[],h,_,_=>by have:=h.length_eq;cases this
 | x::xs,y::ys,h,h1,h2=>by
  obtain ⟨a1,a2⟩:=dD.1 h1;obtain ⟨b1,b2⟩:=dD.1 h2;by_cases uR:x=y
  ·subst uR;rw[Bp has xs ys ((List.perm_cons x).1 h) a2 b2]
  ·have hx:x ∈ ys:=by
    have:=h.mem_iff.1 (bB (a:=x) (l:=xs));rcases aY.1 this with e | e
    ·exact absurd e uR
    ·exact e
   have hy:y ∈ xs:=by
    have:=h.mem_iff.2 (bB (a:=y) (l:=ys));rcases aY.1 this with e | e
    ·exact absurd e.symm uR
    ·exact e
   exact absurd (b1 x hx) (has _ _ (a1 y hy))
theorem Nl (xs:List Row) (r:Row):(m_ xs r).Perm (r::xs):=by
 unfold m_;rw[cA];have:=hJ (a:=r) (l₁:=xs.take (pos xs (rk r))) (l₂:=xs.drop (pos xs (rk r)));rw[dA] at this;exact this
theorem Tz {xs:List Row} {k:Int×Int} {x:Row} (hu:up xs) (h:x ∈ xs.drop (pos xs k)):cr (rk x) k=false:=by
 obtain ⟨i,hi,e⟩:=cK.1 h;rw[cC] at hi;rw[List.getElem_drop] at e;rw[<-e];exact wK xs k _ _ hu Bys
theorem abN {xs:List Row} {r:Row} (hu:up xs) (hn:∀ x ∈ xs,rk x≠rk r):up (m_ xs r):=by
 unfold m_ up;rw[cA,List.pairwise_append];have hd:=hu.drop (i:=pos xs (rk r));refine ⟨hu.take,?_,λa ha b hb=>?_⟩
 ·rw[gC,dD];refine ⟨λb hb=>?_,hd⟩
  have h1:=Tz hu hb;have h2:=hn b (cQ hb)
  cases h3:cr (rk r) (rk b) with
  | true=>rfl
  | false=>exact absurd (vt h1 h3) h2
 ·have h1:=Ah ha;rw[gC] at hb;rcases aY.1 hb with e | e
  ·subst e;exact h1
  ·have h2:=Tz hu e;have h3:=hn b (cQ e)
   cases h4:cr (rk a) (rk b) with
   | true=>rfl
   | false=>
    cases h5:cr (rk b) (rk a) with
    | true=>rw[qZ h5 h1] at h2;cases h2
    | false=>
     have:=vt h4 h5;rw[this] at h1;rw[h1] at h2;cases h2
def Lg (l:List Row):List Row:=l.foldl m_ []
theorem Lh:∀ (l acc:List Row),(l.foldl m_ acc).Perm (l++acc)
 | [],acc=>iK _
 | r::l,acc=>by
  have h1:=Lh l (m_ acc r);have h2:(l++m_ acc r).Perm (l++r::acc):=(iK l).append (Nl acc r);exact h1.trans (h2.trans hJ)
theorem BQ (l:List Row):(Lg l).Perm l:=by
 have:=Lh l [];rw[cR] at this;exact this
theorem Qb:∀ (l acc:List Row),up acc->(l.map rk++acc.map rk).Nodup->up (l.foldl m_ acc)
 | [],acc,h,_=>h
 | r::l,acc,h,hn=>by
  simp only[dH,dR,cS,bR,not_or] at hn;refine Qb l (m_ acc r) (abN h λx hx e=>hn.1.2 (eL.2 ⟨x,hx,e⟩)) ?_
  have:(l.map rk++(m_ acc r).map rk).Perm (rk r::(l.map rk++acc.map rk)):=by
   refine ((iK _).append ((Nl acc r).map rk)).trans ?_;rw[dH];exact hJ
  rw[this.nodup_iff,cS,bR,not_or];exact hn
theorem Qc {l:List Row} (h:(l.map rk).Nodup):up (Lg l):=Qb l [] List.Pairwise.nil (by simpa using h)
theorem Qd {a b:Int×Int} (h:cr a b=true):¬ cr b a=true:=by rw[A4 h];exact λh=>by cases h
theorem XP {xs ys:List Row} (hp:xs.Perm ys) (hx:up xs) (hy:up ys):xs=ys:=Bp (λa b h=>Qd h) xs ys hp hx hy
theorem FY {xs:List Row} (h:up xs):(xs.map rk).Nodup:=by
 unfold List.Nodup;rw[fX];refine h.imp λh1 e=>?_;rw[e,mQ] at h1;cases h1
end OT
namespace OT
open Go
abbrev bv:Type:=List (List UInt8)
def C5 {α β:Type} (g:Nat->α->List β):Nat->List α->List β
 | _,[]=>[]
 | i,x::xs=>g i x++C5 g (i+1) xs
theorem Hv {O α β:Type} (g:Nat->α->List β) (fin:List β->O):∀ (xs:List α) (i:Nat) (s:List β),bq (λi s x=>.inr (s++g i x)) fin i xs s=fin (s++C5 g i xs)
 | [],_,s=>by simp[bq,C5]
 | x::xs,i,s=>by simp only[bq,C5];rw[Hv g fin xs (i+1)];simp[cA]
theorem TA {α β:Type} {g:Nat->α->List β} {n:Nat}:∀ (xs:List α) (i:Nat),(∀ i x,x ∈ xs->(g i x).length<=n)->(C5 g i xs).length<=n*xs.length
 | [],_,_=>by simp[C5]
 | x::xs,i,h=>by
  have h1:=h i x bB;have h2:=TA xs (i+1) λi y hy=>h i y (aW _ hy);grind [C5,Nat.mul_add]
theorem TB {α β:Type} {g:Nat->α->List β} {y:β}:∀ {xs:List α} {i:Nat},y ∈ C5 g i xs↔∃ (j:Nat) (x:α),xs[j]?=some x/\y ∈ g (i+j) x
 | [],i=>by simp[C5]
 | x::xs,i=>by
  simp only[C5,bR,TB (xs:=xs)];constructor
  ·rintro (h | ⟨j,z,h1,h2⟩)
   ·exact ⟨0,x,rfl,h⟩
   ·exact ⟨j+1,z,h1,by grind⟩
  grind
def fl (x:a7):Int:=x.2.2.1.2.1
def pE (x:a7):Int:=x.2.2.1.2.2.1
def pF (x:a7):Int:=x.2.2.1.2.2.2.1
def gy (x:a7):Row:=x.2.2.1.2.2.2.2.1
def rL (P:Nat) (p:List UInt8) (s:Nat):List a7:=if bj p s=0 then [] else [((P:Int),(s:Int),(en (jm p s)).1,())]
def rM (P:Nat) (p:List UInt8):List a7:=(List.range (pn p)).flatMap (rL P p)
def co (ps:bv):List a7:=C5 rM 0 ps
def pB (ps:bv) (a b:Int):tF×Bool:=match ps[a.toNat]? with
 | some p=>if b.toNat < pn p/\bj p b.toNat≠0 then en (jm p b.toNat) else (Ld,false)
 | none=>(Ld,false)
def zq (p:List UInt8) (s:Nat):Bool:=decide (bj p s=0)||(en (jm p s)).2
def xL (p:List UInt8):Int:=if zn p=0 then (if (List.range (pn p)).all (zq p) then 0 else 5) else zn p
def qF (ps:bv) (x:a7):Bool:=!decide (fl x=1)||((pB ps (pE x) (pF x)).2&&decide ((pB ps (pE x) (pF x)).1.2.1=2))
def zr (x:a7):Option (Int×Int):=if fl x=1 then some (pE x,pF x) else none
def TC (x:a7) (r:Row):a7:=(x.1,x.2.1,(x.2.2.1.1,x.2.2.1.2.1,x.2.2.1.2.2.1,x.2.2.1.2.2.2.1,r,x.2.2.1.2.2.2.2.2),x.2.2.2)
def xh (ps:bv) (x:a7):a7:=if fl x=1 then TC x (pB ps (pE x) (pF x)).1.2.2.2.2.1 else x
def sY (ps:bv) (x:a7):List a7:=if fl x=2 then [] else [xh ps x]
def jJ (ps:bv):List a7:=(co ps).flatMap (sY ps)
def DI (ps:bv):Int:=
 if (co ps).all (qF ps) then
  if ((co ps).filterMap zr).Nodup then (if ((jJ ps).map λx=>rk (gy x)).Nodup then 0 else 8) else 6
 else 4
def f9 (ps:bv):Int:=if 12 < ps.length then 2 else if nO xL ps=0 then DI ps else nO xL ps
def lA (ps:bv):Prop:=ps.length<=12/\∀ p ∈ ps,ij p
theorem Li {p:List UInt8} (h:xL p=0):ij p/\∀ s,s < pn p->bj p s≠0->(en (jm p s)).2=true:=by
 unfold xL at h;split at h
 ·rename_i h1;split at h
  ·rename_i h2;refine ⟨uW.1 h1,λs hs hz=>?_⟩
   have:=bH.1 h2 s (cD.2 hs);grind [zq]
  ·cases h
 grind
theorem zs {α:Type} {c:α->Int}:∀ {xs:List α},nO c xs=0->∀ x ∈ xs,c x=0
 | [],_,_,hx=>by cases hx
 | y::xs,h,x,hx=>by
  simp only[nO] at h;split at h
  ·rename_i hy;rcases aY.1 hx with rfl | hx
   ·exact hy
   ·exact zs h x hx
  grind
theorem FZ {ps:bv} (h:f9 ps=0):lA ps/\nO xL ps=0/\DI ps=0:=by
 unfold f9 at h;split at h
 ·cases h
 ·rename_i h1;split at h
  ·rename_i h2;exact ⟨⟨by omega,λp hp=>(Li (zs h2 p hp)).1⟩,h2,h⟩
  grind
theorem D1 {p:List UInt8} (h:ij p) (P:Nat):(rM P p).length<=16:=by
 have:∀ n,((List.range n).flatMap (rL P p)).length<=n:=by
  intro n
  induction n with
  | zero=>simp
  | succ n ih=>
   rw[gJ,gN,bU]
   have:(([n]:List Nat).flatMap (rL P p)).length<=1:=by
    simp only[fF,List.flatMap_nil,cR,rL];split <;> simp
   omega
 have h1:=this (pn p);have h2:=h.n;grind [rM]
theorem DJ {ps:bv} (h:lA ps):(co ps).length<=192:=by
 have:=TA (g:=rM) (n:=16) ps 0 λi p hp=>D1 (h.2 p hp) i;unfold co;have:=h.1;omega
theorem C6 {ps:bv} (h:lA ps):(jJ ps).length<=192:=by
 have:∀ xs:List a7,(xs.flatMap (sY ps)).length<=xs.length:=by
  intro xs
  induction xs <;> grind [sY]
 grind [DJ,jJ]
theorem Hw (d:List UInt8):0<=(en d).1.2.2.1/\0<=(en d).1.2.2.2.1:=by
 grind [en]
theorem ye {ps:bv} {x:a7}:x ∈ co ps↔∃ (P:Nat) (p:List UInt8) (s:Nat),ps[P]?=some p/\s < pn p/\bj p s≠0/\x=((P:Int),(s:Int),(en (jm p s)).1,()):=by
 unfold co;rw[TB];constructor
 ·rintro ⟨j,p,h1,h2⟩;obtain ⟨s,h3,h4⟩:=dI.1 h2;grind [rL]
 ·rintro ⟨P,p,s,h1,h2,h3,rfl⟩;refine ⟨P,p,h1,dI.2 ⟨s,cD.2 h2,?_⟩⟩
  grind [rL]
theorem xM {ps:bv} {x:a7} (h:x ∈ co ps):0<=pE x/\0<=pF x:=by
 obtain ⟨P,p,s,_,_,_,rfl⟩:=ye.1 h;exact Hw _
theorem Hx (ps:bv) (h:lA ps):fy.ae (ps,())=some (co ps,()):=by
 obtain ⟨hl,hp⟩:=h;refine ah (k:=100) λk hk=>(fy.af k _).trans ?_
 have inner:∀ (self:(bv×(List a7)×Int)->Option fy.O) (e0:(List a7)->Option fy.O) (i:Nat) (hi:i < ps.length) (s:List a7),s.length<=1000->fy.r1 k self e0 (ps,()) ps (i:Int) (s,(0:Int))=self (ps,s++rM i ps[i],ag ((i:Int)+1)):=λself e0 i hi s0 hs0=>by
  have bf:=hp _ (aP hi);have hn:=bf.n;have hlen:=bf.len
  have:=o8 (B:=λim v=>fy.b1 im (λz=>fy.q0 self e0 (ps,()) ps (i:Int) z) (ps,()) ps (i:Int) v) (pn ps[i]) (λ(s:List a7) (j:Int)=>(s,j)) (λj s=>.inr (s++rL i ps[i] j)) (λs=>self (ps,s,ag ((i:Int)+1))) (λj s=>s.length<=1000+j) Bys
   (λj hj s im hI=>by
    show fy.b1 _ _ _ _ _ _=_;unfold fy.b1 rL;have a_:(j:Int) < (pn ps[i]:Int):=by omega
    simp only[aK,aJ,aC,aB hi,aA,nX hlen,a_,aI,aO,qN hlen (show j < 16 by omega)]
    grind [xT,C0,xK,cv])
   (λj hj s s' hI hf=>by
    grind [rL]) (λs im hI=>by
    show fy.b1 _ _ _ _ _ _=_;unfold fy.b1;simp only[aK,aJ,aC,aB hi,aA,nX hlen,aU,aG,aE]
    rfl) s0 Bys k Bys
  rw[FR (rL i ps[i])] at this;exact this
 have:=eh (B:=λself v=>fy.B0 k self (λz=>fy.q1 (ps,()) z) (ps,()) v) ps (λ(s:List a7) (i:Int)=>(ps,s,i)) (λi s p=>.inr (s++rM i p)) (λs=>some (s,())) (λi s=>s.length<=16*i) (by rw[au];omega)
  (λi hi s self hI=>by
   show fy.b0 _ _ _ _ _=_
   grind [fy.b0])
  (λi hi s s' hI hf=>by
   grind [D1]) (λs self _=>by
   show fy.b0 _ _ _ _ _=_;unfold fy.b0;simp only[aU,aG,aE]
   rfl) [] (by simp) k Bys
 rw[Hv] at this;exact this
theorem Qe (ps:bv) (hl:ps.length<=12) (hp:∀ p ∈ ps,p.length<=maxLen):ig.ae (ps,())=some (nO xL ps,()):=by
 refine ah (k:=100) λk hk=>(ig.af k _).trans ?_
 have inner:∀ (self:(bv×Int)->Option ig.O) (e0:Unit->Option ig.O) (i:Nat) (hi:i < ps.length),ij ps[i]->ig.r1 k self e0 (ps,()) ps (i:Int) (0:Int)=if (List.range (pn ps[i])).all (zq ps[i]) then self (ps,ag ((i:Int)+1)) else some ((5:Int),()):=λself e0 i hi bf=>by
  have hn:=bf.n;have hlen:=bf.len
  have:=o8 (B:=λim v=>ig.b1 im (λz=>ig.q0 self e0 (ps,()) ps (i:Int) z) (ps,()) ps (i:Int) v) (pn ps[i]) (λ(_:Unit) (j:Int)=>j) (λj _=>if zq ps[i] j then .inr () else .inl (some ((5:Int),()))) (λs=>self (ps,ag ((i:Int)+1))) (λ_ _=>True) Bys
   (λj hj s im hI=>by
    show ig.b1 _ _ _ _ _ _=_;unfold ig.b1 zq;have a_:(j:Int) < (pn ps[i]:Int):=by omega
    simp only[aK,aJ,aC,aB hi,aA,nX hlen,a_,aI,aO,qN hlen (show j < 16 by omega)];by_cases hz:bj ps[i] j=0
    ·grind
    ·have:((0:Int) < (bj ps[i] j:Int)):=by omega
     rw[bA this];simp only[aO,xT bf hj,C0 _ (bG (xK bf hj) Bys),aA,hz,aG,dP]
     grind)
   (λ_ _ _ _ _ _=>trivial) (λs im hI=>by
    show ig.b1 _ _ _ _ _ _=_;unfold ig.b1;simp only[aK,aJ,aC,aB hi,aA,nX hlen,aU,aG,aE]
    rfl) () trivial k Bys
  rw[v7] at this;exact this
 have:=eh (B:=λself v=>ig.B0 k self (λz=>ig.q1 (ps,()) z) (ps,()) v) ps (λ(_:Unit) (i:Int)=>(ps,i)) (λi _ p=>if xL p=0 then .inr () else .inl (some (xL p,()))) (λ_=>some ((0:Int),())) (λ_ _=>True) (by rw[au];omega)
  (λi hi s self hI=>by
   show ig.b0 _ _ _ _ _=_;unfold ig.b0 xL;have a_:(i:Int) < (ps.length:Int):=by omega
   simp only[a_,aI,aO,aK,aJ,aC,aB hi,aA,R5 _ (hp _ (aP hi))];by_cases h0:zn ps[i]=0
   ·rw[bA h0];simp only[aN,aE,inner self _ i hi (uW.1 h0),h0,aJ];grind
   grind)
  (λ_ _ _ _ _ _=>trivial) (λs self _=>by
   show ig.b0 _ _ _ _ _=_;unfold ig.b0;simp only[aU,aG,aE]
   rfl) () trivial k Bys
 rw[BC xL (λc=>some (c,())) (λ_=>some ((0:Int),()))] at this;refine aL this ?_;grind
theorem Hy (ps:bv) (h:lA ps) (a b:Int) (ha:0<=a) (hb:0<=b):nh.ae (ps,a,b,())=some ((pB ps a b).1,(pB ps a b).2,()):=by
 obtain ⟨hl,hp⟩:=h;obtain ⟨a,rfl⟩:=cV ha;obtain ⟨b,rfl⟩:=cV hb;refine ah (k:=0) λk hk=>(nh.af k _).trans ?_;show nh.p _=_;unfold nh.p pB;have hw:ag ((ps.length:Int) - 1)=(ps.length:Int) - 1:=bh Bys;have h0:decide ((0:Int)<=(a:Int))=true:=bA Bys;have h1:decide ((a:Int)<=(ps.length:Int) - 1)=decide (a < ps.length):=by grind
 simp only[pu,hw,h0,h1,aA,dV,aC];by_cases hal:a < ps.length;rotate_left
 ·grind
 rw[bA hal];have bf:=hp _ (aP hal);simp only[aN,aE,aK,aJ,aB hal,aA,VB bf];by_cases hc:b < pn ps[a]/\bj ps[a] b≠0
 ·grind [xT,C0,xK]
 grind
theorem Qf (ps:bv) (h:lA ps):d_.ae (co ps,ps,())=some (if (co ps).all (qF ps) then (if ((co ps).filterMap zr).Nodup then 0 else 6) else 4,()):=by
 have mF:=DJ h;have IW:∀ x ∈ co ps,0<=pE x/\0<=pF x:=λx hx=>xM hx;generalize co ps=xs at mF IW ⊢;refine ah (k:=300) λk hk=>(d_.af k _).trans ?_
 have inner:∀ (self:(List a7×Int)->Option d_.O) (e2:Unit->Option d_.O) (i:Nat) (hi:i < xs.length),d_.r2 k self e2 (xs,ps,()) xs (i:Int) (0:Int)=if (xs.take i).any (λy=>decide (fl xs[i]=1)&&(decide (fl y=1)&&(decide (pE xs[i]=pE y)&&decide (pF xs[i]=pF y)))) then some ((6:Int),()) else self (xs,ag ((i:Int)+1)):=λself e2 i hi=>by
  have kV:(xs.take i).length=i:=by grind
  have:=eh (B:=λim v=>d_.b2 im (λz=>d_.q1 self e2 (xs,ps,()) xs (i:Int) z) (xs,ps,()) xs (i:Int) v) (xs.take i) (λ(_:Unit) (j:Int)=>j) (λ_ _ y=>if decide (fl xs[i]=1)&&(decide (fl y=1)&&(decide (pE xs[i]=pE y)&&decide (pF xs[i]=pF y))) then .inl (some ((6:Int),())) else .inr ()) (λ_=>self (xs,ag ((i:Int)+1))) (λ_ _=>True) (by rw[au];omega)
   (λj hj s im _=>by
    grind [d_.b2,Int.toNat_natCast,fl,pE,pF])
   (λ_ _ _ _ _ _=>trivial) (λs im _=>by
    rw[kV];show d_.b2 _ _ _ _ _ _=_;unfold d_.b2;simp only[aU,aG,aE]
    rfl) () trivial k Bys
  rw[Ac] at this;exact this
 have second:d_.r1 k (xs,ps,()) (xs,(0:Int))=if (xs.filterMap zr).Nodup then some ((0:Int),()) else some ((6:Int),()):=by
  have:=eh (B:=λself v=>d_.B1 k self (λz=>d_.q2 (xs,ps,()) z) (xs,ps,()) v) xs (λ(_:Unit) (i:Int)=>(xs,i)) (λi _ x=>if (xs.take i).any (λy=>decide (fl x=1)&&(decide (fl y=1)&&(decide (pE x=pE y)&&decide (pF x=pF y)))) then .inl (some ((6:Int),())) else .inr ()) (λ_=>some ((0:Int),())) (λ_ _=>True) (by rw[au];omega)
   (λi hi s self _=>by
    show d_.b1 _ _ _ _ _=_
    grind [d_.b1])
   (λ_ _ _ _ _ _=>trivial) (λs self _=>by
    show d_.b1 _ _ _ _ _=_;unfold d_.b1;simp only[aU,aG,aE]
    rfl) () trivial k Bys
  rw[Hu zr (some ((6:Int),())) (λ_=>some ((0:Int),())) (λx y=>decide (fl x=1)&&(decide (fl y=1)&&(decide (pE x=pE y)&&decide (pF x=pF y)))) (λx y=>?_) xs] at this
  ·exact this
  ·unfold zr;simp only[aD,bP];constructor
   ·rintro ⟨h1,h2,h3,h4⟩;exact ⟨(pE x,pF x),by rw[aR h1],by grind⟩
   grind
 have:=eh (B:=λself v=>d_.b0 self (λz=>d_.Q0 k (xs,ps,()) z) (xs,ps,()) v) xs (λ(_:Unit) (i:Int)=>i) (λi _ x=>if qF ps x then .inr () else .inl (some ((4:Int),()))) (λ_=>d_.r1 k (xs,ps,()) (xs,(0:Int))) (λ_ _=>True) (by rw[au];omega)
  (λi hi s self _=>by
   show d_.b0 _ _ _ _=_;unfold d_.b0 qF;have a_:(i:Int) < (xs.length:Int):=by omega
   obtain ⟨g1,g2⟩:=IW _ (aP hi);have Pz:nh.ae (ps,(xs[i]).2.2.1.2.2.1,(xs[i]).2.2.1.2.2.2.1,())=some ((pB ps (pE xs[i]) (pF xs[i])).1,(pB ps (pE xs[i]) (pF xs[i])).2,()):=Hy ps h _ _ g1 g2
   grind [Int.natCast_nonneg,Int.toNat_natCast,fl])
  (λ_ _ _ _ _ _=>trivial) (λs self _=>by
   show d_.b0 _ _ _ _=_;unfold d_.b0;simp only[aU,aG,aE]
   rfl) () trivial k Bys
 rw[tE (qF ps) (some ((4:Int),())) (λ_=>d_.r1 k (xs,ps,()) (xs,(0:Int)))] at this;refine aL this ?_;grind
theorem D2 (ps:bv) (h:lA ps):jv.ae (ps,())=some (jJ ps,()):=by
 refine ah (k:=300) λk hk=>(jv.af k _).trans ?_;unfold jv.p;rw[Hx ps h];simp only[aA];have mF:=DJ h;have IW:∀ x ∈ co ps,0<=pE x/\0<=pF x:=λx hx=>xM hx;unfold jJ;generalize co ps=xs at mF IW ⊢
 have:=eh (B:=λself v=>jv.b0 self (λz=>jv.q0 (ps,()) xs z) (ps,()) xs v) xs (λ(s:List a7) (i:Int)=>(s,i)) (λi s x=>.inr (s++sY ps x)) (λs=>some (s,())) (λi s=>s.length<=i) (by rw[au];omega)
  (λi hi s self hI=>by
   show jv.b0 _ _ _ _ _=_;unfold jv.b0 sY;have a_:(i:Int) < (xs.length:Int):=by omega
   obtain ⟨g1,g2⟩:=IW _ (aP hi);have Pz:nh.ae (ps,(xs[i]).2.2.1.2.2.1,(xs[i]).2.2.1.2.2.2.1,())=some ((pB ps (pE xs[i]) (pF xs[i])).1,(pB ps (pE xs[i]) (pF xs[i])).2,()):=Hy ps h _ _ g1 g2;have oU:∀ y:a7,s.length+[y].length<=b9:=λy=>cv (by grind);simp only[a_,aI,aO,aK,cI,aJ,aC,aB hi,aA,Pz,oU];show (bif decide (fl xs[i]=2) then _ else bif decide (fl xs[i]=1) then _ else _)=_;unfold xh;by_cases c2:fl xs[i]=2
   ·grind
   ·by_cases c1:fl xs[i]=1
    ·simp only[c1,c2,aI,aG,aO,aE,aJ,aS];rfl
    grind)
  (λi hi s s' hI hf=>by
   grind [sY]) (λs self _=>by
   show jv.b0 _ _ _ _ _=_;unfold jv.b0;simp only[aU,aG,aE]
   rfl) [] (by simp) k Bys
 rw[FR (sY ps)] at this;exact this
def ZY (x:a7):Option (Int×Int):=some (rk (gy x))
theorem I0 (ps:bv) (hp:∀ p ∈ ps,p.length<=maxLen):f0.ae (ps,())=some (f9 ps,()):=by
 refine ah (k:=300) λk hk=>(f0.af k _).trans ?_;unfold f0.p f9;by_cases hl:12 < ps.length
 ·grind
 have yx:¬ ((12:Int) < (ps.length:Int)):=by omega
 simp only[yx,aG,aE,hl,aS,Qe ps Bys hp,aA];by_cases hc:nO xL ps=0;rotate_left
 ·grind
 have h:lA ps:=⟨by omega,λp hp=>(Li (zs hc p hp)).1⟩
 simp only[hc,aI,aN,aE,aJ,Hx ps h,Qf ps h,D2 ps h,aA];unfold DI;by_cases h1:(co ps).all (qF ps)=true;rotate_left
 ·grind
 by_cases h2:((co ps).filterMap zr).Nodup;rotate_left
 ·grind
 simp only[h1,h2,aJ,aI,aN,aE];have mF:=C6 h;generalize jJ ps=xs at mF ⊢
 have inner:∀ (self:(List a7×Int)->Option f0.O) (e0:Unit->Option f0.O) (i:Nat) (hi:i < xs.length),f0.r1 k self e0 (ps,()) xs (i:Int) (0:Int)=if (xs.take i).any (λy=>decide ((gy xs[i]).1=(gy y).1)&&decide ((gy xs[i]).2.1=(gy y).2.1)) then some ((8:Int),()) else self (xs,ag ((i:Int)+1)):=λself e0 i hi=>by
  have kV:(xs.take i).length=i:=by grind
  have:=eh (B:=λim v=>f0.b1 im (λz=>f0.q0 self e0 (ps,()) xs (i:Int) z) (ps,()) xs (i:Int) v) (xs.take i) (λ(_:Unit) (j:Int)=>j) (λ_ _ y=>if decide ((gy xs[i]).1=(gy y).1)&&decide ((gy xs[i]).2.1=(gy y).2.1) then .inl (some ((8:Int),())) else .inr ()) (λ_=>self (xs,ag ((i:Int)+1))) (λ_ _=>True) (by rw[au];omega)
   (λj hj s im _=>by
    grind [f0.b1,Int.toNat_natCast,gy])
   (λ_ _ _ _ _ _=>trivial) (λs im _=>by
    rw[kV];show f0.b1 _ _ _ _ _ _=_;unfold f0.b1;simp only[aU,aG,aE]
    rfl) () trivial k Bys
  rw[Ac] at this;exact this
 have:=eh (B:=λself v=>f0.B0 k self (λz=>f0.q1 (ps,()) z) (ps,()) v) xs (λ(_:Unit) (i:Int)=>(xs,i)) (λi _ x=>if (xs.take i).any (λy=>decide ((gy x).1=(gy y).1)&&decide ((gy x).2.1=(gy y).2.1)) then .inl (some ((8:Int),())) else .inr ()) (λ_=>some ((0:Int),())) (λ_ _=>True) (by rw[au];omega)
  (λi hi s self _=>by
   show f0.b0 _ _ _ _ _=_
   grind [f0.b0])
  (λ_ _ _ _ _ _=>trivial) (λs self _=>by
   show f0.b0 _ _ _ _ _=_;unfold f0.b0;simp only[aU,aG,aE]
   rfl) () trivial k Bys
 rw[Hu ZY (some ((8:Int),())) (λ_=>some ((0:Int),())) (λx y=>decide ((gy x).1=(gy y).1)&&decide ((gy x).2.1=(gy y).2.1)) (λx y=>?_) xs] at this
 ·refine aL this ?_;grind [ZY]
 ·unfold ZY rk;grind
end OT
namespace OT
open Go Go.Sort
abbrev Ew:Ty:=.arr 2 i64
theorem Ey (a b c d:Int):Ty.eq Ew [a,b] [c,d]=(decide (a=c)&&decide (b=d)):=by
 simp_all [Ty.eq]
theorem JV (a b:Int):((List.replicate 2 (0:Int)).set 0 a).set 1 b=[a,b]:=rfl
theorem Hz {α:Type} (k:Ty) (m:List (k.den×α)) (x:k.den) (y:α) (h:∀ e ∈ m,k.eq x e.1=false):pL k m x y=m++[(x,y)]:=by
 grind [pL]
def jy (x:a7):List Seen:=if fl x=0 then [(gy x,x.1,x.2.1,false,x.1,x.2.1,())] else []
def ic (x:a7):List Seen:=if fl x=1 then [(CZ,x.1,x.2.1,true,pE x,pF x,())] else []
def mJ (x:a7):List (List Int×Row):=if fl x=2 then [([x.1,x.2.1],gy x)] else []
theorem F7 (d:List UInt8):(en d).2=true->(en d).1.1=0/\((en d).1.2.1=0\/(en d).1.2.1=1\/(en d).1.2.1=2):=by
 grind [en]
def B_ (ps:bv):Prop:=lA ps/\∀ p ∈ ps,∀ s,s < pn p->bj p s≠0->(en (jm p s)).2=true
theorem Qg {ps:bv} (hl:ps.length<=12) (h:nO xL ps=0):B_ ps:=
 ⟨⟨hl,λp hp=>(Li (zs h p hp)).1⟩,λp hp=>(Li (zs h p hp)).2⟩
theorem XQ {ps:bv} (h:B_ ps) {x:a7} (hx:x ∈ co ps):fl x=0\/fl x=1\/fl x=2:=by
 obtain ⟨P,p,s,h1,h2,h3,rfl⟩:=ye.1 hx;exact (F7 _ (h.2 p (bI h1) s h2 h3)).2
theorem Ll (S:List a7):(S.flatMap jy).length<=S.length/\(S.flatMap ic).length<=S.length:=by
 induction S <;> grind [jy,ic]
theorem TD {ps:bv} (h:B_ ps) (a b:Int) (ha:0<=a) (hb:0<=b):jZ Ew ((co ps).flatMap mJ) [a,b]=if (pB ps a b).2&&decide ((pB ps a b).1.2.1=2) then some (pB ps a b).1.2.2.2.2.1 else none:=by
 obtain ⟨a,rfl⟩:=cV ha;obtain ⟨b,rfl⟩:=cV hb;unfold jZ
 have at_:∀ x ∈ co ps,x.1=(a:Int)->x.2.1=(b:Int)->pB ps (a:Int) (b:Int)=(x.2.2.1,true):=λx hx e1 e2=>by
  obtain ⟨P,p,s,h1,h2,h3,rfl⟩:=ye.1 hx;have e1:(P:Int)=(a:Int):=e1;have e2:(s:Int)=(b:Int):=e2;have e1:P=a:=by omega
  have e2:s=b:=by omega
  subst e1;subst e2;unfold pB;simp only[aC,h1];rw[aR ⟨h2,h3⟩];have:=h.2 p (bI h1) s h2 h3;rw[<-this]
 cases hf:((co ps).flatMap mJ).find? (λe=>Ty.eq Ew [(a:Int),(b:Int)] e.1) with
 | some e=>
  have hm:=cX hf;have hp:=gK hf;obtain ⟨x,hx,S8⟩:=dI.1 hm;unfold mJ at S8;split at S8
  ·rename_i h2;rw[bV] at S8;subst S8;rw[Ey,aD,bP,bP] at hp;have hg:=at_ x hx hp.1.symm hp.2.symm;rw[hg];have:(x.2.2.1).2.1=2:=h2;simp only[this,aI,fL,aJ,bQ];rfl
  ·cases S8
 | none=>
  rw[aV]
  ·rfl
  ·intro hc;rw[aD,bP] at hc;obtain ⟨c1,c2⟩:=hc
   have:∃ x ∈ co ps,x.1=(a:Int)/\x.2.1=(b:Int)/\fl x=2:=by
    unfold pB at c1 c2;simp only[aC] at c1 c2
    cases hpa:ps[a]? with
    | none=>grind
    | some p=>
     rw[hpa] at c1 c2;simp only at c1 c2;by_cases hc:b < pn p/\bj p b≠0
     ·rw[aR hc] at c2;exact ⟨_,ye.2 ⟨a,p,b,hpa,hc.1,hc.2,rfl⟩,rfl,rfl,c2⟩
     grind
   grind [mJ,Ey]
def qA (x:a7):Seen:=(gy x,x.1,x.2.1,decide (fl x=1),(if fl x=1 then pE x else x.1),(if fl x=1 then pF x else x.2.1),())
def Ay (ps:bv) (y:Seen):Seen:=(Di (jZ Ew ((co ps).flatMap mJ) [y.2.2.2.2.1,y.2.2.2.2.2.1]) CZ,y.2)
def In (ps:bv):List Seen:=(co ps).flatMap jy++((co ps).flatMap ic).map (Ay ps)
theorem VD {ps:bv} (h:B_ ps) (hs:(co ps).all (qF ps)=true):(In ps).Perm ((jJ ps).map qA):=by
 unfold In jJ;have t7:=bH.1 hs;have Em:∀ x ∈ co ps,fl x=0\/fl x=1\/fl x=2:=λx hx=>XQ h hx;have IW:∀ x ∈ co ps,0<=pE x/\0<=pF x:=λx hx=>xM hx
 have key:∀ S:List a7,(∀ x ∈ S,x ∈ co ps)->(S.flatMap jy++(S.flatMap ic).map (Ay ps)).Perm ((S.flatMap (sY ps)).map qA):=by
  intro S
  induction S with
  | nil=>grind
  | cons x S ih=>
   intro hS;have ih:=ih λy hy=>hS y (aW _ hy);have hx:=hS x bB;simp only[fF,fN];rcases Em x hx with h0 | h1 | h2
   ·simp_all [jy,qA,xh,ic,sY]
   ·have e1:jy x=[]:=by grind [jy]
    have e3:sY ps x=[xh ps x]:=by grind [sY]
    have e2:(ic x).map (Ay ps)=[qA (xh ps x)]:=by
     unfold ic;rw[aR h1];simp only[dH,gQ];obtain ⟨g1,g2⟩:=IW x hx;have dp:=t7 x hx;unfold qF at dp;rw[bA h1] at dp;simp only[aN,dP] at dp;have hg:=TD h (pE x) (pF x) g1 g2;rw[aR dp] at hg;unfold Ay;simp only[hg,Di];unfold xh;rw[aR h1];have ZZ:fl (TC x (pB ps (pE x) (pF x)).1.2.2.2.2.1)=1:=h1;unfold qA;rw[aR ZZ,aR ZZ,bA ZZ];rfl
    grind
   grind [jy,ic,sY]
 grind
def Ez (x y:Seen):Bool:=cr (rk x.1) (rk y.1)
def TE (x y:Seen):Int:=if cr (x.1.1,x.1.2.1) (y.1.1,y.1.2.1) then -1 else if cr (y.1.1,y.1.2.1) (x.1.1,x.1.2.1) then 1 else 0
theorem XR:Go.Proofs.ltOf TE=Ez:=by
 funext x y;exact XL x.1 y.1
theorem Z0 (x y:Seen):pK.ae (x,y,())=some (TE x y,()):=by
 refine ah (k:=0) λk hk=>(pK.af k _).trans ?_;show pK.p _=_;unfold pK.p;rw[vl];rfl
theorem afm:SWO Ez where
 irrefl x:=mQ _
 trans x y z h1 h2:=qZ h1 h2
 ntrans x y z h1 h2:=by
  grind [Ez,qZ,vt]
def JW (xs:List Seen) (x:Seen):List Seen:=xs.take (pos (xs.map (·.1)) (rk x.1))++[x]++xs.drop (pos (xs.map (·.1)) (rk x.1))
def F8 (l:List Seen):List Seen:=l.foldl JW []
theorem Z1 (xs:List Seen) (x:Seen):(JW xs x).map (·.1)=m_ (xs.map (·.1)) x.1:=by
 grind [JW,m_,List.map_take,List.map_drop]
theorem XS (xs:List Seen) (x:Seen):(JW xs x).Perm (x::xs):=by
 grind [JW,List.take_append_drop]
theorem Nm (l:List Seen):(F8 l).map (·.1)=Lg (l.map (·.1)):=by
 have main:∀ (l acc:List Seen),(l.foldl JW acc).map (·.1)=(l.map (·.1)).foldl m_ (acc.map (·.1)):=by
  intro l
  induction l <;> grind [Z1]
 exact main l []
theorem Lm (l:List Seen):(F8 l).Perm l:=by
 have main:∀ (l acc:List Seen),(l.foldl JW acc).Perm (l++acc):=by
  intro l
  induction l <;> grind [XS]
 have:=main l [];rw[cR] at this;exact this
def Nn (xs:List Seen):Prop:=xs.Pairwise λx y=>Ez x y=true
theorem TF {xs:List Seen}:Nn xs↔up (xs.map (·.1)):=by
 unfold Nn up;rw[fX];rfl
theorem Qh {l r:List Seen} (hp:r.Perm l) (hr:Nn r) (hn:(l.map λx=>rk x.1).Nodup):r=F8 l:=by
 refine Bp (lt:=λx y=>Ez x y=true) (λa b h=>Qd h) r (F8 l) (hp.trans (Lm l).symm) hr (TF.2 ?_);grind [Nm,Qc]
theorem XT {r:List Seen} (h:Nn r):(r.map λx=>rk x.1).Nodup:=by
 have:=FY (TF.1 h);grind
def F9:List Seen->Bool
 | x::y::l=>Ez x y&&F9 (y::l)
 | _=>true
theorem XU:∀ (l:List Seen),F9 l=true->Nn l
 | [],_=>List.Pairwise.nil
 | [x],_=>List.pairwise_singleton _ _
 | x::y::l,h=>by
  simp only[F9,aD] at h;have ih:=XU (y::l) h.2;refine dD.2 ⟨λz hz=>?_,ih⟩;rcases aY.1 hz with rfl | hz
  ·exact h.1
  ·exact qZ h.1 ((dD.1 ih).1 z hz)
theorem TG:∀ (l:List Seen),Nn l->F9 l=true
 | [],_=>rfl
 | [x],_=>rfl
 | x::y::l,h=>by
  obtain ⟨h1,h2⟩:=dD.1 h;simp only[F9,aD];exact ⟨h1 y bB,TG (y::l) h2⟩
theorem XV {r:List Seen} (h:r.Pairwise λx y=>Ez y x=false) (hn:(r.map λx=>rk x.1).Nodup):Nn r:=by
 unfold Nn
 have h2:r.Pairwise λx y=>rk x.1≠rk y.1:=by
  grind
 refine (h.and h2).imp λ{x y} ⟨g1,g2⟩=>?_;grind [Ez,vt]
end OT
namespace OT
open Go Go.Sort
theorem Z2 (z:List Seen) (hl:z.length<=1000):∃ r:List Seen,(∀ f:Nat×Int,pV.ae (z,f,())=some (r,()))/\r.Perm z/\r.Pairwise λx y=>Ez y x=false:=by
 have hs:SWO (Go.Proofs.ltOf TE):=by rw[XR];exact afm
 have h1:=Pw (e:=gz) (cs:=pK.ae) (cf:=TE) (λx y=>Z0 x y) hs z (cv (bG hl Bys));have h2:=Px (α:=gz.den) (lt:=Go.Proofs.ltOf TE) hs z;refine ⟨_,λf=>?_,h2.1,?_⟩
 ·show (BD gz pK.ae z).map (λr=>(r,()))=_;rw[h1];rfl
 ·exact h2.2.imp λ{x y} (h:Go.Proofs.ltOf (α:=Seen) TE y x=false)=>by simp_all [XR]
theorem Qi {O:Type} (r:List Seen) (bad e:O):∀ (l pre:List Seen) (x:Seen),r=pre++x::l->bq (λi (_:Unit) y=>if (match r[i]? with | some z=>Ez z y | none=>true) then .inr () else .inl bad) (λ_=>e) pre.length l ()=if F9 (x::l) then e else bad
 | [],pre,x,_=>by simp[bq,F9]
 | y::l,pre,x,h=>by
  have hx:r[pre.length]?=some x:=by grind
  simp only[bq,hx,F9];by_cases hc:Ez x y=true;rotate_left
  ·grind
  ·simp only[hc,aJ,dV];have:=Qi r bad e l (pre++[x]) y (by rw[h];simp);grind
theorem Z3 (ps:bv) (k:Nat) (hk:300<=k) (r:List Seen) (hl:r.length<=192):am (λself v=>bu.B4 k self (λz=>bu.Q4 k (ps,()) r z) (ps,()) r v) k 1=if F9 r then some (r,(0:Int),()) else some (([]:List Seen),(8:Int),()):=by
 have:=eh (B:=λself v=>bu.B4 k self (λz=>bu.Q4 k (ps,()) r z) (ps,()) r v) (r.drop 1) (λ(_:Unit) (i:Int)=>i+1) (λi _ y=>if (match r[i]? with | some z=>Ez z y | none=>true) then .inr () else .inl (some (([]:List Seen),(8:Int),()))) (λ_=>some (r,(0:Int),())) (λ_ _=>True) (by grind [au])
  (λi hi s self _=>by
   rw[cC] at hi;show bu.b4 _ _ _ _ _=_;unfold bu.b4;have a_:(i:Int)+1 < (r.length:Int):=by omega
   have Me:(i:Int) < (r.length:Int):=by omega
   have IW:(0:Int)<=(i:Int)+1:=by omega
   have xB:ag ((i:Int)+1 - 1)=(i:Int):=by grind [bh]
   have Dq:ag ((i:Int)+1+1)=ag ((i:Int)+1)+1:=by grind [bh]
   have htn:((i:Int)+1).toNat=i+1:=by omega
   have hg:(r.drop 1)[i]'(by grind)=r[i+1]'Bys:=by grind
   rw[hg];simp only[a_,Me,IW,xB,Dq,htn,aI,aO,aK,cI,aJ,aC,aB (show i < r.length by omega),aB (show i+1 < r.length by omega),aA,Au];show (bif !Ez r[i] (r[i+1]'Bys) then _ else _)=_
   grind)
  (λ_ _ _ _ _ _=>trivial) (λs self _=>by
   rw[cC];show bu.b4 _ _ _ _ _=_;unfold bu.b4;have a_:¬ (((r.length - 1:Nat):Int)+1 < (r.length:Int)):=by omega
   simp only[a_,aG,aE]
   rfl) () trivial k (by grind)
 refine aL this ?_
 cases r with
 | nil=>rfl
 | cons x l=>
  exact Qi (x::l) _ _ l [] x rfl
def vv (ps:bv):List Seen:=if f9 ps=0 then F8 ((jJ ps).map qA) else []
def aaY (ps:bv):List Seen:=if DI ps=0 then F8 ((jJ ps).map qA) else []
def Od (y:Seen):Option (Int×Int):=some (y.2.2.2.2.1,y.2.2.2.2.2.1)
def Oe (y:Seen):List Int×Bool:=([y.2.2.2.2.1,y.2.2.2.2.2.1],true)
theorem Qj (T:List Seen) (a b:Int):Di (jZ Ew (T.map Oe) [a,b]) false=T.any λy=>decide (a=y.2.2.2.2.1)&&decide (b=y.2.2.2.2.2.1):=by
 induction T with
 | nil=>rfl
 | cons y T ih=>
  have hk:Ty.eq Ew [a,b] (Oe y).1=(decide (a=y.2.2.2.2.1)&&decide (b=y.2.2.2.2.2.1)):=Ey _ _ _ _;unfold jZ at ih ⊢;rw[dH,iG,gF,hk]
  cases (decide (a=y.2.2.2.2.1)&&decide (b=y.2.2.2.2.2.1)) with
  | true=>rfl
  | false=>simpa using ih
theorem Z4 (S:List a7):(S.flatMap ic).filterMap Od=S.filterMap zr:=by
 induction S <;> grind [ic,zr,Od]
theorem R7 (ps:bv) (h:B_ ps):bu.ae (ps,())=some (aaY ps,DI ps,()):=by
 obtain ⟨hl,hp⟩:=h.1;have mF:=DJ h.1;refine ah (k:=300) λk hk=>(bu.af k _).trans ?_
 have inner:∀ (self:(List Seen×List Seen×List (List Int×Row)×bv×Int×Int)->Option bu.O) (e0:(List Seen×List Seen×List (List Int×Row))->Option bu.O) (i:Nat) (hi:i < ps.length) (S:List a7),S.length<=16*i->(∀ x ∈ S,x.1 < (i:Int)) ->
   bu.r1 k self e0 (ps,()) (i:Int) ps[i] ps (ps.length:Int) (pn ps[i]:Int) (S.flatMap jy,S.flatMap ic,S.flatMap mJ,(0:Int))=self ((S++rM i ps[i]).flatMap jy,(S++rM i ps[i]).flatMap ic,(S++rM i ps[i]).flatMap mJ,ps,(ps.length:Int),ag ((i:Int)+1)):=λself e0 i hi S0 hS0 ol=>by
  have bf:=hp _ (aP hi);have hn:=bf.n;have hlen:=bf.len;have nI:=h.2 _ (aP hi)
  have:=o8 (B:=λim v=>bu.B1 k im (λz=>bu.Q0 k self e0 (ps,()) (i:Int) ps[i] ps (ps.length:Int) (pn ps[i]:Int) z) (ps,()) (i:Int) ps[i] ps (ps.length:Int) (pn ps[i]:Int) v) (pn ps[i]) (λ(S:List a7) (j:Int)=>(S.flatMap jy,S.flatMap ic,S.flatMap mJ,j)) (λj S=>.inr (S++rL i ps[i] j)) (λS=>self (S.flatMap jy,S.flatMap ic,S.flatMap mJ,ps,(ps.length:Int),ag ((i:Int)+1))) (λj S=>S.length<=16*i+j/\∀ x ∈ S,x.1 < (i:Int)\/(x.1=(i:Int)/\x.2.1 < (j:Int))) Bys
   (λj hj S im ⟨hI1,hI2⟩=>by
    show bu.b1 _ _ _ _ _ _ _ _ _=_;unfold bu.b1 rL;have a_:(j:Int) < (pn ps[i]:Int):=by omega
    simp only[a_,aI,aO,zo bf,hj,dV,aA];by_cases hz:bj ps[i] j=0
    ·grind
    ·have IG:=nI j hj hz;obtain ⟨f1,f2⟩:=F7 _ IG;obtain ⟨l1,l2⟩:=Ll S;have oU:∀ (T:List Seen) (y:Seen),T.length<=S.length->T.length+[y].length<=b9:=λT y hT=>cv (by grind);simp only[hz,aG,bZ,aN,aE,Bo bf hj,GD _ (bG (xK bf hj) Bys),IG,aJ,aS,aA,f1,aI,oU _ _ l1,oU _ _ l2,JV]
     obtain ⟨x,hx⟩:∃ x:a7,x=((i:Int),(j:Int),(en (jm ps[i] j)).1,()):=⟨_,rfl⟩
     have hxf:fl x=(en (jm ps[i] j)).1.2.1:=by rw[hx];rfl
     rw[<-hx];simp only[gN,fF,List.flatMap_nil,cR];rcases f2 with g | g | g
     ·have e1:jy x=[((en (jm ps[i] j)).1.2.2.2.2.1,(i:Int),(j:Int),false,(i:Int),(j:Int),())]:=by unfold jy;rw[aR (hxf.trans g),hx];rfl
      grind [ic,mJ]
     ·have e1:jy x=[]:=by grind [jy]
      have e2:ic x=[(CZ,(i:Int),(j:Int),true,(en (jm ps[i] j)).1.2.2.1,(en (jm ps[i] j)).1.2.2.2.1,())]:=by unfold ic;rw[aR (hxf.trans g),hx];rfl
      grind [mJ]
     ·have e1:jy x=[]:=by grind [jy]
      have e2:ic x=[]:=by grind [ic]
      have e3:mJ x=[([(i:Int),(j:Int)],(en (jm ps[i] j)).1.2.2.2.2.1)]:=by unfold mJ;rw[aR (hxf.trans g),hx];rfl
      rw[e1,e2,e3];have n1:¬ ((2:Int)=0):=by decide
      have zT:pL Ew (S.flatMap mJ) [(i:Int),(j:Int)] (en (jm ps[i] j)).1.2.2.2.2.1=S.flatMap mJ++[([(i:Int),(j:Int)],(en (jm ps[i] j)).1.2.2.2.2.1)]:=Hz Ew _ _ _ λe he=>by
       grind [mJ,Ey]
      grind)
   (λj hj S S' ⟨hI1,hI2⟩ hf=>by
    grind [rL]) (λS im hI=>by
    show bu.b1 _ _ _ _ _ _ _ _ _=_;unfold bu.b1;simp only[aU,aG,aE]
    rfl) S0 ⟨by omega,λx hx=>.inl (ol x hx)⟩ k Bys
  rw[FR (rL i ps[i])] at this;exact this
 have outer:bu.r0 k (ps,()) (([]:List Seen),([]:List Seen),([]:List (List Int×Row)),ps,(ps.length:Int),(0:Int))=bu.Q1 k (ps,()) ((co ps).flatMap jy,(co ps).flatMap ic,(co ps).flatMap mJ):=by
  have:=eh (B:=λself v=>bu.B0 k self (λz=>bu.Q1 k (ps,()) z) (ps,()) v) ps (λ(S:List a7) (i:Int)=>(S.flatMap jy,S.flatMap ic,S.flatMap mJ,ps,(ps.length:Int),i)) (λi S p=>.inr (S++rM i p)) (λS=>bu.Q1 k (ps,()) (S.flatMap jy,S.flatMap ic,S.flatMap mJ)) (λi S=>S.length<=16*i/\∀ x ∈ S,x.1 < (i:Int)) (by rw[au];omega)
   (λi hi S self ⟨hI1,hI2⟩=>by
    show bu.b0 _ _ _ _ _=_;unfold bu.b0;have a_:(i:Int) < (ps.length:Int):=by omega
    have hlen:=(hp _ (aP hi)).len
    grind [uX])
   (λi hi S S' ⟨hI1,hI2⟩ hf=>by
    injection hf with hf;subst hf;have:=D1 (hp _ (aP hi)) i;refine ⟨by grind,λx hx=>?_⟩
    rcases bR.1 hx with hx | hx
    ·grind
    ·obtain ⟨s,_,hs⟩:=dI.1 hx
     grind [rL]) (λS self hI=>by
    show bu.b0 _ _ _ _ _=_
    grind [bu.b0]) [] ⟨by simp,λx hx=>by cases hx⟩ k Bys
  rw[Hv] at this;exact this
 show bu.r0 k (ps,()) (([]:List Seen),([]:List Seen),([]:List (List Int×Row)),ps,(ps.length:Int),(0:Int))=_;rw[outer];show bu.q1 _ _ _=_;unfold bu.q1;obtain ⟨gl1,gl2⟩:=Ll (co ps)
 have hT:∀ y ∈ (co ps).flatMap ic,∃ x ∈ co ps,fl x=1/\y=(CZ,x.1,x.2.1,true,pE x,pF x,()):=λy hy=>by
  grind [ic]
 have l2w:bu.r2 k (ps,()) ((co ps).flatMap jy) ((co ps).flatMap ic) ((co ps).flatMap mJ) (((co ps).flatMap ic).length:Int) (0:Int)=if (co ps).all (qF ps) then bu.Q2 k (ps,()) ((co ps).flatMap jy) ((co ps).flatMap ic) ((co ps).flatMap mJ) (((co ps).flatMap ic).length:Int) () else some (([]:List Seen),(4:Int),()):=by
  obtain ⟨T,hTd⟩:∃ T,T=(co ps).flatMap ic:=⟨_,rfl⟩
  obtain ⟨M,hM⟩:∃ M,M=(co ps).flatMap mJ:=⟨_,rfl⟩
  rw[<-hTd,<- hM];have hTl:T.length<=192:=by grind
  have:=eh (B:=λself v=>bu.B2 k self (λz=>bu.Q2 k (ps,()) ((co ps).flatMap jy) T M (T.length:Int) z) (ps,()) ((co ps).flatMap jy) T M (T.length:Int) v) T (λ(_:Unit) (i:Int)=>i) (λi _ y=>if (jZ Ew M [y.2.2.2.2.1,y.2.2.2.2.2.1]).isSome then .inr () else .inl (some (([]:List Seen),(4:Int),()))) (λ_=>bu.Q2 k (ps,()) ((co ps).flatMap jy) T M (T.length:Int) ()) (λ_ _=>True) (by rw[au];omega)
   (λi hi s self _=>by
    grind [bu.b2,Int.toNat_natCast,JV,List.length_replicate])
   (λ_ _ _ _ _ _=>trivial) (λs self _=>by
    grind [bu.b2]) () trivial k Bys
  rw[tE (λy:Seen=>(jZ Ew M [y.2.2.2.2.1,y.2.2.2.2.2.1]).isSome) (some (([]:List Seen),(4:Int),())) (λ_=>bu.Q2 k (ps,()) ((co ps).flatMap jy) T M (T.length:Int) ())] at this;refine aL this ?_
  have hb:T.all (λy:Seen=>(jZ Ew M [y.2.2.2.2.1,y.2.2.2.2.2.1]).isSome)=(co ps).all (qF ps):=by
   have qu:∀ x ∈ co ps,fl x=1->(jZ Ew M [pE x,pF x]).isSome=qF ps x:=λx hx hf=>by
    grind [xM,TD,qF]
   grind [ic,qF]
  rw[hb]
 rw[l2w];unfold aaY DI;by_cases dp:(co ps).all (qF ps)=true;rotate_left
 ·grind
 simp only[dp,aJ];show bu.q2 _ _ _ _ _ _ _=_;unfold bu.q2
 have l3w:bu.r3 k (ps,()) ((co ps).flatMap jy) ((co ps).flatMap ic) ((co ps).flatMap mJ) (((co ps).flatMap ic).length:Int) ((co ps).flatMap ic) ((co ps).flatMap mJ) (((co ps).flatMap ic).length:Int) ((co ps).flatMap jy,([]:List (List Int×Bool)),(0:Int))=if ((co ps).filterMap zr).Nodup then bu.Q3 k (ps,()) ((co ps).flatMap ic) ((co ps).flatMap mJ) (((co ps).flatMap ic).length:Int) (In ps) else some (([]:List Seen),(6:Int),()):=by
  have aaZ:=Z4 (co ps);unfold In
  obtain ⟨T,hTd⟩:∃ T,T=(co ps).flatMap ic:=⟨_,rfl⟩
  obtain ⟨M,hM⟩:∃ M,M=(co ps).flatMap mJ:=⟨_,rfl⟩
  obtain ⟨L,hL⟩:∃ L,L=(co ps).flatMap jy:=⟨_,rfl⟩
  have afH:∀ y:Seen,Ay ps y=(Di (jZ Ew M [y.2.2.2.2.1,y.2.2.2.2.2.1]) CZ,y.2):=λy=>by grind [Ay]
  rw[<-hTd,<- hM,<- hL];rw[<-hTd] at aaZ;have hTl:T.length<=192:=by grind
  have hLl:L.length<=192:=by rw[hL];omega
  have:=eh (B:=λself v=>bu.B3 k self (λz=>bu.Q3 k (ps,()) T M (T.length:Int) z) (ps,()) T M (T.length:Int) v) T (λ(_:Unit) (i:Int)=>(L++(T.take i.toNat).map (Ay ps),(T.take i.toNat).map Oe,i)) (λi _ y=>if (T.take i).any (λz=>decide (y.2.2.2.2.1=z.2.2.2.2.1)&&decide (y.2.2.2.2.2.1=z.2.2.2.2.2.1)) then .inl (some (([]:List Seen),(6:Int),())) else .inr ()) (λ_=>bu.Q3 k (ps,()) T M (T.length:Int) (L++T.map (Ay ps))) (λ_ _=>True) (by rw[au];omega)
   (λi hi s self _=>by
    show bu.b3 _ _ _ _ _ _ _=_;unfold bu.b3;have a_:(i:Int) < (T.length:Int):=by omega
    have oU:∀ y:Seen,(L++(T.take i).map (Ay ps)).length+[y].length<=b9:=λy=>cv (by grind);have hw:(ag ((i:Int)+1)).toNat=i+1:=by grind [bh]
    have qS:T.take (i+1)=T.take i++[T[i]]:=fY hi;simp only[a_,aI,aO,aK,cI,aJ,aC,aB hi,aA,JV,cU,cE,show (0:Nat) < 2 by omega,show (1:Nat) < 2 by omega,Qj,oU,hw,qS,fN,dH,gQ];have htg:=Qj (T.take i) (T[i]).2.2.2.2.1 (T[i]).2.2.2.2.2.1
    grind [Oe,Hz,Ey])
   (λ_ _ _ _ _ _=>trivial) (λs self _=>by
    grind [bu.b3,List.take_length]) () trivial k Bys
  rw[Hu Od (some (([]:List Seen),(6:Int),())) (λ_=>bu.Q3 k (ps,()) T M (T.length:Int) (L++T.map (Ay ps))) (λy z=>decide (y.2.2.2.2.1=z.2.2.2.2.1)&&decide (y.2.2.2.2.2.1=z.2.2.2.2.2.1)) (λy z=>?_) T,aaZ] at this
  ·simp only[Int.toNat_zero,List.take_zero,gQ,cR] at this;exact this
  ·unfold Od;simp only[aD,bP];constructor
   all_goals grind
 rw[l3w];by_cases qS:((co ps).filterMap zr).Nodup;rotate_left
 ·grind
 simp only[qS,aJ];show bu.q3 _ _ _ _ _ _=_;unfold bu.q3;have aa0:=VD h dp
 have IB:(In ps).length<=192:=by
  have:=aa0.length_eq;rw[gL] at this;have:=C6 h.1;omega
 obtain ⟨r,zH,yp,hr3⟩:=Z2 (In ps) Bys;rw[zH];simp only[aA];have yM:r.length<=192:=by have:=yp.length_eq;omega
 have hrp:=yp.trans aa0
 have hkn:(r.map λx=>rk x.1).Nodup↔((jJ ps).map λx=>rk (gy x)).Nodup:=by
  have h1:(r.map λx=>rk x.1).Perm (((jJ ps).map qA).map λx=>rk x.1):=hrp.map _;rw[h1.nodup_iff,List.map_map];exact iL
 refine (Z3 ps k hk r yM).trans ?_;by_cases xF:((jJ ps).map λx=>rk (gy x)).Nodup
 all_goals grind [XV,Qh,TG,XT,XU]
theorem Az (ps:bv) (hp:∀ p ∈ ps,p.length<=maxLen):fi.ae (ps,())=some (vv ps,f9 ps,()):=by
 refine ah (k:=300) λk hk=>(fi.af k _).trans ?_;unfold fi.p vv f9;by_cases hl:12 < ps.length
 ·grind
 have yx:¬ ((12:Int) < (ps.length:Int)):=by omega
 simp only[yx,aG,aE,hl,aS]
 have inner:∀ (self:(bv×bv×Int×Int)->Option fi.O) (e0:bv->Option fi.O) (i:Nat) (hi:i < ps.length),ij ps[i]->fi.r1 k self e0 (ps,()) ps ps[i] ps (ps.length:Int) (i:Int) (pn ps[i]:Int) (0:Int)=if (List.range (pn ps[i])).all (zq ps[i]) then self (ps,ps,(ps.length:Int),ag ((i:Int)+1)) else some (([]:List Seen),(5:Int),()):=λself e0 i hi bf=>by
  have hn:=bf.n;have hlen:=bf.len
  have:=o8 (B:=λim v=>fi.b1 im (λz=>fi.q0 self e0 (ps,()) ps ps[i] ps (ps.length:Int) (i:Int) (pn ps[i]:Int) z) (ps,()) ps ps[i] ps (ps.length:Int) (i:Int) (pn ps[i]:Int) v) (pn ps[i]) (λ(_:Unit) (j:Int)=>j) (λj _=>if zq ps[i] j then .inr () else .inl (some (([]:List Seen),(5:Int),()))) (λ_=>self (ps,ps,(ps.length:Int),ag ((i:Int)+1))) (λ_ _=>True) Bys
   (λj hj s im hI=>by
    show fi.b1 _ _ _ _ _ _ _ _ _ _=_;unfold fi.b1 zq;have a_:(j:Int) < (pn ps[i]:Int):=by omega
    simp only[a_,aI,aO,zo bf,hj,dV,aA];by_cases hz:bj ps[i] j=0
    ·grind
    ·simp only[hz,aG,bZ,aO,Bo bf hj,GD _ (bG (xK bf hj) Bys),aA,dP]
     grind [F7])
   (λ_ _ _ _ _ _=>trivial) (λs im hI=>by
    show fi.b1 _ _ _ _ _ _ _ _ _ _=_;unfold fi.b1;simp only[aU,aG,aE]
    rfl) () trivial k Bys
  rw[v7] at this;exact this
 have outer:fi.r0 k (ps,()) (ps,ps,(ps.length:Int),(0:Int))=if nO xL ps=0 then fi.q1 (ps,()) ps else some (([]:List Seen),nO xL ps,()):=by
  have:=eh (B:=λself v=>fi.B0 k self (λz=>fi.q1 (ps,()) z) (ps,()) v) ps (λ(_:Unit) (i:Int)=>(ps,ps,(ps.length:Int),i)) (λi _ p=>if xL p=0 then .inr () else .inl (some (([]:List Seen),xL p,()))) (λ_=>fi.q1 (ps,()) ps) (λ_ _=>True) (by rw[au];omega)
   (λi hi s self hI=>by
    show fi.b0 _ _ _ _ _=_;unfold fi.b0 xL;have a_:(i:Int) < (ps.length:Int):=by omega
    simp only[a_,aI,aO,aK,aJ,aC,aB hi,aA,Ax _ (hp _ (aP hi))];by_cases h0:zn ps[i]=0
    ·have bf:=uW.1 h0;rw[bA h0];simp only[aN,aE,uX bf.len,aA,inner self _ i hi bf,h0,aJ];grind
    grind)
   (λ_ _ _ _ _ _=>trivial) (λs self _=>by
    show fi.b0 _ _ _ _ _=_
    grind [fi.b0]) () trivial k Bys
  rw[BC xL (λc=>some (([]:List Seen),c,())) (λ_=>fi.q1 (ps,()) ps)] at this;exact this
 rw[outer];by_cases hc:nO xL ps=0
 ·simp only[hc,aJ];show fi.q1 _ _=_;unfold fi.q1;rw[R7 ps (Qg Bys hc)];rfl
 grind
end OT
namespace OT
open Go
structure xi (ps:bv):Prop where
 right:lA ps
 cells:B_ ps
 aa1:(co ps).all (qF ps)=true
 afn:((co ps).filterMap zr).Nodup
 keys:((jJ ps).map λx=>rk (gy x)).Nodup
 list:vv ps=F8 ((jJ ps).map qA)
theorem ov {ps:bv} (h:f9 ps=0):xi ps:=by
 obtain ⟨h1,h2,h3⟩:=FZ h;have hc:=Qg h1.1 h2;unfold DI at h3;split at h3
 ·rename_i a1;split at h3
  ·rename_i a2;split at h3
   ·rename_i a3;exact ⟨h1,hc,a1,a2,a3,by unfold vv;rw[aR h]⟩
   ·cases h3
  ·cases h3
 ·cases h3
theorem Ln {ps:bv} (h:xi ps):(vv ps).Perm ((jJ ps).map qA):=by rw[h.list];exact Lm _
theorem A7 {ps:bv} (h:xi ps):(vv ps).length<=192:=by
 have:=(Ln h).length_eq;rw[gL] at this;have:=C6 h.right;omega
def dg (ps:bv):List Row:=(vv ps).map (·.1)
theorem Ai {ps:bv} (h:xi ps):dg ps=Lg ((jJ ps).map gy):=by
 unfold dg;rw[h.list,Nm,List.map_map];rfl
theorem vw {ps:bv} (h:xi ps):up (dg ps):=by
 rw[Ai h];refine Qc ?_;rw[List.map_map];exact h.keys
theorem AA (l:List Seen) (hl:l.length<=1000):jW.ae (l,())=some (l.map (·.1),()):=by
 refine ah (k:=1100) λq hq=>(jW.af q _).trans ?_
 have:=ci (B:=λself v=>jW.b0 self (λz=>jW.q0 (l,()) z) (l,()) v) l (λ(s:List Row) (i:Int)=>(s,i)) (λ_ s x=>.inr (s++[x.1])) (λs=>(s,())) (λi s=>s.length=i) (by rw[au];omega)
  (λi hi s self hs=>by
   show jW.b0 _ _ _ _=_;unfold jW.b0;have a_:(i:Int) < (l.length:Int):=by omega
   rw[bA a_,aO,aR (aK i)];simp only[aC,aB hi,aA]
   rw[aR (cv (by simp only[bM,cY];omega))])
  (λi hi s s' hs hf=>by injection hf with hf;subst hf;simp[hs]) (λs self _=>by
   show jW.b0 _ _ _ _=_;unfold jW.b0;rw[bC (aU _),aE]
   rfl) [] rfl q Bys
 rw[gt (g:=λ(s:List Row) (x:Seen)=>s++[x.1])] at this;refine this.trans ?_
 have hm:∀ (xs:List Seen) (s:List Row),xs.foldl (λs x=>s++[x.1]) s=s++xs.map (·.1):=by
  intro xs
  induction xs with
  | nil=>intro s;simp
  | cons x xs ih=>intro s;rw[eQ,ih];simp
 rw[hm,cJ]
theorem Bq {ps:bv} (h:f9 ps=0):jj.ae (ps,())=some (dg ps,()):=by
 have hr:=FZ h;have hl:=C6 hr.1;refine ah (k:=300) λk hk=>(jj.af k _).trans ?_;unfold jj.p;rw[D2 ps hr.1];simp only[aA]
 have:=ci (B:=λself v=>jj.b0 self (λz=>jj.q0 (ps,()) (jJ ps) z) (ps,()) (jJ ps) v) (jJ ps) (λ(s:List Row) (i:Int)=>(s,i)) (λ_ s x=>.inr (m_ s (gy x))) (λs=>(s,())) (λi s=>s.length<=i) (by rw[au];omega)
  (λi hi s self hs=>by
   show jj.b0 _ _ _ _ _=_;unfold jj.b0;have a_:(i:Int) < ((jJ ps).length:Int):=by omega
   rw[bA a_,aO,aR ⟨aK i,a_⟩];simp only[aC,aB hi,aA];rw[FV _ _ Bys]
   rfl)
  (λi hi s s' hs hf=>by
   injection hf with hf;subst hf;unfold m_;simp only[bU,dC,cC,bM,cY]
   omega) (λs self _=>by
   show jj.b0 _ _ _ _ _=_;unfold jj.b0;rw[bC (aU _),aE]
   rfl) [] (aH 0) k Bys
 rw[gt (g:=λ(s:List Row) (x:a7)=>m_ s (gy x))] at this;refine this.trans ?_;rw[Ai (ov h)];unfold Lg;rw[List.foldl_map]
end OT
namespace OT
open Go
theorem Qk {p:List UInt8} {i n:Nat} (h:pb p i=n) (hn:n < 256):p.set i (UInt8.ofNat n)=p:=by
 grind [CX,List.length_set,uJ,ofNat_toNat]
theorem vx (n:Nat):UInt8.ofInt ((n:Nat):Int)=UInt8.ofNat n:=by
 refine fM.1 ?_;grind [UInt8.toNat_ofNat',UInt8.ofInt]
theorem F_ {O:Type} (p:List UInt8) (g:Nat->O):∀ (m a i:Nat),bq (λ_ (_:Unit) (x:Nat)=>if bj p x=0 then .inl (g x) else .inr ()) (λ_=>g (a+m)) i (List.range' a m) ()=g (wJ p m a)
 | 0,a,i=>rfl
 | m+1,a,i=>by
  rw[gY];simp only[bq,wJ];by_cases h:bj p a=0
  ·grind
  ·simp only[h,aS];have:=F_ p g m (a+1) (i+1);grind
theorem HA (p:List UInt8) (b:Int):∀ n,(List.range n).foldl (λs x=>s - (bj p x:Int)) b=b - (mZ p n:Int)
 | 0=>by simp[mZ]
 | n+1=>by rw[gJ,List.foldl_append,HA p b n];grind [mZ]
theorem Mx (p:List UInt8):∀ n,mZ p n<=256*n
 | 0=>by simp[mZ]
 | n+1=>by have:=Mx p n;grind [mC,mZ,bj]
section
variable {p:List UInt8} (hp:ij p)
include hp
theorem Ql:kC.ae (p,())=some ((gg p:Int),()):=by
 have hn:=hp.n;refine ah (k:=100) λk hk=>(kC.af k _).trans ?_
 have:=o8 (B:=λself v=>kC.b0 self (λz=>kC.q0 (p,()) z) (p,()) v) (pn p) (λ(_:Unit) (i:Int)=>i) (λx _=>if bj p x=0 then .inl (some ((x:Int),())) else .inr ()) (λ_=>some ((pn p:Int),())) (λ_ _=>True) Bys
  (λi hi s self _=>by
   show kC.b0 _ _ _ _=_;unfold kC.b0;have a_:(i:Int) < (pn p:Int):=by omega
   simp only[nX hp.len,aA,a_,aI,aO,qN hp.len (show i < 16 by omega)]
   grind)
  (λ_ _ _ _ _ _=>trivial) (λs self _=>by
   show kC.b0 _ _ _ _=_;unfold kC.b0;simp only[nX hp.len,aA,aU,aG,aE];show kC.q0 _ _=_;unfold kC.q0
   simp only[nX hp.len,aA]) () trivial k Bys
 refine this.trans ?_;rw[fI];have h2:=F_ p (λn=>(some ((n:Int),()):Option kC.O)) (pn p) 0 0;simp only[bE] at h2;exact h2
theorem I1:kO.ae (p,())=some (sX p,()):=by
 have hn:=hp.n;have hw:ag ((62:Int) - ag ((2:Int)*(pn p:Int)))=62 - 2*(pn p:Int):=by grind [bh]
 refine ah (k:=100) λk hk=>(kO.af k _).trans ?_;unfold kO.p;simp only[nX hp.len,aA,hw]
 have:=o8 (B:=λself v=>kO.b0 self (λz=>kO.q0 (p,()) z) (p,()) v) (pn p) (λ(s:Int) (i:Int)=>(s,i)) (λx s=>.inr (s - (bj p x:Int))) (λs=>some (s,())) (λi s=>s=62 - 2*(pn p:Int) - (mZ p i:Int)) Bys
  (λi hi s self hs=>by
   show kO.b0 _ _ _ _=_;unfold kO.b0;have a_:(i:Int) < (pn p:Int):=by omega
   have h1:=mC p (3+2*i);have h2:=Mx p i;have h3:bj p i < 256:=h1;simp only[nX hp.len,aA,a_,aI,aO,qN hp.len (show i < 16 by omega)]
   grind [bh])
  (λi hi s s' hs hf=>by grind [mZ]) (λs self _=>by
   show kO.b0 _ _ _ _=_;unfold kO.b0;simp only[nX hp.len,aA,aU,aG,aE]
   rfl) (62 - 2*(pn p:Int)) (by simp[mZ]) k Bys
 rw[gt (g:=λs x=>s - (bj p x:Int)),HA] at this;exact this
theorem I2:kQ.ae (p,())=some (sX p,()):=by
 have hn:=hp.n;have hw:ag ((62:Int) - ag ((2:Int)*(pn p:Int)))=62 - 2*(pn p:Int):=by grind [bh]
 refine ah (k:=100) λk hk=>(kQ.af k _).trans ?_;unfold kQ.p;simp only[uX hp.len,aA,hw]
 have:=o8 (B:=λself v=>kQ.b0 self (λz=>kQ.q0 (p,()) (pn p:Int) z) (p,()) (pn p:Int) v) (pn p) (λ(s:Int) (i:Int)=>(s,i)) (λx s=>.inr (s - (bj p x:Int))) (λs=>some (s,())) (λi s=>s=62 - 2*(pn p:Int) - (mZ p i:Int)) Bys
  (λi hi s self hs=>by
   show kQ.b0 _ _ _ _ _=_;unfold kQ.b0;have a_:(i:Int) < (pn p:Int):=by omega
   have h1:=mC p (3+2*i);have h2:=Mx p i;have h3:bj p i < 256:=h1;simp only[aA,a_,aI,aO,CY hp.len (show i < 16 by omega)]
   grind [bh])
  (λi hi s s' hs hf=>by grind [mZ]) (λs self _=>by
   show kQ.b0 _ _ _ _ _=_;unfold kQ.b0;simp only[aA,aU,aG,aE]
   rfl) (62 - 2*(pn p:Int)) (by simp[mZ]) k Bys
 rw[gt (g:=λs x=>s - (bj p x:Int)),HA] at this;exact this
end
theorem zt {p c:List UInt8} {s a:Nat} (hp:p.length=64) (hs:s < 16) (h:a+c.length<=64):jO.ae (p,(s:Int),(a:Int),c,())=some (ma p s a c,()):=by
 refine ah (k:=0) λk _=>(jO.af k _).trans ?_;show jO.p _=_;unfold jO.p ma;have h1:(0:Int)<=(a:Int)/\(a:Int)<=(p.length:Int):=by omega
 have hm:min c.length (p.length - a)=c.length:=by omega
 have hl:(pD p a c.length c).length=64:=by grind [sn]
 grind [Ev,Ni,vx]
theorem C7 {p c:List UInt8} {s a:Nat} (hp:p.length=64) (hs:s < 16) (h:a+c.length<=64):ou.ae (p,(s:Int),(a:Int),c,())=some (ma p s a c,()):=by
 refine ah (k:=0) λk _=>(ou.af k _).trans ?_;show ou.p _=_;unfold ou.p ma;have h1:(0:Int)<=(a:Int)/\(a:Int)<=(p.length:Int):=by omega
 have hm:min c.length (p.length - a)=c.length:=by omega
 have hl:(pD p a c.length c).length=64:=by grind [sn]
 grind [mY,Int.toNat_natCast,Ev,Ni,vx]
section
variable {p:List UInt8} (hp:ij p) (c:List UInt8) (lY:1<=c.length) (hc:c.length<=20)
include hp lY hc
theorem Qm:∀ m:Nat,vn p=m->m<=1->¬ (gg p=pn p/\16<=pn p)->gg p < 16->∀ (d:Int),d=2*(m:Int)->∀ (e:Int),e=((pn p+m:Nat):Int) ->
   (bif decide (sX p < ag ((c.length:Int)+d)) then (some (([]:List UInt8),(0:Int),(9:Int),()):Option oq.O) else
    bif decide (ag ((ff p:Int) - (c.length:Int)) < ag ((2:Int)+ag ((2:Int)*e))) then some (([]:List UInt8),(0:Int),(8:Int),()) else
     if 0<=(0:Int)/\(0:Int) < (p.length:Int) then ((p[0]?).bind λx18=>if 0<=(1:Int)/\(1:Int) < ((p.set 0 (UInt8.ofInt e)).length:Int) then (((p.set 0 (UInt8.ofInt e))[1]?).bind λx19=>(jO.ae ((p.set 0 (UInt8.ofInt e)).set 1 (UInt8.ofInt (ag ((ff p:Int) - (c.length:Int)))),(gg p:Int),ag ((ff p:Int) - (c.length:Int)),c,())).bind λPH=>some (PH.1,(gg p:Int),(0:Int),())) else none) else none) =
    some (if m9 p c=0 then si p c else [],if m9 p c=0 then (gg p:Int) else 0,m9 p c,()):=by
 intro m hm Ee rD he d hd e hee;have hn:=hp.n;have wh:=hp.lo;have Ej:=hp.hi;obtain ⟨e1,e2,e3⟩:=v6 p;obtain ⟨f1,f2⟩:=Eu hp;subst hd;subst hee;unfold m9;rw[aV rD,hm];have w1:ag ((c.length:Int)+2*(m:Int))=(c.length:Int)+2*(m:Int):=bh Bys;rw[w1];by_cases c1:sX p < (c.length:Int)+2*(m:Int)
 ·grind
 have w2:ag ((ff p:Int) - (c.length:Int))=(ff p:Int) - (c.length:Int):=bh Bys;have w3:ag ((2:Int)+ag ((2:Int)*((pn p+m:Nat):Int)))=((2+2*(pn p+m):Nat):Int):=Ev Bys;simp only[c1,aG,aE,aS,w2,w3];by_cases c2:ff p < 2+2*(pn p+m)+c.length
 ·grind
 have n2:¬ ((ff p:Int) - (c.length:Int) < ((2+2*(pn p+m):Nat):Int)):=by omega
 have hl:=hp.len;have g1:(0:Int)<=0/\(0:Int) < (p.length:Int):=by omega
 have g2:(0:Int)<=1/\(1:Int) < (p.length:Int):=by omega
 have w4:(ff p:Int) - (c.length:Int)=((ff p - c.length:Nat):Int):=by omega
 have n4:¬ (((ff p - c.length:Nat):Int) < ((2+2*(pn p+m):Nat):Int)):=by omega
 simp only[c2,n4,aG,aE,aS,g1,g2,cI,aJ,cE,w4,vx];rw[gi Bys,gi (by grind)];rw[zt (by grind) he Bys];simp only[aA]
 have:ma ((p.set 0 (UInt8.ofNat (pn p+m))).set 1 (UInt8.ofNat (ff p - c.length))) (gg p) (ff p - c.length) c=si p c:=by
  unfold si;rw[hm];have vM:(ma p (gg p) (ff p - c.length) c).length=64:=ry hl _ Bys;refine CX ?_ λj hj=>?_
  all_goals grind [ry,Ad,uJ]
 rw[this]
theorem My:oq.ae (p,c,())=some (if m9 p c=0 then si p c else [],if m9 p c=0 then (gg p:Int) else 0,m9 p c,()):=by
 have hn:=hp.n;have wh:=hp.lo;have Ej:=hp.hi;obtain ⟨e1,e2,e3⟩:=v6 p;refine ah (k:=0) λk _=>(oq.af k _).trans ?_;show oq.p _=_;unfold oq.p;obtain ⟨f1,f2⟩:=Eu hp;simp only[Ql hp,nX hp.len,I1 hp,Ik hp.len,nr p (by have:=hp.len;omega),aA];by_cases he:gg p=pn p
 ·have KF:(gg p:Int)=(pn p:Int):=by omega
  rw[bA KF,aO];by_cases h16:16<=pn p
  ·grind [m9]
  ·have Z5:¬ (16:Int)<=(pn p:Int):=by omega
   simp only[Z5,aG,aE];have hw:ag ((pn p:Int)+1)=((pn p+1:Nat):Int):=by grind [bh]
   have:=Qm hp c lY hc 1 (by grind [vn]) Bys (λh=>h16 h.2) Bys 2 Bys (ag ((pn p:Int)+1)) hw;exact this
 ·have KF:¬ ((gg p:Int)=(pn p:Int)):=by omega
  simp only[KF,aG,aE];exact Qm hp c lY hc 0 (by grind [vn]) Bys (λh=>he h.1) Bys 0 Bys (pn p:Int) Bys
end
end OT
namespace OT
open Go
section
variable {p:List UInt8} (hp:ij p) (c:List UInt8) (lY:1<=c.length) (hc:c.length<=20)
include hp lY hc
theorem HB:mm.ae (p,c,())=some ((0:Int),()):=by
 refine ah (k:=0) λk _=>(mm.af k _).trans ?_;show mm.p _=_;unfold mm.p;rw[Ax p (by rw[hp.len,au];omega),uW.2 hp];grind
theorem Ga:iy.ae (p,c,())=some ((m9 p c,if m9 p c=0 then (gg p:Int) else 0,if m9 p c=0 then si p c else [],()),()):=by
 have hn:=hp.n;have wh:=hp.lo;have Ej:=hp.hi;have hl:=hp.len;obtain ⟨e1,e2,e3⟩:=v6 p;obtain ⟨f1,f2⟩:=Eu hp;refine ah (k:=100) λk hk=>(iy.af k _).trans ?_;unfold iy.p;simp only[HB hp c lY hc,uX hp.len,aA,aI,aN,aE]
 have:=o8 (B:=λself v=>iy.b0 self (λz=>iy.q0 (p,c,()) (pn p:Int) z) (p,c,()) (pn p:Int) v) (pn p) (λ(_:Unit) (i:Int)=>i) (λx _=>if bj p x=0 then .inl (iy.q0 (p,c,()) (pn p:Int) (x:Int)) else .inr ()) (λ_=>iy.q0 (p,c,()) (pn p:Int) (pn p:Int)) (λ_ _=>True) Bys
  (λi hi s self _=>by
   show iy.b0 _ _ _ _ _=_;unfold iy.b0;have a_:(i:Int) < (pn p:Int):=by omega
   simp only[a_,aI,aO,Ni (show i < 1000 by omega),aK,aJ,aC,gi (show 3+2*i < p.length by omega),(jH (show 3+2*i < p.length by omega)).2]
   grind [bj])
  (λ_ _ _ _ _ _=>trivial) (λs self _=>by
   grind [iy.b0]) () trivial k Bys
 refine this.trans ?_;rw[fI];have h2:=F_ p (λn=>iy.q0 (p,c,()) (pn p:Int) (n:Int)) (pn p) 0 0;simp only[bE] at h2;refine h2.trans ?_;show iy.q0 _ _ (gg p:Int)=_;unfold iy.q0;simp only[I2 hp,aA,gi (show 1 < p.length by omega),(jH (show 1 < p.length by omega)).2,DH];show (bif decide ((gg p:Int)=(pn p:Int)) then _ else _)=_
 have key:∀ m:Nat,vn p=m->m<=1->¬ (gg p=pn p/\16<=pn p)->gg p < 16->∀ (d:Int),d=2*(m:Int) ->
   (bif decide (sX p < ag ((c.length:Int)+d)) then (some (((9:Int),(0:Int),([]:List UInt8),()),()):Option iy.O) else
    bif decide (ag ((ff p:Int) - (ag ((ag ((2:Int)+(ag ((2:Int)*(pn p:Int)))))+d))) < (c.length:Int)) then some (((8:Int),(0:Int),([]:List UInt8),()),()) else
     (ou.ae (p,(gg p:Int),ag ((ff p:Int) - (c.length:Int)),c,())).bind λz7=>if 0<=(0:Int)/\(0:Int) < (z7.1.length:Int) then ((z7.1[0]?).bind λFx=>let z8:=z7.1.set 0 (UInt8.ofInt (ag ((pn p:Int)+(ag (d.tdiv (2:Int))))));if 0<=(1:Int)/\(1:Int) < (z8.length:Int) then ((z8[1]?).bind λPN=>let Zw:=z8.set 1 (UInt8.ofInt (ag ((ff p:Int) - (c.length:Int))));some (((0:Int),(gg p:Int),Zw,()),())) else none) else none) =
    some ((m9 p c,if m9 p c=0 then (gg p:Int) else 0,if m9 p c=0 then si p c else [],()),()):=by
  intro m hm Ee rD he d hd;subst hd;unfold m9;rw[aV rD,hm];have w1:ag ((c.length:Int)+2*(m:Int))=(c.length:Int)+2*(m:Int):=bh Bys;rw[w1];by_cases c1:sX p < (c.length:Int)+2*(m:Int)
  ·grind
  have w2:ag ((ff p:Int) - (c.length:Int))=(ff p:Int) - (c.length:Int):=bh Bys
  have w3:ag ((ff p:Int) - (ag ((ag ((2:Int)+ag ((2:Int)*(pn p:Int))))+2*(m:Int))))=(ff p:Int) - ((2+2*(pn p+m):Nat):Int):=by
   grind [bh]
  have w5:ag ((pn p:Int)+ag ((2*(m:Int)).tdiv 2))=((pn p+m:Nat):Int):=by
   grind [bh]
  simp only[c1,aG,aE,aS,w2,w3,w5];grind [ry,C7,vx,si]
 by_cases he:gg p=pn p
 ·have KF:(gg p:Int)=(pn p:Int):=by omega
  rw[bA KF,aO];by_cases h16:pn p=16
  ·grind [m9]
  ·have Z5:¬ (pn p:Int)=16:=by omega
   rw[bC Z5,aE];have:=key 1 (by grind [vn]) Bys (λh=>h16 Bys) Bys 2 Bys;exact this
 ·have KF:¬ ((gg p:Int)=(pn p:Int)):=by omega
  simp only[KF,aG,aE];exact key 0 (by grind [vn]) Bys (λh=>he h.1) Bys 0 Bys
variable {s:Nat} (hs:s < pn p) (hz:bj p s≠0)
include hs hz
theorem Lo:sd.ae (p,(s:Int),c,())=some (if sR p s c=0 then Af p s c else [],sR p s c,()):=by
 have hn:=hp.n;have wh:=hp.lo;have Ej:=hp.hi;have hl:=hp.len;obtain ⟨f1,f2⟩:=Eu hp;obtain ⟨s1,s2⟩:=hp.slot s hs hz;refine ah (k:=0) λk _=>(sd.af k _).trans ?_;show sd.p _=_;unfold sd.p sR Af;simp only[qN hl (show s < 16 by omega),nr p Bys,AZ hl (show s < 16 by omega),I1 hp,Ik hl,nX hl,aA];by_cases c1:c.length<=bj p s
 ·grind [bh,zt]
 have c1':¬ (c.length:Int)<=(bj p s:Int):=by omega
 have w2:ag (sX p+(bj p s:Int))=sX p+(bj p s:Int):=bh Bys;simp only[c1,c1',aG,aE,aS,w2];by_cases c2:sX p+(bj p s:Int) < (c.length:Int)
 ·grind
 have w3:ag ((ff p:Int) - (c.length:Int))=(ff p:Int) - (c.length:Int):=bh Bys;simp only[c2,aG,aE,aS,w3,Ev (show pn p < 1000 by omega)];by_cases c3:ff p < 2+2*pn p+c.length
 ·grind
 have n3:¬ ((ff p:Int) - (c.length:Int) < ((2+2*pn p:Nat):Int)):=by omega
 have w4:(ff p:Int) - (c.length:Int)=((ff p - c.length:Nat):Int):=by omega
 have n4:¬ (((ff p - c.length:Nat):Int) < ((2+2*pn p:Nat):Int)):=by omega
 have g2:(0:Int)<=1/\(1:Int) < (p.length:Int):=by omega
 simp only[c3,n4,aG,aE,aS,w4,g2,cI,aJ,vx];rw[gi Bys,zt (by grind) Bys Bys];simp only[aA]
 have:ma (p.set 1 (UInt8.ofNat (ff p - c.length))) s (ff p - c.length) c=(ma p s (ff p - c.length) c).set 1 (UInt8.ofNat (ff p - c.length)):=by
  have vM:(ma p s (ff p - c.length) c).length=64:=ry hl _ Bys;refine CX ?_ λj hj=>?_
  all_goals grind [ry,Ad,uJ]
 rw[this]
theorem Lp:p5.ae (p,(s:Int),c,())=some ((sR p s c,if sR p s c=0 then (s:Int) else 0,if sR p s c=0 then Af p s c else [],()),()):=by
 have hn:=hp.n;have wh:=hp.lo;have Ej:=hp.hi;have hl:=hp.len;obtain ⟨f1,f2⟩:=Eu hp;obtain ⟨s1,s2⟩:=hp.slot s hs hz;refine ah (k:=0) λk _=>(p5.af k _).trans ?_;show p5.p _=_;unfold p5.p sR Af;have wa:(decide (s < pn p)&&!decide (bj p s=0))=true:=by simp[hs,hz]
 simp only[HB hp c lY hc,zo hp s,wa,CY hl (show s < 16 by omega),I2 hp,uX hl,aA,aI,aN,aE,gi (show 1 < p.length by omega),(jH (show 1 < p.length by omega)).2,DH];by_cases c1:c.length<=bj p s
 ·grind [bh,C7]
 have c1':¬ (c.length:Int)<=(bj p s:Int):=by omega
 have w2:ag (sX p+(bj p s:Int))=sX p+(bj p s:Int):=bh Bys;simp only[c1,c1',aG,aE,aS,w2];by_cases c2:sX p+(bj p s:Int) < (c.length:Int)
 ·grind
 have e1:pb p 1=ff p:=rfl;grind [bh,ry,C7,vx]
end
def BR (v:List UInt8):List UInt8:=v.set 0 (UInt8.ofNat (vo v (pn v)))
theorem Lq {v w:List UInt8} (h:∀ i,bj v i=bj w i):∀ m,vo v m=vo w m
 | 0=>rfl
 | m+1=>by simp only[vo,h,Lq h m]
theorem No {v:List UInt8} (hl:v.length=64) (h0:0 < pn v) (hz:bj v (pn v - 1)=0):BR (v.set 0 (UInt8.ofNat (pn v - 1)))=BR v/\pn (v.set 0 (UInt8.ofNat (pn v - 1)))=pn v - 1:=by
 have a_:pn v < 256:=mC v 0
 have IU:pn (v.set 0 (UInt8.ofNat (pn v - 1)))=pn v - 1:=by
  show pb _ 0=_;grind [uJ,ofNat_toNat]
 refine ⟨?_,IU⟩
 have hs:∀ i,bj (v.set 0 (UInt8.ofNat (pn v - 1))) i=bj v i:=λi=>by
  show pb _ _=pb _ _;grind [uJ]
 unfold BR;rw[IU,Lq hs,gS]
 obtain ⟨n,hn⟩:∃ n,pn v=n+1:=⟨pn v - 1,by omega⟩
 grind [vo]
theorem DK {v:List UInt8} (h:pn v=0\/bj v (pn v - 1)≠0):BR v=v:=by
 grind [BR,Qk,pn,FM,mC]
theorem TH {v:List UInt8} (hl:v.length=64) (h0:0 < pn v):UInt8.ofInt ((((v[0]'Bys).toNat:Nat):Int) - 1)=UInt8.ofNat (pn v - 1):=by
 have h1:(v[0]'Bys).toNat=pn v:=(jH (show 0 < v.length by omega)).2;grind [vx]
section
variable {p:List UInt8} (hp:ij p) {s:Nat} (hs:s < pn p)
include hp hs
theorem Np:(tQ p s).length=64:=by unfold tQ;rw[cE,cE,hp.len]
theorem JX:pn (tQ p s)=pn p:=by
 show pb _ 0=pb _ 0;grind [tQ,uJ]
theorem Lr:sj p s=BR (tQ p s):=by grind [sj,BR,JX]
theorem R8:pG.ae (p,(s:Int),())=some (sj p s,()):=by
 have hn:=hp.n;have hl:=hp.len;refine ah (k:=100) λk hk=>(pG.af k _).trans ?_;unfold pG.p;have i2:(0:Int)<=((2+2*s:Nat):Int)/\((2+2*s:Nat):Int) < (p.length:Int):=by omega
 have i3:(0:Int)<=((3+2*s:Nat):Int)/\((3+2*s:Nat):Int) < (p.length:Int):=by omega
 simp only[nr p Bys,aA,Ev (show s < 1000 by omega),Ni (show s < 1000 by omega),i2,i3,cI,aJ,aC,cE];rw[gi Bys,gi (by grind),Lr hp hs];have hd:=JX hp hs;refine qV (λv=>(BR v,())) (λv=>v.length=64/\pn v<=16) pn (λv ⟨hv,hvn⟩ self=>?_) k (tQ p s) ⟨Np hp hs,by omega⟩ Bys;show pG.b0 _ _ _ _=_\/∃ v',pG.b0 _ _ _ _=_/\_;unfold pG.b0;have g:(0:Int)<=0/\(0:Int) < (v.length:Int):=by omega
 have e0:((v[0]'Bys).toNat:Nat)=pn v:=(jH (show 0 < v.length by omega)).2;simp only[g,cI,aJ,gi (show 0 < v.length by omega)];by_cases h0:pn v=0
 ·left;have:¬ ((0:Int) < (((v[0]'Bys).toNat:Nat):Int)):=by rw[e0];omega
  rw[bC this,DK (Or.inl h0)];rfl
 have h1:(0:Int) < (((v[0]'Bys).toNat:Nat):Int):=by rw[e0];omega
 have hw:ag ((ag (((v[0]'Bys).toNat:Nat):Int)) - 1)=((pn v - 1:Nat):Int):=by
  grind [bh]
 rw[bA h1,hw,qN hv (show pn v - 1 < 16 by omega)];simp only[aA,aO];by_cases hz:bj v (pn v - 1)=0
 ·grind [No,TH]
 ·left;have:¬ ((bj v (pn v - 1):Int)=0):=by omega
  rw[bC this,DK (Or.inr hz)];rfl
theorem R9 (hz:bj p s≠0):og.ae (p,(s:Int),())=some (((0:Int),(s:Int),sj p s,()),()):=by
 have hn:=hp.n;have hl:=hp.len;refine ah (k:=100) λk hk=>(og.af k _).trans ?_;unfold og.p;have i2:(0:Int)<=((2+2*s:Nat):Int)/\((2+2*s:Nat):Int) < (p.length:Int):=by omega
 have i3:(0:Int)<=((3+2*s:Nat):Int)/\((3+2*s:Nat):Int) < (p.length:Int):=by omega
 have wa:(decide (s < pn p)&&!decide (bj p s=0))=true:=by simp[hs,hz]
 rw[Ax p (by grind [au]),uW.2 hp];simp only[mY p Bys,zo hp s,wa,aA,aI,aN,aE,Ev (show s < 1000 by omega),Ni (show s < 1000 by omega),i2,i3,cI,aJ,aC,cE];rw[gi Bys,gi (by grind),Lr hp hs];have hd:=JX hp hs;refine qV (λv=>(((0:Int),(s:Int),BR v,()),())) (λv=>v.length=64/\pn v<=16) pn (λv ⟨hv,hvn⟩ self=>?_) k (tQ p s) ⟨Np hp hs,by omega⟩ Bys;show og.b0 _ _ _ _=_\/∃ v',og.b0 _ _ _ _=_/\_;unfold og.b0;have g:(0:Int)<=0/\(0:Int) < (v.length:Int):=by omega
 have e0:((v[0]'Bys).toNat:Nat)=pn v:=(jH (show 0 < v.length by omega)).2;simp only[g,cI,aJ,gi (show 0 < v.length by omega)];by_cases h0:pn v=0
 ·left;have:¬ ((0:Int) < (((v[0]'Bys).toNat:Nat):Int)):=by rw[e0];omega
  rw[bC this,DK (Or.inl h0)];rfl
 have h1:(0:Int) < (((v[0]'Bys).toNat:Nat):Int):=by rw[e0];omega
 have hw:ag ((ag ((2:Int)*(ag (((v[0]'Bys).toNat:Nat):Int))))+1)=((3+2*(pn v - 1):Nat):Int):=by
  grind [bh]
 have g3:(0:Int)<=((3+2*(pn v - 1):Nat):Int)/\((3+2*(pn v - 1):Nat):Int) < (v.length:Int):=by omega
 rw[bA h1,hw];simp only[g3,cI,aJ,aC,gi (show 3+2*(pn v - 1) < v.length by omega),(jH (show 3+2*(pn v - 1) < v.length by omega)).2,aO];show (bif decide ((bj v (pn v - 1):Int)=0) then _ else _)=_\/∃ v',(bif decide ((bj v (pn v - 1):Int)=0) then _ else _)=_/\_;by_cases hz:bj v (pn v - 1)=0
 ·grind [No,TH]
 ·left;have:¬ ((bj v (pn v - 1):Int)=0):=by omega
  rw[bC this,DK (Or.inr hz)];rfl
end
end OT
namespace OT
open Go
theorem adb (a b:List UInt8) (j:Nat):pb (a++b) j=if j < a.length then pb a j else pb b (j - a.length):=by
 unfold pb;simp only[dZ];split
 ·rename_i h;rw[bO h]
 ·rename_i h;rw[cL Bys]
theorem TJ (n j:Nat):pb (List.replicate n (0:UInt8)) j=0:=by
 unfold pb;simp only[dZ,fT];split <;> rfl
section
variable {p:List UInt8} (hp:ij p)
include hp
theorem Qn:pD (List.replicate 64 (0:UInt8)) 0 (min ((p.take (2+2*pn p)).drop 0).length (List.replicate 64 (0:UInt8)).length) ((p.take (2+2*pn p)).drop 0)=Aw p:=by
 have hn:=hp.n;have hl:=hp.len;have ht:(p.take (2+2*pn p)).length=2+2*pn p:=by rw[dC];omega
 rw[eD,cU,show min (p.take (2+2*pn p)).length 64=(p.take (2+2*pn p)).length by omega];refine CX ?_ λj hj=>?_
 ·rw[sn _ _ (by rw[cU];omega) (aH _)];unfold Aw;rw[bU,cU,cU];omega
 ·rw[Mu (by rw[cU];omega)];unfold Aw;rw[adb,ht,TJ,TJ];by_cases h:j < 2+2*pn p
  ·rw[aR ⟨by omega,by omega⟩,aR h,Nat.sub_zero]
  ·rw[aV Bys,aV h]
theorem TK {k:Nat} (hk:k < pn p) (hz:bj p k≠0):(jI p k).1.length=64/\bj p k<=(jI p k).2/\(jI p k).2<=64/\bj (jI p k).1 k=bj p k/\2+2*pn p<=(jI p k).2 - bj p k:=by
 have I:=FO hp k Bys;have sW:=FL hp;have hm:=sv p (show k+1<=pn p from hk);have wh:=hp.lo;have ha:=I.a;simp only[mZ] at hm;exact ⟨I.len,by omega,by omega,I.sz k hk,by omega⟩
theorem Qo:(jI p (pn p)).1.length=64/\(jI p (pn p)).2<=64:=by
 have I:=FO hp (pn p) (aH _);have ha:=I.a;exact ⟨I.len,by omega⟩
theorem I3:h_.ae (p,())=some (mP p,()):=by
 have hn:=hp.n;have hl:=hp.len;refine ah (k:=100) λk hk=>(h_.af k _).trans ?_;unfold h_.p;have g1:(0:Int)<=64/\(64:Int)<=64/\(64:Int)<=(b9:Int):=by unfold b9;omega
 have g2:(0:Int)<=((2+2*pn p:Nat):Int)/\((2+2*pn p:Nat):Int)<=(p.length:Int):=by omega
 simp only[nX hl,aA,Ev (show pn p < 1000 by omega),g1,g2,cI,aJ,aC];rw[Qn hp]
 have:=o8 (B:=λself v=>h_.b0 self (λz=>h_.q0 (p,()) (pn p:Int) z) (p,()) (pn p:Int) v) (pn p) (λ(s:List UInt8×Nat) (i:Int)=>(s.1,(s.2:Int),i)) (λx s=>.inr (BP p s x)) (λs=>some (s.1.set 1 (UInt8.ofNat s.2),())) (λi s=>s=jI p i) Bys
  (λi hi s self hs=>by
   subst hs;show h_.b0 _ _ _ _ _=_;unfold h_.b0 BP;have a_:(i:Int) < (pn p:Int):=by omega
   simp only[a_,aI,aO,qN hl (show i < 16 by omega),aA];by_cases hz:bj p i=0
   ·simp only[hz,Int.natCast_zero,aI,aO,aJ]
   ·have hz':¬ ((bj p i:Int)=0):=by omega
    obtain ⟨c1,c2,c3,c4,c5⟩:=TK hp hi hz;have ta:=pv hp hi;have hw:ag (((jI p i).2:Int) - (bj p i:Int))=(((jI p i).2 - bj p i:Nat):Int):=by rw[bh Bys];omega
    simp only[hz,hz',aG,aE,aS,xT hp hi,aA,ta,hw,zt c1 (show i < 16 by omega) (show (jI p i).2 - bj p i+(jm p i).length<=64 by omega)])
  (λi hi s s' hs hf=>by injection hf with hf;subst hf;rw[hs,FN]) (λs self hs=>by
   subst hs;obtain ⟨c1,c2⟩:=Qo hp;show h_.b0 _ _ _ _ _=_;unfold h_.b0;simp only[aU,aG,aE];show h_.q0 _ _ _=_;unfold h_.q0;have g:(0:Int)<=1/\(1:Int) < ((jI p (pn p)).1.length:Int):=by omega
   simp only[g,cI,aJ,vx]
   rw[gi Bys]) (Aw p,64) rfl k Bys
 rw[gt (g:=λs x=>BP p s x)] at this;exact this
theorem R_:ir.ae (p,())=some (((0:Int),(0:Int),mP p,()),()):=by
 have hn:=hp.n;have hl:=hp.len;refine ah (k:=100) λk hk=>(ir.af k _).trans ?_;unfold ir.p;have g1:(0:Int)<=64/\(64:Int)<=64/\(64:Int)<=(b9:Int):=by unfold b9;omega
 have g2:(0:Int)<=((2+2*pn p:Nat):Int)/\((2+2*pn p:Nat):Int)<=(p.length:Int):=by omega
 rw[Ax p (by rw[hp.len,au];omega),uW.2 hp];simp only[uX hl,aA,aI,aN,aE,Ev (show pn p < 1000 by omega),g1,g2,cI,aJ,aC];rw[Qn hp]
 have:=o8 (B:=λself v=>ir.b0 self (λz=>ir.q0 (p,()) (pn p:Int) z) (p,()) (pn p:Int) v) (pn p) (λ(s:List UInt8×Nat) (i:Int)=>(s.1,(s.2:Int),i)) (λx s=>.inr (BP p s x)) (λs=>some (((0:Int),(0:Int),s.1.set 1 (UInt8.ofNat s.2),()),())) (λi s=>s=jI p i) Bys
  (λi hi s self hs=>by
   subst hs;show ir.b0 _ _ _ _ _=_;unfold ir.b0 BP;have a_:(i:Int) < (pn p:Int):=by omega
   simp only[a_,aI,aO,zo hp i,aA];by_cases hz:bj p i=0
   ·simp only[hz,aI,aN,Bool.and_false,bZ,aO,aJ]
   ·obtain ⟨c1,c2,c3,c4,c5⟩:=TK hp hi hz;have ta:=pv hp hi;have hw:ag (((jI p i).2:Int) - (bj p i:Int))=(((jI p i).2 - bj p i:Nat):Int):=by rw[bh Bys];omega
    have wa:(decide (i < pn p)&&!decide (bj p i=0))=true:=by simp[hi,hz]
    have g3:(0:Int)<=(((jI p i).2 - bj p i:Nat):Int)/\(((jI p i).2 - bj p i:Nat):Int)<=((jI p i).1.length:Int):=by omega
    have hm:min (bj p i) ((jI p i).1.length - ((jI p i).2 - bj p i))=bj p i:=by omega
    have Eb:(pD (jI p i).1 ((jI p i).2 - bj p i) (bj p i) (jm p i)).length=64:=by rw[sn _ _ Bys Bys,c1]
    have g4:(0:Int)<=((2+2*i:Nat):Int)/\((2+2*i:Nat):Int) < ((64:Nat):Int):=by omega
    rw[wa];simp only[aN,aE,aV hz,Bo hp hi,aA,ta,hw,g3,cI,aJ,aC,hm,Ev (show i < 1000 by omega),Eb,g4,vx];rw[gi Bys]
    have dp:ma (jI p i).1 i ((jI p i).2 - bj p i) (jm p i)=(pD (jI p i).1 ((jI p i).2 - bj p i) (bj p i) (jm p i)).set (2+2*i) (UInt8.ofNat ((jI p i).2 - bj p i)):=by
     unfold ma;rw[ta];refine Qk ?_ Bys;rw[uJ,aV Bys,<- ta,Mu Bys,aV Bys,ta];exact c4
    rw[dp])
  (λi hi s s' hs hf=>by injection hf with hf;subst hf;rw[hs,FN]) (λs self hs=>by
   subst hs;obtain ⟨c1,c2⟩:=Qo hp;show ir.b0 _ _ _ _ _=_;unfold ir.b0;simp only[aU,aG,aE];show ir.q0 _ _ _=_;unfold ir.q0;have g:(0:Int)<=1/\(1:Int) < ((jI p (pn p)).1.length:Int):=by omega
   simp only[g,cI,aJ,vx]
   rw[gi Bys]) (Aw p,64) rfl k Bys
 rw[gt (g:=λs x=>BP p s x)] at this;exact this
end
end OT
namespace OT
open Go
def il (ps:bv) (P:Nat):List UInt8:=ps.getD P []
theorem nY {ps:bv} {P:Nat} (h:P < ps.length):ps[P]?=some (il ps P):=by
 grind [il]
theorem JY {ps:bv} {P:Nat} (h:P < ps.length):il ps P ∈ ps:=bI (nY h)
theorem pw {ps:bv} (h:lA ps) {P:Nat} (hP:P < ps.length):ij (il ps P):=h.2 _ (JY hP)
theorem Qp (ps:bv) (P Q:Nat) (b:List UInt8):il (ps.set P b) Q=if P=Q/\P < ps.length then b else il ps Q:=by
 grind [il]
theorem Qq (ps:bv) (Q:Nat) (b:List UInt8):il (ps++[b]) Q=if Q=ps.length then b else il ps Q:=by
 grind [il]
def br (ps:bv) (P s:Nat):List UInt8:=cellOf (il ps P) s
theorem Mz {ps:bv} {P s:Nat} (h:ps.length<=P):br ps P s=[]:=by
 have:il ps P=[]:=by grind [il]
 unfold br;rw[this];rfl
theorem vS {ps:bv} (h:lA ps) {P s:Nat} (hc:br ps P s≠[]):P < ps.length/\s < pn (il ps P)/\bj (il ps P) s≠0:=by
 grind [Mz,br,cellOf,qY,pw]
def ox (w:ba) (P:Nat) (b:List UInt8):ba:=
 if P=List.length w.1 then (w.1++[b],w.2.1++[((P:Int),b,())],())
 else if il w.1 P=b then w else (List.set w.1 P b,w.2.1++[((P:Int),b,())],())
structure okW (w:ba) (n:Nat):Prop where
 jh:lA w.1
 el:List.length w.2.1<=n
 eb:∀ e ∈ (w.2.1:List rQ),List.length e.2.1=64
theorem okW.mono {w:ba} {n m:Nat} (h:okW w n) (hm:n<=m):okW w m:=⟨h.jh,by have:=h.el;omega,h.eb⟩
theorem tT {w:ba} {P:Nat} (hP:P < List.length w.1) (b:List UInt8):(ox w P b).1=List.set w.1 P b:=by
 unfold ox;rw[aV Bys];split
 ·rename_i h;refine eE λi=>?_;grind [nY]
 ·rfl
theorem JZ (w:ba) (b:List UInt8):(ox w (List.length w.1) b).1=w.1++[b]:=by
 grind [ox]
theorem Aj {w:ba} {n P:Nat} (h:okW w n) {b:List UInt8} (hb:ij b) (hP:P<=List.length w.1) (zK:P < 12):okW (ox w P b) (n+1):=by
 have hl:=h.el
 have he:∀ e ∈ ((w.2.1++[((P:Int),b,())]):List rQ),List.length e.2.1=64:=λe he=>by
  rcases bR.1 he with he | he
  ·exact h.eb e he
  ·rw[bV.1 he];exact hb.len
 unfold ox;split
 ·rename_i h1;refine ⟨⟨?_,λp hp=>?_⟩,?_,he⟩
  ·grind
  ·rcases bR.1 hp with hp | hp
   ·exact h.jh.2 p hp
   grind
  grind
 ·split
  ·exact h.mono Bys
  ·refine ⟨⟨?_,λp hp=>?_⟩,?_,he⟩
   ·rw[cE];exact h.jh.1
   ·rcases dK hp with hp | hp
    ·exact h.jh.2 p hp
    grind
   grind
theorem xj {w:ba} {P:Nat} (hP:P < List.length w.1) (b:List UInt8) (Q s:Nat):br (ox w P b).1 Q s=if Q=P then cellOf b s else br w.1 Q s:=by
 grind [tT,br,Qp]
theorem sw {w:ba} {n P:Nat} (h:okW w n) (hn:n<=1000) {b:List UInt8} (hb:b.length=64) (hP:P<=List.length w.1):jl.ae (w,(P:Int),b,())=some (ox w P b,()):=by
 refine ah (k:=0) λk _=>(jl.af k _).trans ?_;show jl.p _=_;unfold jl.p ox;have hl:=h.jh.1;have he:=h.el;simp only[nr b Bys,aA];grind [cv,il]
theorem uh {w:ba} {n P:Nat} (h:okW w n) (hn:n<=1000) {b:List UInt8} (hb:b.length=64) (hP:P<=List.length w.1):gq.ae (w,(P:Int),b,())=some (ox w P b,()):=by
 refine ah (k:=0) λk _=>(gq.af k _).trans ?_;show gq.p _=_;unfold gq.p ox;have hl:=h.jh.1;have he:=h.el;simp only[mY b Bys,aA];grind [cv,il]
def oS (w:ba) (P:Nat):ba:=ox w P (mP (il w.1 P))
theorem Gb {w:ba} {P:Nat} (hP:P < List.length w.1):il (oS w P).1 P=mP (il w.1 P):=by
 grind [oS,tT,Qp]
theorem uY {w:ba} {P:Nat} (hP:P < List.length w.1):List.length (oS w P).1=List.length w.1:=by
 grind [oS,tT]
theorem yf {w:ba} {n P:Nat} (h:okW w n) (hP:P < List.length w.1):okW (oS w P) (n+1):=
 Aj h (uf (pw h.jh hP)).1 Bys (by have:=h.jh.1;omega)
theorem AB {w:ba} {n P:Nat} (h:okW w n) (hP:P < List.length w.1) (Q s:Nat):br (oS w P).1 Q s=br w.1 Q s:=by
 unfold oS;rw[xj hP];split
 ·rename_i hq;subst hq;exact (uf (pw h.jh hP)).2.1 s
 ·rfl
theorem HC {w:ba} {n P:Nat} (h:okW w n) (hn:n<=1000) (hP:P < List.length w.1):jP.ae (w,(P:Int),())=some (oS w P,()):=by
 refine ah (k:=0) λk _=>(jP.af k _).trans ?_;show jP.p _=_;unfold jP.p oS;have hp:=pw h.jh hP;have g:(0:Int)<=(P:Int)/\(P:Int) < (List.length w.1:Int):=by omega
 rw[aR g];simp only[aC,nY hP,aA,R_ hp,uh h hn (uf hp).1.len (eV hP)]
def tU (w:ba) (P:Nat) (c:List UInt8):Option Nat×ba:=
 if m9 (il w.1 P) c=8 then
  if m9 (mP (il w.1 P)) c=0 then (some (gg (mP (il w.1 P))),ox (oS w P) P (si (mP (il w.1 P)) c)) else (none,oS w P)
 else if m9 (il w.1 P) c=0 then (some (gg (il w.1 P)),ox w P (si (il w.1 P) c)) else (none,w)
structure adc (w:ba) (n P:Nat) (c:List UInt8) (r:Option Nat×ba):Prop where
 ok:okW r.2 (n+2)
 len:List.length r.2.1=List.length w.1
 no:r.1=none->∀ Q s,br r.2.1 Q s=br w.1 Q s
 yes:∀ t,r.1=some t->t < 16/\br w.1 P t=[]/\∀ Q s,br r.2.1 Q s=if Q=P/\s=t then c else br w.1 Q s
theorem Nq {p c:List UInt8} (h:ij p) (hc:m9 p c=0):gg p < 16:=by
 have:=(v6 p).1;have:=h.n;grind [m9]
theorem C8 {w:ba} {n P:Nat} (h:okW w n) (hP:P < List.length w.1) {c:List UInt8} (hc:1<=c.length):adc w n P c (tU w P c):=by
 have hp:=pw h.jh hP;have zK:=h.jh.1;unfold tU;split
 ·obtain ⟨q1,q2,q3⟩:=uf hp;have hw:=yf h hP;have hl:=uY hP;split
  ·rename_i h0;obtain ⟨r1,r2,r3⟩:=Ae q1 hc h0;have hP':P < List.length (oS w P).1:=by omega
   refine ⟨Aj hw r1 Bys Bys,?_,λhh=>(by cases hh),λt ht=>?_⟩
   ·grind [tT]
   ·injection ht with ht;subst ht;refine ⟨Nq q1 h0,?_,λQ s=>?_⟩
    ·show cellOf (il w.1 P) _=[]
     grind
    ·rw[xj hP',r2,AB h hP];by_cases hq:Q=P
     ·subst hq;by_cases hs:s=gg (mP (il w.1 Q))
      ·grind
      ·rw[aR rfl,aV hs,aV (λhh=>hs hh.2),q2];rfl
     grind
  ·exact ⟨hw.mono Bys,hl,λ_=>AB h hP,λt ht=>by cases ht⟩
 ·split
  ·rename_i h0;obtain ⟨r1,r2,r3⟩:=Ae hp hc h0;refine ⟨(Aj h r1 Bys Bys).mono Bys,?_,λhh=>(by cases hh),λt ht=>?_⟩
   ·rw[tT hP,cE]
   ·injection ht with ht;subst ht;refine ⟨Nq hp h0,r3,λQ s=>?_⟩
    rw[xj hP,r2];by_cases hq:Q=P
    ·subst hq;by_cases hs:s=gg (il w.1 Q)
     ·grind
     ·rw[aR rfl,aV hs,aV (λhh=>hs hh.2)];rfl
    grind
  ·exact ⟨h.mono Bys,rfl,λ_ _ _=>rfl,λt ht=>by cases ht⟩
def XW (r:Option Nat×ba):Int×Bool×ba×Unit:=match r.1 with
 | some t=>((t:Int),true,r.2,())
 | none=>((0:Int),false,r.2,())
theorem Qr {w:ba} {n P:Nat} (h:okW w n) (hn:n<=900) (hP:P < List.length w.1) {c:List UInt8} (lY:1<=c.length) (hc:c.length<=20):rn.ae (w,(P:Int),c,())=some (XW (tU w P c)):=by
 refine ah (k:=0) λk _=>(rn.af k _).trans ?_;show rn.p _=_;unfold rn.p tU;have hp:=pw h.jh hP;obtain ⟨q1,q2,q3⟩:=uf hp;have hw:=yf h hP;have hl:=uY hP;have g:(0:Int)<=(P:Int)/\(P:Int) < (List.length w.1:Int):=by omega
 have g2:(0:Int)<=(P:Int)/\(P:Int) < (List.length (oS w P).1:Int):=by omega
 have ec:ox w P (mP (il w.1 P))=oS w P:=rfl;rw[aR g];simp only[aC,nY hP,aA,My hp c lY hc,I3 hp,sw h Bys q1.len (eV hP),ec,nY (show P < List.length (oS w P).1 by omega),Gb hP,My q1 c lY hc];by_cases h8:m9 (il w.1 P) c=8
 ·rw[bA h8,aO,aR h8,aR g,aR g2];by_cases h0:m9 (mP (il w.1 P)) c=0
  ·rw[bA h0,aR h0,aR h0,aR h0,aN,aE,sw hw Bys (Ae q1 lY h0).1.len Bys];rfl
  ·rw[bC h0,bZ,aO,aV h0];rfl
 ·rw[bC h8,aE,aV h8];by_cases h0:m9 (il w.1 P) c=0
  ·rw[bA h0,aR h0,aR h0,aR h0,aN,aE,sw h Bys (Ae hp lY h0).1.len Bys];rfl
  ·rw[bC h0,bZ,aO,aV h0];rfl
def lB (w:ba) (P s:Nat) (c:List UInt8):Bool×ba:=
 if sR (il w.1 P) s c=8 then
  if sR (mP (il w.1 P)) s c=0 then (true,ox (oS w P) P (Af (mP (il w.1 P)) s c)) else (false,oS w P)
 else if sR (il w.1 P) s c=0 then (true,ox w P (Af (il w.1 P) s c)) else (false,w)
theorem HD {p:List UInt8} (h:ij p) {s:Nat} (hs:s < pn p) (hz:bj p s≠0):s < pn (mP p)/\bj (mP p) s≠0:=by
 obtain ⟨q1,q2,q3⟩:=uf h;refine ⟨by omega,λh0=>hz ?_⟩
 rw[<-qY h hs,<- q2,qY q1 Bys];exact h0
structure XX (w:ba) (n P s:Nat) (c:List UInt8) (r:Bool×ba):Prop where
 ok:okW r.2 (n+2)
 len:List.length r.2.1=List.length w.1
 no:r.1=false->∀ Q t,br r.2.1 Q t=br w.1 Q t
 yes:r.1=true->∀ Q t,br r.2.1 Q t=if Q=P/\t=s then c else br w.1 Q t
theorem rU {w:ba} {n P s:Nat} (h:okW w n) (nN:br w.1 P s≠[]) {c:List UInt8} (hc:1<=c.length):XX w n P s c (lB w P s c):=by
 obtain ⟨hP,hs,hz⟩:=vS h.jh nN;have hp:=pw h.jh hP;have zK:=h.jh.1;unfold lB;split
 ·obtain ⟨q1,q2,q3⟩:=uf hp;obtain ⟨z1,z2⟩:=HD hp hs hz;have hw:=yf h hP;have hl:=uY hP;split
  ·rename_i h0;obtain ⟨r1,r2⟩:=B9 q1 z1 z2 hc h0;have hP':P < List.length (oS w P).1:=by omega
   refine ⟨Aj hw r1 Bys Bys,?_,λhh=>(by cases hh),λ_ Q t=>?_⟩
   ·grind [tT]
   ·rw[xj hP',r2,AB h hP];by_cases hq:Q=P
    ·subst hq;by_cases ht:t=s
     ·grind
     ·rw[aR rfl,aV ht,aV (λhh=>ht hh.2),q2];rfl
    grind
  ·exact ⟨hw.mono Bys,hl,λ_=>AB h hP,λht=>by cases ht⟩
 ·split
  ·rename_i h0;obtain ⟨r1,r2⟩:=B9 hp hs hz hc h0;refine ⟨(Aj h r1 Bys Bys).mono Bys,?_,λhh=>(by cases hh),λ_ Q t=>?_⟩
   ·rw[tT hP,cE]
   ·rw[xj hP,r2];by_cases hq:Q=P
    ·subst hq;by_cases ht:t=s
     ·grind
     ·rw[aR rfl,aV ht,aV (λhh=>ht hh.2)];rfl
    grind
  ·exact ⟨h.mono Bys,rfl,λ_ _ _=>rfl,λht=>by cases ht⟩
theorem zu {w:ba} {n P s:Nat} (h:okW w n) (hn:n<=900) (nN:br w.1 P s≠[]) {c:List UInt8} (lY:1<=c.length) (hc:c.length<=20):ot.ae (w,(P:Int),(s:Int),c,())=some ((lB w P s c).1,(lB w P s c).2,()):=by
 refine ah (k:=0) λk _=>(ot.af k _).trans ?_;show ot.p _=_;unfold ot.p lB;obtain ⟨hP,hs,hz⟩:=vS h.jh nN;have hp:=pw h.jh hP;obtain ⟨q1,q2,q3⟩:=uf hp;obtain ⟨z1,z2⟩:=HD hp hs hz;have hw:=yf h hP;have hl:=uY hP;have g:(0:Int)<=(P:Int)/\(P:Int) < (List.length w.1:Int):=by omega
 have g2:(0:Int)<=(P:Int)/\(P:Int) < (List.length (oS w P).1:Int):=by omega
 have ec:ox w P (mP (il w.1 P))=oS w P:=rfl;rw[aR g];simp only[aC,nY hP,aA,Lo hp c lY hc hs hz,I3 hp,sw h Bys q1.len (eV hP),ec,nY (show P < List.length (oS w P).1 by omega),Gb hP,Lo q1 c lY hc z1 z2];by_cases h8:sR (il w.1 P) s c=8
 ·rw[bA h8,aO,aR h8,aR g,aR g2];by_cases h0:sR (mP (il w.1 P)) s c=0
  ·rw[bA h0,aR h0,aR h0,aN,aE,sw hw Bys (B9 q1 z1 z2 lY h0).1.len Bys];rfl
  grind
 ·rw[bC h8,aE,aV h8];by_cases h0:sR (il w.1 P) s c=0
  ·rw[bA h0,aR h0,aR h0,aN,aE,sw h Bys (B9 hp hs hz lY h0).1.len Bys];rfl
  grind
theorem HE {w:ba} {n P s:Nat} (h:okW w n) (hn:n<=900) (nN:br w.1 P s≠[]) {c:List UInt8} (lY:1<=c.length) (hc:c.length<=20):mn.ae (w,(P:Int),(s:Int),c,())=some ((lB w P s c).1,(lB w P s c).2,()):=by
 refine ah (k:=0) λk _=>(mn.af k _).trans ?_;show mn.p _=_;unfold mn.p lB;obtain ⟨hP,hs,hz⟩:=vS h.jh nN;have hp:=pw h.jh hP;obtain ⟨q1,q2,q3⟩:=uf hp;obtain ⟨z1,z2⟩:=HD hp hs hz;have hw:=yf h hP;have hl:=uY hP;have g:(0:Int)<=(P:Int)/\(P:Int) < (List.length w.1:Int):=by omega
 have g2:(0:Int)<=(P:Int)/\(P:Int) < (List.length (oS w P).1:Int):=by omega
 rw[aR g];simp only[aC,nY hP,aA,Lp hp c lY hc hs hz,HC h Bys hP,nY (show P < List.length (oS w P).1 by omega),Gb hP,Lp q1 c lY hc z1 z2];by_cases h8:sR (il w.1 P) s c=8
 ·rw[bA h8,aO,aR h8,aR g2];by_cases h0:sR (mP (il w.1 P)) s c=0
  ·rw[bA h0,aR h0,aR h0,aN,aE,uh hw Bys (B9 q1 z1 z2 lY h0).1.len Bys];rfl
  grind
 ·rw[bC h8,aE,aV h8];by_cases h0:sR (il w.1 P) s c=0
  ·rw[bA h0,aR h0,aR h0,aN,aE,uh h Bys (B9 hp hs hz lY h0).1.len Bys];rfl
  grind
def lS (w:ba) (P s:Nat):ba:=ox w P (sj (il w.1 P) s)
theorem sx {w:ba} {n P s:Nat} (h:okW w n) (nN:br w.1 P s≠[]):okW (lS w P s) (n+1)/\List.length (lS w P s).1=List.length w.1/\∀ Q t,br (lS w P s).1 Q t=if Q=P/\t=s then [] else br w.1 Q t:=by
 obtain ⟨hP,hs,hz⟩:=vS h.jh nN;have hp:=pw h.jh hP;have zK:=h.jh.1;obtain ⟨r1,r2⟩:=JQ hp hs;refine ⟨Aj h r1 Bys Bys,?_,λQ t=>?_⟩
 ·grind [lS,tT]
 ·unfold lS;rw[xj hP,r2];by_cases hq:Q=P
  ·subst hq;by_cases ht:t=s
   ·grind
   ·rw[aR rfl,aV ht,aV (λhh=>ht hh.2)];rfl
  grind
theorem Br {w:ba} {n P s:Nat} (h:okW w n) (hn:n<=900) (nN:br w.1 P s≠[]):n_.ae (w,(P:Int),(s:Int),())=some (lS w P s,()):=by
 refine ah (k:=0) λk _=>(n_.af k _).trans ?_;show n_.p _=_;unfold n_.p lS;obtain ⟨hP,hs,hz⟩:=vS h.jh nN;have hp:=pw h.jh hP;have g:(0:Int)<=(P:Int)/\(P:Int) < (List.length w.1:Int):=by omega
 rw[aR g];simp only[aC,nY hP,aA,R8 hp hs,sw h Bys (JQ hp hs).1.len (eV hP)]
theorem Bs {w:ba} {n P s:Nat} (h:okW w n) (hn:n<=900) (nN:br w.1 P s≠[]):kh.ae (w,(P:Int),(s:Int),())=some (lS w P s,()):=by
 refine ah (k:=0) λk _=>(kh.af k _).trans ?_;show kh.p _=_;unfold kh.p lS;obtain ⟨hP,hs,hz⟩:=vS h.jh nN;have hp:=pw h.jh hP;have g:(0:Int)<=(P:Int)/\(P:Int) < (List.length w.1:Int):=by omega
 rw[aR g];simp only[aC,nY hP,aA,R9 hp hs hz,uh h Bys (JQ hp hs).1.len (eV hP)]
end OT
namespace OT
open Go
theorem DL {α β:Type} {f:α->β}:∀ {l:List α},(l.map f).Nodup->∀ {x y:α},x ∈ l->y ∈ l->f x=f y->x=y
 | z::l,h,x,y,hx,hy,he=>by
  rw[dH,cS] at h;rcases aY.1 hx with xE | xE
  ·rcases aY.1 hy with KS | KS
   ·rw[xE,KS]
   ·rw[xE] at he;exact absurd (he ▸ gO KS) h.1
  ·rcases aY.1 hy with KS | KS
   ·rw[KS] at he;exact absurd (he ▸ gO xE) h.1
   ·exact DL h.2 xE KS he
theorem XY {α β K:Type} [DecidableEq K] {l:List α} {l':List β} {g:α->β} {ka:α->K} {kb:β->K} (hk:∀ x,kb (g x)=ka x) (hp:l'.Perm (l.map g)) (hn:(l.map ka).Nodup) (k:K):l'.find? (λy=>decide (kb y=k))=(l.find? (λx=>decide (ka x=k))).map g:=by
 cases h:l.find? (λx=>decide (ka x=k)) with
 | none=>
  rw[eZ] at h;show _=none;rw[eZ];intro y hy;obtain ⟨x,hx,rfl⟩:=eL.1 (hp.mem_iff.1 hy);rw[hk];exact h x hx
 | some x=>
  have hx:=cX h;have Nr:ka x=k:=by have:=gK h;simpa using this
  show _=some (g x)
  cases h2:l'.find? (λy=>decide (kb y=k)) with
  | none=>
   rw[eZ] at h2;have:=h2 (g x) (hp.mem_iff.2 (gO hx));rw[hk,Nr] at this;simp at this
  | some y=>
   have hy:=cX h2;have hyk:kb y=k:=by have:=gK h2;simpa using this
   obtain ⟨z,hz,rfl⟩:=eL.1 (hp.mem_iff.1 hy);rw[hk] at hyk;rw[DL hn hz hx (hyk.trans Nr.symm)]
theorem HF {α O:Type} (p:α->Bool) (g:α->O) (e:O):∀ (xs:List α) (i:Nat),bq (λ_ (_:Unit) x=>if p x then .inl (g x) else .inr ()) (λ_=>e) i xs ()=match xs.find? p with | some x=>g x | none=>e
 | [],_=>rfl
 | x::xs,i=>by
  simp only[bq,iG]
  cases h:p x with
  | true=>simp only[aJ]
  | false=>simp only[aF,aS];exact HF p g e xs (i+1)
abbrev aa2:a7:=((0:Int),(0:Int),((0:Int),(0:Int),(0:Int),(0:Int),CZ,()),())
abbrev aa3:Seen:=(CZ,(0:Int),(0:Int),false,(0:Int),(0:Int),())
def vy (ps:bv) (t k:Int):Option a7:=(jJ ps).find? (λx=>decide (rk (gy x)=(t,k)))
def VE (l:List Seen) (t k:Int):Option Seen:=l.find? (λy=>decide (rk y.1=(t,k)))
theorem XZ (r:Row) (t k:Int):decide (rk r=(t,k))=(decide (r.1=t)&&decide (r.2.1=k)):=by
 unfold rk;by_cases h1:r.1=t <;> by_cases h2:r.2.1=k <;> simp[h1,h2]
theorem Sa (ps:bv) (h:lA ps) (t k:Int):nm.ae (ps,t,k,())=some (match vy ps t k with | some x=>(x,true,()) | none=>(aa2,false,())):=by
 refine ah (k:=300) λq hq=>(nm.af q _).trans ?_;unfold nm.p;rw[D2 ps h];simp only[aA];have mF:=C6 h;unfold vy;generalize jJ ps=xs at mF ⊢
 have:=ci (B:=λself v=>nm.b0 self (λz=>nm.q0 (ps,t,k,()) xs z) (ps,t,k,()) xs v) xs (λ(_:Unit) (i:Int)=>i) (λ_ _ x=>if decide (rk (gy x)=(t,k)) then .inl (x,true,()) else .inr ()) (λ_=>((aa2,false,()):a7×Bool×Unit)) (λ_ _=>True) (by rw[au];omega)
  (λi hi s self _=>by
   show nm.b0 _ _ _ _ _=_;unfold nm.b0;have a_:(i:Int) < (xs.length:Int):=by omega
   have g:(0:Int)<=(i:Int)/\(i:Int) < (xs.length:Int):=by omega
   rw[bA a_,aO,aR g,XZ];simp only[aC,aB hi,aA,aR g];show (bif decide ((gy xs[i]).1=t) then (bif decide ((gy xs[i]).2.1=k) then _ else _) else _)=_
   cases decide ((gy xs[i]).1=t) <;> cases decide ((gy xs[i]).2.1=k) <;> rfl)
  (λ_ _ _ _ _ _=>trivial) (λs self _=>by
   show nm.b0 _ _ _ _ _=_;unfold nm.b0;rw[bC (aU _),aE]
   rfl) () trivial q Bys
 rw[HF] at this;refine this.trans (cN some ?_);cases List.find? (λx=>decide (rk (gy x)=(t,k))) xs <;> rfl
theorem Sb (l:List Seen) (hl:l.length<=1000) (t k:Int):qo.ae (l,t,k,())=some (match VE l t k with | some x=>(x,true,()) | none=>(aa3,false,())):=by
 refine ah (k:=1100) λq hq=>(qo.af q _).trans ?_;unfold VE
 have:=ci (B:=λself v=>qo.b0 self (λz=>qo.q0 (l,t,k,()) z) (l,t,k,()) v) l (λ(_:Unit) (i:Int)=>i) (λ_ _ x=>if decide (rk x.1=(t,k)) then .inl (x,true,()) else .inr ()) (λ_=>((aa3,false,()):Seen×Bool×Unit)) (λ_ _=>True) (by rw[au];omega)
  (λi hi s self _=>by
   show qo.b0 _ _ _ _=_;unfold qo.b0;have a_:(i:Int) < (l.length:Int):=by omega
   have g:(0:Int)<=(i:Int):=by omega
   rw[bA a_,aO,aR g,XZ];simp only[aC,aB hi,aA];show (bif decide (l[i].1.1=t) then (bif decide (l[i].1.2.1=k) then _ else _) else _)=_
   cases decide (l[i].1.1=t) <;> cases decide (l[i].1.2.1=k) <;> rfl)
  (λ_ _ _ _ _ _=>trivial) (λs self _=>by
   show qo.b0 _ _ _ _=_;unfold qo.b0;rw[bC (aU _),aE]
   rfl) () trivial q Bys
 rw[HF] at this;refine this.trans (cN some ?_);cases List.find? (λx:Seen=>decide (rk x.1=(t,k))) l <;> rfl
theorem X0 {ps:bv} (h:xi ps) (t k:Int):VE (vv ps) t k=(vy ps t k).map qA:=
 XY (g:=qA) (ka:=λx=>rk (gy x)) (kb:=λy=>rk y.1) (λ_=>rfl) (Ln h) h.keys (t,k)
theorem Z6 {ps:bv} {a b:Int} (h:(pB ps a b).2=true):br ps a.toNat b.toNat≠[]/\(lA ps->(pB ps a b)=en (br ps a.toNat b.toNat)):=by
 unfold pB at h ⊢
 cases hg:ps[a.toNat]? with
 | none=>rw[hg] at h;cases h
 | some p=>
  rw[hg] at h;simp only at h ⊢;split at h
  ·rename_i hc;have hp:il ps a.toNat=p:=by unfold il;rw[dZ,hg];rfl
   have e:br ps a.toNat b.toNat=jm p b.toNat:=by unfold br cellOf;rw[hp,aR hc.1]
   rw[e,aR hc];refine ⟨λh0=>?_,λ_=>rfl⟩
   rw[h0] at h;exact absurd h (by decide)
  ·cases h
theorem J0 {ps:bv} (h:xi ps) {x:a7} (hx:x ∈ jJ ps):∃ P s:Nat,x.1=(P:Int)/\x.2.1=(s:Int)/\br ps P s≠[]/\(fl x=1->∃ Q t:Nat,pE x=(Q:Int)/\pF x=(t:Int)/\br ps Q t≠[]/\(en (br ps Q t)).1.2.1=2)/\(en (br ps P s)).1.2.1=fl x:=by
 unfold jJ at hx;obtain ⟨y,hy,uR⟩:=dI.1 hx;obtain ⟨n1,n2⟩:=xM hy;have dp:=bH.1 h.aa1 y hy;obtain ⟨P,p,s,h1,h2,h3,h4⟩:=ye.1 hy;unfold sY at uR;split at uR
 ·cases uR
 ·have xE:=bV.1 uR
  have hP:P < ps.length:=by
   rcases cG P ps.length with g | g
   ·exact g
   ·rw[gA g] at h1;cases h1
  have hp:il ps P=p:=by unfold il;rw[dZ,h1];rfl
  have hpo:=pw h.right hP;rw[hp] at hpo
  have hc:br ps P s≠[]:=by
   unfold br;rw[hp];exact λh0=>h3 ((qY hpo h2).1 h0)
  have e1:x.1=y.1/\x.2.1=y.2.1/\fl x=fl y/\pE x=pE y/\pF x=pF y:=by
   rw[xE];unfold xh;split <;> exact ⟨rfl,rfl,rfl,rfl,rfl⟩
  have e2:y.1=(P:Int)/\y.2.1=(s:Int):=by rw[h4];exact ⟨rfl,rfl⟩
  have e3:br ps P s=jm p s:=by unfold br cellOf;rw[hp,aR h2]
  refine ⟨P,s,by rw[e1.1,e2.1],by rw[e1.2.1,e2.2],hc,λhf=>?_,by rw[e1.2.2.1,e3,h4];rfl⟩
  rw[e1.2.2.1] at hf;unfold qF at dp;rw[bA hf,aN,dP,aD] at dp;obtain ⟨c1,c2⟩:=Z6 dp.1;refine ⟨(pE y).toNat,(pF y).toNat,by rw[e1.2.2.2.1];omega,by rw[e1.2.2.2.2];omega,c1,?_⟩
  rw[<-c2 h.right]
  simpa using dp.2
theorem HG {ps:bv} (h:xi ps) (t k:Int):(match vy ps t k with
  | some x=>lz (dg ps) (t,k)=true/\(dg ps)[pos (dg ps) (t,k)]?=some (gy x)/\x ∈ jJ ps/\rk (gy x)=(t,k)
  | none=>lz (dg ps) (t,k)=false):=by
 have rP:∀ r,r ∈ dg ps↔∃ x ∈ jJ ps,gy x=r:=λr=>by
  rw[Ai h,(BQ _).mem_iff,eL]
 cases hf:vy ps t k with
 | none=>
  simp only;unfold vy at hf;rw[eZ] at hf
  cases hb:lz (dg ps) (t,k) with
  | false=>rfl
  | true=>
   obtain ⟨y,hy,hyk⟩:=Im hb;obtain ⟨x,hx,rfl⟩:=(rP y).1 hy;have:=hf x hx;rw[hyk] at this;simp at this
 | some x=>
  simp only;unfold vy at hf;have hx:=cX hf;have Nr:rk (gy x)=(t,k):=by have:=gK hf;simpa using this
  have hb:lz (dg ps) (t,k)=true:=by
   cases hb:lz (dg ps) (t,k) with
   | true=>rfl
   | false=>
    exfalso;have hm:=(rP (gy x)).2 ⟨x,hx,rfl⟩;obtain ⟨i,hi,he⟩:=eI hm;have hu:=vw h
    have hnb:¬ i < pos (dg ps) (t,k):=λa_=>by
     have:=C3 (dg ps) (t,k) i hi a_;rw[he,Nr,mQ] at this;cases this
    have ji:pos (dg ps) (t,k) < (dg ps).length:=by omega
    unfold lz at hb;rw[aB ji] at hb;simp only[fR] at hb;by_cases CK:pos (dg ps) (t,k)=i
    ·refine hb ?_;have:(dg ps)[pos (dg ps) (t,k)]=(dg ps)[i]:=by congr
     rw[this,he,Nr]
    ·have h1:=wK (dg ps) (t,k) (pos (dg ps) (t,k)) ji hu (aH _);have h2:=cW.1 hu (pos (dg ps) (t,k)) i ji hi Bys;rw[he,Nr] at h2;rw[h2] at h1;cases h1
  refine ⟨hb,?_,hx,Nr⟩
  obtain ⟨hp,hk⟩:=zp hb;rw[aB hp];congr 1;obtain ⟨y,hy,he⟩:=(rP _).1 (aP hp);have:y=x:=DL h.keys hy hx (by show rk (gy y)=rk (gy x);rw[he,hk,Nr]);rw[<-he,this]
end OT
