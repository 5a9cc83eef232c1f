/- The proof's parts, merged: Records applied to pages  the program and the reference alike  and the law of RedoAll.. No conditions but those that each states. -/
import Derived.Test.YtghckfpmmofmnaaGreatTf
set_option linter.unusedVariables false
set_option linter.unusedSimpArgs false
namespace OT
open Go
def Rx (p:List UInt8) (r:cd):List UInt8:=oo p r.1.toNat (min (List.length r.2.1) (p.length - r.1.toNat)) r.2.1
def Iq (p:List UInt8) (rs:List cd):List UInt8:=rs.foldl Rx p
theorem G7 {p:List UInt8} {r:cd} (h:r.1.toNat<=p.length):(Rx p r).length=p.length:=rr _ _ (by omega) (by omega)
theorem Ir:∀ (rs:List cd) (p:List UInt8),p.length=64->(∀ r ∈ rs,0<=r.1/\r.1<=63)->(Iq p rs).length=64
 | [],p,h,_=>h
 | r::rs,p,h,hr=>by
  have:=hr r (by simp);exact Ir rs _ (by rw[G7 (by omega)];exact h) (λx hx=>hr x (by simp[hx]))
theorem Jv (p:List UInt8) (rs:List cd) (hp:p.length=64) (hl:rs.length<=64) (hr:∀ r ∈ rs,0<=r.1/\r.1<=63):kV.ab (p,rs,())=some (Iq p rs,()):=by
 refine ag (k:=66) λk hk=>(kV.ae k _).trans ?_;unfold kV.p;rw[mA _ (by show p.length<=_;omega)]
 have:=da (B:=λself v=>kV.b0 self (λz=>kV.q0 (p,rs,()) z) (p,rs,()) v) rs (λ(s:List UInt8) (i:Int)=>(s,i)) (λ_ s r=>.inr (Rx s r)) (λs=>(s,())) (λ_ s=>s.length=64) (by rw[au];omega)
  (λi hi s self hI=>by
   show kV.b0 _ _ _ _=_;unfold kV.b0;have ax:(i:Int) < (rs.length:Int):=by omega
   have hx:=hr rs[i] (aU hi);have i7:(0:Int)<=(rs[i]).1/\(rs[i]).1<=(s.length:Int):=by omega
   simp only[ax,aG,aH,aK,aI,aC,aB hi,aA,i7,bR]
   rfl)
  (λi hi s s' hI hs=>by
   injection hs with hs;have hx:=hr rs[i] (aU hi)
   rw[<-hs,G7 (by omega)];exact hI) (λs self hI=>by
   show kV.b0 _ _ _ _=_;unfold kV.b0;simp only[aX,aE,aD]
   rfl) p hp k (by omega)
 rw[ig] at this;exact this
theorem Jw (p:List UInt8) (rs:List cd) (hp:p.length=64) (hl:rs.length<=64) (hr:∀ r ∈ rs,0<=r.1/\r.1<=63):kS.ab (p,rs,())=some (Iq p rs,()):=by
 refine ag (k:=66) λk hk=>(kS.ae k _).trans ?_;unfold kS.p;rw[mI _ (by show p.length<=_;omega)]
 have:=da (B:=λself v=>kS.b0 self (λz=>kS.q0 (p,rs,()) z) (p,rs,()) v) rs (λ(s:List UInt8) (i:Int)=>(s,i)) (λ_ s r=>.inr (Rx s r)) (λs=>(s,())) (λ_ s=>s.length=64) (by rw[au];omega)
  (λi hi s self hI=>by
   show kS.b0 _ _ _ _=_;unfold kS.b0;have ax:(i:Int) < (rs.length:Int):=by omega
   have hx:=hr rs[i] (aU hi);have i7:(0:Int)<=(rs[i]).1/\(rs[i]).1<=(s.length:Int):=by omega
   simp only[ax,aG,aH,aK,aI,aC,aB hi,aA,i7,bR]
   rfl)
  (λi hi s s' hI hs=>by
   injection hs with hs;have hx:=hr rs[i] (aU hi)
   rw[<-hs,G7 (by omega)];exact hI) (λs self hI=>by
   show kS.b0 _ _ _ _=_;unfold kS.b0;simp only[aX,aE,aD]
   rfl) p hp k (by omega)
 rw[ig] at this;exact this
theorem VG (ps:l6) (h:ps.length<=12):ma.ab (ps,())=some (ps,()):=by
 refine ag (k:=0) λk _=>(ma.ae k _).trans ?_;show ma.p _=_;unfold ma.p;refine Cf (λe=>by rw[show ps=[] from e]) ?_;have:([]:List (List UInt8)).length+ps.length<=cg:=dn (by simp only[bC];omega);rw[aM this,bO]
def G8 (q:l6) (r:bm):l6:=q.set r.2.2.1.toNat (Iq (q.getD r.2.2.1.toNat []) r.2.2.2.1)
def pJ (ps:l6) (r:bm):Sum Int l6:=
 if tY r=0 then (if gu r.1 2 4 then (if (ps.length:Int) < r.2.2.1 then .inl 1 else .inr (G8 (if r.2.2.1=(ps.length:Int) then ps++[u9] else ps) r)) else .inr ps) else .inl (tY r)
theorem EI {ps:l6} {r:bm} {c:Int} (h:pJ ps r=.inl c):c≠0:=by
 unfold pJ at h;split at h
 ·split at h
  ·split at h
   ·injection h with h;subst h;decide
   ·cases h
  ·cases h
 ·rename_i hr;injection h with h;subst h;exact hr
theorem Kc {q:l6} {r:bm} (hq:gp q) (hr:tY r=0) (hp:r.2.2.1.toNat < q.length):gp (G8 q r):=by
 have hg:=wA hr;refine ⟨by simp[G8];exact hq.1,λp hm=>?_⟩
 rcases eR hm with h | h
 ·exact hq.2 p h
 ·subst h;have hx:q.getD r.2.2.1.toNat []=q[r.2.2.1.toNat]:=by simp[hp]
  rw[hx];exact Ir _ _ (hq.2 _ (aU hp)) (λx hx=>by have:=hg.2.2.2.2.2.2.2 x hx;omega)
theorem Dj {ps un:l6} {r:bm} (hp:gp ps) (h:pJ ps r=.inr un):gp un:=by
 unfold pJ at h;split at h
 ·rename_i hr;have hg:=wA hr;split at h
  ·split at h
   ·cases h
   ·rename_i hl;injection h with h;subst h;split
    ·rename_i he;refine Kc ⟨by simp;omega,λp hm=>?_⟩ hr (by simp;omega);rcases bU.1 hm with hm | hm
     ·exact hp.2 p hm
     ·simp only[bJ] at hm;subst hm;exact xU
    ·rename_i he;exact Kc hp hr (by omega)
  ·injection h with h;subst h;exact hp
 ·cases h
theorem Is (ps:l6) (r:bm) (hp:gp ps) (hr:tY r=0):oc.ab (ps,r,())=some (match pJ ps r with | .inl c=>(([]:l6),c,()) | .inr un=>(un,(0:Int),())):=by
 refine ag (k:=0) λk _=>(oc.ae k _).trans ?_;show oc.p _=_;have hg:=wA hr;unfold oc.p pJ;simp only[MO,hr,aI,aA]
 cases ht:gu r.1 2 4 with
 | false=>rfl
 | true=>
  simp only[aN,aD,aI];by_cases hl:(ps.length:Int) < r.2.2.1
  ·simp only[hl,aG,aH,aI]
  have xI:¬ r.2.2.1=12:=by omega
  simp only[hl,xI,aE,aD,aO,VG ps hp.1,aA]
  have key:∀ q:l6,gp q->r.2.2.1.toNat < q.length->(if 0<=r.2.2.1/\r.2.2.1 < (q.length:Int) then ((q[r.2.2.1.toNat]?).bind λZQ=>(kV.ab (ZQ,r.2.2.2.1,())).bind λwz=>if 0<=r.2.2.1/\r.2.2.1 < (q.length:Int) then ((q[r.2.2.1.toNat]?).bind λx13=>some (q.set r.2.2.1.toNat wz.1,(0:Int),())) else none) else none:Option oc.Out)=some (G8 q r,(0:Int),()):=λq hq ax=>by
   have hc:0<=r.2.2.1/\r.2.2.1 < (q.length:Int):=by omega
   simp only[hc,bR,aI,aB ax,aA];rw[Jv _ _ (hq.2 _ (aU ax)) hg.2.2.2.2.2.2.1 (λx hx=>by have:=hg.2.2.2.2.2.2.2 x hx;omega)];have hx:q.getD r.2.2.1.toNat []=q[r.2.2.1.toNat]:=by simp[ax]
   unfold G8;rw[hx];rfl
  by_cases he:r.2.2.1=(ps.length:Int)
  ·have Ey:ps.length+[u9].length<=cg:=dn (by have:=hp.1;simp only[aW,bC];omega);rw[aM he];simp only[he,aG,aH,Dh,aA,Ey,aI];rw[<-he];refine key _ ⟨by simp;omega,λp hm=>?_⟩ (by simp;omega);rcases bU.1 hm with hm | hm
   ·exact hp.2 p hm
   ·simp only[bJ] at hm;subst hm;exact xU
  ·rw[aP he];simp only[he,aE,aD];exact key ps hp (by omega)
theorem Ox (c:Int):fe.ab (c,())=some ((c,([]:List cd),([]:List (List UInt8)),()),()):=by
 refine ag (k:=0) λk _=>(fe.ae k _).trans ?_;rfl
theorem KV (ps:l6) (r:bm) (hp:gp ps):fm.ab (ps,r,())=some (match pJ ps r with | .inl c=>((c,([]:List cd),([]:l6),()),()) | .inr un=>(((0:Int),([]:List cd),un,()),())):=by
 refine ag (k:=14) λk hk=>(fm.ae k _).trans ?_;unfold fm.p;have xI:¬ (12:Int) < (ps.length:Int):=by have:=hp.1;omega
 simp only[xI,aE,aD]
 have main:fm.q0 (ps,r,()) ()=some (match pJ ps r with | .inl c=>((c,([]:List cd),([]:l6),()),()) | .inr un=>(((0:Int),([]:List cd),un,()),())):=by
  show fm.q0 _ _=_;unfold fm.q0 pJ;simp only[In,Ox,v_ ps hp,EH,aA];by_cases hr:tY r=0;rotate_left
  ·simp only[hr,aE,bA,aH,aO]
  have hg:=wA hr;simp only[hr,aG,aN,aD,aI]
  cases ht:gu r.1 2 4 with
  | false=>rfl
  | true=>
   simp only[aN,aD,aI];by_cases hl:(ps.length:Int) < r.2.2.1
   ·simp only[hl,aG,aH,aI]
   have xI:¬ r.2.2.1=12:=by omega
   simp only[hl,xI,aE,aD,aO]
   have key:∀ q:l6,gp q->r.2.2.1.toNat < q.length->(if 0<=r.2.2.1/\r.2.2.1 < (q.length:Int) then ((q[r.2.2.1.toNat]?).bind λJo=>(q[r.2.2.1.toNat]?).bind λMG=>(kS.ab (MG,r.2.2.2.1,())).bind λVo=>if 0<=r.2.2.1/\r.2.2.1 < (q.length:Int) then ((q[r.2.2.1.toNat]?).bind λabK=>some (((0:Int),([]:List cd),q.set r.2.2.1.toNat Vo.1,()),())) else none) else none:Option fm.Out)=some (((0:Int),([]:List cd),G8 q r,()),()):=λq hq ax=>by
    have hc:0<=r.2.2.1/\r.2.2.1 < (q.length:Int):=by omega
    simp only[hc,bR,aI,aB ax,aA];rw[Jw _ _ (hq.2 _ (aU ax)) hg.2.2.2.2.2.2.1 (λx hx=>by have:=hg.2.2.2.2.2.2.2 x hx;omega)];have hx:q.getD r.2.2.1.toNat []=q[r.2.2.1.toNat]:=by simp[ax]
    unfold G8;rw[hx];rfl
   by_cases he:r.2.2.1=(ps.length:Int)
   ·have Ey:ps.length+[u9].length<=cg:=dn (by have:=hp.1;simp only[aW,bC];omega);rw[aM he];simp only[he,aG,aH,Di,aA,Ey,aI];rw[<-he];refine key _ ⟨by simp;omega,λp hm=>?_⟩ (by simp;omega);rcases bU.1 hm with hm | hm
    ·exact hp.2 p hm
    ·simp only[bJ] at hm;subst hm;exact xU
   ·rw[aP he];simp only[he,aE,aD];exact key ps hp (by omega)
 have:=da (B:=λself v=>fm.b0 self (λz=>fm.q0 (ps,r,()) z) (ps,r,()) v) ps (λ(s:Unit) (i:Int)=>i) (λ_ s x=>.inr s) (λs=>(match pJ ps r with | .inl c=>((c,([]:List cd),([]:l6),()),()) | .inr un=>(((0:Int),([]:List cd),un,()),()))) (λi s=>True) (by have:=hp.1;rw[au];omega)
  (λi hi s self hI=>by
   show fm.b0 _ _ _ _=_;unfold fm.b0;have ax:(i:Int) < (ps.length:Int):=by omega
   have hx:((ps[i].length:Nat):Int)=64:=by have:=hp.2 ps[i] (aU hi);omega
   simp only[ax,aG,aH,aK,aI,aC,aB hi,aA,hx,aN,aD])
  (λ_ _ _ _ _ _=>trivial) (λs self hI=>by
   show fm.b0 _ _ _ _=_;unfold fm.b0;simp only[aX,aE,aD]
   exact main) () trivial k (by have:=hp.1;omega)
 rw[ig (g:=λs _=>s)] at this;exact this
def wa (xs:List bm):l6×Int×Unit:=b_ (λ_ ps r=>match pJ ps r with | .inl c=>.inl (([]:l6),c,()) | .inr un=>.inr un) (λps=>(ps,(0:Int),())) 0 xs []
theorem It (xs:List bm):(wa xs).2.1=0->gp (wa xs).1:=by
 have main:∀ (xs:List bm) (i:Nat) (ps:l6),gp ps->(b_ (λ_ ps r=>match pJ ps r with | .inl c=>.inl (([]:l6),c,()) | .inr un=>.inr un) (λps=>(ps,(0:Int),())) i xs ps).2.1=0->gp (b_ (λ_ ps r=>match pJ ps r with | .inl c=>.inl (([]:l6),c,()) | .inr un=>.inr un) (λps=>(ps,(0:Int),())) i xs ps).1:=by
  intro xs
  induction xs with
  | nil=>intro i ps h _;exact h
  | cons x xs ih=>
   intro i ps h;simp only[b_]
   cases hs:pJ ps x with
   | inl c=>intro h0;exact absurd h0 (EI hs)
   | inr un=>exact ih _ _ (Dj h hs)
 exact main xs 0 [] ⟨by simp,λ_ h=>by cases h⟩
theorem Oy (xs:List bm) (hx:xs.length<=maxLen):mt.ab (xs,())=some (wa xs):=by
 refine ag (k:=xs.length+1) λk hk=>(mt.ae k _).trans ?_
 exact da (B:=λself v=>mt.b0 self (λz=>mt.q0 (xs,()) z) (xs,()) v) xs (λ(s:l6) (i:Int)=>(s,i)) (λ_ ps r=>match pJ ps r with | .inl c=>.inl (([]:l6),c,()) | .inr un=>.inr un) (λps=>(ps,(0:Int),())) (λ_ s=>gp s) hx
  (λi hi s self hI=>by
   show mt.b0 _ _ _ _=_;unfold mt.b0;have ax:(i:Int) < (xs.length:Int):=by omega
   simp only[ax,aG,aH,aK,aI,aC,aB hi,aA,KV s _ hI]
   cases hs:pJ s xs[i] with
   | inl c=>
    have:=EI hs;simp only[this,aE,bA,aH]
   | inr un=>simp only[aG,aN,aD])
  (λi hi s s' hI hs=>by
   cases h:pJ s xs[i] with
   | inl c=>rw[h] at hs;cases hs
   | inr un=>rw[h] at hs;injection hs with hs;subst hs;exact Dj hI h) (λs self hI=>by
   show mt.b0 _ _ _ _=_;unfold mt.b0;simp only[aX,aE,aD]
   rfl) [] ⟨by simp,λ_ h=>by cases h⟩ k (by omega)
theorem Oz (xs:List bm) (hx:xs.length<=maxLen):py.ab (xs,())=some (wa xs):=by
 refine ag (k:=xs.length+1) λk hk=>(py.ae k _).trans ?_
 exact da (B:=λself v=>py.b0 self (λz=>py.q0 (xs,()) z) (xs,()) v) xs (λ(s:l6) (i:Int)=>(s,i)) (λ_ ps r=>match pJ ps r with | .inl c=>.inl (([]:l6),c,()) | .inr un=>.inr un) (λps=>(ps,(0:Int),())) (λ_ s=>gp s) hx
  (λi hi s self hI=>by
   show py.b0 _ _ _ _=_;unfold py.b0;have ax:(i:Int) < (xs.length:Int):=by omega
   simp only[ax,aG,aH,aK,aI,aC,aB hi,aA,Ip];by_cases hr:tY xs[i]=0
   ·simp only[hr,aG,aN,aD,Is s _ hI hr,aA]
    cases hs:pJ s xs[i] with
    | inl c=>
     have:=EI hs;simp only[this,aE,bA,aH]
    | inr un=>simp only[aG,aN,aD]
   ·have hs:pJ s xs[i]=.inl (tY xs[i]):=by unfold pJ;rw[aP hr]
    simp only[hr,aE,bA,aH,hs])
  (λi hi s s' hI hs=>by
   cases h:pJ s xs[i] with
   | inl c=>rw[h] at hs;cases hs
   | inr un=>rw[h] at hs;injection hs with hs;subst hs;exact Dj hI h) (λs self hI=>by
   show py.b0 _ _ _ _=_;unfold py.b0;simp only[aX,aE,aD]
   rfl) [] ⟨by simp,λ_ h=>by cases h⟩ k (by omega)
theorem VH (ps:l6) (h:gp ps):zz (.aa (.aa u8)) ps<=12*65:=by
 obtain ⟨h1,h2⟩:=h
 have main:∀ ps:l6,(∀ p ∈ ps,p.length=64)->zz (.aa (.aa u8)) ps=65*ps.length:=by
  intro ps
  induction ps with
  | nil=>intro _;rfl
  | cons p ps ih=>
   intro h;have h3:zz (.aa (.aa u8)) (p::ps)=zz (.aa u8) p+1+zz (.aa (.aa u8)) ps:=X0 (e:=.aa u8) p ps;have h4:zz (.aa u8) p=p.length+mm (zz u8) p:=rfl;have h5:mm (zz u8) p=0:=yE _ (λ_=>rfl) p;have h6:=ih λq hq=>h q (by simp[hq]);have h7:=h p (by simp);rw[h3,h4,h5,h6,h7,aW];omega
 rw[main ps h2];omega
end OT
set_option linter.unusedSectionVars false
namespace OT
open Go
theorem Ga {V R:Type} {B:(V->Option R)->V->Option R} (f:V->Option R) (I:V->Prop) (μ:V->Nat)
  (h:∀ v,I v->∀ self,B self v=f v\/∃ v',B self v=self v'/\f v'=f v/\I v'/\μ v' < μ v):∀ (k:Nat) (v:V),I v->μ v < k->al B k v=f v
 | 0,v,_,hk=>by omega
 | k+1,v,hI,hk=>by
  show B (al B k) v=f v
  rcases h v hI (al B k) with h1 | ⟨v',h1,h2,h3,h4⟩
  ·exact h1
  ·rw[h1,Ga f I μ h k v' h3 (by omega),h2]
def BQ (out:List cd) (y:UInt8):List cd:=match out[out.length - 1]? with
 | some r=>out.set (out.length - 1) (r.1,r.2.1++[y],())
 | none=>out
theorem MP (out:List cd) (j:Int) (bs:List UInt8) (y:UInt8):BQ (out++[(j,bs,())]) y=out++[(j,bs++[y],())]:=by
 unfold BQ;have h1:(out++[(j,bs,())]).length - 1=out.length:=by simp
 rw[h1,fO (aL _),Nat.sub_self];simp
def zf:Nat->List (UInt8×UInt8)->List cd->Bool->List cd
 | _,[],out,_=>out
 | i,(x,y)::l,out,op=>if x=y then zf (i+1) l out false else zf (i+1) l (BQ (if op then out else out++[((i:Int),([]:List UInt8),())]) y) true
def Dk (a b:List UInt8):List cd:=zf 0 (a.zip b) [] false
theorem G9 (out:List cd) (y:UInt8):(BQ out y).length=out.length:=by
 unfold BQ;split <;> simp
theorem MQ {out:List cd} {y:UInt8} {n:Nat} (h:∀ r ∈ out,List.length r.2.1<=n):∀ r ∈ BQ out y,List.length r.2.1<=n+1:=λr hr=>by
 unfold BQ at hr;split at hr
 ·rename_i r0 h0;rcases eR hr with h1 | h1
  ·have:=h r h1;omega
  ·subst h1;have:=h r0 (cD h0);simp only[bE,aW,bC];omega
 ·have:=h r hr;omega
theorem EJ:∀ (l:List (UInt8×UInt8)) (i:Nat) (out:List cd) (op:Bool),out.length<=i->(∀ r ∈ out,List.length r.2.1<=i)->(zf i l out op).length<=i+l.length/\∀ r ∈ zf i l out op,List.length r.2.1<=i+l.length
 | [],i,out,op,h1,h2=>⟨h1,h2⟩
 | (x,y)::l,i,out,op,h1,h2=>by
  simp only[zf];have e:i+((x,y)::l).length=i+1+l.length:=by simp only[aW];omega
  rw[e];split
  ·exact EJ l (i+1) out false (by omega) λr hr=>by have:=h2 r hr;omega
  ·refine EJ l (i+1) _ true ?_ ?_
   ·rw[G9];split
    ·omega
    ·simp only[bE,aW,bC];omega
   ·refine MQ λr hr=>?_;split at hr
    ·exact h2 r hr
    ·rcases bU.1 hr with h | h
     ·exact h2 r h
     ·rw[bJ] at h;subst h;exact bD _
theorem OA {a b:List UInt8} (h:a.length=64):(Dk a b).length<=64/\∀ r ∈ Dk a b,List.length r.2.1<=64:=by
 have:=EJ (a.zip b) 0 [] false (aL _) (λr hr=>by cases hr);have hl:(a.zip b).length<=64:=by rw[fG];omega
 exact ⟨by have:=this.1;unfold Dk;omega,λr hr=>by have:=this.2 r hr;omega⟩
def runN:List (UInt8×UInt8)->Nat
 | []=>0
 | (x,y)::l=>if x=y then 0 else runN l+1
theorem PO:∀ (l:List (UInt8×UInt8)) (i:Nat) (out:List cd) (j:Int) (bs:List UInt8),zf i l (out++[(j,bs,())]) true=zf (i+runN l+1) (l.drop (runN l+1)) (out++[(j,bs++(l.take (runN l)).map (·.2),())]) false
 | [],i,out,j,bs=>by simp[zf,runN]
 | (x,y)::l,i,out,j,bs=>by
  simp only[zf,runN];by_cases h:x=y
  ·simp[h]
  ·simp only[h,aO,aI];rw[MP,PO l (i+1) out j (bs++[y])];have e:i+1+runN l+1=i+(runN l+1)+1:=by omega
   simp[e]
theorem MR {x y:UInt8}:((x.toNat:Int)=(y.toNat:Int))↔x=y:=by
 constructor
 ·intro h;exact fY.1 (by omega)
 ·rintro rfl;rfl
theorem u_ {a b:List UInt8} {i:Nat} (ha:i < a.length) (hb:i < b.length):(a.zip b).drop i=(a[i],b[i])::(a.zip b).drop (i+1):=by
 have h:i < (a.zip b).length:=by rw[fG];omega
 rw[bX h,List.getElem_zip]
section
variable {a b:List UInt8} (ha:a.length=64) (hb:b.length=64)
include ha hb
theorem Gb:oT.ab (a,b,())=some (Dk a b,()):=by
 refine ag (k:=100) λk hk=>(oT.ae k _).trans ?_
 have:=sn (B:=λself v=>oT.b0 self (oT.q0 (a,b,())) (a,b,()) v) (λv=>(zf v.2.2.toNat ((a.zip b).drop v.2.2.toNat) v.1 v.2.1,()))
  (λv=>0<=v.2.2/\v.2.2<=64/\List.length v.1<=v.2.2.toNat/\(v.2.1=true->v.1≠[])/\∀ r ∈ v.1,List.length r.2.1<=v.2.2.toNat) (λv=>64 - v.2.2.toNat) (λv hv self=>by
   obtain ⟨out,op,n⟩:=v;obtain ⟨h0,h1,h2,h3,h4⟩:=hv;simp only at h0 h1 h2 h3 h4
   obtain ⟨i,rfl⟩:∃ i:Nat,n=(i:Int):=⟨n.toNat,by omega⟩
   simp only[aC] at h2 h4;unfold oT.b0;by_cases hi:i=64
   ·left;subst hi;have:¬ ((64:Nat):Int) < (a.length:Int):=by omega
    simp only[this,aE,aD,aC];rw[dX (by rw[fG];omega)];rfl
   ·right;have Iu:i < a.length:=by omega
    have Gc:i < b.length:=by omega
    have ax:(i:Int) < (a.length:Int):=by omega
    have hw:af ((i:Int)+1)=((i+1:Nat):Int):=by rw[a7 (by omega)];omega
    simp only[ax,aG,aH,aK,aI,aC,aB Iu,aB Gc,aA,hw,MR];by_cases he:a[i]=b[i]
    ·refine ⟨(out,false,((i+1:Nat):Int)),by simp only[he,aG,aH],?_,⟨aK _,by simp only;omega,by simp only[aC];omega,(λe=>by cases e),λr hr=>by have:=h4 r hr;simp only[aC];omega⟩,by simp only[aC];omega⟩
     simp only[aC];rw[u_ Iu Gc];simp only[zf,he,aI]
    ·have key:∀ (q:List cd),q≠[]->q.length<=i+1->(∀ r ∈ q,List.length r.2.1<=i)->(if 0<=af ((q.length:Int) - (1:Int))/\af ((q.length:Int) - (1:Int)) < (q.length:Int) then (q[(af ((q.length:Int) - (1:Int))).toNat]?).bind λAA=>(q[(af ((q.length:Int) - (1:Int))).toNat]?).bind λAB=>(q[(af ((q.length:Int) - (1:Int))).toNat]?).bind λJp=>if AB.2.1.length+[b[i]].length<=cg then ((q.set (af ((q.length:Int) - (1:Int))).toNat Jp)[(af ((q.length:Int) - (1:Int))).toNat]?).bind λu0=>self ((q.set (af ((q.length:Int) - (1:Int))).toNat Jp).set (af ((q.length:Int) - (1:Int))).toNat (u0.1,AB.2.1++[b[i]],u0.2.2),true,((i+1:Nat):Int)) else none else none)=self (BQ q b[i],true,((i+1:Nat):Int)):=λq hq hl hr=>by
      have GQ:0 < q.length:=List.length_pos_iff.2 hq;have w8:af ((q.length:Int) - 1)=((q.length - 1:Nat):Int):=by rw[a7 (by omega)];omega
      have VI:q.length - 1 < q.length:=by omega
      rw[w8,aM ⟨aK _,by omega⟩];simp only[aC,aB VI,aA,aI];have wM:=hr _ (aU VI);rw[aM (dn (by simp only[aW,bC];omega))];unfold BQ;simp only[aB VI,List.set_getElem_self,aA]
     simp only[he,aE,aD];have hlen:out.length+[((i:Int),([]:List UInt8),())].length<=cg:=dn (by simp only[aW,bC];omega);refine ⟨(BQ (if op then out else out++[((i:Int),([]:List UInt8),())]) b[i],true,((i+1:Nat):Int)),?_,?_,⟨aK _,by simp only;omega,?_,λ_ hn=>?_,?_⟩,by simp only[aC];omega⟩
     ·cases op with
      | true=>
       simp only[aN,aD,aI];exact key out (h3 rfl) (by omega) h4
      | false=>
       simp only[bA,aH,aJ,aO];rw[aM hlen];refine key _ (by simp) (by simp only[bE,aW,bC];omega) λr hr=>?_;rcases bU.1 hr with h | h
       ·exact h4 r h
       ·rw[bJ] at h;subst h;exact bD _
     ·simp only[aC];rw[u_ Iu Gc];simp only[zf,he,aO]
     ·simp only[aC];rw[G9];split
      ·omega
      ·simp only[bE,aW,bC];omega
     ·have h5:=cP List.length hn;simp only at h5;rw[G9] at h5;split at h5
      ·rename_i ho;exact h3 ho (bS h5)
      ·simp at h5
     ·simp only[aC];refine MQ λr hr=>?_;split at hr
      ·exact h4 r hr
      ·rcases bU.1 hr with h | h
       ·exact h4 r h
       ·rw[bJ] at h;subst h;exact bD _) k (([]:List cd),false,(0:Int)) ⟨iE _,by simp only;omega,bD _,(λe=>by cases e),λr hr=>by cases hr⟩ (by simp only;omega)
 exact this
theorem OB:jn.ab (a,b,())=some (Dk a b,()):=by
 refine ag (k:=200) λk hk=>(jn.ae k _).trans ?_
 have:=sn (B:=λself v=>jn.B0 k self (jn.q1 (a,b,())) (a,b,()) v) (λv=>(zf v.2.2.2.toNat ((a.zip b).drop v.2.2.2.toNat) v.2.2.1 false,()))
  (λv=>v.1=a/\v.2.1=b/\0<=v.2.2.2/\v.2.2.2<=65/\List.length v.2.2.1<=v.2.2.2.toNat) (λv=>65 - v.2.2.2.toNat) (λv hv self=>by
   obtain ⟨a',b',out,n⟩:=v;obtain ⟨rfl,rfl,h0,h1,h2⟩:=hv;simp only at h0 h1 h2 ha hb
   obtain ⟨i,rfl⟩:∃ i:Nat,n=(i:Int):=⟨n.toNat,by omega⟩
   simp only[aC] at h2;show jn.b0 _ _ _ _ _=_\/∃ v',jn.b0 _ _ _ _ _=_/\_;unfold jn.b0;by_cases hi:64<=i
   ·left;have:¬ (i:Int) < (64:Int):=by omega
    simp only[this,aE,aD,aC];rw[dX (by rw[fG];omega)];rfl
   ·right;have Iu:i < a'.length:=by omega
    have Gc:i < b'.length:=by omega
    have ax:(i:Int) < (64:Int):=by omega
    have hw:af ((i:Int)+1)=((i+1:Nat):Int):=by rw[a7 (by omega)];omega
    simp only[ax,aG,aH,aK,aI,aC,aB Iu,aB Gc,aA,hw,MR];by_cases he:a'[i]=b'[i]
    ·refine ⟨(a',b',out,((i+1:Nat):Int)),by simp only[he,aG,aH],?_,⟨rfl,rfl,by simp only;omega,by simp only;omega,by simp only[aC];omega⟩,by simp only[aC];omega⟩
     simp only[aC];rw[u_ Iu Gc];simp only[zf,he,aI]
    ·simp only[he,aE,aD]
     obtain ⟨n,hn⟩:∃ n,n=runN ((a'.zip b').drop i):=⟨_,rfl⟩
     have hle:∀ l:List (UInt8×UInt8),runN l<=l.length:=λl=>by
      induction l with
      | nil=>exact aL _
      | cons p l ih=>obtain ⟨x,y⟩:=p;simp only[runN];split <;> simp only[aW] <;> omega
     have Vb:i+n<=64:=by
      have:=hle ((a'.zip b').drop i);rw[bQ,fG] at this;omega
     have i7:jn.r1 k self (jn.q1 (a',b',())) (a',b',()) a' b' out (i:Int) (i:Int)=jn.q0 self (jn.q1 (a',b',())) (a',b',()) a' b' out (i:Int) ((i+n:Nat):Int):=by
      have:=Ga (B:=λw v=>jn.b1 w (jn.q0 self (jn.q1 (a',b',())) (a',b',()) a' b' out (i:Int)) (a',b',()) a' b' out (i:Int) v) (λv=>jn.q0 self (jn.q1 (a',b',())) (a',b',()) a' b' out (i:Int) (v+(runN ((a'.zip b').drop v.toNat):Int)))
       (λv=>0<=v/\v<=64) (λv=>64 - v.toNat) (λv hv acf=>by
        obtain ⟨g0,g1⟩:=hv
        obtain ⟨j,rfl⟩:∃ j:Nat,v=(j:Int):=⟨v.toNat,by omega⟩
        unfold jn.b1;by_cases hj:j=64
        ·left;subst hj;have:¬ ((64:Nat):Int) < (64:Int):=by omega
         simp only[this,aE,aD,aC];rw[dX (by rw[fG];omega)];simp[runN]
        ·have Z2:j < a'.length:=by omega
         have Z3:j < b'.length:=by omega
         have ax:(j:Int) < (64:Int):=by omega
         have hw:af ((j:Int)+1)=((j+1:Nat):Int):=by rw[a7 (by omega)];omega
         simp only[ax,aG,aH,aK,aI,aC,aB Z2,aB Z3,aA,hw,MR];by_cases PB:a'[j]=b'[j]
         ·left;simp only[PB,aG,aN,aD];rw[u_ Z2 Z3];simp[runN,PB]
         ·right;refine ⟨((j+1:Nat):Int),by simp only[PB,aE,bA,aH],?_,⟨by omega,by omega⟩,by simp only[aC];omega⟩
          simp only[aC];rw[u_ Z2 Z3];simp only[runN,PB,aO];congr 1
          omega) k (i:Int) ⟨by omega,by omega⟩ (by simp only[aC];omega)
      refine this.trans ?_;simp only[aC,<- hn];congr 1
     have hn1:1<=n:=by
      rw[hn,u_ Iu Gc];simp[runN,he]
     refine ⟨(a',b',out++[((i:Int),(b'.take (i+n)).drop i,())],((i+n+1:Nat):Int)),?_,?_,⟨rfl,rfl,by simp only;omega,by simp only;omega,by simp only[aC,bE,aW,bC];omega⟩,by simp only[aC];omega⟩
     ·refine i7.trans ?_;unfold jn.q0;rw[aM ⟨by omega,by omega,by omega⟩];simp only[aC];rw[mA _ (by rw[bQ,dD];omega)];simp only[aA];rw[aM (dn (by simp only[aW,bC];omega)),a7 (by omega)];rfl
     ·simp only[aC];rw[u_ Iu Gc];simp only[zf,he,aO,aJ]
      have JY:n=runN ((a'.zip b').drop (i+1))+1:=by
       rw[hn,u_ Iu Gc];simp[runN,he]
      rw[MP,PO];have e1:i+1+runN ((a'.zip b').drop (i+1))+1=i+n+1:=by omega
      have e2:((a'.zip b').drop (i+1)).drop (runN ((a'.zip b').drop (i+1))+1)=(a'.zip b').drop (i+n+1):=by rw[cU];congr 1 <;> omega
      rw[e1,e2];congr 1;congr 1;congr 1;congr 1;congr 1
      have e3:(((a'.zip b').drop (i+1)).take (runN ((a'.zip b').drop (i+1)))).map (·.2)=((b'.drop (i+1)).take (n - 1)):=by
       have hz:(a'.zip b').map (·.2)=b':=List.map_snd_zip (by omega);rw[show runN ((a'.zip b').drop (i+1))=n - 1 by omega,List.map_take,List.map_drop,hz]
      rw[e3,eD,show i+n - i=(n - 1)+1 by omega,bX Gc,List.take_succ_cons]
      rfl) k (a,b,([]:List cd),(0:Int)) ⟨rfl,rfl,by simp only;omega,by simp only;omega,bD _⟩ (by simp only;omega)
 exact this
end
end OT
namespace OT
open Go
def xl (c:UInt8):Bool:=!decide ((c.toNat:Int) < 97)&&!decide ((122:Int) < (c.toNat:Int))
def zt (s:List UInt8):Bool:=s.all xl&&decide (s.length<=8)
def jY (x:Row):Int:=if gu x.1 0 3&&(gu x.2.1 1 99&&gu x.2.2.1 0 999) then (if zt x.2.2.2.1 then 0 else 5) else 3
theorem len8 (s:List UInt8):decide ((s.length:Int)<=8)=decide (s.length<=8):=by
 by_cases h:s.length<=8
 ·have:(s.length:Int)<=8:=by omega
  simp[h,this]
 ·have:¬ (s.length:Int)<=8:=by omega
  simp[h,this]
theorem OC (s:List UInt8) (h:s.length<=maxLen):lW.ab (s,())=some (zt s,()):=by
 refine ag (k:=s.length+1) λk hk=>(lW.ae k _).trans ?_
 have:=da (B:=λself v=>lW.b0 self (λz=>lW.q0 (s,()) z) (s,()) v) s (λ(_:Unit) (i:Int)=>i) (λ_ _ x=>if xl x then .inr () else .inl (false,())) (λ_=>(decide (s.length<=8),())) (λ_ _=>True) h
  (λi hi _ self _=>by
   show lW.b0 _ _ _ _=_;unfold lW.b0;have ax:(i:Int) < (s.length:Int):=by omega
   simp only[ax,aG,aH,aK,aI,aC,aB hi,aA];unfold xl
   by_cases h1:((s[i].toNat:Int) < 97) <;> by_cases h2:((122:Int) < (s[i].toNat:Int)) <;> simp[h1,h2]) (λ_ _ _ _ _ _=>trivial) (λ_ self _=>by
   show lW.b0 _ _ _ _=_;unfold lW.b0
   simp[lW.q0,lW.q0,len8]) () trivial k (by omega)
 refine this.trans ?_;rw[so xl (false,()) (λ_=>(decide (s.length<=8),()))];unfold zt;cases s.all xl <;> rfl
theorem zu (x:Row) (h:List.length x.2.2.2.1<=maxLen):jl.ab (x,())=some (jY x,()):=by
 refine ag (k:=0) λk _=>(jl.ae k _).trans ?_;show jl.p _=_;unfold jl.p jY gu;simp only[nX,OC _ h,aA];cases decide ((0:Int)<=x.1) <;> cases decide (x.1<=3) <;> cases decide ((1:Int)<=x.2.1) <;> cases decide (x.2.1<=99) <;> cases decide ((0:Int)<=x.2.2.1) <;> cases decide (x.2.2.1<=999) <;> cases zt x.2.2.2.1 <;> rfl
theorem zw (x:Row) (h:List.length x.2.2.2.1<=maxLen):ef.ab (x,())=some (jY x,()):=by
 refine ag (k:=List.length x.2.2.2.1+1) λk hk=>(ef.ae k _).trans ?_
 have:=da (B:=λself v=>ef.b0 self (λz=>ef.q0 (x,()) z) (x,()) v) x.2.2.2.1 (λ(_:Unit) (i:Int)=>i) (λ_ _ c=>if xl c then .inr () else .inl (5,())) (λ_=>(0,())) (λ_ _=>True) h
  (λi hi _ self _=>by
   show ef.b0 _ _ _ _=_;unfold ef.b0;have ax:(i:Int) < (List.length x.2.2.2.1:Int):=by omega
   simp only[ax,aG,aH,aK,aI,aC,aB hi,aA];unfold xl
   by_cases h1:(((x.2.2.2.1)[i].toNat:Int) < 97) <;> by_cases h2:((122:Int) < ((x.2.2.2.1)[i].toNat:Int)) <;> simp[h1,h2]) (λ_ _ _ _ _ _=>trivial) (λ_ self _=>by
   show ef.b0 _ _ _ _=_;unfold ef.b0
   simp[ef.q0,ef.q0]) () trivial k (by omega)
 rw[so xl (5,()) (λ_=>(0,()))] at this;have this:ef.r0 k (x,()) 0=_:=this;unfold ef.p jY gu zt;simp only[tJ,this,aA]
 have h8:decide ((8:Int) < (List.length x.2.2.2.1:Int))=!decide (List.length x.2.2.2.1<=8):=by
  by_cases hc:List.length x.2.2.2.1<=8
  ·have:¬ (8:Int) < (List.length x.2.2.2.1:Int):=by omega
   simp[hc,this]
  ·have:(8:Int) < (List.length x.2.2.2.1:Int):=by omega
   simp[hc,this]
 rw[h8];cases decide ((0:Int)<=x.1) <;> cases decide (x.1<=3) <;> cases decide ((1:Int)<=x.2.1) <;> cases decide (x.2.1<=99) <;> cases decide ((0:Int)<=x.2.2.1) <;> cases decide (x.2.2.1<=999) <;> cases decide (List.length x.2.2.2.1<=8) <;> cases (x.2.2.2.1).all xl <;> rfl
def rl (x:Row):Prop:=List.length x.2.2.2.1<=maxLen
def cl (c:Change):Prop:=rl c.2.1/\rl c.2.2.2.1
def sameKey (a b:Row):Bool:=decide (a.1=b.1)&&decide (a.2.1=b.2.1)
def gg (a b:Int×Int):Bool:=decide (a.1 < b.1)||(decide (a.1=b.1)&&decide (a.2 < b.2))
def oO (c:Change):Int:=if (!c.1&&!c.2.2.1)||(c.1&&c.2.2.1&&!sameKey c.2.1 c.2.2.2.1) then 1 else if c.1&&!decide (jY c.2.1=0) then jY c.2.1 else if c.2.2.1 then jY c.2.2.2.1 else 0
def AF (c:Change):Int:=if oO c=0 then (if c.1&&c.2.2.1&&Ty.eq bd c.2.1 c.2.2.2.1 then 1 else 0) else oO c
def ck (c:Change):Int×Int:=if c.2.2.1 then (c.2.2.2.1.1,c.2.2.2.1.2.1) else (c.2.1.1,c.2.1.2.1)
theorem KW (c:Change) (h:cl c):pq.ab (c,())=some (oO c,()):=by
 refine ag (k:=0) λk _=>(pq.ae k _).trans ?_;show pq.p _=_;unfold pq.p oO sameKey;simp only[zu _ h.1,zu _ h.2,aA];cases c.1 <;> cases c.2.2.1 <;> by_cases h1:c.2.1.1=c.2.2.2.1.1 <;> by_cases h2:c.2.1.2.1=c.2.2.2.1.2.1 <;> by_cases h3:jY c.2.1=0 <;> simp[h1,h2,h3]
theorem yh (a b:Row):il.ab (a,b,())=some (gg (a.1,a.2.1) (b.1,b.2.1),()):=by
 refine ag (k:=0) λk _=>(il.ae k _).trans ?_;show il.p _=_;unfold il.p gg;by_cases h1:a.1 < b.1 <;> by_cases h2:a.1=b.1 <;> simp[h1,h2]
theorem Dl (a b:Row):lE.ab (a,b,())=some (if gg (a.1,a.2.1) (b.1,b.2.1) then -1 else if gg (b.1,b.2.1) (a.1,a.2.1) then 1 else 0,()):=by
 refine ag (k:=0) λk _=>(lE.ae k _).trans ?_;show lE.p _=_;unfold lE.p;simp only[yh,aA];cases gg (a.1,a.2.1) (b.1,b.2.1) <;> cases gg (b.1,b.2.1) (a.1,a.2.1) <;> rfl
theorem Iv (a b:Row):decide ((if gg (a.1,a.2.1) (b.1,b.2.1) then (-1:Int) else if gg (b.1,b.2.1) (a.1,a.2.1) then 1 else 0)=0)=sameKey a b:=by
 unfold gg sameKey;by_cases h1:a.1 < b.1
 ·have:¬ a.1=b.1:=by omega
  simp[h1,this]
 ·by_cases h2:a.1=b.1
  ·by_cases h3:a.2.1 < b.2.1
   ·have:¬ a.2.1=b.2.1:=by omega
    simp[h2,h3,this]
   ·by_cases h4:b.2.1 < a.2.1
    ·have:¬ a.2.1=b.2.1:=by omega
     simp[h2,h3,h4,this]
    ·have:a.2.1=b.2.1:=by omega
     simp[h2,this]
  ·have:b.1 < a.1:=by omega
   simp[h1,h2,this]
theorem yW (c:Change) (h:cl c):iF.ab (c,())=some (oO c,()):=by
 refine ag (k:=0) λk _=>(iF.ae k _).trans ?_;show iF.p _=_;unfold iF.p oO;simp only[zw _ h.1,zw _ h.2,Dl,aA,Iv];cases c.1 <;> cases c.2.2.1 <;> cases sameKey c.2.1 c.2.2.2.1 <;> by_cases h3:jY c.2.1=0 <;> simp[h3]
theorem Cj (c:Change) (h:cl c):mp.ab (c,())=some (AF c,()):=by
 refine ag (k:=0) λk _=>(mp.ae k _).trans ?_;show mp.p _=_;unfold mp.p AF;simp only[KW c h,aA];by_cases h1:oO c=0
 ·simp only[h1,aG,aN,aD,aI];cases c.1 <;> cases c.2.2.1 <;> cases Ty.eq bd c.2.1 c.2.2.2.1 <;> rfl
 ·simp[h1]
theorem Kd (c:Change) (h:cl c):kh.ab (c,())=some (AF c,()):=by
 refine ag (k:=0) λk _=>(kh.ae k _).trans ?_;show kh.p _=_;unfold kh.p AF;simp only[yW c h,aA];by_cases h1:oO c=0
 ·simp only[h1,aG,aN,aD,aI];cases c.1 <;> cases c.2.2.1 <;> cases Ty.eq bd c.2.1 c.2.2.2.1 <;> rfl
 ·simp[h1]
theorem zx (c:Change):ku.ab (c,())=some ((ck c).1,(ck c).2,()):=by
 refine ag (k:=0) λk _=>(ku.ae k _).trans ?_;show ku.p _=_;unfold ku.p ck;cases c.2.2.1 <;> rfl
def yG (c:Change):Row:=if c.2.2.1 then c.2.2.2.1 else c.2.1
theorem yH (c:Change):((yG c).1,(yG c).2.1)=ck c:=by unfold yG ck;cases c.2.2.1 <;> rfl
theorem xm (c:Change):du.ab (c,())=some (yG c,()):=by
 refine ag (k:=0) λk _=>(du.ae k _).trans ?_;show du.p _=_;unfold du.p yG;cases c.2.2.1 <;> rfl
theorem Iw (n:Nat) (m:Nat):decide ((m:Int) < (n:Int))=decide (m < n):=by
 by_cases h:m < n
 ·have:(m:Int) < (n:Int):=by omega
  simp[h,this]
 ·have:¬ (m:Int) < (n:Int):=by omega
  simp[h,this]
theorem Dm {i:Nat} (hi:0 < i) (h:i<=maxLen):af ((i:Int) - 1)=((i - 1:Nat):Int):=by
 rw[au] at h;rw[a7 (by omega)];omega
theorem Ry {x:Row} (h:sm bd x):rl x:=h.2.2.2.1
theorem Xl {c:Change} (h:sm an c):cl c:=⟨Ry h.2.1,Ry h.2.2.2.1⟩
end OT
namespace OT
open Go
theorem dz {V S O α:Type} {B:(V->Option O)->V->Option O} (xs:List α) (enc:S->Int->V) (f:Nat->S->α->Sum (Option O) S) (fin:S->Option O) (I:Nat->S->Prop) (Ew:xs.length<=maxLen)
  (i7:∀ (i:Nat) (hi:i < xs.length) (s:S) self,I i s->B self (enc s (i:Int))=match f i s xs[i] with | .inl o=>o | .inr s'=>self (enc s' (af ((i:Int)+1))))
  (hI:∀ (i:Nat) (hi:i < xs.length) (s s':S),I i s->f i s xs[i]=.inr s'->I (i+1) s')
  (sO:∀ (s:S) self,I xs.length s->B self (enc s (xs.length:Int))=fin s) (s:S) (h0:I 0 s):∀ k,xs.length < k->al B k (enc s 0)=b_ f fin 0 xs s:=by
 have main:∀ (m i:Nat) (s:S),xs.length - i=m->i<=xs.length->I i s->∀ k,m < k->al B k (enc s (i:Int))=b_ f fin i (xs.drop i) s:=by
  intro m
  induction m with
  | zero=>
   intro i s hm hi hs k hk;have pj:i=xs.length:=by omega
   subst pj
   cases k with
   | zero=>omega
   | succ k=>
    show B (al B k) _=_;rw[sO s _ hs];simp[b_]
  | succ m ih=>
   intro i s hm hi hs k hk;have ax:i < xs.length:=by omega
   cases k with
   | zero=>omega
   | succ k=>
    show B (al B k) _=_;rw[i7 i ax s _ hs,bX ax];simp only[b_]
    cases hf:f i s xs[i] with
    | inl o=>rfl
    | inr s'=>
     have hw:af ((i:Int)+1)=((i+1:Nat):Int):=by rw[a7 (by rw[au] at Ew;omega)];omega
     simp only[hw];exact ih (i+1) s' (by omega) (by omega) (hI i ax s s' hs hf) k (by omega)
 intro k hk
 simpa using main xs.length 0 s (by omega) (by omega) h0 k hk
theorem xV {O α:Type} (p:α->Bool) (a:O) (fin:Unit->O):∀ (xs:List α) (i:Nat),b_ (λ_ _ x=>if p x then .inl a else .inr ()) fin i xs ()=if xs.any p then a else fin ()
 | [],_=>rfl
 | x::xs,i=>by
  simp only[b_,gN];by_cases h:p x=true
  ·simp[h]
  ·simp[h,xV p a fin xs (i+1)]
def Ck {α:Type} (p:α->Bool):Nat->List α->Int
 | _,[]=>-1
 | i,x::xs=>if p x then (i:Int) else Ck p (i+1) xs
theorem Ix {α:Type} (p:α->Bool):∀ (xs:List α) (i:Nat),b_ (λi _ x=>if p x then .inl ((i:Int),()) else .inr ()) (λ_=>((-1:Int),())) i xs ()=(Ck p i xs,())
 | [],_=>rfl
 | x::xs,i=>by
  simp only[b_,Ck];by_cases h:p x=true
  ·simp[h]
  ·simp[h,Ix p xs (i+1)]
theorem Ke {α:Type} (p:α->Bool):∀ (xs:List α) (i:Nat),decide (0<=Ck p i xs)=xs.any p
 | [],_=>rfl
 | x::xs,i=>by
  simp only[Ck,gN];by_cases h:p x=true
  ·simp[h]
  ·simp[h,Ke p xs (i+1)]
theorem Dn (a b:Key):Ty.eq be a b=decide (a=b):=by
 obtain ⟨a1,a2,⟨⟩⟩:=a;obtain ⟨b1,b2,⟨⟩⟩:=b;show (decide (a1=b1)&&(decide (a2=b2)&&true))=decide ((a1,a2,())=(b1,b2,()));by_cases h1:a1=b1 <;> by_cases h2:a2=b2 <;> simp[h1,h2]
def Cl (c:Change):Key:=((ck c).1,(ck c).2,())
def jI (ks:List Key) (k:Key):Bool:=ks.any λx=>decide (x=k)
theorem tZ {ks:List Key} {k:Key}:jI ks k=true↔k ∈ ks:=by simp[jI]
def yj (k:Key):Bool:=gu k.1 0 3&&gu k.2.1 1 99
theorem MS (c:Change):pr.ab (c,())=some (Cl c,()):=by
 refine ag (k:=0) λk _=>(pr.ae k _).trans ?_;show pr.p _=_;unfold pr.p;simp only[zx,aA];rfl
theorem Yf (c:Change):nl.ab (c,())=some (Cl c,()):=by
 refine ag (k:=0) λk _=>(nl.ae k _).trans ?_;show nl.p _=_;unfold nl.p Cl;simp only[xm,aA,<- yH]
theorem OD (x:Key):rx.ab (x,())=some (yj x,()):=by
 refine ag (k:=0) λk _=>(rx.ae k _).trans ?_;show rx.p _=_;unfold rx.p yj gu;simp only[nX,aA];cases decide ((0:Int)<=x.1) <;> cases decide (x.1<=3) <;> rfl
theorem VJ (x:Key):sB.ab (x.1,x.2.1,())=some (yj x,()):=by
 refine ag (k:=0) λk _=>(sB.ae k _).trans ?_;show sB.p _=_;unfold sB.p yj gu;simp only[tJ,aA];cases decide ((0:Int)<=x.1) <;> cases decide (x.1<=3) <;> rfl
theorem MT (x:Tx) (k0:Key) (h:List.length x.2.2.2.1<=maxLen):jB.ab (x,k0,())=some (jI x.2.2.2.1 k0,()):=by
 refine ag (k:=List.length x.2.2.2.1+1) λk hk=>(jB.ae k _).trans ?_
 have:=da (B:=λself v=>jB.b0 self (λz=>jB.q0 (x,k0,()) z) (x,k0,()) v) x.2.2.2.1 (λ(_:Unit) (i:Int)=>i) (λ_ _ y=>if decide (y=k0) then .inl (true,()) else .inr ()) (λ_=>(false,())) (λ_ _=>True) h
  (λi hi s self _=>by
   show jB.b0 _ _ _ _=_;unfold jB.b0;have ax:(i:Int) < (List.length x.2.2.2.1:Int):=by omega
   simp only[ax,aG,aH,aK,aI,aC,aB hi,aA,Dn];by_cases hh:(x.2.2.2.1)[i]=k0
   ·simp only[hh,aG,aH,aI]
   ·simp only[hh,aE,aD,aJ,aO])
  (λ_ _ _ _ _ _=>trivial) (λs self _=>by
   show jB.b0 _ _ _ _=_;unfold jB.b0;simp only[aX,aE,aD]
   rfl) () trivial k (by omega)
 rw[xV] at this;refine aQ this ?_;unfold jI;cases x.2.2.2.1.any (λy=>decide (y=k0)) <;> rfl
theorem contains_eq (ks:List Key) (k0:Key) (h:ks.length<=maxLen):kw.ab (ks,k0,())=some (jI ks k0,()):=by
 have WK:jC.ab (ks,k0,())=some (Ck (λy=>decide (k0=y)) 0 ks,()):=by
  refine ag (k:=ks.length+1) λk hk=>(jC.ae k _).trans ?_
  have:=da (B:=λself v=>jC.b0 self (λz=>jC.q0 (ks,k0,()) z) (ks,k0,()) v) ks (λ(_:Unit) (i:Int)=>i) (λi _ y=>if decide (k0=y) then .inl ((i:Int),()) else .inr ()) (λ_=>((-1:Int),())) (λ_ _=>True) h
   (λi hi s self _=>by
    show jC.b0 _ _ _ _=_;unfold jC.b0;have ax:(i:Int) < (ks.length:Int):=by omega
    simp only[ax,aG,aH,aK,aI,aC,aB hi,aA,Dn];by_cases hh:k0=ks[i]
    ·simp only[<-hh,aG,aH,aI]
    ·simp only[hh,aE,aD,aJ,aO])
   (λ_ _ _ _ _ _=>trivial) (λs self _=>by
    show jC.b0 _ _ _ _=_;unfold jC.b0;simp only[aX,aE,aD]
    rfl) () trivial k (by omega)
  rw[Ix] at this;exact this
 refine ag (k:=0) λk _=>(kw.ae k _).trans ?_;show kw.p _=_;unfold kw.p;rw[WK];simp only[aA,Ke];congr 2;unfold jI;congr 1;funext y;by_cases hh:k0=y
 ·simp[hh]
 ·have:¬ y=k0:=λe=>hh e.symm;simp[hh,this]
def tl (x:Tx):Prop:=List.length x.2.1<=1048576/\List.length x.2.2.1<=1048576/\List.length x.2.2.2.1<=1048576/\∀ c ∈ x.2.1,cl c
def yk (ks:List Key) (c:Change):Int:=if AF c=0 then (if jI ks (Cl c) then 0 else 8) else AF c
def Iy (n last:Int) (ms:List Int):Bool:=b_ (λ_ last m=>if gu m last n then .inr m else .inl false) (λ_=>true) 0 ms last
def rP (ks:List Key) (i:Nat) (k:Key):Int:=if yj k then (if jI (ks.take i) k then 6 else 0) else 3
def xn (ks:List Key):Int:=b_ (λi (_:Unit) k=>if rP ks i k=0 then .inr () else .inl (rP ks i k)) (λ_=>(0:Int)) 0 ks ()
def uo (x:Tx):Int:=if decide (8 < List.length x.2.2.1)||decide (12 < List.length x.2.2.2.1) then 2 else if Iy (List.length x.2.1:Int) 0 x.2.2.1 then xn x.2.2.2.1 else 3
def Bs (x:Tx):Int:=ng (yk x.2.2.2.1) x.2.1
theorem MU (n:Int) (E:Option (Int×Unit)):∀ (ms:List Int) (i:Nat) (last:Int),b_ (λ_ last m=>if gu m last n then .inr m else .inl (some ((3:Int),()))) (λ_=>E) i ms last=if b_ (λ_ last m=>if gu m last n then .inr m else .inl false) (λ_=>true) i ms last then E else some ((3:Int),())
 | [],_,_=>rfl
 | m::ms,i,last=>by
  simp only[b_];by_cases hb:gu m last n=true
  ·simp only[hb,aI];exact MU n E ms _ _
  ·simp[hb]
theorem OE (x:Tx) (h:tl x):mq.ab (x,())=some (Bs x,()):=by
 obtain ⟨h1,h2,h3,h4⟩:=h;refine ag (k:=List.length x.2.1+1) λk hk=>(mq.ae k _).trans ?_
 have:=da (B:=λself v=>mq.b0 self (λz=>mq.q0 (x,()) z) (x,()) v) x.2.1 (λ(_:Unit) (i:Int)=>i) (λ_ _ c=>if yk x.2.2.2.1 c=0 then .inr () else .inl (yk x.2.2.2.1 c,())) (λ_=>(0,())) (λ_ _=>True) (by rw[au];omega)
  (λi hi s self _=>by
   show mq.b0 _ _ _ _=_;unfold mq.b0;have ax:(i:Int) < (List.length x.2.1:Int):=by omega
   simp only[ax,aG,aH,aK,aI,aC,aB hi,aA,Cj _ (h4 _ (aU hi)),MS];rw[MT x _ (by rw[au];omega)];unfold yk;by_cases hc:AF (x.2.1)[i]=0
   ·simp only[hc,aG,aN,aD,aI,aA];cases jI x.2.2.2.1 (Cl (x.2.1)[i]) <;> rfl
   ·simp only[hc,aE,bA,aH,aO])
  (λ_ _ _ _ _ _=>trivial) (λs self _=>by
   show mq.b0 _ _ _ _=_;unfold mq.b0;simp only[aX,aE,aD]
   rfl) () trivial k (by omega)
 rw[zm (yk x.2.2.2.1) (λc=>(c,())) (λ_=>((0:Int),()))] at this;refine aQ this ?_;unfold Bs;split
 ·rename_i h0;rw[h0]
 ·rfl
theorem VK {m last n:Int} (h:0<=last):(gu m 0 n&&decide (last<=m))=gu m last n:=by
 unfold gu;by_cases h1:last<=m
 ·have:(0:Int)<=m:=by omega
  simp[h1,this]
 ·simp[h1]
theorem MV (x:Tx) (h:tl x):c9.ab (x,())=some (uo x,()):=by
 obtain ⟨h1,h2,h3,h4⟩:=h;refine ag (k:=20) λk hk=>(c9.ae k _).trans ?_;unfold c9.p uo;by_cases hm:8 < List.length x.2.2.1
 ·have:(8:Int) < (List.length x.2.2.1:Int):=by omega
  simp only[this,hm,aG,aH,hJ,aI]
  (try rfl)
 have Gd:¬ (8:Int) < (List.length x.2.2.1:Int):=by omega
 by_cases mJ:12 < List.length x.2.2.2.1
 ·have:(12:Int) < (List.length x.2.2.2.1:Int):=by omega
  simp only[this,hm,Gd,mJ,aG,aE,aH,aD,cZ,aI]
  (try rfl)
 have J0:¬ (12:Int) < (List.length x.2.2.2.1:Int):=by omega
 simp only[hm,Gd,J0,mJ,aE,aD,gE,aJ,aO]
 have second:c9.r1 k (x,()) (x,(0:Int))=some (xn x.2.2.2.1,()):=by
  have inner:∀ (self:(Tx×Int)->Option c9.Out) (e2:Unit->Option c9.Out) (i:Nat) (hi:i < List.length x.2.2.2.1),c9.r2 k self e2 (x,()) x (i:Int) (0:Int)=if jI (x.2.2.2.1.take i) (x.2.2.2.1)[i] then some ((6:Int),()) else self (x,af ((i:Int)+1)):=λself e2 i hi=>by
   have kG:(x.2.2.2.1.take i).length=i:=by simp;omega
   have:=dz (B:=λgk v=>c9.b2 gk (λz=>c9.q1 self e2 (x,()) x (i:Int) z) (x,()) x (i:Int) v) (x.2.2.2.1.take i) (λ(_:Unit) (j:Int)=>j) (λ_ _ y=>if decide (y=(x.2.2.2.1)[i]) then .inl (some ((6:Int),())) else .inr ()) (λ_=>self (x,af ((i:Int)+1))) (λ_ _=>True) (by rw[au];omega)
    (λj hj s gk _=>by
     show c9.b2 _ _ _ _ _ _=_;unfold c9.b2;rw[kG] at hj;have ax:(j:Int) < (i:Int):=by omega
     have PA:j < List.length x.2.2.2.1:=by omega
     simp only[ax,aG,aH,aK,aI,aC,aB PA,aB hi,aA,Dn,List.getElem_take]
     by_cases hh:(x.2.2.2.1)[j]=(x.2.2.2.1)[i]
     ·simp only[hh,aG,aH,aI]
     ·simp only[hh,aE,aD,aJ,aO])
    (λ_ _ _ _ _ _=>trivial) (λs gk _=>by
     show c9.b2 _ _ _ _ _ _=_;unfold c9.b2;simp only[kG,aX,aE,aD]
     rfl) () trivial k (by omega)
   rw[xV] at this;exact this
  have:=da (B:=λself v=>c9.B1 k self (λz=>c9.q2 (x,()) z) (x,()) v) x.2.2.2.1 (λ(_:Unit) (i:Int)=>(x,i)) (λi _ y=>if rP x.2.2.2.1 i y=0 then .inr () else .inl (rP x.2.2.2.1 i y,())) (λ_=>(0,())) (λ_ _=>True) (by rw[au];omega)
   (λi hi s self _=>by
    show c9.b1 _ _ _ _ _=_;unfold c9.b1 rP;have ax:(i:Int) < (List.length x.2.2.2.1:Int):=by omega
    simp only[ax,aG,aH,aK,aI,aC,aB hi,aA,OD];rw[inner self _ i hi]
    cases yj (x.2.2.2.1)[i] <;> cases jI (x.2.2.2.1.take i) (x.2.2.2.1)[i] <;> rfl)
   (λ_ _ _ _ _ _=>trivial) (λs self _=>by
    show c9.b1 _ _ _ _ _=_;unfold c9.b1;simp only[aX,aE,aD]
    rfl) () trivial k (by omega)
  refine aQ this ?_;unfold xn;generalize PP:x.2.2.2.1=ks
  have gen:∀ (f:Nat->Key->Int) (ys:List Key) (i:Nat),b_ (λi (_:Unit) y=>if f i y=0 then .inr () else .inl (f i y,())) (λ_=>((0:Int),())) i ys ()=(b_ (λi (_:Unit) y=>if f i y=0 then .inr () else .inl (f i y)) (λ_=>(0:Int)) i ys (),()):=by
   intro f ys
   induction ys with
   | nil=>intro i;rfl
   | cons y ys ih=>intro i;simp only[b_];by_cases h0:f i y=0 <;> simp[h0,ih]
  rw[gen (rP ks)]
 have:=dz (B:=λself v=>c9.b0 self (λz=>c9.Q0 k (x,()) z) (x,()) v) x.2.2.1 (λ(_:Int) (i:Int)=>i) (λi last m=>if gu m last (List.length x.2.1:Int) then .inr m else .inl (some ((3:Int),()))) (λ_=>some (xn x.2.2.2.1,()))
  (λi last=>0<=last/\(i=0->last=0)/\∀ y,0 < i->x.2.2.1[i - 1]?=some y->last=y) (by rw[au];omega)
  (λi hi last self hI=>by
   obtain ⟨i1,i2,i3⟩:=hI;show c9.b0 _ _ _ _=_;unfold c9.b0;have ax:(i:Int) < (List.length x.2.2.1:Int):=by omega
   simp only[ax,aG,aH,aK,aI,aC,aB hi,aA,nX];generalize hmm:(x.2.2.1)[i]=m;rw[<-VK i1];show (bif !gu m 0 (List.length x.2.1:Int) then _ else _)=_
   cases JR:gu m 0 (List.length x.2.1:Int) with
   | false=>rfl
   | true=>
    have hm0:0<=m:=by
     simp only[gu,aF,bI] at JR;exact JR.1
    simp only[aN,aD,dJ];by_cases h0:i=0
    ·subst h0;have:=i2 rfl;subst this;have hz:¬ (0:Int) < ((0:Nat):Int):=by omega
     simp only[hz,hm0,aG,aE,aD,aI]
    ·have Il:i - 1 < List.length x.2.2.1:=by omega
     have hl:=i3 (x.2.2.1)[i - 1] (by omega) (aB Il);have hp:(0:Int) < (i:Int):=by omega
     simp only[hp,aG,aH,Dm (show 0 < i by omega) (by rw[au];omega),aK,aI,aC,aB Il,aA];rw[<-hl];by_cases hc:last<=m
     ·have:¬ m < last:=by omega
      simp only[hc,this,aG,aE,aD,aI]
     ·have:m < last:=by omega
      simp only[hc,this,aG,aE,aH,aJ,aO])
  (λi hi last acg hI hs=>by
   split at hs
   ·rename_i hb;injection hs with hs;subst hs;simp only[gu,aF,bI] at hb;refine ⟨by omega,λe=>by omega,λy _ hy=>?_⟩
    rw[eP,aB hi] at hy;injection hy
   ·cases hs)
  (λlast self hI=>by
   show c9.b0 _ _ _ _=_;unfold c9.b0;simp only[aX,aE,aD]
   exact second) 0 ⟨iE _,λ_=>rfl,λ_ h=>by omega⟩ k (by omega)
 refine aQ this ?_;unfold Iy;rw[MU];cases b_ (λ_ last m=>if gu m last (List.length x.2.1:Int) then .inr m else .inl false) (λ_=>true) 0 x.2.2.1 0 <;> rfl
end OT
namespace OT
open Go
def pb (D:List UInt8) (i:Nat):Nat:=(D.getD i 0).toNat
theorem l7 (D:List UInt8) (i:Nat):pb D i < 256:=iQ _
theorem i9 {D:List UInt8} {i:Nat} (h:i < D.length):D[i]?=some D[i]/\(D[i]).toNat=pb D i:=⟨aB h,by simp[pb,h]⟩
theorem pa (D:List UInt8) (i j:Nat) (v:UInt8):pb (D.set i v) j=if i=j/\i < D.length then v.toNat else pb D j:=by
 unfold pb;simp only[bW,eH];by_cases h:i=j
 ·subst h;by_cases h2:i < D.length
  ·simp[h2]
  ·simp[h2,eA (Nat.le_of_not_lt h2)]
 ·simp[h]
theorem Jx {D c:List UInt8} {a:Nat} (h:a+c.length<=D.length) (j:Nat):pb (oo D a c.length c) j=if a<=j/\j < a+c.length then pb c (j - a) else pb D j:=by
 unfold pb;simp only[bW,L6 D c h (aL _)];split <;> rfl
theorem AG {A B:List UInt8} (h:A.length=B.length) (h2:∀ j,j < A.length->pb A j=pb B j):A=B:=by
 refine List.ext_getElem h λi h1 h3=>?_;have:=h2 i h1;rw[<-(i9 h1).2,<- (i9 h3).2] at this;exact fY.1 this
theorem ofNat_toNat {n:Nat} (h:n < 256):(UInt8.ofNat n).toNat=n:=by
 rw[gA];omega
theorem VL (D:List UInt8) (a n j:Nat) (h:j < n):pb ((D.drop a).take n) j=pb D (a+j):=by
 unfold pb;simp only[bW,cJ,h,aI,bZ]
def pn (p:List UInt8):Nat:=pb p 0
def c7 (p:List UInt8):Nat:=pb p 1
def pat (p:List UInt8) (i:Nat):Nat:=pb p (2+2*i)
def a_ (p:List UInt8) (i:Nat):Nat:=pb p (3+2*i)
def xo (p:List UInt8) (i:Nat):Bool:=if pat p i=0\/a_ p i=0 then decide (pat p i=a_ p i) else decide (c7 p<=pat p i)&&decide (pat p i+a_ p i<=64)
def tC (p:List UInt8) (i k:Nat):Bool:=(decide (a_ p i=0)||decide (a_ p k=0))||(decide (pat p i+a_ p i<=pat p k)||decide (pat p k+a_ p k<=pat p i))
def xp (p:List UInt8):Int:=
 if p.length=64 then
  if pn p<=16/\2+2*pn p<=c7 p/\c7 p<=64 then
   if (List.range (pn p)).all (xo p) then
    if (List.range (pn p)).all (λi=>(List.range i).all (tC p i)) then
     if 0 < pn p/\a_ p (pn p - 1)=0 then 8 else 0
    else 8
   else 3
  else 3
 else 1
structure gt (p:List UInt8):Prop where
 len:p.length=64
 n:pn p<=16
 lo:2+2*pn p<=c7 p
 hi:c7 p<=64
 slot:∀ i,i < pn p->a_ p i≠0->c7 p<=pat p i/\pat p i+a_ p i<=64
 zero:∀ i,i < pn p->a_ p i=0->pat p i=0
 apart:∀ i k,i < pn p->k < pn p->i≠k->a_ p i≠0->a_ p k≠0->pat p i+a_ p i<=pat p k\/pat p k+a_ p k<=pat p i
 last:0 < pn p->a_ p (pn p - 1)≠0
theorem EK {p:List UInt8} {i:Nat} (vN:2<=c7 p):xo p i=true↔(a_ p i≠0->c7 p<=pat p i/\pat p i+a_ p i<=64)/\(a_ p i=0->pat p i=0):=by
 unfold xo;by_cases h1:a_ p i=0
 ·simp[h1]
 ·by_cases h2:pat p i=0
  ·simp[h1,h2];omega
  ·simp[h1,h2]
theorem Do {p:List UInt8} {i k:Nat}:tC p i k=true↔(a_ p i≠0->a_ p k≠0->pat p i+a_ p i<=pat p k\/pat p k+a_ p k<=pat p i):=by
 unfold tC;by_cases h1:a_ p i=0
 ·simp[h1]
 ·by_cases h2:a_ p k=0
  ·simp[h2]
  ·simp[h1,h2]
theorem tK {p:List UInt8}:xp p=0↔gt p:=by
 constructor
 ·intro h;unfold xp at h;split at h
  ·rename_i h1;split at h
   ·rename_i h2;split at h
    ·rename_i h3;split at h
     ·rename_i h4;split at h
      ·cases h
      ·rename_i h5;have hs:∀ i,i < pn p->(a_ p i≠0->c7 p<=pat p i/\pat p i+a_ p i<=64)/\(a_ p i=0->pat p i=0):=λi hi=>(EK (by omega)).1 (bK.1 h3 i (cH.2 hi));have ha:∀ i k,i < pn p->k < i->a_ p i≠0->a_ p k≠0->pat p i+a_ p i<=pat p k\/pat p k+a_ p k<=pat p i:=λi k hi hk=>Do.1 (bK.1 (bK.1 h4 i (cH.2 hi)) k (cH.2 hk));refine ⟨h1,h2.1,h2.2.1,h2.2.2,λi hi=>(hs i hi).1,λi hi=>(hs i hi).2,λi k hi hk DZ z1 z2=>?_,λhn hz=>h5 ⟨hn,hz⟩⟩
       rcases Nat.lt_or_gt_of_ne DZ with h6 | h6
       ·exact (ha k i hk h6 z2 z1).symm
       ·exact ha i k hi h6 z1 z2
     ·cases h
    ·cases h
   ·cases h
  ·cases h
 ·intro h;unfold xp;rw[aM h.len,aM ⟨h.n,h.lo,h.hi⟩,aM,aM,aP]
  ·intro ⟨h1,h2⟩;exact h.last h1 h2
  ·refine bK.2 λi hi=>bK.2 λk hk=>Do.2 ?_;have:=cH.1 hi;have:=cH.1 hk;exact h.apart i k (by omega) (by omega) (by omega)
  ·exact bK.2 λi hi=>(EK (by have:=h.lo;omega)).2 ⟨h.slot i (cH.1 hi),h.zero i (cH.1 hi)⟩
def iX (p:List UInt8) (i:Nat):List UInt8:=(p.drop (pat p i)).take (a_ p i)
def cellOf (p:List UInt8) (i:Nat):List UInt8:=if i < pn p then iX p i else []
theorem oH {p:List UInt8} (h:gt p) {i:Nat} (hi:i < pn p):(iX p i).length=a_ p i:=by
 unfold iX;by_cases hz:a_ p i=0
 ·simp[hz]
 ·have:=h.slot i hi hz;have:=h.len;simp only[dD,bQ];omega
theorem Dp (p:List UInt8) (i j:Nat) (h:j < a_ p i):pb (iX p i) j=pb p (pat p i+j):=VL p _ _ j h
theorem G_ {p q:List UInt8} {i k:Nat} (hp:(iX p i).length=a_ p i) (hq:(iX q k).length=a_ q k) (hs:a_ p i=a_ q k) (hb:∀ j,j < a_ p i->pb p (pat p i+j)=pb q (pat q k+j)):iX p i=iX q k:=by
 refine AG (by omega) λj hj=>?_;rw[Dp p i j (by omega),Dp q k j (by omega)];exact hb j (by omega)
theorem VM {p c:List UInt8} {i:Nat} (hp:(iX p i).length=a_ p i) (hs:a_ p i=c.length) (hb:∀ j,j < c.length->pb p (pat p i+j)=pb c j):iX p i=c:=by
 refine AG (by omega) λj hj=>?_;rw[Dp p i j (by omega)];exact hb j (by omega)
def kY (p:List UInt8) (s a:Nat) (c:List UInt8):List UInt8:=((oo p a c.length c).set (2+2*s) (UInt8.ofNat a)).set (3+2*s) (UInt8.ofNat c.length)
theorem qm {p:List UInt8} (hp:p.length=64) (s:Nat) {a:Nat} {c:List UInt8} (h:a+c.length<=64):(kY p s a c).length=64:=by
 unfold kY;rw[aZ,aZ,rr _ _ (by omega) (aL _),hp]
theorem va {p:List UInt8} (hp:p.length=64) {s a:Nat} {c:List UInt8} (h:a+c.length<=64) (hs:s < 16) (j:Nat):pb (kY p s a c) j=if j=3+2*s then c.length else if j=2+2*s then a else if a<=j/\j < a+c.length then pb c (j - a) else pb p j:=by
 unfold kY;have hl:(oo p a c.length c).length=64:=by rw[rr _ _ (by omega) (aL _),hp]
 rw[pa,pa,Jx (by omega),aZ,hl];by_cases h1:j=3+2*s
 ·subst h1;rw[aM ⟨rfl,by omega⟩,aM rfl,ofNat_toNat (by omega)]
 ·rw[aP (λh=>h1 h.1.symm),aP h1];by_cases h2:j=2+2*s
  ·subst h2;rw[aM ⟨rfl,by omega⟩,aM rfl,ofNat_toNat (by omega)]
  ·rw[aP (λh=>h2 h.1.symm),aP h2]
structure vT (p q:List UInt8) (s a m:Nat):Prop where
 len:q.length=64
 n:pn q=pn p\/(pn q=pn p+1/\s=pn p)
 Z4:s < pn q
 n16:pn q<=16
 lo:2+2*pn q<=c7 q
 lo2:c7 q<=c7 p
 at_:pat q s=a
 sz:a_ q s=m
 pos:0 < m
 abU:c7 q<=a
 abV:a+m<=64
 MW:∀ i,i < pn q->i≠s->pat q i=pat p i/\a_ q i=a_ p i
 free:∀ i,i < pn p->i≠s->a_ p i≠0->a+m<=pat p i\/pat p i+a_ p i<=a
 same:∀ j,c7 p<=j->j < 64->(j < a\/a+m<=j)->pb q j=pb p j
theorem vT.ok {p q:List UInt8} {s a m:Nat} (t:vT p q s a m) (h:gt p):gt q:=by
 have ax:∀ i,i < pn q->i≠s->i < pn p:=λi hi hs=>by rcases t.n with h1 | ⟨h1,h2⟩ <;> omega
 have ha:=t.at_;have hm:=t.sz;have GQ:=t.pos;have vN:=t.abU;have FZ:=t.abV;have act:=t.lo2;have hh:=h.hi;refine ⟨t.len,t.n16,t.lo,by omega,λi hi hz=>?_,λi hi hz=>?_,λi k hi hk DZ z1 z2=>?_,λhn=>?_⟩
 ·by_cases hs:i=s
  ·subst hs;omega
  ·obtain ⟨h1,h2⟩:=t.MW i hi hs;have:=h.slot i (ax i hi hs) (by omega);omega
 ·by_cases hs:i=s
  ·subst hs;omega
  ·obtain ⟨h1,h2⟩:=t.MW i hi hs;have:=h.zero i (ax i hi hs) (by omega);omega
 ·by_cases hs:i=s
  ·subst hs;have PP:k≠i:=λe=>DZ e.symm;obtain ⟨h1,h2⟩:=t.MW k hk PP;have:=t.free k (ax k hk PP) PP (by omega);omega
  ·obtain ⟨h1,h2⟩:=t.MW i hi hs;by_cases xG:k=s
   ·subst xG;have:=t.free i (ax i hi hs) hs (by omega);omega
   ·obtain ⟨h3,h4⟩:=t.MW k hk xG;have:=h.apart i k (ax i hi hs) (ax k hk xG) DZ (by omega) (by omega);omega
 ·by_cases hs:pn q - 1=s
  ·rw[hs];omega
  ·obtain ⟨h1,h2⟩:=t.MW (pn q - 1) (by omega) hs
   have hq:pn q=pn p:=by
    rcases t.n with h3 | ⟨h3,h4⟩
    ·exact h3
    ·omega
   rw[h2,hq];exact h.last (by omega)
theorem vT.Rz {p q:List UInt8} {s a m:Nat} (t:vT p q s a m) (h:gt p) {i:Nat} (hi:i < pn q) (hs:i≠s):iX q i=iX p i:=by
 have Bk:i < pn p:=by rcases t.n with h1 | ⟨h1,h2⟩ <;> omega
 obtain ⟨h1,h2⟩:=t.MW i hi hs;refine G_ (oH (t.ok h) hi) (oH h Bk) h2 λj hj=>?_;have hz:a_ p i≠0:=by omega
 have h3:=h.slot i Bk hz;have h4:=t.free i Bk hs hz;rw[h1];exact t.same _ (by omega) (by omega) (by omega)
theorem vT.TG {p q:List UInt8} {s a:Nat} {c:List UInt8} (t:vT p q s a c.length) (h:gt p) (hc:∀ j,j < c.length->pb q (a+j)=pb c j):iX q s=c:=
 VM (oH (t.ok h) t.Z4) t.sz λj hj=>by rw[t.at_];exact hc j hj
theorem vT.cells {p q:List UInt8} {s a:Nat} {c:List UInt8} (t:vT p q s a c.length) (h:gt p) (hc:∀ j,j < c.length->pb q (a+j)=pb c j) (i:Nat):cellOf q i=if i=s then c else cellOf p i:=by
 have hs:=t.Z4;unfold cellOf;by_cases s9:i=s
 ·subst s9;rw[aM hs,aM rfl,t.TG h hc]
 ·rw[aP s9];by_cases hi:i < pn q
  ·have Bk:i < pn p:=by rcases t.n with h1 | ⟨h1,h2⟩ <;> omega
   rw[aM hi,aM Bk,t.Rz h hi s9]
  ·have Bk:¬ i < pn p:=by rcases t.n with h1 | ⟨h1,h2⟩ <;> omega
   rw[aP hi,aP Bk]
theorem pY {p:List UInt8} (h:gt p) {i:Nat} (hi:i < pn p):cellOf p i=[]↔a_ p i=0:=by
 unfold cellOf;rw[aM hi];have:=oH h hi;constructor
 ·intro e;rw[e] at this;simpa using this.symm
 ·intro e;rw[e] at this;exact bS this
end OT
namespace OT
open Go
def vd (p:List UInt8):Nat->Nat->Nat
 | 0,i=>i
 | m+1,i=>if a_ p i=0 then i else vd p m (i+1)
def fh (p:List UInt8):Nat:=vd p (pn p) 0
theorem Ge (p:List UInt8):∀ (m i:Nat),i<=vd p m i/\vd p m i<=i+m/\(∀ j,i<=j->j < vd p m i->a_ p j≠0)/\(vd p m i < i+m->a_ p (vd p m i)=0)
 | 0,i=>by grind [vd]
 | m+1,i=>by
  simp only[vd];split
  ·grind
  ·rename_i h;obtain ⟨h1,h2,h3,h4⟩:=Ge p m (i+1);grind
theorem uA (p:List UInt8):fh p<=pn p/\(∀ j,j < fh p->a_ p j≠0)/\(fh p < pn p->a_ p (fh p)=0):=by
 grind [Ge,fh]
def mB (p:List UInt8):Nat->Nat
 | 0=>0
 | m+1=>mB p m+a_ p m
def rQ (p:List UInt8):Int:=62 - 2*(pn p:Int) - (mB p (pn p):Int)
theorem rA (p:List UInt8) {a b:Nat} (h:a<=b):mB p a<=mB p b:=by
 induction b <;> grind [mB]
theorem Kg {α:Type} {a b:α->Bool}:∀ {l:List α},(∀ x ∈ l,a x=true->b x=true->False)->l.countP (λx=>a x||b x)=l.countP a+l.countP b
 | [],_=>rfl
 | x::l,h=>by
  have ih:=Kg (l:=l) λy hy=>h y (bF _ hy);grind
theorem Dq (a m:Nat):∀ N,(List.range N).countP (λj=>decide (a<=j/\j < a+m))=min N (a+m) - min N a
 | 0=>by simp
 | N+1=>by
  rw[gT,List.countP_append,Dq a m N];grind
def sS (p:List UInt8):Nat->Nat->Bool
 | 0,_=>false
 | k+1,j=>sS p k j||decide (pat p k<=j/\j < pat p k+a_ p k)
theorem Jy {p:List UInt8}:∀ {k j:Nat},sS p k j=true->∃ i,i < k/\pat p i<=j/\j < pat p i+a_ p i
 | k+1,j,h=>by
  simp only[sS,dC,bI] at h;rcases h with h | h
  ·obtain ⟨i,h1,h2⟩:=Jy h;grind
  grind
theorem Iz {p:List UInt8} (h:gt p):∀ k,k<=pn p->(List.range 64).countP (sS p k)=mB p k
 | 0,_=>by
  grind [sS,mB]
 | k+1,hk=>by
  have ih:=Iz h k (by omega);show (List.range 64).countP (λj=>sS p k j||decide (pat p k<=j/\j < pat p k+a_ p k))=mB p k+a_ p k;rw[Kg,ih,Dq]
  ·by_cases hz:a_ p k=0
   ·omega
   ·have:=h.slot k (by omega) hz;omega
  ·intro j _ h1 h2;obtain ⟨i,h3,h4⟩:=Jy h1;simp only[bI] at h2;have:=h.apart i k (by omega) (by omega) (by omega) (by omega) (by omega);omega
theorem Dr {p:List UInt8} (h:gt p):mB p (pn p)+c7 p<=64:=by
 rw[<-Iz h (pn p) (aL _)]
 have h1:(List.range 64).countP (sS p (pn p))<=(List.range 64).countP (λj=>decide (c7 p<=j/\j < c7 p+(64 - c7 p))):=by
  refine List.countP_mono_left λj hj hc=>?_;obtain ⟨i,h3,h4,h5⟩:=Jy hc;have:=h.slot i h3 (by omega);grind
 rw[Dq] at h1;have:=h.hi;omega
theorem Cm {p:List UInt8} (h:gt p):0<=rQ p/\rQ p<=62:=by
 have:=Dr h;have:=h.lo;grind [rQ]
def tk (p:List UInt8):Nat:=if fh p=pn p then 1 else 0
def pG (p:List UInt8) (c:List UInt8):List UInt8:=((kY p (fh p) (c7 p - c.length) c).set 0 (UInt8.ofNat (pn p+tk p))).set 1 (UInt8.ofNat (c7 p - c.length))
def l9 (p:List UInt8) (c:List UInt8):Int:=
 if fh p=pn p/\16<=pn p then 2
 else if rQ p < (c.length:Int)+2*(tk p:Int) then 9
 else if c7 p < 2+2*(pn p+tk p)+c.length then 8
 else 0
theorem Z5 {p c:List UInt8} (h:gt p) (hc:l9 p c=0) (j:Nat):pb (pG p c) j=if j=1 then c7 p - c.length else if j=0 then pn p+tk p else pb (kY p (fh p) (c7 p - c.length) c) j:=by
 unfold l9 at hc;split at hc
 ·cases hc
 ·split at hc
  ·cases hc
  ·split at hc
   ·cases hc
   ·have hl:(kY p (fh p) (c7 p - c.length) c).length=64:=qm h.len _ (by have:=h.hi;omega);have FZ:=h.hi;grind [pG,pa,ofNat_toNat]
theorem RA {p c:List UInt8} (h:gt p) (mj:1<=c.length) (hc:l9 p c=0):vT p (pG p c) (fh p) (c7 p - c.length) c.length/\∀ j,j < c.length->pb (pG p c) (c7 p - c.length+j)=pb c j:=by
 have hb:=Z5 h hc;obtain ⟨e1,e2,e3⟩:=uA p;unfold l9 at hc;split at hc
 ·cases hc
 rename_i c1;split at hc
 ·cases hc
 split at hc
 ·cases hc
 rename_i c3;have FZ:=h.hi;have vN:=h.lo;have hn:=h.n;have hm:(fh p=pn p/\tk p=1)\/(fh p < pn p/\tk p=0):=by grind [tk]
 have hs:fh p < 16:=by omega
 have hlen:(pG p c).length=64:=by
  unfold pG;rw[aZ,aZ,qm h.len _ (by omega)]
 have pL:∀ j,pb (kY p (fh p) (c7 p - c.length) c) j=_:=va h.len (a:=c7 p - c.length) (c:=c) (by omega) hs;have Gf:pn (pG p c)=pn p+tk p:=by show pb _ 0=_;rw[hb];simp
 have iU:c7 (pG p c)=c7 p - c.length:=by show pb _ 1=_;rw[hb];simp
 refine ⟨⟨hlen,by omega,by omega,by omega,by omega,by omega,?_,?_,by omega,by omega,by omega,λi hi s9=>?_,λi hi s9 hz=>?_,λj j1 j2 j3=>?_⟩,λj hj=>?_⟩
 ·show pb _ _=_;grind
 ·show pb _ _=_;grind
 ·constructor
  ·show pb _ _=pb _ _;grind
  ·show pb _ _=pb _ _;grind
 ·have:=h.slot i hi hz;omega
 all_goals grind
theorem xW {p c:List UInt8} (h:gt p) (mj:1<=c.length) (hc:l9 p c=0):gt (pG p c)/\(∀ i,cellOf (pG p c) i=if i=fh p then c else cellOf p i)/\cellOf p (fh p)=[]:=by
 obtain ⟨t,hb⟩:=RA h mj hc;refine ⟨t.ok h,t.cells h hb,?_⟩
 grind [uA,pY,cellOf]
def xX (p:List UInt8) (s:Nat) (c:List UInt8):List UInt8:=if c.length<=a_ p s then kY p s (pat p s+a_ p s - c.length) c else (kY p s (c7 p - c.length) c).set 1 (UInt8.ofNat (c7 p - c.length))
def ri (p:List UInt8) (s:Nat) (c:List UInt8):Int:=
 if c.length<=a_ p s then 0
 else if rQ p+(a_ p s:Int) < (c.length:Int) then 9
 else if c7 p < 2+2*pn p+c.length then 8
 else 0
theorem RB {p c:List UInt8} {s:Nat} (h:gt p) (hs:s < pn p) (hz:a_ p s≠0) (mj:1<=c.length) (hc:ri p s c=0):∃ a,vT p (xX p s c) s a c.length/\∀ j,j < c.length->pb (xX p s c) (a+j)=pb c j:=by
 have FZ:=h.hi;have vN:=h.lo;have hn:=h.n;have lT:=h.slot s hs hz;unfold ri at hc;split at hc
 ·rename_i c1;unfold xX;rw[aM c1];have pL:∀ j,pb (kY p s (pat p s+a_ p s - c.length) c) j=_:=va h.len (a:=pat p s+a_ p s - c.length) (c:=c) (by omega) (by omega)
  have Gf:pn (kY p s (pat p s+a_ p s - c.length) c)=pn p:=by
   show pb _ 0=pb p 0;grind
  have iU:c7 (kY p s (pat p s+a_ p s - c.length) c)=c7 p:=by
   show pb _ 1=pb p 1;grind
  refine ⟨pat p s+a_ p s - c.length,⟨qm h.len _ (by omega),by omega,by omega,by omega,by omega,by omega,?_,?_,by omega,by omega,by omega,λi hi s9=>?_,λi hi s9 ze=>?_,λj j1 j2 j3=>?_⟩,λj hj=>?_⟩
  ·show pb _ _=_;grind
  ·show pb _ _=_;grind
  ·constructor
   ·show pb _ _=pb _ _;grind
   ·show pb _ _=pb _ _;grind
  ·have:=h.apart i s hi hs s9 ze hz;omega
  all_goals grind
 ·rename_i c1;split at hc
  ·cases hc
  split at hc
  ·cases hc
  rename_i c3;have hq:xX p s c=(kY p s (c7 p - c.length) c).set 1 (UInt8.ofNat (c7 p - c.length)):=by grind [xX]
  rw[hq];have hl:(kY p s (c7 p - c.length) c).length=64:=qm h.len _ (by omega);have pL:∀ j,pb (kY p s (c7 p - c.length) c) j=_:=va h.len (a:=c7 p - c.length) (c:=c) (by omega) (by omega)
  have hb:∀ j,pb ((kY p s (c7 p - c.length) c).set 1 (UInt8.ofNat (c7 p - c.length))) j=if j=1 then c7 p - c.length else pb (kY p s (c7 p - c.length) c) j:=λj=>by
   grind [pa,ofNat_toNat]
  have Gf:pn ((kY p s (c7 p - c.length) c).set 1 (UInt8.ofNat (c7 p - c.length)))=pn p:=by
   show pb _ 0=pb p 0;grind
  have iU:c7 ((kY p s (c7 p - c.length) c).set 1 (UInt8.ofNat (c7 p - c.length)))=c7 p - c.length:=by
   show pb _ 1=_;grind
  refine ⟨c7 p - c.length,⟨by grind,by omega,by omega,by omega,by omega,by omega,?_,?_,by omega,by omega,by omega,λi hi s9=>?_,λi hi s9 ze=>?_,λj j1 j2 j3=>?_⟩,λj hj=>?_⟩
  ·show pb _ _=_;grind
  ·show pb _ _=_;grind
  ·constructor
   ·show pb _ _=pb _ _;grind
   ·show pb _ _=pb _ _;grind
  ·have:=h.slot i hi ze;omega
  all_goals grind
theorem zK {p c:List UInt8} {s:Nat} (h:gt p) (hs:s < pn p) (hz:a_ p s≠0) (mj:1<=c.length) (hc:ri p s c=0):gt (xX p s c)/\(∀ i,cellOf (xX p s c) i=if i=s then c else cellOf p i):=by
 obtain ⟨a,t,hb⟩:=RB h hs hz mj hc;exact ⟨t.ok h,t.cells h hb⟩
def tm (q:List UInt8):Nat->Nat
 | 0=>0
 | m+1=>if a_ q m=0 then tm q m else m+1
def sG (p:List UInt8) (s:Nat):List UInt8:=(p.set (2+2*s) 0).set (3+2*s) 0
def rj (p:List UInt8) (s:Nat):List UInt8:=(sG p s).set 0 (UInt8.ofNat (tm (sG p s) (pn p)))
theorem Ds (q:List UInt8):∀ m,tm q m<=m/\(∀ i,tm q m<=i->i < m->a_ q i=0)/\(0 < tm q m->a_ q (tm q m - 1)≠0)
 | 0=>by grind [tm]
 | m+1=>by
  simp only[tm];obtain ⟨h1,h2,h3⟩:=Ds q m;grind
theorem Ha {p:List UInt8} {s:Nat} (h:gt p) (hs:s < pn p):gt (rj p s)/\(∀ i,cellOf (rj p s) i=if i=s then [] else cellOf p i):=by
 have FZ:=h.hi;have vN:=h.lo;have hn:=h.n;have hlen:=h.len
 have JR:∀ j,pb (sG p s) j=if j=3+2*s\/j=2+2*s then 0 else pb p j:=λj=>by
  grind [sG,pa]
 have Y7:(sG p s).length=64:=by grind [sG]
 obtain ⟨t1,t2,t3⟩:=Ds (sG p s) (pn p)
 have hb:∀ j,pb (rj p s) j=if j=0 then tm (sG p s) (pn p) else if j=3+2*s\/j=2+2*s then 0 else pb p j:=λj=>by
  grind [rj,pa,ofNat_toNat]
 have Gf:pn (rj p s)=tm (sG p s) (pn p):=by show pb _ 0=_;grind
 have iU:c7 (rj p s)=c7 p:=by show pb _ 1=pb p 1;grind
 have hz0:∀ i,a_ (rj p s) i=a_ (sG p s) i:=λi=>by
  show pb _ _=pb _ _;grind
 have hzs:a_ (rj p s) s=0/\pat (rj p s) s=0:=by
  constructor
  ·show pb _ _=_;grind
  ·show pb _ _=_;grind
 have TH:∀ i,i≠s->a_ (rj p s) i=a_ p i/\pat (rj p s) i=pat p i:=λi hi=>by
  constructor
  ·show pb _ _=pb _ _;grind
  ·show pb _ _=pb _ _;grind
 have ba:gt (rj p s):=by
  refine ⟨by grind [rj],by omega,by omega,by omega,λi hi hz=>?_,λi hi hz=>?_,λi k hi hk DZ z1 z2=>?_,λhn=>?_⟩
  ·by_cases s9:i=s
   ·grind
   ·obtain ⟨g1,g2⟩:=TH i s9;have:=h.slot i (by omega) (by omega);omega
  ·by_cases s9:i=s
   ·grind
   ·obtain ⟨g1,g2⟩:=TH i s9;have:=h.zero i (by omega) (by omega);omega
  ·have s9:i≠s:=λe=>by grind
   have PP:k≠s:=λe=>by grind
   obtain ⟨g1,g2⟩:=TH i s9;obtain ⟨g3,g4⟩:=TH k PP;have:=h.apart i k (by omega) (by omega) DZ (by omega) (by omega);omega
  grind
 refine ⟨ba,λi=>?_⟩
 by_cases s9:i=s
 ·grind [pY,cellOf]
 ·rw[aP s9];obtain ⟨g1,g2⟩:=TH i s9;by_cases hi:i < pn (rj p s)
  ·have Bk:i < pn p:=by omega
   unfold cellOf;rw[aM hi,aM Bk];refine G_ (oH ba hi) (oH h Bk) g1 λj hj=>?_;have:=h.slot i Bk (by omega);grind
  grind [cellOf,pY]
def zy (p:List UInt8) (s:List UInt8×Nat) (i:Nat):List UInt8×Nat:=if a_ p i=0 then s else (kY s.1 i (s.2 - a_ p i) (iX p i),s.2 - a_ p i)
def ym (p:List UInt8):List UInt8:=p.take (2+2*pn p)++List.replicate (62 - 2*pn p) (0:UInt8)
def jt (p:List UInt8) (k:Nat):List UInt8×Nat:=(List.range k).foldl (zy p) (ym p,64)
def mh (p:List UInt8):List UInt8:=(jt p (pn p)).1.set 1 (UInt8.ofNat (jt p (pn p)).2)
theorem Dt (p:List UInt8) (k:Nat):jt p (k+1)=zy p (jt p k) k:=by
 grind [jt,List.range_succ]
structure aba (p:List UInt8) (k:Nat) (o:List UInt8) (a:Nat):Prop where
 len:o.length=64
 n:pb o 0=pn p
 a:a=64 - mB p k
 sz:∀ i,i < pn p->a_ o i=a_ p i
 Z6:∀ i,i < pn p->(k<=i\/a_ p i=0)->pat o i=pat p i
 new:∀ i,i < k->a_ p i≠0->pat o i=64 - mB p (i+1)/\∀ j,j < a_ p i->pb o (64 - mB p (i+1)+j)=pb p (pat p i+j)
theorem Du {p:List UInt8} (h:gt p):∀ k,k<=pn p->aba p k (jt p k).1 (jt p k).2
 | 0,_=>by
  have hn:=h.n;have hlen:=h.len;have hl:(ym p).length=64:=by grind [ym]
  have hb:∀ j,j < 2+2*pn p->pb (ym p) j=pb p j:=λj hj=>by
   grind [pb,ym]
  refine ⟨hl,hb 0 (by omega),by simp only[mB];rfl,λi hi=>?_,λi hi _=>?_,λi hi=>by omega⟩
  ·exact hb _ (by omega)
  ·exact hb _ (by omega)
 | k+1,hk=>by
  have ih:=Du h k (by omega);rw[Dt];unfold zy;have CO:=Dr h;have abb:=rA p (show k+1<=pn p from hk);have vN:=h.lo;have hn:=h.n;simp only[mB] at abb;by_cases hz:a_ p k=0
  ·rw[aM hz];refine ⟨ih.len,ih.n,?_,ih.sz,λi hi ho=>ih.Z6 i hi (by grind),λi hi Gg=>?_⟩
   ·rw[ih.a];grind [mB]
   ·have:i≠k:=λe=>by grind
    exact ih.new i (by omega) Gg
  ·rw[aP hz];have Ba:(iX p k).length=a_ p k:=oH h (by omega);have ha:=ih.a;have Aj:(jt p k).2 - a_ p k+(iX p k).length<=64:=by omega
   have pL:∀ j,pb (kY (jt p k).1 k ((jt p k).2 - a_ p k) (iX p k)) j=_:=va ih.len (a:=(jt p k).2 - a_ p k) (c:=iX p k) Aj (by omega);refine ⟨qm ih.len _ Aj,?_,by grind [mB],λi hi=>?_,λi hi ho=>?_,λi hi Gg=>?_⟩
   ·rw[pL,aP (by omega),aP (by omega),aP (by omega)];exact ih.n
   ·show pb _ _=_;rw[pL];by_cases DZ:i=k
    ·grind
    ·rw[aP (by omega),aP (by omega),aP (by omega)];exact ih.sz i hi
   ·have DZ:i≠k:=λe=>by grind
    show pb _ _=_;rw[pL,aP (by omega),aP (by omega),aP (by omega)];exact ih.Z6 i hi (by grind)
   ·by_cases DZ:i=k
    ·subst DZ;constructor
     ·show pb _ _=_;grind [mB]
     grind [mB,Dp]
    ·have hm2:=rA p (show i+1<=k by omega);have hm3:=rA p (show i+1<=pn p by omega);obtain ⟨g1,g2⟩:=ih.new i (by omega) Gg;constructor
     ·show pb _ _=_;rw[pL,aP (by omega),aP (by omega),aP (by omega)];exact g1
     grind
theorem sT {p:List UInt8} (h:gt p):gt (mh p)/\(∀ i,cellOf (mh p) i=cellOf p i)/\pn (mh p)=pn p:=by
 have I:=Du h (pn p) (aL _);have CO:=Dr h;have vN:=h.lo;have hn:=h.n;have ha:=I.a
 have hb:∀ j,pb (mh p) j=if j=1 then (jt p (pn p)).2 else pb (jt p (pn p)).1 j:=λj=>by
  unfold mh;rw[pa,I.len,ofNat_toNat (by omega)];grind
 have Gf:pn (mh p)=pn p:=by show pb _ 0=_;rw[hb,aP (by omega)];exact I.n
 have iU:c7 (mh p)=64 - mB p (pn p):=by show pb _ 1=_;grind
 have hz:∀ i,i < pn p->a_ (mh p) i=a_ p i:=λi hi=>by show pb _ _=_;rw[hb,aP (by omega)];exact I.sz i hi
 have nQ:∀ i,i < pn p->a_ p i≠0->pat (mh p) i=64 - mB p (i+1):=λi hi Gg=>by show pb _ _=_;rw[hb,aP (by omega)];exact (I.new i hi Gg).1
 have ba:gt (mh p):=by
  refine ⟨by unfold mh;rw[aZ];exact I.len,by omega,by omega,by omega,λi hi Gg=>?_,λi hi Gg=>?_,λi k hi hk DZ z1 z2=>?_,λhn=>?_⟩
  ·have h1:=hz i (by omega);have h2:=nQ i (by omega) (by omega);have h3:=rA p (show i+1<=pn p by omega);grind [mB]
  ·have h1:=hz i (by omega);show pb _ _=_;rw[hb,aP (by omega)];exact (I.Z6 i (by omega) (Or.inr (by omega))).trans (h.zero i (by omega) (by omega))
  ·have h1:=hz i (by omega);have h2:=nQ i (by omega) (by omega);have h3:=hz k (by omega);have h4:=nQ k (by omega) (by omega);have e1:mB p (i+1)=mB p i+a_ p i:=rfl;have e2:mB p (k+1)=mB p k+a_ p k:=rfl;have m1:=rA p (show i+1<=pn p by omega);have m2:=rA p (show k+1<=pn p by omega);rcases Nat.lt_or_gt_of_ne DZ with h6 | h6
   ·have:=rA p (show i+1<=k from h6);omega
   ·have:=rA p (show k+1<=i from h6);omega
  ·rw[Gf,hz _ (by omega)];exact h.last (by omega)
 refine ⟨ba,λi=>?_,Gf⟩
 unfold cellOf;rw[Gf];by_cases hi:i < pn p
 ·rw[aM hi,aM hi];refine G_ (oH ba (by omega)) (oH h hi) (hz i hi) λj hj=>?_;have h1:=hz i hi;have Gg:a_ p i≠0:=by omega
  rw[nQ i hi Gg,hb,aP (by
   have:=rA p (show i+1<=pn p by omega)
   omega)]
  exact (I.new i hi Gg).2 j (by omega)
 grind
def rm:List UInt8:=((List.replicate 64 (0:UInt8)).set 0 0).set 1 64
theorem Dv:gt rm/\∀ i,cellOf rm i=[]:=by
 refine ⟨tK.1 (by decide +kernel),λi=>?_⟩
 unfold cellOf;rw[aP (by show ¬ i < 0;omega)]
end OT
namespace OT
open Go
theorem Kh {i:Nat} (h:i < 1000):af ((3:Int)+af ((2:Int)*(i:Int)))=((3+2*i:Nat):Int):=by
 grind [a7]
theorem AH {i:Nat} (h:i < 1000):af ((2:Int)+af ((2:Int)*(i:Int)))=((2+2*i:Nat):Int):=by
 grind [a7]
theorem Bt (p:List UInt8) (i:Nat):af ((pb p i:Nat):Int)=((pb p i:Nat):Int):=by
 grind [l7,a7]
theorem dp {R:Type} {p:List UInt8} {i:Nat} (h:i < p.length) (K:UInt8->Option R):(p[i]?).bind K=K p[i]:=by grind
section
variable {p:List UInt8} (hp:p.length=64)
include hp
theorem ns:cu.ab (p,())=some ((pn p:Int),()):=by
 refine ag (k:=0) λk _=>(cu.ae k _).trans ?_;show cu.p _=_;unfold cu.p;simp only[dp (show 0 < p.length by omega),(i9 (show 0 < p.length by omega)).2,Bt];rfl
theorem tL:e8.ab (p,())=some ((pn p:Int),()):=by
 refine ag (k:=0) λk _=>(e8.ae k _).trans ?_;show e8.p _=_;unfold e8.p;simp only[dp (show 0 < p.length by omega),(i9 (show 0 < p.length by omega)).2,Bt];rfl
theorem FK:kq.ab (p,())=some ((c7 p:Int),()):=by
 refine ag (k:=0) λk _=>(kq.ae k _).trans ?_;show kq.p _=_;unfold kq.p;simp only[dp (show 1 < p.length by omega),(i9 (show 1 < p.length by omega)).2,Bt];rfl
theorem pQ {i:Nat} (hi:i < 16):bt.ab (p,(i:Int),())=some ((a_ p i:Int),()):=by
 refine ag (k:=0) λk _=>(bt.ae k _).trans ?_;show bt.p _=_;unfold bt.p;simp only[Kh (show i < 1000 by omega),aK,aI,aC,dp (show 3+2*i < p.length by omega),(i9 (show 3+2*i < p.length by omega)).2,Bt];rfl
theorem yI {i:Nat} (hi:i < 16):g_.ab (p,(i:Int),())=some ((pat p i:Int),()):=by
 refine ag (k:=0) λk _=>(g_.ae k _).trans ?_;show g_.p _=_;unfold g_.p;simp only[AH (show i < 1000 by omega),aK,aI,aC,dp (show 2+2*i < p.length by omega),(i9 (show 2+2*i < p.length by omega)).2,Bt];rfl
theorem AI {i:Nat} (hi:i < 16):lw.ab (p,(i:Int),())=some ((pat p i:Int),(a_ p i:Int),()):=by
 refine ag (k:=0) λk _=>(lw.ae k _).trans ?_;show lw.p _=_;unfold lw.p;simp only[AH (show i < 1000 by omega),Kh (show i < 1000 by omega),aK,aI,aC,dp (show 2+2*i < p.length by omega),(i9 (show 2+2*i < p.length by omega)).2,dp (show 3+2*i < p.length by omega),(i9 (show 3+2*i < p.length by omega)).2,Bt];rfl
theorem VN {i:Nat} (hi:i < 16):sP.ab (p,(i:Int),())=some (xo p i,()):=by
 refine ag (k:=0) λk _=>(sP.ae k _).trans ?_;grind [sP.p,xo,l7,pat,a_,a7,yI,pQ,FK,decide]
theorem TJ {i j:Nat} (hi:i < 16) (hj:j < 16):qe.ab (p,(i:Int),(j:Int),())=some (tC p i j,()):=by
 refine ag (k:=0) λk _=>(qe.ae k _).trans ?_;show qe.p _=_;unfold qe.p tC;have h1:pat p i < 256:=l7 p _;have h2:a_ p i < 256:=l7 p _;have h3:pat p j < 256:=l7 p _;have h4:a_ p j < 256:=l7 p _;have hw:af ((pat p i:Int)+(a_ p i:Int))=((pat p i+a_ p i:Nat):Int):=by grind [a7]
 have Be:af ((pat p j:Int)+(a_ p j:Int))=((pat p j+a_ p j:Nat):Int):=by grind [a7]
 simp only[yI hp hi,pQ hp hi,yI hp hj,pQ hp hj,aA,hw,Be];grind [decide]
end
theorem uB {O:Type} (q:Nat->Bool) (bad e:O):∀ (xs:List Nat) (i:Nat),b_ (λ_ (_:Unit) x=>if q x then .inr () else .inl bad) (λ_=>e) i xs ()=if xs.all q then e else bad:=λxs i=>so q bad (λ_=>e) xs i
theorem OF (p:List UInt8) (hl:p.length<=maxLen):cw.ab (p,())=some (xp p,()):=by
 refine ag (k:=100) λk hk=>(cw.ae k _).trans ?_;unfold cw.p xp;have e0:decide ((p.length:Int)=64)=decide (p.length=64):=by grind
 rw[e0];by_cases hp:p.length=64;rotate_left
 ·grind
 have hn:pn p < 256:=l7 p 0;have vN:c7 p < 256:=l7 p 1;have hw:af ((2:Int)+af ((2:Int)*(pn p:Int)))=((2+2*pn p:Nat):Int):=AH (by omega);simp only[hp,aG,aN,aD,ns hp,FK hp,aA,hw,aI];by_cases c1:pn p<=16;rotate_left
 ·grind
 have n1:¬ ((16:Int) < (pn p:Int)):=by omega
 simp only[n1,aE,aD,c1,dQ];by_cases c2:2+2*pn p<=c7 p;rotate_left
 ·grind
 have n2:¬ ((c7 p:Int) < ((2+2*pn p:Nat):Int)):=by omega
 simp only[n2,aE,aD,c2,dQ];by_cases c3:c7 p<=64;rotate_left
 ·grind
 have n3:¬ ((64:Int) < (c7 p:Int)):=by omega
 simp only[n3,aE,aD,c3,aI]
 have inner:∀ (self:((List UInt8)×Int×Int)->Option cw.Out) (e2:((List UInt8)×Int)->Option cw.Out) (i:Nat) (hi:i < pn p),cw.r2 k self e2 (p,()) p (pn p:Int) (i:Int) (0:Int)=if (List.range i).all (tC p i) then self (p,(pn p:Int),af ((i:Int)+1)) else some ((8:Int),()):=λself e2 i hi=>by
  have:=dz (B:=λgk v=>cw.b2 gk (λz=>cw.q1 self e2 (p,()) p (pn p:Int) (i:Int) z) (p,()) p (pn p:Int) (i:Int) v) (List.range i) (λ(_:Unit) (j:Int)=>j) (λ_ _ x=>if tC p i x then .inr () else .inl (some ((8:Int),()))) (λ_=>self (p,(pn p:Int),af ((i:Int)+1))) (λ_ _=>True) (by grind)
   (λj hj s gk _=>by
    grind [cw.b2,TJ])
   (λ_ _ _ _ _ _=>trivial) (λs gk _=>by
    rw[cG];show cw.b2 _ _ _ _ _ _ _=_;unfold cw.b2;simp only[aX,aE,aD]
    rfl) () trivial k (by grind)
  rw[uB] at this;exact this
 have outer:cw.r1 k (p,()) (pn p:Int) (p,(pn p:Int),(0:Int))=if (List.range (pn p)).all (λi=>(List.range i).all (tC p i)) then cw.q2 (p,()) (p,(pn p:Int)) else some ((8:Int),()):=by
  have:=dz (B:=λself v=>cw.B1 k self (λz=>cw.q2 (p,()) z) (p,()) v) (List.range (pn p)) (λ(_:Unit) (i:Int)=>(p,(pn p:Int),i)) (λ_ _ x=>if (List.range x).all (tC p x) then .inr () else .inl (some ((8:Int),()))) (λ_=>cw.q2 (p,()) (p,(pn p:Int))) (λ_ _=>True) (by grind)
   (λi hi s self _=>by
    rw[cG] at hi;show cw.b1 _ _ _ _ _=_
    grind [cw.b1])
   (λ_ _ _ _ _ _=>trivial) (λs self _=>by
    rw[cG];show cw.b1 _ _ _ _ _=_
    grind [cw.b1]) () trivial k (by grind)
  rw[uB] at this;exact this
 have first:cw.r0 k (p,()) (pn p:Int) (0:Int)=if (List.range (pn p)).all (xo p) then cw.r1 k (p,()) (pn p:Int) (p,(pn p:Int),(0:Int)) else some ((3:Int),()):=by
  have:=dz (B:=λself v=>cw.b0 self (λz=>cw.Q0 k (p,()) (pn p:Int) z) (p,()) (pn p:Int) v) (List.range (pn p)) (λ(_:Unit) (i:Int)=>i) (λ_ _ x=>if xo p x then .inr () else .inl (some ((3:Int),()))) (λ_=>cw.r1 k (p,()) (pn p:Int) (p,(pn p:Int),(0:Int))) (λ_ _=>True) (by grind)
   (λi hi s self _=>by
    grind [cw.b0,VN])
   (λ_ _ _ _ _ _=>trivial) (λs self _=>by
    rw[cG];show cw.b0 _ _ _ _ _=_;unfold cw.b0;simp only[aX,aE,aD]
    rfl) () trivial k (by grind)
  rw[uB] at this;exact this
 grind [cw.q2,a7,pQ,a_]
theorem EL {S O:Type} (q:Nat->Bool) (g:Nat->S) (bad e:O):∀ (xs:List Nat) (i:Nat) (s:S),b_ (λ_ s x=>if q x then .inl bad else .inr (g x)) (λ_=>e) i xs s=if xs.any q then bad else e
 | [],_,_=>rfl
 | x::xs,i,s=>by
  simp only[b_,gN];by_cases h:q x=true
  ·simp[h]
  ·simp[h,EL q g bad e xs (i+1)]
def xY (p:List UInt8) (i t:Nat):List Bool:=(List.range 64).map λj=>sS p i j||decide (pat p i<=j/\j < pat p i+t)
def FL (p:List UInt8) (i:Nat):Bool:=(List.range (a_ p i)).any λt=>sS p i (pat p i+t)
theorem TK (p:List UInt8) (i:Nat):xY p i 0=(List.range 64).map (sS p i):=by
 grind [xY,List.map_congr_left]
theorem TM (p:List UInt8) (i:Nat):xY p i (a_ p i)=(List.range 64).map (sS p (i+1)):=rfl
theorem Hc (p:List UInt8) (i t j:Nat) (h:j < 64):(xY p i t)[j]?=some (sS p i j||decide (pat p i<=j/\j < pat p i+t)):=by
 grind [xY]
theorem Hd (p:List UInt8) (i t:Nat):(xY p i t).length=64:=by simp[xY]
theorem TN (p:List UInt8) (i t:Nat) (h:pat p i+t < 64):(xY p i t).set (pat p i+t) true=xY p i (t+1):=by
 refine eF λj=>?_;rw[eH,Hd];by_cases hj:j < 64
 ·rw[Hc p i t j hj,Hc p i (t+1) j hj];by_cases e:pat p i+t=j
  ·subst e;grind
  ·rw[aP e];have:(pat p i<=j/\j < pat p i+t)↔(pat p i<=j/\j < pat p i+(t+1)):=by omega
   grind
 grind [Hd]
theorem MX {p:List UInt8}:∀ {k j:Nat},sS p k j=true↔∃ i,i < k/\pat p i<=j/\j < pat p i+a_ p i
 | 0,j=>by simp[sS]
 | k+1,j=>by
  simp only[sS,dC,bI,MX (k:=k)];grind
theorem RD (p:List UInt8) (i:Nat):FL p i=!(List.range i).all (tC p i):=by
 rw[iM];simp only[FL,fC,cH,MX,cC,List.all_eq_false,Bool.not_eq_true];constructor
 ·rintro ⟨t,ht,k,hk,h1,h2⟩;refine ⟨k,hk,?_⟩
  grind [tC]
 ·rintro ⟨k,hk,h⟩;have hn:¬ (a_ p i≠0->a_ p k≠0->pat p i+a_ p i<=pat p k\/pat p k+a_ p k<=pat p i):=λh2=>by rw[Do.2 h2] at h;cases h
  by_cases c1:a_ p i=0
  ·grind
  ·by_cases c2:a_ p k=0
   ·grind
   ·have c3:¬ (pat p i+a_ p i<=pat p k):=λh3=>hn λ_ _=>.inl h3;have c4:¬ (pat p k+a_ p k<=pat p i):=λh3=>hn λ_ _=>.inr h3;exact ⟨max (pat p i) (pat p k) - pat p i,by omega,k,hk,by omega,by omega⟩
theorem VO (p:List UInt8) (n:Nat):(List.range n).any (FL p)=!(List.range n).all (λi=>(List.range i).all (tC p i)):=by
 grind [RD]
theorem yn (p:List UInt8) (hl:p.length<=maxLen):bh.ab (p,())=some (xp p,()):=by
 refine ag (k:=300) λk hk=>(bh.ae k _).trans ?_;unfold bh.p xp;have e0:decide ((p.length:Int)=64)=decide (p.length=64):=by grind
 rw[e0];by_cases hp:p.length=64;rotate_left
 ·grind
 have hn:pn p < 256:=l7 p 0;have vN:c7 p < 256:=l7 p 1;have hw:af ((2:Int)+af ((2:Int)*(pn p:Int)))=((2+2*pn p:Nat):Int):=AH (by omega);have YI:((p[1]'(by omega)).toNat)=c7 p:=(i9 (show 1 < p.length by omega)).2;have hwl:af (c7 p:Int)=(c7 p:Int):=Bt p 1;simp only[hp,aG,aN,aD,dp (show 1 < p.length by omega),YI,hwl,tL hp,aA,hw,aI];by_cases c1:pn p<=16;rotate_left
 ·grind
 have n1:¬ ((16:Int) < (pn p:Int)):=by omega
 simp only[n1,aE,aD,c1,dQ];by_cases c2:2+2*pn p<=c7 p;rotate_left
 ·grind
 have n2:¬ ((c7 p:Int) < ((2+2*pn p:Nat):Int)):=by omega
 simp only[n2,aE,aD,c2,dQ];by_cases c3:c7 p<=64;rotate_left
 ·grind
 have n3:¬ ((64:Int) < (c7 p:Int)):=by omega
 simp only[n3,aE,aD,c3,aI]
 have first:bh.r0 k (p,()) (pn p:Int) (c7 p:Int) (0:Int)=if (List.range (pn p)).all (xo p) then bh.Q0 k (p,()) (pn p:Int) (c7 p:Int) () else some ((3:Int),()):=by
  have:=dz (B:=λself v=>bh.b0 self (λz=>bh.Q0 k (p,()) (pn p:Int) (c7 p:Int) z) (p,()) (pn p:Int) (c7 p:Int) v) (List.range (pn p)) (λ(_:Unit) (i:Int)=>i) (λ_ _ x=>if xo p x then .inr () else .inl (some ((3:Int),()))) (λ_=>bh.Q0 k (p,()) (pn p:Int) (c7 p:Int) ()) (λ_ _=>True) (by grind)
   (λi hi s self _=>by
    rw[cG] at hi
    grind [bh.b0,pat,l7,a_,a7,AI,xo])
   (λ_ _ _ _ _ _=>trivial) (λs self _=>by
    grind [bh.b0]) () trivial k (by grind)
  rw[uB] at this;exact this
 rw[first];by_cases lT:(List.range (pn p)).all (xo p)=true;rotate_left
 ·grind
 simp only[lT,aI];have hs:∀ i,i < pn p->a_ p i≠0->c7 p<=pat p i/\pat p i+a_ p i<=64:=λi hi=>((EK (by omega)).1 (bK.1 lT i (cH.2 hi))).1
 have inner:∀ (self:((List UInt8)×Int×(List Bool)×Int×Int)->Option bh.Out) (e2:((List UInt8)×Int)->Option bh.Out) (i:Nat) (hi:i < pn p),bh.r2 k self e2 (p,()) p (pn p:Int) (pat p i:Int) (a_ p i:Int) (pn p:Int) (i:Int) ((List.range 64).map (sS p i),(pat p i:Int))=if FL p i then some ((8:Int),()) else self (p,(pn p:Int),(List.range 64).map (sS p (i+1)),(pn p:Int),af ((i:Int)+1)):=λself e2 i hi=>by
  have h1:pat p i < 256:=l7 p _;have h2:a_ p i < 256:=l7 p _;have Be:af ((pat p i:Int)+(a_ p i:Int))=((pat p i+a_ p i:Nat):Int):=by grind [a7]
  have:=dz (B:=λgk v=>bh.b2 gk (λz=>bh.q1 self e2 (p,()) p (pn p:Int) (pat p i:Int) (a_ p i:Int) (pn p:Int) (i:Int) z) (p,()) p (pn p:Int) (pat p i:Int) (a_ p i:Int) (pn p:Int) (i:Int) v) (List.range (a_ p i)) (λ(s:List Bool) (t:Int)=>(s,(pat p i:Int)+t)) (λ_ s t=>if sS p i (pat p i+t) then .inl (some ((8:Int),())) else .inr (xY p i (t+1))) (λ_=>self (p,(pn p:Int),(List.range 64).map (sS p (i+1)),(pn p:Int),af ((i:Int)+1))) (λt s=>s=xY p i t) (by grind)
   (λt ht s gk hI=>by
    rw[cG] at ht;subst hI;obtain ⟨g1,g2⟩:=hs i hi (by omega);show bh.b2 _ _ _ _ _ _ _ _ _ _=_;unfold bh.b2;have ax:(pat p i:Int)+(t:Int) < ((pat p i+a_ p i:Nat):Int):=by omega
    have Gh:(0:Int)<=(pat p i:Int)+(t:Int):=by omega
    have hlen:(pat p i:Int)+(t:Int) < ((xY p i t).length:Int):=by rw[Hd];omega
    have htn:((pat p i:Int)+(t:Int)).toNat=pat p i+t:=by omega
    have Zk:¬ (pat p i<=pat p i+t/\pat p i+t < pat p i+t):=by omega
    have hwt:af ((pat p i:Int)+(t:Int)+1)=(pat p i:Int)+af ((t:Int)+1):=by grind [a7]
    grind [Hc,TN])
   (λt ht s s' hI hf=>by
    grind) (λs gk hI=>by
    rw[cG] at hI ⊢;show bh.b2 _ _ _ _ _ _ _ _ _ _=_;unfold bh.b2;have ax:¬ ((pat p i:Int)+(a_ p i:Int) < ((pat p i+a_ p i:Nat):Int)):=by omega
    simp only[Be,ax,aE,aD];rw[hI,TM]
    rfl) (xY p i 0) rfl k (by grind)
  rw[EL] at this;rw[<-TK];simp only[Int.add_zero] at this;exact this
 have outer:bh.r1 k (p,()) (pn p:Int) (c7 p:Int) (p,(pn p:Int),List.replicate 64 false,(pn p:Int),(0:Int))=if (List.range (pn p)).any (FL p) then some ((8:Int),()) else bh.q2 (p,()) (p,(pn p:Int)):=by
  have:=dz (B:=λself v=>bh.B1 k self (λz=>bh.q2 (p,()) z) (p,()) v) (List.range (pn p)) (λ(s:List Bool) (i:Int)=>(p,(pn p:Int),s,(pn p:Int),i)) (λ_ s x=>if FL p x then .inl (some ((8:Int),())) else .inr ((List.range 64).map (sS p (x+1)))) (λ_=>bh.q2 (p,()) (p,(pn p:Int))) (λi s=>s=(List.range 64).map (sS p i)) (by grind)
   (λi hi s self hI=>by
    rw[cG] at hi;subst hI;show bh.b1 _ _ _ _ _=_
    grind [bh.b1,AI])
   (λi hi s s' hI hf=>by
    grind) (λs self _=>by
    rw[cG];show bh.b1 _ _ _ _ _=_
    grind [bh.b1]) (List.replicate 64 false) (by show _=(List.range 64).map (λ_=>false);decide) k (by grind)
  rw[EL] at this;exact this
 show bh.q0 _ _ _ _ _=_;unfold bh.q0;rw[outer,VO];by_cases Ep:(List.range (pn p)).all (λi=>(List.range i).all (tC p i))=true;rotate_left
 ·grind
 simp only[Ep,aN,aJ,aO,aI];show bh.q2 _ _=_;unfold bh.q2;by_cases h0:0 < pn p
 ·have ax:(0:Int) < (pn p:Int):=by omega
  have hwm:af (af ((2:Int)*(pn p:Int))+1)=((2*pn p+1:Nat):Int):=by grind [a7]
  have hz:((p[2*pn p+1]'(by omega)).toNat)=a_ p (pn p - 1):=by
   rw[(i9 (show 2*pn p+1 < p.length by omega)).2];show pb p _=pb p _;congr 1;omega
  simp only[ax,aG,aH,hwm,aK,aI,aC,dp (show 2*pn p+1 < p.length by omega),hz,h0,dQ];grind
 grind
end OT
namespace OT
open Go
theorem og {V S O:Type} {B:(V->Option O)->V->Option O} (n:Nat) (enc:S->Int->V) (f:Nat->S->Sum (Option O) S) (fin:S->Option O) (I:Nat->S->Prop) (hn:n<=1048576)
  (i7:∀ (i:Nat),i < n->∀ (s:S) self,I i s->B self (enc s (i:Int))=match f i s with | .inl o=>o | .inr s'=>self (enc s' (af ((i:Int)+1))))
  (hI:∀ (i:Nat),i < n->∀ (s s':S),I i s->f i s=.inr s'->I (i+1) s')
  (sO:∀ (s:S) self,I n s->B self (enc s (n:Int))=fin s) (s:S) (h0:I 0 s) (k:Nat) (hk:n < k):al B k (enc s 0)=b_ (λ_ s x=>f x s) fin 0 (List.range n) s:=
 dz (List.range n) enc (λ_ s x=>f x s) fin I (by rw[au,cG];omega)
  (λi hi s self h=>by rw[cG] at hi;simp only[List.getElem_range];exact i7 i hi s self h)
  (λi hi s s' h hf=>by rw[cG] at hi;simp only[List.getElem_range] at hf;exact hI i hi s s' h hf)
  (λs self h=>by rw[cG] at h ⊢;exact sO s self h) s h0 k (by rw[cG];exact hk)
theorem Dw {O α β:Type} (g:α->List β) (fin:List β->O):∀ (xs:List α) (i:Nat) (s:List β),b_ (λ_ s x=>.inr (s++g x)) fin i xs s=fin (s++xs.flatMap g)
 | [],_,s=>by simp[b_]
 | x::xs,i,s=>by simp only[b_];rw[Dw g fin xs (i+1)];simp[bN]
abbrev yX:Row:=((0:Int),(0:Int),(0:Int),([]:List UInt8),())
abbrev Dx:sq:=((0:Int),(0:Int),(0:Int),(0:Int),yX,())
abbrev Dy:sq:=((5:Int),(0:Int),(0:Int),(0:Int),yX,())
def sU (d:List UInt8):Row:=((pb d 1:Int),(pb d 2:Int),(pb d 3:Int)*256+(pb d 4:Int),d.drop 6,())
def di (d:List UInt8):sq×Bool:=
 if d.length=3/\pb d 0=1 then (((0:Int),(1:Int),(pb d 1:Int),(pb d 2:Int),yX,()),decide (pb d 1<=11)&&decide (pb d 2<=15))
 else if d.length < 6\/pb d 0=1\/2 < pb d 0\/d.length≠6+pb d 5 then (Dx,false)
 else (((0:Int),(pb d 0:Int),(0:Int),(0:Int),sU d,()),decide (jY (sU d)=0))
theorem VP {a b:Nat} (ha:a < 256) (hb:b < 256):((BitVec.ofInt 64 (af ((a:Int)*2 ^ 8)) ||| BitVec.ofInt 64 (b:Int)).toNat:Int)=(a:Int)*256+(b:Int):=by
 have e1:af ((a:Int)*2 ^ 8)=((2 ^ 8*a:Nat):Int):=by rw[a7 (by omega)];omega
 rw[e1,BitVec.toNat_or]
 have e2:(BitVec.ofInt 64 ((2 ^ 8*a:Nat):Int)).toNat=2 ^ 8*a:=by
  rw[fF];omega
 have e3:(BitVec.ofInt 64 (b:Int)).toNat=b:=by
  rw[fF];omega
 rw[e2,e3,<- Nat.two_pow_add_eq_or_of_lt (by omega) a];omega
theorem AJ (d:List UInt8) (hd:d.length<=100):lX.ab (d,())=some ((di d).1,(di d).2,()):=by
 refine ag (k:=0) λk _=>(lX.ae k _).trans ?_;show lX.p _=_;unfold lX.p di;have b0:=l7 d 0;have b1:=l7 d 1;have b2:=l7 d 2;have b3:=l7 d 3;have b4:=l7 d 4;have b5:=l7 d 5;by_cases h3:d.length=3
 ·have e3:decide ((d.length:Int)=3)=true:=aV (by omega);have e6:decide ((d.length:Int) < 6)=true:=aV (by omega);have Z7:d.length < 6:=by omega
  simp only[e3,e6,aH,dp (show 0 < d.length by omega),(i9 (show 0 < d.length by omega)).2];by_cases h1:pb d 0=1
  ·have e1:decide ((pb d 0:Int)=1)=true:=aV (by omega);rw[aM ⟨h3,h1⟩];simp only[e1,aH,dp (show 1 < d.length by omega),(i9 (show 1 < d.length by omega)).2,dp (show 2 < d.length by omega),(i9 (show 2 < d.length by omega)).2,Bt]
   have iU:qf.ab ((pb d 1:Int),(pb d 2:Int),())=some (decide (pb d 1<=11)&&decide (pb d 2<=15),()):=by
    refine ag (k:=0) λk _=>(qf.ae k _).trans ?_;show qf.p _=_;unfold qf.p;simp only[nX,aA];have g1:decide ((0:Int)<=(pb d 1:Int))=true:=aV (by omega);have g2:decide ((0:Int)<=(pb d 2:Int))=true:=aV (by omega);have g3:decide ((pb d 1:Int)<=11)=decide (pb d 1<=11):=by rw[eB];omega
    have g4:decide ((pb d 2:Int)<=15)=decide (pb d 2<=15):=by rw[eB];omega
    rw[g1,g2,g3,g4];cases decide (pb d 1<=11) <;> rfl
   simp only[iU,aA]
  ·have e1:decide ((pb d 0:Int)=1)=false:=aY (by omega);rw[aP (λh=>h1 h.2),aM (Or.inl Z7)];simp only[e1,aD]
 ·have e3:decide ((d.length:Int)=3)=false:=aY (by omega);simp only[e3,aD,h3,hU,aO];by_cases h6:d.length < 6
  ·have e6:decide ((d.length:Int) < 6)=true:=aV (by omega);simp only[e6,aH,h6,iT,aI]
  ·have e6:decide ((d.length:Int) < 6)=false:=aY (by omega);simp only[e6,aD,dp (show 0 < d.length by omega),(i9 (show 0 < d.length by omega)).2,h6,iS];by_cases h1:pb d 0=1
   ·have e1:decide ((pb d 0:Int)=1)=true:=aV (by omega);rw[aM (Or.inl h1)];simp only[e1,aH]
   have e1:decide ((pb d 0:Int)=1)=false:=aY (by omega);simp only[e1,aD,h1,iS];by_cases h2:2 < pb d 0
   ·have e2:decide ((2:Int) < (pb d 0:Int))=true:=aV (by omega);simp only[e2,aH,h2,iT,aI]
   have e2:decide ((2:Int) < (pb d 0:Int))=false:=aY (by omega);have w6:af ((6:Int)+(pb d 5:Int))=((6+pb d 5:Nat):Int):=by rw[a7 (by omega)];omega
   simp only[e2,aD,h2,iS,dp (show 5 < d.length by omega),(i9 (show 5 < d.length by omega)).2,Bt,w6];by_cases h5:d.length=6+pb d 5;rotate_left
   ·have e5:decide ((d.length:Int)=((6+pb d 5:Nat):Int))=false:=aY (by omega);simp only[e5,bA,aH,h5,ne_eq,dM,aI]
   have e5:decide ((d.length:Int)=((6+pb d 5:Nat):Int))=true:=aV (by omega);have h6':(0:Int)<=6/\(6:Int)<=(d.length:Int):=by omega
   have w3:af (af ((pb d 3:Int)*256)+(pb d 4:Int))=(pb d 3:Int)*256+(pb d 4:Int):=by rw[a7 (n:=(pb d 3:Int)*256) (by omega),a7 (by omega)]
   have ht:(d.take d.length).drop 6=d.drop 6:=by rw[fB]
   have hr:jl.ab (sU d,())=some (jY (sU d),()):=zu (sU d) (by rw[au];simp only[sU,bQ];omega);unfold sU at hr;rw[aP (λh=>h h5)]
   simp only[e5,aN,aD,dp (show 1 < d.length by omega),(i9 (show 1 < d.length by omega)).2,dp (show 2 < d.length by omega),(i9 (show 2 < d.length by omega)).2,
    dp (show 3 < d.length by omega),(i9 (show 3 < d.length by omega)).2,dp (show 4 < d.length by omega),(i9 (show 4 < d.length by omega)).2,Bt,w3,ht,hr,aA]
   rw[aM (by omega)];rfl
theorem D0 (d:List UInt8) (hd:d.length<=100):j6.ab (d,())=some (if (di d).2 then (di d).1 else Dy,()):=by
 refine ag (k:=0) λk _=>(j6.ae k _).trans ?_;show j6.p _=_;unfold j6.p;have b0:=l7 d 0;have b1:=l7 d 1;have b2:=l7 d 2;have b3:=l7 d 3;have b4:=l7 d 4;have b5:=l7 d 5;by_cases h3:d.length=3
 ·have e3:decide ((d.length:Int)=3)=true:=aV (by omega);have e6:decide ((d.length:Int) < 6)=true:=aV (by omega);have Z7:d.length < 6:=by omega
  simp only[e3,e6,aH,dp (show 0 < d.length by omega),(i9 (show 0 < d.length by omega)).2];by_cases h1:pb d 0=1
  ·have e1:decide ((pb d 0:Int)=1)=true:=aV (by omega);have hc:di d=(((0:Int),(1:Int),(pb d 1:Int),(pb d 2:Int),yX,()),decide (pb d 1<=11)&&decide (pb d 2<=15)):=by unfold di;rw[aM ⟨h3,h1⟩]
   rw[hc];simp only[e1,aH,dp (show 1 < d.length by omega),(i9 (show 1 < d.length by omega)).2,dp (show 2 < d.length by omega),(i9 (show 2 < d.length by omega)).2,Bt];by_cases c1:pb d 1<=11
   ·have d1:decide ((pb d 1:Int) < 12)=true:=aV (by omega);by_cases c2:pb d 2<=15
    ·have d2:decide ((pb d 2:Int) < 16)=true:=aV (by omega);simp[d1,d2,c1,c2]
    ·have d2:decide ((pb d 2:Int) < 16)=false:=aY (by omega);simp[d1,d2,c1,c2]
   ·have d1:decide ((pb d 1:Int) < 12)=false:=aY (by omega);simp[d1,c1]
  ·have e1:decide ((pb d 0:Int)=1)=false:=aY (by omega);have hc:di d=(Dx,false):=by unfold di;rw[aP (λh=>h1 h.2),aM (Or.inl Z7)]
   rw[hc];simp only[e1,aD,aJ,aO]
 ·have e3:decide ((d.length:Int)=3)=false:=aY (by omega);simp only[e3,aD];by_cases h6:d.length < 6
  ·have e6:decide ((d.length:Int) < 6)=true:=aV (by omega);have hc:di d=(Dx,false):=by unfold di;rw[aP (λh=>h3 h.1),aM (Or.inl h6)]
   rw[hc];simp only[e6,aH,aJ,aO]
  ·have e6:decide ((d.length:Int) < 6)=false:=aY (by omega)
   have hc:di d=if pb d 0=1\/2 < pb d 0\/d.length≠6+pb d 5 then (Dx,false) else (((0:Int),(pb d 0:Int),(0:Int),(0:Int),sU d,()),decide (jY (sU d)=0)):=by
    unfold di;rw[aP (λh=>h3 h.1)];simp only[h6,iS]
   have hlen:∀ i,i < 6->i < d.length:=λi hi=>by omega
   have w6:af ((6:Int)+(pb d 5:Int))=((6+pb d 5:Nat):Int):=by rw[a7 (by omega)];omega
   have h6':(0:Int)<=6/\(6:Int)<=(d.length:Int):=by omega
   have w3:af ((BitVec.ofInt 64 (af ((pb d 3:Int)*2 ^ 8)) ||| BitVec.ofInt 64 (pb d 4:Int)).toNat:Int)=(pb d 3:Int)*256+(pb d 4:Int):=by rw[VP b3 b4,a7 (by omega)]
   have ht:(d.take d.length).drop 6=d.drop 6:=by rw[fB]
   have hr:ef.ab (sU d,())=some (jY (sU d),()):=zw (sU d) (by rw[au];simp only[sU,bQ];omega);unfold sU at hr
   simp only[e6,aD,dp (show 0 < d.length by omega),(i9 (show 0 < d.length by omega)).2,dp (show 5 < d.length by omega),(i9 (show 5 < d.length by omega)).2,dp (show 1 < d.length by omega),(i9 (show 1 < d.length by omega)).2,dp (show 2 < d.length by omega),(i9 (show 2 < d.length by omega)).2,
    dp (show 3 < d.length by omega),(i9 (show 3 < d.length by omega)).2,dp (show 4 < d.length by omega),(i9 (show 4 < d.length by omega)).2,Bt,w6,h6'.2,show (0:Int)<=6 by omega,bR,aI,w3,ht,hr,aA]
   have e5:decide ((d.length:Int)=((6+pb d 5:Nat):Int))=decide (d.length=6+pb d 5):=by rw[eB];omega
   have e0:decide ((pb d 0:Int)=0)=decide (pb d 0=0):=by rw[eB];omega
   have e2:decide ((pb d 0:Int)=2)=decide (pb d 0=2):=by rw[eB];omega
   rw[e5,e0,e2]
   have fin:∀ (c5:d.length=6+pb d 5) (c0:¬ (pb d 0=1\/2 < pb d 0\/d.length≠6+pb d 5)),(bif !decide (jY ((pb d 1:Int),(pb d 2:Int),(pb d 3:Int)*256+(pb d 4:Int),d.drop 6,())=0) then some (Dy,()) else some (((0:Int),(pb d 0:Int),(0:Int),(0:Int),((pb d 1:Int),(pb d 2:Int),(pb d 3:Int)*256+(pb d 4:Int),d.drop 6,()),()),()))=some (if (di d).2 then (di d).1 else Dy,()):=λc5 c0=>by
    rw[hc,aP c0];show (bif !decide (jY (sU d)=0) then some (Dy,()) else some (((0:Int),(pb d 0:Int),(0:Int),(0:Int),sU d,()),()))=some (if decide (jY (sU d)=0)=true then ((0:Int),(pb d 0:Int),(0:Int),(0:Int),sU d,()) else Dy,());cases decide (jY (sU d)=0) <;> rfl
   have bad:(pb d 0=1\/2 < pb d 0\/d.length≠6+pb d 5)->(some (Dy,()):Option j6.Out)=some (if (di d).2 then (di d).1 else Dy,()):=λh=>by
    rw[hc,aM h];rfl
   by_cases c5:d.length=6+pb d 5
   ·rw[aV c5];by_cases c0:pb d 0=0
    ·rw[aV c0];exact fin c5 (by omega)
    ·rw[aY c0];by_cases c2:pb d 0=2
     ·rw[aV c2];exact fin c5 (by omega)
     ·rw[aY c2];exact bad (by omega)
   ·rw[aY c5];have hb:=bad (.inr (.inr c5));cases decide (pb d 0=0) <;> cases decide (pb d 0=2) <;> exact hb
section
variable {p:List UInt8} (hp:gt p)
include hp
theorem xq (s:Nat):ic.ab (p,(s:Int),())=some (decide (s < pn p)&&!decide (a_ p s=0),()):=by
 refine ag (k:=0) λk _=>(ic.ae k _).trans ?_;show ic.p _=_;unfold ic.p;have h0:(0:Int)<=(s:Int):=by omega
 have hn:=hp.n;have hl:=hp.len;simp only[h0,aG,aH,tL hl,aA];by_cases hs:s < pn p
 ·have e1:(s:Int) < (pn p:Int):=by omega
  have e2:decide ((a_ p s:Int)=0)=decide (a_ p s=0):=by rw[eB];omega
  have e3:(p[3+2*s]'(by omega)).toNat=a_ p s:=(i9 (show 3+2*s < p.length by omega)).2;simp only[e1,hs,aG,aH,Kh (show s < 1000 by omega),aK,aI,aC,dp (show 3+2*s < p.length by omega),e3,e2,dJ]
 ·have e1:¬ ((s:Int) < (pn p:Int)):=by omega
  simp only[e1,hs,aE,aD,Bool.false_and]
theorem RF (s:Nat):sx.ab (p,(s:Int),())=some (decide (s < pn p)&&!decide (a_ p s=0),()):=by
 refine ag (k:=0) λk _=>(sx.ae k _).trans ?_;show sx.p _=_;unfold sx.p;have hn:=hp.n;have hl:=hp.len;have hw:af ((pn p:Int) - 1)=(pn p:Int) - 1:=a7 (by omega);have h0:decide ((0:Int)<=(s:Int))=true:=aV (by omega);have h1:decide ((s:Int)<=(pn p:Int) - 1)=decide (s < pn p):=by rw[eB];omega
 simp only[ns hl,aA,hw,nX,h0,h1,dJ];by_cases hs:s < pn p
 ·have e2:decide ((0:Int) < (a_ p s:Int))=!decide (a_ p s=0):=by
   by_cases hz:a_ p s=0
   ·simp[hz]
   ·have:(0:Int) < (a_ p s:Int):=by omega
    rw[aV this,aY hz];rfl
  simp only[hs,aG,aH,pQ hl (show s < 16 by omega),aA,e2,dJ]
 ·simp only[hs,aE,aD,Bool.false_and]
theorem Jz {s:Nat} (hs:s < pn p):pat p s+a_ p s<=64:=by
 by_cases hz:a_ p s=0
 ·have:=hp.zero s hs hz;omega
 ·exact (hp.slot s hs hz).2
theorem yY {s:Nat} (hs:s < pn p):lZ.ab (p,(s:Int),())=some (iX p s,()):=by
 refine ag (k:=0) λk _=>(lZ.ae k _).trans ?_;show lZ.p _=_;unfold lZ.p iX;have hn:=hp.n;have hl:=hp.len;have hc:=Jz hp hs;have hw:af ((pat p s:Int)+(a_ p s:Int))=((pat p s+a_ p s:Nat):Int):=by rw[a7 (by omega)];omega
 have hb:(0:Int)<=(pat p s:Int)/\(pat p s:Int)<=((pat p s+a_ p s:Nat):Int)/\((pat p s+a_ p s:Nat):Int)<=(p.length:Int):=by omega
 simp only[AI hl (show s < 16 by omega),aA,hw];rw[aM hb];simp only[aC,eD];rw[show pat p s+a_ p s - pat p s=a_ p s by omega]
theorem wb {s:Nat} (hs:s < pn p):jS.ab (p,(s:Int),())=some (iX p s,()):=by
 refine ag (k:=0) λk _=>(jS.ae k _).trans ?_;show jS.p _=_;unfold jS.p iX;have hn:=hp.n;have hl:=hp.len;have hc:=Jz hp hs;have hw:af ((pat p s:Int)+(a_ p s:Int))=((pat p s+a_ p s:Nat):Int):=by rw[a7 (by omega)];omega
 have hb:(0:Int)<=(pat p s:Int)/\(pat p s:Int)<=((pat p s+a_ p s:Nat):Int)/\((pat p s+a_ p s:Nat):Int)<=(p.length:Int):=by omega
 simp only[yI hl (show s < 16 by omega),pQ hl (show s < 16 by omega),aA,hw];rw[aM hb,aM (dn (by simp only[bC,bQ,dD];omega))];simp only[aC,eD,bO];rw[show pat p s+a_ p s - pat p s=a_ p s by omega]
end
theorem vU {p:List UInt8} (hp:gt p) {s:Nat} (hs:s < pn p):(iX p s).length<=64:=by
 have:=oH hp hs;have:=Jz hp hs;omega
end OT
namespace OT
open Go
def rk (x:Row):Int×Int:=(x.1,x.2.1)
theorem Dz (a b:Int×Int):gg a b=true↔a.1 < b.1\/(a.1=b.1/\a.2 < b.2):=by grind [gg]
theorem sH {a b c:Int×Int} (h1:gg a b=true) (h2:gg b c=true):gg a c=true:=by
 grind [Dz]
theorem sV (a:Int×Int):gg a a=false:=by
 grind [Dz]
theorem TO {a b:Int×Int} (h:gg a b=true):gg b a=false:=by
 grind [Dz]
theorem xZ {a b:Int×Int} (h1:gg a b=false) (h2:gg b a=false):a=b:=by
 grind [Dz]
def up (xs:List Row):Prop:=xs.Pairwise (λa b=>gg (rk a) (rk b)=true)
theorem Cn {x:Row} {xs:List Row}:up (x::xs)↔(∀ y ∈ xs,gg (rk x) (rk y)=true)/\up xs:=dT
def pos:List Row->Int×Int->Nat
 | [],_=>0
 | x::xs,k=>if gg (rk x) k then pos xs k+1 else 0
theorem EM:∀ (xs:List Row) (k:Int×Int),pos xs k<=xs.length
 | [],_=>aL _
 | x::xs,k=>by simp only[pos];split <;> simp[EM xs k]
theorem EN:∀ (xs:List Row) (k:Int×Int) (i:Nat) (h:i < xs.length),i < pos xs k->gg (rk xs[i]) k=true
 | x::xs,k,i,h,hp=>by
  simp only[pos] at hp;split at hp
  ·rename_i hx
   cases i with
   | zero=>exact hx
   | succ i=>exact EN xs k i (by simpa using h) (by omega)
  ·omega
theorem yJ:∀ (xs:List Row) (k:Int×Int) (i:Nat) (h:i < xs.length),up xs->pos xs k<=i->gg (rk xs[i]) k=false
 | x::xs,k,i,h,hu,hp=>by
  simp only[pos] at hp;split at hp
  ·cases i with
   | zero=>omega
   | succ i=>exact yJ xs k i (by simpa using h) (Cn.1 hu).2 (by omega)
  ·rename_i hx;have hx:gg (rk x) k=false:=by simpa using hx
   cases i with
   | zero=>exact hx
   | succ i=>
    have pj:i < xs.length:=by simpa using h
    have hm:gg (rk x) (rk xs[i])=true:=(Cn.1 hu).1 _ (aU _);grind [sH]
def pW (xs:List Row) (k:Int×Int):Bool:=match xs[pos xs k]? with
 | some x=>decide (rk x=k)
 | none=>false
theorem Co {xs:List Row} {k:Int×Int} (h:pW xs k=true):∃ hp:pos xs k < xs.length,rk xs[pos xs k]=k:=by
 grind [pW]
theorem TP (a b:Row):decide ((if gg (a.1,a.2.1) (b.1,b.2.1) then (-1:Int) else if gg (b.1,b.2.1) (a.1,a.2.1) then 1 else 0) < 0)=gg (rk a) (rk b):=by
 grind [rk]
theorem RG (a b:Row):sameKey a b=decide (rk a=rk b):=by
 grind [sameKey,rk]
theorem half (lo hi:Nat) (h:lo+hi<=4611686018427387904):af ((IntKind.wrap .u64 (af ((lo:Int)+(hi:Int)))).fdiv (2 ^ 1))=(((lo+hi) / 2:Nat):Int):=by
 grind [a7,IntKind.wrap,IntKind.bits]
theorem Ki (xs:List Row) (key:Row) (f:Nat×Int) (hu:up xs) (hl:xs.length<=2000000):bv.ab (xs,key,f,())=some ((pos xs (rk key):Int),pW xs (rk key),()):=by
 have hp:=EM xs (rk key)
 have hq:bv.q0 (xs,key,f,()) (pos xs (rk key):Int)=some ((pos xs (rk key):Int),pW xs (rk key),()):=by
  grind [bv.q0,pW,Dl,Iv,RG]
 refine ag (k:=xs.length+1) λk hk=>(bv.ae k _).trans ?_
 refine sn (B:=λself v=>bv.b0 self (λz=>bv.q0 (xs,key,f,()) z) (xs,key,f,()) v) (λ_=>((pos xs (rk key):Int),pW xs (rk key),()))
  (λv=>∃ lo hi:Nat,v=((lo:Int),(hi:Int))/\lo<=pos xs (rk key)/\pos xs (rk key)<=hi/\hi<=xs.length) (λv=>(v.2 - v.1).toNat) (λv hv self=>?_) k (0,(xs.length:Int)) ⟨0,xs.length,rfl,by omega,hp,by omega⟩ (by simp;omega)
 obtain ⟨lo,hi,rfl,h1,h2,h3⟩:=hv;by_cases ax:lo < hi
 ·right;have z6:(lo:Int) < (hi:Int):=by omega
  have hm:(lo+hi) / 2 < xs.length:=by omega
  have hb:∀ self,bv.b0 self (λz=>bv.q0 (xs,key,f,()) z) (xs,key,f,()) ((lo:Int),(hi:Int))=if gg (rk xs[(lo+hi) / 2]) (rk key) then self (af ((((lo+hi) / 2:Nat):Int)+1),(hi:Int)) else self ((lo:Int),(((lo+hi) / 2:Nat):Int)):=λself=>by
   grind [bv.b0,half,Int.toNat_natCast,Dl,TP]
  cases hc:gg (rk xs[(lo+hi) / 2]) (rk key) with
  | true=>
   refine ⟨((((lo+hi) / 2+1:Nat):Int),(hi:Int)),?_,rfl,⟨_,_,rfl,?_,h2,h3⟩,by grind⟩
   all_goals grind [a7,yJ]
  | false=>
   refine ⟨((lo:Int),(((lo+hi) / 2:Nat):Int)),?_,rfl,⟨_,_,rfl,h1,?_,by omega⟩,by grind⟩
   all_goals grind [EN]
 grind [bv.b0]
def uJ (xs:List Row) (c:Change):Bool:=(pW xs (ck c) == c.1)&&(!pW xs (ck c)||(match xs[pos xs (ck c)]? with | some x=>Ty.eq bd x c.2.1 | none=>true))
def qz (xs:List Row) (c:Change):List Row:=xs.take (pos xs (ck c))++(if c.2.2.1 then [c.2.2.2.1] else [])++xs.drop (pos xs (ck c)+if pW xs (ck c) then 1 else 0)
theorem TQ (c:Change):rk (yG c)=ck c:=yH c
theorem Kj (c:Change) (xs:List Row) (hu:up xs) (hl:xs.length<=2000000):jT.ab (c,xs,())=some (uJ xs c,()):=by
 refine ag (k:=0) λk _=>(jT.ae k _).trans ?_;grind [jT.p,uJ,xm,Ki,TQ,Co]
theorem RH (xs:List Row) (c:Change) (hu:up xs) (hl:xs.length<=2000000):qh.ab (xs,c,())=some (qz xs c,()):=by
 refine ag (k:=0) λk _=>(qh.ae k _).trans ?_;show qh.p _=_;unfold qh.p qz;have hp:=EM xs (ck c);have Au:0<=((pos xs (ck c):Nat):Int)/\((pos xs (ck c):Nat):Int)<=(xs.length:Int):=by omega
 have c1:([]:List Row).length+(List.take (pos xs (ck c)) xs).length<=cg:=dn (by simp;omega);simp only[xm,Ki xs _ _ hu hl,TQ,aA,Au,bR,aI,aC,c1,dV,bO,fB];have c2:(List.take (pos xs (ck c)) xs).length+[c.2.2.2.1].length<=cg:=dn (by simp;omega);have hd:∀ (p7:List Row) (n:Nat),p7.length<=2000001->p7.length+(List.drop n xs).length<=cg:=λp7 n h=>dn (by grind);have hw:af (((pos xs (ck c):Nat):Int)+1)=((pos xs (ck c)+1:Nat):Int):=by grind [a7]
 have c3:=hd (List.take (pos xs (ck c)) xs++[c.2.2.2.1]);have c4:=hd (List.take (pos xs (ck c)) xs);have l3:(List.take (pos xs (ck c)) xs++[c.2.2.2.1]).length<=2000001:=by simp;omega
 have l4:(List.take (pos xs (ck c)) xs).length<=2000001:=by simp;omega
 cases hf:pW xs (ck c) with
 | false=>
  grind
 | true=>
  obtain ⟨iU,_⟩:=Co hf;grind
theorem D1 (a b:Row):nw.ab (a,b,())=some (gg (rk a) (rk b),()):=by
 refine ag (k:=0) λk _=>(nw.ae k _).trans ?_;grind [nw.p,gg,rk]
theorem Yg {xs:List Row} {k:Int×Int} (h:pW xs k=true):∃ y ∈ xs,rk y=k:=by
 obtain ⟨hp,hk⟩:=Co h;grind
theorem PR (k:Int×Int):∀ (xs:List Row) (j:Nat),up xs->b_ (λi (_:Unit) x=>if rk x=k then .inl ((i:Int),()) else .inr ()) (λ_=>((-1:Int),())) j xs ()=if pW xs k then (((j+pos xs k:Nat):Int),()) else (-1,())
 | [],j,_=>by simp[b_,pW]
 | x::xs,j,hu=>by
  have hu:=Cn.1 hu;simp only[b_];by_cases hx:rk x=k
  ·grind [sV,pW,pos]
  ·simp only[hx,aO];rw[PR k xs (j+1) hu.2];grind [pos,pW]
def AK (xs:List Row) (k:Int×Int):Int:=if pW xs k then (pos xs k:Int) else -1
theorem TR (xs:List Row) (t k:Int) (hu:up xs) (hl:xs.length<=2000000):oC.ab (xs,t,k,())=some (AK xs (t,k),()):=by
 refine ag (k:=xs.length+1) λf hf=>(oC.ae f _).trans ?_
 have:=da (B:=λself v=>oC.b0 self (λz=>oC.q0 (xs,t,k,()) z) (xs,t,k,()) v) xs (λ(_:Unit) (i:Int)=>i) (λi _ x=>if rk x=(t,k) then .inl ((i:Int),()) else .inr ()) (λ_=>((-1:Int),())) (λ_ _=>True) (by rw[au];omega)
  (λi hi _ self _=>by
   grind [oC.b0,rk]) (λ_ _ _ _ _ _=>trivial) (λ_ self _=>by
   grind [oC.b0,oC.q0]) () trivial f (by omega)
 rw[PR (t,k) xs 0 hu] at this;have this:oC.r0 f (xs,t,k,()) 0=_:=this;grind [oC.p,AK]
theorem MY {O:Type} (k:Int×Int) (g:Nat->O) (n:Nat):∀ (xs:List Row) (j:Nat),j+xs.length=n->b_ (λi (_:Unit) x=>if gg (rk x) k then .inr () else .inl (g i)) (λ_=>g n) j xs ()=g (j+pos xs k)
 | [],j,h=>by grind [b_,pos]
 | x::xs,j,h=>by
  simp only[b_,pos]
  cases hb:gg (rk x) k with
  | true=>
   simp only[aI];rw[MY k g n xs (j+1) (by grind)];congr 1;omega
  | false=>simp
def qL (xs:List Row) (r:Row):List Row:=xs.take (pos xs (rk r))++[r]++xs.drop (pos xs (rk r))
theorem IA (xs:List Row) (r:Row) (hl:xs.length<=2000000):kQ.ab (xs,r,())=some (qL xs r,()):=by
 refine ag (k:=xs.length+1) λf hf=>(kQ.ae f _).trans ?_
 have hq:∀ i:Nat,i<=xs.length->kQ.q0 (xs,r,()) (i:Int)=some (xs.take i++[r]++xs.drop i,()):=λi hi=>by
  show kQ.q0 _ _=_;unfold kQ.q0;have Au:0<=(i:Int)/\(i:Int)<=(xs.length:Int):=by omega
  have c1:([]:List Row).length+(List.take i xs).length<=cg:=dn (by simp;omega);have c2:(List.take i xs).length+[r].length<=cg:=dn (by simp;omega);have c3:(List.take i xs++[r]).length+(List.drop i xs).length<=cg:=dn (by simp;omega);grind
 have:=da (B:=λself v=>kQ.b0 self (λz=>kQ.q0 (xs,r,()) z) (xs,r,()) v) xs (λ(_:Unit) (i:Int)=>i) (λi _ x=>if gg (rk x) (rk r) then .inr () else .inl (xs.take i++[r]++xs.drop i,())) (λ_=>(xs.take xs.length++[r]++xs.drop xs.length,())) (λ_ _=>True) (by rw[au];omega)
  (λi hi _ self _=>by
   show kQ.b0 _ _ _ _=_;unfold kQ.b0;have ax:(i:Int) < (xs.length:Int):=by omega
   simp only[ax,aG,aH,aK,aI,aC,aB hi,aA,D1]
   cases gg (rk xs[i]) (rk r) <;> grind) (λ_ _ _ _ _ _=>trivial) (λ_ self _=>by
   grind [kQ.b0]) () trivial f (by omega)
 rw[MY (rk r) (λi=>(xs.take i++[r]++xs.drop i,())) xs.length xs 0 (by omega)] at this;refine this.trans ?_;simp[qL]
theorem He (t:Int):∀ (xs:List Row) (j:Nat) (s:List Row),b_ (O:=List Row×Unit) (λi s x=>if (i:Int)=t then .inr s else .inr (s++[x])) (λs=>(s,())) j xs s=(s++(if (j:Int)<=t/\t < j+xs.length then xs.take (t - j).toNat++xs.drop ((t - j).toNat+1) else xs),())
 | [],j,s=>by
  grind [b_]
 | x::xs,j,s=>by
  simp only[b_];by_cases h:(j:Int)=t
  ·have h1:¬ (((j+1:Nat):Int)<=t/\t < ((j+1:Nat):Int)+(xs.length:Int)):=by omega
   have h2:(j:Int)<=t/\t < (j:Int)+((x::xs).length:Int):=by simp;omega
   have h3:(t - j).toNat=0:=by omega
   simp only[h,aI];rw[He t xs (j+1) s,aP h1];grind
  ·simp only[h,aO];rw[He t xs (j+1) (s++[x])];grind
def Hf (xs:List Row) (k:Int×Int):List Row:=if pW xs k then xs.take (pos xs k)++xs.drop (pos xs k+1) else xs
theorem IB (k:Int×Int):∀ (l1 l2:List Row),(∀ x ∈ l1,gg (rk x) k=true)->pos (l1++l2) k=l1.length+pos l2 k
 | [],l2,_=>by simp
 | x::l1,l2,h=>by
  simp only[cL,pos,h x cA,aI,aW];rw[IB k l1 l2 λy hy=>h y (bF _ hy)];omega
theorem AL {xs:List Row} {k:Int×Int} {x:Row} (h:x ∈ xs.take (pos xs k)):gg (rk x) k=true:=by
 obtain ⟨i,hi,e⟩:=cV.1 h;grind [EN]
theorem VQ {xs:List Row} {k:Int×Int} (hu:up xs) {n:Nat} (hn:pos xs k<=n):pos (xs.drop n) k=0:=by
 grind [List.drop_eq_nil_of_le,List.drop_eq_getElem_cons,pos,yJ]
theorem Yh {xs:List Row} {k:Int×Int} {r:Row} (hu:up xs) (hk:rk r=k):qL (Hf xs k) r=xs.take (pos xs k)++[r]++xs.drop (pos xs k+if pW xs k then 1 else 0):=by
 have hp:=EM xs k
 have key:∀ n,pos xs k<=n->pos (xs.take (pos xs k)++xs.drop n) k=pos xs k:=λn hn=>by
  grind [IB,AL,VQ]
 have hl:(xs.take (pos xs k)).length=pos xs k:=by grind
 unfold qL Hf;grind
theorem TS (xs:List Row) (c:Change) (hu:up xs) (hl:xs.length<=2000000) (hc:c.2.2.1=true->rk c.2.2.2.1=ck c):oD.ab (xs,c,())=some (if uJ xs c then (qz xs c,true,()) else ([],false,())):=by
 refine ag (k:=xs.length+1) λf hf=>(oD.ae f _).trans ?_;have hp:=EM xs (ck c)
 have TT:=da (B:=λself v=>oD.b0 self (λz=>oD.q0 (xs,c,()) (AK xs (ck c)) z) (xs,c,()) (AK xs (ck c)) v) (O:=List Row×Bool×Unit) xs (λ(s:List Row) (i:Int)=>(s,i)) (λi s x=>if (i:Int)=AK xs (ck c) then .inr s else .inr (s++[x]))
  (λs=>(if c.2.2.1 then qL s c.2.2.2.1 else s,true,())) (λi s=>s.length<=i) (by rw[au];omega)
  (λi hi s self hI=>by
   grind [oD.b0,dn]) (λi hi s s' hI hf=>by
   grind) (λs self hI=>by
   grind [oD.b0,oD.q0,IA]) [] (aL _) f (by omega)
 have MB:∀ (Xm:List Row) (j:Nat) (s:List Row),b_ (O:=List Row×Bool×Unit) (λi s x=>if (i:Int)=AK xs (ck c) then .inr s else .inr (s++[x])) (λs=>(if c.2.2.1 then qL s c.2.2.2.1 else s,true,())) j Xm s
   = (λs=>(if c.2.2.1 then qL s c.2.2.2.1 else s,true,())) (b_ (O:=List Row×Unit) (λi s x=>if (i:Int)=AK xs (ck c) then .inr s else .inr (s++[x])) (λs=>(s,())) j Xm s).1:=by
  intro Xm
  induction Xm <;> grind [b_]
 rw[MB,He (AK xs (ck c)) xs 0 []] at TT
 have abW:([]++(if ((0:Nat):Int)<=AK xs (ck c)/\AK xs (ck c) < ((0:Nat):Int)+(xs.length:Int) then xs.take (AK xs (ck c) - ((0:Nat):Int)).toNat++xs.drop ((AK xs (ck c) - ((0:Nat):Int)).toNat+1) else xs))=Hf xs (ck c):=by
  grind [AK,Hf,pW]
 simp only[abW] at TT;have TT:oD.r0 f (xs,c,()) (AK xs (ck c)) (([]:List Row),(0:Int))=_:=TT;unfold oD.p uJ;simp only[zx,TR xs _ _ hu hl,aA,TT]
 have ach:(if c.2.2.1 then qL (Hf xs (ck c)) c.2.2.2.1 else Hf xs (ck c))=qz xs c:=by
  unfold qz
  cases hi:c.2.2.1 with
  | true=>grind [Yh]
  | false=>
   simp only[aJ,aO,cI];unfold Hf;cases pW xs (ck c) <;> simp_all
 grind [pW,AK,Int.toNat_natCast]
end OT
namespace OT
open Go
def sW (xs:List Row) (i:Nat) (x:Row):Sum (Int×Unit) Unit:=
 if jY x=0 then (if 0 < i then (match xs[i - 1]? with | some y=>if gg (rk y) (rk x) then .inr () else .inl (1,()) | none=>.inl (1,())) else .inr ()) else .inl (jY x,())
def t6 (xs:List Row):Int:=if 60 < xs.length then 2 else (b_ (λi (_:Unit) x=>sW xs i x) (λ_=>((0:Int),())) 0 xs ()).1
theorem OG (xs:List Row) (hl:xs.length<=maxLen) (h:∀ c ∈ xs,rl c):kA.ab (xs,())=some (t6 xs,()):=by
 refine ag (k:=xs.length+1) λk hk=>(kA.ae k _).trans ?_
 have:=da (B:=λself v=>kA.b0 self (λz=>kA.q0 (xs,()) z) (xs,()) v) xs (λ(_:Unit) (i:Int)=>i) (λi _ x=>sW xs i x) (λ_=>(0,())) (λ_ _=>True) hl
  (λi hi _ self _=>by
   show kA.b0 _ _ _ _=_;unfold kA.b0 sW;have ax:(i:Int) < (xs.length:Int):=by omega
   simp only[ax,aG,aH,aK,aI,aC,aB hi,aA,zu _ (h _ (aU hi))];by_cases h1:jY xs[i]=0
   ·simp only[h1,aG,aN,aD,aI];by_cases h0:0 < i
    ·have tH:(0:Int) < (i:Int):=by omega
     have pj:i - 1 < xs.length:=by omega
     simp only[h0,tH,aG,aH,aI,Dm h0 (by omega),aK,aC,aB pj,aA,D1];cases gg (rk xs[i - 1]) (rk xs[i]) <;> rfl
    ·have tH:¬ (0:Int) < (i:Int):=by omega
     simp[h0,tH]
   ·simp[h1]) (λ_ _ _ _ _ _=>trivial) (λ_ self _=>by
   show kA.b0 _ _ _ _=_;unfold kA.b0
   simp[kA.q0,kA.q0]) () trivial k (by omega)
 have this:kA.r0 k (xs,()) 0=_:=this;unfold kA.p t6;rw[this,show (60:Int)=((60:Nat):Int) from rfl];simp only[Iw];by_cases h1:60 < xs.length <;> simp[h1] <;> rfl
theorem Gj (xs:List Row) (hl:xs.length<=maxLen) (h:∀ c ∈ xs,rl c):f0.ab (xs,())=some (t6 xs,()):=by
 refine ag (k:=xs.length+1) λk hk=>(f0.ae k _).trans ?_
 have:=da (B:=λself v=>f0.b0 self (λz=>f0.q0 (xs,()) z) (xs,()) v) xs (λ(_:Unit) (i:Int)=>i) (λi _ x=>sW xs i x) (λ_=>(0,())) (λ_ _=>True) hl
  (λi hi _ self _=>by
   show f0.b0 _ _ _ _=_;unfold f0.b0 sW rk;have ax:(i:Int) < (xs.length:Int):=by omega
   simp only[ax,aG,aH,aK,aI,aC,aB hi,aA,zw _ (h _ (aU hi))];by_cases h1:jY xs[i]=0
   ·simp only[h1,aG,aN,aD,aI];by_cases h0:0 < i
    ·have tH:(0:Int) < (i:Int):=by omega
     have pj:i - 1 < xs.length:=by omega
     simp only[h0,tH,aG,aH,aI,Dm h0 (by omega),aK,aC,aB pj,aA,yh];cases gg (xs[i - 1].1,xs[i - 1].2.1) (xs[i].1,xs[i].2.1) <;> rfl
    ·have tH:¬ (0:Int) < (i:Int):=by omega
     simp[h0,tH]
   ·simp[h1]) (λ_ _ _ _ _ _=>trivial) (λ_ self _=>by
   show f0.b0 _ _ _ _=_;unfold f0.b0
   simp[f0.q0,f0.q0]) () trivial k (by omega)
 have this:f0.r0 k (xs,()) 0=_:=this;unfold f0.p t6;rw[this,show (60:Int)=((60:Nat):Int) from rfl];simp only[Iw];by_cases h1:60 < xs.length <;> simp[h1] <;> rfl
theorem EO {α:Type} {f:Nat->Unit->α->Sum (Int×Unit) Unit} (hf:∀ i s x o,f i s x=.inl o->o.1≠0):∀ (xs:List α) (j:Nat),(b_ f (λ_=>((0:Int),())) j xs ()).1=0->∀ i (hi:i < xs.length),f (j+i) () xs[i]=.inr ()
 | x::xs,j,h,i,hi=>by
  simp only[b_] at h
  cases hx:f j () x with
  | inl o=>rw[hx] at h;exact absurd h (hf _ _ _ _ hx)
  | inr u=>
   rw[hx] at h
   cases i with
   | zero=>exact hx
   | succ i=>
    have:=EO hf xs (j+1) h i (by simpa using hi);rw[show j+(i+1)=j+1+i by omega];exact this
theorem TU:∀ (xs:List Row),(∀ i (hi:i < xs.length),0 < i->gg (rk (xs[i - 1]'(by omega))) (rk xs[i])=true)->up xs
 | [],_=>List.Pairwise.nil
 | [x],_=>fD _ _
 | x::y::xs,h=>by
  have hu:up (y::xs):=TU (y::xs) λi hi h0=>by
   have:=h (i+1) (by simp at hi ⊢;omega) (by omega);simp only[eP] at this
   have e:(x::y::xs)[i]'(by simp at hi ⊢;omega)=(y::xs)[i - 1]'(by simp at hi ⊢;omega):=by
    cases i with
    | zero=>omega
    | succ i=>rfl
   rw[e] at this;exact this
  have tI:gg (rk x) (rk y)=true:=h 1 (by simp) (by omega);refine Cn.2 ⟨λz hz=>?_,hu⟩;rcases bB.1 hz with rfl | hz
  ·exact tI
  ·exact sH tI ((Cn.1 hu).1 z hz)
theorem TV {x:Row} (h:jY x=0):List.length x.2.2.2.1<=8:=by
 unfold jY at h;split at h
 ·split at h
  ·rename_i ht;unfold zt at ht;simp only[aF,bI] at ht;exact ht.2
  ·cases h
 ·cases h
structure Good (xs:List Row):Prop where
 up:up xs
 ok:∀ x ∈ xs,jY x=0
theorem DA {xs:List Row} (h:t6 xs=0):Good xs/\xs.length<=60:=by
 unfold t6 at h;split at h
 ·cases h
 ·rename_i hl
  have hn:=EO (f:=λi (_:Unit) x=>sW xs i x) (λi s x o ho=>by
   unfold sW at ho;split at ho
   ·split at ho
    ·split at ho
     ·split at ho
      ·cases ho
      ·injection ho with ho;rw[<-ho];decide
     ·injection ho with ho;rw[<-ho];decide
    ·cases ho
   ·rename_i hx
    injection ho with ho;rw[<-ho];exact hx) xs 0 h
  have h1:∀ i (hi:i < xs.length),jY xs[i]=0:=λi hi=>by
   have:=hn i hi;unfold sW at this;split at this
   ·assumption
   ·cases this
  refine ⟨⟨TU xs λi hi h0=>?_,λx hx=>?_⟩,by omega⟩
  ·have:=hn i hi;unfold sW at this;rw[aM (h1 i hi),cB,aM h0,aB (show i - 1 < xs.length by omega)] at this;simp only at this;split at this
   ·assumption
   ·cases this
  ·obtain ⟨i,hi,rfl⟩:=cV.1 hx;exact h1 i hi
theorem sf {c:Change} (h:oO c=0):(c.2.2.1=true->rk c.2.2.2.1=ck c)/\(c.2.2.1=true->jY c.2.2.2.1=0):=by
 refine ⟨λhi=>by unfold rk ck;rw[hi];rfl,λhi=>?_⟩
 unfold oO at h;split at h
 ·cases h
 ·split at h
  ·rename_i h2;simp only[aF,cC,eG] at h2;exact absurd h h2.2
  ·first | exact h | (rw[aM hi] at h;exact h)
theorem yK {xs:List Row} {c:Change} (h:Good xs) (hc:oO c=0):Good (qz xs c):=by
 obtain ⟨hk,hr⟩:=sf hc;have hb:=h.up;constructor
 ·unfold qz up;have h1:(xs.take (pos xs (ck c))).Pairwise (λa b=>gg (rk a) (rk b)=true):=hb.sublist (List.take_sublist _ _);have D_:∀ n,(xs.drop n).Pairwise (λa b=>gg (rk a) (rk b)=true):=λn=>hb.sublist (List.drop_sublist _ _)
  have TW:∀ y ∈ xs.drop (pos xs (ck c)+if pW xs (ck c) then 1 else 0),gg (ck c) (rk y)=true:=λy hy=>by
   obtain ⟨i,e⟩:=fI.1 hy;rw[bZ] at e;obtain ⟨ax,e1⟩:=aR.1 e;have hn:=yJ xs (ck c) _ ax hb (by omega);rw[e1] at hn;clear e1 ax
   cases JU:gg (ck c) (rk y) with
   | true=>rfl
   | false=>
    have he:=xZ JU hn;exfalso
    cases hf:pW xs (ck c) with
    | true=>
     obtain ⟨hp,LK⟩:=Co hf;rw[hf] at e;simp only[aI] at e;obtain ⟨ax,e⟩:=aR.1 e;have:=dA.1 hb (pos xs (ck c)) (pos xs (ck c)+1+i) hp ax (by omega);rw[e,LK,he] at this;rw[sV] at this;cases this
    | false=>
     rw[hf] at e;simp only[aJ,aO,dW] at e;obtain ⟨ax,e⟩:=aR.1 e;have hp:pos xs (ck c) < xs.length:=by omega
     have JZ:=yJ xs (ck c) _ hp hb (aL _)
     have kF:rk xs[pos xs (ck c)]≠ck c:=λe2=>by
      unfold pW at hf;rw[aB hp] at hf;simp[e2] at hf
     have VR:gg (ck c) (rk xs[pos xs (ck c)])=true:=by
      cases JR:gg (ck c) (rk xs[pos xs (ck c)]) with
      | true=>rfl
      | false=>exact absurd (xZ JR JZ).symm kF
     cases i with
     | zero=>
      simp only[dW] at e;rw[e,<- he,sV] at VR;cases VR
     | succ i=>
      have:=dA.1 hb (pos xs (ck c)) (pos xs (ck c)+(i+1)) hp ax (by omega);rw[e] at this;have:=sH VR this;rw[<-he,sV] at this;cases this
  have TX:∀ a ∈ xs.take (pos xs (ck c)),∀ y ∈ xs.drop (pos xs (ck c)+if pW xs (ck c) then 1 else 0),gg (rk a) (rk y)=true:=λa ha y hy=>sH (AL ha) (TW y hy)
  cases hi:c.2.2.1 with
  | true=>
   have hkc:=hk hi;simp only[aI];refine eY.2 ⟨eY.2 ⟨h1,fD _ _,λa ha b hb=>?_⟩,D_ _,λa ha y hy=>?_⟩
   ·rw[bJ] at hb;subst hb;rw[hkc];exact AL ha
   ·rcases bU.1 ha with ha | ha
    ·exact TX a ha y hy
    ·rw[bJ] at ha;subst ha;rw[hkc];exact TW y hy
  | false=>
   simp only[aJ,aO,cI];exact eY.2 ⟨h1,D_ _,TX⟩
 ·intro x hx;unfold qz at hx;rcases bU.1 hx with hx | hx
  ·rcases bU.1 hx with hx | hx
   ·exact h.ok x (eE hx)
   ·split at hx
    ·rename_i hi;rw[bJ] at hx;rw[hx];exact hr hi
    ·cases hx
  ·exact h.ok x (fQ hx)
theorem DB (xs:List Row) (c:Change):(qz xs c).length<=xs.length+1:=by
 unfold qz;rw[bE,bE,dD,bQ];have:(if c.2.2.1=true then [c.2.2.2.1] else []).length<=1:=by split <;> simp
 omega
def ve (i:Nat) (s:List Row) (c:Change):Sum (zo×Unit) (List Row):=if oO c=0 then (if uJ s c then .inr (qz s c) else .inl ((8,[],()),())) else .inl ((oO c,[],()),())
def AM (s:List Row):zo×Unit:=if 60 < s.length then ((2,[],()),()) else ((0,s,()),())
def IC (xs:List Row) (cs:List Change):zo:=if t6 xs=0 then (b_ ve AM 0 cs xs).1 else (t6 xs,[],())
theorem VS (n i:Nat) (s s':List Row) (c:Change) (h:Good s/\s.length<=60+i) (hf:ve n s c=.inr s'):Good s'/\s'.length<=60+(i+1):=by
 unfold ve at hf;split at hf
 ·rename_i hc;split at hf
  ·injection hf with hf;subst hf;exact ⟨yK h.1 hc,by have:=DB s c;omega⟩
  ·cases hf
 ·cases hf
theorem Gk (xs:List Row) (h:xs.length<=1048576):kj.ab (xs,())=some (xs,()):=by
 refine ag (k:=0) λk _=>(kj.ae k _).trans ?_;show kj.p _=_;unfold kj.p;have c1:([]:List Row).length+xs.length<=cg:=dn (by simp only[bC];omega);exact Cf (λe=>by have e:xs=[]:=e;subst e;rfl) (by rw[aM c1];rfl)
theorem MZ (xs:List Row) (cs:List Change) (hl:xs.length<=maxLen) (h:∀ x ∈ xs,rl x) (Ba:cs.length<=1048576) (hc:∀ c ∈ cs,cl c):f_.ab (xs,cs,())=some (IC xs cs,()):=by
 refine ag (k:=cs.length+1) λk hk=>(f_.ae k _).trans ?_;unfold f_.p IC;simp only[Gj xs hl h,aA];by_cases h0:t6 xs=0
 ·obtain ⟨hg,hn⟩:=DA h0;simp only[h0,aG,aN,aD,aI,Gk xs (by omega),aA]
  exact da (B:=λself v=>f_.b0 self (λz=>f_.q0 (xs,cs,()) z) (xs,cs,()) v) cs (λ(s:List Row) (i:Int)=>(s,i)) ve AM (λi s=>Good s/\s.length<=60+i) (by rw[au];omega)
   (λi hi s self hI=>by
    show f_.b0 _ _ _ _=_;unfold f_.b0 ve;have ax:(i:Int) < (cs.length:Int):=by omega
    simp only[ax,aG,aH,aK,aI,aC,aB hi,aA,yW _ (hc _ (aU hi)),Kj _ s hI.1.up (by omega),RH s _ hI.1.up (by omega)];by_cases h1:oO cs[i]=0
    ·simp only[h1,aG,aN,aD,aI];cases uJ s cs[i] <;> rfl
    ·simp[h1]) (λi hi s s' hI hf=>VS _ i s s' _ hI hf) (λs self hI=>by
    show f_.b0 _ _ _ _=_;unfold f_.b0 AM;have ax:¬ (cs.length:Int) < (cs.length:Int):=by omega
    simp only[ax,aE,aD,f_.q0,f_.q0];rw[show (60:Int)=((60:Nat):Int) from rfl,Iw]
    by_cases h1:60 < s.length <;> simp[h1]) xs ⟨hg,by omega⟩ k (by omega)
 ·simp[h0];(try rfl)
end OT
namespace OT
open Go
theorem M0 {α β O:Type} [DecidableEq β] (g:α->Option β) (bad:O) (fin:Unit->O) (p:α->α->Bool) (hp:∀ x y,p x y=true↔∃ b,g x=some b/\g y=some b) (all:List α):∀ (xs pre:List α),all=pre++xs->(pre.filterMap g).Nodup->b_ (λi _ x=>if (all.take i).any (p x) then .inl bad else .inr ()) fin pre.length xs ()=if (all.filterMap g).Nodup then fin () else bad
 | [],pre,h,hn=>by
  rw[cI] at h;subst h;simp only[b_,hn,aI]
 | x::xs,pre,h,hn=>by
  have ht:all.take pre.length=pre:=by rw[h];exact List.take_left
  simp only[b_,ht];have rJ:all.filterMap g=pre.filterMap g++([x].filterMap g++xs.filterMap g):=by rw[h,<- gJ (x:=x),cN,cN]
  cases hc:pre.any (p x) with
  | true=>
   simp only[aI];obtain ⟨y,hy,hpy⟩:=fC.1 hc;obtain ⟨b,h1,h2⟩:=(hp x y).1 hpy;rw[aP];intro vQ;rw[rJ,eZ] at vQ;exact vQ.2.2 b (gB.2 ⟨y,hy,h2⟩) b (by simp[h1]) rfl
  | false=>
   simp only[aJ,aO]
   have:=M0 g bad fin p hp all xs (pre++[x]) (by rw[h];simp) (by
    rw[cN,eZ];refine ⟨hn,?_,λa ha b hb e=>?_⟩
    ·cases hg:g x with
     | none=>simp[hg]
     | some b=>simp[hg]
    ·subst e;obtain ⟨y,hy,hgy⟩:=gB.1 ha;obtain ⟨z,hz,hgz⟩:=gB.1 hb;rw[bJ] at hz;subst hz;have:pre.any (p z)=true:=fC.2 ⟨y,hy,(hp z y).2 ⟨a,hgz,hgy⟩⟩
     rw[this] at hc;cases hc)
   rw[bE] at this;exact this
theorem EP {α β O:Type} [DecidableEq β] (g:α->Option β) (bad:O) (fin:Unit->O) (p:α->α->Bool) (hp:∀ x y,p x y=true↔∃ b,g x=some b/\g y=some b) (xs:List α):b_ (λi _ x=>if (xs.take i).any (p x) then .inl bad else .inr ()) fin 0 xs ()=if (xs.filterMap g).Nodup then fin () else bad:=
 M0 g bad fin p hp xs xs [] rfl gF
theorem yZ {α:Type} {lt:α->α->Prop} (has:∀ a b,lt a b->¬ lt b a):∀ (xs ys:List α),xs.Perm ys->xs.Pairwise lt->ys.Pairwise lt->xs=ys
 | [],ys,h,_,_=>(List.nil_perm.1 h).symm
 | x::xs,[],h,_,_=>by have:=h.length_eq;cases this
 | x::xs,y::ys,h,h1,h2=>by
  obtain ⟨a1,a2⟩:=dT.1 h1;obtain ⟨b1,b2⟩:=dT.1 h2;by_cases tI:x=y
  ·subst tI;rw[yZ has xs ys ((List.perm_cons x).1 h) a2 b2]
  ·have hx:x ∈ ys:=by
    have:=h.mem_iff.1 (cA (a:=x) (l:=xs));rcases bB.1 this with e | e
    ·exact absurd e tI
    ·exact e
   have hy:y ∈ xs:=by
    have:=h.mem_iff.2 (cA (a:=y) (l:=ys));rcases bB.1 this with e | e
    ·exact absurd e.symm tI
    ·exact e
   exact absurd (b1 x hx) (has _ _ (a1 y hy))
theorem Kk (xs:List Row) (r:Row):(qL xs r).Perm (r::xs):=by
 unfold qL;rw[bN];have:=fE (a:=r) (l₁:=xs.take (pos xs (rk r))) (l₂:=xs.drop (pos xs (rk r)));rw[dE] at this;exact this
theorem PT {xs:List Row} {k:Int×Int} {x:Row} (hu:up xs) (h:x ∈ xs.drop (pos xs k)):gg (rk x) k=false:=by
 obtain ⟨i,hi,e⟩:=cV.1 h;rw[bQ] at hi;rw[List.getElem_drop] at e;rw[<-e];exact yJ xs k _ _ hu (by omega)
theorem Yi {xs:List Row} {r:Row} (hu:up xs) (hn:∀ x ∈ xs,rk x≠rk r):up (qL xs r):=by
 unfold qL up;rw[bN,eY];have hd:=hu.drop (i:=pos xs (rk r));refine ⟨hu.take,?_,λa ha b hb=>?_⟩
 ·rw[gJ,dT];refine ⟨λb hb=>?_,hd⟩
  have h1:=PT hu hb;have h2:=hn b (fQ hb)
  cases h3:gg (rk r) (rk b) with
  | true=>rfl
  | false=>exact absurd (xZ h1 h3) h2
 ·have h1:=AL ha;rw[gJ] at hb;rcases bB.1 hb with e | e
  ·subst e;exact h1
  ·have h2:=PT hu e;have h3:=hn b (fQ e)
   cases h4:gg (rk a) (rk b) with
   | true=>rfl
   | false=>
    cases h5:gg (rk b) (rk a) with
    | true=>rw[sH h5 h1] at h2;cases h2
    | false=>
     have:=xZ h4 h5;rw[this] at h1;rw[h1] at h2;cases h2
def ID (l:List Row):List Row:=l.foldl qL []
theorem IE:∀ (l acc:List Row),(l.foldl qL acc).Perm (l++acc)
 | [],acc=>fR _
 | r::l,acc=>by
  have h1:=IE l (qL acc r);have h2:(l++qL acc r).Perm (l++r::acc):=(fR l).append (Kk acc r);exact h1.trans (h2.trans fE)
theorem zA (l:List Row):(ID l).Perm l:=by
 have:=IE l [];rw[cI] at this;exact this
theorem M1:∀ (l acc:List Row),up acc->(l.map rk++acc.map rk).Nodup->up (l.foldl qL acc)
 | [],acc,h,_=>h
 | r::l,acc,h,hn=>by
  simp only[cY,cL,cO,bU,not_or] at hn;refine M1 l (qL acc r) (Yi h λx hx e=>hn.1.2 (eX.2 ⟨x,hx,e⟩)) ?_
  have:(l.map rk++(qL acc r).map rk).Perm (rk r::(l.map rk++acc.map rk)):=by
   refine ((fR _).append ((Kk acc r).map rk)).trans ?_;rw[cY];exact fE
  rw[this.nodup_iff,cO,bU,not_or];exact hn
theorem M2 {l:List Row} (h:(l.map rk).Nodup):up (ID l):=M1 l [] List.Pairwise.nil (by simpa using h)
theorem M3 {a b:Int×Int} (h:gg a b=true):¬ gg b a=true:=by rw[TO h];exact λh=>by cases h
theorem TY {xs ys:List Row} (hp:xs.Perm ys) (hx:up xs) (hy:up ys):xs=ys:=yZ (λa b h=>M3 h) xs ys hp hx hy
theorem DC {xs:List Row} (h:up xs):(xs.map rk).Nodup:=by
 unfold List.Nodup;rw[gG];refine h.imp λh1 e=>?_;rw[e,sV] at h1;cases h1
end OT
namespace OT
open Go
abbrev bY:Type:=List (List UInt8)
def AN {α β:Type} (g:Nat->α->List β):Nat->List α->List β
 | _,[]=>[]
 | i,x::xs=>g i x++AN g (i+1) xs
theorem EQ {O α β:Type} (g:Nat->α->List β) (fin:List β->O):∀ (xs:List α) (i:Nat) (s:List β),b_ (λi s x=>.inr (s++g i x)) fin i xs s=fin (s++AN g i xs)
 | [],_,s=>by simp[b_,AN]
 | x::xs,i,s=>by simp only[b_,AN];rw[EQ g fin xs (i+1)];simp[bN]
theorem PU {α β:Type} {g:Nat->α->List β} {n:Nat}:∀ (xs:List α) (i:Nat),(∀ i x,x ∈ xs->(g i x).length<=n)->(AN g i xs).length<=n*xs.length
 | [],_,_=>by simp[AN]
 | x::xs,i,h=>by
  have h1:=h i x cA;have h2:=PU xs (i+1) λi y hy=>h i y (bF _ hy);grind [AN,Nat.mul_add]
theorem PV {α β:Type} {g:Nat->α->List β} {y:β}:∀ {xs:List α} {i:Nat},y ∈ AN g i xs↔∃ (j:Nat) (x:α),xs[j]?=some x/\y ∈ g (i+j) x
 | [],i=>by simp[AN]
 | x::xs,i=>by
  simp only[AN,bU,PV (xs:=xs)];constructor
  ·rintro (h | ⟨j,z,h1,h2⟩)
   ·exact ⟨0,x,rfl,h⟩
   ·exact ⟨j+1,z,h1,by grind⟩
  grind
def ej (x:ay):Int:=x.2.2.1.2.1
def oP (x:ay):Int:=x.2.2.1.2.2.1
def oQ (x:ay):Int:=x.2.2.1.2.2.2.1
def fk (x:ay):Row:=x.2.2.1.2.2.2.2.1
def qA (P:Nat) (p:List UInt8) (s:Nat):List ay:=if a_ p s=0 then [] else [((P:Int),(s:Int),(di (iX p s)).1,())]
def qB (P:Nat) (p:List UInt8):List ay:=(List.range (pn p)).flatMap (qA P p)
def b9 (ps:bY):List ay:=AN qB 0 ps
def oM (ps:bY) (a b:Int):sq×Bool:=match ps[a.toNat]? with
 | some p=>if b.toNat < pn p/\a_ p b.toNat≠0 then di (iX p b.toNat) else (Dx,false)
 | none=>(Dx,false)
def xr (p:List UInt8) (s:Nat):Bool:=decide (a_ p s=0)||(di (iX p s)).2
def vV (p:List UInt8):Int:=if xp p=0 then (if (List.range (pn p)).all (xr p) then 0 else 5) else xp p
def pN (ps:bY) (x:ay):Bool:=!decide (ej x=1)||((oM ps (oP x) (oQ x)).2&&decide ((oM ps (oP x) (oQ x)).1.2.1=2))
def xt (x:ay):Option (Int×Int):=if ej x=1 then some (oP x,oQ x) else none
def PW (x:ay) (r:Row):ay:=(x.1,x.2.1,(x.2.2.1.1,x.2.2.1.2.1,x.2.2.1.2.2.1,x.2.2.1.2.2.2.1,r,x.2.2.1.2.2.2.2.2),x.2.2.2)
def tn (ps:bY) (x:ay):ay:=if ej x=1 then PW x (oM ps (oP x) (oQ x)).1.2.2.2.2.1 else x
def qC (ps:bY) (x:ay):List ay:=if ej x=2 then [] else [tn ps x]
def ju (ps:bY):List ay:=(b9 ps).flatMap (qC ps)
def Bu (ps:bY):Int:=
 if (b9 ps).all (pN ps) then
  if ((b9 ps).filterMap xt).Nodup then (if ((ju ps).map λx=>rk (fk x)).Nodup then 0 else 8) else 6
 else 4
def ij (ps:bY):Int:=if 12 < ps.length then 2 else if ng vV ps=0 then Bu ps else ng vV ps
def lp (ps:bY):Prop:=ps.length<=12/\∀ p ∈ ps,gt p
theorem IF {p:List UInt8} (h:vV p=0):gt p/\∀ s,s < pn p->a_ p s≠0->(di (iX p s)).2=true:=by
 unfold vV at h;split at h
 ·rename_i h1;split at h
  ·rename_i h2;refine ⟨tK.1 h1,λs hs hz=>?_⟩
   have:=bK.1 h2 s (cH.2 hs);grind [xr]
  ·cases h
 grind
theorem xu {α:Type} {c:α->Int}:∀ {xs:List α},ng c xs=0->∀ x ∈ xs,c x=0
 | [],_,_,hx=>by cases hx
 | y::xs,h,x,hx=>by
  simp only[ng] at h;split at h
  ·rename_i hy;rcases bB.1 hx with rfl | hx
   ·exact hy
   ·exact xu h x hx
  grind
theorem DD {ps:bY} (h:ij ps=0):lp ps/\ng vV ps=0/\Bu ps=0:=by
 unfold ij at h;split at h
 ·cases h
 ·rename_i h1;split at h
  ·rename_i h2;exact ⟨⟨by omega,λp hp=>(IF (xu h2 p hp)).1⟩,h2,h⟩
  grind
theorem BR {p:List UInt8} (h:gt p) (P:Nat):(qB P p).length<=16:=by
 have:∀ n,((List.range n).flatMap (qA P p)).length<=n:=by
  intro n
  induction n with
  | zero=>simp
  | succ n ih=>
   rw[gT,fX,bE]
   have:(([n]:List Nat).flatMap (qA P p)).length<=1:=by
    simp only[dN,gM,cI,qA];split <;> simp
   omega
 have h1:=this (pn p);have h2:=h.n;grind [qB]
theorem Bv {ps:bY} (h:lp ps):(b9 ps).length<=192:=by
 have:=PU (g:=qB) (n:=16) ps 0 λi p hp=>BR (h.2 p hp) i;unfold b9;have:=h.1;omega
theorem AP {ps:bY} (h:lp ps):(ju ps).length<=192:=by
 have:∀ xs:List ay,(xs.flatMap (qC ps)).length<=xs.length:=by
  intro xs
  induction xs <;> grind [qC]
 grind [Bv,ju]
theorem ER (d:List UInt8):0<=(di d).1.2.2.1/\0<=(di d).1.2.2.2.1:=by
 grind [di]
theorem wh {ps:bY} {x:ay}:x ∈ b9 ps↔∃ (P:Nat) (p:List UInt8) (s:Nat),ps[P]?=some p/\s < pn p/\a_ p s≠0/\x=((P:Int),(s:Int),(di (iX p s)).1,()):=by
 unfold b9;rw[PV];constructor
 ·rintro ⟨j,p,h1,h2⟩;obtain ⟨s,h3,h4⟩:=cX.1 h2;grind [qA]
 ·rintro ⟨P,p,s,h1,h2,h3,rfl⟩;refine ⟨P,p,h1,cX.2 ⟨s,cH.2 h2,?_⟩⟩
  grind [qA]
theorem vW {ps:bY} {x:ay} (h:x ∈ b9 ps):0<=oP x/\0<=oQ x:=by
 obtain ⟨P,p,s,_,_,_,rfl⟩:=wh.1 h;exact ER _
theorem ES (ps:bY) (h:lp ps):fb.ab (ps,())=some (b9 ps,()):=by
 obtain ⟨hl,hp⟩:=h;refine ag (k:=100) λk hk=>(fb.ae k _).trans ?_
 have inner:∀ (self:(bY×(List ay)×Int)->Option fb.Out) (e0:(List ay)->Option fb.Out) (i:Nat) (hi:i < ps.length) (s:List ay),s.length<=1000->fb.r1 k self e0 (ps,()) ps (i:Int) (s,(0:Int))=self (ps,s++qB i ps[i],af ((i:Int)+1)):=λself e0 i hi s0 hs0=>by
  have ba:=hp _ (aU hi);have hn:=ba.n;have hlen:=ba.len
  have:=og (B:=λgk v=>fb.b1 gk (λz=>fb.q0 self e0 (ps,()) ps (i:Int) z) (ps,()) ps (i:Int) v) (pn ps[i]) (λ(s:List ay) (j:Int)=>(s,j)) (λj s=>.inr (s++qA i ps[i] j)) (λs=>self (ps,s,af ((i:Int)+1))) (λj s=>s.length<=1000+j) (by omega)
   (λj hj s gk hI=>by
    show fb.b1 _ _ _ _ _ _=_;unfold fb.b1 qA;have ax:(j:Int) < (pn ps[i]:Int):=by omega
    simp only[aK,aI,aC,aB hi,aA,ns hlen,ax,aG,aH,pQ hlen (show j < 16 by omega)]
    grind [wb,AJ,vU,dn])
   (λj hj s s' hI hf=>by
    grind [qA]) (λs gk hI=>by
    show fb.b1 _ _ _ _ _ _=_;unfold fb.b1;simp only[aK,aI,aC,aB hi,aA,ns hlen,aX,aE,aD]
    rfl) s0 (by omega) k (by omega)
  rw[Dw (qA i ps[i])] at this;exact this
 have:=dz (B:=λself v=>fb.B0 k self (λz=>fb.q1 (ps,()) z) (ps,()) v) ps (λ(s:List ay) (i:Int)=>(ps,s,i)) (λi s p=>.inr (s++qB i p)) (λs=>some (s,())) (λi s=>s.length<=16*i) (by rw[au];omega)
  (λi hi s self hI=>by
   show fb.b0 _ _ _ _ _=_
   grind [fb.b0])
  (λi hi s s' hI hf=>by
   grind [BR]) (λs self _=>by
   show fb.b0 _ _ _ _ _=_;unfold fb.b0;simp only[aX,aE,aD]
   rfl) [] (by simp) k (by omega)
 rw[EQ] at this;exact this
theorem M4 (ps:bY) (hl:ps.length<=12) (hp:∀ p ∈ ps,p.length<=maxLen):gm.ab (ps,())=some (ng vV ps,()):=by
 refine ag (k:=100) λk hk=>(gm.ae k _).trans ?_
 have inner:∀ (self:(bY×Int)->Option gm.Out) (e0:Unit->Option gm.Out) (i:Nat) (hi:i < ps.length),gt ps[i]->gm.r1 k self e0 (ps,()) ps (i:Int) (0:Int)=if (List.range (pn ps[i])).all (xr ps[i]) then self (ps,af ((i:Int)+1)) else some ((5:Int),()):=λself e0 i hi ba=>by
  have hn:=ba.n;have hlen:=ba.len
  have:=og (B:=λgk v=>gm.b1 gk (λz=>gm.q0 self e0 (ps,()) ps (i:Int) z) (ps,()) ps (i:Int) v) (pn ps[i]) (λ(_:Unit) (j:Int)=>j) (λj _=>if xr ps[i] j then .inr () else .inl (some ((5:Int),()))) (λs=>self (ps,af ((i:Int)+1))) (λ_ _=>True) (by omega)
   (λj hj s gk hI=>by
    show gm.b1 _ _ _ _ _ _=_;unfold gm.b1 xr;have ax:(j:Int) < (pn ps[i]:Int):=by omega
    simp only[aK,aI,aC,aB hi,aA,ns hlen,ax,aG,aH,pQ hlen (show j < 16 by omega)];by_cases hz:a_ ps[i] j=0
    ·grind
    ·have:((0:Int) < (a_ ps[i] j:Int)):=by omega
     rw[aV this];simp only[aH,wb ba hj,AJ _ (bL (vU ba hj) (by omega)),aA,hz,aE,cZ]
     grind)
   (λ_ _ _ _ _ _=>trivial) (λs gk hI=>by
    show gm.b1 _ _ _ _ _ _=_;unfold gm.b1;simp only[aK,aI,aC,aB hi,aA,ns hlen,aX,aE,aD]
    rfl) () trivial k (by omega)
  rw[uB] at this;exact this
 have:=dz (B:=λself v=>gm.B0 k self (λz=>gm.q1 (ps,()) z) (ps,()) v) ps (λ(_:Unit) (i:Int)=>(ps,i)) (λi _ p=>if vV p=0 then .inr () else .inl (some (vV p,()))) (λ_=>some ((0:Int),())) (λ_ _=>True) (by rw[au];omega)
  (λi hi s self hI=>by
   show gm.b0 _ _ _ _ _=_;unfold gm.b0 vV;have ax:(i:Int) < (ps.length:Int):=by omega
   simp only[ax,aG,aH,aK,aI,aC,aB hi,aA,OF _ (hp _ (aU hi))];by_cases h0:xp ps[i]=0
   ·rw[aV h0];simp only[aN,aD,inner self _ i hi (tK.1 h0),h0,aI];grind
   grind)
  (λ_ _ _ _ _ _=>trivial) (λs self _=>by
   show gm.b0 _ _ _ _ _=_;unfold gm.b0;simp only[aX,aE,aD]
   rfl) () trivial k (by omega)
 rw[zm vV (λc=>some (c,())) (λ_=>some ((0:Int),()))] at this;refine aQ this ?_;grind
theorem ET (ps:bY) (h:lp ps) (a b:Int) (ha:0<=a) (hb:0<=b):mF.ab (ps,a,b,())=some ((oM ps a b).1,(oM ps a b).2,()):=by
 obtain ⟨hl,hp⟩:=h;obtain ⟨a,rfl⟩:=dU ha;obtain ⟨b,rfl⟩:=dU hb;refine ag (k:=0) λk hk=>(mF.ae k _).trans ?_;show mF.p _=_;unfold mF.p oM;have hw:af ((ps.length:Int) - 1)=(ps.length:Int) - 1:=a7 (by omega);have h0:decide ((0:Int)<=(a:Int))=true:=aV (by omega);have h1:decide ((a:Int)<=(ps.length:Int) - 1)=decide (a < ps.length):=by grind
 simp only[nX,hw,h0,h1,aA,dJ,aC];by_cases Z8:a < ps.length;rotate_left
 ·grind
 rw[aV Z8];have ba:=hp _ (aU Z8);simp only[aN,aD,aK,aI,aB Z8,aA,RF ba];by_cases hc:b < pn ps[a]/\a_ ps[a] b≠0
 ·grind [wb,AJ,vU]
 grind
theorem M5 (ps:bY) (h:lp ps):dt.ab (b9 ps,ps,())=some (if (b9 ps).all (pN ps) then (if ((b9 ps).filterMap xt).Nodup then 0 else 6) else 4,()):=by
 have lT:=Bv h;have Gh:∀ x ∈ b9 ps,0<=oP x/\0<=oQ x:=λx hx=>vW hx;generalize b9 ps=xs at lT Gh ⊢;refine ag (k:=300) λk hk=>(dt.ae k _).trans ?_
 have inner:∀ (self:(List ay×Int)->Option dt.Out) (e2:Unit->Option dt.Out) (i:Nat) (hi:i < xs.length),dt.r2 k self e2 (xs,ps,()) xs (i:Int) (0:Int)=if (xs.take i).any (λy=>decide (ej xs[i]=1)&&(decide (ej y=1)&&(decide (oP xs[i]=oP y)&&decide (oQ xs[i]=oQ y)))) then some ((6:Int),()) else self (xs,af ((i:Int)+1)):=λself e2 i hi=>by
  have kG:(xs.take i).length=i:=by grind
  have:=dz (B:=λgk v=>dt.b2 gk (λz=>dt.q1 self e2 (xs,ps,()) xs (i:Int) z) (xs,ps,()) xs (i:Int) v) (xs.take i) (λ(_:Unit) (j:Int)=>j) (λ_ _ y=>if decide (ej xs[i]=1)&&(decide (ej y=1)&&(decide (oP xs[i]=oP y)&&decide (oQ xs[i]=oQ y))) then .inl (some ((6:Int),())) else .inr ()) (λ_=>self (xs,af ((i:Int)+1))) (λ_ _=>True) (by rw[au];omega)
   (λj hj s gk _=>by
    grind [dt.b2,Int.toNat_natCast,ej,oP,oQ])
   (λ_ _ _ _ _ _=>trivial) (λs gk _=>by
    rw[kG];show dt.b2 _ _ _ _ _ _=_;unfold dt.b2;simp only[aX,aE,aD]
    rfl) () trivial k (by omega)
  rw[xV] at this;exact this
 have second:dt.r1 k (xs,ps,()) (xs,(0:Int))=if (xs.filterMap xt).Nodup then some ((0:Int),()) else some ((6:Int),()):=by
  have:=dz (B:=λself v=>dt.B1 k self (λz=>dt.q2 (xs,ps,()) z) (xs,ps,()) v) xs (λ(_:Unit) (i:Int)=>(xs,i)) (λi _ x=>if (xs.take i).any (λy=>decide (ej x=1)&&(decide (ej y=1)&&(decide (oP x=oP y)&&decide (oQ x=oQ y)))) then .inl (some ((6:Int),())) else .inr ()) (λ_=>some ((0:Int),())) (λ_ _=>True) (by rw[au];omega)
   (λi hi s self _=>by
    show dt.b1 _ _ _ _ _=_
    grind [dt.b1])
   (λ_ _ _ _ _ _=>trivial) (λs self _=>by
    show dt.b1 _ _ _ _ _=_;unfold dt.b1;simp only[aX,aE,aD]
    rfl) () trivial k (by omega)
  rw[EP xt (some ((6:Int),())) (λ_=>some ((0:Int),())) (λx y=>decide (ej x=1)&&(decide (ej y=1)&&(decide (oP x=oP y)&&decide (oQ x=oQ y)))) (λx y=>?_) xs] at this
  ·exact this
  ·unfold xt;simp only[aF,bI];constructor
   ·rintro ⟨h1,h2,h3,h4⟩;exact ⟨(oP x,oQ x),by rw[aM h1],by grind⟩
   grind
 have:=dz (B:=λself v=>dt.b0 self (λz=>dt.Q0 k (xs,ps,()) z) (xs,ps,()) v) xs (λ(_:Unit) (i:Int)=>i) (λi _ x=>if pN ps x then .inr () else .inl (some ((4:Int),()))) (λ_=>dt.r1 k (xs,ps,()) (xs,(0:Int))) (λ_ _=>True) (by rw[au];omega)
  (λi hi s self _=>by
   show dt.b0 _ _ _ _=_;unfold dt.b0 pN;have ax:(i:Int) < (xs.length:Int):=by omega
   obtain ⟨g1,g2⟩:=Gh _ (aU hi);have Ey:mF.ab (ps,(xs[i]).2.2.1.2.2.1,(xs[i]).2.2.1.2.2.2.1,())=some ((oM ps (oP xs[i]) (oQ xs[i])).1,(oM ps (oP xs[i]) (oQ xs[i])).2,()):=ET ps h _ _ g1 g2
   grind [Int.natCast_nonneg,Int.toNat_natCast,ej])
  (λ_ _ _ _ _ _=>trivial) (λs self _=>by
   show dt.b0 _ _ _ _=_;unfold dt.b0;simp only[aX,aE,aD]
   rfl) () trivial k (by omega)
 rw[so (pN ps) (some ((4:Int),())) (λ_=>dt.r1 k (xs,ps,()) (xs,(0:Int)))] at this;refine aQ this ?_;grind
theorem BS (ps:bY) (h:lp ps):jh.ab (ps,())=some (ju ps,()):=by
 refine ag (k:=300) λk hk=>(jh.ae k _).trans ?_;unfold jh.p;rw[ES ps h];simp only[aA];have lT:=Bv h;have Gh:∀ x ∈ b9 ps,0<=oP x/\0<=oQ x:=λx hx=>vW hx;unfold ju;generalize b9 ps=xs at lT Gh ⊢
 have:=dz (B:=λself v=>jh.b0 self (λz=>jh.q0 (ps,()) xs z) (ps,()) xs v) xs (λ(s:List ay) (i:Int)=>(s,i)) (λi s x=>.inr (s++qC ps x)) (λs=>some (s,())) (λi s=>s.length<=i) (by rw[au];omega)
  (λi hi s self hI=>by
   show jh.b0 _ _ _ _ _=_;unfold jh.b0 qC;have ax:(i:Int) < (xs.length:Int):=by omega
   obtain ⟨g1,g2⟩:=Gh _ (aU hi);have Ey:mF.ab (ps,(xs[i]).2.2.1.2.2.1,(xs[i]).2.2.1.2.2.2.1,())=some ((oM ps (oP xs[i]) (oQ xs[i])).1,(oM ps (oP xs[i]) (oQ xs[i])).2,()):=ET ps h _ _ g1 g2;have qU:∀ y:ay,s.length+[y].length<=cg:=λy=>dn (by grind);simp only[ax,aG,aH,aK,bR,aI,aC,aB hi,aA,Ey,qU];show (bif decide (ej xs[i]=2) then _ else bif decide (ej xs[i]=1) then _ else _)=_;unfold tn;by_cases c2:ej xs[i]=2
   ·grind
   ·by_cases c1:ej xs[i]=1
    ·simp only[c1,c2,aG,aE,aH,aD,aI,aO];rfl
    grind)
  (λi hi s s' hI hf=>by
   grind [qC]) (λs self _=>by
   show jh.b0 _ _ _ _ _=_;unfold jh.b0;simp only[aX,aE,aD]
   rfl) [] (by simp) k (by omega)
 rw[Dw (qC ps)] at this;exact this
def VT (x:ay):Option (Int×Int):=some (rk (fk x))
theorem OH (ps:bY) (hp:∀ p ∈ ps,p.length<=maxLen):gn.ab (ps,())=some (ij ps,()):=by
 refine ag (k:=300) λk hk=>(gn.ae k _).trans ?_;unfold gn.p ij;by_cases hl:12 < ps.length
 ·grind
 have wy:¬ ((12:Int) < (ps.length:Int)):=by omega
 simp only[wy,aE,aD,hl,aO,M4 ps (by omega) hp,aA];by_cases hc:ng vV ps=0;rotate_left
 ·grind
 have h:lp ps:=⟨by omega,λp hp=>(IF (xu hc p hp)).1⟩
 simp only[hc,aG,aN,aD,aI,ES ps h,M5 ps h,BS ps h,aA];unfold Bu;by_cases h1:(b9 ps).all (pN ps)=true;rotate_left
 ·grind
 by_cases h2:((b9 ps).filterMap xt).Nodup;rotate_left
 ·grind
 simp only[h1,h2,aI,aG,aN,aD];have lT:=AP h;generalize ju ps=xs at lT ⊢
 have inner:∀ (self:(List ay×Int)->Option gn.Out) (e0:Unit->Option gn.Out) (i:Nat) (hi:i < xs.length),gn.r1 k self e0 (ps,()) xs (i:Int) (0:Int)=if (xs.take i).any (λy=>decide ((fk xs[i]).1=(fk y).1)&&decide ((fk xs[i]).2.1=(fk y).2.1)) then some ((8:Int),()) else self (xs,af ((i:Int)+1)):=λself e0 i hi=>by
  have kG:(xs.take i).length=i:=by grind
  have:=dz (B:=λgk v=>gn.b1 gk (λz=>gn.q0 self e0 (ps,()) xs (i:Int) z) (ps,()) xs (i:Int) v) (xs.take i) (λ(_:Unit) (j:Int)=>j) (λ_ _ y=>if decide ((fk xs[i]).1=(fk y).1)&&decide ((fk xs[i]).2.1=(fk y).2.1) then .inl (some ((8:Int),())) else .inr ()) (λ_=>self (xs,af ((i:Int)+1))) (λ_ _=>True) (by rw[au];omega)
   (λj hj s gk _=>by
    grind [gn.b1,Int.toNat_natCast,fk])
   (λ_ _ _ _ _ _=>trivial) (λs gk _=>by
    rw[kG];show gn.b1 _ _ _ _ _ _=_;unfold gn.b1;simp only[aX,aE,aD]
    rfl) () trivial k (by omega)
  rw[xV] at this;exact this
 have:=dz (B:=λself v=>gn.B0 k self (λz=>gn.q1 (ps,()) z) (ps,()) v) xs (λ(_:Unit) (i:Int)=>(xs,i)) (λi _ x=>if (xs.take i).any (λy=>decide ((fk x).1=(fk y).1)&&decide ((fk x).2.1=(fk y).2.1)) then .inl (some ((8:Int),())) else .inr ()) (λ_=>some ((0:Int),())) (λ_ _=>True) (by rw[au];omega)
  (λi hi s self _=>by
   show gn.b0 _ _ _ _ _=_
   grind [gn.b0])
  (λ_ _ _ _ _ _=>trivial) (λs self _=>by
   show gn.b0 _ _ _ _ _=_;unfold gn.b0;simp only[aX,aE,aD]
   rfl) () trivial k (by omega)
 rw[EP VT (some ((8:Int),())) (λ_=>some ((0:Int),())) (λx y=>decide ((fk x).1=(fk y).1)&&decide ((fk x).2.1=(fk y).2.1)) (λx y=>?_) xs] at this
 ·refine aQ this ?_;grind [VT]
 ·unfold VT rk;grind
end OT
namespace OT
open Go Go.Sort
abbrev Cp:Ty:=.arr 2 i64
theorem Cq (a b c d:Int):Ty.eq Cp [a,b] [c,d]=(decide (a=c)&&decide (b=d)):=by
 show ([(a,c),(b,d)]:List (Int×Int)).all (λp=>Ty.eq i64 p.1 p.2)=_;simp only[dI,List.all_nil,Bool.and_true];rfl
theorem Hg (a b:Int):((List.replicate 2 (0:Int)).set 0 a).set 1 b=[a,b]:=rfl
theorem EU {α:Type} (k:Ty) (m:List (k.den×α)) (x:k.den) (y:α) (h:∀ e ∈ m,k.eq x e.1=false):oV k m x y=m++[(x,y)]:=by
 have:m.findIdx? (λe=>k.eq x e.1)=none:=by
  rw[fW];exact h
 unfold oV;rw[this]
def iN (x:ay):List Seen:=if ej x=0 then [(fk x,x.1,x.2.1,false,x.1,x.2.1,())] else []
def ft (x:ay):List Seen:=if ej x=1 then [(yX,x.1,x.2.1,true,oP x,oQ x,())] else []
def lR (x:ay):List (List Int×Row):=if ej x=2 then [([x.1,x.2.1],fk x)] else []
theorem DE (d:List UInt8):(di d).2=true->(di d).1.1=0/\((di d).1.2.1=0\/(di d).1.2.1=1\/(di d).1.2.1=2):=by
 unfold di;split
 ·intro _;exact ⟨rfl,.inr (.inl rfl)⟩
 ·split
  ·intro h;cases h
  ·rename_i h;intro _;refine ⟨rfl,?_⟩
   show ((pb d 0:Int)=0\/(pb d 0:Int)=1\/(pb d 0:Int)=2);omega
def zL (ps:bY):Prop:=lp ps/\∀ p ∈ ps,∀ s,s < pn p->a_ p s≠0->(di (iX p s)).2=true
theorem M6 {ps:bY} (hl:ps.length<=12) (h:ng vV ps=0):zL ps:=
 ⟨⟨hl,λp hp=>(IF (xu h p hp)).1⟩,λp hp=>(IF (xu h p hp)).2⟩
theorem TZ {ps:bY} (h:zL ps) {x:ay} (hx:x ∈ b9 ps):ej x=0\/ej x=1\/ej x=2:=by
 obtain ⟨P,p,s,h1,h2,h3,rfl⟩:=wh.1 hx;exact (DE _ (h.2 p (cD h1) s h2 h3)).2
theorem IG (S:List ay):(S.flatMap iN).length<=S.length/\(S.flatMap ft).length<=S.length:=by
 induction S with
 | nil=>exact ⟨aL _,aL _⟩
 | cons x S ih=>
  have h1:(iN x).length<=1:=by unfold iN;split <;> simp
  have h2:(ft x).length<=1:=by unfold ft;split <;> simp
  simp only[dN,bE,aW];omega
theorem PX {ps:bY} (h:zL ps) (a b:Int) (ha:0<=a) (hb:0<=b):jQ Cp ((b9 ps).flatMap lR) [a,b]=if (oM ps a b).2&&decide ((oM ps a b).1.2.1=2) then some (oM ps a b).1.2.2.2.2.1 else none:=by
 obtain ⟨a,rfl⟩:=dU ha;obtain ⟨b,rfl⟩:=dU hb;unfold jQ
 have at_:∀ x ∈ b9 ps,x.1=(a:Int)->x.2.1=(b:Int)->oM ps (a:Int) (b:Int)=(x.2.2.1,true):=λx hx e1 e2=>by
  obtain ⟨P,p,s,h1,h2,h3,rfl⟩:=wh.1 hx;have e1:(P:Int)=(a:Int):=e1;have e2:(s:Int)=(b:Int):=e2;have e1:P=a:=by omega
  have e2:s=b:=by omega
  subst e1;subst e2;unfold oM;simp only[aC,h1];rw[aM ⟨h2,h3⟩];have:=h.2 p (cD h1) s h2 h3;rw[<-this]
 cases hf:((b9 ps).flatMap lR).find? (λe=>Ty.eq Cp [(a:Int),(b:Int)] e.1) with
 | some e=>
  have hm:=cT hf;have hp:=gU hf;obtain ⟨x,hx,Pw⟩:=cX.1 hm;unfold lR at Pw;split at Pw
  ·rename_i h2;rw[bJ] at Pw;subst Pw;rw[Cq,aF,bI,bI] at hp;have hg:=at_ x hx hp.1.symm hp.2.symm;rw[hg];have:(x.2.2.1).2.1=2:=h2;simp only[this,aG,gO,aI,bT];rfl
  ·cases Pw
 | none=>
  rw[aP]
  ·rfl
  ·intro hc;rw[aF,bI] at hc;obtain ⟨c1,c2⟩:=hc
   have:∃ x ∈ b9 ps,x.1=(a:Int)/\x.2.1=(b:Int)/\ej x=2:=by
    unfold oM at c1 c2;simp only[aC] at c1 c2
    cases Z9:ps[a]? with
    | none=>rw[Z9] at c1;cases c1
    | some p=>
     rw[Z9] at c1 c2;simp only at c1 c2;by_cases hc:b < pn p/\a_ p b≠0
     ·rw[aM hc] at c2;exact ⟨_,wh.2 ⟨a,p,b,Z9,hc.1,hc.2,rfl⟩,rfl,rfl,c2⟩
     ·rw[aP hc] at c1;cases c1
   obtain ⟨x,hx,e1,e2,e3⟩:=this;have hm:([x.1,x.2.1],fk x) ∈ (b9 ps).flatMap lR:=cX.2 ⟨x,hx,by unfold lR;rw[aM e3];exact bJ.2 rfl⟩;have:=eQ.1 hf _ hm;rw[Cq,e1,e2] at this;simp at this
def pc (x:ay):Seen:=(fk x,x.1,x.2.1,decide (ej x=1),(if ej x=1 then oP x else x.1),(if ej x=1 then oQ x else x.2.1),())
def yo (ps:bY) (y:Seen):Seen:=(A7 (jQ Cp ((b9 ps).flatMap lR) [y.2.2.2.2.1,y.2.2.2.2.2.1]) yX,y.2)
def FM (ps:bY):List Seen:=(b9 ps).flatMap iN++((b9 ps).flatMap ft).map (yo ps)
theorem RI {ps:bY} (h:zL ps) (hs:(b9 ps).all (pN ps)=true):(FM ps).Perm ((ju ps).map pc):=by
 unfold FM ju;have rJ:=bK.1 hs;have Cb:∀ x ∈ b9 ps,ej x=0\/ej x=1\/ej x=2:=λx hx=>TZ h hx;have Gh:∀ x ∈ b9 ps,0<=oP x/\0<=oQ x:=λx hx=>vW hx
 have key:∀ S:List ay,(∀ x ∈ S,x ∈ b9 ps)->(S.flatMap iN++(S.flatMap ft).map (yo ps)).Perm ((S.flatMap (qC ps)).map pc):=by
  intro S
  induction S with
  | nil=>intro _;exact fR _
  | cons x S ih=>
   intro hS;have ih:=ih λy hy=>hS y (bF _ hy);have hx:=hS x cA;simp only[dN,eS];rcases Cb x hx with h0 | h1 | h2
   ·have e1:iN x=[pc (tn ps x)]:=by
     unfold iN pc tn;have n1:¬ ej x=1:=by omega
     rw[aM h0,aP n1,aP n1,aP n1,aY n1]
    have e2:ft x=[]:=by unfold ft;rw[aP (by omega)]
    have e3:qC ps x=[tn ps x]:=by unfold qC;rw[aP (by omega)]
    rw[e1,e2,e3];simp only[fU,bO,cY,cL];exact List.Perm.cons _ ih
   ·have e1:iN x=[]:=by unfold iN;rw[aP (by omega)]
    have e3:qC ps x=[tn ps x]:=by unfold qC;rw[aP (by omega)]
    have e2:(ft x).map (yo ps)=[pc (tn ps x)]:=by
     unfold ft;rw[aM h1];simp only[cY,fU];obtain ⟨g1,g2⟩:=Gh x hx;have dc:=rJ x hx;unfold pN at dc;rw[aV h1] at dc;simp only[aN,cZ] at dc;have hg:=PX h (oP x) (oQ x) g1 g2;rw[aM dc] at hg;unfold yo;simp only[hg,A7];unfold tn;rw[aM h1];have VU:ej (PW x (oM ps (oP x) (oQ x)).1.2.2.2.2.1)=1:=h1;unfold pc;rw[aM VU,aM VU,aV VU];rfl
    rw[e1,e2,e3];simp only[bO,cY,fU,cL];exact (fE).trans (List.Perm.cons _ ih)
   ·have e1:iN x=[]:=by unfold iN;rw[aP (by omega)]
    have e2:ft x=[]:=by unfold ft;rw[aP (by omega)]
    have e3:qC ps x=[]:=by unfold qC;rw[aM h2]
    rw[e1,e2,e3]
    simpa using ih
 exact key (b9 ps) λx hx=>hx
def Bw (x y:Seen):Bool:=gg (rk x.1) (rk y.1)
def PY (x y:Seen):Int:=if gg (x.1.1,x.1.2.1) (y.1.1,y.1.2.1) then -1 else if gg (y.1.1,y.1.2.1) (x.1.1,x.1.2.1) then 1 else 0
theorem T5:Go.Proofs.ltOf PY=Bw:=by
 funext x y;exact TP x.1 y.1
theorem VV (x y:Seen):oU.ab (x,y,())=some (PY x y,()):=by
 refine ag (k:=0) λk hk=>(oU.ae k _).trans ?_;show oU.p _=_;unfold oU.p;rw[Dl];rfl
theorem abX:SWO Bw where
 irrefl x:=sV _
 trans x y z h1 h2:=sH h1 h2
 ntrans x y z h1 h2:=by
  cases h3:Bw x z with
  | false=>rfl
  | true=>
   unfold Bw at h1 h2 h3
   cases h4:gg (rk y.1) (rk x.1) with
   | true=>
    have:=sH h4 h3;rw[this] at h2;cases h2
   | false=>
    have:=xZ h1 h4;rw[this] at h3;rw[h3] at h2;cases h2
def EV (xs:List Seen) (x:Seen):List Seen:=xs.take (pos (xs.map (·.1)) (rk x.1))++[x]++xs.drop (pos (xs.map (·.1)) (rk x.1))
def DF (l:List Seen):List Seen:=l.foldl EV []
theorem VW (xs:List Seen) (x:Seen):(EV xs x).map (·.1)=qL (xs.map (·.1)) x.1:=by
 unfold EV qL;simp only[eS,List.map_take,List.map_drop,cY,fU]
theorem T6 (xs:List Seen) (x:Seen):(EV xs x).Perm (x::xs):=by
 unfold EV;rw[bN];have:=fE (a:=x) (l₁:=xs.take (pos (xs.map (·.1)) (rk x.1))) (l₂:=xs.drop (pos (xs.map (·.1)) (rk x.1)));rw[dE] at this;exact this
theorem Kl (l:List Seen):(DF l).map (·.1)=ID (l.map (·.1)):=by
 have main:∀ (l acc:List Seen),(l.foldl EV acc).map (·.1)=(l.map (·.1)).foldl qL (acc.map (·.1)):=by
  intro l
  induction l with
  | nil=>intro acc;rfl
  | cons x l ih=>intro acc;simp only[eU,cY,ih,VW]
 exact main l []
theorem IH (l:List Seen):(DF l).Perm l:=by
 have main:∀ (l acc:List Seen),(l.foldl EV acc).Perm (l++acc):=by
  intro l
  induction l with
  | nil=>intro acc;exact fR _
  | cons x l ih=>
   intro acc;exact (ih (EV acc x)).trans (((fR l).append (T6 acc x)).trans fE)
 have:=main l [];rw[cI] at this;exact this
def Km (xs:List Seen):Prop:=xs.Pairwise λx y=>Bw x y=true
theorem PZ {xs:List Seen}:Km xs↔up (xs.map (·.1)):=by
 unfold Km up;rw[gG];rfl
theorem M7 {l r:List Seen} (hp:r.Perm l) (hr:Km r) (hn:(l.map λx=>rk x.1).Nodup):r=DF l:=by
 refine yZ (lt:=λx y=>Bw x y=true) (λa b h=>M3 h) r (DF l) (hp.trans (IH l).symm) hr (PZ.2 ?_);rw[Kl];refine M2 ?_;rw[hK];exact hn
theorem T7 {r:List Seen} (h:Km r):(r.map λx=>rk x.1).Nodup:=by
 have:=DC (PZ.1 h);rw[hK] at this;exact this
def DG:List Seen->Bool
 | x::y::l=>Bw x y&&DG (y::l)
 | _=>true
theorem T8:∀ (l:List Seen),DG l=true->Km l
 | [],_=>List.Pairwise.nil
 | [x],_=>fD _ _
 | x::y::l,h=>by
  simp only[DG,aF] at h;have ih:=T8 (y::l) h.2;refine dT.2 ⟨λz hz=>?_,ih⟩;rcases bB.1 hz with rfl | hz
  ·exact h.1
  ·exact sH h.1 ((dT.1 ih).1 z hz)
theorem P0:∀ (l:List Seen),Km l->DG l=true
 | [],_=>rfl
 | [x],_=>rfl
 | x::y::l,h=>by
  obtain ⟨h1,h2⟩:=dT.1 h;simp only[DG,aF];exact ⟨h1 y cA,P0 (y::l) h2⟩
theorem T9 {r:List Seen} (h:r.Pairwise λx y=>Bw y x=false) (hn:(r.map λx=>rk x.1).Nodup):Km r:=by
 unfold Km
 have h2:r.Pairwise λx y=>rk x.1≠rk y.1:=by
  unfold List.Nodup at hn;rw[gG] at hn;exact hn
 refine (h.and h2).imp λ{x y} ⟨g1,g2⟩=>?_
 cases h3:Bw x y with
 | true=>rfl
 | false=>exact absurd (xZ h3 g1) g2
end OT
namespace OT
open Go Go.Sort
theorem VX (z:List Seen) (hl:z.length<=1000):∃ r:List Seen,(∀ f:Nat×Int,o5.ab (z,f,())=some (r,()))/\r.Perm z/\r.Pairwise λx y=>Bw y x=false:=by
 have hs:SWO (Go.Proofs.ltOf PY):=by rw[T5];exact abX
 have h1:=Mz (e:=gc) (cs:=oU.ab) (cf:=PY) (λx y=>VV x y) hs z (dn (bL hl (by omega)));have h2:=MA (α:=gc.den) (lt:=Go.Proofs.ltOf PY) hs z;refine ⟨_,λf=>?_,h2.1,?_⟩
 ·show (zn gc oU.ab z).map (λr=>(r,()))=_;rw[h1];rfl
 ·exact h2.2.imp λ{x y} (h:Go.Proofs.ltOf (α:=Seen) PY y x=false)=>by simp_all [T5]
theorem M8 {O:Type} (r:List Seen) (bad e:O):∀ (l pre:List Seen) (x:Seen),r=pre++x::l->b_ (λi (_:Unit) y=>if (match r[i]? with | some z=>Bw z y | none=>true) then .inr () else .inl bad) (λ_=>e) pre.length l ()=if DG (x::l) then e else bad
 | [],pre,x,_=>by simp[b_,DG]
 | y::l,pre,x,h=>by
  have hx:r[pre.length]?=some x:=by grind
  simp only[b_,hx,DG];by_cases hc:Bw x y=true;rotate_left
  ·grind
  ·simp only[hc,aI,dJ];have:=M8 r bad e l (pre++[x]) y (by rw[h];simp);grind
theorem VY (ps:bY) (k:Nat) (hk:300<=k) (r:List Seen) (hl:r.length<=192):al (λself v=>bp.B4 k self (λz=>bp.Q4 k (ps,()) r z) (ps,()) r v) k 1=if DG r then some (r,(0:Int),()) else some (([]:List Seen),(8:Int),()):=by
 have:=dz (B:=λself v=>bp.B4 k self (λz=>bp.Q4 k (ps,()) r z) (ps,()) r v) (r.drop 1) (λ(_:Unit) (i:Int)=>i+1) (λi _ y=>if (match r[i]? with | some z=>Bw z y | none=>true) then .inr () else .inl (some (([]:List Seen),(8:Int),()))) (λ_=>some (r,(0:Int),())) (λ_ _=>True) (by grind [au])
  (λi hi s self _=>by
   rw[bQ] at hi;show bp.b4 _ _ _ _ _=_;unfold bp.b4;have ax:(i:Int)+1 < (r.length:Int):=by omega
   have My:(i:Int) < (r.length:Int):=by omega
   have Gh:(0:Int)<=(i:Int)+1:=by omega
   have w8:af ((i:Int)+1 - 1)=(i:Int):=by grind [a7]
   have Be:af ((i:Int)+1+1)=af ((i:Int)+1)+1:=by grind [a7]
   have htn:((i:Int)+1).toNat=i+1:=by omega
   have hg:(r.drop 1)[i]'(by grind)=r[i+1]'(by omega):=by grind
   rw[hg];simp only[ax,My,Gh,w8,Be,htn,aG,aH,aK,bR,aI,aC,aB (show i < r.length by omega),aB (show i+1 < r.length by omega),aA,yh];show (bif !Bw r[i] (r[i+1]'(by omega)) then _ else _)=_
   grind)
  (λ_ _ _ _ _ _=>trivial) (λs self _=>by
   rw[bQ];show bp.b4 _ _ _ _ _=_;unfold bp.b4;have ax:¬ (((r.length - 1:Nat):Int)+1 < (r.length:Int)):=by omega
   simp only[ax,aE,aD]
   rfl) () trivial k (by grind)
 refine aQ this ?_
 cases r with
 | nil=>rfl
 | cons x l=>
  exact M8 (x::l) _ _ l [] x rfl
def xv (ps:bY):List Seen:=if ij ps=0 then DF ((ju ps).map pc) else []
def Xn (ps:bY):List Seen:=if Bu ps=0 then DF ((ju ps).map pc) else []
def Lg (y:Seen):Option (Int×Int):=some (y.2.2.2.2.1,y.2.2.2.2.2.1)
def Lh (y:Seen):List Int×Bool:=([y.2.2.2.2.1,y.2.2.2.2.2.1],true)
theorem M9 (T:List Seen) (a b:Int):A7 (jQ Cp (T.map Lh) [a,b]) false=T.any λy=>decide (a=y.2.2.2.2.1)&&decide (b=y.2.2.2.2.2.1):=by
 induction T with
 | nil=>rfl
 | cons y T ih=>
  have hk:Ty.eq Cp [a,b] (Lh y).1=(decide (a=y.2.2.2.2.1)&&decide (b=y.2.2.2.2.2.1)):=Cq _ _ _ _;unfold jQ at ih ⊢;rw[cY,gS,gN,hk]
  cases (decide (a=y.2.2.2.2.1)&&decide (b=y.2.2.2.2.2.1)) with
  | true=>rfl
  | false=>simpa using ih
theorem VZ (S:List ay):(S.flatMap ft).filterMap Lg=S.filterMap xt:=by
 induction S <;> grind [ft,xt,Lg]
theorem OI (ps:bY) (h:zL ps):bp.ab (ps,())=some (Xn ps,Bu ps,()):=by
 obtain ⟨hl,hp⟩:=h.1;have lT:=Bv h.1;refine ag (k:=300) λk hk=>(bp.ae k _).trans ?_
 have inner:∀ (self:(List Seen×List Seen×List (List Int×Row)×bY×Int×Int)->Option bp.Out) (e0:(List Seen×List Seen×List (List Int×Row))->Option bp.Out) (i:Nat) (hi:i < ps.length) (S:List ay),S.length<=16*i->(∀ x ∈ S,x.1 < (i:Int)) ->
   bp.r1 k self e0 (ps,()) (i:Int) ps[i] ps (ps.length:Int) (pn ps[i]:Int) (S.flatMap iN,S.flatMap ft,S.flatMap lR,(0:Int))=self ((S++qB i ps[i]).flatMap iN,(S++qB i ps[i]).flatMap ft,(S++qB i ps[i]).flatMap lR,ps,(ps.length:Int),af ((i:Int)+1)):=λself e0 i hi S0 hS0 nc=>by
  have ba:=hp _ (aU hi);have hn:=ba.n;have hlen:=ba.len;have tR:=h.2 _ (aU hi)
  have:=og (B:=λgk v=>bp.B1 k gk (λz=>bp.Q0 k self e0 (ps,()) (i:Int) ps[i] ps (ps.length:Int) (pn ps[i]:Int) z) (ps,()) (i:Int) ps[i] ps (ps.length:Int) (pn ps[i]:Int) v) (pn ps[i]) (λ(S:List ay) (j:Int)=>(S.flatMap iN,S.flatMap ft,S.flatMap lR,j)) (λj S=>.inr (S++qA i ps[i] j)) (λS=>self (S.flatMap iN,S.flatMap ft,S.flatMap lR,ps,(ps.length:Int),af ((i:Int)+1))) (λj S=>S.length<=16*i+j/\∀ x ∈ S,x.1 < (i:Int)\/(x.1=(i:Int)/\x.2.1 < (j:Int))) (by omega)
   (λj hj S gk ⟨Z_,hI2⟩=>by
    show bp.b1 _ _ _ _ _ _ _ _ _=_;unfold bp.b1 qA;have ax:(j:Int) < (pn ps[i]:Int):=by omega
    simp only[ax,aG,aH,xq ba,hj,dJ,aA];by_cases hz:a_ ps[i] j=0
    ·grind
    ·have HS:=tR j hj hz;obtain ⟨f1,f2⟩:=DE _ HS;obtain ⟨l1,l2⟩:=IG S;have qU:∀ (T:List Seen) (y:Seen),T.length<=S.length->T.length+[y].length<=cg:=λT y hT=>dn (by grind);simp only[hz,aE,bA,aN,aD,yY ba hj,D0 _ (bL (vU ba hj) (by omega)),HS,aI,aO,aA,f1,aG,qU _ _ l1,qU _ _ l2,Hg]
     obtain ⟨x,hx⟩:∃ x:ay,x=((i:Int),(j:Int),(di (iX ps[i] j)).1,()):=⟨_,rfl⟩
     have hxf:ej x=(di (iX ps[i] j)).1.2.1:=by rw[hx];rfl
     rw[<-hx];simp only[fX,dN,gM,cI];rcases f2 with g | g | g
     ·have e1:iN x=[((di (iX ps[i] j)).1.2.2.2.2.1,(i:Int),(j:Int),false,(i:Int),(j:Int),())]:=by unfold iN;rw[aM (hxf.trans g),hx];rfl
      grind [ft,lR]
     ·have e1:iN x=[]:=by grind [iN]
      have e2:ft x=[(yX,(i:Int),(j:Int),true,(di (iX ps[i] j)).1.2.2.1,(di (iX ps[i] j)).1.2.2.2.1,())]:=by unfold ft;rw[aM (hxf.trans g),hx];rfl
      grind [lR]
     ·have e1:iN x=[]:=by grind [iN]
      have e2:ft x=[]:=by grind [ft]
      have e3:lR x=[([(i:Int),(j:Int)],(di (iX ps[i] j)).1.2.2.2.2.1)]:=by unfold lR;rw[aM (hxf.trans g),hx];rfl
      rw[e1,e2,e3];have n1:¬ ((2:Int)=0):=by decide
      have Ac:oV Cp (S.flatMap lR) [(i:Int),(j:Int)] (di (iX ps[i] j)).1.2.2.2.2.1=S.flatMap lR++[([(i:Int),(j:Int)],(di (iX ps[i] j)).1.2.2.2.2.1)]:=EU Cp _ _ _ λe he=>by
       grind [lR,Cq]
      grind)
   (λj hj S S' ⟨Z_,hI2⟩ hf=>by
    grind [qA]) (λS gk hI=>by
    show bp.b1 _ _ _ _ _ _ _ _ _=_;unfold bp.b1;simp only[aX,aE,aD]
    rfl) S0 ⟨by omega,λx hx=>.inl (nc x hx)⟩ k (by omega)
  rw[Dw (qA i ps[i])] at this;exact this
 have outer:bp.r0 k (ps,()) (([]:List Seen),([]:List Seen),([]:List (List Int×Row)),ps,(ps.length:Int),(0:Int))=bp.Q1 k (ps,()) ((b9 ps).flatMap iN,(b9 ps).flatMap ft,(b9 ps).flatMap lR):=by
  have:=dz (B:=λself v=>bp.B0 k self (λz=>bp.Q1 k (ps,()) z) (ps,()) v) ps (λ(S:List ay) (i:Int)=>(S.flatMap iN,S.flatMap ft,S.flatMap lR,ps,(ps.length:Int),i)) (λi S p=>.inr (S++qB i p)) (λS=>bp.Q1 k (ps,()) (S.flatMap iN,S.flatMap ft,S.flatMap lR)) (λi S=>S.length<=16*i/\∀ x ∈ S,x.1 < (i:Int)) (by rw[au];omega)
   (λi hi S self ⟨Z_,hI2⟩=>by
    show bp.b0 _ _ _ _ _=_;unfold bp.b0;have ax:(i:Int) < (ps.length:Int):=by omega
    have hlen:=(hp _ (aU hi)).len
    grind [tL])
   (λi hi S S' ⟨Z_,hI2⟩ hf=>by
    injection hf with hf;subst hf;have:=BR (hp _ (aU hi)) i;refine ⟨by grind,λx hx=>?_⟩
    rcases bU.1 hx with hx | hx
    ·grind
    ·obtain ⟨s,_,hs⟩:=cX.1 hx
     grind [qA]) (λS self hI=>by
    show bp.b0 _ _ _ _ _=_
    grind [bp.b0]) [] ⟨by simp,λx hx=>by cases hx⟩ k (by omega)
  rw[EQ] at this;exact this
 show bp.r0 k (ps,()) (([]:List Seen),([]:List Seen),([]:List (List Int×Row)),ps,(ps.length:Int),(0:Int))=_;rw[outer];show bp.q1 _ _ _=_;unfold bp.q1;obtain ⟨gl1,gl2⟩:=IG (b9 ps)
 have hT:∀ y ∈ (b9 ps).flatMap ft,∃ x ∈ b9 ps,ej x=1/\y=(yX,x.1,x.2.1,true,oP x,oQ x,()):=λy hy=>by
  grind [ft]
 have l2w:bp.r2 k (ps,()) ((b9 ps).flatMap iN) ((b9 ps).flatMap ft) ((b9 ps).flatMap lR) (((b9 ps).flatMap ft).length:Int) (0:Int)=if (b9 ps).all (pN ps) then bp.Q2 k (ps,()) ((b9 ps).flatMap iN) ((b9 ps).flatMap ft) ((b9 ps).flatMap lR) (((b9 ps).flatMap ft).length:Int) () else some (([]:List Seen),(4:Int),()):=by
  obtain ⟨T,Xo⟩:∃ T,T=(b9 ps).flatMap ft:=⟨_,rfl⟩
  obtain ⟨M,hM⟩:∃ M,M=(b9 ps).flatMap lR:=⟨_,rfl⟩
  rw[<-Xo,<- hM];have hTl:T.length<=192:=by grind
  have:=dz (B:=λself v=>bp.B2 k self (λz=>bp.Q2 k (ps,()) ((b9 ps).flatMap iN) T M (T.length:Int) z) (ps,()) ((b9 ps).flatMap iN) T M (T.length:Int) v) T (λ(_:Unit) (i:Int)=>i) (λi _ y=>if (jQ Cp M [y.2.2.2.2.1,y.2.2.2.2.2.1]).isSome then .inr () else .inl (some (([]:List Seen),(4:Int),()))) (λ_=>bp.Q2 k (ps,()) ((b9 ps).flatMap iN) T M (T.length:Int) ()) (λ_ _=>True) (by rw[au];omega)
   (λi hi s self _=>by
    grind [bp.b2,Int.toNat_natCast,Hg,List.length_replicate])
   (λ_ _ _ _ _ _=>trivial) (λs self _=>by
    grind [bp.b2]) () trivial k (by omega)
  rw[so (λy:Seen=>(jQ Cp M [y.2.2.2.2.1,y.2.2.2.2.2.1]).isSome) (some (([]:List Seen),(4:Int),())) (λ_=>bp.Q2 k (ps,()) ((b9 ps).flatMap iN) T M (T.length:Int) ())] at this;refine aQ this ?_
  have hb:T.all (λy:Seen=>(jQ Cp M [y.2.2.2.2.1,y.2.2.2.2.2.1]).isSome)=(b9 ps).all (pN ps):=by
   have qT:∀ x ∈ b9 ps,ej x=1->(jQ Cp M [oP x,oQ x]).isSome=pN ps x:=λx hx hf=>by
    grind [vW,PX,pN]
   grind [ft,pN]
  rw[hb]
 rw[l2w];unfold Xn Bu;by_cases dc:(b9 ps).all (pN ps)=true;rotate_left
 ·grind
 simp only[dc,aI];show bp.q2 _ _ _ _ _ _ _=_;unfold bp.q2
 have l3w:bp.r3 k (ps,()) ((b9 ps).flatMap iN) ((b9 ps).flatMap ft) ((b9 ps).flatMap lR) (((b9 ps).flatMap ft).length:Int) ((b9 ps).flatMap ft) ((b9 ps).flatMap lR) (((b9 ps).flatMap ft).length:Int) ((b9 ps).flatMap iN,([]:List (List Int×Bool)),(0:Int))=if ((b9 ps).filterMap xt).Nodup then bp.Q3 k (ps,()) ((b9 ps).flatMap ft) ((b9 ps).flatMap lR) (((b9 ps).flatMap ft).length:Int) (FM ps) else some (([]:List Seen),(6:Int),()):=by
  have Xp:=VZ (b9 ps);unfold FM
  obtain ⟨T,Xo⟩:∃ T,T=(b9 ps).flatMap ft:=⟨_,rfl⟩
  obtain ⟨M,hM⟩:∃ M,M=(b9 ps).flatMap lR:=⟨_,rfl⟩
  obtain ⟨L,hL⟩:∃ L,L=(b9 ps).flatMap iN:=⟨_,rfl⟩
  have aci:∀ y:Seen,yo ps y=(A7 (jQ Cp M [y.2.2.2.2.1,y.2.2.2.2.2.1]) yX,y.2):=λy=>by grind [yo]
  rw[<-Xo,<- hM,<- hL];rw[<-Xo] at Xp;have hTl:T.length<=192:=by grind
  have hLl:L.length<=192:=by rw[hL];omega
  have:=dz (B:=λself v=>bp.B3 k self (λz=>bp.Q3 k (ps,()) T M (T.length:Int) z) (ps,()) T M (T.length:Int) v) T (λ(_:Unit) (i:Int)=>(L++(T.take i.toNat).map (yo ps),(T.take i.toNat).map Lh,i)) (λi _ y=>if (T.take i).any (λz=>decide (y.2.2.2.2.1=z.2.2.2.2.1)&&decide (y.2.2.2.2.2.1=z.2.2.2.2.2.1)) then .inl (some (([]:List Seen),(6:Int),())) else .inr ()) (λ_=>bp.Q3 k (ps,()) T M (T.length:Int) (L++T.map (yo ps))) (λ_ _=>True) (by rw[au];omega)
   (λi hi s self _=>by
    show bp.b3 _ _ _ _ _ _ _=_;unfold bp.b3;have ax:(i:Int) < (T.length:Int):=by omega
    have qU:∀ y:Seen,(L++(T.take i).map (yo ps)).length+[y].length<=cg:=λy=>dn (by grind);have hw:(af ((i:Int)+1)).toNat=i+1:=by grind [a7]
    have qp:T.take (i+1)=T.take i++[T[i]]:=dZ hi;simp only[ax,aG,aH,aK,bR,aI,aC,aB hi,aA,Hg,cR,aZ,show (0:Nat) < 2 by omega,show (1:Nat) < 2 by omega,M9,qU,hw,qp,eS,cY,fU];have htg:=M9 (T.take i) (T[i]).2.2.2.2.1 (T[i]).2.2.2.2.2.1
    grind [Lh,EU,Cq])
   (λ_ _ _ _ _ _=>trivial) (λs self _=>by
    grind [bp.b3,List.take_length]) () trivial k (by omega)
  rw[EP Lg (some (([]:List Seen),(6:Int),())) (λ_=>bp.Q3 k (ps,()) T M (T.length:Int) (L++T.map (yo ps))) (λy z=>decide (y.2.2.2.2.1=z.2.2.2.2.1)&&decide (y.2.2.2.2.2.1=z.2.2.2.2.2.1)) (λy z=>?_) T,Xp] at this
  ·simp only[Int.toNat_zero,List.take_zero,fU,cI] at this;exact this
  ·unfold Lg;simp only[aF,bI];constructor
   all_goals grind
 rw[l3w];by_cases qp:((b9 ps).filterMap xt).Nodup;rotate_left
 ·grind
 simp only[qp,aI];show bp.q3 _ _ _ _ _ _=_;unfold bp.q3;have Xq:=RI h dc
 have Ph:(FM ps).length<=192:=by
  have:=Xq.length_eq;rw[gV] at this;have:=AP h.1;omega
 obtain ⟨r,wM,wu,YN⟩:=VX (FM ps) (by omega);rw[wM];simp only[aA];have yy:r.length<=192:=by have:=wu.length_eq;omega
 have ZC:=wu.trans Xq
 have hkn:(r.map λx=>rk x.1).Nodup↔((ju ps).map λx=>rk (fk x)).Nodup:=by
  have h1:(r.map λx=>rk x.1).Perm (((ju ps).map pc).map λx=>rk x.1):=ZC.map _;rw[h1.nodup_iff,hK];exact iH
 refine (VY ps k hk r yy).trans ?_;by_cases vQ:((ju ps).map λx=>rk (fk x)).Nodup
 all_goals grind [T9,M7,P0,T7,T8]
theorem Gl (ps:bY) (hp:∀ p ∈ ps,p.length<=maxLen):fq.ab (ps,())=some (xv ps,ij ps,()):=by
 refine ag (k:=300) λk hk=>(fq.ae k _).trans ?_;unfold fq.p xv ij;by_cases hl:12 < ps.length
 ·grind
 have wy:¬ ((12:Int) < (ps.length:Int)):=by omega
 simp only[wy,aE,aD,hl,aO]
 have inner:∀ (self:(bY×bY×Int×Int)->Option fq.Out) (e0:bY->Option fq.Out) (i:Nat) (hi:i < ps.length),gt ps[i]->fq.r1 k self e0 (ps,()) ps ps[i] ps (ps.length:Int) (i:Int) (pn ps[i]:Int) (0:Int)=if (List.range (pn ps[i])).all (xr ps[i]) then self (ps,ps,(ps.length:Int),af ((i:Int)+1)) else some (([]:List Seen),(5:Int),()):=λself e0 i hi ba=>by
  have hn:=ba.n;have hlen:=ba.len
  have:=og (B:=λgk v=>fq.b1 gk (λz=>fq.q0 self e0 (ps,()) ps ps[i] ps (ps.length:Int) (i:Int) (pn ps[i]:Int) z) (ps,()) ps ps[i] ps (ps.length:Int) (i:Int) (pn ps[i]:Int) v) (pn ps[i]) (λ(_:Unit) (j:Int)=>j) (λj _=>if xr ps[i] j then .inr () else .inl (some (([]:List Seen),(5:Int),()))) (λ_=>self (ps,ps,(ps.length:Int),af ((i:Int)+1))) (λ_ _=>True) (by omega)
   (λj hj s gk hI=>by
    show fq.b1 _ _ _ _ _ _ _ _ _ _=_;unfold fq.b1 xr;have ax:(j:Int) < (pn ps[i]:Int):=by omega
    simp only[ax,aG,aH,xq ba,hj,dJ,aA];by_cases hz:a_ ps[i] j=0
    ·grind
    ·simp only[hz,aE,bA,aH,yY ba hj,D0 _ (bL (vU ba hj) (by omega)),aA,cZ]
     grind [DE])
   (λ_ _ _ _ _ _=>trivial) (λs gk hI=>by
    show fq.b1 _ _ _ _ _ _ _ _ _ _=_;unfold fq.b1;simp only[aX,aE,aD]
    rfl) () trivial k (by omega)
  rw[uB] at this;exact this
 have outer:fq.r0 k (ps,()) (ps,ps,(ps.length:Int),(0:Int))=if ng vV ps=0 then fq.q1 (ps,()) ps else some (([]:List Seen),ng vV ps,()):=by
  have:=dz (B:=λself v=>fq.B0 k self (λz=>fq.q1 (ps,()) z) (ps,()) v) ps (λ(_:Unit) (i:Int)=>(ps,ps,(ps.length:Int),i)) (λi _ p=>if vV p=0 then .inr () else .inl (some (([]:List Seen),vV p,()))) (λ_=>fq.q1 (ps,()) ps) (λ_ _=>True) (by rw[au];omega)
   (λi hi s self hI=>by
    show fq.b0 _ _ _ _ _=_;unfold fq.b0 vV;have ax:(i:Int) < (ps.length:Int):=by omega
    simp only[ax,aG,aH,aK,aI,aC,aB hi,aA,yn _ (hp _ (aU hi))];by_cases h0:xp ps[i]=0
    ·have ba:=tK.1 h0;rw[aV h0];simp only[aN,aD,tL ba.len,aA,inner self _ i hi ba,h0,aI];grind
    grind)
   (λ_ _ _ _ _ _=>trivial) (λs self _=>by
    show fq.b0 _ _ _ _ _=_
    grind [fq.b0]) () trivial k (by omega)
  rw[zm vV (λc=>some (([]:List Seen),c,())) (λ_=>fq.q1 (ps,()) ps)] at this;exact this
 rw[outer];by_cases hc:ng vV ps=0
 ·simp only[hc,aI];show fq.q1 _ _=_;unfold fq.q1;rw[OI ps (M6 (by omega) hc)];rfl
 grind
end OT
namespace OT
open Go
structure vB (ps:bY):Prop where
 right:lp ps
 cells:zL ps
 Xr:(b9 ps).all (pN ps)=true
 abY:((b9 ps).filterMap xt).Nodup
 keys:((ju ps).map λx=>rk (fk x)).Nodup
 list:xv ps=DF ((ju ps).map pc)
theorem qD {ps:bY} (h:ij ps=0):vB ps:=by
 obtain ⟨h1,h2,h3⟩:=DD h;have hc:=M6 h1.1 h2;unfold Bu at h3;split at h3
 ·rename_i a1;split at h3
  ·rename_i a2;split at h3
   ·rename_i a3;exact ⟨h1,hc,a1,a2,a3,by unfold xv;rw[aM h]⟩
   ·cases h3
  ·cases h3
 ·cases h3
theorem II {ps:bY} (h:vB ps):(xv ps).Perm ((ju ps).map pc):=by rw[h.list];exact IH _
theorem EW {ps:bY} (h:vB ps):(xv ps).length<=192:=by
 have:=(II h).length_eq;rw[gV] at this;have:=AP h.right;omega
def eu (ps:bY):List Row:=(xv ps).map (·.1)
theorem x_ {ps:bY} (h:vB ps):eu ps=ID ((ju ps).map fk):=by
 unfold eu;rw[h.list,Kl,hK];rfl
theorem wi {ps:bY} (h:vB ps):up (eu ps):=by
 rw[x_ h];refine M2 ?_;rw[hK];exact h.keys
theorem Gm (l:List Seen) (hl:l.length<=1000):mg.ab (l,())=some (l.map (·.1),()):=by
 refine ag (k:=1100) λq hq=>(mg.ae q _).trans ?_
 have:=da (B:=λself v=>mg.b0 self (λz=>mg.q0 (l,()) z) (l,()) v) l (λ(s:List Row) (i:Int)=>(s,i)) (λ_ s x=>.inr (s++[x.1])) (λs=>(s,())) (λi s=>s.length=i) (by rw[au];omega)
  (λi hi s self hs=>by
   show mg.b0 _ _ _ _=_;unfold mg.b0;have ax:(i:Int) < (l.length:Int):=by omega
   rw[aV ax,aH,aM (aK i)];simp only[aC,aB hi,aA]
   rw[aM (dn (by simp only[aW,bC];omega))])
  (λi hi s s' hs hf=>by injection hf with hf;subst hf;simp[hs]) (λs self _=>by
   show mg.b0 _ _ _ _=_;unfold mg.b0;rw[aY (aX _),aD]
   rfl) [] rfl q (by omega)
 rw[ig (g:=λ(s:List Row) (x:Seen)=>s++[x.1])] at this;refine this.trans ?_
 have hm:∀ (xs:List Seen) (s:List Row),xs.foldl (λs x=>s++[x.1]) s=s++xs.map (·.1):=by
  intro xs
  induction xs with
  | nil=>intro s;simp
  | cons x xs ih=>intro s;rw[eU,ih];simp
 rw[hm,bO]
theorem KX {ps:bY} (h:ij ps=0):kM.ab (ps,())=some (eu ps,()):=by
 have hr:=DD h;have hl:=AP hr.1;refine ag (k:=300) λk hk=>(kM.ae k _).trans ?_;unfold kM.p;rw[BS ps hr.1];simp only[aA]
 have:=da (B:=λself v=>kM.b0 self (λz=>kM.q0 (ps,()) (ju ps) z) (ps,()) (ju ps) v) (ju ps) (λ(s:List Row) (i:Int)=>(s,i)) (λ_ s x=>.inr (qL s (fk x))) (λs=>(s,())) (λi s=>s.length<=i) (by rw[au];omega)
  (λi hi s self hs=>by
   show kM.b0 _ _ _ _ _=_;unfold kM.b0;have ax:(i:Int) < ((ju ps).length:Int):=by omega
   rw[aV ax,aH,aM ⟨aK i,ax⟩];simp only[aC,aB hi,aA];rw[IA _ _ (by omega)]
   rfl)
  (λi hi s s' hs hf=>by
   injection hf with hf;subst hf;unfold qL;simp only[bE,dD,bQ,aW,bC]
   omega) (λs self _=>by
   show kM.b0 _ _ _ _ _=_;unfold kM.b0;rw[aY (aX _),aD]
   rfl) [] (aL 0) k (by omega)
 rw[ig (g:=λ(s:List Row) (x:ay)=>qL s (fk x))] at this;refine this.trans ?_;rw[x_ (qD h)];unfold ID;rw[List.foldl_map]
end OT
namespace OT
open Go
theorem M_ {p:List UInt8} {i n:Nat} (h:pb p i=n) (hn:n < 256):p.set i (UInt8.ofNat n)=p:=by
 refine AG (by rw[aZ]) λj hj=>?_;rw[pa];split
 ·rename_i h1;rw[ofNat_toNat hn,<- h,h1.1]
 ·rfl
theorem t7 (n:Nat):UInt8.ofInt ((n:Nat):Int)=UInt8.ofNat n:=by
 refine fY.1 ?_;rw[gA];simp only[UInt8.ofInt];rw[gA];omega
theorem DH {O:Type} (p:List UInt8) (g:Nat->O):∀ (m a i:Nat),b_ (λ_ (_:Unit) (x:Nat)=>if a_ p x=0 then .inl (g x) else .inr ()) (λ_=>g (a+m)) i (List.range' a m) ()=g (vd p m a)
 | 0,a,i=>rfl
 | m+1,a,i=>by
  rw[iG];simp only[b_,vd];by_cases h:a_ p a=0
  ·simp only[h,aI]
  ·simp only[h,aO];have:=DH p g m (a+1) (i+1);rw[show a+1+m=a+(m+1) by omega] at this;exact this
theorem EX (p:List UInt8) (b:Int):∀ n,(List.range n).foldl (λs x=>s - (a_ p x:Int)) b=b - (mB p n:Int)
 | 0=>by simp[mB]
 | n+1=>by rw[gT,List.foldl_append,EX p b n];simp only[eU,List.foldl_nil,mB];omega
theorem JA (p:List UInt8):∀ n,mB p n<=256*n
 | 0=>by simp[mB]
 | n+1=>by have:=JA p n;have:=l7 p (3+2*n);simp only[mB];unfold a_;omega
section
variable {p:List UInt8} (hp:gt p)
include hp
theorem Na:kf.ab (p,())=some ((fh p:Int),()):=by
 have hn:=hp.n;refine ag (k:=100) λk hk=>(kf.ae k _).trans ?_
 have:=og (B:=λself v=>kf.b0 self (λz=>kf.q0 (p,()) z) (p,()) v) (pn p) (λ(_:Unit) (i:Int)=>i) (λx _=>if a_ p x=0 then .inl (some ((x:Int),())) else .inr ()) (λ_=>some ((pn p:Int),())) (λ_ _=>True) (by omega)
  (λi hi s self _=>by
   show kf.b0 _ _ _ _=_;unfold kf.b0;have ax:(i:Int) < (pn p:Int):=by omega
   simp only[ns hp.len,aA,ax,aG,aH,pQ hp.len (show i < 16 by omega)];by_cases hz:a_ p i=0
   ·simp only[hz,fV,aG,aH,aI]
   ·have:¬ ((a_ p i:Int)=0):=by omega
    simp only[hz,this,aE,aD,aO])
  (λ_ _ _ _ _ _=>trivial) (λs self _=>by
   show kf.b0 _ _ _ _=_;unfold kf.b0;simp only[ns hp.len,aA,aX,aE,aD];show kf.q0 _ _=_;unfold kf.q0
   simp only[ns hp.len,aA]) () trivial k (by omega)
 refine this.trans ?_;rw[fN];have h2:=DH p (λn=>(some ((n:Int),()):Option kf.Out)) (pn p) 0 0;simp only[cB] at h2;exact h2
theorem Gn:kB.ab (p,())=some (rQ p,()):=by
 have hn:=hp.n;have hw:af ((62:Int) - af ((2:Int)*(pn p:Int)))=62 - 2*(pn p:Int):=by rw[a7 (n:=(2:Int)*(pn p:Int)) (by omega),a7 (by omega)]
 refine ag (k:=100) λk hk=>(kB.ae k _).trans ?_;unfold kB.p;simp only[ns hp.len,aA,hw]
 have:=og (B:=λself v=>kB.b0 self (λz=>kB.q0 (p,()) z) (p,()) v) (pn p) (λ(s:Int) (i:Int)=>(s,i)) (λx s=>.inr (s - (a_ p x:Int))) (λs=>some (s,())) (λi s=>s=62 - 2*(pn p:Int) - (mB p i:Int)) (by omega)
  (λi hi s self hs=>by
   show kB.b0 _ _ _ _=_;unfold kB.b0;have ax:(i:Int) < (pn p:Int):=by omega
   have h1:=l7 p (3+2*i);have h2:=JA p i;have h3:a_ p i < 256:=h1;simp only[ns hp.len,aA,ax,aG,aH,pQ hp.len (show i < 16 by omega)]
   rw[a7 (n:=s - (a_ p i:Int)) (by omega)])
  (λi hi s s' hs hf=>by injection hf with hf;simp only[mB];omega) (λs self _=>by
   show kB.b0 _ _ _ _=_;unfold kB.b0;simp only[ns hp.len,aA,aX,aE,aD]
   rfl) (62 - 2*(pn p:Int)) (by simp[mB]) k (by omega)
 rw[ig (g:=λs x=>s - (a_ p x:Int)),EX] at this;exact this
theorem Gp:kD.ab (p,())=some (rQ p,()):=by
 have hn:=hp.n;have hw:af ((62:Int) - af ((2:Int)*(pn p:Int)))=62 - 2*(pn p:Int):=by rw[a7 (n:=(2:Int)*(pn p:Int)) (by omega),a7 (by omega)]
 refine ag (k:=100) λk hk=>(kD.ae k _).trans ?_;unfold kD.p;simp only[tL hp.len,aA,hw]
 have:=og (B:=λself v=>kD.b0 self (λz=>kD.q0 (p,()) (pn p:Int) z) (p,()) (pn p:Int) v) (pn p) (λ(s:Int) (i:Int)=>(s,i)) (λx s=>.inr (s - (a_ p x:Int))) (λs=>some (s,())) (λi s=>s=62 - 2*(pn p:Int) - (mB p i:Int)) (by omega)
  (λi hi s self hs=>by
   show kD.b0 _ _ _ _ _=_;unfold kD.b0;have ax:(i:Int) < (pn p:Int):=by omega
   have h1:=l7 p (3+2*i);have h2:=JA p i;have h3:a_ p i < 256:=h1;simp only[aA,ax,aG,aH,AI hp.len (show i < 16 by omega)]
   rw[a7 (n:=s - (a_ p i:Int)) (by omega)])
  (λi hi s s' hs hf=>by injection hf with hf;simp only[mB];omega) (λs self _=>by
   show kD.b0 _ _ _ _ _=_;unfold kD.b0;simp only[aA,aX,aE,aD]
   rfl) (62 - 2*(pn p:Int)) (by simp[mB]) k (by omega)
 rw[ig (g:=λs x=>s - (a_ p x:Int)),EX] at this;exact this
end
theorem xw {p c:List UInt8} {s a:Nat} (hp:p.length=64) (hs:s < 16) (h:a+c.length<=64):jG.ab (p,(s:Int),(a:Int),c,())=some (kY p s a c,()):=by
 refine ag (k:=0) λk _=>(jG.ae k _).trans ?_;show jG.p _=_;unfold jG.p kY;have h1:(0:Int)<=(a:Int)/\(a:Int)<=(p.length:Int):=by omega
 have hm:min c.length (p.length - a)=c.length:=by omega
 have hl:(oo p a c.length c).length=64:=by rw[rr _ _ (by omega) (aL _),hp]
 have i2:(0:Int)<=((2+2*s:Nat):Int)/\((2+2*s:Nat):Int) < ((64:Nat):Int):=by omega
 have i3:(0:Int)<=((3+2*s:Nat):Int)/\((3+2*s:Nat):Int) < ((64:Nat):Int):=by omega
 simp only[h1,bR,aI,aC,hm,AH (show s < 1000 by omega),Kh (show s < 1000 by omega),aZ,hl,i2,i3,t7];rw[dp (by omega),dp (by rw[aZ];omega)]
theorem AQ {p c:List UInt8} {s a:Nat} (hp:p.length=64) (hs:s < 16) (h:a+c.length<=64):nI.ab (p,(s:Int),(a:Int),c,())=some (kY p s a c,()):=by
 refine ag (k:=0) λk _=>(nI.ae k _).trans ?_;show nI.p _=_;unfold nI.p kY;have h1:(0:Int)<=(a:Int)/\(a:Int)<=(p.length:Int):=by omega
 have hm:min c.length (p.length - a)=c.length:=by omega
 have hl:(oo p a c.length c).length=64:=by rw[rr _ _ (by omega) (aL _),hp]
 have i2:(0:Int)<=((2+2*s:Nat):Int)/\((2+2*s:Nat):Int) < ((64:Nat):Int):=by omega
 have i3:(0:Int)<=((3+2*s:Nat):Int)/\((3+2*s:Nat):Int) < ((64:Nat):Int):=by omega
 simp only[mA p (by omega),aA,h1,bR,aI,aC,hm,AH (show s < 1000 by omega),Kh (show s < 1000 by omega),aZ,hl,i2,i3,t7];rw[dp (by omega),dp (by rw[aZ];omega)]
section
variable {p:List UInt8} (hp:gt p) (c:List UInt8) (mj:1<=c.length) (hc:c.length<=20)
include hp mj hc
theorem Nb:∀ m:Nat,tk p=m->m<=1->¬ (fh p=pn p/\16<=pn p)->fh p < 16->∀ (d:Int),d=2*(m:Int)->∀ (e:Int),e=((pn p+m:Nat):Int) ->
   (bif decide (rQ p < af ((c.length:Int)+d)) then (some (([]:List UInt8),(0:Int),(9:Int),()):Option nF.Out) else
    bif decide (af ((c7 p:Int) - (c.length:Int)) < af ((2:Int)+af ((2:Int)*e))) then some (([]:List UInt8),(0:Int),(8:Int),()) else
     if 0<=(0:Int)/\(0:Int) < (p.length:Int) then ((p[0]?).bind λZH=>if 0<=(1:Int)/\(1:Int) < ((p.set 0 (UInt8.ofInt e)).length:Int) then (((p.set 0 (UInt8.ofInt e))[1]?).bind λZI=>(jG.ab ((p.set 0 (UInt8.ofInt e)).set 1 (UInt8.ofInt (af ((c7 p:Int) - (c.length:Int)))),(fh p:Int),af ((c7 p:Int) - (c.length:Int)),c,())).bind λIc=>some (Ic.1,(fh p:Int),(0:Int),())) else none) else none) =
    some (if l9 p c=0 then pG p c else [],if l9 p c=0 then (fh p:Int) else 0,l9 p c,()):=by
 intro m hm B7 oN he d hd e hee;have hn:=hp.n;have vN:=hp.lo;have FZ:=hp.hi;obtain ⟨e1,e2,e3⟩:=uA p;obtain ⟨f1,f2⟩:=Cm hp;subst hd;subst hee;unfold l9;rw[aP oN,hm];have w1:af ((c.length:Int)+2*(m:Int))=(c.length:Int)+2*(m:Int):=a7 (by omega);rw[w1];by_cases c1:rQ p < (c.length:Int)+2*(m:Int)
 ·simp only[c1,aG,aH,aI,show ¬ ((9:Int)=0) by decide,aO]
 have w2:af ((c7 p:Int) - (c.length:Int))=(c7 p:Int) - (c.length:Int):=a7 (by omega);have w3:af ((2:Int)+af ((2:Int)*((pn p+m:Nat):Int)))=((2+2*(pn p+m):Nat):Int):=AH (by omega);simp only[c1,aE,aD,aO,w2,w3];by_cases c2:c7 p < 2+2*(pn p+m)+c.length
 ·have:(c7 p:Int) - (c.length:Int) < ((2+2*(pn p+m):Nat):Int):=by omega
  simp only[c2,this,aG,aH,aI,show ¬ ((8:Int)=0) by decide,aO]
 have n2:¬ ((c7 p:Int) - (c.length:Int) < ((2+2*(pn p+m):Nat):Int)):=by omega
 have hl:=hp.len;have g1:(0:Int)<=0/\(0:Int) < (p.length:Int):=by omega
 have g2:(0:Int)<=1/\(1:Int) < (p.length:Int):=by omega
 have w4:(c7 p:Int) - (c.length:Int)=((c7 p - c.length:Nat):Int):=by omega
 have n4:¬ (((c7 p - c.length:Nat):Int) < ((2+2*(pn p+m):Nat):Int)):=by omega
 simp only[c2,n4,aE,aD,aO,g1,g2,bR,aI,aZ,w4,t7];rw[dp (by omega),dp (by rw[aZ];omega)];rw[xw (by rw[aZ,aZ];omega) he (by omega)];simp only[aA]
 have:kY ((p.set 0 (UInt8.ofNat (pn p+m))).set 1 (UInt8.ofNat (c7 p - c.length))) (fh p) (c7 p - c.length) c=pG p c:=by
  unfold pG;rw[hm];have xF:(kY p (fh p) (c7 p - c.length) c).length=64:=qm hl _ (by omega);refine AG ?_ λj hj=>?_
  ·rw[qm (by rw[aZ,aZ];omega) _ (by omega),aZ,aZ,xF]
  rw[va (by rw[aZ,aZ];omega) (by omega) he,pa,pa,pa,pa,va hl (by omega) he];simp only[aZ,hl,xF]
  have o1:2+2*fh p<=c7 p - c.length:=by
   unfold tk at hm;split at hm <;> omega
  by_cases j0:j=0
  ·subst j0;rw[aP (by omega),aP (by omega),aP (by omega),aP (by omega),aM ⟨rfl,by omega⟩,aP (by omega),aM ⟨rfl,by omega⟩]
  ·by_cases j1:j=1
   ·subst j1;rw[aP (by omega),aP (by omega),aP (by omega),aM ⟨rfl,by omega⟩,aM ⟨rfl,by omega⟩]
   ·have k0:¬ (0=j/\0 < 64):=by omega
    have k1:¬ (1=j/\1 < 64):=by omega
    simp only[k0,k1,aO]
 rw[this]
theorem JB:nF.ab (p,c,())=some (if l9 p c=0 then pG p c else [],if l9 p c=0 then (fh p:Int) else 0,l9 p c,()):=by
 have hn:=hp.n;have vN:=hp.lo;have FZ:=hp.hi;obtain ⟨e1,e2,e3⟩:=uA p;refine ag (k:=0) λk _=>(nF.ae k _).trans ?_;show nF.p _=_;unfold nF.p;obtain ⟨f1,f2⟩:=Cm hp;simp only[Na hp,ns hp.len,Gn hp,FK hp.len,mI p (by have:=hp.len;omega),aA];by_cases he:fh p=pn p
 ·have HW:(fh p:Int)=(pn p:Int):=by omega
  rw[aV HW,aH];by_cases Xs:16<=pn p
  ·have Hh:(16:Int)<=(pn p:Int):=by omega
   have:l9 p c=2:=by unfold l9;rw[aM ⟨he,Xs⟩]
   simp only[Hh,aG,aH,this,show ¬ ((2:Int)=0) by decide,aO]
  ·have Hh:¬ (16:Int)<=(pn p:Int):=by omega
   simp only[Hh,aE,aD];have hw:af ((pn p:Int)+1)=((pn p+1:Nat):Int):=by rw[a7 (by omega)];omega
   have:=Nb hp c mj hc 1 (by unfold tk;rw[aM he]) (by omega) (λh=>Xs h.2) (by omega) 2 (by omega) (af ((pn p:Int)+1)) hw;exact this
 ·have HW:¬ ((fh p:Int)=(pn p:Int)):=by omega
  simp only[HW,aE,aD];exact Nb hp c mj hc 0 (by unfold tk;rw[aP he]) (by omega) (λh=>he h.1) (by omega) 0 (by omega) (pn p:Int) (by omega)
end
end OT
namespace OT
open Go
section
variable {p:List UInt8} (hp:gt p) (c:List UInt8) (mj:1<=c.length) (hc:c.length<=20)
include hp mj hc
theorem EY:lO.ab (p,c,())=some ((0:Int),()):=by
 refine ag (k:=0) λk _=>(lO.ae k _).trans ?_;show lO.p _=_;unfold lO.p;rw[yn p (by rw[hp.len,au];omega),tK.2 hp];have n1:¬ ((c.length:Int) < 1):=by omega
 have n2:¬ ((20:Int) < (c.length:Int)):=by omega
 simp only[aA,n1,n2,aE,aG,aN,aD]
theorem DI:gr.ab (p,c,())=some ((l9 p c,if l9 p c=0 then (fh p:Int) else 0,if l9 p c=0 then pG p c else [],()),()):=by
 have hn:=hp.n;have vN:=hp.lo;have FZ:=hp.hi;have hl:=hp.len;obtain ⟨e1,e2,e3⟩:=uA p;obtain ⟨f1,f2⟩:=Cm hp;refine ag (k:=100) λk hk=>(gr.ae k _).trans ?_;unfold gr.p;simp only[EY hp c mj hc,tL hp.len,aA,aG,aN,aD]
 have:=og (B:=λself v=>gr.b0 self (λz=>gr.q0 (p,c,()) (pn p:Int) z) (p,c,()) (pn p:Int) v) (pn p) (λ(_:Unit) (i:Int)=>i) (λx _=>if a_ p x=0 then .inl (gr.q0 (p,c,()) (pn p:Int) (x:Int)) else .inr ()) (λ_=>gr.q0 (p,c,()) (pn p:Int) (pn p:Int)) (λ_ _=>True) (by omega)
  (λi hi s self _=>by
   show gr.b0 _ _ _ _ _=_;unfold gr.b0;have ax:(i:Int) < (pn p:Int):=by omega
   simp only[ax,aG,aH,Kh (show i < 1000 by omega),aK,aI,aC,dp (show 3+2*i < p.length by omega),(i9 (show 3+2*i < p.length by omega)).2];show (bif !decide ((a_ p i:Int)=0) then _ else _)=_;by_cases hz:a_ p i=0
   ·simp only[hz,fV,aG,aN,aD,aI]
   ·have:¬ ((a_ p i:Int)=0):=by omega
    simp only[hz,this,aE,bA,aH,aO])
  (λ_ _ _ _ _ _=>trivial) (λs self _=>by
   show gr.b0 _ _ _ _ _=_;unfold gr.b0
   simp only[aX,aE,aD]) () trivial k (by omega)
 refine this.trans ?_;rw[fN];have h2:=DH p (λn=>gr.q0 (p,c,()) (pn p:Int) (n:Int)) (pn p) 0 0;simp only[cB] at h2;refine h2.trans ?_;show gr.q0 _ _ (fh p:Int)=_;unfold gr.q0;simp only[Gp hp,aA,dp (show 1 < p.length by omega),(i9 (show 1 < p.length by omega)).2,Bt];show (bif decide ((fh p:Int)=(pn p:Int)) then _ else _)=_
 have key:∀ m:Nat,tk p=m->m<=1->¬ (fh p=pn p/\16<=pn p)->fh p < 16->∀ (d:Int),d=2*(m:Int) ->
   (bif decide (rQ p < af ((c.length:Int)+d)) then (some (((9:Int),(0:Int),([]:List UInt8),()),()):Option gr.Out) else
    bif decide (af ((c7 p:Int) - (af ((af ((2:Int)+(af ((2:Int)*(pn p:Int)))))+d))) < (c.length:Int)) then some (((8:Int),(0:Int),([]:List UInt8),()),()) else
     (nI.ab (p,(fh p:Int),af ((c7 p:Int) - (c.length:Int)),c,())).bind λDb=>if 0<=(0:Int)/\(0:Int) < (Db.1.length:Int) then ((Db.1[0]?).bind λDd=>let AD:=Db.1.set 0 (UInt8.ofInt (af ((pn p:Int)+(af (d.tdiv (2:Int))))));if 0<=(1:Int)/\(1:Int) < (AD.length:Int) then ((AD[1]?).bind λMG=>let Vs:=AD.set 1 (UInt8.ofInt (af ((c7 p:Int) - (c.length:Int))));some (((0:Int),(fh p:Int),Vs,()),())) else none) else none) =
    some ((l9 p c,if l9 p c=0 then (fh p:Int) else 0,if l9 p c=0 then pG p c else [],()),()):=by
  intro m hm B7 oN he d hd;subst hd;unfold l9;rw[aP oN,hm];have w1:af ((c.length:Int)+2*(m:Int))=(c.length:Int)+2*(m:Int):=a7 (by omega);rw[w1];by_cases c1:rQ p < (c.length:Int)+2*(m:Int)
  ·simp only[c1,aG,aH,aI,show ¬ ((9:Int)=0) by decide,aO]
  have w2:af ((c7 p:Int) - (c.length:Int))=(c7 p:Int) - (c.length:Int):=a7 (by omega)
  have w3:af ((c7 p:Int) - (af ((af ((2:Int)+af ((2:Int)*(pn p:Int))))+2*(m:Int))))=(c7 p:Int) - ((2+2*(pn p+m):Nat):Int):=by
   rw[AH (show pn p < 1000 by omega),a7 (n:=((2+2*pn p:Nat):Int)+2*(m:Int)) (by omega),a7 (by omega)];omega
  have w5:af ((pn p:Int)+af ((2*(m:Int)).tdiv 2))=((pn p+m:Nat):Int):=by
   have:(2*(m:Int)).tdiv 2=(m:Int):=by rw[dG (by omega)];omega
   rw[this,a7 (n:=(m:Int)) (by omega),a7 (by omega)];omega
  simp only[c1,aE,aD,aO,w2,w3,w5];by_cases c2:c7 p < 2+2*(pn p+m)+c.length
  ·have:(c7 p:Int) - ((2+2*(pn p+m):Nat):Int) < (c.length:Int):=by omega
   simp only[c2,this,aG,aH,aI,show ¬ ((8:Int)=0) by decide,aO]
  have n2:¬ ((c7 p:Int) - ((2+2*(pn p+m):Nat):Int) < (c.length:Int)):=by omega
  have w4:(c7 p:Int) - (c.length:Int)=((c7 p - c.length:Nat):Int):=by omega
  have xF:(kY p (fh p) (c7 p - c.length) c).length=64:=qm hl _ (by omega);have g1:(0:Int)<=0/\(0:Int) < ((64:Nat):Int):=by omega
  have g2:(0:Int)<=1/\(1:Int) < ((64:Nat):Int):=by omega
  simp only[c2,n2,aE,aD,aO,w4,AQ hl he (show c7 p - c.length+c.length<=64 by omega),aA,aZ,xF,g1,g2,bR,aI,t7];rw[dp (by omega),dp (by rw[aZ];omega)];unfold pG;rw[hm]
 by_cases he:fh p=pn p
 ·have HW:(fh p:Int)=(pn p:Int):=by omega
  rw[aV HW,aH];by_cases Xs:pn p=16
  ·have Hh:(pn p:Int)=16:=by omega
   have:l9 p c=2:=by unfold l9;rw[aM ⟨he,by omega⟩]
   rw[aV Hh,aH,this,aP (by decide),aP (by decide)]
  ·have Hh:¬ (pn p:Int)=16:=by omega
   rw[aY Hh,aD];have:=key 1 (by unfold tk;rw[aM he]) (by omega) (λh=>Xs (by omega)) (by omega) 2 (by omega);exact this
 ·have HW:¬ ((fh p:Int)=(pn p:Int)):=by omega
  simp only[HW,aE,aD];exact key 0 (by unfold tk;rw[aP he]) (by omega) (λh=>he h.1) (by omega) 0 (by omega)
variable {s:Nat} (hs:s < pn p) (hz:a_ p s≠0)
include hs hz
theorem IJ:qZ.ab (p,(s:Int),c,())=some (if ri p s c=0 then xX p s c else [],ri p s c,()):=by
 have hn:=hp.n;have vN:=hp.lo;have FZ:=hp.hi;have hl:=hp.len;obtain ⟨f1,f2⟩:=Cm hp;obtain ⟨s1,s2⟩:=hp.slot s hs hz;refine ag (k:=0) λk _=>(qZ.ae k _).trans ?_;show qZ.p _=_;unfold qZ.p ri xX;simp only[pQ hl (show s < 16 by omega),mI p (by omega),yI hl (show s < 16 by omega),Gn hp,FK hl,ns hl,aA];by_cases c1:c.length<=a_ p s
 ·have Nc:(c.length:Int)<=(a_ p s:Int):=by omega
  have w1:af ((af ((pat p s:Int)+(a_ p s:Int))) - (c.length:Int))=((pat p s+a_ p s - c.length:Nat):Int):=by
   rw[a7 (n:=(pat p s:Int)+(a_ p s:Int)) (by omega),a7 (by omega)];omega
  simp only[c1,Nc,aG,aH,aI,w1,xw hl (show s < 16 by omega) (show pat p s+a_ p s - c.length+c.length<=64 by omega),aA]
 have Nc:¬ (c.length:Int)<=(a_ p s:Int):=by omega
 have w2:af (rQ p+(a_ p s:Int))=rQ p+(a_ p s:Int):=a7 (by omega);simp only[c1,Nc,aE,aD,aO,w2];by_cases c2:rQ p+(a_ p s:Int) < (c.length:Int)
 ·simp only[c2,aG,aH,aI,show ¬ ((9:Int)=0) by decide,aO]
 have w3:af ((c7 p:Int) - (c.length:Int))=(c7 p:Int) - (c.length:Int):=a7 (by omega);simp only[c2,aE,aD,aO,w3,AH (show pn p < 1000 by omega)];by_cases c3:c7 p < 2+2*pn p+c.length
 ·have:(c7 p:Int) - (c.length:Int) < ((2+2*pn p:Nat):Int):=by omega
  simp only[c3,this,aG,aH,aI,show ¬ ((8:Int)=0) by decide,aO]
 have n3:¬ ((c7 p:Int) - (c.length:Int) < ((2+2*pn p:Nat):Int)):=by omega
 have w4:(c7 p:Int) - (c.length:Int)=((c7 p - c.length:Nat):Int):=by omega
 have n4:¬ (((c7 p - c.length:Nat):Int) < ((2+2*pn p:Nat):Int)):=by omega
 have g2:(0:Int)<=1/\(1:Int) < (p.length:Int):=by omega
 simp only[c3,n4,aE,aD,aO,w4,g2,bR,aI,t7];rw[dp (by omega),xw (by rw[aZ];omega) (by omega) (by omega)];simp only[aA]
 have:kY (p.set 1 (UInt8.ofNat (c7 p - c.length))) s (c7 p - c.length) c=(kY p s (c7 p - c.length) c).set 1 (UInt8.ofNat (c7 p - c.length)):=by
  have xF:(kY p s (c7 p - c.length) c).length=64:=qm hl _ (by omega);refine AG ?_ λj hj=>?_
  ·rw[qm (by rw[aZ];omega) _ (by omega),aZ,xF]
  rw[va (by rw[aZ];omega) (by omega) (by omega),pa,pa,va hl (by omega) (by omega),xF,hl];by_cases j1:j=1
  ·subst j1;rw[aP (by omega),aP (by omega),aP (by omega),aM ⟨rfl,by omega⟩,aM ⟨rfl,by omega⟩]
  ·have k1:¬ (1=j/\1 < 64):=by omega
   simp only[k1,aO]
 rw[this]
theorem IK:o9.ab (p,(s:Int),c,())=some ((ri p s c,if ri p s c=0 then (s:Int) else 0,if ri p s c=0 then xX p s c else [],()),()):=by
 have hn:=hp.n;have vN:=hp.lo;have FZ:=hp.hi;have hl:=hp.len;obtain ⟨f1,f2⟩:=Cm hp;obtain ⟨s1,s2⟩:=hp.slot s hs hz;refine ag (k:=0) λk _=>(o9.ae k _).trans ?_;show o9.p _=_;unfold o9.p ri xX;have wV:(decide (s < pn p)&&!decide (a_ p s=0))=true:=by simp[hs,hz]
 simp only[EY hp c mj hc,xq hp s,wV,AI hl (show s < 16 by omega),Gp hp,tL hl,aA,aG,aN,aD,dp (show 1 < p.length by omega),(i9 (show 1 < p.length by omega)).2,Bt];by_cases c1:c.length<=a_ p s
 ·have Nc:(c.length:Int)<=(a_ p s:Int):=by omega
  have w1:af ((af ((pat p s:Int)+(a_ p s:Int))) - (c.length:Int))=((pat p s+a_ p s - c.length:Nat):Int):=by
   rw[a7 (n:=(pat p s:Int)+(a_ p s:Int)) (by omega),a7 (by omega)];omega
  simp only[c1,Nc,aG,aH,aI,w1,AQ hl (show s < 16 by omega) (show pat p s+a_ p s - c.length+c.length<=64 by omega),aA]
 have Nc:¬ (c.length:Int)<=(a_ p s:Int):=by omega
 have w2:af (rQ p+(a_ p s:Int))=rQ p+(a_ p s:Int):=a7 (by omega);simp only[c1,Nc,aE,aD,aO,w2];by_cases c2:rQ p+(a_ p s:Int) < (c.length:Int)
 ·simp only[c2,aG,aH,aI,show ¬ ((9:Int)=0) by decide,aO]
 have e1:pb p 1=c7 p:=rfl;have w3:af ((c7 p:Int) - (c.length:Int))=(c7 p:Int) - (c.length:Int):=a7 (by omega);have w5:af ((c7 p:Int) - ((2+2*pn p:Nat):Int))=(c7 p:Int) - ((2+2*pn p:Nat):Int):=a7 (by omega);simp only[c2,aE,aD,aO,e1,w3,AH (show pn p < 1000 by omega),w5];by_cases c3:c7 p < 2+2*pn p+c.length
 ·have:(c7 p:Int) - ((2+2*pn p:Nat):Int) < (c.length:Int):=by omega
  simp only[c3,this,aG,aH,aI,show ¬ ((8:Int)=0) by decide,aO]
 have n3:¬ ((c7 p:Int) - ((2+2*pn p:Nat):Int) < (c.length:Int)):=by omega
 have w4:(c7 p:Int) - (c.length:Int)=((c7 p - c.length:Nat):Int):=by omega
 have xF:(kY p s (c7 p - c.length) c).length=64:=qm hl _ (by omega);have g2:(0:Int)<=1/\(1:Int) < ((64:Nat):Int):=by omega
 simp only[c3,n3,aE,aD,aO,w4,AQ hl (show s < 16 by omega) (show c7 p - c.length+c.length<=64 by omega),aA,xF,g2,bR,aI,t7];rw[dp (by omega)]
end
def zB (v:List UInt8):List UInt8:=v.set 0 (UInt8.ofNat (tm v (pn v)))
theorem IL {v w:List UInt8} (h:∀ i,a_ v i=a_ w i):∀ m,tm v m=tm w m
 | 0=>rfl
 | m+1=>by simp only[tm,h,IL h m]
theorem Kn {v:List UInt8} (hl:v.length=64) (h0:0 < pn v) (hz:a_ v (pn v - 1)=0):zB (v.set 0 (UInt8.ofNat (pn v - 1)))=zB v/\pn (v.set 0 (UInt8.ofNat (pn v - 1)))=pn v - 1:=by
 have ax:pn v < 256:=l7 v 0
 have Gf:pn (v.set 0 (UInt8.ofNat (pn v - 1)))=pn v - 1:=by
  show pb _ 0=_;rw[pa,aM ⟨rfl,by omega⟩,ofNat_toNat (by omega)]
 refine ⟨?_,Gf⟩
 have hs:∀ i,a_ (v.set 0 (UInt8.ofNat (pn v - 1))) i=a_ v i:=λi=>by
  show pb _ _=pb _ _;rw[pa,aP (by omega)]
 unfold zB;rw[Gf,IL hs,dR]
 obtain ⟨n,hn⟩:∃ n,pn v=n+1:=⟨pn v - 1,by omega⟩
 rw[hn] at hz ⊢;simp only[tm,eP] at hz ⊢;rw[aM hz]
theorem Bx {v:List UInt8} (h:pn v=0\/a_ v (pn v - 1)≠0):zB v=v:=by
 unfold zB;refine M_ ?_ ?_
 ·show pn v=_;rcases h with h | h
  ·rw[h];rfl
  ·by_cases h0:pn v=0
   ·rw[h0];rfl
   obtain ⟨n,hn⟩:∃ n,pn v=n+1:=⟨pn v - 1,by omega⟩
   rw[hn] at h ⊢;simp only[tm,eP] at h ⊢;rw[aP h]
 ·have:=(Ds v (pn v)).1;have ax:pn v < 256:=l7 v 0;omega
theorem P1 {v:List UInt8} (hl:v.length=64) (h0:0 < pn v):UInt8.ofInt ((((v[0]'(by omega)).toNat:Nat):Int) - 1)=UInt8.ofNat (pn v - 1):=by
 have h1:(v[0]'(by omega)).toNat=pn v:=(i9 (show 0 < v.length by omega)).2;rw[h1];have:((pn v:Nat):Int) - 1=((pn v - 1:Nat):Int):=by omega
 rw[this];exact t7 _
section
variable {p:List UInt8} (hp:gt p) {s:Nat} (hs:s < pn p)
include hp hs
theorem Ko:(sG p s).length=64:=by unfold sG;rw[aZ,aZ,hp.len]
theorem Hj:pn (sG p s)=pn p:=by
 show pb _ 0=pb _ 0;unfold sG;rw[pa,aP (by omega),pa,aP (by omega)]
theorem IM:rj p s=zB (sG p s):=by unfold rj zB;rw[Hj hp hs]
theorem OJ:oS.ab (p,(s:Int),())=some (rj p s,()):=by
 have hn:=hp.n;have hl:=hp.len;refine ag (k:=100) λk hk=>(oS.ae k _).trans ?_;unfold oS.p;have i2:(0:Int)<=((2+2*s:Nat):Int)/\((2+2*s:Nat):Int) < (p.length:Int):=by omega
 have i3:(0:Int)<=((3+2*s:Nat):Int)/\((3+2*s:Nat):Int) < (p.length:Int):=by omega
 simp only[mI p (by omega),aA,AH (show s < 1000 by omega),Kh (show s < 1000 by omega),i2,i3,bR,aI,aC,aZ];rw[dp (by omega),dp (by rw[aZ];omega),IM hp hs];have hd:=Hj hp hs;refine sn (λv=>(zB v,())) (λv=>v.length=64/\pn v<=16) pn (λv ⟨hv,hvn⟩ self=>?_) k (sG p s) ⟨Ko hp hs,by omega⟩ (by omega);show oS.b0 _ _ _ _=_\/∃ v',oS.b0 _ _ _ _=_/\_;unfold oS.b0;have g:(0:Int)<=0/\(0:Int) < (v.length:Int):=by omega
 have e0:((v[0]'(by omega)).toNat:Nat)=pn v:=(i9 (show 0 < v.length by omega)).2;simp only[g,bR,aI,dp (show 0 < v.length by omega)];by_cases h0:pn v=0
 ·left;have:¬ ((0:Int) < (((v[0]'(by omega)).toNat:Nat):Int)):=by rw[e0];omega
  rw[aY this,Bx (Or.inl h0)];rfl
 have h1:(0:Int) < (((v[0]'(by omega)).toNat:Nat):Int):=by rw[e0];omega
 have hw:af ((af (((v[0]'(by omega)).toNat:Nat):Int)) - 1)=((pn v - 1:Nat):Int):=by
  rw[e0,a7 (n:=((pn v:Nat):Int)) (by omega),a7 (by omega)];omega
 rw[aV h1,hw,pQ hv (show pn v - 1 < 16 by omega)];simp only[aA,aH];by_cases hz:a_ v (pn v - 1)=0
 ·right;obtain ⟨t1,t2⟩:=Kn hv (by omega) hz;refine ⟨v.set 0 (UInt8.ofNat (pn v - 1)),?_,by rw[t1],⟨by rw[aZ,hv],by omega⟩,by omega⟩
  simp only[hz,fV,aG,aH];rw[P1 hv (by omega)]
 ·left;have:¬ ((a_ v (pn v - 1):Int)=0):=by omega
  rw[aY this,Bx (Or.inr hz)];rfl
theorem OK (hz:a_ p s≠0):nA.ab (p,(s:Int),())=some (((0:Int),(s:Int),rj p s,()),()):=by
 have hn:=hp.n;have hl:=hp.len;refine ag (k:=100) λk hk=>(nA.ae k _).trans ?_;unfold nA.p;have i2:(0:Int)<=((2+2*s:Nat):Int)/\((2+2*s:Nat):Int) < (p.length:Int):=by omega
 have i3:(0:Int)<=((3+2*s:Nat):Int)/\((3+2*s:Nat):Int) < (p.length:Int):=by omega
 have wV:(decide (s < pn p)&&!decide (a_ p s=0))=true:=by simp[hs,hz]
 rw[yn p (by rw[hp.len,au];omega),tK.2 hp];simp only[mA p (by omega),xq hp s,wV,aA,aG,aN,aD,AH (show s < 1000 by omega),Kh (show s < 1000 by omega),i2,i3,bR,aI,aC,aZ];rw[dp (by omega),dp (by rw[aZ];omega),IM hp hs];have hd:=Hj hp hs;refine sn (λv=>(((0:Int),(s:Int),zB v,()),())) (λv=>v.length=64/\pn v<=16) pn (λv ⟨hv,hvn⟩ self=>?_) k (sG p s) ⟨Ko hp hs,by omega⟩ (by omega);show nA.b0 _ _ _ _=_\/∃ v',nA.b0 _ _ _ _=_/\_;unfold nA.b0;have g:(0:Int)<=0/\(0:Int) < (v.length:Int):=by omega
 have e0:((v[0]'(by omega)).toNat:Nat)=pn v:=(i9 (show 0 < v.length by omega)).2;simp only[g,bR,aI,dp (show 0 < v.length by omega)];by_cases h0:pn v=0
 ·left;have:¬ ((0:Int) < (((v[0]'(by omega)).toNat:Nat):Int)):=by rw[e0];omega
  rw[aY this,Bx (Or.inl h0)];rfl
 have h1:(0:Int) < (((v[0]'(by omega)).toNat:Nat):Int):=by rw[e0];omega
 have hw:af ((af ((2:Int)*(af (((v[0]'(by omega)).toNat:Nat):Int))))+1)=((3+2*(pn v - 1):Nat):Int):=by
  rw[e0,a7 (n:=((pn v:Nat):Int)) (by omega),a7 (n:=(2:Int)*(pn v:Int)) (by omega),a7 (by omega)];omega
 have g3:(0:Int)<=((3+2*(pn v - 1):Nat):Int)/\((3+2*(pn v - 1):Nat):Int) < (v.length:Int):=by omega
 rw[aV h1,hw];simp only[g3,bR,aI,aC,dp (show 3+2*(pn v - 1) < v.length by omega),(i9 (show 3+2*(pn v - 1) < v.length by omega)).2,aH];show (bif decide ((a_ v (pn v - 1):Int)=0) then _ else _)=_\/∃ v',(bif decide ((a_ v (pn v - 1):Int)=0) then _ else _)=_/\_;by_cases hz:a_ v (pn v - 1)=0
 ·right;obtain ⟨t1,t2⟩:=Kn hv (by omega) hz;refine ⟨v.set 0 (UInt8.ofNat (pn v - 1)),?_,by rw[t1],⟨by rw[aZ,hv],by omega⟩,by omega⟩
  simp only[hz,fV,aG,aH];rw[P1 hv (by omega)]
 ·left;have:¬ ((a_ v (pn v - 1):Int)=0):=by omega
  rw[aY this,Bx (Or.inr hz)];rfl
end
end OT
