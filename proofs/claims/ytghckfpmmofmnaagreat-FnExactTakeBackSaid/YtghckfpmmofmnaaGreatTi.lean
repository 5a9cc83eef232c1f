/- The proof's parts, merged: Stores  at fault and the rows of a store, for the program and for the reference  conditions on lengths alone.. No conditions but those that each states. -/
import Derived.Test.YtghckfpmmofmnaaGreatTh
set_option linter.unusedVariables false
set_option linter.unusedSimpArgs false
set_option linter.unusedSectionVars false
namespace OT
open Go
theorem Cu {a b:List UInt8} {i:Nat} (h:i < a.length):cj (a++b) i=cj a i:=by
 unfold cj;simp only[bW];rw[cS h]
theorem Uz {a b:List UInt8} {q:bm×Nat} (h:sJ a=some q):sJ (a++b)=some q:=by
 have h0:=h;unfold sJ at h;split at h
 ·cases h
 ·rename_i hc;have l0:7<=a.length:=by omega
  have l1:cj a 0<=a.length:=by omega
  unfold sJ;have e0:cj (a++b) 0=cj a 0:=Cu (by omega);have e1:cj (a++b) 1=cj a 1:=Cu (by omega);have e2:cj (a++b) 2=cj a 2:=Cu (by omega);have e3:cj (a++b) 3=cj a 3:=Cu (by omega);have e4:cj (a++b) 4=cj a 4:=Cu (by omega);rw[e0,e1,e2,e3,e4,gP l1,aP (by rw[bE];omega)];exact h
theorem GB (b:List UInt8):∀ (k:Nat) (a:List UInt8),a.length < k->(kL k a).2=a.length->kL (k+b.length) (a++b)=((kL k a).1++(ud b).1,a.length+(ud b).2)
 | 0,_,h,_=>by omega
 | k+1,a,hk,h=>by
  cases hr:sJ a with
  | none=>
   simp only[kL,hr] at h;have:a=[]:=bS h.symm;subst this;rw[bO,ur (k+1+b.length) (b.length+1) b (by omega) (by omega)];simp[kL,hr,ud]
  | some q=>
   obtain ⟨r,n⟩:=q;have hn:=Cs hr;have hd:(a.drop n).length=a.length - n:=bQ;simp only[kL,hr] at h;have ih:=GB b k (a.drop n) (by omega) (by omega);have e:k+1+b.length=(k+b.length)+1:=by omega
   rw[e];simp only[kL,hr,Uz hr,gQ hn.2.1,ih,cL];rw[hd];congr 1;omega
theorem UA {a b:List UInt8} (h:sK a=true):ud (a++b)=((ud a).1++(ud b).1,a.length+(ud b).2):=by
 have:=GB b (a.length+1) a (by omega) (of_decide_eq_true h);unfold ud;rw[bE,ur (a.length+b.length+1) (a.length+1+b.length) _ (by rw[bE];omega) (by rw[bE];omega)];exact this
def ue (l:Log):List bm:=(ud l.1).1++(ud l.2.1).1
theorem A5:∀ (k:Nat) (d:List UInt8),(kL k d).1.length<=d.length
 | 0,d=>bD _
 | k+1,d=>by
  simp only[kL]
  cases hr:sJ d with
  | none=>exact bD _
  | some q=>
   obtain ⟨r,n⟩:=q;have hn:=Cs hr;have hd:(d.drop n).length=d.length - n:=bQ;have:=A5 k (d.drop n);simp only[aW];omega
theorem BE {l:Log} (h:xA l=0):List.length l.1+List.length l.2.1<=16000/\sK l.1=true/\sK l.2.1=true:=by
 unfold xA at h;split at h
 ·cases h
 ·split at h
  ·rename_i a b;rw[aF] at b;exact ⟨by omega,b.1,b.2⟩
  ·cases h
theorem Hn {l:Log} (h:xA l=0):(ue l).length<=16000:=by
 have h1:=BE h;unfold ue;rw[bE];have a:=A5 (List.length l.1+1) l.1;have b:=A5 (List.length l.2.1+1) l.2.1;unfold ud;omega
theorem O3 {l:Log} (h:xA l=0):oq.ab (l,())=some (ue l,()):=by
 have h1:=BE h;have h2:=Hn h;refine ag (k:=0) λk _=>(oq.ae k _).trans ?_;unfold oq.p;simp only[DL l.1 (by omega),DL l.2.1 (by omega),aA];rw[aM (dn (by unfold ue at h2;rw[bE] at h2;omega))];rfl
theorem Wa (d:List UInt8) (hd:d.length<=1048576):cb.ab (d,())=some (d,()):=mI d (by omega)
theorem O4 {l:Log} (h:xA l=0):oX.ab (l,())=some (ue l,()):=by
 have h1:=BE h;refine ag (k:=0) λk _=>(oX.ae k _).trans ?_;unfold oX.p;simp only[Wa l.1 (by omega),aA];rw[aM (dn (by omega)),DM _ (by rw[bE];omega)];rw[UA h1.2.1];rfl
theorem Ho {α:Type} [DecidableEq α]:∀ {a b:List α},a.length=b.length->Aw (λx y=>decide (x=y)) a b=decide (a=b)
 | [],[],_=>by simp[Aw]
 | x::a,y::b,h=>by
  have ih:=Ho (a:=a) (b:=b) (by simpa using h);unfold Aw at ih ⊢;simp only[List.zip_cons_cons,dI,ih];by_cases h1:x=y <;> by_cases h2:a=b <;> simp[h1,h2]
 | [],_::_,h=>by cases h
 | _::_,[],h=>by cases h
theorem O5 (a b:List (List UInt8)) (hl:a.length<=1000):lK.ab (a,b,())=some (decide (a=b),()):=by
 refine ag (k:=1002) λk hk=>(lK.ae k _).trans ?_;unfold lK.p;by_cases hlen:a.length=b.length;rotate_left
 ·have e1:¬ ((a.length:Int)=(b.length:Int)):=by omega
  have e2:¬ a=b:=λh=>hlen (by rw[h]);simp only[e1,e2,aE,bA,aH]
 have e1:((a.length:Int)=(b.length:Int)):=by omega
 simp only[e1,aG,aN,aD]
 have:=G3 (B:=λself v=>lK.b0 self (λz=>lK.q0 (a,b,()) z) (a,b,()) v) (xs:=a) (ys:=b) (λx y=>decide (x=y)) hlen (by rw[au];omega)
  (λi hx hy self=>by
   show lK.b0 _ _ _ _=_;unfold lK.b0;have ax:(i:Int) < (a.length:Int):=by omega
   simp only[ax,aG,aH,aK,aI,aC,aB hx,aB hy,aA]
   by_cases h:a[i]=b[i] <;> simp[h]) (λself=>by
   show lK.b0 _ _ _ _=_;unfold lK.b0;rw[aY (aX _),aD]
   rfl) k (by omega)
 refine this.trans ?_;rw[Ho hlen]
theorem O6 (a b:List (List UInt8)) (hl:a.length<=1000) (ha:∀ x ∈ a,x.length<=100000):pP.ab (a,b,())=some (decide (a=b),()):=by
 refine ag (k:=0) λk _=>(pP.ae k _).trans ?_;unfold pP.p
 have:∀ f:Nat×Int,e_.ab (a,b,f,())=some (decide (a=b),()):=λf=>by
  refine ag (k:=1002) λk hk=>(e_.ae k _).trans ?_;unfold e_.p;by_cases hlen:a.length=b.length;rotate_left
  ·have e1:¬ ((a.length:Int)=(b.length:Int)):=by omega
   have e2:¬ a=b:=λh=>hlen (by rw[h]);simp only[e1,e2,aE,bA,aH]
  have e1:((a.length:Int)=(b.length:Int)):=by omega
  simp only[e1,aG,aN,aD]
  have:=G3 (B:=λself v=>e_.b0 self (λz=>e_.q0 (a,b,f,()) z) (a,b,f,()) v) (xs:=a) (ys:=b) (λx y=>decide (x=y)) hlen (by rw[au];omega)
   (λi hx hy self=>by
    show e_.b0 _ _ _ _=_;unfold e_.b0;have ax:(i:Int) < (a.length:Int):=by omega
    simp only[ax,aG,aH,aK,aI,aC,aB hx,aB hy,aA,NA _ _ (ha _ (aU hx))]
    by_cases h:a[i]=b[i] <;> simp[h]) (λself=>by
    show e_.b0 _ _ _ _=_;unfold e_.b0;rw[aY (aX _),aD]
    rfl) k (by omega)
  refine this.trans ?_;rw[Ho hlen]
 rw[this];rfl
theorem NO {d:List UInt8} (h:d.length<=64):List.length (di d).1.2.2.2.2.1.2.2.2.1<=64:=by
 unfold di;split
 ·exact bD _
 ·split
  ·exact bD _
  ·show (d.drop 6).length<=64;rw[bQ];omega
theorem NP {p:List UInt8} (s:Nat) (h:p.length<=64):(iX p s).length<=64:=by
 unfold iX;rw[dD,bQ];omega
theorem Wb {ps:bY} (h:lp ps) (a b:Int):List.length (oM ps a b).1.2.2.2.2.1.2.2.2.1<=64:=by
 unfold oM
 cases hp:ps[a.toNat]? with
 | none=>exact bD _
 | some p=>
  have hm:=h.2 p (cD hp);simp only;split
  ·exact NO (NP _ (by rw[hm.len];omega))
  ·exact bD _
theorem Yr {ps:bY} (h:ij ps=0):∀ r ∈ eu ps,List.length r.2.2.2.1<=64:=λr hr=>by
 have hv:=DD h;rw[x_ (qD h),(zA _).mem_iff,eX] at hr;obtain ⟨x,hx,rfl⟩:=hr;unfold ju at hx;rw[cX] at hx;obtain ⟨y,hy,hx⟩:=hx;unfold qC at hx;split at hx
 ·cases hx
 ·rw[bJ] at hx;subst hx;unfold tn;split
  ·exact Wb hv.1 _ _
  ·obtain ⟨P,p,t,h1,h2,h3,rfl⟩:=wh.1 hy;exact NO (NP _ (by rw[(hv.1.2 p (cD h1)).len];omega))
theorem Ys {ps:bY} (h:ij ps=0):∀ r ∈ eu ps,rl r:=λr hr=>by
 have:=Yr h r hr;unfold rl;rw[au];omega
theorem Wc {ps:bY} (h:ij ps=0):(eu ps).length<=192:=by
 unfold eu;rw[gV];exact EW (qD h)
def NQ (s:bj):Prop:=NB s.2.2.1/\(∀ p ∈ (s.2.1:bY),p.length<=maxLen)/\BB s.2.2.2.1
theorem UB {s:bj} (h:NQ s) (hv:ij s.2.1=0):Xx (eu s.2.1,s.2.2.2.1,s.2.2.2.2.1,()):=
 ⟨by have:=Wc hv;show (eu s.2.1).length<=1048576;omega,Ys hv,h.2.2⟩
def Sj (s:bj):Int:=if decide (0 < List.length s.2.1)||(decide (0 < List.length s.2.2.2.1)||decide (0 < List.length s.2.2.1.2.1)) then 1 else if gu s.2.2.2.2.1 1 100 then 0 else 3
def Xy (s:bj):Int:=if ij s.2.1=0 then
        if vX (eu s.2.1,s.2.2.2.1,s.2.2.2.2.1,())=0 then
         if (wa (ue s.2.2.1)).2.1=0/\(wa (ue s.2.2.1)).1=s.2.1 then 0 else 8
        else vX (eu s.2.1,s.2.2.2.1,s.2.2.2.2.1,())
   else ij s.2.1
def vY (s:bj):Int:=if xA s.2.2.1=0 then (bif s.1 then Xy s else Sj s) else xA s.2.2.1
theorem Qc (s:bj) (A:Option (Bool×Unit)) (h:A=some (gu s.2.2.2.2.1 1 100,())) :
  (bif decide ((0:Int) < (List.length s.2.1:Int)) then (some ((1:Int),())) else bif decide ((0:Int) < (List.length s.2.2.2.1:Int)) then (some ((1:Int),())) else bif decide ((0:Int) < (List.length s.2.2.1.2.1:Int)) then (some ((1:Int),())) else A.bind λr3=>bif !r3.1 then (some ((3:Int),())) else some ((0:Int),()))=some (Sj s,()):=by
 have e:∀ n:Nat,decide ((0:Int) < (n:Int))=decide (0 < n):=λn=>by rw[eB];omega
 rw[h,e,e,e];unfold Sj;cases decide (0 < List.length s.2.1) <;> cases decide (0 < List.length s.2.2.2.1) <;> cases decide (0 < List.length s.2.2.1.2.1) <;> try rfl
 simp only[aA];cases gu s.2.2.2.2.1 1 100 <;> rfl
theorem NR {s:bj} (h:NQ s):o8.ab (s,())=some (vY s,()):=by
 refine ag (k:=0) λk _=>(o8.ae k _).trans ?_;unfold o8.p vY;simp only[R8 _ h.1,aA];by_cases h0:xA s.2.2.1=0;rotate_left
 ·simp only[h0,aE,bA,aH,aO]
 simp only[h0,aG,aN,aD,aI]
 cases hu:s.1 with
 | false=>exact Qc s _ (tJ _ _ _)
 | true=>
  simp only[aN,aD,aH];unfold Xy;rw[Gl s.2.1 h.2.1];simp only[aA];by_cases h1:ij s.2.1=0;rotate_left
  ·simp only[h1,aE,bA,aH,aO]
  simp only[h1,aG,aN,aD,aI];rw[Gm _ (by have:=EW (qD h1);omega)];simp only[aA];have hp:=NM _ (UB h h1);unfold eu at hp ⊢;rw[hp];simp only[aA];generalize vX ((xv s.2.1).map (·.1),s.2.2.2.1,s.2.2.2.2.1,())=c;by_cases h2:c=0;rotate_left
  ·simp only[h2,aE,bA,aH,aO]
  simp only[h2,aG,aN,aD,aI,O3 h0,aA,Oz _ (show (ue s.2.2.1).length<=maxLen by have:=Hn h0;rw[au];omega)];by_cases h3:(wa (ue s.2.2.1)).2.1=0;rotate_left
  ·simp only[h3,aE,bA,aH,hU,aO]
  have hg:=It _ h3;simp only[h3,aG,aN,aD,dQ,O6 _ s.2.1 (show List.length (wa (ue s.2.2.1)).1<=1000 by have:=hg.1;omega) (λx hx=>by have:=hg.2 x hx;omega),aA];by_cases h4:(wa (ue s.2.2.1)).1=s.2.1
  ·simp only[h4,aG,aN,aD,aI]
  ·simp only[h4,aE,bA,aH,aO]
theorem JJ {s:bj} (h:NQ s):qI.ab (s,())=some (vY s,()):=by
 refine ag (k:=0) λk _=>(qI.ae k _).trans ?_;unfold qI.p vY;simp only[R7 _ h.1,aA];by_cases h0:xA s.2.2.1=0;rotate_left
 ·simp only[h0,aE,bA,aH,aO]
 simp only[h0,aG,aN,aD,aI]
 cases hu:s.1 with
 | false=>exact Qc s _ (nX _ _ _)
 | true=>
  simp only[aN,aD,aH];unfold Xy;rw[OH s.2.1 h.2.1];simp only[aA];by_cases h1:ij s.2.1=0;rotate_left
  ·simp only[h1,aE,bA,aH,aO]
  simp only[h1,aG,aN,aD,aI];rw[KX h1];simp only[aA];rw[NN _ (UB h h1)];simp only[aA];generalize vX (eu s.2.1,s.2.2.2.1,s.2.2.2.2.1,())=c;by_cases h2:c=0;rotate_left
  ·simp only[h2,aE,bA,aH,aO]
  simp only[h2,aG,aN,aD,aI,O4 h0,aA,Oy _ (show (ue s.2.2.1).length<=maxLen by have:=Hn h0;rw[au];omega)];by_cases h3:(wa (ue s.2.2.1)).2.1=0;rotate_left
  ·simp only[h3,aE,bA,aH,hU,aO]
  have hg:=It _ h3;simp only[h3,aG,aN,aD,dQ,O5 _ s.2.1 (show List.length (wa (ue s.2.2.1)).1<=1000 by have:=hg.1;omega),aA];by_cases h4:(wa (ue s.2.2.1)).1=s.2.1
  ·simp only[h4,aG,aN,aD,aI]
  ·simp only[h4,aE,bA,aH,aO]
end OT
namespace OT
open Go
def vh (l:Log):Nat:=List.length l.1+List.length l.2.1
theorem UC {l:Log} (h:vh l<=16000):NB l:=by unfold vh at h;exact ⟨by omega,by omega⟩
def tG (l:Log) (r:bm):Option Log:=if 16000 < List.length l.1+List.length l.2.1+(nK r).length then none else some (l.1,l.2.1++nK r,())
theorem DQ {l l':Log} {r:bm} (h:tG l r=some l'):vh l'<=16000:=by
 grind [tG,vh]
def Fo (s:bj) (r:bm):Int×bj×Unit:=match tG s.2.2.1 r with
 | some l=>((0:Int),(s.1,s.2.1,l,s.2.2.2),())
 | none=>((9:Int),s,())
section
variable {s:bj} {r:bm} (hl:vh s.2.2.1<=16000) (hs:xy r)
include hl hs
theorem GC:kl.ab (s,r,())=some (Fo s r):=by
 refine ag (k:=0) λk _=>(kl.ae k _).trans ?_;grind [kl.p,Fo,tG,R_,UC]
theorem GD:lh.ab (s,r,())=some (Fo s r):=by
 refine ag (k:=0) λk _=>(lh.ae k _).trans ?_;grind [lh.p,Fo,tG,R9,UC]
end
def xB (ps:bY) (P:Nat):List UInt8:=if P < ps.length then fl ps P else u9
def xC (ps:bY) (kind tx:Int) (e:qG):bm:=(kind,tx,e.1,Dk (xB ps e.1.toNat) e.2.1,())
theorem NS {ps:bY} (hg:gp ps) (P:Nat):(xB ps P).length=64:=by
 unfold xB;split
 ·rename_i h;exact hg.2 _ (Hk h)
 ·exact xU
theorem KG {ps:bY} (hg:gp ps) (kind tx:Int) (e:qG):xy (xC ps kind tx e):=OA (NS hg _)
def Hq (ps:bY) (e:qG):bY:=if e.1.toNat=ps.length then ps++[u9] else ps
def oK (add:Bool) (kind tx:Int):List qG->bY×Log->Sum (bY×Log) (bY×Log)
 | [],q=>.inr q
 | e::es,q=>match tG q.2 (xC q.1 kind tx e) with
  | none=>.inl (if add then Hq q.1 e else q.1,q.2)
  | some l=>oK add kind tx es (nu q.1 e,l)
def p5 (add:Bool) (kind tx:Int):List Change->bY×Log->Sum (Int×bY×Log) (bY×Log)
 | [],q=>.inr q
 | c :: cs,q=>if (kK q.1 c).1=0 then (match oK add kind tx (kK q.1 c).2.1 q with
     | .inl p=>.inl ((9:Int),p)
     | .inr p=>p5 add kind tx cs p) else .inl ((kK q.1 c).1,q)
theorem DR {O:Type} {add:Bool} {kind tx:Int} {K:bY×Log->O} {fin:bY×Log->O}:∀ (es:List qG) (i:Nat) (q:bY×Log),b_ (λ_ q e=>match tG q.2 (xC q.1 kind tx e) with
   | none=>.inl (K (if add then Hq q.1 e else q.1,q.2))
   | some l=>.inr (nu q.1 e,l)) fin i es q=match oK add kind tx es q with | .inl p=>K p | .inr p=>fin p
 | [],i,q=>rfl
 | e::es,i,q=>by
  simp only[b_,oK]
  cases h:tG q.2 (xC q.1 kind tx e) with
  | none=>rfl
  | some l=>exact DR es (i+1) _
theorem Fq {O:Type} {add:Bool} {kind tx:Int} {K:Int×bY×Log->O} {fin:bY×Log->O}:∀ (cs:List Change) (i:Nat) (q:bY×Log),b_ (λ_ q c=>if (kK q.1 c).1=0 then (match oK add kind tx (kK q.1 c).2.1 q with
   | .inl p=>.inl (K ((9:Int),p))
   | .inr p=>.inr p) else .inl (K ((kK q.1 c).1,q))) fin i cs q=match p5 add kind tx cs q with | .inl p=>K p | .inr p=>fin p
 | [],i,q=>rfl
 | c::cs,i,q=>by
  simp only[b_,p5];by_cases h0:(kK q.1 c).1=0
  ·rw[aM h0,aM h0]
   cases h:oK add kind tx (kK q.1 c).2.1 q with
   | inl p=>rfl
   | inr p=>exact Fq cs (i+1) _
  grind
theorem IV (kind tx:Int):∀ (es:List qG) (q:bY×Log),match oK true kind tx es q,oK false kind tx es q with | .inr p,.inr p'=>p=p' | .inl _,.inl _=>True | _,_=>False
 | [],q=>rfl
 | e::es,q=>by
  simp only[oK]
  cases h:tG q.2 (xC q.1 kind tx e) with
  | none=>trivial
  | some l=>exact IV kind tx es _
theorem KH (kind tx:Int):∀ (cs:List Change) (q:bY×Log),match p5 true kind tx cs q,p5 false kind tx cs q with | .inr p,.inr p'=>p=p' | .inl p,.inl p'=>p.1=p'.1 | _,_=>False
 | [],q=>rfl
 | c::cs,q=>by
  simp only[p5];by_cases h0:(kK q.1 c).1=0
  ·rw[aM h0,aM h0];have:=IV kind tx (kK q.1 c).2.1 q
   cases h1:oK true kind tx (kK q.1 c).2.1 q with
   | inl p=>grind
   | inr p=>cases h2:oK false kind tx (kK q.1 c).2.1 q with
    | inl p'=>grind
    | inr p'=>
     rw[h1,h2] at this;have this:_=_:=this;subst this;exact KH kind tx cs _
  grind
theorem GE {add:Bool} {kind tx:Int}:∀ (es:List qG) (q p:bY×Log),oK add kind tx es q=.inr p->vh q.2<=16000->p.1=Gt q.1 es/\vh p.2<=16000
 | [],q,p,h,hl=>by injection h with h;subst h;exact ⟨rfl,hl⟩
 | e::es,q,p,h,hl=>by
  simp only[oK] at h
  cases ha:tG q.2 (xC q.1 kind tx e) with
  | none=>grind
  | some l=>
   rw[ha] at h;exact GE es _ p h (DQ ha)
theorem NT {ps:bY} (hg:gp ps) {e:qG} (he:JG ps e):gp (nu ps e):=by
 obtain ⟨e1,e2,e3,e4⟩:=he;unfold nu;split
 ·refine ⟨by grind,λp hp=>?_⟩
  rcases bU.1 hp with h | h
  ·exact hg.2 p h
  grind
 ·refine ⟨by rw[aZ];exact hg.1,λp hp=>?_⟩
  rcases eR hp with h | h
  ·exact hg.2 p h
  grind
def uf (q:bY×Log):Prop:=ij q.1=0/\vh q.2<=16000
theorem DS {add:Bool} {kind tx:Int} {q p:bY×Log} (hq:uf q) {c:Change} (hc:oO c=0) (h0:(kK q.1 c).1=0) (h:oK add kind tx (kK q.1 c).2.1 q=.inr p):uf p/\p.1=(kK q.1 c).2.2.1:=by
 obtain ⟨e1,e2⟩:=GE _ q p h hq.2;obtain ⟨w,f1,f2,f3⟩:=JH hq.1 hc h0;have e3:p.1=(kK q.1 c).2.2.1:=by rw[e1,f1];exact f3.at_
 exact ⟨⟨by rw[e3];exact (Um hq.1 hc h0).1,e2⟩,e3⟩
theorem NU {ps:bY} (hv:ij ps=0):∀ p ∈ ps,p.length<=maxLen:=λp hp=>by
 have:=((ou.1 hv).1.2 p hp).len;grind [au]
theorem Cv {ps:bY} (hv:ij ps=0):gp ps:=RS (ou.1 hv).1
section
variable {s0:bj} {kind tx:Int}
theorem NV {a:ei.Arg} {cs:List Change} {n i0:Int} {es:List qG} {fin:bj->Option ei.Out} {q:bY×Log} (hg:gp q.1) (hl:vh q.2<=16000) (he:zE q.1 es) (vO:es.length<=40) {k:Nat} (hk:50<=k) :
  al (λw v=>ei.b1 w fin a kind tx cs n i0 es (es.length:Int) v) k ((s0.1,q.1,q.2,s0.2.2.2),(0:Int))=match oK true kind tx es q with
   | .inl p=>some ((9:Int),(s0.1,p.1,p.2,s0.2.2.2),())
   | .inr p=>fin (s0.1,p.1,p.2,s0.2.2.2):=by
 have:=dz (B:=λw v=>ei.b1 w fin a kind tx cs n i0 es (es.length:Int) v) es (λ(q:bY×Log) (i:Int)=>((s0.1,q.1,q.2,s0.2.2.2),i))
  (λ_ q e=>match tG q.2 (xC q.1 kind tx e) with
   | none=>.inl (some ((9:Int),(s0.1,(if true=true then Hq q.1 e else q.1),q.2,s0.2.2.2),()))
   | some l=>.inr (nu q.1 e,l)) (λp=>fin (s0.1,p.1,p.2,s0.2.2.2))
  (λi q=>gp q.1/\vh q.2<=16000/\zE q.1 (es.drop i)) (by rw[au];omega)
  (λi hi q self hI=>by
   obtain ⟨hg,hl,he⟩:=hI;rw[bX hi] at he;obtain ⟨⟨e1,e2,e3,e4⟩,_⟩:=he;unfold ei.b1;have ax:(i:Int) < (es.length:Int):=by omega
   simp only[ax,aG,aH,aK,aI,aC,aB hi,aA];generalize es[i]=e at e1 e2 e3 e4;obtain ⟨P,b,⟨⟩⟩:=e;simp only at e1 e2 e3 e4
   obtain ⟨P,rfl⟩:∃ Q:Nat,P=(Q:Int):=⟨P.toNat,by omega⟩
   have J:∀ qs:bY,gp qs->P < qs.length->fl qs P=xB q.1 P->nu q.1 ((P:Int),b,())=qs.set P b->(if 0<=(P:Int)/\(P:Int) < (qs.length:Int) then ((qs[P]?).bind λaa2=>(qs[P]?).bind λRn=>(jn.ab (Rn,b,())).bind λRp=>(kl.ab ((s0.1,qs,q.2,s0.2.2.2),(kind,tx,(P:Int),Rp.1,()),())).bind λsD=>bif !decide (sD.1=(0:Int)) then (some (sD.1,sD.2.1,())) else (cn.ab (b,())).bind λRq=>if 0<=(P:Int)/\(P:Int) < (sD.2.1.2.1.length:Int) then ((sD.2.1.2.1[P]?).bind λaa3=>self ((sD.2.1.1,sD.2.1.2.1.set P Rq.1,sD.2.1.2.2),af ((i:Int)+(1:Int)))) else none) else none) =
     match tG q.2 (xC q.1 kind tx ((P:Int),b,())) with
     | none=>some ((9:Int),(s0.1,qs,q.2,s0.2.2.2),())
     | some l=>self ((s0.1,nu q.1 ((P:Int),b,()),l,s0.2.2.2),af ((i:Int)+1)):=λqs hqs hP hb ha=>by
    have i7:0<=(P:Int)/\(P:Int) < (qs.length:Int):=by omega
    have hx:(qs[P]).length=64:=hqs.2 _ (aU hP);have Xw:qs[P]=xB q.1 P:=by rw[<-hb];have:=nt hP;grind
    have acu:(kind,tx,(P:Int),Dk qs[P] b,())=xC q.1 kind tx ((P:Int),b,()):=by rw[Xw];rfl
    have hsm:=KG hg kind tx ((P:Int),b,());rw[aM i7,aB hP];grind [OB,GC,Fo,mA]
   simp only[aC];by_cases hP:P=q.1.length
   ·subst hP;have qU:q.1.length+[u9].length<=cg:=dn (by grind);rw[aV rfl,aH,Dh];simp only[aA,qU,aI];have hlen:(q.1++[u9]).length=q.1.length+1:=by simp
    have hj:=J (q.1++[u9]) ⟨by grind,λp hp=>by
     rcases bU.1 hp with h | h
     ·exact hg.2 p h
     grind [xU]⟩ (by grind) (by
      grind [xB,Nh]) (by
      grind [nu])
    rw[hj];have ha:Hq q.1 ((q.1.length:Int),b,())=q.1++[u9]:=by grind [Hq]
    grind
   grind [xB,nu,Int.toNat_natCast,Hq])
  (λi hi q q' hI hf=>by
   obtain ⟨hg,hl,he⟩:=hI;rw[bX hi] at he
   cases Ep:tG q.2 (xC q.1 kind tx es[i]) with
   | none=>grind
   | some l=>
    rw[Ep] at hf;injection hf with hf;subst hf
    exact ⟨NT hg he.1,DQ Ep,he.2⟩) (λq self hI=>by
   grind [ei.b1]) q ⟨hg,hl,he⟩ k (by omega)
 rw[this,DR (add:=true) (K:=λp:bY×Log=>(some ((9:Int),(s0.1,p.1,p.2,s0.2.2.2),()):Option ei.Out))]
end
def rp (s:bj) (r:Sum (Int×bY×Log) (bY×Log)):Int×bj×Unit:=match r with
 | .inl p=>(p.1,(s.1,p.2.1,p.2.2,s.2.2.2),())
 | .inr p=>((0:Int),(s.1,p.1,p.2,s.2.2.2),())
section
variable {s:bj} {kind tx:Int}
theorem O7 {cs:List Change} (hq:uf (s.2.1,s.2.2.1)) (hc:∀ c ∈ cs,oO c=0) (Ba:∀ c ∈ cs,cl c) (hn:cs.length<=1000):ei.ab (s,cs,kind,tx,())=some (rp s (p5 true kind tx cs (s.2.1,s.2.2.1))):=by
 refine ag (k:=1100) λk hk=>(ei.ae k _).trans ?_
 have:=dz (B:=λself v=>ei.B0 k self (ei.q1 (s,cs,kind,tx,())) (s,cs,kind,tx,()) v) cs (λ(q:bY×Log) (i:Int)=>((s.1,q.1,q.2,s.2.2.2),kind,tx,cs,(cs.length:Int),i))
  (λ_ q c=>if (kK q.1 c).1=0 then (match oK true kind tx (kK q.1 c).2.1 q with
   | .inl p=>.inl (some (rp s (.inl ((9:Int),p))))
   | .inr p=>.inr p) else .inl (some (rp s (.inl ((kK q.1 c).1,q))))) (λp=>some (rp s (.inr p))) (λ_ q=>uf q) (by rw[au];omega)
  (λi hi q self hI=>by
   show ei.b0 _ _ _ _ _=_;unfold ei.b0;have ax:(i:Int) < (cs.length:Int):=by omega
   have hm:=aU hi;simp only[ax,aG,aH,aK,aI,aC,aB hi,aA];rw[OS (NU hI.1) (Ba _ hm)];simp only[aA];by_cases h0:(kK q.1 cs[i]).1=0
   ·obtain ⟨w,f1,f2,f3⟩:=JH hI.1 (hc _ hm) h0;have he:(kK q.1 cs[i]).2.1=w.2.1:=by rw[f1]
    rw[aM h0,aV h0,aN,aD]
    have:=NV (s0:=s) (kind:=kind) (tx:=tx) (a:=(s,cs,kind,tx,())) (cs:=cs) (n:=(cs.length:Int)) (i0:=(i:Int)) (es:=(kK q.1 cs[i]).2.1)
     (fin:=ei.q0 self (ei.q1 (s,cs,kind,tx,())) (s,cs,kind,tx,()) kind tx cs (cs.length:Int) (i:Int) (kK q.1 cs[i]).2.1 ((kK q.1 cs[i]).2.1.length:Int)) (q:=q) (Cv hI.1) hI.2 (by rw[he];exact f3.ed) (by rw[he];exact f2.el) (k:=k) (by omega)
    refine aQ this ?_
    cases oK true kind tx (kK q.1 cs[i]).2.1 q with
    | inl p=>rfl
    | inr p=>rfl
   ·rw[aP h0,aY h0,bA,aH]
    rfl)
  (λi hi q q' hI hf=>by
   grind [DS]) (λq self hI=>by
   show ei.b0 _ _ _ _ _=_;unfold ei.b0;rw[aY (aX _),aD]
   rfl) (s.2.1,s.2.2.1) hq k (by omega)
 refine aQ this ?_;rw[Fq (add:=true) (K:=λp=>some (rp s (.inl p)))];grind
theorem O8 {ps:bY} (hg:gp ps) {e:qG} (he:JG ps e):sR.ab (ps,e,kind,tx,())=some (xC ps kind tx e,()):=by
 obtain ⟨P,b,⟨⟩⟩:=e;obtain ⟨e1,e2,e3,e4⟩:=he;simp only at e1 e2 e3 e4
 obtain ⟨P,rfl⟩:∃ Q:Nat,P=(Q:Int):=⟨P.toNat,by omega⟩
 refine ag (k:=0) λk _=>(sR.ae k _).trans ?_;unfold sR.p;rw[Di];simp only[aA];by_cases h:P < ps.length
 ·have h1:(P:Int) < (ps.length:Int):=by omega
  have hb:xB ps P=ps[P]:=by
   unfold xB;rw[aM h];have:=nt h;grind
  have hl:=NS hg P;rw[hb] at hl;simp only[h1,aG,aH,aK,aI,aC,aB h,aA];rw[Gb hl e1,<- hb];rfl
 ·have h1:¬ (P:Int) < (ps.length:Int):=by omega
  have hb:xB ps P=u9:=by grind [xB]
  simp only[h1,aE,aD];rw[Gb xU e1,<- hb];rfl
theorem KY {ps:bY} (hg:gp ps) {e:qG} (he:JG ps e):kU.ab (ps,[e],())=some (((0:Int),[e],nu ps e,()),()):=by
 obtain ⟨P,b,⟨⟩⟩:=e;obtain ⟨e1,e2,e3,e4⟩:=he;simp only at e1 e2 e3 e4
 obtain ⟨P,rfl⟩:∃ Q:Nat,P=(Q:Int):=⟨P.toNat,by omega⟩
 refine ag (k:=5) λk hk=>(kU.ae k _).trans ?_;unfold kU.p;have xI:¬ (12:Int) < (ps.length:Int):=by have:=hg.1;omega
 simp only[xI,aE,aD,v_ ps hg,aA]
 have:=da (B:=λself v=>kU.b0 self (kU.q0 (ps,[((P:Int),b,())],())) (ps,[((P:Int),b,())],()) v) [((P:Int),b,())] (λ(r:dr) (i:Int)=>(r,i))
  (λ_ r x=>.inr ((0:Int),[x],nu ps x,())) (λr=>(r,())) (λi r=>i=0->r=((0:Int),[],ps,())) (by rw[au];simp)
  (λi hi r self hI=>by
   have hi0:i=0:=by grind
   subst hi0;rw[hI rfl];unfold kU.b0;have TF:(b.length:Int)=64:=by omega
   have ab3:¬ (P:Int)=12:=by omega
   have xF:((0:Nat):Int) < (([((P:Int),b,())]:List qG).length:Int):=by simp
   simp only[xF,aG,aH,aK,aI,aC,eI,aA,TF,aN,aD,nX,e3,dQ,gO,ab3,aE]
   grind [nu,mI,dn])
  (λi hi r r' hI hf h=>by omega) (λr self hI=>by
   unfold kU.b0;rw[aY (aX _),aD]
   rfl) ((0:Int),[],ps,()) (λ_=>rfl) k (by grind)
 exact this
theorem take_one {α:Type} {es:List α} {i:Nat} (h:i < es.length):(es.take (i+1)).drop i=[es[i]]:=by
 grind [List.drop_eq_getElem_cons]
theorem UD {ps:bY} (hv:ij ps=0) {c:Change} (hc:oO c=0):q9.ab (ps,c,())=some (kK ps c,()):=by
 grind [Nt,NU,kK]
theorem NW {c:Change} (hq:uf (s.2.1,s.2.2.1)) (hc:oO c=0):lL.ab (s,c,kind,tx,())=some (rp s (p5 false kind tx [c] (s.2.1,s.2.2.1))):=by
 refine ag (k:=100) λk hk=>(lL.ae k _).trans ?_;unfold lL.p;rw[UD hq.1 hc];simp only[aA,p5];by_cases h0:(kK s.2.1 c).1=0;rotate_left
 ·simp only[h0,aE,bA,aH,aO];rfl
 simp only[h0,aG,aN,aD,aI];obtain ⟨w,f1,f2,f3⟩:=JH hq.1 hc h0
 obtain ⟨E,hE⟩:∃ E,E=kK s.2.1 c:=⟨_,rfl⟩
 have he:E.2.1=w.2.1:=by rw[hE,f1]
 rw[<-hE];have hlen:List.length E.2.1<=40:=by rw[he];exact f2.el
 have:=dz (B:=λself v=>lL.b0 self (lL.q0 (s,c,kind,tx,()) E) (s,c,kind,tx,()) E v) E.2.1 (λ(q:bY×Log) (i:Int)=>((s.1,q.1,q.2,s.2.2.2),i))
  (λ_ q e=>match tG q.2 (xC q.1 kind tx e) with
   | none=>.inl (some (rp s (.inl ((9:Int),(if false=true then Hq q.1 e else q.1),q.2))))
   | some l=>.inr (nu q.1 e,l)) (λp=>some (rp s (.inr p))) (λi q=>gp q.1/\vh q.2<=16000/\zE q.1 (E.2.1.drop i)) (by rw[au];omega)
  (λi hi q self hI=>by
   obtain ⟨hg,hl,he⟩:=hI;rw[bX hi] at he;unfold lL.b0;have ax:(i:Int) < (List.length E.2.1:Int):=by omega
   have hw:af ((i:Int)+1)=((i+1:Nat):Int):=by grind [a7]
   have i7:0<=(i:Int)/\(i:Int) < (List.length E.2.1:Int):=by omega
   have US:0<=(i:Int)/\(i:Int)<=((i+1:Nat):Int)/\((i+1:Nat):Int)<=(List.length E.2.1:Int):=by omega
   simp only[hw];rw[aV ax,aH,aM i7];simp only[aC,aB hi,aA];rw[O8 hg he.1];simp only[aA];rw[GD (s:=(s.1,q.1,q.2,s.2.2.2)) hl (KG hg kind tx _)];unfold Fo;simp only
   cases Ep:tG q.2 (xC q.1 kind tx E.2.1[i]) with
   | none=>rfl
   | some l=>
    simp only[aA,aG,aN,aD];rw[aM US,take_one hi,KY hg he.1]
    rfl)
  (λi hi q q' hI hf=>by
   obtain ⟨hg,hl,he⟩:=hI;rw[bX hi] at he
   cases Ep:tG q.2 (xC q.1 kind tx E.2.1[i]) with
   | none=>grind
   | some l=>
    rw[Ep] at hf;injection hf with hf;subst hf
    exact ⟨NT hg he.1,DQ Ep,he.2⟩) (λq self hI=>by
   unfold lL.b0;rw[aY (aX _),aD]
   rfl) (s.2.1,s.2.2.1) ⟨Cv hq.1,hq.2,by rw[he];exact f3.ed⟩ k (by omega)
 refine aQ this ?_;rw[DR (add:=false) (K:=λp=>some (rp s (.inl ((9:Int),p))))];grind
end
theorem JK {add:Bool} {kind tx:Int}:∀ (cs:List Change) (q:bY×Log) (p:Int×bY×Log),p5 add kind tx cs q=.inl p->p.1≠0
 | [],q,p,h=>by cases h
 | c::cs,q,p,h=>by
  simp only[p5] at h;by_cases h0:(kK q.1 c).1=0
  ·rw[aM h0] at h
   cases he:oK add kind tx (kK q.1 c).2.1 q with
   | inl p'=>grind
   | inr p'=>rw[he] at h;exact JK cs p' p h
  grind
theorem BF {add:Bool} {kind tx:Int}:∀ (cs:List Change) (q p:bY×Log),uf q->(∀ c ∈ cs,oO c=0)->p5 add kind tx cs q=.inr p->uf p
 | [],q,p,hq,hc,h=>by injection h with h;grind
 | c::cs,q,p,hq,hc,h=>by
  simp only[p5] at h;by_cases h0:(kK q.1 c).1=0
  ·rw[aM h0] at h
   cases he:oK add kind tx (kK q.1 c).2.1 q with
   | inl p=>grind
   | inr p'=>
    rw[he] at h;exact BF cs p' p (DS hq (hc _ cA) h0 he).1 (λd hd=>hc d (bF _ hd)) h
  grind
section
variable {s:bj} {tx:Int}
theorem NX {vI:List Change} (hq:uf (s.2.1,s.2.2.1)) (hc:∀ c ∈ vI,oO c=0) (hn:vI.length<=1000):lM.ab (s,vI,tx,())=some (rp s (p5 false 3 tx (nL vI) (s.2.1,s.2.2.1))):=by
 refine ag (k:=1100) λk hk=>(lM.ae k _).trans ?_;unfold lM.p;rw[IS vI (by omega)];simp only[aA];have hci:=yM hc;have hln:(nL vI).length=vI.length:=zM vI
 obtain ⟨cs,uG⟩:∃ cs,cs=nL vI:=⟨_,rfl⟩
 rw[<-uG] at hci hln ⊢
 have:=dz (B:=λself v=>lM.b0 self (lM.q0 (s,vI,tx,()) cs) (s,vI,tx,()) cs v) cs (λ(q:bY×Log) (i:Int)=>((s.1,q.1,q.2,s.2.2.2),i))
  (λ_ q c=>if (kK q.1 c).1=0 then (match oK false 3 tx (kK q.1 c).2.1 q with
   | .inl p=>.inl (some (rp s (.inl ((9:Int),p))))
   | .inr p=>.inr p) else .inl (some (rp s (.inl ((kK q.1 c).1,q))))) (λp=>some (rp s (.inr p))) (λ_ q=>uf q) (by rw[au];omega)
  (λi hi q self hI=>by
   grind [lM.b0,Int.natCast_nonneg,Int.toNat_natCast,NW,p5,rp])
  (λi hi q q' hI hf=>by
   grind [DS]) (λq self hI=>by
   unfold lM.b0;rw[aY (aX _),aD]
   rfl) (s.2.1,s.2.2.1) hq k (by omega)
 refine aQ this ?_;rw[Fq (add:=false) (K:=λp=>some (rp s (.inl p)))];grind
end
end OT
namespace OT
open Go
theorem Wd {s:bj} (hv:sm ci s) (hz:zz ci s<=1048576):NQ s:=by
 obtain ⟨u,ps,l,xs,n,⟨⟩⟩:=s;obtain ⟨h1,h2,h3,h4,h5,_⟩:=hv;replace hz:0+(zz (.aa (.aa u8)) ps+(zz ee l+(zz (.aa ca) xs+(0+0))))<=1048576:=hz;have hzl:zz ee l=zz (.aa u8) l.1+(zz (.aa u8) l.2.1+0):=rfl;have xF:List.length l.1<=zz (.aa u8) l.1:=uW (e:=u8) l.1;have wK:List.length l.2.1<=zz (.aa u8) l.2.1:=uW (e:=u8) l.2.1;refine ⟨⟨?_,?_⟩,λp hp=>?_,?_⟩
 ·show List.length l.1<=1048576;omega
 ·show List.length l.2.1<=1048576;omega
 ·have a1:zz (.aa u8) p+1<=zz (.aa (.aa u8)) ps:=Ib (e:=.aa u8) hp;have a2:List.length p<=zz (.aa u8) p:=uW (e:=u8) p;rw[au];omega
 ·have a3:zz Cg (([]:List Row),xs,n,())<=1048576:=by
   show (0+0)+(zz (.aa ca) xs+(0+0))<=1048576;omega
  exact (V_ (p:=(([]:List Row),xs,n,())) ⟨⟨bD _,λx hx=>by cases hx⟩,h4,h5,trivial⟩ a3).2.2
abbrev ab4:Log:=(([]:List UInt8),([]:List UInt8),())
abbrev Fs (c:Int):mE:=(c,(0:Int),(false,([]:List (List UInt8)),ab4,([]:List Tx),(0:Int),()),())
theorem Yt (c:Int):oR.ab (c,())=some (Fs c,()):=by
 refine ag (k:=0) λj _=>(oR.ae j _).trans ?_;rfl
end OT
namespace OT
open Go
theorem We (c d:Change):ql.ab (c,d,())=some (gg (ck c) (ck d),()):=by
 refine ag (k:=0) λk _=>(ql.ae k _).trans ?_;show ql.p _=_;unfold ql.p gg;simp only[zx,aA];by_cases h1:(ck c).1 < (ck d).1 <;> by_cases h2:(ck c).1=(ck d).1 <;> simp[h1,h2]
def vj (xs:List Change) (i:Nat) (x:Change):Sum (Int×Unit) Unit:=
 if AF x=0 then (if 0 < i then (match xs[i - 1]? with | some y=>if gg (ck y) (ck x) then .inr () else .inl (1,()) | none=>.inl (1,())) else .inr ()) else .inl (AF x,())
def yu (xs:List Change):Int:=if 60 < xs.length then 2 else (b_ (λi (_:Unit) x=>vj xs i x) (λ_=>((0:Int),())) 0 xs ()).1
theorem O9 (xs:List Change) (hl:xs.length<=maxLen) (h:∀ c ∈ xs,cl c):kE.ab (xs,())=some (yu xs,()):=by
 refine ag (k:=xs.length+1) λk hk=>(kE.ae k _).trans ?_
 have:=da (B:=λself v=>kE.b0 self (λz=>kE.q0 (xs,()) z) (xs,()) v) xs (λ(_:Unit) (i:Int)=>i) (λi _ x=>vj xs i x) (λ_=>(0,())) (λ_ _=>True) hl
  (λi hi _ self _=>by
   show kE.b0 _ _ _ _=_;unfold kE.b0 vj;have ax:(i:Int) < (xs.length:Int):=by omega
   simp only[ax,aG,aH,aK,aI,aC,aB hi,aA,Cj _ (h _ (aU hi))];by_cases h1:AF xs[i]=0
   ·simp only[h1,aG,aN,aD,aI];by_cases h0:0 < i
    ·have tH:(0:Int) < (i:Int):=by omega
     have pj:i - 1 < xs.length:=by omega
     simp only[h0,tH,aG,aH,aI,Dm h0 (by omega),aK,aC,aB pj,aA,We];cases gg (ck xs[i - 1]) (ck xs[i]) <;> rfl
    ·have tH:¬ (0:Int) < (i:Int):=by omega
     simp[h0,tH]
   ·simp[h1]) (λ_ _ _ _ _ _=>trivial) (λ_ self _=>by
   show kE.b0 _ _ _ _=_;unfold kE.b0
   simp[kE.q0,kE.q0]) () trivial k (by omega)
 have this:kE.r0 k (xs,()) 0=_:=this;unfold kE.p yu;rw[this,show (60:Int)=((60:Nat):Int) from rfl];simp only[Iw];by_cases h1:60 < xs.length <;> simp[h1] <;> rfl
theorem UE (xs:List Change) (hl:xs.length<=maxLen) (h:∀ c ∈ xs,cl c):gb.ab (xs,())=some (yu xs,()):=by
 refine ag (k:=xs.length+1) λk hk=>(gb.ae k _).trans ?_
 have:=da (B:=λself v=>gb.b0 self (λz=>gb.q0 (xs,()) z) (xs,()) v) xs (λ(_:Unit) (i:Int)=>i) (λi _ x=>vj xs i x) (λ_=>(0,())) (λ_ _=>True) hl
  (λi hi _ self _=>by
   show gb.b0 _ _ _ _=_;unfold gb.b0 vj;have ax:(i:Int) < (xs.length:Int):=by omega
   simp only[ax,aG,aH,aK,aI,aC,aB hi,aA,Kd _ (h _ (aU hi))];by_cases h1:AF xs[i]=0
   ·simp only[h1,aG,aN,aD,aI];by_cases h0:0 < i
    ·have tH:(0:Int) < (i:Int):=by omega
     have pj:i - 1 < xs.length:=by omega
     simp only[h0,tH,aG,aH,aI,Dm h0 (by omega),aK,aC,aB pj,aA,xm,yh,yH];cases gg (ck xs[i - 1]) (ck xs[i]) <;> rfl
    ·have tH:¬ (0:Int) < (i:Int):=by omega
     simp[h0,tH]
   ·simp[h1]) (λ_ _ _ _ _ _=>trivial) (λ_ self _=>by
   show gb.b0 _ _ _ _=_;unfold gb.b0
   simp[gb.q0,gb.q0]) () trivial k (by omega)
 have this:gb.r0 k (xs,()) 0=_:=this;unfold gb.p yu;rw[this,show (60:Int)=((60:Nat):Int) from rfl];simp only[Iw];by_cases h1:60 < xs.length <;> simp[h1] <;> rfl
end OT
namespace OT
open Go
end OT
namespace OT
open Go
theorem UF (s:List Change) (h:s.length<=1048576):ly.ab (s,())=some (s,()):=by
 refine ag (k:=0) λk _=>(ly.ae k _).trans ?_;show ly.p _=_;unfold ly.p;refine Cf (λe=>by rw[show s=[] from e]) ?_;have:([]:List Change).length+s.length<=cg:=dn (by simp only[bC];omega);rw[aM this,bO]
theorem UG (s:List Int) (h:s.length<=1048576):mc.ab (s,())=some (s,()):=by
 refine ag (k:=0) λk _=>(mc.ae k _).trans ?_;show mc.p _=_;unfold mc.p;refine Cf (λe=>by rw[show s=[] from e]) ?_;have:([]:List Int).length+s.length<=cg:=dn (by simp only[bC];omega);rw[aM this,bO]
theorem UH (s:List Key) (h:s.length<=1048576):nm.ab (s,())=some (s,()):=by
 refine ag (k:=0) λk _=>(nm.ae k _).trans ?_;show nm.p _=_;unfold nm.p;refine Cf (λe=>by rw[show s=[] from e]) ?_;have:([]:List Key).length+s.length<=cg:=dn (by simp only[bC];omega);rw[aM this,bO]
theorem Sk (x:Tx) (h:tl x):nS.ab (x,())=some (x,()):=by
 obtain ⟨h1,h2,h3,_⟩:=h;refine ag (k:=0) λk _=>(nS.ae k _).trans ?_;show nS.p _=_;unfold nS.p;have c1:([]:List Change).length+List.length x.2.1<=cg:=dn (by simp only[bC];omega);have c2:([]:List Int).length+List.length x.2.2.1<=cg:=dn (by simp only[bC];omega);have c3:([]:List Key).length+List.length x.2.2.2.1<=cg:=dn (by simp only[bC];omega);rw[aM c1,aM c2,aM c3];rfl
theorem NY (xs:List Tx) (h:BB xs):mu.ab (xs,())=some (xs,()):=by
 obtain ⟨h1,h2⟩:=h;refine ag (k:=xs.length+1) λk hk=>(mu.ae k _).trans ?_
 have:=da (B:=λself v=>mu.b0 self (λz=>mu.q0 (xs,()) z) (xs,()) v) xs (λ(s:List Tx) (i:Int)=>(s,i)) (λ_ s x=>.inr (s++[x])) (λs=>(s,())) (λi s=>s.length=i) (by rw[au];omega)
  (λi hi s self hI=>by
   show mu.b0 _ _ _ _=_;unfold mu.b0;have ax:(i:Int) < (xs.length:Int):=by omega
   have hc:s.length+[xs[i]].length<=cg:=dn (by simp only[aW,bC];omega)
   simp only[ax,aG,aH,aK,aI,aC,aB hi,aA,Sk _ (h2 _ (aU hi)),hc])
  (λi hi s s' hI hs=>by injection hs with hs;rw[<-hs];simp[hI]) (λs self hI=>by
   show mu.b0 _ _ _ _=_;unfold mu.b0;simp only[aX,aE,aD]
   rfl) [] rfl k (by omega)
 rw[ig,yF] at this;exact this
theorem UI (xs:List Tx) (h:BB xs):nz.ab (xs,())=some (xs,()):=by
 obtain ⟨h1,h2⟩:=h;refine ag (k:=xs.length+1) λk hk=>(nz.ae k _).trans ?_
 have:=da (B:=λself v=>nz.b0 self (λz=>nz.q0 (xs,()) z) (xs,()) v) xs (λ(s:List Tx) (i:Int)=>(s,i)) (λ_ s x=>.inr (s++[x])) (λs=>(s,())) (λi s=>s.length=i) (by rw[au];omega)
  (λi hi s self hI=>by
   show nz.b0 _ _ _ _=_;unfold nz.b0;have ax:(i:Int) < (xs.length:Int):=by omega
   have hx:=h2 _ (aU hi);simp only[ax,aG,aH,aK,aI,aC,aB hi,aA];generalize xs[i]=x at hx;obtain ⟨g1,g2,g3,_⟩:=hx;rw[UF _ g1];simp only[aA];rw[UG _ g2];simp only[aA];rw[UH _ g3];have hc:s.length+[x].length<=cg:=dn (by simp only[aW,bC];omega);simp only[aA]
   rw[aM hc])
  (λi hi s s' hI hs=>by injection hs with hs;rw[<-hs];simp[hI]) (λs self hI=>by
   show nz.b0 _ _ _ _=_;unfold nz.b0;simp only[aX,aE,aD]
   rfl) [] rfl k (by omega)
 rw[ig,yF] at this;exact this
end OT
namespace OT
open Go
theorem JL {xs:List Change} (h:yu xs=0):(∀ c ∈ xs,oO c=0)/\xs.length<=60:=by
 unfold yu at h;split at h
 ·cases h
 ·rename_i hl
  have hn:=EO (f:=λi (_:Unit) x=>vj xs i x) (λi s x o ho=>by
   unfold vj at ho;split at ho
   ·split at ho
    ·split at ho
     ·split at ho
      ·cases ho
      ·injection ho with ho;rw[<-ho];decide
     ·injection ho with ho;rw[<-ho];decide
    ·cases ho
   ·rename_i hx
    injection ho with ho;rw[<-ho];exact hx) xs 0 h
  refine ⟨λc hc=>?_,by omega⟩
  obtain ⟨i,hi,rfl⟩:=cV.1 hc
  have h1:AF xs[i]=0:=by
   have:=hn i hi;unfold vj at this;split at this
   ·assumption
   ·cases this
  unfold AF at h1;split at h1
  ·assumption
  ·exact h1
theorem Hr {s:bj} (h:vY s=0) (hu:s.1=true):uf (s.2.1,s.2.2.1)/\vX (eu s.2.1,s.2.2.2.1,s.2.2.2.2.1,())=0:=by
 unfold vY at h;by_cases hl:xA s.2.2.1=0
 ·rw[aM hl,hu,aH] at h;unfold Xy at h;by_cases hv:ij s.2.1=0
  ·rw[aM hv] at h;refine ⟨⟨hv,(BE hl).1⟩,?_⟩
   by_cases hp:vX (eu s.2.1,s.2.2.2.1,s.2.2.2.2.1,())=0
   ·exact hp
   ·rw[aP hp] at h;exact absurd h hp
  ·rw[aP hv] at h;exact absurd h hv
 ·rw[aP hl] at h;exact absurd h hl
theorem Qd {s:bj} (hq:uf (s.2.1,s.2.2.1)) (ht:BB s.2.2.2.1):oE.ab (s,())=some (s,()):=by
 refine ag (k:=0) λk _=>(oE.ae k _).trans ?_;unfold oE.p;have:=hq.2;unfold vh at this;rw[DY _ (Cv hq.1)];simp only[aA];rw[Yo s.2.2.1 (by show List.length s.2.2.1.1<=_;simp only at this;omega) (by show List.length s.2.2.1.2.1<=_;simp only at this;omega)];simp only[aA];rw[UI _ ht];rfl
theorem Wf {l:Log} (h:vh l<=16000):lY.ab (l,())=some (l,()):=by
 unfold vh at h;refine ag (k:=0) λk _=>(lY.ae k _).trans ?_;unfold lY.p;rw[mI _ (by show List.length l.1<=_;omega)];simp only[aA];rw[mI _ (by show List.length l.2.1<=_;omega)];rfl
theorem Wg {s:bj} (hq:uf (s.2.1,s.2.2.1)) (ht:BB s.2.2.2.1):rN.ab (s,())=some (s,()):=by
 refine ag (k:=0) λk _=>(rN.ae k _).trans ?_;unfold rN.p;rw[v_ _ (Cv hq.1)];simp only[aA];rw[Wf hq.2];simp only[aA];rw[NY _ ht];rfl
def xD (s:bj) (b:Buffer):Sum Int bj:=match p5 true 3 b.1 (nL b.2.1) (s.2.1,s.2.2.1) with
 | .inl p=>.inl p.1
 | .inr p=>match tG p.2 ((6:Int),b.1,(0:Int),([]:List cd),()) with
  | none=>.inl 9
  | some l=>.inr (s.1,p.1,l,s.2.2.2)
theorem UJ (k t:Int):xy (k,t,(0:Int),([]:List cd),()):=⟨bD _,λx hx=>by cases hx⟩
section
variable {s:bj} {b:Buffer} (hq:uf (s.2.1,s.2.2.1)) (hb:∀ c ∈ (b.2.1:List Change),oO c=0) (hl:List.length b.2.1<=1000)
include hq hb hl
theorem NZ (hc:∀ c ∈ (b.2.1:List Change),cl c):∃ r:Int×bj×Unit,lz.ab (s,b,())=some r/\match xD s b with | .inl c=>r.1=c/\c≠0 | .inr s'=>r=((0:Int),s',()):=by
 suffices hp:∃ r:Int×bj×Unit,lz.p (s,b,())=some r/\match xD s b with | .inl c=>r.1=c/\c≠0 | .inr s'=>r=((0:Int),s',()) by
  obtain ⟨r,h1,h2⟩:=hp;exact ⟨r,ag (k:=0) λk _=>(lz.ae k _).trans h1,h2⟩
 unfold lz.p xD;have hi:=yM hb;rw[IT _ (by show List.length b.2.1<=_;omega)];simp only[aA];rw[O7 hq hi (Uy hc) (by rw[zM];omega)];simp only[aA]
 cases hd:p5 true 3 b.1 (nL b.2.1) (s.2.1,s.2.2.1) with
 | inl p=>
  have kF:=JK _ _ _ hd;simp only[rp,kF,aE,bA,aH];exact ⟨_,rfl,rfl,kF⟩
 | inr p=>
  have hg:=BF _ _ _ hq hi hd;simp only[rp,aG,aN,aD];rw[GC (s:=(s.1,p.1,p.2,s.2.2.2)) hg.2 (UJ 6 b.1)];unfold Fo;simp only
  cases ha:tG p.2 ((6:Int),b.1,(0:Int),([]:List cd),()) with
  | none=>exact ⟨_,rfl,rfl,by decide⟩
  | some l=>exact ⟨_,rfl,rfl⟩
theorem N0:∃ r:Int×bj×Unit,oG.ab (s,b,())=some r/\match xD s b with | .inl c=>r.1=c/\c≠0 | .inr s'=>r=((0:Int),s',()):=by
 suffices hp:∃ r:Int×bj×Unit,oG.p (s,b,())=some r/\match xD s b with | .inl c=>r.1=c/\c≠0 | .inr s'=>r=((0:Int),s',()) by
  obtain ⟨r,h1,h2⟩:=hp;exact ⟨r,ag (k:=0) λk _=>(oG.ae k _).trans h1,h2⟩
 unfold oG.p xD;have hi:=yM hb;rw[NX hq hb (by omega)];simp only[aA];have hf:=KH 3 b.1 (nL b.2.1) (s.2.1,s.2.2.1)
 cases hd:p5 true 3 b.1 (nL b.2.1) (s.2.1,s.2.2.1) with
 | inl p=>
  have kF:=JK _ _ _ hd
  cases PL:p5 false 3 b.1 (nL b.2.1) (s.2.1,s.2.2.1) with
  | inr p'=>rw[hd,PL] at hf;exact hf.elim
  | inl p'=>
   rw[hd,PL] at hf;have hf:p.1=p'.1:=hf;rw[hf] at kF;simp only[rp,kF,aE,bA,aH];exact ⟨_,rfl,hf.symm,by rw[hf];exact kF⟩
 | inr p=>
  cases PL:p5 false 3 b.1 (nL b.2.1) (s.2.1,s.2.2.1) with
  | inl p'=>rw[hd,PL] at hf;exact hf.elim
  | inr p'=>
   rw[hd,PL] at hf;have hf:p=p':=hf;subst hf;have hg:=BF _ _ _ hq hi hd;simp only[rp,aG,aN,aD];rw[GD (s:=(s.1,p.1,p.2,s.2.2.2)) hg.2 (UJ 6 b.1)];unfold Fo;simp only
   cases ha:tG p.2 ((6:Int),b.1,(0:Int),([]:List cd),()) with
   | none=>exact ⟨_,rfl,rfl,by decide⟩
   | some l=>exact ⟨_,rfl,rfl⟩
theorem IW {s':bj} (h:xD s b=.inr s'):uf (s'.2.1,s'.2.2.1)/\s'.1=s.1/\s'.2.2.2=s.2.2.2:=by
 unfold xD at h
 cases hd:p5 true 3 b.1 (nL b.2.1) (s.2.1,s.2.2.1) with
 | inl p=>rw[hd] at h;cases h
 | inr p=>
  rw[hd] at h;simp only at h;have hg:=BF _ _ _ hq (yM hb) hd
  cases ha:tG p.2 ((6:Int),b.1,(0:Int),([]:List cd),()) with
  | none=>rw[ha] at h;cases h
  | some l=>
   rw[ha] at h;injection h with h;subst h;exact ⟨⟨hg.1,DQ ha⟩,rfl,rfl⟩
end
theorem N1 (u:Bool) (ps:bY) (l:Log) (ts:List Tx) (n:Int):zz ci (u,ps,l,ts,n,())=zz (.aa (.aa u8)) ps+vh l+zz (.aa ca) ts:=by
 show 0+(zz (.aa (.aa u8)) ps+(((List.length l.1+mm (zz u8) l.1)+((List.length l.2.1+mm (zz u8) l.2.1)+0))+(zz (.aa ca) ts+(0+0))))=_;have h1:mm (zz u8) l.1=0:=yE _ (λ_=>rfl) l.1;have h2:mm (zz u8) l.2.1=0:=yE _ (λ_=>rfl) l.2.1;unfold vh;omega
theorem Yu {s':bj} (hq:uf (s'.2.1,s'.2.2.1)):zz ci s'<=17000+zz (.aa ca) s'.2.2.2.1:=by
 obtain ⟨u,ps,l,ts,n,⟨⟩⟩:=s';refine bL (gZ (N1 u ps l ts n)) ?_;have h1:=VH ps (Cv hq.1);have h2:vh l<=16000:=hq.2;show _<=17000+zz (.aa ca) ts;omega
end OT
namespace OT
open Go
def BG (s:bj) (b:Buffer):mE:=if vY s=0 then (if s.1 then (if gu b.1 1 99 then (if yu b.2.1=0 then (match xD s b with
    | .inl c=>Fs c
    | .inr s'=>((0:Int),(0:Int),s',())) else Fs (yu b.2.1)) else Fs 1) else Fs 8) else Fs (vY s)
def Ll (b:Buffer):Prop:=List.length b.2.1<=maxLen/\∀ c ∈ (b.2.1:List Change),cl c
theorem O_ {s:bj} {b:Buffer} (h:NQ s) (hb:Ll b):pC.ab (s,b,())=some (BG s b,()):=by
 refine ag (k:=0) λk _=>(pC.ae k _).trans ?_;unfold pC.p BG;rw[NR h];simp only[aA];by_cases h0:vY s=0;rotate_left
 ·simp only[h0,aE,bA,aH,aO]
 simp only[h0,aG,aN,aD,aI]
 cases hu:s.1 with
 | false=>rfl
 | true=>
  obtain ⟨hq,_⟩:=Hr h0 hu;simp only[aN,aD,aI];rw[Ju];simp only[aA];show (bif !gu b.1 1 99 then _ else _)=_
  cases hi:gu b.1 1 99 with
  | false=>rfl
  | true=>
   simp only[aN,aD,aI];rw[UE _ hb.1 hb.2];simp only[aA];by_cases hf:yu b.2.1=0;rotate_left
   ·simp only[hf,aE,bA,aH,aO]
   simp only[hf,aG,aN,aD,aI];obtain ⟨f1,f2⟩:=JL hf;rw[Qd hq h.2.2];simp only[aA];obtain ⟨r,r1,r2⟩:=NZ hq f1 (by omega) hb.2;rw[r1];simp only[aA]
   cases KI:xD s b with
   | inl c=>
    rw[KI] at r2;obtain ⟨r3,r4⟩:=r2;rw[<-r3] at r4;simp only[r4,aE,bA,aH,<- r3]
   | inr s'=>
    rw[KI] at r2;have r2:r=_:=r2;subst r2;obtain ⟨g1,g2,g3⟩:=IW hq f1 (by omega) KI;simp only[aG,aN,aD];rw[Qd g1 (by rw[g3];exact h.2.2)];rfl
theorem Pa {s:bj} {b:Buffer} (h:NQ s) (hb:Ll b):qK.ab (s,b,())=some (BG s b,()):=by
 refine ag (k:=0) λk _=>(qK.ae k _).trans ?_;unfold qK.p BG;rw[JJ h];simp only[aA,Yt];by_cases h0:vY s=0;rotate_left
 ·simp only[h0,aE,bA,aH,aO]
 simp only[h0,aG,aN,aD,aI]
 cases hu:s.1 with
 | false=>rfl
 | true=>
  obtain ⟨hq,_⟩:=Hr h0 hu;simp only[aN,aD,aI];rw[nX];simp only[aA];show (bif !gu b.1 1 99 then _ else _)=_
  cases hi:gu b.1 1 99 with
  | false=>rfl
  | true=>
   simp only[aN,aD,aI];rw[O9 _ hb.1 hb.2];simp only[aA];by_cases hf:yu b.2.1=0;rotate_left
   ·simp only[hf,aE,bA,aH,aO]
   simp only[hf,aG,aN,aD,aI];obtain ⟨f1,f2⟩:=JL hf;rw[Wg hq h.2.2];simp only[aA];obtain ⟨r,r1,r2⟩:=N0 hq f1 (by omega);rw[r1];simp only[aA]
   cases KI:xD s b with
   | inl c=>
    rw[KI] at r2;obtain ⟨r3,r4⟩:=r2;rw[<-r3] at r4;simp only[r4,aE,bA,aH,<- r3]
   | inr s'=>
    rw[KI] at r2;have r2:r=_:=r2;subst r2;simp only[aG,aN,aD]
theorem Sl {s:bj} {b:Buffer}:zz gz (BG s b)<=17000+zz ci s:=by
 have hz:∀ (c v:Int) (x:bj),zz gz (c,v,x,())=zz ci x:=λc v x=>by
  show 0+(0+(zz ci x+0))=_;omega
 have N2:∀ c,zz gz (Fs c)<=17000+zz ci s:=λc=>by
  exact bL (gZ (show zz gz (Fs c)=0 from rfl)) (bD _)
 unfold BG;split
 ·rename_i h0;split
  ·rename_i hu;split
   ·split
    ·rename_i hf;obtain ⟨f1,f2⟩:=JL hf;split
     ·exact N2 _
     ·rename_i s' KI;refine bL (gZ (hz _ _ _)) ?_;obtain ⟨g1,g2,g3⟩:=IW (Hr h0 hu).1 f1 (by omega) KI;have:=Yu g1
      have h3:zz (.aa ca) s'.2.2.2.1<=zz ci s:=by
       rw[g3];obtain ⟨u,ps,l,ts,n,⟨⟩⟩:=s;refine bL ?_ (gZ (N1 u ps l ts n).symm);show zz (.aa ca) ts<=_;omega
      omega
    ·exact N2 _
   ·exact N2 _
  ·exact N2 _
 ·exact N2 _
theorem aah {b:Buffer} (hv:sm gi b) (hz:zz gi b<=1048576):Ll b:=by
 have h4:zz gi b=0+(zz (.aa an) b.2.1+0):=rfl;have h5:List.length b.2.1<=zz (.aa an) b.2.1:=uW (e:=an) b.2.1;exact ⟨by rw[au];omega,λc hc=>Xl (hv.2.1.2 c hc)⟩
theorem KZ (v:f9.Arg) (hv:Tn f9.ps v):f9.ab v=some (true,()):=by
 obtain ⟨s,b,⟨⟩⟩:=v;obtain ⟨aai,aaj,_⟩:=hv;refine ag (k:=0) λk _=>(f9.ae k _).trans ?_;show f9.p _=_;unfold f9.p;simp only[Rr s 1048576 aai (show (0:Int)<=1048576 by omega) (by omega),aA];by_cases El:((zz ci s:Nat):Int)<=1048576;rotate_left
 ·have:iq (1048576) (zz ci s)=-1:=aP El;simp only[this];rfl
 have e1:iq (1048576) (zz ci s)=1048576 - ((zz ci s:Nat):Int):=aM El;have n1:¬ (1048576 - ((zz ci s:Nat):Int) < 0):=by omega
 simp only[e1,n1,aE,aD,Ou b _ aaj (show (0:Int)<=1048576 - ((zz ci s:Nat):Int) by omega) (by omega),aA];by_cases ze:((zz gi b:Nat):Int)<=1048576 - ((zz ci s:Nat):Int);rotate_left
 ·have:iq (1048576 - ((zz ci s:Nat):Int)) (zz gi b)=-1:=aP ze;simp only[this];rfl
 have e2:iq (1048576 - ((zz ci s:Nat):Int)) (zz gi b)=1048576 - ((zz ci s:Nat):Int) - ((zz gi b:Nat):Int):=aM ze;have n2:¬ (1048576 - ((zz ci s:Nat):Int) - ((zz gi b:Nat):Int) < 0):=by omega
 have h1:NQ s:=Wd aai (by omega);have h2:Ll b:=aah aaj (by omega);have hR:=Sl (s:=s) (b:=b);have hB:lU=4611686018427387904:=rfl;obtain ⟨k',y,a1,a2,a3,a4⟩:=KS (BG s b) 1 (by omega) (by omega);obtain ⟨l1,w1,b1,c1,d1⟩:=Yb s 1 (by omega) (by omega);obtain ⟨l2,w2,b2,c2,d2⟩:=VF b l1 (by omega) (by omega);simp only[e2,n2,aE,aD,Rs s (by omega),Ov b (by omega),Pa h1 h2,O_ h1 h2,EG (BG s b) (by omega),a1,a2,show ¬ k' < 0 by omega,EF s (by omega),b1,show ¬ l1 < 0 by omega,KU b (by omega),b2,show ¬ l2 < 0 by omega,aA,aN,aG,aH]
end OT
