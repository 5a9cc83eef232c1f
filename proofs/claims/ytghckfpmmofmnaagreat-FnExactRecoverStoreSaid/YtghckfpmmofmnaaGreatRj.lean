/- The proof's parts, merged: A change folded into changes, in plain words  no conditions but that the changes rise.. No conditions but those that each states. -/
import Derived.Test.YtghckfpmmofmnaaGreatRi
set_option linter.unusedVariables false
set_option linter.unusedSimpArgs false
set_option linter.unusedSectionVars false
namespace OT
open Go
def pC (cs:List Change) (k:Int×Int):Nat:=pos (cs.map rx) k
def fC (cs:List Change) (k:Int×Int):Bool:=lz (cs.map rx) k
def Re (cs:List Change):Prop:=up (cs.map rx)
theorem aao {x:Change} {cs:List Change}:Re (x::cs)↔(∀ y ∈ cs,cr (ck x) (ck y)=true)/\Re cs:=by
 unfold Re;rw[dH,v_];simp only[eL,forall_exists_index,and_imp,forall_apply_eq_imp_iff₂,wL]
theorem aa4 (cs:List Change) (k:Int×Int):pC cs k<=cs.length:=by
 have:=A5 (cs.map rx) k
 rwa [gL] at this
theorem Gm {xs:List Change} (h:BY xs=0):Re xs/\(∀ c ∈ xs,AY c=0)/\xs.length<=60:=by
 unfold BY at h;split at h
 ·cases h
 ·rename_i hl
  have hn:=Ht (f:=λi (_:Unit) x=>vE xs i x) (λi s x o ho=>by
   grind [vE]) xs 0 h
  have h1:∀ i (hi:i < xs.length),AY xs[i]=0:=λi hi=>by
   grind [vE]
  refine ⟨P9 _ λi hi h0=>?_,λx hx=>?_,by omega⟩
  ·grind [vE,wL]
  ·obtain ⟨i,hi,rfl⟩:=cK.1 hx;exact h1 i hi
def xW (x c:Change):Change:=(x.1,x.2.1,c.2.2.1,c.2.2.2.1,())
def Gn (x:Change):Bool:=(!x.1&&!x.2.2.1)||(x.1&&(x.2.2.1&&Ty.eq bd x.2.1 x.2.2.2.1))
def Rf (x c:Change):Bool:=!(c.1 == x.2.2.1)||(c.1&&!Ty.eq bd c.2.1 x.2.2.2.1)
def rO (cs:List Change) (c:Change):Option (List Change):=
 match (if fC cs (ck c) then cs[pC cs (ck c)]? else none) with
 | none=>some (cs.take (pC cs (ck c))++[c]++cs.drop (pC cs (ck c)))
 | some x=>if Rf x c then none else if Gn (xW x c) then some (cs.take (pC cs (ck c))++cs.drop (pC cs (ck c)+1)) else some (cs.set (pC cs (ck c)) (xW x c))
theorem aey {x:Change} {cs:List Change} {k:Int×Int} (h:cr (ck x) k=true):pC (x::cs) k=pC cs k+1/\fC (x::cs) k=fC cs k:=by
 grind [wL,pC,pos,fC,IX]
theorem aa5 {x:Change} {cs:List Change} {k:Int×Int} (h:cr (ck x) k=false):pC (x::cs) k=0/\fC (x::cs) k=decide (ck x=k):=by
 have h':cr (rk (rx x)) k=false:=by grind [wL]
 have h0:pos ((x::cs).map rx) k=0:=by grind [pos]
 refine ⟨h0,?_⟩
 grind [fC,lz,wL]
theorem aap {x:Change} {cs:List Change} {c:Change} (h:cr (ck x) (ck c)=true):rO (x::cs) c=(rO cs c).map (x::·):=by
 obtain ⟨h1,h2⟩:=aey (cs:=cs) h;unfold rO;rw[h1,h2];simp only[List.getElem?_cons_succ,List.take_succ_cons,List.drop_succ_cons,List.set_cons_succ];grind
theorem aaq {x:Change} {cs:List Change} {c:Change} (h:cr (ck c) (ck x)=true):rO (x::cs) c=some (c::x::cs):=by
 grind [aa5,A4,rO]
theorem aar {x:Change} {cs:List Change} {c:Change} (h:ck x=ck c):rO (x::cs) c=if Rf x c then none else if Gn (xW x c) then some cs else some (xW x c::cs):=by
 grind [aa5,mQ,rO]
theorem YC (c:Change):rO [] c=some [c]:=by grind [rO]
theorem YD {cs:List Change} {c:Change} {r:List Change} (h:rO cs c=some r):r.length<=cs.length+1:=by
 grind [rO]
theorem YE {q:Change->Prop} {cs:List Change} {c:Change} {r:List Change} (h:rO cs c=some r) (h1:∀ x ∈ cs,q x) (h2:q c) (h3:∀ x ∈ cs,q (xW x c)):∀ x ∈ r,q x:=by
 grind [rO]
theorem Jj (c:Change) (r:Row):o7.ae (c,r,())=some (if cr (ck c) (rk r) then -1 else if cr (rk r) (ck c) then 1 else 0,()):=by
 refine ah (k:=0) λk _=>(o7.af k _).trans ?_;show o7.p _=_;unfold o7.p;simp only[vm,vl,yB,aA];rfl
theorem ab0 (a b:Int×Int):decide ((if cr a b then (-1:Int) else if cr b a then 1 else 0) < 0)=cr a b:=by
 grind
theorem ab1 (a b:Int×Int):decide ((if cr a b then (-1:Int) else if cr b a then 1 else 0)=0)=decide (a=b):=by
 grind [mQ,vt]
theorem Wa (xs:List Change) (key:Row) (f:Nat×Int) (hu:Re xs) (hl:xs.length<=2000000):bz.ae (xs,key,f,())=some ((pC xs (rk key):Int),fC xs (rk key),()):=by
 have hp:=aa4 xs (rk key)
 have hq:bz.q0 (xs,key,f,()) (pC xs (rk key):Int)=some ((pC xs (rk key):Int),fC xs (rk key),()):=by
  show bz.q0 _ _=_;unfold bz.q0;by_cases a_:pC xs (rk key) < xs.length
  ·have h1:((pC xs (rk key):Nat):Int) < (xs.length:Int):=by omega
   have h2:fC xs (rk key)=decide (ck xs[pC xs (rk key)]=rk key):=by
    grind [fC,lz,pC,wL]
   grind [Jj,ab1]
  grind [pC,fC,lz]
 refine ah (k:=xs.length+1) λk hk=>(bz.af k _).trans ?_
 refine qV (B:=λself v=>bz.b0 self (λz=>bz.q0 (xs,key,f,()) z) (xs,key,f,()) v) (λ_=>((pC xs (rk key):Int),fC xs (rk key),()))
  (λv=>∃ lo hi:Nat,v=((lo:Int),(hi:Int))/\lo<=pC xs (rk key)/\pC xs (rk key)<=hi/\hi<=xs.length) (λv=>(v.2 - v.1).toNat) (λv hv self=>?_) k (0,(xs.length:Int)) ⟨0,xs.length,rfl,by omega,hp,by omega⟩ (by simp;omega)
 obtain ⟨lo,hi,rfl,h1,h2,h3⟩:=hv;by_cases a_:lo < hi
 ·right;have zP:(lo:Int) < (hi:Int):=by omega
  have hm:(lo+hi) / 2 < xs.length:=by omega
  have Ng:(lo+hi) / 2 < (xs.map rx).length:=by grind
  have hb:∀ self,bz.b0 self (λz=>bz.q0 (xs,key,f,()) z) (xs,key,f,()) ((lo:Int),(hi:Int))=if cr (ck xs[(lo+hi) / 2]) (rk key) then self (ag ((((lo+hi) / 2:Nat):Int)+1),(hi:Int)) else self ((lo:Int),(((lo+hi) / 2:Nat):Int)):=λself=>by
   show bz.b0 _ _ _ _=_;unfold bz.b0;simp only[zP,aI,aO,half lo hi Bys,aK,aJ,aC,aB hm,aA,Jj,ab0];grind
  have aeI:rk (xs.map rx)[(lo+hi) / 2]=ck xs[(lo+hi) / 2]:=by rw[List.getElem_map,wL]
  cases hc:cr (ck xs[(lo+hi) / 2]) (rk key) with
  | true=>
   refine ⟨((((lo+hi) / 2+1:Nat):Int),(hi:Int)),?_,rfl,⟨_,_,rfl,?_,h2,h3⟩,by grind⟩
   ·grind [bh]
   ·rcases cG ((lo+hi) / 2) (pC xs (rk key)) with h | h
    ·omega
    ·have:=wK (xs.map rx) (rk key) _ Ng hu h;grind
  | false=>
   refine ⟨((lo:Int),(((lo+hi) / 2:Nat):Int)),?_,rfl,⟨_,_,rfl,h1,?_,by omega⟩,by grind⟩
   all_goals grind [pC,C3]
 grind [bz.b0]
def AF (xs:List Change) (c:Change):Buffer:=if BY xs=0 then (if AY c=0 then (match rO xs c with | none=>((8:Int),([]:List Change),()) | some r=>((0:Int),r,())) else (AY c,([]:List Change),())) else (BY xs,([]:List Change),())
theorem ab2 (xs:List Change) (i:Nat) (c:Change) (hi:i<=xs.length) (hl:xs.length<=1000):p_.ae (xs,(i:Int),[c],())=some (xs.take i++[c]++xs.drop i,()):=by
 have h1:(0:Int)<=(i:Int)/\(i:Int)<=(xs.length:Int)/\xs.length+[c].length<=b9:=⟨by omega,by omega,cv (by grind)⟩
 show (if (0:Int)<=(i:Int)/\(i:Int)<=(xs.length:Int)/\xs.length+[c].length<=b9 then some (xs.take (i:Int).toNat++[c]++xs.drop (i:Int).toNat,()) else none)=_;grind
theorem ab3 (xs:List Change) (i:Nat) (hi:i < xs.length) (hl:xs.length<=1000):mO.ae (xs,(i:Int),ag ((i:Int)+1),())=some (xs.take i++xs.drop (i+1),()):=by
 rw[bh Bys]
 have h1:(0:Int)<=(i:Int)/\(i:Int)<=(i:Int)+1/\(i:Int)+1<=(xs.length:Int):=⟨by omega,by omega,by omega⟩
 show (if (0:Int)<=(i:Int)/\(i:Int)<=(i:Int)+1/\(i:Int)+1<=(xs.length:Int) then some (xs.take (i:Int).toNat++xs.drop ((i:Int)+1).toNat,()) else none)=_;grind
theorem Sw (xs:List Change) (c:Change) (hl:xs.length<=1048576) (h:∀ x ∈ xs,cl x) (hc:cl c):oQ.ae (xs,c,())=some (AF xs c,()):=by
 refine ah (k:=0) λk _=>(oQ.af k _).trans ?_;show oQ.p _=_;unfold oQ.p AF;simp only[Yv xs (by rw[au];omega) h,Ho c hc,aA];by_cases h1:BY xs=0
 ·obtain ⟨hu,_,h60⟩:=Gm h1;simp only[h1,aI,aN,aE,aJ];by_cases h2:AY c=0
  ·have hp:=aa4 xs (ck c);simp only[h2,aI,aN,aE,aJ,vm,Wa xs _ _ hu Bys,wL,EF xs hl,aA];unfold rO
   cases hf:fC xs (ck c) with
   | false=>
    grind [ab2]
   | true=>
    have a_:pC xs (ck c) < xs.length:=by
     obtain ⟨hp,_⟩:=zp hf;rw[gL] at hp;exact hp
    have hi:(0:Int)<=(pC xs (ck c):Int)/\((pC xs (ck c):Nat):Int) < (xs.length:Int):=⟨by omega,by omega⟩
    simp only[aN,aE,aJ,aR hi,aC,aB a_,aA,ab3 xs _ a_ Bys];grind [Rf,Gn,xW]
  grind
 grind
def zC (c:Change) (s:List Change×Bool) (x:Change):Sum (List Change×Bool×Unit) (List Change×Bool):=
 let s':=if !s.2&&cr (ck c) (ck x) then (s.1++[c],true) else s
 if cr (ck x) (ck c) then .inr (s'.1++[x],s'.2) else if cr (ck c) (ck x) then .inr (s'.1++[x],s'.2) else
 if Rf x c then .inl ([],false,()) else if Gn (xW x c) then .inr (s'.1,true) else .inr (s'.1++[xW x c],true)
def It (c:Change) (s:List Change×Bool):List Change×Bool×Unit:=if s.2 then (s.1,true,()) else (s.1++[c],true,())
theorem Gp (c:Change):∀ (xs:List Change) (i:Nat) (s:List Change),(∀ x ∈ xs,cr (ck c) (ck x)=true)->bq (λ_ s x=>zC c s x) (It c) i xs (s,true)=(s++xs,true,())
 | [],_,s,_=>by simp[bq,It]
 | x::xs,i,s,h=>by
  have hx:=h x bB;have:zC c (s,true) x=.inr (s++[x],true):=by grind [zC]
  simp only[bq,this];rw[Gp c xs (i+1) _ (λy hy=>h y (aW _ hy))];simp
theorem Rg (c:Change):∀ (xs:List Change) (i:Nat) (s:List Change),Re xs->bq (λ_ s x=>zC c s x) (It c) i xs (s,false)=match rO xs c with | none=>([],false,()) | some r=>(s++r,true,())
 | [],_,s,_=>by simp[bq,It,YC]
 | x::xs,i,s,hu=>by
  have ny:=aao.1 hu
  cases h1:cr (ck x) (ck c) with
  | true=>
   have:zC c (s,false) x=.inr (s++[x],false):=by grind [zC,A4]
   simp only[bq,this];rw[Rg c xs (i+1) _ ny.2,aap h1];grind
  | false=>
   cases h2:cr (ck c) (ck x) with
   | true=>
    grind [zC,bq,Gp,qZ,aaq]
   | false=>
    grind [cr,aar,zC,bq,Gp]
theorem ab4 {a b:Row}:Ty.eq bd a b=Ty.eq bd b a:=by
 cases h1:Ty.eq bd a b <;> grind [X6]
theorem Rh (xs:List Change) (c:Change) (hu:Re xs) (hl:xs.length<=1000):nq.ae (xs,c,())=some (match rO xs c with | none=>(([]:List Change),false,()) | some r=>(r,true,())):=by
 refine ah (k:=xs.length+1) λk hk=>(nq.af k _).trans ?_
 have:=ci (B:=λself v=>nq.b0 self (λz=>nq.q0 (xs,c,()) z) (xs,c,()) v) xs (λ(s:List Change×Bool) (i:Int)=>(s.1,s.2,i)) (λ_ s x=>zC c s x) (It c) (λi s=>s.1.length<=2*i) (by rw[au];omega)
  (λi hi s self hI=>by
   show nq.b0 _ _ _ _=_;unfold nq.b0 zC;have a_:(i:Int) < (xs.length:Int):=by omega
   obtain ⟨s1,s2⟩:=s;simp only at hI;have c1:∀ y:Change,s1.length+[y].length<=b9:=λy=>cv (by grind);have c2:∀ y:Change,(s1++[c]).length+[y].length<=b9:=λy=>cv (by grind);simp only[a_,aI,aO,aK,aJ,aC,aB hi,aA,Ra,c1,c2];generalize xs[i]=x;unfold Rf Gn xW
   grind [ab4])
  (λi hi s s' hI hf=>by
   grind [zC]) (λs self hI=>by
   grind [nq.b0,nq.q0,It,cv]) ([],false) (by simp) k Bys
 rw[Rg c xs 0 [] hu] at this;refine (this:nq.r0 k (xs,c,()) ([],false,0)=_).trans ?_;grind
theorem Sx (xs:List Change) (c:Change) (hl:xs.length<=1048576) (h:∀ x ∈ xs,cl x) (hc:cl c):oO.ae (xs,c,())=some (AF xs c,()):=by
 refine ah (k:=0) λk _=>(oO.af k _).trans ?_;show oO.p _=_;unfold oO.p AF;simp only[Su xs (by rw[au];omega) h,Ab c hc,aA];grind [Gm,Rh]
end OT
namespace OT
open Go
def sU (xs:List Buffer) (t:Int):Int:=xI (λb=>decide (b.1=t)) 0 xs
structure okM (m:di):Prop where
 pl:List.length m.1<=1048576
 jh:∀ p ∈ (m.1:bv),p.length<=maxLen
 bl:List.length m.2.1<=1048576
 buf:∀ b ∈ (m.2.1:List Buffer),List.length b.2.1<=1048576/\∀ c ∈ (b.2.1:List Change),cl c
theorem Gq (m:di) (t:Int) (h:List.length m.2.1<=1048576):lw.ae (m,t,())=some (sU m.2.1 t,()):=by
 refine ah (k:=1048577) λk hk=>(lw.af k _).trans ?_
 have:=ci (B:=λself v=>lw.b0 self (λz=>lw.q0 (m,t,()) z) (m,t,()) v) m.2.1 (λ(_:Unit) (i:Int)=>i) (λi _ b=>if decide (b.1=t) then .inl ((i:Int),()) else .inr ()) (λ_=>((-1:Int),())) (λ_ _=>True) (by rw[au];omega)
  (λi hi s self _=>by
   show lw.b0 _ _ _ _=_;unfold lw.b0;have a_:(i:Int) < (List.length m.2.1:Int):=by omega
   simp only[a_,aI,aO,aK,aJ,aC,aB hi,aA]
   cases decide ((m.2.1[i]).1=t) <;> rfl)
  (λ_ _ _ _ _ _=>trivial) (λs self _=>by
   show lw.b0 _ _ _ _=_;unfold lw.b0;simp only[aU,aG,aE]
   rfl) () trivial k Bys
 rw[BO (λb:Buffer=>decide (b.1=t))] at this;exact this
theorem Wb (m:di) (t:Int) (h:List.length m.2.1<=1048576):oP.ae (m,t,())=some (sU m.2.1 t,()):=by
 have qu:∀ b:Buffer,qd.ae (b,t,())=some (decide (b.1=t),()):=λb=>by
  refine ah (k:=0) λk hk=>(qd.af k _).trans ?_;rfl
 have Y_:∀ f:Nat,gb.ae (m.2.1,((f,t):Nat×Int),())=some (sU m.2.1 t,()):=λf=>by
  refine ah (k:=1048577) λk hk=>(gb.af k _).trans ?_
  have:=ci (B:=λself v=>gb.b0 self (λz=>gb.q0 (m.2.1,(f,t),()) z) (m.2.1,(f,t),()) v) m.2.1 (λ(_:Unit) (i:Int)=>i) (λi _ b=>if decide (b.1=t) then .inl ((i:Int),()) else .inr ()) (λ_=>((-1:Int),())) (λ_ _=>True) (by rw[au];omega)
   (λi hi s self _=>by
    show gb.b0 _ _ _ _=_;unfold gb.b0;have a_:(i:Int) < (List.length m.2.1:Int):=by omega
    simp only[a_,aI,aO,aK,aJ,aC,aB hi,aA,qu]
    cases decide ((m.2.1[i]).1=t) <;> rfl)
   (λ_ _ _ _ _ _=>trivial) (λs self _=>by
    show gb.b0 _ _ _ _=_;unfold gb.b0;simp only[aU,aG,aE]
    rfl) () trivial k Bys
  rw[BO (λb:Buffer=>decide (b.1=t))] at this;exact this
 refine ah (k:=0) λk hk=>(oP.af k _).trans ?_;show oP.p _=_;unfold oP.p;rw[Y_];rfl
theorem aas {ps:bv} (h:lA ps):gp ps:=⟨h.1,λp hp=>(h.2 p hp).len⟩
structure Wc (m:di):Prop where
 jh:gp m.1
 bl:List.length m.2.1<=1048576
 buf:∀ b ∈ (m.2.1:List Buffer),List.length b.2.1<=1048576
abbrev zD:di:=(([]:List (List UInt8)),([]:List Buffer),())
end OT
namespace OT
open Go
theorem ML (xs:List Buffer) (hl:xs.length<=1048576) (h:∀ b ∈ xs,List.length b.2.1<=1048576):kY.ae (xs,())=some (xs,()):=by
 refine ah (k:=1048577) λk hk=>(kY.af k _).trans ?_
 have:=ci (B:=λself v=>kY.b0 self (λz=>kY.q0 (xs,()) z) (xs,()) v) xs (λ(s:List Buffer) (i:Int)=>(s,i)) (λ_ s b=>.inr (s++[b])) (λs=>(s,())) (λi s=>s.length<=i) (by rw[au];omega)
  (λi hi s self hI=>by
   show kY.b0 _ _ _ _=_;unfold kY.b0;have a_:(i:Int) < (xs.length:Int):=by omega
   have hb:=h _ (aP hi);simp only[a_,aI,aO,aK,aJ,aC,aB hi,aA];rw[aR (cv (by simp only[cY];omega)),aR (cv (by simp only[bM,cY];omega))]
   rfl)
  (λi hi s s' hI hf=>by
   injection hf with hf;subst hf
   rw[bU,bM,cY];omega) (λs self _=>by
   show kY.b0 _ _ _ _=_;unfold kY.b0;simp only[aU,aG,aE]
   rfl) [] (by simp) k Bys
 rw[gt,yy] at this;exact this
theorem Dg (m:di) (h:Wc m):lN.ae (m,())=some (m,()):=by
 refine ah (k:=0) λk hk=>(lN.af k _).trans ?_;show lN.p _=_;unfold lN.p;simp only[xS m.1 h.jh,ML m.2.1 h.bl h.buf,aA]
end OT
namespace OT
open Go
theorem Sy (m:di) (h:Wc m):kl.ae (m,())=some (m,()):=by
 refine ah (k:=1048577) λk hk=>(kl.af k _).trans ?_;unfold kl.p;rw[vQ m.1 h.jh];simp only[aA]
 have qu:∀ b:Buffer,List.length b.2.1<=1048576->pt.ae (b,())=some (b,()):=λb hb=>by
  refine ah (k:=0) λk hk=>(pt.af k _).trans ?_;show pt.p _=_;unfold pt.p;rw[EF _ hb];rfl
 have hb:=h.bl
 have:=ci (B:=λself v=>kl.b0 self (λz=>kl.q0 (m,()) z) (m,()) v) m.2.1 (λ(s:List Buffer) (i:Int)=>(((m.1,s,()):di),i)) (λ_ s b=>.inr (s++[b])) (λs=>(((m.1,s,()):di),())) (λi s=>s.length<=i) (by rw[au];omega)
  (λi hi s self hI=>by
   show kl.b0 _ _ _ _=_;unfold kl.b0;have a_:(i:Int) < (List.length m.2.1:Int):=by omega
   simp only[a_,aI,aO,aK,aJ,aC,aB hi,aA,qu _ (h.buf _ (aP hi))]
   rw[aR (cv (by simp only[bM,cY];omega))])
  (λi hi s s' hI hf=>by
   injection hf with hf;subst hf
   rw[bU,bM,cY];omega) (λs self _=>by
   show kl.b0 _ _ _ _=_;unfold kl.b0;simp only[aU,aG,aE]
   rfl) [] (by simp) k Bys
 rw[gt,yy] at this;exact this
end OT
namespace OT
open Go
theorem xm:∀ p:Path,rC p p=true
 | []=>rfl
 | .fst::p=>xm p
 | .snd::p=>xm p
 | .idx i::p=>by simp[rC,xm p]
 | .rB i::p=>by simp[rC,xm p]
theorem LG {α:Type} (p:α->Bool):∀ (xs:List α) (i:Nat),xI p i xs=-1\/∃ (j:Nat) (hj:j < xs.length),xI p i xs=((i+j:Nat):Int)/\p xs[j]=true
 | [],i=>.inl rfl
 | x::xs,i=>by
  simp only[xI];by_cases hx:p x=true
  ·rw[aR hx];exact .inr ⟨0,by simp,by simp,hx⟩
  ·rw[aV hx]
   rcases LG p xs (i+1) with h | ⟨j,hj,h1,h2⟩
   ·exact .inl h
   ·exact .inr ⟨j+1,by simpa using hj,by grind,h2⟩
theorem Gr (xs:List Buffer) (t:Int):sU xs t=-1\/∃ (j:Nat) (hj:j < xs.length),sU xs t=(j:Int)/\(xs[j]).1=t:=by
 grind [LG,sU]
abbrev yj (k:Int):ng:=(k,false,false,(0:Int),([]:List Change),zD,())
def LH (T:Nat) (c:Change):Prop:=List.length c.2.1.2.2.2.1<=T/\List.length c.2.2.2.1.2.2.2.1<=T
abbrev D9 (T:Nat) (b:Buffer):Prop:=List.length b.2.1<=61/\∀ c ∈ (b.2.1:List Change),LH T c
theorem HX {T:Nat} {c:Change} (hT:T<=1048576) (h:LH T c):cl c:=⟨by unfold rl;rw[au];have:=h.1;omega,by unfold rl;rw[au];have:=h.2;omega⟩
structure vF (T:Nat) (m:di):Prop where
 lo:64<=T
 hi:T<=1048576
 view:f9 m.1=0
 bl:List.length m.2.1<=8
 buf:∀ b ∈ (m.2.1:List Buffer),D9 T b
theorem vF.gp {T:Nat} {m:di} (h:vF T m):gp m.1:=aas (ov h.view).right
theorem vF.Wd {T:Nat} {m:di} (h:vF T m):Wc m:=⟨h.gp,by have:=h.bl;omega,λb hb=>by have:=(h.buf b hb).1;omega⟩
theorem Ri {ps:bv} (h:gp ps):∀ p ∈ ps,p.length<=maxLen:=λp hp=>by rw[h.2 p hp,au];omega
def wP (j:Nat) (s:List Buffer) (c:Change):Sum (ng×Unit) (List Buffer):=match s[j]? with
 | some b=>if (AF b.2.1 c).1=0 then .inr (s.set j (b.1,(AF b.2.1 c).2.1,b.2.2)) else .inl (yj (AF b.2.1 c).1,())
 | none=>.inl (yj 4,())
def J5 (ps:bv) (s:List Buffer):ng×Unit:=(((0:Int),false,false,(0:Int),([]:List Change),(ps,s,()),()),())
def aa6 (j:Nat) (ps:bv) (s:List Buffer) (list:List Change):ng:=(bq (λ_ s c=>wP j s c) (J5 ps) 0 list s).1
def HY (T n:Nat) (s:List Buffer):Prop:=s.length=n/\∀ b ∈ s,D9 T b
theorem aat {T:Nat} {xs:List Change} {c:Change} (hx:∀ x ∈ xs,LH T x) (hc:LH T c):D9 T ((0:Int),(AF xs c).2.1,()):=by
 unfold AF;split
 ·rename_i hf;have h60:=(Gm hf).2.2;split
  ·cases h:rO xs c with
   | none=>grind
   | some r=>
    have:=YD h;exact ⟨by grind,YE h hx hc λx OB=>⟨(hx x OB).1,hc.2⟩⟩
  grind
 grind
theorem MM {T j n:Nat} {s s':List Buffer} {c:Change} (h:HY T n s) (hc:LH T c) (he:wP j s c=.inr s'):HY T n s':=by
 unfold wP at he;split at he
 ·rename_i b hb;split at he
  ·injection he with he;subst he;have hbm:=h.2 b (bI hb);have hf:=aat (c:=c) hbm.2 hc;refine ⟨by rw[cE];exact h.1,λy hy=>?_⟩
   rcases dK hy with hy | rfl
   ·exact h.2 y hy
   ·exact hf
  ·cases he
 ·cases he
def J6 (m:di) (r:bg):ng:=match m.2.1[(sU m.2.1 r.2.1).toNat]? with
 | some b=>((0:Int),true,decide (r.1=5),r.2.1,b.2.1,(m.1,m.2.1.take (sU m.2.1 r.2.1).toNat++m.2.1.drop ((sU m.2.1 r.2.1).toNat+1),()),())
 | none=>yj 4
def Iu (m:di) (r:bg):ng:=match oR m.1 r with
 | .inl c=>yj c
 | .inr ps=>if f9 ps=0 then (if r.1=4 then (if qy (dg m.1) (dg ps)=[] then ((0:Int),false,false,(0:Int),([]:List Change),(ps,m.2.1,()),()) else yj 8) else
   if sU m.2.1 r.2.1 < 0 then yj 4 else aa6 (sU m.2.1 r.2.1).toNat ps m.2.1 (qy (dg m.1) (dg ps))) else yj (f9 ps)
def nA (m:di) (r:bg):ng:=if ru r=0 then
    (if r.1=1 then (if 0<=sU m.2.1 r.2.1 then yj 6 else if 8<=(List.length m.2.1:Int) then yj 2 else ((0:Int),false,false,(0:Int),([]:List Change),(m.1,m.2.1++[(r.2.1,([]:List Change),())],()),()))
     else if r.1=5\/r.1=6 then (if sU m.2.1 r.2.1 < 0 then yj 4 else J6 m r) else Iu m r)
 else yj (ru r)
theorem Rj {ps vR:bv} {r:bg} (hp:gp ps) (h:oR ps r=.inr vR):gp vR:=BK hp h
theorem Rk {T:Nat} (hT:64<=T) {B A:bv} (hB:f9 B=0) (hA:f9 A=0):∀ c ∈ qy (dg B) (dg A),LH T c:=λc hc=>by
 have:=yh (q:=λr=>List.length r.2.2.2.1<=64) (aZ _) _ _ _ (MF hB) (MF hA) c hc;exact ⟨by grind,by grind⟩
theorem NI {B A:bv} (hB:f9 B=0) (hA:f9 A=0):(qy (dg B) (dg A)).length<=384:=by
 grind [Al,Am,qy]
theorem ab5 (xs:List Buffer) (i:Nat) (hi:i < xs.length) (hl:xs.length<=1000):mN.ae (xs,(i:Int),ag ((i:Int)+1),())=some (xs.take i++xs.drop (i+1),()):=by
 rw[bh Bys]
 have h1:(0:Int)<=(i:Int)/\(i:Int)<=(i:Int)+1/\(i:Int)+1<=(xs.length:Int):=⟨by omega,by omega,by omega⟩
 show (if (0:Int)<=(i:Int)/\(i:Int)<=(i:Int)+1/\(i:Int)+1<=(xs.length:Int) then some (xs.take (i:Int).toNat++xs.drop ((i:Int)+1).toNat,()) else none)=_;grind
theorem YF (j:Nat) (h:j<=1000):Fe (j:Int) (ag ((j:Int)+1)) j=true:=by
 grind [bh,Fe]
theorem Sz {T:Nat} {m:di} (r:bg) (h:vF T m):jG.ae (m,r,())=some (nA m r,()):=by
 have Py:=h.bl;refine ah (k:=3000) λk hk=>(jG.af k _).trans ?_;unfold jG.p nA;simp only[FA,aA];by_cases hr:ru r=0;rotate_left
 ·grind
 simp only[hr,aI,aN,aE,aJ,Wb m _ (show List.length m.2.1<=1048576 by omega),Sy m h.Wd,aA]
 have zW:∀ b:Bool,¬ sU m.2.1 r.2.1 < 0->b=decide (r.1=5)->(if 0<=sU m.2.1 r.2.1/\sU m.2.1 r.2.1 < (List.length m.2.1:Int) then ((m.2.1[(sU m.2.1 r.2.1).toNat]?).bind λx6=>(m.2.1[(sU m.2.1 r.2.1).toNat]?).bind λx7=>(m.2.1[(sU m.2.1 r.2.1).toNat]?).bind λx8=>bif Fe (sU m.2.1 r.2.1) (ag (sU m.2.1 r.2.1+(1:Int))) (sU m.2.1 r.2.1).toNat then ((mN.ae (m.2.1.set (sU m.2.1 r.2.1).toNat x8,sU m.2.1 r.2.1,ag (sU m.2.1 r.2.1+(1:Int)),())).bind λr9=>some (((0:Int),true,b,x7.1,x7.2.1,(m.1,r9.1,m.2.2),()),())) else none) else none)=some (J6 m r,()):=λb h0 hb=>by
  rcases Gr m.2.1 r.2.1 with e | ⟨j,hj,e,ht⟩
  all_goals grind [J6,Int.toNat_natCast,YF,List.set_getElem_self,ab5]
 by_cases h1:r.1=1
 ·grind [cv]
 simp only[h1,aG,aE,aS];by_cases h5:r.1=5
 ·simp only[h5,aI,aO,true_or,aJ];by_cases h2:sU m.2.1 r.2.1 < 0
  ·grind
  ·simp only[h2,aG,aE,aS];exact zW true h2 (by rw[h5];rfl)
 simp only[h5,aG,aE,iJ];by_cases h6:r.1=6
 ·simp only[h6,aI,aO,aJ];by_cases h2:sU m.2.1 r.2.1 < 0
  ·grind
  ·simp only[h2,aG,aE,aS];exact zW _ h2 (by rw[h6];rfl)
 simp only[h6,aG,aE,aS];unfold Iu;simp only[DE m.1 r h.gp hr,aA]
 cases hs:oR m.1 r with
 | inl c=>
  grind [yA]
 | inr ps=>
  have hgp:=Rj h.gp hs;simp only[aI,aN,aE,Az ps (Ri hgp),aA];by_cases hv:f9 ps=0;rotate_left
  ·grind
  have vM:=A7 (ov h.view);have zG:=A7 (ov hv)
  simp only[hv,aI,aN,aE,aJ,Az m.1 (Ri h.gp),AA _ (show (vv m.1).length<=1000 by omega),AA _ (show (vv ps).length<=1000 by omega),aA];have hbt:jQ.ae ((vv m.1).map (·.1),(vv ps).map (·.1),())=some (qy (dg m.1) (dg ps),()):=MI (dg m.1) (dg ps) (by have:=Al h.view;omega) (by grind [Al]);simp only[hbt,vQ ps hgp,aA];by_cases h4:r.1=4
  ·simp only[h4,aI,aN,aO,aE,aJ];cases hm:qy (dg m.1) (dg ps) <;> grind
  simp only[h4,aG,bZ,aO,aE,aS];by_cases h2:sU m.2.1 r.2.1 < 0
  ·grind
  simp only[h2,aG,aE,aS]
  rcases Gr m.2.1 r.2.1 with e | ⟨j,hj,e,ht⟩
  ·grind
  rw[e];simp only[aC];have ta:=Rk h.lo h.view hv;have Xd:=NI h.view hv;generalize qy (dg m.1) (dg ps)=list at ta Xd
  have:=ci (B:=λself v=>jG.b0 self (λz=>jG.q0 (m,r,()) (j:Int) list (list.length:Int) z) (m,r,()) (j:Int) list (list.length:Int) v) list (λ(s:List Buffer) (i:Int)=>(((ps,s,()):di),i)) (λ_ s c=>wP j s c) (J5 ps) (λi s=>HY T (List.length m.2.1) s) (by rw[au];omega)
   (λi hi s self hI=>by
    show jG.b0 _ _ _ _ _ _ _=_;unfold jG.b0 wP;have a_:(i:Int) < (list.length:Int):=by omega
    have YG:j < s.length:=by rw[hI.1];exact hj
    have aau:(j:Int) < (s.length:Int):=by omega
    have hb:=hI.2 _ (aP YG);simp only[a_,aau,aI,aO,aK,dE,aJ,aC,aB hi,aB YG,aA,xm,fL,Sw _ _ (show List.length (s[j]).2.1<=1048576 by grind) (λx hx=>HX h.hi (hb.2 x hx)) (HX h.hi (ta _ (aP hi)))]
    grind)
   (λi hi s s' hI hf=>MM hI (ta _ (aP hi)) hf) (λs self _=>by
    show jG.b0 _ _ _ _ _ _ _=_;unfold jG.b0;simp only[aU,aG,aE]
    rfl) m.2.1 ⟨rfl,h.buf⟩ k Bys
  exact this
theorem AG (c:Int):jX.ae (c,())=some (yj c,()):=by
 refine ah (k:=0) λk hk=>(jX.af k _).trans ?_;rfl
theorem We {T:Nat} {m:di} (r:bg) (h:vF T m):sg.ae (m,r,())=some (if sU m.2.1 r.2.1 < 0 then yj 4 else J6 m r,()):=by
 have Py:=h.bl;refine ah (k:=0) λk hk=>(sg.af k _).trans ?_;show sg.p _=_;unfold sg.p J6;simp only[Gq m _ (show List.length m.2.1<=1048576 by omega),AG,aA];by_cases h2:sU m.2.1 r.2.1 < 0
 ·grind
 simp only[h2,aG,aE,aS,Dg m h.Wd,aA]
 rcases Gr m.2.1 r.2.1 with e | ⟨j,hj,e,ht⟩
 ·grind
 rw[e,bh Bys];grind [cv,Int.toNat_natCast,List.take_length]
theorem Rl {T:Nat} {m:di} (r:bg) (h:vF T m) (hr:ru r=0):mB.ae (m,r,())=some (Iu m r,()):=by
 have Py:=h.bl;refine ah (k:=3000) λk hk=>(mB.af k _).trans ?_;unfold mB.p Iu;simp only[GB m.1 r h.gp,AG,aA]
 cases hs:oR m.1 r with
 | inl c=>
  grind [yA]
 | inr ps=>
  have hgp:=Rj h.gp hs;simp only[aI,aN,aE,I0 ps (Ri hgp),aA];by_cases hv:f9 ps=0;rotate_left
  ·grind
  simp only[hv,aI,aN,aE,aJ,Bq h.view,Bq hv,MK (dg m.1) (dg ps) (vw (ov h.view)) (vw (ov hv)) (by have:=Al h.view;omega) (by grind [Al]),Dg m h.Wd,Gq m _ (show List.length m.2.1<=1048576 by omega),aA];by_cases h4:r.1=4
  ·simp only[h4,aI,aO,aJ];cases hm:qy (dg m.1) (dg ps) <;> grind
  simp only[h4,aG,aE,aS];by_cases h2:sU m.2.1 r.2.1 < 0
  ·grind
  simp only[h2,aG,aE,aS]
  rcases Gr m.2.1 r.2.1 with e | ⟨j,hj,e,ht⟩
  ·grind
  rw[e];simp only[aC];have ta:=Rk h.lo h.view hv;have Xd:=NI h.view hv;generalize qy (dg m.1) (dg ps)=list at ta Xd
  have:=ci (B:=λself v=>mB.b0 self (λz=>mB.q0 (m,r,()) list (j:Int) z) (m,r,()) list (j:Int) v) list (λ(s:List Buffer) (i:Int)=>(((ps,s,()):di),i)) (λ_ s c=>wP j s c) (J5 ps) (λi s=>HY T (List.length m.2.1) s) (by rw[au];omega)
   (λi hi s self hI=>by
    show mB.b0 _ _ _ _ _ _=_;unfold mB.b0 wP;have a_:(i:Int) < (list.length:Int):=by omega
    have YG:j < s.length:=by rw[hI.1];exact hj
    have aau:(j:Int) < (s.length:Int):=by omega
    have hb:=hI.2 _ (aP YG);simp only[a_,aau,aI,aO,aK,dE,aJ,aC,aB hi,aB YG,aA,xm,fL,Sx _ _ (show List.length (s[j]).2.1<=1048576 by grind) (λx hx=>HX h.hi (hb.2 x hx)) (HX h.hi (ta _ (aP hi))),AG]
    grind)
   (λi hi s s' hI hf=>MM hI (ta _ (aP hi)) hf) (λs self _=>by
    show mB.b0 _ _ _ _ _ _=_;unfold mB.b0;simp only[aU,aG,aE]
    rfl) m.2.1 ⟨rfl,h.buf⟩ k Bys
  exact this
theorem SA {T:Nat} {m:di} (r:bg) (h:vF T m) (hr:ru r=0):su.ae (m,r,())=some (nA m r,()):=by
 have Py:=h.bl;refine ah (k:=0) λk hk=>(su.af k _).trans ?_;show su.p _=_;unfold su.p nA;simp only[hr,aJ,We r h,Rl r h hr,Gq m _ (show List.length m.2.1<=1048576 by omega),Dg m h.Wd,AG,aA];grind [cv]
end OT
namespace OT
open Go
def Og (T:Nat) (R:ng):Prop:=(R.1=0->vF T R.2.2.2.2.2.1)/\D9 T ((0:Int),R.2.2.2.2.1,())/\zz jN R.2.2.2.2.2.1<=2000*T
theorem YH {T:Nat} {c:Change} (h:LH T c):zz aq c<=2*T:=by
 have h1:zz aq c=0+((0+(0+(0+(List.length c.2.1.2.2.2.1+0))))+(0+((0+(0+(0+(List.length c.2.2.2.1.2.2.2.1+0))))+0))):=rfl;have:=h.1;have:=h.2
 omega
theorem LI {T:Nat}:∀ {xs:List Change},(∀ c ∈ xs,LH T c)->zz (.aa aq) xs<=(2*T+1)*xs.length
 | [],_=>aZ _
 | c::xs,h=>by
  have h1:zz (.aa aq) (c::xs)=zz aq c+1+zz (.aa aq) xs:=Tg (e:=aq) c xs;have h2:=YH (h c bB);have h3:=LI (xs:=xs) λx hx=>h x (aW _ hx);refine bG (fW h1) ?_;grind [Nat.mul_succ]
theorem YI {T:Nat} {b:Buffer} (h:D9 T b):zz ej b<=61*(2*T+1):=by
 have h1:zz ej b=0+(zz (.aa aq) b.2.1+0):=rfl;have h2:=LI h.2;have h3:(2*T+1)*List.length b.2.1<=(2*T+1)*61:=Nat.mul_le_mul_left _ h.1;omega
theorem LJ {T:Nat}:∀ {xs:List Buffer},(∀ b ∈ xs,D9 T b)->zz (.aa ej) xs<=(61*(2*T+1)+1)*xs.length
 | [],_=>aZ _
 | b::xs,h=>by
  have h1:zz (.aa ej) (b::xs)=zz ej b+1+zz (.aa ej) xs:=Tg (e:=ej) b xs;have h2:=YI (h b bB);have h3:=LJ (xs:=xs) λx hx=>h x (aW _ hx);refine bG (fW h1) ?_;grind [Nat.mul_succ]
theorem aav {T:Nat} {m:di} (h:vF T m):zz jN m<=2000*T:=by
 have h1:zz jN m=zz (.aa (.aa u8)) m.1+(zz (.aa ej) m.2.1+0):=rfl;have h2:=PY m.1 h.gp;have h3:=LJ h.buf;have h4:(61*(2*T+1)+1)*List.length m.2.1<=(61*(2*T+1)+1)*8:=Nat.mul_le_mul_left _ h.bl;have:=h.lo;omega
theorem uk {T:Nat} {k:Int} (hk:k≠0):Og T (yj k):=⟨λh=>absurd h hk,⟨aZ _,λ_ h=>by cases h⟩,aZ _⟩
theorem Iv {T:Nat} {m:di} {a b:Bool} {t:Int} {l:List Change} (h:vF T m) (hl:D9 T ((0:Int),l,())):Og T ((0:Int),a,b,t,l,m,()):=⟨λ_=>h,hl,aav h⟩
theorem NJ {T j n:Nat} {ps:bv} (wh:64<=T) (Ej:T<=1048576) (hv:f9 ps=0) (hn:n<=8):∀ (list:List Change) (i:Nat) (s:List Buffer),(∀ c ∈ list,LH T c)->HY T n s->Og T (bq (λ_ s c=>wP j s c) (J5 ps) i list s).1
 | [],i,s,_,h=>Iv ⟨wh,Ej,hv,by show s.length<=8;rw[h.1];exact hn,h.2⟩ ⟨aZ _,λ_ h=>by cases h⟩
 | c::list,i,s,hc,h=>by
  simp only[bq]
  cases hg:wP j s c with
  | inl o=>
   grind [wP,uk]
  | inr s'=>exact NJ wh Ej hv hn list (i+1) s' (λx hx=>hc x (aW _ hx)) (MM h (hc c bB) hg)
theorem Wf {T:Nat} {m:di} (r:bg) (h:vF T m):Og T (nA m r):=by
 have t6:D9 T ((0:Int),([]:List Change),()):=⟨aZ _,λ_ h=>by cases h⟩
 unfold nA;split;rotate_left
 ·grind [uk]
 rename_i hr;split
 ·split
  ·grind [uk]
  ·split
   ·grind [uk]
   ·rename_i h8;refine Iv ⟨h.lo,h.hi,h.view,?_,λb hb=>?_⟩ t6
    ·grind
    ·rcases bR.1 hb with hb | hb
     ·exact h.buf b hb
     grind
 split
 ·split
  ·grind [uk]
  ·unfold J6;split
   ·rename_i b hb;refine Iv ⟨h.lo,h.hi,h.view,?_,λy hy=>?_⟩ (h.buf b (bI hb))
    ·have:=h.bl;grind
    ·rcases bR.1 hy with hy | hy
     ·exact h.buf y (dU hy)
     ·exact h.buf y (cQ hy)
   grind [uk]
 unfold Iu
 cases hs:oR m.1 r with
 | inl c=>exact uk (yA hs)
 | inr ps=>
  simp only;split;rotate_left
  ·grind [uk]
  rename_i hv;split
  ·split
   ·exact Iv ⟨h.lo,h.hi,hv,h.bl,h.buf⟩ t6
   grind [uk]
  split
  ·grind [uk]
  exact NJ h.lo h.hi hv h.bl _ 0 _ (Rk h.lo h.view hv) ⟨rfl,h.buf⟩
theorem SB:vF 64 zD:=⟨aH _,by decide,by decide,aZ _,λ_ h=>by cases h⟩
end OT
namespace OT
open Go
abbrev aa7 (k:Int):ju:=(k,([]:List Buffer),zD,())
def nB (s:List Buffer×di) (r:bg):Sum ju (List Buffer×di):=if (nA s.2 r).1=0 then
    .inr (if (nA s.2 r).2.2.1 then (s.1++[((nA s.2 r).2.2.2.1,(nA s.2 r).2.2.2.2.1,())],(nA s.2 r).2.2.2.2.2.1) else (s.1,(nA s.2 r).2.2.2.2.2.1))
 else .inl (aa7 (nA s.2 r).1)
def uA (s:List Buffer×di):ju:=((0:Int),s.1,s.2,())
def tW (xs:List bg):ju:=bq (λ_ s r=>nB s r) uA 0 xs ([],zD)
def Gs (i:Nat) (s:List Buffer×di):Prop:=s.1.length<=i/\(∀ b ∈ s.1,D9 64 b)/\vF 64 s.2
theorem HZ {i:Nat} {s s':List Buffer×di} {r:bg} (h:Gs i s) (he:nB s r=.inr s'):Gs (i+1) s':=by
 obtain ⟨h1,h2,h3⟩:=h;have hg:=Wf r h3;unfold nB at he;split at he
 ·rename_i h0;injection he with he;subst he;split
  ·refine ⟨by simp only[bU,bM,cY];omega,λb hb=>?_,hg.1 h0⟩
   rcases bR.1 hb with hb | hb
   ·exact h2 b hb
   ·rw[bV] at hb;subst hb;exact hg.2.1
  ·exact ⟨Nat.le_succ_of_le h1,h2,hg.1 h0⟩
 ·cases he
theorem J7:Gs 0 ([],zD):=⟨aH _,λ_ h=>(by cases h),SB⟩
theorem LK:∀ (xs:List bg) (i:Nat) (s:List Buffer×di),Gs i s->((bq (λ_ s r=>nB s r) uA i xs s).1≠0/\(bq (λ_ s r=>nB s r) uA i xs s)=aa7 (bq (λ_ s r=>nB s r) uA i xs s).1)\/((bq (λ_ s r=>nB s r) uA i xs s).1=0/\Gs (i+xs.length) ((bq (λ_ s r=>nB s r) uA i xs s).2.1,(bq (λ_ s r=>nB s r) uA i xs s).2.2.1))
 | [],i,s,h=>.inr ⟨rfl,h⟩
 | r::xs,i,s,h=>by
  simp only[bq]
  cases hg:nB s r with
  | inl o=>
   left;unfold nB at hg;split at hg
   ·cases hg
   ·rename_i h0;injection hg with hg;subst hg;exact ⟨h0,rfl⟩
  | inr s'=>
   have:=LK xs (i+1) s' (HZ h hg);rw[bM,show i+(xs.length+1)=i+1+xs.length by omega];exact this
theorem SC (xs:List bg) (hx:xs.length<=1048576):qt.ae (xs,())=some ((tW xs).2.1,(tW xs).2.2.1,(tW xs).1,()):=by
 refine ah (k:=xs.length+1) λk hk=>(qt.af k _).trans ?_
 have:=ci (B:=λself v=>qt.b0 self (λz=>qt.q0 (xs,()) z) (xs,()) v) xs (λ(s:List Buffer×di) (i:Int)=>(s.1,s.2,i)) (λ_ s r=>match nB s r with | .inl o=>.inl (o.2.1,o.2.2.1,o.1,()) | .inr s'=>.inr s') (λs=>(s.1,s.2,(0:Int),())) Gs (by rw[au];omega)
  (λi hi s self hI=>by
   show qt.b0 _ _ _ _=_;unfold qt.b0 nB;have a_:(i:Int) < (xs.length:Int):=by omega
   have c1:∀ y:Buffer,s.1.length+[y].length<=b9:=λy=>cv (by have:=hI.1;simp only[bM,cY];omega);simp only[a_,aI,aO,aK,aJ,aC,aB hi,aA,Sz xs[i] hI.2.2,c1];by_cases h0:(nA s.2 xs[i]).1=0
   ·simp only[h0,aI,aN,aE,aJ];cases (nA s.2 xs[i]).2.2.1 <;> rfl
   ·simp only[h0,aG,bZ,aO,aS])
  (λi hi s s' hI hf=>by
   refine HZ (r:=xs[i]) hI ?_
   cases hg:nB s xs[i] with
   | inl o=>rw[hg] at hf;cases hf
   | inr q=>
    rw[hg] at hf;simp only at hf;injection hf with hf
    rw[hf]) (λs self _=>by
   show qt.b0 _ _ _ _=_;unfold qt.b0;simp only[aU,aG,aE]
   rfl) ([],zD) J7 k Bys
 have hq:∀ (xs:List bg) (i:Nat) (s:List Buffer×di),bq (λ_ s r=>match nB s r with | .inl o=>.inl (o.2.1,o.2.2.1,o.1,()) | .inr s'=>.inr s') (λs=>(s.1,s.2,(0:Int),())) i xs s=((bq (λ_ s r=>nB s r) uA i xs s).2.1,(bq (λ_ s r=>nB s r) uA i xs s).2.2.1,(bq (λ_ s r=>nB s r) uA i xs s).1,()):=by
  intro xs
  induction xs with
  | nil=>intro i s;rfl
  | cons r xs ih=>
   intro i s;simp only[bq]
   cases hg:nB s r with
   | inl o=>rfl
   | inr s'=>exact ih (i+1) s'
 rw[hq] at this;exact this
theorem SE (xs:List bg) (hx:xs.length<=1048576):o6.ae (xs,())=some (tW xs,()):=by
 refine ah (k:=xs.length+1) λk hk=>(o6.af k _).trans ?_
 have:=ci (B:=λself v=>o6.b0 self (λz=>o6.q0 (xs,()) z) (xs,()) v) xs (λ(s:List Buffer×di) (i:Int)=>(((0:Int),s.1,s.2,()),i)) (λ_ s r=>match nB s r with | .inl o=>.inl (o,()) | .inr s'=>.inr s') (λs=>(uA s,())) Gs (by rw[au];omega)
  (λi hi s self hI=>by
   show o6.b0 _ _ _ _=_;unfold o6.b0 nB;have a_:(i:Int) < (xs.length:Int):=by omega
   have c1:∀ y:Buffer,s.1.length+[y].length<=b9:=λy=>cv (by have:=hI.1;simp only[bM,cY];omega);simp only[a_,aI,aO,aK,aJ,aC,aB hi,aA,Fz,c1];by_cases hr:ru xs[i]=0
   ·simp only[hr,aI,aN,aE,SA xs[i] hI.2.2 hr,aA];by_cases h0:(nA s.2 xs[i]).1=0
    ·simp only[h0,aI,aN,aE,aJ];cases (nA s.2 xs[i]).2.2.1 <;> rfl
    ·simp only[h0,aG,bZ,aO,aS]
   ·have hs:nA s.2 xs[i]=yj (ru xs[i]):=by rw[nA,aV hr]
    simp only[hs,hr,aG,bZ,aO,aS])
  (λi hi s s' hI hf=>by
   refine HZ (r:=xs[i]) hI ?_
   cases hg:nB s xs[i] with
   | inl o=>rw[hg] at hf;cases hf
   | inr q=>
    rw[hg] at hf;simp only at hf;injection hf with hf
    rw[hf]) (λs self _=>by
   show o6.b0 _ _ _ _=_;unfold o6.b0;simp only[aU,aG,aE]
   rfl) ([],zD) J7 k Bys
 have hq:∀ (xs:List bg) (i:Nat) (s:List Buffer×di),bq (λ_ s r=>match nB s r with | .inl o=>.inl (o,()) | .inr s'=>.inr s') (λs=>(uA s,())) i xs s=(bq (λ_ s r=>nB s r) uA i xs s,()):=by
  intro xs
  induction xs with
  | nil=>intro i s;rfl
  | cons r xs ih=>
   intro i s;simp only[bq]
   cases hg:nB s r with
   | inl o=>rfl
   | inr s'=>exact ih (i+1) s'
 rw[hq] at this;exact this
end OT
namespace OT
open Go
theorem adl {c:Change} (hc:om c=0) (h:c.1=true):rk c.2.1=ck c/\ly c.2.1=0:=by
 unfold om at hc;rw[h] at hc;unfold ck
 cases hi:c.2.2.1 with
 | false=>
  rw[hi] at hc;simp only[aN,bZ,Bool.false_and,Bool.and_true,dV,Bool.and_false,fU,aF,aS] at hc;refine ⟨rfl,?_⟩
  grind
 | true=>
  rw[hi] at hc;simp only[aN,Bool.false_and,fL,dV,dP] at hc;split at hc
  ·cases hc
  ·rename_i hn;have hs:sameKey c.2.1 c.2.2.2.1=true:=by simpa using hn
   rw[FU] at hs;refine ⟨of_decide_eq_true hs,?_⟩
   grind
theorem ab6 {x c:Change} (hx:om x=0) (hc:om c=0) (hk:ck x=ck c) (hg:Gn (xW x c)=false):om (xW x c)=0:=by
 grind [Gn,xW,om,sE,adl,FU]
theorem aaw {cs r:List Change} {c:Change} (h:rO cs c=some r) (h1:∀ x ∈ cs,om x=0) (h2:om c=0):∀ x ∈ r,om x=0:=λy hy=>by
 unfold rO at h;split at h
 ·grind
 ·rename_i x hx;split at hx;rotate_left
  ·cases hx
  rename_i hf;split at h
  ·cases h
  ·split at h
   ·grind
   ·rename_i hg;injection h with h;subst h;rcases dK hy with hy | hy
    ·exact h1 y hy
    ·rw[hy];refine ab6 (h1 x (bI hx)) h2 ?_ (by simpa using hg);obtain ⟨hp,hr⟩:=zp hf;grind [pC,wL]
def Jk (s:List Buffer):Prop:=∀ b ∈ s,∀ c ∈ (b.2.1:List Change),om c=0
theorem ab7 {j:Nat} {s s':List Buffer} {c:Change} (h:Jk s) (he:wP j s c=.inr s'):Jk s':=λy hy=>by
 unfold wP at he;split at he
 ·rename_i b hb;split at he
  ·rename_i h0;injection he with he;subst he;rcases dK hy with hy | rfl
   ·exact h y hy
   ·have hbm:=h b (bI hb);unfold AF at h0 ⊢;grind [AY,aaw]
  ·cases he
 ·cases he
theorem T5 {j:Nat} {ps:bv}:∀ (list:List Change) (i:Nat) (s:List Buffer),Jk s->(bq (λ_ s c=>wP j s c) (J5 ps) i list s).1.1=0->(bq (λ_ s c=>wP j s c) (J5 ps) i list s).1.2.2.2.2.2.1.1=ps/\Jk (bq (λ_ s c=>wP j s c) (J5 ps) i list s).1.2.2.2.2.2.1.2.1
 | [],i,s,h,_=>⟨rfl,h⟩
 | c::list,i,s,h,h0=>by
  simp only[bq] at h0 ⊢
  cases hg:wP j s c with
  | inr s'=>rw[hg] at h0;exact T5 list (i+1) s' (ab7 h hg) h0
  | inl o=>
   grind [wP]
theorem YJ {m:di} {r:bg} (hc:Jk m.2.1) (h0:(nA m r).1=0):oR m.1 r=.inr (nA m r).2.2.2.2.2.1.1/\Jk (nA m r).2.2.2.2.2.1.2.1:=by
 have aa8:ru r=0->r.1=1\/r.1=5\/r.1=6->oR m.1 r=.inr m.1:=λhr hk=>by
  grind [oR,lD]
 unfold nA at h0 ⊢;by_cases hr:ru r=0;rotate_left
 ·grind
 rw[aR hr] at h0 ⊢;by_cases h1:r.1=1
 ·rw[aR h1] at h0 ⊢;split at h0
  ·grind
  ·rename_i ha;rw[aV ha];split at h0
   ·grind
   ·rename_i hb;rw[aV hb];refine ⟨aa8 hr (.inl h1),λb vN=>?_⟩
    rcases bR.1 vN with vN | vN
    ·exact hc b vN
    grind
 rw[aV h1] at h0 ⊢;by_cases h5:r.1=5\/r.1=6
 ·rw[aR h5] at h0 ⊢;split at h0
  ·grind
  ·rename_i ha;rw[aV ha];unfold J6 at h0 ⊢;split at h0
   ·refine ⟨aa8 hr (.inr h5),λy hy=>?_⟩
    rcases bR.1 hy with hy | hy
    ·exact hc y (dU hy)
    ·exact hc y (cQ hy)
   grind
 rw[aV h5] at h0 ⊢;unfold Iu at h0 ⊢
 cases hs:oR m.1 r with
 | inl c=>grind [yA]
 | inr ps=>
  rw[hs] at h0;simp only at h0 ⊢;by_cases hv:f9 ps=0;rotate_left
  ·grind
  rw[aR hv] at h0 ⊢;by_cases h4:r.1=4
  ·grind
  ·rw[aV h4] at h0 ⊢;split at h0
   all_goals simp_all [aV,aa6,T5]
theorem H6:∀ (xs:List bg) (i j:Nat) (s:List Buffer×di),Jk s.2.2.1->(bq (λ_ s r=>nB s r) uA i xs s).1=0 ->
  bq (λ_ ps r=>match oR ps r with | .inl c=>.inl (([]:l_),c,()) | .inr vR=>.inr vR) (λps=>(ps,(0:Int),())) j xs s.2.1=((bq (λ_ s r=>nB s r) uA i xs s).2.2.1.1,(0:Int),())/\Jk (bq (λ_ s r=>nB s r) uA i xs s).2.2.1.2.1
 | [],i,j,s,h,_=>⟨rfl,h⟩
 | r::xs,i,j,s,h,h0=>by
  simp only[bq] at h0 ⊢;unfold nB at h0 ⊢;by_cases hz:(nA s.2 r).1=0;rotate_left
  ·grind
  rw[aR hz] at h0 ⊢;obtain ⟨e1,e2⟩:=YJ h hz;rw[e1];simp only at h0 ⊢
  cases hb:(nA s.2 r).2.2.1 with
  | true=>
   rw[hb] at h0;exact H6 xs (i+1) (j+1) (s.1++[((nA s.2 r).2.2.2.1,(nA s.2 r).2.2.2.2.1,())],(nA s.2 r).2.2.2.2.2.1) e2 h0
  | false=>
   rw[hb] at h0;exact H6 xs (i+1) (j+1) (s.1,(nA s.2 r).2.2.2.2.2.1) e2 h0
theorem Gt {xs:List bg} (h:(tW xs).1=0):zk xs=((tW xs).2.2.1.1,(0:Int),())/\Jk (tW xs).2.2.1.2.1/\vF 64 (tW xs).2.2.1:=by
 obtain ⟨e1,e2⟩:=H6 xs 0 0 ([],zD) (λb hb=>by cases hb) h;refine ⟨e1,e2,?_⟩
 rcases LK xs 0 ([],zD) J7 with g | g
 ·exact absurd h g.1
 ·exact g.2.2.2
def EH:List Buffer->bi->Sum Int bi
 | [],s=>.inr s
 | b::bs,s=>match uz s b with
  | .inl c=>.inl c
  | .inr s'=>EH bs s'
def zE (l:Log):Log:=(l.1++l.2.1,[],())
theorem Gu {O:Type} {K:Int->O} {fin:bi->O}:∀ (bs:List Buffer) (i:Nat) (s:bi),bq (λ_ s b=>match uz s b with | .inl c=>.inl (K c) | .inr s'=>.inr s') fin i bs s=match EH bs s with | .inl c=>K c | .inr s'=>fin s'
 | [],i,s=>rfl
 | b::bs,i,s=>by
  simp only[bq,EH]
  cases h:uz s b with
  | inl c=>rfl
  | inr s'=>exact Gu bs (i+1) s'
def wQ (s:bi):nf:=if xN s=0 then (if s.1 then De 8 else (if (tW (qB s.2.2.1)).1=0 then
    (match EH (tW (qB s.2.2.1)).2.2.1.2.1 (true,(tW (qB s.2.2.1)).2.2.1.1,s.2.2.1,([]:List Tx),s.2.2.2.2.1,()) with
     | .inl c=>De c
     | .inr s'=>((0:Int),(0:Int),(s'.1,s'.2.1,zE s'.2.2.1,s'.2.2.2),())) else De (tW (qB s.2.2.1)).1)) else De (xN s)
theorem Gv {s:bi} (h:xN s=0):zy s.2.2.1=0:=by
 grind [xN]
def Wg (n:Int) (s:bi):Prop:=wk (s.2.1,s.2.2.1)/\s.2.2.2.1=[]
theorem LL {n:Int}:∀ (bs:List Buffer) (s s':bi),Wg n s->Jk bs->(∀ b ∈ bs,D9 64 b)->EH bs s=.inr s'->Wg n s'
 | [],s,s',h,_,_,e=>by injection e with e;grind
 | b::bs,s,s',h,hc,hb,e=>by
  simp only[EH] at e
  cases NK:uz s b with
  | inl c=>grind
  | inr s1=>
   rw[NK] at e;obtain ⟨g1,g2,g3⟩:=Gk h.1 (hc b bB) (by grind) NK;exact LL bs s1 s' ⟨g1,by rw[g3];exact h.2⟩ (λx hx=>hc x (aW _ hx)) (λx hx=>hb x (aW _ hx)) e
theorem ab8 {l:Log} (h:rA l<=16000):pZ.ae (l,())=some (zE l,()):=by
 unfold rA at h;refine ah (k:=0) λk _=>(pZ.af k _).trans ?_;unfold pZ.p
 have ha:sP.ae (l,())=some (l.1++l.2.1,()):=by
  refine ah (k:=0) λk hk=>(sP.af k _).trans ?_;grind [sP.p,mY,cv]
 rw[ha];rfl
theorem SF {l:Log} (h:rA l<=16000):ua.ae (l,())=some (zE l,()):=by
 unfold rA at h;refine ah (k:=0) λk _=>(ua.af k _).trans ?_;unfold ua.p;rw[nr _ (by grind)];simp only[aA];rw[aR (cv (by grind))];rfl
theorem Rm {l:Log}:rA (zE l)=rA l:=by
 unfold rA zE;simp
theorem MN {s:bi} (h:QY s):jf.ae (s,())=some (wQ s,()):=by
 refine ah (k:=20) λk hk=>(jf.af k _).trans ?_;unfold jf.p wQ;rw[QZ h];simp only[aA];by_cases h0:xN s=0;rotate_left
 ·grind
 simp only[h0,aI,aN,aE,aJ]
 cases hu:s.1 with
 | true=>rfl
 | false=>
  have Rn:=Gv h0;have hw:=yD Rn;have yM:=Dd Rn;simp only[aE,aF,aS];rw[Je Rn];simp only[aA];rw[SC _ Bys];simp only[aA];by_cases hm:(tW (qB s.2.2.1)).1=0;rotate_left
  ·grind
  simp only[hm,aI,aN,aE,aJ];obtain ⟨r1,r2,r3⟩:=Gt hm;rw[IQ _ (by rw[au];omega),r1];simp only[aA,aI,aN,aE];rw[vQ _ r3.gp];simp only[aA];rw[TR s.2.2.1 (by grind) (by grind)];simp only[aA]
  obtain ⟨m,Dl⟩:∃ m,m=(tW (qB s.2.2.1)).2.2.1:=⟨_,rfl⟩
  rw[<-Dl] at r2 r3 ⊢
  have:=ci (B:=λself v=>jf.b0 self (jf.q0 (s,()) m.2.1 (List.length m.2.1:Int)) (s,()) m.2.1 (List.length m.2.1:Int) v) m.2.1 (λ(s:bi) (i:Int)=>(s,i))
   (λ_ s b=>match uz s b with | .inl c=>.inl (De c,()) | .inr s'=>.inr s') (λs'=>(((0:Int),(0:Int),(s'.1,s'.2.1,zE s'.2.2.1,s'.2.2.2),()),())) (λ_ s'=>Wg 0 s') (by have:=r3.bl;rw[au];omega)
   (λi hi s' self hI=>by
    unfold jf.b0;have a_:(i:Int) < (List.length m.2.1:Int):=by omega
    have rP:=aP hi;simp only[a_,aI,aO,aK,aJ,aC,aB hi,aA];obtain ⟨r,q1,q2⟩:=Rb hI.1 (r2 _ rP) (by have:=(r3.buf _ rP).1;omega) (λc hc=>HX Bys ((r3.buf _ rP).2 c hc))
    grind)
   (λi hi s' s1 hI hf=>by
    have rP:=aP hi
    cases NK:uz s' m.2.1[i] with
    | inl c=>grind
    | inr s2=>
     rw[NK] at hf;injection hf with hf;subst hf;obtain ⟨g1,g2,g3⟩:=Gk hI.1 (r2 _ rP) (by have:=(r3.buf _ rP).1;omega) NK
     exact ⟨g1,by rw[g3];exact hI.2⟩) (λs' self hI=>by
    unfold jf.b0;rw[bC (aU _),aE];unfold jf.q0;rw[ab8 hI.1.2];simp only[aA];rw[abX (s:=(s'.1,s'.2.1,zE s'.2.2.1,s'.2.2.2)) ⟨hI.1.1,by show rA (zE _)<=_;rw[Rm];exact hI.1.2⟩ (by show EC s'.2.2.2.1;rw[hI.2];exact ⟨aZ _,λx hx=>by cases hx⟩)]
    rfl) (true,m.1,s.2.2.1,([]:List Tx),s.2.2.2.2.1,()) ⟨⟨r3.view,hw.1⟩,rfl⟩ k (by have:=r3.bl;omega)
  refine aL this ?_;rw[Gu (K:=λc=>(De c,()))];grind
theorem MO {s:bi} (h:QY s):jt.ae (s,())=some (wQ s,()):=by
 refine ah (k:=20) λk hk=>(jt.af k _).trans ?_;unfold jt.p wQ;rw[MG h];simp only[aA,TX];by_cases h0:xN s=0;rotate_left
 ·grind
 simp only[h0,aI,aN,aE,aJ]
 cases hu:s.1 with
 | true=>rfl
 | false=>
  have Rn:=Gv h0;have hw:=yD Rn;have yM:=Dd Rn;simp only[aE,aF,aS];rw[Jf Rn];simp only[aA];rw[SE _ Bys];simp only[aA];by_cases hm:(tW (qB s.2.2.1)).1=0;rotate_left
  ·grind
  simp only[hm,aI,aN,aE,aJ];obtain ⟨r1,r2,r3⟩:=Gt hm;rw[aak hw.1];simp only[aA]
  obtain ⟨M,hMe⟩:∃ M,M=tW (qB s.2.2.1):=⟨_,rfl⟩
  rw[<-hMe] at r2 r3 ⊢
  have:=ci (B:=λself v=>jt.b0 self (jt.q0 (s,()) M) (s,()) M v) M.2.2.1.2.1 (λ(s:bi) (i:Int)=>(s,i))
   (λ_ s b=>match uz s b with | .inl c=>.inl (De c,()) | .inr s'=>.inr s') (λs'=>(((0:Int),(0:Int),(s'.1,s'.2.1,zE s'.2.2.1,s'.2.2.2),()),())) (λ_ s'=>Wg 0 s') (by have:=r3.bl;rw[au];omega)
   (λi hi s' self hI=>by
    unfold jt.b0;have a_:(i:Int) < (List.length M.2.2.1.2.1:Int):=by omega
    have rP:=aP hi;simp only[a_,aI,aO,aK,aJ,aC,aB hi,aA];obtain ⟨r,q1,q2⟩:=Rc hI.1 (r2 _ rP) (by have:=(r3.buf _ rP).1;omega)
    grind [TX])
   (λi hi s' s1 hI hf=>by
    have rP:=aP hi
    cases NK:uz s' M.2.2.1.2.1[i] with
    | inl c=>grind
    | inr s2=>
     rw[NK] at hf;injection hf with hf;subst hf;obtain ⟨g1,g2,g3⟩:=Gk hI.1 (r2 _ rP) (by have:=(r3.buf _ rP).1;omega) NK
     exact ⟨g1,by rw[g3];exact hI.2⟩) (λs' self hI=>by
    unfold jt.b0;rw[bC (aU _),aE];unfold jt.q0;rw[SF hI.1.2]
    rfl) (true,M.2.2.1.1,s.2.2.1,([]:List Tx),s.2.2.2.2.1,()) ⟨⟨r3.view,hw.1⟩,rfl⟩ k (by have:=r3.bl;omega)
  refine aL this ?_;rw[Gu (K:=λc=>(De c,()))];grind
theorem NX {s:bi}:zz fx (wQ s)<=17000:=by
 have Wh:∀ c,zz fx (De c)<=17000:=λc=>bG (fW (show zz fx (De c)=0 from rfl)) (aZ _);unfold wQ;split
 ·rename_i h0;split
  ·exact Wh _
  ·split
   ·rename_i hm;obtain ⟨r1,r2,r3⟩:=Gt hm;have hw:=yD (Gv h0);split
    ·exact Wh _
    ·rename_i s' hb;have hI:=LL (n:=0) _ (true,(tW (qB s.2.2.1)).2.2.1.1,s.2.2.1,([]:List Tx),s.2.2.2.2.1,()) s' ⟨⟨r3.view,hw.1⟩,rfl⟩ r2 r3.buf hb
     have hz:∀ (c v:Int) (x:bi),zz fx (c,v,x,())=zz cw x:=λc v x=>by
      show 0+(0+(zz cw x+0))=_;omega
     refine bG (fW (hz _ _ _)) ?_;have:=abY (s':=(s'.1,s'.2.1,zE s'.2.2.1,s'.2.2.2)) ⟨hI.1.1,by show rA (zE _)<=_;rw[Rm];exact hI.1.2⟩;have h3:zz (.aa df) s'.2.2.2.1=0:=by rw[hI.2];rfl
     grind
   ·exact Wh _
 ·exact Wh _
end OT
namespace OT
open Go
theorem Iw (v:fa.A) (hv:Xc fa.ps v):fa.ae v=some (true,()):=by
 obtain ⟨s,⟨⟩⟩:=v;obtain ⟨adm,_⟩:=hv;refine ah (k:=0) λk _=>(fa.af k _).trans ?_;show fa.p _=_;unfold fa.p;simp only[Vo s 1048576 adm (show (0:Int)<=1048576 by omega) Bys,aA];by_cases AK:((zz cw s:Nat):Int)<=1048576;rotate_left
 ·have:nH (1048576) (zz cw s)=-1:=aV AK;simp only[this];rfl
 have e1:nH (1048576) (zz cw s)=1048576 - ((zz cw s:Nat):Int):=aR AK;have n1:¬ (1048576 - ((zz cw s:Nat):Int) < 0):=by omega
 have h1:QY s:=aaj adm Bys;have hR:=NX (s:=s);have hB:mS=4611686018427387904:=rfl;obtain ⟨k',y,a1,a2,a3,a4⟩:=NU (wQ s) 1 Bys Bys;obtain ⟨l1,w1,b1,c1,d1⟩:=abH s 1 Bys Bys;simp only[e1,n1,aG,aE,Vp s Bys,MO h1,MN h1,Hl (wQ s) Bys,a1,a2,show ¬ k' < 0 by omega,Hk s Bys,b1,show ¬ l1 < 0 by omega,aA,aN,aI,aO]
end OT
