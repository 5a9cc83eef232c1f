/- The proof's parts, merged: Records read  the program s way and the reference s way give the same  conditions on the lengths alone.. No conditions but those that each states. -/
import Derived.Test.YtljankkghppaiaaGreatQg
set_option linter.unusedVariables false
set_option linter.unusedSimpArgs false
namespace OT
open Go
def at8 (D:List UInt8) (i:Nat):Nat:=(D.getD i 0).toNat
theorem at8_lt (D:List UInt8) (i:Nat):at8 D i < 256:=jO _
theorem at8_get {D:List UInt8} {i:Nat} (h:i < D.length):D[i]?=some D[i]/\(D[i]).toNat=at8 D i:=⟨aA h,by simp[at8,h]⟩
def piece (D:List UInt8) (at' n:Nat):Run:=((at8 D at':Int),(D.take (at'+2+n)).drop (at'+2),())
def pI (D:List UInt8) (e:Nat):Nat->Nat->List Run->Option (List Run×Nat)
 | 0,a,rs=>some (rs,a)
 | c+1,a,rs=>if e < a+2 then none else if e < a+2+at8 D (a+1) then none else pI D e c (a+2+at8 D (a+1)) (rs++[piece D a (at8 D (a+1))])
def pS (D:List UInt8):Nat->Nat->List Run->List Run
 | 0,_,rs=>rs
 | c+1,a,rs=>if a+2<=D.length then (if D.length < a+2+at8 D (a+1) then rs else pS D c (a+2+at8 D (a+1)) (rs++[piece D a (at8 D (a+1))])) else rs
theorem pI_pS {D:List UInt8} {e:Nat} (he:e<=D.length):∀ (c a:Nat) (rs rs':List Run) (a':Nat),pI D e c a rs=some (rs',a')->pS D c a rs=rs'
 | 0,a,rs,rs',a',h=>by injection h with h;injection h
 | c+1,a,rs,rs',a',h=>by
  simp only[pI] at h;split at h
  ·cases h
  ·split at h
   ·cases h
   ·simp only[pS];rw[aV (by omega),aY (by omega)];exact pI_pS he c _ _ _ _ h
theorem pI_pack {e:Nat}:∀ (ys:List Run) (pre suf:List UInt8) (rs:List Run),(∀ y ∈ ys,0<=y.1/\y.1<=63/\1<=bl y/\bl y<=64)->pre.length+(flatR ys).length<=e ->
  pI (pre++flatR ys++suf) e ys.length pre.length rs=some (rs++ys,pre.length+(flatR ys).length)
 | [],pre,suf,rs,_,_=>by simp[pI,flatR]
 | y::ys,pre,suf,rs,h,he=>by
  obtain ⟨b1,b2,b3,b4⟩:=h y (by simp);unfold bl at b3 b4;have hD:pre++flatR (y::ys)++suf=(pre++flat1 y)++flatR ys++suf:=by rw[flatR_cons];simp only[bL]
  have hf1:(flat1 y).length=2+List.length y.2.1:=by simp only[flat1,aP];omega
  have hfl:(flatR (y::ys)).length=2+List.length y.2.1+(flatR ys).length:=by rw[flatR_cons,aU,hf1]
  have h8:∀ n:Int,0<=n->n<=64->((UInt8.ofInt n).toNat:Int)=n:=fun n h1 h2=>by
   simp[UInt8.ofInt,gB];omega
  have g0:(at8 (pre++flatR (y::ys)++suf) pre.length:Int)=y.1:=by
   unfold at8;rw[flatR_cons];simp only[flat1,bL,eV];rw[bR (aK _)]
   simpa using h8 y.1 b1 (by omega)
  have g1:at8 (pre++flatR (y::ys)++suf) (pre.length+1)=List.length y.2.1:=by
   unfold at8;rw[flatR_cons];simp only[flat1,bL,eV];rw[bR (by omega)];have:=h8 (List.length y.2.1:Int) (by omega) b4;simp only[gW,dD,fE,eB,Option.getD_some];omega
  have g2:piece (pre++flatR (y::ys)++suf) pre.length (List.length y.2.1)=y:=by
   obtain ⟨yi,yb,⟨⟩⟩:=y;unfold piece;have g0:(at8 (pre++flatR ((yi,yb,())::ys)++suf) pre.length:Int)=yi:=g0;rw[g0]
   have:((pre++flatR ((yi,yb,())::ys)++suf).take (pre.length+2+yb.length)).drop (pre.length+2)=yb:=by
    rw[flatR_cons];simp only[flat1,bL,dD];rw[List.take_append,gN];have e1:List.take (pre.length+2+yb.length) pre=pre:=gY (by omega);have e2:pre.length+2+yb.length - pre.length=yb.length+1+1:=by omega
    rw[e1,e2];have e3:List.drop (pre.length+2) pre=[]:=dV (by omega);have e4:pre.length+2 - pre.length=1+1:=by omega
    rw[e3,e4];simp
   show (yi,((pre++flatR ((yi,yb,())::ys)++suf).take (pre.length+2+yb.length)).drop (pre.length+2),())=(yi,yb,())
   rw[this]
  simp only[aP,pI];rw[aY (by omega),g1,aY (by omega),g2,hD];have hl:(pre++flat1 y).length=pre.length+2+List.length y.2.1:=by rw[aU,hf1];omega
  have:=pI_pack (e:=e) ys (pre++flat1 y) suf (rs++[y]) (fun z hz=>h z (by simp[hz])) (by rw[hl];omega);rw[hl] at this;rw[this,hfl];simp only[bL,dD,cH];congr 2;omega
def readF (d:List UInt8):Option (Record×Nat):=
 if d.length < 7\/at8 d 0 < 7\/d.length < at8 d 0 then none else
 match pI (d.take (at8 d 0)) (at8 d 0 - 2) (at8 d 4) 5 [] with
 | none=>none
 | some (rs,a)=>if a=at8 d 0 - 2/\recF ((at8 d 1:Int),(at8 d 2:Int),(at8 d 3:Int),rs,())=0/\packF ((at8 d 1:Int),(at8 d 2:Int),(at8 d 3:Int),rs,())=d.take (at8 d 0) then
   some (((at8 d 1:Int),(at8 d 2:Int),(at8 d 3:Int),rs,()),at8 d 0) else none
theorem at8_take {d:List UInt8} {n i:Nat} (h:i < n) (hn:n<=d.length):at8 (d.take n) i=at8 d i:=by
 unfold at8;simp only[eV];rw[bF,aV h]
theorem pS_pI {D:List UInt8} (hl:7<=D.length) {rs:List Run} (hrs:pS D (at8 D 4) 5 []=rs) {k t p:Int} (hr:recF (k,t,p,rs,())=0) (hp:packF (k,t,p,rs,())=D):pI D (D.length - 2) (at8 D 4) 5 []=some (rs,D.length - 2):=by
 have hg:=recF_good hr;have h1:=hg.2.2.2.2.2.2.1;have h2:=hg.2.2.2.2.2.2.2;simp only at h1 h2;have hlen:=packF_len (k,t,p,rs,());rw[hp] at hlen;simp only at hlen
 have hshape:∃ (pre suf:List UInt8),pre.length=5/\D=pre++flatR rs++suf/\pre[4]?=some (UInt8.ofInt (List.length rs:Int)):=by
  refine ⟨(head5 (k,t,p,rs,())).set 0 (UInt8.ofInt (w64 (((head5 (k,t,p,rs,())++flatR rs).length:Int)+2))),[UInt8.ofInt ((sumP 1 (hdP (k,t,p,rs,()))) / 256),UInt8.ofInt (sumP 1 (hdP (k,t,p,rs,())))],by simp[head5],?_,by simp[head5]⟩
  rw[<-hp];rfl
 obtain ⟨pre,suf,s1,s2,s3⟩:=hshape
 have h4:at8 D 4=List.length rs:=by
  unfold at8;rw[s2];simp only[eV,bL];rw[bX (by omega),s3];simp[UInt8.ofInt,gB];omega
 rw[h4];have:=pI_pack (e:=D.length - 2) rs pre suf [] h2 (by omega);rw[<-s2,s1] at this;rw[this];simp only[cH];congr 2;omega
theorem w64_nat {n:Nat} (h:n<=4000000000):w64 (n:Int)=(n:Int):=w64_in (by omega)
theorem equal_eq (a b:List UInt8) (h:a.length<=100000):slices_Equal_byte.sem (a,b,())=some (decide (a=b),()):=by
 refine lift_eq (k:=100001) fun k hk=>(slices_Equal_byte.raw_eq k _).trans ?_;unfold slices_Equal_byte.p;by_cases hl:a.length=b.length;rotate_left
 ·have h1:¬ ((a.length:Int)=(b.length:Int)):=by omega
  have h2:¬ a=b:=fun e=>hl (by rw[e]);simp only[h1,h2,aF,bG,aL]
 have hl':(a.length:Int)=(b.length:Int):=by omega
 simp only[hl',aE,aQ,aG]
 have key:∀ (m i:Nat),a.length - i=m->i<=a.length->∀ j,m < j->rawIter (fun self v=>slices_Equal_byte.B0 k self (fun z=>slices_Equal_byte.Q0 k (a,b,()) z) (a,b,()) v) j (i:Int)=some (decide (a.drop i=b.drop i),()):=by
  intro m
  induction m with
  | zero=>
   intro i hm hi j hj;have:i=a.length:=by omega
   subst this
   cases j with
   | zero=>omega
   | succ j=>
    show slices_Equal_byte.b0 _ _ _ _=_;unfold slices_Equal_byte.b0;simp only[bP,aF,aG,slices_Equal_byte.Q0,slices_Equal_byte.q0];rw[List.drop_length,hl,List.drop_length];simp
  | succ m ih=>
   intro i hm hi j hj;have hlt:i < a.length:=by omega
   cases j with
   | zero=>omega
   | succ j=>
    show slices_Equal_byte.b0 _ _ _ _=_;unfold slices_Equal_byte.b0;have hlti:(i:Int) < (a.length:Int):=by omega
    have hlb:i < b.length:=by omega
    have hw:w64 ((i:Int)+1)=((i+1:Nat):Int):=by rw[w64_in (by omega)];omega
    simp only[hlti,aE,aL,aN,aH,aI,aA hlt,aA hlb,aB,hw];rw[dA hlt,dA hlb];by_cases he:a[i]=b[i]
    ·simp only[he,aE,aQ,aG,cT,dZ];exact ih (i+1) (by omega) (by omega) j (by omega)
    ·have:¬ (((a[i]).toNat:Int)=((b[i]).toNat:Int)):=fun e=>he (jM.1 (by omega));have h2:¬ (a[i]::a.drop (i+1)=b[i]::b.drop (i+1)):=fun e=>he (by injection e);simp only[this,h2,aF,bG,aL]
 have:=key a.length 0 (by omega) (by omega) k (by omega);simp only[eZ] at this;exact this
def zeroR:Record:=((0:Int),(0:Int),(0:Int),([]:List Run),())
theorem parseI_eq {D:List UInt8} (hD:7<=D.length) (hD2:D.length<=255) {a1:impl_read.Arg} {e0:(Record×Int)->Option impl_read.Out} {K T P N:Int} (hN:0<=N/\N<=255) {k:Nat} :
  ∀ (c a i:Nat) (rs:List Run),(i:Int)+c=N->a<=D.length - 2->rs.length<=i->∀ j,c < j ->
   rawIter (fun self v=>impl_read.B0 k self e0 a1 D ((D.length - 2:Nat):Int) N v) j ((K,T,P,rs,()),(a:Int),(i:Int))=match pI D (D.length - 2) c a rs with
    | none=>some (zeroR,(0:Int),())
    | some (rs',a')=>e0 ((K,T,P,rs',()),(a':Int)):=by
 intro c
 induction c with
 | zero=>
  intro a i rs hi ha hrs j hj
  cases j with
  | zero=>omega
  | succ j=>
   show impl_read.b0 _ _ a1 _ _ _ _=_;unfold impl_read.b0;have:¬ (i:Int) < N:=by omega
   simp only[this,aF,aG,pI]
 | succ c ih=>
  intro a i rs hi ha hrs j hj
  cases j with
  | zero=>omega
  | succ j=>
   show impl_read.b0 _ _ a1 _ _ _ _=_;unfold impl_read.b0;have h1:(i:Int) < N:=by omega
   have e1:w64 ((a:Int)+2)=((a+2:Nat):Int):=by rw[w64_in (by omega)];omega
   have e2:w64 ((a:Int)+1)=((a+1:Nat):Int):=by rw[w64_in (by omega)];omega
   have e3:w64 ((i:Int)+1)=((i+1:Nat):Int):=by rw[w64_in (by omega)];omega
   simp only[h1,aE,aL,e1,e2,e3,pI];by_cases h2:D.length - 2 < a+2
   ·have:((D.length - 2:Nat):Int) < ((a+2:Nat):Int):=by omega
    simp only[this,aE,aL,aV h2];rfl
   have h2':¬ ((D.length - 2:Nat):Int) < ((a+2:Nat):Int):=by omega
   obtain ⟨g1,g2⟩:=at8_get (show a+1 < D.length by omega);obtain ⟨g3,g4⟩:=at8_get (show a < D.length by omega);have hb:=at8_lt D (a+1);have hb2:=at8_lt D a;simp only[h2',aF,aG,aY h2,aN,aH,aI,g1,g3,aB,g2,g4,w64_nat (show at8 D (a+1)<=4000000000 by omega),w64_nat (show at8 D a<=4000000000 by omega)];have e4:w64 (((a+2:Nat):Int)+(at8 D (a+1):Int))=((a+2+at8 D (a+1):Nat):Int):=by rw[w64_in (by omega)];omega
   have e5:w64 ((2:Int)+(at8 D (a+1):Int))=((2+at8 D (a+1):Nat):Int):=by rw[w64_in (by omega)];omega
   have e6:w64 ((a:Int)+((2+at8 D (a+1):Nat):Int))=((a+2+at8 D (a+1):Nat):Int):=by rw[w64_in (by omega)];omega
   simp only[e4,e5,e6];by_cases h3:D.length - 2 < a+2+at8 D (a+1)
   ·have:((D.length - 2:Nat):Int) < ((a+2+at8 D (a+1):Nat):Int):=by omega
    simp only[this,aE,aL,aV h3];rfl
   have h3':¬ ((D.length - 2:Nat):Int) < ((a+2+at8 D (a+1):Nat):Int):=by omega
   have h4:((a+2:Nat):Int)<=((a+2+at8 D (a+1):Nat):Int)/\((a+2+at8 D (a+1):Nat):Int)<=(D.length:Int):=by omega
   simp only[h3',aF,aG,aY h3,h4,cU,aH,aI];rw[implCopied_eq _ (by simp only[bM,bS];omega)];have hc:rs.length+[(((at8 D a:Nat):Int),((D.take (a+2+at8 D (a+1))).drop (a+2)),())].length<=CAP:=cap_ok (by simp only[aP,aZ];omega);simp only[aB,hc,aH];exact ih (a+2+at8 D (a+1)) (i+1) _ (by omega) (by omega) (by simp;omega) j (by omega)
theorem parseS_eq {D:List UInt8} (hD:7<=D.length) (hD2:D.length<=255) {e0:Record->Option spec_l4Read.Out} {K T P:Int} {k:Nat} :
  ∀ (c a i:Nat) (rs:List Run),i+c=at8 D 4->a<=600->rs.length<=i->∀ j,c < j ->
   rawIter (fun self v=>spec_l4Read.B0 k self e0 (D,()) v) j ((K,T,P,rs,()),(a:Int),(i:Int))=e0 (K,T,P,pS D c a rs,()):=by
 intro c
 induction c with
 | zero=>
  intro a i rs hi ha hrs j hj
  cases j with
  | zero=>omega
  | succ j=>
   show spec_l4Read.b0 _ _ (D,()) _=_;unfold spec_l4Read.b0;obtain ⟨g1,g2⟩:=at8_get (show 4 < D.length by omega);have hb:=at8_lt D 4;simp only[g1,aB,g2,w64_nat (show at8 D 4<=4000000000 by omega)];have:¬ (i:Int) < (at8 D 4:Int):=by omega
   simp only[this,aF,aG,pS]
 | succ c ih=>
  intro a i rs hi ha hrs j hj
  cases j with
  | zero=>omega
  | succ j=>
   show spec_l4Read.b0 _ _ (D,()) _=_;unfold spec_l4Read.b0;obtain ⟨g1,g2⟩:=at8_get (show 4 < D.length by omega);have hb4:=at8_lt D 4;have h1:(i:Int) < (at8 D 4:Int):=by omega
   have e1:w64 ((a:Int)+2)=((a+2:Nat):Int):=by rw[w64_in (by omega)];omega
   have e2:w64 ((a:Int)+1)=((a+1:Nat):Int):=by rw[w64_in (by omega)];omega
   have e3:w64 ((i:Int)+1)=((i+1:Nat):Int):=by rw[w64_in (by omega)];omega
   simp only[g1,aB,g2,w64_nat (show at8 D 4<=4000000000 by omega),h1,aE,aL,e1,e2,e3,pS];by_cases h2:a+2<=D.length;rotate_left
   ·have:¬ ((a+2:Nat):Int)<=(D.length:Int):=by omega
    simp only[this,aF,aG,aY h2]
   have h2':((a+2:Nat):Int)<=(D.length:Int):=by omega
   obtain ⟨g5,g6⟩:=at8_get (show a+1 < D.length by omega);obtain ⟨g3,g4⟩:=at8_get (show a < D.length by omega);have hb:=at8_lt D (a+1);have hb2:=at8_lt D a;simp only[h2',aE,aL,aV h2,aN,aH,aI,g5,g3,aB,g6,g4,w64_nat (show at8 D (a+1)<=4000000000 by omega),w64_nat (show at8 D a<=4000000000 by omega)];have e4:w64 (((a+2:Nat):Int)+(at8 D (a+1):Int))=((a+2+at8 D (a+1):Nat):Int):=by rw[w64_in (by omega)];omega
   simp only[e4];by_cases h3:D.length < a+2+at8 D (a+1)
   ·have:(D.length:Int) < ((a+2+at8 D (a+1):Nat):Int):=by omega
    simp only[this,aE,aL,aV h3]
   have h3':¬ (D.length:Int) < ((a+2+at8 D (a+1):Nat):Int):=by omega
   have h4:((a+2:Nat):Int)<=((a+2+at8 D (a+1):Nat):Int)/\((a+2+at8 D (a+1):Nat):Int)<=(D.length:Int):=by omega
   simp only[h3',aF,aG,aY h3,h4,cU,aH,aI];rw[specCopy_eq _ (by simp only[bM,bS];omega)];have hc:rs.length+[(((at8 D a:Nat):Int),((D.take (a+2+at8 D (a+1))).drop (a+2)),())].length<=CAP:=cap_ok (by simp only[aP,aZ];omega);simp only[aB,hc,aH];exact ih (a+2+at8 D (a+1)) (i+1) _ (by omega) (by omega) (by simp;omega) j (by omega)
theorem implRead_eq (d:List UInt8) (hd:d.length<=2000000000):impl_read.sem (d,())=some (match readF d with | none=>(zeroR,(0:Int),()) | some (r,n)=>(r,(n:Int),())):=by
 refine lift_eq (k:=300) fun k hk=>(impl_read.raw_eq k _).trans ?_;unfold impl_read.p readF;by_cases h7:d.length < 7
 ·have:(d.length:Int) < 7:=by omega
  simp only[this,aE,aL,h7,jL,aH];rfl
 have h7':¬ (d.length:Int) < 7:=by omega
 obtain ⟨g1,g2⟩:=at8_get (show 0 < d.length by omega);have hb:=at8_lt d 0;simp only[h7',aF,aG,h7,jG,g1,aB,g2,w64_nat (show at8 d 0<=4000000000 by omega)];by_cases hl:d.length < at8 d 0
 ·have:(d.length:Int) < (at8 d 0:Int):=by omega
  simp only[this,aE,aL,hl,or_true,aH];rfl
 have hl':¬ (d.length:Int) < (at8 d 0:Int):=by omega
 by_cases hm:at8 d 0 < 7
 ·have:(at8 d 0:Int) < 7:=by omega
  simp only[hl',aF,aG,this,aE,aL,hm,jL,aH];rfl
 have hm':¬ (at8 d 0:Int) < 7:=by omega
 have hin:0<=(at8 d 0:Int)/\(at8 d 0:Int)<=(d.length:Int):=by omega
 simp only[hl',hm',aF,aG,hl,hm,or_self,aM,hin,cU,aH,aI,eZ];generalize hDD:d.take (at8 d 0)=D;have hDl:D.length=at8 d 0:=by rw[<-hDD];simp;omega
 have ga:∀ i,i < at8 d 0->at8 D i=at8 d i:=fun i hi=>by rw[<-hDD];exact at8_take hi (by omega)
 obtain ⟨q1,q2⟩:=at8_get (show 1 < D.length by omega);obtain ⟨q3,q4⟩:=at8_get (show 2 < D.length by omega);obtain ⟨q5,q6⟩:=at8_get (show 3 < D.length by omega);obtain ⟨q7,q8⟩:=at8_get (show 4 < D.length by omega);have b1:=at8_lt d 1;have b2:=at8_lt d 2;have b3:=at8_lt d 3;have b4:=at8_lt d 4;have ew:w64 ((D.length:Int) - 2)=((D.length - 2:Nat):Int):=by rw[w64_in (by omega)];omega
 simp only[q1,q3,q5,q7,aB,q2,q4,q6,q8,ga 1 (by omega),ga 2 (by omega),ga 3 (by omega),ga 4 (by omega),ew,w64_nat (show at8 d 1<=4000000000 by omega),w64_nat (show at8 d 2<=4000000000 by omega),w64_nat (show at8 d 3<=4000000000 by omega),w64_nat (show at8 d 4<=4000000000 by omega)];have hp:=parseI_eq (D:=D) (by omega) (by omega) (a1:=(d,())) (e0:=fun z=>impl_read.Q0 k (d,()) D ((D.length - 2:Nat):Int) (at8 d 4:Int) z) (K:=(at8 d 1:Int)) (T:=(at8 d 2:Int)) (P:=(at8 d 3:Int)) (N:=(at8 d 4:Int)) (by omega) (k:=k) (at8 d 4) 5 0 [] (by omega) (by omega) (aK _) k (by omega);refine bI hp ?_;rw[<-hDl]
 cases hpi:pI D (D.length - 2) (at8 d 4) 5 [] with
 | none=>rfl
 | some q=>
  obtain ⟨rs,a⟩:=q;simp only[impl_read.Q0,impl_read.q0];by_cases ha:a=D.length - 2;rotate_left
  ·have:¬ ((a:Int)=((D.length - 2:Nat):Int)):=by omega
   simp only[this,aF,bG,aL,ha,gQ,aM];rfl
  subst ha;simp only[aE,aQ,aG,implRec_eq,aB,dZ];by_cases hr:recF ((at8 d 1:Int),(at8 d 2:Int),(at8 d 3:Int),rs,())=0;rotate_left
  ·simp only[hr,aF,bG,aL,gQ,aM];rfl
  have hs:=small_of hr;have hpl:=packF_small hs;simp only[hr,aE,aQ,aG,implPack_eq _ hs,aB,dZ];rw[equal_eq _ _ (by omega)];by_cases he:packF ((at8 d 1:Int),(at8 d 2:Int),(at8 d 3:Int),rs,())=D
  ·simp only[he,aE,aB,aQ,aG,aH]
  ·simp only[he,aF,aB,bG,aL,aM];rfl
theorem specRead_eq (d:List UInt8) (hd:d.length<=2000000000):spec_ReadRecord.sem (d,())=some (match readF d with | none=>(((5:Int),(0:Int),zeroR,()),()) | some (r,n)=>(((0:Int),(n:Int),r,()),())):=by
 refine lift_eq (k:=300) fun k hk=>(spec_ReadRecord.raw_eq k _).trans ?_;show spec_ReadRecord.p _=_;unfold spec_ReadRecord.p readF;by_cases h7:d.length < 7
 ·have:(d.length:Int) < 7:=by omega
  simp only[this,aE,aL,h7,jL,aH];rfl
 have h7':¬ (d.length:Int) < 7:=by omega
 obtain ⟨g1,g2⟩:=at8_get (show 0 < d.length by omega);have hb:=at8_lt d 0;simp only[h7',aF,aG,h7,jG,g1,aB,g2,w64_nat (show at8 d 0<=4000000000 by omega)];by_cases hm:at8 d 0 < 7
 ·have:(at8 d 0:Int) < 7:=by omega
  simp only[this,aE,aL,hm,jL,aH];rfl
 have hm':¬ (at8 d 0:Int) < 7:=by omega
 by_cases hl:d.length < at8 d 0
 ·have:(d.length:Int) < (at8 d 0:Int):=by omega
  simp only[hm',aF,aG,this,aE,aL,hl,or_true,aH];rfl
 have hl':¬ (d.length:Int) < (at8 d 0:Int):=by omega
 have hin:0<=(at8 d 0:Int)/\(at8 d 0:Int)<=(d.length:Int):=by omega
 simp only[hl',hm',aF,aG,hl,hm,or_self,aM,hin,cU,aH,aI,eZ];generalize hDD:d.take (at8 d 0)=D;have hDl:D.length=at8 d 0:=by rw[<-hDD];simp;omega
 have ga:∀ i,i < at8 d 0->at8 D i=at8 d i:=fun i hi=>by rw[<-hDD];exact at8_take hi (by omega)
 have hread:spec_l4Read.sem (D,())=some (((at8 d 1:Int),(at8 d 2:Int),(at8 d 3:Int),pS D (at8 d 4) 5 [],()),()):=by
  refine lift_eq (k:=300) fun k hk=>(spec_l4Read.raw_eq k _).trans ?_;unfold spec_l4Read.p;obtain ⟨q1,q2⟩:=at8_get (show 1 < D.length by omega);obtain ⟨q3,q4⟩:=at8_get (show 2 < D.length by omega);obtain ⟨q5,q6⟩:=at8_get (show 3 < D.length by omega);have b1:=at8_lt d 1;have b2:=at8_lt d 2;have b3:=at8_lt d 3;have b4:=at8_lt d 4;simp only[q1,q3,q5,aB,q2,q4,q6,ga 1 (by omega),ga 2 (by omega),ga 3 (by omega),w64_nat (show at8 d 1<=4000000000 by omega),w64_nat (show at8 d 2<=4000000000 by omega),w64_nat (show at8 d 3<=4000000000 by omega)];have hp:=parseS_eq (D:=D) (by omega) (by omega) (e0:=fun z=>spec_l4Read.Q0 k (D,()) z) (K:=(at8 d 1:Int)) (T:=(at8 d 2:Int)) (P:=(at8 d 3:Int)) (k:=k) (at8 D 4) 5 0 [] (by omega) (by omega) (aK _) k (by rw[ga 4 (by omega)];omega);refine bI hp ?_;rw[ga 4 (by omega)];rfl
 rw[hread];simp only[aB,specRec_eq];rw[<-hDl];generalize hrs:pS D (at8 d 4) 5 []=rs;by_cases hr:recF ((at8 d 1:Int),(at8 d 2:Int),(at8 d 3:Int),rs,())=0
 ·have hs:=small_of hr;simp only[hr,aE,aQ,aG,specPack_eq _ hs,aB];by_cases he:packF ((at8 d 1:Int),(at8 d 2:Int),(at8 d 3:Int),rs,())=D
  ·have h4:at8 D 4=at8 d 4:=ga 4 (by omega);have hpi:=pS_pI (D:=D) (by omega) (by rw[h4];exact hrs) hr he;rw[h4] at hpi;rw[hpi];simp[he,hr]
  ·simp only[he,aF,bG,aL]
   cases hpi:pI D (D.length - 2) (at8 d 4) 5 [] with
   | none=>rfl
   | some q=>
    obtain ⟨rs',a'⟩:=q;have:=pI_pS (by omega) _ _ _ _ _ hpi;rw[hrs] at this;subst this;simp only[he,and_false,aM];rfl
 ·simp only[hr,aF,bG,aL]
  cases hpi:pI D (D.length - 2) (at8 d 4) 5 [] with
  | none=>rfl
  | some q=>
   obtain ⟨rs',a'⟩:=q;have:=pI_pS (by omega) _ _ _ _ _ hpi;rw[hrs] at this;subst this;simp only[hr,gQ,and_false,aM];rfl
end OT
namespace OT
open Go
theorem readF_n {d:List UInt8} {r:Record} {n:Nat} (h:readF d=some (r,n)):7<=n/\n<=d.length/\recF r=0:=by
 unfold readF at h;split at h
 ·cases h
 ·rename_i hc;split at h
  ·cases h
  ·split at h
   ·rename_i hh;injection h with h;injection h with h1 h2;subst h1;omega
   ·cases h
end OT
namespace OT
open Go
theorem implNew_eq:impl_newPage.sem ((0:UInt8),())=some (newF,()):=by
 refine lift_eq (k:=66) fun k hk=>(impl_newPage.raw_eq k _).trans ?_;unfold impl_newPage.p
 have:=for_loop (B:=fun self v=>impl_newPage.b0 self (fun z=>impl_newPage.q0 ((0:UInt8),()) z) ((0:UInt8),()) v) (List.replicate 64 (0:UInt8)) (fun (s:List UInt8) (i:Int)=>(s,i)) (fun _ s _=>.inr s) (fun s=>(newF,())) (fun _ s=>s=List.replicate 64 (0:UInt8)) (by rw[maxLen_val];simp)
  (fun i hi s self hI=>by
   show impl_newPage.b0 _ _ _ _=_;unfold impl_newPage.b0;subst hI;simp only[dN] at hi ⊢;have hlt:(i:Int) < ((64:Nat):Int):=by omega
   have hin:(0:Int)<=(i:Int)/\(i:Int) < ((64:Nat):Int):=by omega
   have hg:(List.replicate 64 (0:UInt8))[i]?=some 0:=(fS (n:=64) (i:=i) (a:=(0:UInt8))).trans (aV hi);have hs:(List.replicate 64 (0:UInt8)).set i 0=List.replicate 64 (0:UInt8):=List.set_replicate_self
   simp only[hlt,hin,cU,aE,aL,aH,aI,hg,aB,hs])
  (fun i hi s s' hI hs=>by injection hs with hs;rw[<-hs,hI]) (fun s self hI=>by
   show impl_newPage.b0 _ _ _ _=_;unfold impl_newPage.b0;subst hI;simp only[dN,bP,aF,aG]
   rfl) (List.replicate 64 (0:UInt8)) rfl k (by simp;omega)
 rw[forI_fold (g:=fun s _=>s)] at this
 have hc:(0:Int)<=64/\(64:Int)<=64/\(64:Int)<=(CAP:Int):=⟨by omega,by omega,by simp only[CAP];omega⟩
 rw[aV hc];exact this
theorem specNew_eq:spec_l2New.sem ((0:UInt8),())=some (newF,()):=by
 refine lift_eq (k:=66) fun k hk=>(spec_l2New.raw_eq k _).trans ?_;unfold spec_l2New.p
 have:=for_loop (B:=fun self v=>spec_l2New.b0 self (fun z=>spec_l2New.q0 ((0:UInt8),()) z) ((0:UInt8),()) v) (List.replicate 64 (0:UInt8)) (fun (s:List UInt8) (i:Int)=>(s,i)) (fun _ s _=>.inr s) (fun s=>(newF,())) (fun _ s=>s=List.replicate 64 (0:UInt8)) (by rw[maxLen_val];simp)
  (fun i hi s self hI=>by
   show spec_l2New.b0 _ _ _ _=_;unfold spec_l2New.b0;subst hI;simp only[dN] at hi ⊢;have hlt:(i:Int) < (64:Int):=by omega
   have hin:(0:Int)<=(i:Int)/\(i:Int) < ((64:Nat):Int):=by omega
   have hg:(List.replicate 64 (0:UInt8))[i]?=some 0:=(fS (n:=64) (i:=i) (a:=(0:UInt8))).trans (aV hi);have hs:(List.replicate 64 (0:UInt8)).set i 0=List.replicate 64 (0:UInt8):=List.set_replicate_self
   simp only[hlt,hin,cU,aE,aL,aH,aI,hg,aB,hs])
  (fun i hi s s' hI hs=>by injection hs with hs;rw[<-hs,hI]) (fun s self hI=>by
   show spec_l2New.b0 _ _ _ _=_;unfold spec_l2New.b0;subst hI;have:¬ (((64:Nat):Int) < 64):=by omega
   simp only[dN,this,aF,aG]
   rfl) (List.replicate 64 (0:UInt8)) rfl k (by simp;omega)
 rw[forI_fold (g:=fun s _=>s)] at this
 have hc:(0:Int)<=64/\(64:Int)<=64/\(64:Int)<=(CAP:Int):=⟨by omega,by omega,by simp only[CAP];omega⟩
 rw[aV hc];exact this
end OT
namespace OT
open Go
def lay1 (p:List UInt8) (r:Run):List UInt8:=over p r.1.toNat (min (List.length r.2.1) (p.length - r.1.toNat)) r.2.1
def applyR (p:List UInt8) (rs:List Run):List UInt8:=rs.foldl lay1 p
theorem lay1_len {p:List UInt8} {r:Run} (h:r.1.toNat<=p.length):(lay1 p r).length=p.length:=over_length _ _ (by omega) (by omega)
theorem applyR_len:∀ (rs:List Run) (p:List UInt8),p.length=64->(∀ r ∈ rs,0<=r.1/\r.1<=63)->(applyR p rs).length=64
 | [],p,h,_=>h
 | r::rs,p,h,hr=>by
  have:=hr r (by simp);exact applyR_len rs _ (by rw[lay1_len (by omega)];exact h) (fun x hx=>hr x (by simp[hx]))
theorem implApplied_eq (p:List UInt8) (rs:List Run) (hp:p.length=64) (hl:rs.length<=64) (hr:∀ r ∈ rs,0<=r.1/\r.1<=63):impl_applied.sem (p,rs,())=some (applyR p rs,()):=by
 refine lift_eq (k:=66) fun k hk=>(impl_applied.raw_eq k _).trans ?_;unfold impl_applied.p;rw[implCopied_eq _ (by show p.length<=_;omega)]
 have:=for_loop (B:=fun self v=>impl_applied.b0 self (fun z=>impl_applied.q0 (p,rs,()) z) (p,rs,()) v) rs (fun (s:List UInt8) (i:Int)=>(s,i)) (fun _ s r=>.inr (lay1 s r)) (fun s=>(s,())) (fun _ s=>s.length=64) (by rw[maxLen_val];omega)
  (fun i hi s self hI=>by
   show impl_applied.b0 _ _ _ _=_;unfold impl_applied.b0;have hlt:(i:Int) < (rs.length:Int):=by omega
   have hx:=hr rs[i] (bC hi);have hin:(0:Int)<=(rs[i]).1/\(rs[i]).1<=(s.length:Int):=by omega
   simp only[hlt,aE,aL,aN,aH,aI,aA hi,aB,hin,cU]
   rfl)
  (fun i hi s s' hI hs=>by
   injection hs with hs;have hx:=hr rs[i] (bC hi)
   rw[<-hs,lay1_len (by omega)];exact hI) (fun s self hI=>by
   show impl_applied.b0 _ _ _ _=_;unfold impl_applied.b0;simp only[bP,aF,aG]
   rfl) p hp k (by omega)
 rw[forI_fold] at this;exact this
theorem specApplied_eq (p:List UInt8) (rs:List Run) (hp:p.length=64) (hl:rs.length<=64) (hr:∀ r ∈ rs,0<=r.1/\r.1<=63):spec_l3Apply.sem (p,rs,())=some (applyR p rs,()):=by
 refine lift_eq (k:=66) fun k hk=>(spec_l3Apply.raw_eq k _).trans ?_;unfold spec_l3Apply.p;rw[specCopy_eq _ (by show p.length<=_;omega)]
 have:=for_loop (B:=fun self v=>spec_l3Apply.b0 self (fun z=>spec_l3Apply.q0 (p,rs,()) z) (p,rs,()) v) rs (fun (s:List UInt8) (i:Int)=>(s,i)) (fun _ s r=>.inr (lay1 s r)) (fun s=>(s,())) (fun _ s=>s.length=64) (by rw[maxLen_val];omega)
  (fun i hi s self hI=>by
   show spec_l3Apply.b0 _ _ _ _=_;unfold spec_l3Apply.b0;have hlt:(i:Int) < (rs.length:Int):=by omega
   have hx:=hr rs[i] (bC hi);have hin:(0:Int)<=(rs[i]).1/\(rs[i]).1<=(s.length:Int):=by omega
   simp only[hlt,aE,aL,aN,aH,aI,aA hi,aB,hin,cU]
   rfl)
  (fun i hi s s' hI hs=>by
   injection hs with hs;have hx:=hr rs[i] (bC hi)
   rw[<-hs,lay1_len (by omega)];exact hI) (fun s self hI=>by
   show spec_l3Apply.b0 _ _ _ _=_;unfold spec_l3Apply.b0;simp only[bP,aF,aG]
   rfl) p hp k (by omega)
 rw[forI_fold] at this;exact this
theorem clone_eq (ps:Pages) (h:ps.length<=12):slices_Clone_bytes.sem (ps,())=some (ps,()):=by
 refine lift_eq (k:=0) fun k _=>(slices_Clone_bytes.raw_eq k _).trans ?_;show slices_Clone_bytes.p _=_;unfold slices_Clone_bytes.p;refine nilB_eq (fun e=>by rw[show ps=[] from e]) ?_;have:([]:List (List UInt8)).length+ps.length<=CAP:=cap_ok (by simp only[aZ];omega);rw[aV this,cH]
def putR (q:Pages) (r:Record):Pages:=q.set r.2.2.1.toNat (applyR (q.getD r.2.2.1.toNat []) r.2.2.2.1)
def stepF (ps:Pages) (r:Record):Sum Int Pages:=
 if recF r=0 then (if inB r.1 2 4 then (if (ps.length:Int) < r.2.2.1 then .inl 1 else .inr (putR (if r.2.2.1=(ps.length:Int) then ps++[newF] else ps) r)) else .inr ps) else .inl (recF r)
theorem stepF_bad {ps:Pages} {r:Record} {c:Int} (h:stepF ps r=.inl c):c≠0:=by
 unfold stepF at h;split at h
 ·split at h
  ·split at h
   ·injection h with h;subst h;decide
   ·cases h
  ·cases h
 ·rename_i hr;injection h with h;subst h;exact hr
theorem putR_good {q:Pages} {r:Record} (hq:gp q) (hr:recF r=0) (hp:r.2.2.1.toNat < q.length):gp (putR q r):=by
 have hg:=recF_good hr;refine ⟨by simp[putR];exact hq.1,fun p hm=>?_⟩
 rcases gR hm with h | h
 ·exact hq.2 p h
 ·subst h;have hx:q.getD r.2.2.1.toNat []=q[r.2.2.1.toNat]:=by simp[hp]
  rw[hx];exact applyR_len _ _ (hq.2 _ (bC hp)) (fun x hx=>by have:=hg.2.2.2.2.2.2.2 x hx;omega)
theorem stepF_good {ps ps':Pages} {r:Record} (hp:gp ps) (h:stepF ps r=.inr ps'):gp ps':=by
 unfold stepF at h;split at h
 ·rename_i hr;have hg:=recF_good hr;split at h
  ·split at h
   ·cases h
   ·rename_i hl;injection h with h;subst h;split
    ·rename_i he;refine putR_good ⟨by simp;omega,fun p hm=>?_⟩ hr (by simp;omega);rcases cM.1 hm with hm | hm
     ·exact hp.2 p hm
     ·simp only[bV] at hm;subst hm;exact newF_len
    ·rename_i he;exact putR_good hp hr (by omega)
  ·injection h with h;subst h;exact hp
 ·cases h
theorem implRecorded_eq (ps:Pages) (r:Record) (hp:gp ps) (hr:recF r=0):impl_recorded.sem (ps,r,())=some (match stepF ps r with | .inl c=>(([]:Pages),c,()) | .inr ps'=>(ps',(0:Int),())):=by
 refine lift_eq (k:=0) fun k _=>(impl_recorded.raw_eq k _).trans ?_;show impl_recorded.p _=_;have hg:=recF_good hr;unfold impl_recorded.p stepF;simp only[turns_eq,hr,aH,aB]
 cases ht:inB r.1 2 4 with
 | false=>rfl
 | true=>
  simp only[aQ,aG,aH];by_cases hl:(ps.length:Int) < r.2.2.1
  ·simp only[hl,aE,aL,aH]
  have h12:¬ r.2.2.1=12:=by omega
  simp only[hl,h12,aF,aG,aM,clone_eq ps hp.1,aB]
  have key:∀ q:Pages,gp q->r.2.2.1.toNat < q.length->(if 0<=r.2.2.1/\r.2.2.1 < (q.length:Int) then ((q[r.2.2.1.toNat]?).bind fun x11=>(impl_applied.sem (x11,r.2.2.2.1,())).bind fun r12=>if 0<=r.2.2.1/\r.2.2.1 < (q.length:Int) then ((q[r.2.2.1.toNat]?).bind fun x13=>some (q.set r.2.2.1.toNat r12.1,(0:Int),())) else none) else none:Option impl_recorded.Out)=some (putR q r,(0:Int),()):=fun q hq hlt=>by
   have hc:0<=r.2.2.1/\r.2.2.1 < (q.length:Int):=by omega
   simp only[hc,cU,aH,aA hlt,aB];rw[implApplied_eq _ _ (hq.2 _ (bC hlt)) hg.2.2.2.2.2.2.1 (fun x hx=>by have:=hg.2.2.2.2.2.2.2 x hx;omega)];have hx:q.getD r.2.2.1.toNat []=q[r.2.2.1.toNat]:=by simp[hlt]
   unfold putR;rw[hx];rfl
  by_cases he:r.2.2.1=(ps.length:Int)
  ·have hcc:ps.length+[newF].length<=CAP:=cap_ok (by have:=hp.1;simp only[aP,aZ];omega);rw[aV he];simp only[he,aE,aL,implNew_eq,aB,hcc,aH];rw[<-he];refine key _ ⟨by simp;omega,fun p hm=>?_⟩ (by simp;omega);rcases cM.1 hm with hm | hm
   ·exact hp.2 p hm
   ·simp only[bV] at hm;subst hm;exact newF_len
  ·rw[aY he];simp only[he,aF,aG];exact key ps hp (by omega)
theorem editsBad_eq (c:Int):spec_l7Bad.sem (c,())=some ((c,([]:List Run),([]:List (List UInt8)),()),()):=by
 refine lift_eq (k:=0) fun k _=>(spec_l7Bad.raw_eq k _).trans ?_;rfl
theorem specRecord_eq (ps:Pages) (r:Record) (hp:gp ps):spec_ApplyRecord.sem (ps,r,())=some (match stepF ps r with | .inl c=>((c,([]:List Run),([]:Pages),()),()) | .inr ps'=>(((0:Int),([]:List Run),ps',()),())):=by
 refine lift_eq (k:=14) fun k hk=>(spec_ApplyRecord.raw_eq k _).trans ?_;unfold spec_ApplyRecord.p;have h12:¬ (12:Int) < (ps.length:Int):=by have:=hp.1;omega
 simp only[h12,aF,aG]
 have main:spec_ApplyRecord.q0 (ps,r,()) ()=some (match stepF ps r with | .inl c=>((c,([]:List Run),([]:Pages),()),()) | .inr ps'=>(((0:Int),([]:List Run),ps',()),())):=by
  show spec_ApplyRecord.q0 _ _=_;unfold spec_ApplyRecord.q0 stepF;simp only[specRec_eq,editsBad_eq,specCopies_eq ps hp,spec4Runs_eq,aB];by_cases hr:recF r=0;rotate_left
  ·simp only[hr,aF,bG,aL,aM]
  have hg:=recF_good hr;simp only[hr,aE,aQ,aG,aH]
  cases ht:inB r.1 2 4 with
  | false=>rfl
  | true=>
   simp only[aQ,aG,aH];by_cases hl:(ps.length:Int) < r.2.2.1
   ·simp only[hl,aE,aL,aH]
   have h12:¬ r.2.2.1=12:=by omega
   simp only[hl,h12,aF,aG,aM]
   have key:∀ q:Pages,gp q->r.2.2.1.toNat < q.length->(if 0<=r.2.2.1/\r.2.2.1 < (q.length:Int) then ((q[r.2.2.1.toNat]?).bind fun x621=>(q[r.2.2.1.toNat]?).bind fun x622=>(spec_l3Apply.sem (x622,r.2.2.2.1,())).bind fun r623=>if 0<=r.2.2.1/\r.2.2.1 < (q.length:Int) then ((q[r.2.2.1.toNat]?).bind fun x624=>some (((0:Int),([]:List Run),q.set r.2.2.1.toNat r623.1,()),())) else none) else none:Option spec_ApplyRecord.Out)=some (((0:Int),([]:List Run),putR q r,()),()):=fun q hq hlt=>by
    have hc:0<=r.2.2.1/\r.2.2.1 < (q.length:Int):=by omega
    simp only[hc,cU,aH,aA hlt,aB];rw[specApplied_eq _ _ (hq.2 _ (bC hlt)) hg.2.2.2.2.2.2.1 (fun x hx=>by have:=hg.2.2.2.2.2.2.2 x hx;omega)];have hx:q.getD r.2.2.1.toNat []=q[r.2.2.1.toNat]:=by simp[hlt]
    unfold putR;rw[hx];rfl
   by_cases he:r.2.2.1=(ps.length:Int)
   ·have hcc:ps.length+[newF].length<=CAP:=cap_ok (by have:=hp.1;simp only[aP,aZ];omega);rw[aV he];simp only[he,aE,aL,specNew_eq,aB,hcc,aH];rw[<-he];refine key _ ⟨by simp;omega,fun p hm=>?_⟩ (by simp;omega);rcases cM.1 hm with hm | hm
    ·exact hp.2 p hm
    ·simp only[bV] at hm;subst hm;exact newF_len
   ·rw[aY he];simp only[he,aF,aG];exact key ps hp (by omega)
 have:=for_loop (B:=fun self v=>spec_ApplyRecord.b0 self (fun z=>spec_ApplyRecord.q0 (ps,r,()) z) (ps,r,()) v) ps (fun (s:Unit) (i:Int)=>i) (fun _ s x=>.inr s) (fun s=>(match stepF ps r with | .inl c=>((c,([]:List Run),([]:Pages),()),()) | .inr ps'=>(((0:Int),([]:List Run),ps',()),()))) (fun i s=>True) (by have:=hp.1;rw[maxLen_val];omega)
  (fun i hi s self hI=>by
   show spec_ApplyRecord.b0 _ _ _ _=_;unfold spec_ApplyRecord.b0;have hlt:(i:Int) < (ps.length:Int):=by omega
   have hx:((ps[i].length:Nat):Int)=64:=by have:=hp.2 ps[i] (bC hi);omega
   simp only[hlt,aE,aL,aN,aH,aI,aA hi,aB,hx,aQ,aG])
  (fun _ _ _ _ _ _=>trivial) (fun s self hI=>by
   show spec_ApplyRecord.b0 _ _ _ _=_;unfold spec_ApplyRecord.b0;simp only[bP,aF,aG]
   exact main) () trivial k (by have:=hp.1;omega)
 rw[forI_fold (g:=fun s _=>s)] at this;exact this
theorem zz_pages (ps:Pages) (h:gp ps):zz (.slc (.slc u8)) ps<=12*65:=by
 obtain ⟨h1,h2⟩:=h
 have main:∀ ps:Pages,(∀ p ∈ ps,p.length=64)->zz (.slc (.slc u8)) ps=65*ps.length:=by
  intro ps
  induction ps with
  | nil=>intro _;rfl
  | cons p ps ih=>
   intro h;have h3:zz (.slc (.slc u8)) (p::ps)=zz (.slc u8) p+1+zz (.slc (.slc u8)) ps:=zz_cons (e:=.slc u8) p ps;have h4:zz (.slc u8) p=p.length+sumW (zz u8) p:=rfl;have h5:sumW (zz u8) p=0:=sumW_zero _ (fun _=>rfl) p;have h6:=ih fun q hq=>h q (by simp[hq]);have h7:=h p (by simp);rw[h3,h4,h5,h6,h7,aP];omega
 rw[main ps h2];omega
end OT
namespace OT
open Go
def flatK (xs:List Tx):List Key:=xs.flatMap fun x=>x.2.2.2.1
end OT
namespace OT
open Go
end OT
namespace OT
open Go
structure TxsOk (xs:List Tx):Prop where
 len:xs.length<=4
 ch:∀ x ∈ xs,∀ c ∈ (x.2.1:List Change),chF c=0
 locks:∀ x ∈ xs,List.length x.2.2.2.1<=12
 undo:∀ x ∈ xs,List.length x.2.1<=12
 keys:∀ x ∈ xs,∀ k ∈ (x.2.2.2.1:List Key),keyB2 k=true
end OT
namespace OT
open Go
end OT
namespace OT
open Go
end OT
set_option linter.unusedSectionVars false
namespace OT
open Go
theorem rl_cellF {d:List UInt8} (h:d.length<=64):List.length (cellF d).1.2.2.2.2.1.2.2.2.1<=64:=by
 unfold cellF;split
 ·exact aW _
 ·split
  ·exact aW _
  ·show (d.drop 6).length<=64;rw[bM];omega
theorem cellP_le {p:List UInt8} (s:Nat) (h:p.length<=64):(cellP p s).length<=64:=by
 unfold cellP;rw[bS,bM];omega
theorem rl_cellG {ps:Pgs} (h:rightP ps) (a b:Int):List.length (cellG ps a b).1.2.2.2.2.1.2.2.2.1<=64:=by
 unfold cellG
 cases hp:ps[a.toNat]? with
 | none=>exact aW _
 | some p=>
  have hm:=h.2 p (bW hp);simp only;split
  ·exact rl_cellF (cellP_le _ (by rw[hm.len];omega))
  ·exact aW _
theorem rt_rows {ps:Pgs} (h:viewC ps=0):∀ r ∈ rowsV ps,List.length r.2.2.2.1<=64:=fun r hr=>by
 have hv:=view_right h;rw[rowsV_eq (view_ok h),(sortR_perm _).mem_iff,gO] at hr;obtain ⟨x,hx,rfl⟩:=hr;unfold seenF at hx;rw[eR] at hx;obtain ⟨y,hy,hx⟩:=hx;unfold seenX at hx;split at hx
 ·cases hx
 ·rw[bV] at hx;subst hx;unfold seen1;split
  ·exact rl_cellG hv.1 _ _
  ·obtain ⟨P,p,t,h1,h2,h3,rfl⟩:=spot_mem.1 hy;exact rl_cellF (cellP_le _ (by rw[(hv.1.2 p (bW h1)).len];omega))
theorem rows_len {ps:Pgs} (h:viewC ps=0):(rowsV ps).length<=192:=by
 unfold rowsV;rw[eX];exact viewL_len (view_ok h)
end OT
namespace OT
open Go
def txB (xs:List Buffer) (t:Int):Int:=whereF (fun b=>decide (b.1=t)) 0 xs
theorem where_le {α:Type} (p:α->Bool):∀ (xs:List α) (i j:Nat) (hj:j < xs.length),p xs[j]=true->(i:Int)<=whereF p i xs/\whereF p i xs<=((i+j:Nat):Int)
 | x::xs,i,j,hj,h=>by
  simp only[whereF];by_cases hx:p x=true
  ·rw[aV hx];omega
  ·rw[aY hx]
   cases j with
   | zero=>exact absurd h hx
   | succ j=>
    have:=where_le p xs (i+1) j (by simpa using hj) (by simpa using h);omega
def openStep (xs:List Buffer) (i:Nat) (b:Buffer):Sum (Int×Unit) Unit:=
 if inB b.1 1 99 then (if foldF b.2.1=0 then (if txB xs b.1=(i:Int) then .inr () else .inl (6,())) else .inl (foldF b.2.1,())) else .inl (3,())
def minerF (m:Miner):Int:=if viewC m.1=0 then (if 8 < List.length m.2.1 then 2 else (forI (fun i (_:Unit) b=>openStep m.2.1 i b) (fun _=>((0:Int),())) 0 m.2.1 ()).1) else viewC m.1
structure okM (m:Miner):Prop where
 pl:List.length m.1<=1048576
 pages:∀ p ∈ (m.1:Pgs),p.length<=maxLen
 bl:List.length m.2.1<=1048576
 buf:∀ b ∈ (m.2.1:List Buffer),List.length b.2.1<=1048576/\∀ c ∈ (b.2.1:List Change),cl c
theorem specMAt_eq (m:Miner) (t:Int) (h:List.length m.2.1<=1048576):spec_l9At.sem (m,t,())=some (txB m.2.1 t,()):=by
 refine lift_eq (k:=1048577) fun k hk=>(spec_l9At.raw_eq k _).trans ?_
 have:=for_loop (B:=fun self v=>spec_l9At.b0 self (fun z=>spec_l9At.q0 (m,t,()) z) (m,t,()) v) m.2.1 (fun (_:Unit) (i:Int)=>i) (fun i _ b=>if decide (b.1=t) then .inl ((i:Int),()) else .inr ()) (fun _=>((-1:Int),())) (fun _ _=>True) (by rw[maxLen_val];omega)
  (fun i hi s self _=>by
   show spec_l9At.b0 _ _ _ _=_;unfold spec_l9At.b0;have hlt:(i:Int) < (List.length m.2.1:Int):=by omega
   simp only[hlt,aE,aL,aN,aH,aI,aA hi,aB]
   cases decide ((m.2.1[i]).1=t) <;> rfl)
  (fun _ _ _ _ _ _=>trivial) (fun s self _=>by
   show spec_l9At.b0 _ _ _ _=_;unfold spec_l9At.b0;simp only[bP,aF,aG]
   rfl) () trivial k (by omega)
 rw[forI_where (fun b:Buffer=>decide (b.1=t))] at this;exact this
theorem implMAt_eq (m:Miner) (t:Int) (h:List.length m.2.1<=1048576):impl_Miner_open.sem (m,t,())=some (txB m.2.1 t,()):=by
 have hone:∀ b:Buffer,impl_Miner_open_1.sem (b,t,())=some (decide (b.1=t),()):=fun b=>by
  refine lift_eq (k:=0) fun k hk=>(impl_Miner_open_1.raw_eq k _).trans ?_;rfl
 have hidx:∀ f:Nat,slices_IndexFunc_Buffer.sem (m.2.1,((f,t):Nat×Int),())=some (txB m.2.1 t,()):=fun f=>by
  refine lift_eq (k:=1048577) fun k hk=>(slices_IndexFunc_Buffer.raw_eq k _).trans ?_
  have:=for_loop (B:=fun self v=>slices_IndexFunc_Buffer.b0 self (fun z=>slices_IndexFunc_Buffer.q0 (m.2.1,(f,t),()) z) (m.2.1,(f,t),()) v) m.2.1 (fun (_:Unit) (i:Int)=>i) (fun i _ b=>if decide (b.1=t) then .inl ((i:Int),()) else .inr ()) (fun _=>((-1:Int),())) (fun _ _=>True) (by rw[maxLen_val];omega)
   (fun i hi s self _=>by
    show slices_IndexFunc_Buffer.b0 _ _ _ _=_;unfold slices_IndexFunc_Buffer.b0;have hlt:(i:Int) < (List.length m.2.1:Int):=by omega
    simp only[hlt,aE,aL,aN,aH,aI,aA hi,aB,hone]
    cases decide ((m.2.1[i]).1=t) <;> rfl)
   (fun _ _ _ _ _ _=>trivial) (fun s self _=>by
    show slices_IndexFunc_Buffer.b0 _ _ _ _=_;unfold slices_IndexFunc_Buffer.b0;simp only[bP,aF,aG]
    rfl) () trivial k (by omega)
  rw[forI_where (fun b:Buffer=>decide (b.1=t))] at this;exact this
 refine lift_eq (k:=0) fun k hk=>(impl_Miner_open.raw_eq k _).trans ?_;show impl_Miner_open.p _=_;unfold impl_Miner_open.p;rw[hidx];rfl
theorem specMiner_eq (m:Miner) (h:okM m):spec_l9Fault.sem (m,())=some (minerF m,()):=by
 refine lift_eq (k:=1048577) fun k hk=>(spec_l9Fault.raw_eq k _).trans ?_;unfold spec_l9Fault.p minerF;rw[specView_eq m.1 h.pages];simp only[aB];by_cases hv:viewC m.1=0;rotate_left
 ·simp only[hv,aF,bG,aL,aM]
 simp only[hv,aE,aQ,aG,aH];by_cases h8:8 < List.length m.2.1
 ·have:(8:Int) < (List.length m.2.1:Int):=by omega
  simp only[this,h8,aE,aL,aH]
 have h8':¬ ((8:Int) < (List.length m.2.1:Int)):=by omega
 simp only[h8,h8',aF,aG,aM];have hb:=h.bl
 exact for_loop (B:=fun self v=>spec_l9Fault.b0 self (fun z=>spec_l9Fault.q0 (m,()) z) (m,()) v) m.2.1 (fun (_:Unit) (i:Int)=>i) (fun i _ b=>openStep m.2.1 i b) (fun _=>((0:Int),())) (fun _ _=>True) (by rw[maxLen_val];omega)
  (fun i hi s self _=>by
   show spec_l9Fault.b0 _ _ _ _=_;unfold spec_l9Fault.b0 openStep;have hlt:(i:Int) < (List.length m.2.1:Int):=by omega
   obtain ⟨g1,g2⟩:=h.buf _ (bC hi);simp only[hlt,aE,aL,aN,aH,aI,aA hi,aB,specIn_eq,specList_eq _ (show List.length (m.2.1[i]).2.1<=maxLen by rw[maxLen_val];omega) g2,specMAt_eq m _ hb];unfold inB
   cases (decide ((1:Int)<=(m.2.1[i]).1)&&decide ((m.2.1[i]).1<=99)) with
   | false=>rfl
   | true=>
    simp only[aQ,aG,aH];by_cases hf:foldF (m.2.1[i]).2.1=0
    ·simp only[hf,aE,aQ,aG,aH]
     by_cases ht:txB m.2.1 (m.2.1[i]).1=(i:Int)
     ·simp only[ht,aE,aQ,aG,aH]
     ·simp only[ht,aF,bG,aL,aM]
    ·simp only[hf,aF,bG,aL,aM])
  (fun _ _ _ _ _ _=>trivial) (fun s self _=>by
   show spec_l9Fault.b0 _ _ _ _=_;unfold spec_l9Fault.b0;simp only[bP,aF,aG]
   rfl) () trivial k (by omega)
theorem implMiner_eq (m:Miner) (h:okM m):impl_MinerFault.sem (m,())=some (minerF m,()):=by
 refine lift_eq (k:=1048577) fun k hk=>(impl_MinerFault.raw_eq k _).trans ?_;unfold impl_MinerFault.p minerF;rw[implPages_eq m.1 h.pages];simp only[aB];by_cases hv:viewC m.1=0;rotate_left
 ·simp only[hv,aF,bG,aL,aM]
 simp only[hv,aE,aQ,aG,aH];by_cases h8:8 < List.length m.2.1
 ·have:(8:Int) < (List.length m.2.1:Int):=by omega
  simp only[this,h8,aE,aL,aH]
 have h8':¬ ((8:Int) < (List.length m.2.1:Int)):=by omega
 simp only[h8,h8',aF,aG,aM];have hb:=h.bl
 exact for_loop (B:=fun self v=>impl_MinerFault.b0 self (fun z=>impl_MinerFault.q0 (m,()) z) (m,()) v) m.2.1 (fun (_:Unit) (i:Int)=>i) (fun i _ b=>openStep m.2.1 i b) (fun _=>((0:Int),())) (fun _ _=>True) (by rw[maxLen_val];omega)
  (fun i hi s self _=>by
   show impl_MinerFault.b0 _ _ _ _=_;unfold impl_MinerFault.b0 openStep;have hlt:(i:Int) < (List.length m.2.1:Int):=by omega
   obtain ⟨g1,g2⟩:=h.buf _ (bC hi);simp only[hlt,aE,aL,aN,aH,aI,aA hi,aB,isTx_eq,folded_eq _ (show List.length (m.2.1[i]).2.1<=maxLen by rw[maxLen_val];omega) g2,implMAt_eq m _ hb];unfold inB
   cases (decide ((1:Int)<=(m.2.1[i]).1)&&decide ((m.2.1[i]).1<=99)) with
   | false=>rfl
   | true=>
    simp only[aQ,aG,aH];by_cases hf:foldF (m.2.1[i]).2.1=0
    ·simp only[hf,aE,aQ,aG,aH];have hle:=where_le (fun b:Buffer=>decide (b.1=(m.2.1[i]).1)) m.2.1 0 i hi (by simp);have hle2:txB m.2.1 (m.2.1[i]).1<=(i:Int):=by unfold txB;omega
     by_cases ht:txB m.2.1 (m.2.1[i]).1=(i:Int)
     ·have:¬ (txB m.2.1 (m.2.1[i]).1 < (i:Int)):=by omega
      rw[cE this,aV ht];rfl
     ·have:txB m.2.1 (m.2.1[i]).1 < (i:Int):=by omega
      rw[bZ this,aY ht];rfl
    ·simp only[hf,aF,bG,aL,aM])
  (fun _ _ _ _ _ _=>trivial) (fun s self _=>by
   show impl_MinerFault.b0 _ _ _ _=_;unfold impl_MinerFault.b0;simp only[bP,aF,aG]
   rfl) () trivial k (by omega)
def connF (c:Connector):Int:=if minerF c.1=0 then (if minerF c.2.2.1=0 then (if inB c.2.1 0 16000&&inB c.2.2.2.1 0 c.2.1 then 0 else 3) else minerF c.2.2.1) else minerF c.1
theorem specConn_eq (c:Connector) (h1:okM c.1) (h2:okM c.2.2.1):spec_l14Fault.sem (c,())=some (connF c,()):=by
 refine lift_eq (k:=0) fun k hk=>(spec_l14Fault.raw_eq k _).trans ?_;show spec_l14Fault.p _=_;unfold spec_l14Fault.p connF;simp only[specMiner_eq _ h1,specMiner_eq _ h2,specIn_eq,aB];by_cases c1:minerF c.1=0;rotate_left
 ·simp only[c1,aF,bG,aL,aM]
 by_cases c2:minerF c.2.2.1=0;rotate_left
 ·simp only[c1,c2,aE,aF,aQ,bG,aL,aG,aH,aM]
 simp only[c1,c2,aE,aQ,aG,aH];unfold inB;cases (decide ((0:Int)<=c.2.1)&&decide (c.2.1<=16000)) <;> cases (decide ((0:Int)<=c.2.2.2.1)&&decide (c.2.2.2.1<=c.2.1)) <;> rfl
theorem implConn_eq (c:Connector) (h1:okM c.1) (h2:okM c.2.2.1):impl_ConnectorFault.sem (c,())=some (connF c,()):=by
 refine lift_eq (k:=0) fun k hk=>(impl_ConnectorFault.raw_eq k _).trans ?_;show impl_ConnectorFault.p _=_;unfold impl_ConnectorFault.p connF;simp only[implMiner_eq _ h1,implMiner_eq _ h2,implIn_eq,aB];by_cases c1:minerF c.1=0;rotate_left
 ·simp only[c1,aF,bG,aL,aM]
 by_cases c2:minerF c.2.2.1=0;rotate_left
 ·simp only[c1,c2,aE,aF,aQ,bG,aL,aG,aH,aM]
 simp only[c1,c2,aE,aQ,aG,aH];unfold inB;cases (decide ((0:Int)<=c.2.1)&&decide (c.2.1<=16000)) <;> cases (decide ((0:Int)<=c.2.2.2.1)&&decide (c.2.2.2.1<=c.2.1)) <;> rfl
theorem right_gp {ps:Pgs} (h:rightP ps):gp ps:=⟨h.1,fun p hp=>(h.2 p hp).len⟩
structure fineM (m:Miner):Prop where
 pages:gp m.1
 bl:List.length m.2.1<=1048576
 buf:∀ b ∈ (m.2.1:List Buffer),List.length b.2.1<=1048576
theorem okM_of {m:Miner} (hv:okD tMiner m) (hz:zz tMiner m<=1048576):okM m:=by
 have h0:zz tMiner m=zz (.slc (.slc u8)) m.1+(zz (.slc tBuffer) m.2.1+0):=rfl;have h1:List.length m.1<=zz (.slc (.slc u8)) m.1:=zz_len (e:=.slc u8) m.1;have h2:List.length m.2.1<=zz (.slc tBuffer) m.2.1:=zz_len (e:=tBuffer) m.2.1;refine ⟨by omega,fun p hp=>?_,by omega,fun b hb=>⟨?_,fun c hc=>?_⟩⟩
 ·have h3:=zz_mem (e:=.slc u8) hp;have h4:List.length p<=zz (.slc u8) p:=zz_len (e:=u8) p;rw[maxLen_val];omega
 ·have h3:=zz_mem (e:=tBuffer) hb;have h4:zz tBuffer b=0+(zz (.slc tChange) b.2.1+0):=rfl;have h5:List.length b.2.1<=zz (.slc tChange) b.2.1:=zz_len (e:=tChange) b.2.1;omega
 ·exact cl_ok ((hv.2.1.2 b hb).2.1.2 c hc)
abbrev sent0:Sent:=((0:Int),(0:Int),([]:List Change),())
abbrev miner0:Miner:=(([]:List (List UInt8)),([]:List Buffer),())
abbrev conn0:Connector:=(miner0,(0:Int),miner0,(0:Int),())
def badConn (k:Int):ConnectorResult:=(k,false,sent0,conn0,())
theorem connF_zero {c:Connector} (h:connF c=0):minerF c.1=0/\minerF c.2.2.1=0:=by
 unfold connF at h;split at h
 ·rename_i h1;split at h
  ·rename_i h2;exact ⟨h1,h2⟩
  ·rename_i h2;exact absurd h h2
 ·rename_i h1;exact absurd h h1
end OT
namespace OT
open Go
theorem specBuffers_eq (xs:List Buffer) (hl:xs.length<=1048576) (h:∀ b ∈ xs,List.length b.2.1<=1048576):spec_l9Buffers.sem (xs,())=some (xs,()):=by
 refine lift_eq (k:=1048577) fun k hk=>(spec_l9Buffers.raw_eq k _).trans ?_
 have:=for_loop (B:=fun self v=>spec_l9Buffers.b0 self (fun z=>spec_l9Buffers.q0 (xs,()) z) (xs,()) v) xs (fun (s:List Buffer) (i:Int)=>(s,i)) (fun _ s b=>.inr (s++[b])) (fun s=>(s,())) (fun i s=>s.length<=i) (by rw[maxLen_val];omega)
  (fun i hi s self hI=>by
   show spec_l9Buffers.b0 _ _ _ _=_;unfold spec_l9Buffers.b0;have hlt:(i:Int) < (xs.length:Int):=by omega
   have hb:=h _ (bC hi);simp only[hlt,aE,aL,aN,aH,aI,aA hi,aB];rw[aV (cap_ok (by simp only[aZ];omega)),aV (cap_ok (by simp only[aP,aZ];omega))]
   rfl)
  (fun i hi s s' hI hf=>by
   injection hf with hf;subst hf
   rw[aU,aP,aZ];omega) (fun s self _=>by
   show spec_l9Buffers.b0 _ _ _ _=_;unfold spec_l9Buffers.b0;simp only[bP,aF,aG]
   rfl) [] (by simp) k (by omega)
 rw[forI_fold,fold_self] at this;exact this
theorem specMCopy_eq (m:Miner) (h:fineM m):spec_l9Copy.sem (m,())=some (m,()):=by
 refine lift_eq (k:=0) fun k hk=>(spec_l9Copy.raw_eq k _).trans ?_;show spec_l9Copy.p _=_;unfold spec_l9Copy.p;simp only[specCopies_eq m.1 h.pages,specBuffers_eq m.2.1 h.bl h.buf,aB]
theorem specBadC_eq (k:Int):spec_l14Bad.sem (k,())=some (badConn k,()):=by
 refine lift_eq (k:=0) fun k hk=>(spec_l14Bad.raw_eq k _).trans ?_;rfl
end OT
namespace OT
open Go
theorem implMOwn_eq (m:Miner) (h:fineM m):impl_Miner_own.sem (m,())=some (m,()):=by
 refine lift_eq (k:=1048577) fun k hk=>(impl_Miner_own.raw_eq k _).trans ?_;unfold impl_Miner_own.p;rw[implCopies_eq m.1 h.pages];simp only[aB]
 have hone:∀ b:Buffer,List.length b.2.1<=1048576->impl_ownBuffer.sem (b,())=some (b,()):=fun b hb=>by
  refine lift_eq (k:=0) fun k hk=>(impl_ownBuffer.raw_eq k _).trans ?_;show impl_ownBuffer.p _=_;unfold impl_ownBuffer.p;rw[cloneChange_eq _ hb];rfl
 have hb:=h.bl
 have:=for_loop (B:=fun self v=>impl_Miner_own.b0 self (fun z=>impl_Miner_own.q0 (m,()) z) (m,()) v) m.2.1 (fun (s:List Buffer) (i:Int)=>(((m.1,s,()):Miner),i)) (fun _ s b=>.inr (s++[b])) (fun s=>(((m.1,s,()):Miner),())) (fun i s=>s.length<=i) (by rw[maxLen_val];omega)
  (fun i hi s self hI=>by
   show impl_Miner_own.b0 _ _ _ _=_;unfold impl_Miner_own.b0;have hlt:(i:Int) < (List.length m.2.1:Int):=by omega
   simp only[hlt,aE,aL,aN,aH,aI,aA hi,aB,hone _ (h.buf _ (bC hi))]
   rw[aV (cap_ok (by simp only[aP,aZ];omega))])
  (fun i hi s s' hI hf=>by
   injection hf with hf;subst hf
   rw[aU,aP,aZ];omega) (fun s self _=>by
   show impl_Miner_own.b0 _ _ _ _=_;unfold impl_Miner_own.b0;simp only[bP,aF,aG]
   rfl) [] (by simp) k (by omega)
 rw[forI_fold,fold_self] at this;exact this
end OT
namespace OT
open Go
theorem pathB_self:∀ p:Path,pathB p p=true
 | []=>rfl
 | .fst::p=>pathB_self p
 | .snd::p=>pathB_self p
 | .idx i::p=>by simp[pathB,pathB_self p]
 | .aix i::p=>by simp[pathB,pathB_self p]
theorem where_some {α:Type} (p:α->Bool):∀ (xs:List α) (i:Nat),whereF p i xs=-1\/∃ (j:Nat) (hj:j < xs.length),whereF p i xs=((i+j:Nat):Int)/\p xs[j]=true
 | [],i=>.inl rfl
 | x::xs,i=>by
  simp only[whereF];by_cases hx:p x=true
  ·rw[aV hx];exact .inr ⟨0,by simp,by simp,hx⟩
  ·rw[aY hx]
   rcases where_some p xs (i+1) with h | ⟨j,hj,h1,h2⟩
   ·exact .inl h
   ·exact .inr ⟨j+1,by simpa using hj,by rw[h1];congr 1;omega,h2⟩
theorem txB_some (xs:List Buffer) (t:Int):txB xs t=-1\/∃ (j:Nat) (hj:j < xs.length),txB xs t=(j:Int)/\(xs[j]).1=t:=by
 rcases where_some (fun b:Buffer=>decide (b.1=t)) xs 0 with h | ⟨j,hj,h1,h2⟩
 ·exact .inl h
 ·exact .inr ⟨j,hj,by rw[txB,h1,bD],by simpa using h2⟩
abbrev badM (k:Int):MinerResult:=(k,false,false,(0:Int),([]:List Change),miner0,())
def tl2 (T:Nat) (c:Change):Prop:=List.length c.2.1.2.2.2.1<=T/\List.length c.2.2.2.1.2.2.2.1<=T
abbrev okB2 (T:Nat) (b:Buffer):Prop:=List.length b.2.1<=61/\∀ c ∈ (b.2.1:List Change),tl2 T c
theorem tl2_cl {T:Nat} {c:Change} (hT:T<=1048576) (h:tl2 T c):cl c:=⟨by unfold rl;rw[maxLen_val];have:=h.1;omega,by unfold rl;rw[maxLen_val];have:=h.2;omega⟩
structure goodM (T:Nat) (m:Miner):Prop where
 lo:64<=T
 hi:T<=1048576
 view:viewC m.1=0
 bl:List.length m.2.1<=8
 buf:∀ b ∈ (m.2.1:List Buffer),okB2 T b
theorem goodM.gp {T:Nat} {m:Miner} (h:goodM T m):gp m.1:=right_gp (view_ok h.view).right
theorem goodM.fine {T:Nat} {m:Miner} (h:goodM T m):fineM m:=⟨h.gp,by have:=h.bl;omega,fun b hb=>by have:=(h.buf b hb).1;omega⟩
theorem gp_max {ps:Pgs} (h:gp ps):∀ p ∈ ps,p.length<=maxLen:=fun p hp=>by rw[h.2 p hp,maxLen_val];omega
def bufG (j:Nat) (s:List Buffer) (c:Change):Sum (MinerResult×Unit) (List Buffer):=match s[j]? with
 | some b=>if (foldC b.2.1 c).1=0 then .inr (s.set j (b.1,(foldC b.2.1 c).2.1,b.2.2)) else .inl (badM (foldC b.2.1 c).1,())
 | none=>.inl (badM 4,())
def bufZ (ps:Pgs) (s:List Buffer):MinerResult×Unit:=(((0:Int),false,false,(0:Int),([]:List Change),(ps,s,()),()),())
def bufsF (j:Nat) (ps:Pgs) (s:List Buffer) (list:List Change):MinerResult:=(forI (fun _ s c=>bufG j s c) (bufZ ps) 0 list s).1
def bufsOk (T n:Nat) (s:List Buffer):Prop:=s.length=n/\∀ b ∈ s,okB2 T b
theorem foldC_ok {T:Nat} {xs:List Change} {c:Change} (hx:∀ x ∈ xs,tl2 T x) (hc:tl2 T c):okB2 T ((0:Int),(foldC xs c).2.1,()):=by
 unfold foldC;split
 ·rename_i hf;have h60:=(foldF_good hf).2.2;split
  ·cases h:fold1 xs c with
   | none=>exact ⟨aW _,fun x hx=>by cases hx⟩
   | some r=>
    have:=fold1_len h;exact ⟨by simp only;omega,fold1_all h hx hc fun x hx'=>⟨(hx x hx').1,hc.2⟩⟩
  ·exact ⟨aW _,fun x hx=>by cases hx⟩
 ·exact ⟨aW _,fun x hx=>by cases hx⟩
theorem bufG_ok {T j n:Nat} {s s':List Buffer} {c:Change} (h:bufsOk T n s) (hc:tl2 T c) (he:bufG j s c=.inr s'):bufsOk T n s':=by
 unfold bufG at he;split at he
 ·rename_i b hb;split at he
  ·injection he with he;subst he;have hbm:=h.2 b (bW hb);have hf:=foldC_ok (c:=c) hbm.2 hc;refine ⟨by rw[cY];exact h.1,fun y hy=>?_⟩
   rcases gR hy with hy | rfl
   ·exact h.2 y hy
   ·exact hf
  ·cases he
 ·cases he
def endM (m:Miner) (r:Record):MinerResult:=match m.2.1[(txB m.2.1 r.2.1).toNat]? with
 | some b=>((0:Int),true,decide (r.1=5),r.2.1,b.2.1,(m.1,m.2.1.take (txB m.2.1 r.2.1).toNat++m.2.1.drop ((txB m.2.1 r.2.1).toNat+1),()),())
 | none=>badM 4
def turnM (m:Miner) (r:Record):MinerResult:=match stepF m.1 r with
 | .inl c=>badM c
 | .inr ps=>if viewC ps=0 then (if r.1=4 then (if mrgF (rowsV m.1) (rowsV ps)=[] then ((0:Int),false,false,(0:Int),([]:List Change),(ps,m.2.1,()),()) else badM 8) else
   if txB m.2.1 r.2.1 < 0 then badM 4 else bufsF (txB m.2.1 r.2.1).toNat ps m.2.1 (mrgF (rowsV m.1) (rowsV ps))) else badM (viewC ps)
def stepM (m:Miner) (r:Record):MinerResult:=if recF r=0 then
    (if r.1=1 then (if 0<=txB m.2.1 r.2.1 then badM 6 else if 8<=(List.length m.2.1:Int) then badM 2 else ((0:Int),false,false,(0:Int),([]:List Change),(m.1,m.2.1++[(r.2.1,([]:List Change),())],()),()))
     else if r.1=5\/r.1=6 then (if txB m.2.1 r.2.1 < 0 then badM 4 else endM m r) else turnM m r)
 else badM (recF r)
theorem stepF_ps {ps ps':Pgs} {r:Record} (hp:gp ps) (h:stepF ps r=.inr ps'):gp ps':=stepF_good hp h
theorem mrg_tl {T:Nat} (hT:64<=T) {B A:Pgs} (hB:viewC B=0) (hA:viewC A=0):∀ c ∈ mrgF (rowsV B) (rowsV A),tl2 T c:=fun c hc=>by
 have:=mrg_rows (q:=fun r=>List.length r.2.2.2.1<=64) (aW _) _ _ _ (rt_rows hB) (rt_rows hA) c hc;exact ⟨by have:=this.1;omega,by have:=this.2;omega⟩
theorem mrg_small {B A:Pgs} (hB:viewC B=0) (hA:viewC A=0):(mrgF (rowsV B) (rowsV A)).length<=384:=by
 have h1:=rows_len hB;have h2:=rows_len hA
 have:=mrgF_len ((rowsV B).length+(rowsV A).length) (rowsV B) (rowsV A);unfold mrgF;omega
theorem delB_eq (xs:List Buffer) (i:Nat) (hi:i < xs.length) (hl:xs.length<=1000):slices_Delete_Buffer.sem (xs,(i:Int),w64 ((i:Int)+1),())=some (xs.take i++xs.drop (i+1),()):=by
 rw[w64_in (by omega)]
 have h1:(0:Int)<=(i:Int)/\(i:Int)<=(i:Int)+1/\(i:Int)+1<=(xs.length:Int):=⟨by omega,by omega,by omega⟩
 show (if (0:Int)<=(i:Int)/\(i:Int)<=(i:Int)+1/\(i:Int)+1<=(xs.length:Int) then some (xs.take (i:Int).toNat++xs.drop ((i:Int)+1).toNat,()) else none)=_;rw[aV h1];rfl
theorem delIn_one (j:Nat) (h:j<=1000):delIn (j:Int) (w64 ((j:Int)+1)) j=true:=by
 rw[w64_in (by omega)];simp only[delIn,aC,bU];omega
theorem kinds {r:Record} (h:recF r=0) (h1:¬ r.1=1) (h5:¬ r.1=5) (h6:¬ r.1=6):r.1=2\/r.1=3\/r.1=4:=by
 have:=recF_good h;omega
theorem implStep_eq {T:Nat} {m:Miner} (r:Record) (h:goodM T m):impl_Miner_step.sem (m,r,())=some (stepM m r,()):=by
 have hbl:=h.bl;refine lift_eq (k:=3000) fun k hk=>(impl_Miner_step.raw_eq k _).trans ?_;unfold impl_Miner_step.p stepM;simp only[implRec_eq,aB];by_cases hr:recF r=0;rotate_left
 ·simp only[hr,aF,bG,aL,aM]
 simp only[hr,aE,aQ,aG,aH,implMAt_eq m _ (show List.length m.2.1<=1048576 by omega),implMOwn_eq m h.fine,aB]
 have hend:∀ b:Bool,¬ txB m.2.1 r.2.1 < 0->b=decide (r.1=5)->(if 0<=txB m.2.1 r.2.1/\txB m.2.1 r.2.1 < (List.length m.2.1:Int) then ((m.2.1[(txB m.2.1 r.2.1).toNat]?).bind fun x6=>(m.2.1[(txB m.2.1 r.2.1).toNat]?).bind fun x7=>(m.2.1[(txB m.2.1 r.2.1).toNat]?).bind fun x8=>bif delIn (txB m.2.1 r.2.1) (w64 (txB m.2.1 r.2.1+(1:Int))) (txB m.2.1 r.2.1).toNat then ((slices_Delete_Buffer.sem (m.2.1.set (txB m.2.1 r.2.1).toNat x8,txB m.2.1 r.2.1,w64 (txB m.2.1 r.2.1+(1:Int)),())).bind fun r9=>some (((0:Int),true,b,x7.1,x7.2.1,(m.1,r9.1,m.2.2),()),())) else none) else none)=some (endM m r,()):=fun b h0 hb=>by
  rcases txB_some m.2.1 r.2.1 with e | ⟨j,hj,e,ht⟩
  ·rw[e] at h0;exact absurd (by decide) h0
  ·unfold endM;rw[e];simp only[aI,aA hj,aB,delIn_one j (by omega),aL,List.set_getElem_self,delB_eq m.2.1 j hj (by omega),ht,hb];rw[aV ⟨by omega,by omega⟩]
 by_cases h1:r.1=1
 ·simp only[h1,aE,aL,aH];by_cases h2:0<=txB m.2.1 r.2.1
  ·simp only[h2,aE,aL,aH]
  ·simp only[h2,aF,aG,aM]
   by_cases h3:8<=(List.length m.2.1:Int)
   ·simp only[h3,aE,aL,aH]
   ·simp only[h3,aF,aG,aM];rw[aV (cap_ok (by simp only[aP,aZ];omega))]
 simp only[h1,aF,aG,aM];by_cases h5:r.1=5
 ·simp only[h5,aE,aL,jL,aH];by_cases h2:txB m.2.1 r.2.1 < 0
  ·simp only[h2,aE,aL,aH]
  ·simp only[h2,aF,aG,aM];exact hend true h2 (by rw[h5];rfl)
 simp only[h5,aF,aG,jG];by_cases h6:r.1=6
 ·simp only[h6,aE,aL,aH];by_cases h2:txB m.2.1 r.2.1 < 0
  ·simp only[h2,aE,aL,aH]
  ·simp only[h2,aF,aG,aM];exact hend _ h2 (by rw[h6];rfl)
 simp only[h6,aF,aG,aM];unfold turnM;simp only[implRecorded_eq m.1 r h.gp hr,aB]
 cases hs:stepF m.1 r with
 | inl c=>
  have:=stepF_bad hs;simp only[this,aF,bG,aL]
 | inr ps=>
  have hgp:=stepF_ps h.gp hs;simp only[aE,aQ,aG,implView_eq ps (gp_max hgp),aB];by_cases hv:viewC ps=0;rotate_left
  ·simp only[hv,aF,bG,aL,aM]
  have hl1:=viewL_len (view_ok h.view);have hl2:=viewL_len (view_ok hv)
  simp only[hv,aE,aQ,aG,aH,implView_eq m.1 (gp_max h.gp),seenRows_eq _ (show (viewL m.1).length<=1000 by omega),seenRows_eq _ (show (viewL ps).length<=1000 by omega),aB];have hbt:impl_between.sem ((viewL m.1).map (·.1),(viewL ps).map (·.1),())=some (mrgF (rowsV m.1) (rowsV ps),()):=implBetween_eq (rowsV m.1) (rowsV ps) (by have:=rows_len h.view;omega) (by have:=rows_len hv;omega);simp only[hbt,implCopies_eq ps hgp,aB];by_cases h4:r.1=4
  ·simp only[h4,aE,aQ,aL,aG,aH]
   cases hm:mrgF (rowsV m.1) (rowsV ps) with
   | nil=>rfl
   | cons x xs=>
    have:(0:Int) < ((x::xs).length:Int):=by simp only[aP];omega
    simp only[this,aE,aL,reduceCtorEq,aM]
  simp only[h4,aF,bG,aL,aG,aM];by_cases h2:txB m.2.1 r.2.1 < 0
  ·simp only[h2,aE,aL,aH]
  simp only[h2,aF,aG,aM]
  rcases txB_some m.2.1 r.2.1 with e | ⟨j,hj,e,ht⟩
  ·rw[e] at h2;exact absurd (by decide) h2
  rw[e];simp only[aI];have hcl:=mrg_tl h.lo h.view hv;have hsm:=mrg_small h.view hv;generalize mrgF (rowsV m.1) (rowsV ps)=list at hcl hsm
  have:=for_loop (B:=fun self v=>impl_Miner_step.b0 self (fun z=>impl_Miner_step.q0 (m,r,()) (j:Int) list (list.length:Int) z) (m,r,()) (j:Int) list (list.length:Int) v) list (fun (s:List Buffer) (i:Int)=>(((ps,s,()):Miner),i)) (fun _ s c=>bufG j s c) (bufZ ps) (fun i s=>bufsOk T (List.length m.2.1) s) (by rw[maxLen_val];omega)
   (fun i hi s self hI=>by
    show impl_Miner_step.b0 _ _ _ _ _ _ _=_;unfold impl_Miner_step.b0 bufG;have hlt:(i:Int) < (list.length:Int):=by omega
    have hjs:j < s.length:=by rw[hI.1];exact hj
    have hjs':(j:Int) < (s.length:Int):=by omega
    have hb:=hI.2 _ (bC hjs);simp only[hlt,hjs',aE,aL,aN,dZ,aH,aI,aA hi,aA hjs,aB,pathB_self,fQ,implFold_eq _ _ (show List.length (s[j]).2.1<=1048576 by have:=hb.1;omega) (fun x hx=>tl2_cl h.hi (hb.2 x hx)) (tl2_cl h.hi (hcl _ (bC hi)))];by_cases hf:(foldC (s[j]).2.1 list[i]).1=0
    ·simp only[hf,aE,aQ,aG,aH]
    ·simp only[hf,aF,bG,aL,aM])
   (fun i hi s s' hI hf=>bufG_ok hI (hcl _ (bC hi)) hf) (fun s self _=>by
    show impl_Miner_step.b0 _ _ _ _ _ _ _=_;unfold impl_Miner_step.b0;simp only[bP,aF,aG]
    rfl) m.2.1 ⟨rfl,h.buf⟩ k (by omega)
  exact this
theorem specBadM_eq (c:Int):spec_l9Bad.sem (c,())=some (badM c,()):=by
 refine lift_eq (k:=0) fun k hk=>(spec_l9Bad.raw_eq k _).trans ?_;rfl
theorem specEnd_eq {T:Nat} {m:Miner} (r:Record) (h:goodM T m):spec_l9End.sem (m,r,())=some (if txB m.2.1 r.2.1 < 0 then badM 4 else endM m r,()):=by
 have hbl:=h.bl;refine lift_eq (k:=0) fun k hk=>(spec_l9End.raw_eq k _).trans ?_;show spec_l9End.p _=_;unfold spec_l9End.p endM;simp only[specMAt_eq m _ (show List.length m.2.1<=1048576 by omega),specBadM_eq,aB];by_cases h2:txB m.2.1 r.2.1 < 0
 ·simp only[h2,aE,aL,aH]
 simp only[h2,aF,aG,aM,specMCopy_eq m h.fine,aB]
 rcases txB_some m.2.1 r.2.1 with e | ⟨j,hj,e,ht⟩
 ·rw[e] at h2;exact absurd (by decide) h2
 rw[e,w64_in (by omega)];have hcap:∀ l:List Buffer,l.length<=1000->([]:List Buffer).length+l.length<=CAP:=fun l hl=>cap_ok (by simp only[aZ];omega);rw[aV ⟨by omega,by omega⟩];simp only[aI,show ((j:Int)+1).toNat=j+1 from by omega,eZ,cH,eQ];rw[aV (hcap _ (by rw[bS];omega)),aV (by omega),aA hj];simp only[aB];rw[aV ⟨by omega,by omega⟩,aV (cap_ok (by rw[bS,bM];omega))]
theorem specTurn_eq {T:Nat} {m:Miner} (r:Record) (h:goodM T m) (hr:recF r=0):spec_l9Turn.sem (m,r,())=some (turnM m r,()):=by
 have hbl:=h.bl;refine lift_eq (k:=3000) fun k hk=>(spec_l9Turn.raw_eq k _).trans ?_;unfold spec_l9Turn.p turnM;simp only[specRecord_eq m.1 r h.gp,specBadM_eq,aB]
 cases hs:stepF m.1 r with
 | inl c=>
  have:=stepF_bad hs;simp only[this,aF,bG,aL]
 | inr ps=>
  have hgp:=stepF_ps h.gp hs;simp only[aE,aQ,aG,specView_eq ps (gp_max hgp),aB];by_cases hv:viewC ps=0;rotate_left
  ·simp only[hv,aF,bG,aL,aM]
  simp only[hv,aE,aQ,aG,aH,specRowsIn_eq h.view,specRowsIn_eq hv,specChanges_eq (rowsV m.1) (rowsV ps) (rowsV_up (view_ok h.view)) (rowsV_up (view_ok hv)) (by have:=rows_len h.view;omega) (by have:=rows_len hv;omega),specMCopy_eq m h.fine,specMAt_eq m _ (show List.length m.2.1<=1048576 by omega),aB];by_cases h4:r.1=4
  ·simp only[h4,aE,aL,aH]
   cases hm:mrgF (rowsV m.1) (rowsV ps) with
   | nil=>rfl
   | cons x xs=>
    have:(0:Int) < ((x::xs).length:Int):=by simp only[aP];omega
    simp only[this,aE,aL,reduceCtorEq,aM]
  simp only[h4,aF,aG,aM];by_cases h2:txB m.2.1 r.2.1 < 0
  ·simp only[h2,aE,aL,aH]
  simp only[h2,aF,aG,aM]
  rcases txB_some m.2.1 r.2.1 with e | ⟨j,hj,e,ht⟩
  ·rw[e] at h2;exact absurd (by decide) h2
  rw[e];simp only[aI];have hcl:=mrg_tl h.lo h.view hv;have hsm:=mrg_small h.view hv;generalize mrgF (rowsV m.1) (rowsV ps)=list at hcl hsm
  have:=for_loop (B:=fun self v=>spec_l9Turn.b0 self (fun z=>spec_l9Turn.q0 (m,r,()) list (j:Int) z) (m,r,()) list (j:Int) v) list (fun (s:List Buffer) (i:Int)=>(((ps,s,()):Miner),i)) (fun _ s c=>bufG j s c) (bufZ ps) (fun i s=>bufsOk T (List.length m.2.1) s) (by rw[maxLen_val];omega)
   (fun i hi s self hI=>by
    show spec_l9Turn.b0 _ _ _ _ _ _=_;unfold spec_l9Turn.b0 bufG;have hlt:(i:Int) < (list.length:Int):=by omega
    have hjs:j < s.length:=by rw[hI.1];exact hj
    have hjs':(j:Int) < (s.length:Int):=by omega
    have hb:=hI.2 _ (bC hjs);simp only[hlt,hjs',aE,aL,aN,dZ,aH,aI,aA hi,aA hjs,aB,pathB_self,fQ,specFold_eq _ _ (show List.length (s[j]).2.1<=1048576 by have:=hb.1;omega) (fun x hx=>tl2_cl h.hi (hb.2 x hx)) (tl2_cl h.hi (hcl _ (bC hi))),specBadM_eq];by_cases hf:(foldC (s[j]).2.1 list[i]).1=0
    ·simp only[hf,aE,aQ,aG,aH]
    ·simp only[hf,aF,bG,aL,aM])
   (fun i hi s s' hI hf=>bufG_ok hI (hcl _ (bC hi)) hf) (fun s self _=>by
    show spec_l9Turn.b0 _ _ _ _ _ _=_;unfold spec_l9Turn.b0;simp only[bP,aF,aG]
    rfl) m.2.1 ⟨rfl,h.buf⟩ k (by omega)
  exact this
theorem specStep_eq {T:Nat} {m:Miner} (r:Record) (h:goodM T m) (hr:recF r=0):spec_l9Step.sem (m,r,())=some (stepM m r,()):=by
 have hbl:=h.bl;refine lift_eq (k:=0) fun k hk=>(spec_l9Step.raw_eq k _).trans ?_;show spec_l9Step.p _=_;unfold spec_l9Step.p stepM;simp only[hr,aH,specEnd_eq r h,specTurn_eq r h hr,specMAt_eq m _ (show List.length m.2.1<=1048576 by omega),specMCopy_eq m h.fine,specBadM_eq,aB];have hcap:List.length m.2.1+[((r.2.1,([]:List Change),()):Buffer)].length<=CAP:=cap_ok (by simp only[aP,aZ];omega);by_cases h5:r.1=5
 ·simp only[h5,aE,aL,jL,aH,show ¬ ((5:Int)=1) from by decide,aM]
 by_cases h6:r.1=6
 ·simp only[h6,aE,aF,aL,aG,or_true,aH,show ¬ ((6:Int)=1) from by decide,show ¬ ((6:Int)=5) from by decide,aM]
 by_cases h1:r.1=1
 ·simp only[h1,aE,aL,aH,show ¬ ((1:Int)=5) from by decide,show ¬ ((1:Int)=6) from by decide,aF,aG];by_cases h2:0<=txB m.2.1 r.2.1
  ·simp only[h2,aE,aL,aH]
  ·simp only[h2,aF,aG,aM]
   by_cases h3:8<=(List.length m.2.1:Int)
   ·simp only[h3,aE,aL,aH]
   ·simp only[h3,aF,aG,aM,aV hcap]
 simp only[h1,h5,h6,aF,aG,or_self,aM]
end OT
namespace OT
open Go
def goodR (T:Nat) (R:MinerResult):Prop:=(R.1=0->goodM T R.2.2.2.2.2.1)/\okB2 T ((0:Int),R.2.2.2.2.1,())/\zz tMiner R.2.2.2.2.2.1<=2000*T
theorem zz_change {T:Nat} {c:Change} (h:tl2 T c):zz tChange c<=2*T:=by
 have h1:zz tChange c=0+((0+(0+(0+(List.length c.2.1.2.2.2.1+0))))+(0+((0+(0+(0+(List.length c.2.2.2.1.2.2.2.1+0))))+0))):=rfl;have:=h.1;have:=h.2
 omega
theorem zz_changes {T:Nat}:∀ {xs:List Change},(∀ c ∈ xs,tl2 T c)->zz (.slc tChange) xs<=(2*T+1)*xs.length
 | [],_=>aW _
 | c::xs,h=>by
  have h1:zz (.slc tChange) (c::xs)=zz tChange c+1+zz (.slc tChange) xs:=zz_cons (e:=tChange) c xs;have h2:=zz_change (h c bB);have h3:=zz_changes (xs:=xs) fun x hx=>h x (aR _ hx);refine bK (jK h1) ?_;rw[aP,Nat.mul_succ];omega
theorem zz_buffer {T:Nat} {b:Buffer} (h:okB2 T b):zz tBuffer b<=61*(2*T+1):=by
 have h1:zz tBuffer b=0+(zz (.slc tChange) b.2.1+0):=rfl;have h2:=zz_changes h.2;have h3:(2*T+1)*List.length b.2.1<=(2*T+1)*61:=iR _ h.1;omega
theorem zz_buffers {T:Nat}:∀ {xs:List Buffer},(∀ b ∈ xs,okB2 T b)->zz (.slc tBuffer) xs<=(61*(2*T+1)+1)*xs.length
 | [],_=>aW _
 | b::xs,h=>by
  have h1:zz (.slc tBuffer) (b::xs)=zz tBuffer b+1+zz (.slc tBuffer) xs:=zz_cons (e:=tBuffer) b xs;have h2:=zz_buffer (h b bB);have h3:=zz_buffers (xs:=xs) fun x hx=>h x (aR _ hx);refine bK (jK h1) ?_;rw[aP,Nat.mul_succ];omega
theorem zz_miner {T:Nat} {m:Miner} (h:goodM T m):zz tMiner m<=2000*T:=by
 have h1:zz tMiner m=zz (.slc (.slc u8)) m.1+(zz (.slc tBuffer) m.2.1+0):=rfl;have h2:=zz_pages m.1 h.gp;have h3:=zz_buffers h.buf;have h4:(61*(2*T+1)+1)*List.length m.2.1<=(61*(2*T+1)+1)*8:=iR _ h.bl;have:=h.lo;omega
theorem bad_good {T:Nat} {k:Int} (hk:k≠0):goodR T (badM k):=⟨fun h=>absurd h hk,⟨aW _,fun _ h=>by cases h⟩,aW _⟩
theorem good_of {T:Nat} {m:Miner} {a b:Bool} {t:Int} {l:List Change} (h:goodM T m) (hl:okB2 T ((0:Int),l,())):goodR T ((0:Int),a,b,t,l,m,()):=⟨fun _=>h,hl,zz_miner h⟩
theorem bufs_good {T j n:Nat} {ps:Pgs} (hlo:64<=T) (hhi:T<=1048576) (hv:viewC ps=0) (hn:n<=8):∀ (list:List Change) (i:Nat) (s:List Buffer),(∀ c ∈ list,tl2 T c)->bufsOk T n s->goodR T (forI (fun _ s c=>bufG j s c) (bufZ ps) i list s).1
 | [],i,s,_,h=>good_of ⟨hlo,hhi,hv,by show s.length<=8;rw[h.1];exact hn,h.2⟩ ⟨aW _,fun _ h=>by cases h⟩
 | c::list,i,s,hc,h=>by
  simp only[forI]
  cases hg:bufG j s c with
  | inl o=>
   simp only;unfold bufG at hg;split at hg
   ·split at hg
    ·cases hg
    ·rename_i hf;injection hg with hg;subst hg;exact bad_good hf
   ·injection hg with hg;subst hg;exact bad_good (by decide)
  | inr s'=>exact bufs_good hlo hhi hv hn list (i+1) s' (fun x hx=>hc x (aR _ hx)) (bufG_ok h (hc c bB) hg)
theorem stepM_good {T:Nat} {m:Miner} (r:Record) (h:goodM T m):goodR T (stepM m r):=by
 have hnil:okB2 T ((0:Int),([]:List Change),()):=⟨aW _,fun _ h=>by cases h⟩
 unfold stepM;split;rotate_left
 ·rename_i hr;exact bad_good hr
 rename_i hr;split
 ·split
  ·exact bad_good (by decide)
  ·split
   ·exact bad_good (by decide)
   ·rename_i h8;refine good_of ⟨h.lo,h.hi,h.view,?_,fun b hb=>?_⟩ hnil
    ·show (m.2.1++[((r.2.1,([]:List Change),()):Buffer)]).length<=8;rw[aU,aP,aZ];omega
    ·rcases cM.1 hb with hb | hb
     ·exact h.buf b hb
     ·rw[bV] at hb;subst hb;exact hnil
 split
 ·split
  ·exact bad_good (by decide)
  ·unfold endM;split
   ·rename_i b hb;refine good_of ⟨h.lo,h.hi,h.view,?_,fun y hy=>?_⟩ (h.buf b (bW hb))
    ·have:=h.bl;show (m.2.1.take _++m.2.1.drop _).length<=8;rw[aU,bS,bM];omega
    ·rcases cM.1 hy with hy | hy
     ·exact h.buf y (eG hy)
     ·exact h.buf y (dK hy)
   ·exact bad_good (by decide)
 unfold turnM
 cases hs:stepF m.1 r with
 | inl c=>exact bad_good (stepF_bad hs)
 | inr ps=>
  simp only;split;rotate_left
  ·rename_i hv;exact bad_good hv
  rename_i hv;split
  ·split
   ·exact good_of ⟨h.lo,h.hi,hv,h.bl,h.buf⟩ hnil
   ·exact bad_good (by decide)
  split
  ·exact bad_good (by decide)
  exact bufs_good h.lo h.hi hv h.bl _ 0 _ (mrg_tl h.lo h.view hv) ⟨rfl,h.buf⟩
theorem miner0_good:goodM 64 miner0:=⟨aK _,by decide,by decide,aW _,fun _ h=>by cases h⟩
theorem minerF_good {m:Miner} (h:okM m) (hz:zz tMiner m<=1048576) (h0:minerF m=0):goodM 1048576 m:=by
 unfold minerF at h0;split at h0;rotate_left
 ·rename_i hv;exact absurd h0 hv
 rename_i hv;split at h0
 ·cases h0
 rename_i h8
 have hn:=forI_none (f:=fun i (_:Unit) b=>openStep m.2.1 i b) (fun i s x o ho=>by
  unfold openStep at ho;split at ho
  ·split at ho
   ·split at ho
    ·cases ho
    ·injection ho with ho;rw[<-ho];decide
   ·rename_i hx;injection ho with ho;rw[<-ho];exact hx
  ·injection ho with ho;rw[<-ho];decide) m.2.1 0 h0
 refine ⟨by decide,aK _,hv,by omega,fun b hb=>?_⟩
 obtain ⟨i,hi,rfl⟩:=dH.1 hb;have h1:=hn i hi;unfold openStep at h1;have hz1:zz tMiner m=zz (.slc (.slc u8)) m.1+(zz (.slc tBuffer) m.2.1+0):=rfl;have hz2:zz tBuffer m.2.1[i]+1<=zz (.slc tBuffer) m.2.1:=zz_mem (e:=tBuffer) hb;have hz3:zz tBuffer m.2.1[i]=0+(zz (.slc tChange) (m.2.1[i]).2.1+0):=rfl;refine ⟨?_,fun c hc=>?_⟩
 ·split at h1
  ·split at h1
   ·rename_i hf;have:=(foldF_good hf).2.2;omega
   ·cases h1
  ·cases h1
 ·have hz4:zz tChange c+1<=zz (.slc tChange) (m.2.1[i]).2.1:=zz_mem (e:=tChange) hc;have hz5:zz tChange c=0+((0+(0+(0+(List.length c.2.1.2.2.2.1+0))))+(0+((0+(0+(0+(List.length c.2.2.2.1.2.2.2.1+0))))+0))):=rfl;exact ⟨by omega,by omega⟩
end OT
namespace OT
open Go
structure goodC (T:Nat) (c:Connector):Prop where
 live:goodM T c.1
 saved:goodM T c.2.2.1
 lo:0<=c.2.1
 hi:c.2.1<=100000
def pullC (c:Connector) (d:List UInt8):ConnectorResult:=if (d.length:Int)<=c.2.1 then badConn 4 else match readF (d.drop c.2.1.toNat) with
 | none=>badConn 5
 | some (r,n)=>if (stepM c.1 r).1=0 then ((0:Int),(stepM c.1 r).2.2.1,(if (stepM c.1 r).2.2.1 then (c.2.1+(n:Int),(stepM c.1 r).2.2.2.1,(stepM c.1 r).2.2.2.2.1,()) else sent0),((stepM c.1 r).2.2.2.2.2.1,c.2.1+(n:Int),c.2.2.1,c.2.2.2.1,()),()) else badConn (stepM c.1 r).1
theorem pull_cases (T:Nat) {c:Connector} {d:List UInt8} (h:goodC T c) (hd:d.length<=16000):((pullC c d).1≠0/\pullC c d=badConn (pullC c d).1) \/
  ((pullC c d).1=0/\goodC T (pullC c d).2.2.2.1/\c.2.1+7<=(pullC c d).2.2.2.1.2.1/\c.2.1 < (d.length:Int)/\okB2 T ((0:Int),(pullC c d).2.2.1.2.2.1,())/\(pullC c d).2.2.2.1.2.1<=(d.length:Int)):=by
 have hlo:=h.lo;unfold pullC;split
 ·exact .inl ⟨by show (4:Int)≠0;decide,rfl⟩
 rename_i hlt
 cases hr:readF (d.drop c.2.1.toNat) with
 | none=>exact .inl ⟨by show (5:Int)≠0;decide,rfl⟩
 | some q=>
  obtain ⟨r,n⟩:=q;obtain ⟨n7,nd,hrf⟩:=readF_n hr;rw[bM] at nd;have hg:=stepM_good r h.live;simp only;split
  ·rename_i h0;refine .inr ⟨rfl,⟨hg.1 h0,h.saved,by simp only;omega,by simp only;omega⟩,by simp only;omega,by omega,?_,by simp only;omega⟩
   cases hc:(stepM c.1 r).2.2.1 with
   | true=>exact hg.2.1
   | false=>exact ⟨aW _,fun _ h=>by cases h⟩
  ·rename_i h0;exact .inl ⟨h0,rfl⟩
theorem implPull_eq {T:Nat} {c:Connector} {d:List UInt8} (h:goodC T c) (hd:d.length<=16000):impl_Connector_pull.sem (c,d,())=some (pullC c d,()):=by
 have hlo:=h.lo;refine lift_eq (k:=0) fun k hk=>(impl_Connector_pull.raw_eq k _).trans ?_;show impl_Connector_pull.p _=_;unfold impl_Connector_pull.p pullC;by_cases h1:(d.length:Int)<=c.2.1
 ·simp only[h1,aE,aL,aH];rfl
 simp only[h1,aF,aG,aM,eQ];rw[aV ⟨hlo,by omega⟩,implRead_eq _ (by rw[bM];omega)];simp only[aB]
 cases hr:readF (d.drop c.2.1.toNat) with
 | none=>rfl
 | some q=>
  obtain ⟨r,n⟩:=q;obtain ⟨n7,nd,hrf⟩:=readF_n hr;rw[bM] at nd;have hn:¬ ((n:Int)=0):=by omega
  simp only[hn,aF,aG,implStep_eq r h.live,aB];rw[w64_in (by omega)];by_cases h0:(stepM c.1 r).1=0
  ·simp only[h0,aE,aQ,aG,aH];cases (stepM c.1 r).2.2.1 <;> rfl
  ·simp only[h0,aF,bG,aL,aM];rfl
theorem specPull_eq {T:Nat} {c:Connector} {d:List UInt8} (h:goodC T c) (hd:d.length<=16000):spec_l14Pull.sem (c,d,())=some (pullC c d,()):=by
 have hlo:=h.lo;refine lift_eq (k:=0) fun k hk=>(spec_l14Pull.raw_eq k _).trans ?_;show spec_l14Pull.p _=_;unfold spec_l14Pull.p pullC;have h16:¬ ((16000:Int) < (d.length:Int)):=by omega
 simp only[h16,aF,aG,specBadC_eq,aB];by_cases h1:(d.length:Int)<=c.2.1
 ·simp only[h1,aE,aL,aH]
 simp only[h1,aF,aG,aM,eQ];rw[aV ⟨hlo,by omega⟩,specRead_eq _ (by rw[bM];omega)];simp only[aB]
 cases hr:readF (d.drop c.2.1.toNat) with
 | none=>rfl
 | some q=>
  obtain ⟨r,n⟩:=q;obtain ⟨n7,nd,hrf⟩:=readF_n hr;rw[bM] at nd;simp only[aE,aQ,aG,specStep_eq r h.live hrf,specMCopy_eq _ h.saved.fine,aB];rw[w64_in (by omega)];by_cases h0:(stepM c.1 r).1=0
  ·simp only[h0,aE,aQ,aG,aH];cases (stepM c.1 r).2.2.1 <;> rfl
  ·simp only[h0,aF,bG,aL,aM]
theorem conn0_own:impl_Connector_own.sem (conn0,())=some (conn0,()):=by
 refine lift_eq (k:=0) fun k hk=>(impl_Connector_own.raw_eq k _).trans ?_;show impl_Connector_own.p _=_;unfold impl_Connector_own.p;simp only[implMOwn_eq miner0 miner0_good.fine,aB]
theorem conn_own {T:Nat} {c:Connector} (h:goodC T c):impl_Connector_own.sem (c,())=some (c,()):=by
 refine lift_eq (k:=0) fun k hk=>(impl_Connector_own.raw_eq k _).trans ?_;show impl_Connector_own.p _=_;unfold impl_Connector_own.p;simp only[implMOwn_eq _ h.live.fine,implMOwn_eq _ h.saved.fine,aB]
theorem conn_copy {T:Nat} {c:Connector} (h:goodC T c):spec_l14Copy.sem (c,())=some (c,()):=by
 refine lift_eq (k:=0) fun k hk=>(spec_l14Copy.raw_eq k _).trans ?_;show spec_l14Copy.p _=_;unfold spec_l14Copy.p;simp only[specMCopy_eq _ h.live.fine,specMCopy_eq _ h.saved.fine,aB]
theorem connF_good {c:Connector} (h1:okM c.1) (h2:okM c.2.2.1) (hz:zz tConnector c<=1048576) (h0:connF c=0):goodC 1048576 c:=by
 have hz0:zz tConnector c=zz tMiner c.1+(0+(zz tMiner c.2.2.1+(0+0))):=rfl;obtain ⟨a,b⟩:=connF_zero h0
 have hin:inB c.2.1 0 16000=true:=by
  unfold connF at h0;rw[aV a,aV b] at h0;split at h0
  ·rename_i h;simp only[aC] at h;exact h.1
  ·cases h0
 unfold inB at hin;simp only[aC,bU] at hin;exact ⟨minerF_good h1 (by omega) a,minerF_good h2 (by omega) b,by omega,by omega⟩
theorem len16 (d:List UInt8):decide ((16000:Int) < (d.length:Int))=decide (16000 < d.length):=by
 by_cases h:16000 < d.length
 ·have:(16000:Int) < (d.length:Int):=by omega
  simp[h,this]
 ·have:¬ (16000:Int) < (d.length:Int):=by omega
  simp[h,this]
theorem zz_conn {T:Nat} {c:Connector} (h:goodC T c):zz tConnector c<=4000*T:=by
 have hz0:zz tConnector c=zz tMiner c.1+(0+(zz tMiner c.2.2.1+(0+0))):=rfl;have a:=zz_miner h.live;have b:=zz_miner h.saved
 omega
theorem zz_sent {T:Nat} {s:Sent} (h:okB2 T ((0:Int),s.2.2.1,())):zz tSent s<=61*(2*T+1):=by
 have h1:zz tSent s=0+(0+(zz (.slc tChange) s.2.2.1+0)):=rfl;have h2:0+(zz (.slc tChange) s.2.2.1+0)<=61*(2*T+1):=zz_buffer h;omega
abbrev badS3 (k:Int):SentResult:=(k,([]:List Sent),conn0,())
def drainF:Nat->Connector->List Sent->List UInt8->SentResult
 | 0,c,s,_=>((0:Int),s,c,())
 | n+1,c,s,d=>if (pullC c d).1=0 then (if (pullC c d).2.1 then (if 40<=s.length then badS3 2 else drainF n (pullC c d).2.2.2.1 (s++[(pullC c d).2.2.1]) d) else drainF n (pullC c d).2.2.2.1 s d) else ((0:Int),s,c,())
theorem drain_good {T:Nat} (d:List UInt8) (hd:d.length<=16000):∀ (n:Nat) (c:Connector) (s:List Sent),goodC T c->s.length<=40->(∀ x ∈ s,okB2 T ((0:Int),x.2.2.1,()))->drainF n c s d=badS3 2\/((drainF n c s d).1=0/\goodC T (drainF n c s d).2.2.1/\(drainF n c s d).2.1.length<=40/\∀ x ∈ (drainF n c s d).2.1,okB2 T ((0:Int),x.2.2.1,()))
 | 0,c,s,h,hs,hx=>.inr ⟨rfl,h,hs,hx⟩
 | n+1,c,s,h,hs,hx=>by
  unfold drainF
  rcases pull_cases T h hd with ⟨h0,_⟩ | ⟨h0,g,_,_,hso,_⟩
  ·rw[aY h0];exact .inr ⟨rfl,h,hs,hx⟩
  ·rw[aV h0];split
   ·split
    ·exact .inl rfl
    ·refine drain_good d hd n _ _ g (by rw[aU,aP,aZ];omega) fun x hm=>?_;rcases cM.1 hm with hm | hm
     ·exact hx x hm
     ·rw[bV] at hm;subst hm;exact hso
   ·exact drain_good d hd n _ _ g hs hx
theorem implDrain_go {T:Nat} (c0:Connector) (d:List UInt8) (hd:d.length<=16000) (k0:Nat):∀ (n k:Nat) (c:Connector) (s:List Sent),goodC T c->s.length<=40->(d.length:Int) - c.2.1 < (n:Int)->0 < n->n<=k ->
  rawIter (fun w v=>impl_Connector_drain.B0 k0 w (c0,d,()) v) k (c,s)=some ((drainF n c s d).2.1,(drainF n c s d).2.2.1,(drainF n c s d).1,())
 | 0,_,_,_,_,_,_,h0,_=>by omega
 | n+1,0,_,_,_,_,_,_,hk=>by omega
 | n+1,k+1,c,s,h,hs,hn,_,hk=>by
  rw[rawIter_succ];show impl_Connector_drain.b0 _ _ _=_;unfold impl_Connector_drain.b0 drainF;simp only[implPull_eq h hd,aB]
  rcases pull_cases T h hd with ⟨h0,_⟩ | ⟨h0,g,hat,hlt,hso,_⟩
  ·simp only[h0,aF,bG,aL,aM]
  ·simp only[h0,aE,aQ,aG,aH];have c1:∀ y:Sent,s.length+[y].length<=CAP:=fun y=>cap_ok (by simp only[aP,aZ];omega)
   cases hc:(pullC c d).2.1 with
   | true=>
    simp only[aL,aH,c1];by_cases h40:40<=s.length
    ·have h40':(40:Int)<=(s.length:Int):=by omega
     simp only[h40,h40',aE,aL,aH]
    ·have h40':¬ (40:Int)<=(s.length:Int):=by omega
     simp only[h40,h40',aF,aG,aM];exact implDrain_go c0 d hd k0 n k _ _ g (by rw[aU,aP,aZ];omega) (by omega) (by omega) (by omega)
   | false=>
    simp only[aG,aD,aM];exact implDrain_go c0 d hd k0 n k _ _ g hs (by omega) (by omega) (by omega)
theorem specDrain_go {T:Nat} (c0:Connector) (d:List UInt8) (hd:d.length<=16000) (k0:Nat):∀ (n k:Nat) (c:Connector) (s:List Sent),goodC T c->s.length<=40->(d.length:Int) - c.2.1 < (n:Int)->0 < n->n<=k ->
  rawIter (fun w v=>spec_DrainLog.B0 k0 w (c0,d,()) v) k ((0:Int),s,c,())=some (drainF n c s d,())
 | 0,_,_,_,_,_,_,h0,_=>by omega
 | n+1,0,_,_,_,_,_,_,hk=>by omega
 | n+1,k+1,c,s,h,hs,hn,_,hk=>by
  rw[rawIter_succ];show spec_DrainLog.b0 _ _ _=_;unfold spec_DrainLog.b0 drainF;simp only[specPull_eq h hd,aB]
  rcases pull_cases T h hd with ⟨h0,_⟩ | ⟨h0,g,hat,hlt,hso,_⟩
  ·simp only[h0,aF,bG,aL,aM]
  ·simp only[h0,aE,aQ,aG,aH];have c1:∀ y:Sent,s.length+[y].length<=CAP:=fun y=>cap_ok (by simp only[aP,aZ];omega)
   cases hc:(pullC c d).2.1 with
   | true=>
    simp only[aL,aH,c1];have hl:((s++[(pullC c d).2.2.1]).length:Int)=(s.length:Int)+1:=by rw[aU,aP,aZ];omega
    rw[hl];by_cases h40:40<=s.length
    ·have h40':(40:Int) < (s.length:Int)+1:=by omega
     simp only[h40,h40',aE,aL,aH]
    ·have h40':¬ (40:Int) < (s.length:Int)+1:=by omega
     simp only[h40,h40',aF,aG,aM];exact specDrain_go c0 d hd k0 n k _ _ g (by rw[aU,aP,aZ];omega) (by omega) (by omega) (by omega)
   | false=>
    have h40':¬ (40:Int) < (s.length:Int):=by omega
    simp only[h40',aF,aG,aD,aM];exact specDrain_go c0 d hd k0 n k _ _ g hs (by omega) (by omega) (by omega)
def drainAll (c:Connector) (d:List UInt8):SentResult:=if connF c=0 then (if 16000 < d.length then badS3 2 else drainF 16001 c [] d) else badS3 (connF c)
theorem implDrainL_eq {c:Connector} {d:List UInt8} (h1:okM c.1) (h2:okM c.2.2.1) (hz:zz tConnector c<=1048576):impl_DrainLog.sem (c,d,())=some (drainAll c d,()):=by
 refine lift_eq (k:=0) fun k hk=>(impl_DrainLog.raw_eq k _).trans ?_;show impl_DrainLog.p _=_;unfold impl_DrainLog.p drainAll;simp only[implConn_eq c h1 h2,aB];by_cases h0:connF c=0;rotate_left
 ·simp only[h0,aF,bG,aL,aM]
 simp only[h0,aE,aQ,aG,aH];by_cases h16:16000 < d.length
 ·have hp:impl_Connector_drain.sem (c,d,())=some (([]:List Sent),conn0,(2:Int),()):=by
   refine lift_eq (k:=0) fun k hk=>(impl_Connector_drain.raw_eq k _).trans ?_;unfold impl_Connector_drain.p;simp only[len16,h16,aE,aL]
  simp only[hp,h16,aH,conn0_own,aB]
 have hg:=connF_good h1 h2 hz h0;have hlo:=hg.lo
 have hp:impl_Connector_drain.sem (c,d,())=some ((drainF 16001 c [] d).2.1,(drainF 16001 c [] d).2.2.1,(drainF 16001 c [] d).1,()):=by
  refine lift_eq (k:=16001) fun k hk=>(impl_Connector_drain.raw_eq k _).trans ?_;unfold impl_Connector_drain.p;simp only[len16,h16,aF,aG];exact implDrain_go c d (by omega) k 16001 k c [] hg (aW _) (by omega) (by omega) hk
 simp only[hp,h16,aM,aB]
 rcases drain_good d (show d.length<=16000 by omega) 16001 c [] hg (aW _) (fun _ h=>by cases h) with e | ⟨_,g,_⟩
 ·rw[e];show (impl_Connector_own.sem (conn0,())).bind _=_;rw[conn0_own];rfl
 ·rw[conn_own g];rfl
theorem specDrainL_eq {c:Connector} {d:List UInt8} (h1:okM c.1) (h2:okM c.2.2.1) (hz:zz tConnector c<=1048576):spec_DrainLog.sem (c,d,())=some (drainAll c d,()):=by
 refine lift_eq (k:=16001) fun k hk=>(spec_DrainLog.raw_eq k _).trans ?_;unfold spec_DrainLog.p drainAll;simp only[specConn_eq c h1 h2,len16,aB];by_cases h0:connF c=0;rotate_left
 ·simp only[h0,aF,bG,aL,aM]
 simp only[h0,aE,aQ,aG,aH];by_cases h16:16000 < d.length
 ·simp only[h16,aE,aL,aH]
 have hg:=connF_good h1 h2 hz h0;have hlo:=hg.lo;simp only[h16,aF,aG,aM,conn_copy hg,aB];exact specDrain_go c d (by omega) k 16001 k c [] hg (aW _) (by omega) (by omega) hk
theorem zz_sents {T:Nat}:∀ {s:List Sent},(∀ x ∈ s,okB2 T ((0:Int),x.2.2.1,()))->zz (.slc tSent) s<=(61*(2*T+1)+1)*s.length
 | [],_=>aW _
 | x::s,h=>by
  have h1:zz (.slc tSent) (x::s)=zz tSent x+1+zz (.slc tSent) s:=zz_cons (e:=tSent) x s;have h2:=zz_sent (h x bB);have h3:=zz_sents (s:=s) fun y hy=>h y (aR _ hy);refine bK (jK h1) ?_;rw[aP,Nat.mul_succ];omega
theorem drainAll_small {c:Connector} {d:List UInt8} (h1:okM c.1) (h2:okM c.2.2.1) (hz:zz tConnector c<=1048576):zz tSentResult (drainAll c d)<=50000000000:=by
 have hbad:∀ k:Int,zz tSentResult (badS3 k)<=50000000000:=fun k=>aW _;unfold drainAll;split
 ·rename_i h0;split
  ·exact hbad 2
  ·have hg:=connF_good h1 h2 hz h0
   rcases drain_good d (show d.length<=16000 by omega) 16001 c [] hg (aW _) (fun _ h=>by cases h) with e | ⟨_,g,hl,hx⟩
   ·rw[e];exact hbad _
   ·have h3:zz tSentResult (drainF 16001 c [] d)=0+(zz (.slc tSent) (drainF 16001 c [] d).2.1+(zz tConnector (drainF 16001 c [] d).2.2.1+0)):=rfl;have a:=zz_conn g;have b:=zz_sents hx;have e:(61*(2*1048576+1)+1)*(drainF 16001 c [] d).2.1.length<=(61*(2*1048576+1)+1)*40:=iR _ hl;omega
 ·exact hbad _
theorem zz_bytes:∀ d:List UInt8,zz (.slc u8) d=d.length
 | []=>rfl
 | x::d=>by
  refine (zz_cons (e:=u8) x d).trans ?_;rw[zz_bytes d,aP];show 0+1+_=_;omega
theorem drainLog_true (v:laws_FnExactDrainLog.Arg) (hv:okA laws_FnExactDrainLog.ps v):laws_FnExactDrainLog.sem v=some (true,()):=by
 obtain ⟨c,d,⟨⟩⟩:=v;obtain ⟨hv_c,hv_d,_⟩:=hv;refine lift_eq (k:=0) fun k _=>(laws_FnExactDrainLog.raw_eq k _).trans ?_;show laws_FnExactDrainLog.p _=_;unfold laws_FnExactDrainLog.p;by_cases hd:(1048576:Int) < (d.length:Int)
 ·simp only[hd,aE,aL]
 simp only[hd,aF,aG,szConnector_eq c 1048576 hv_c (show (0:Int)<=1048576 by omega) (by omega),aB];by_cases hz1:((zz tConnector c:Nat):Int)<=1048576;rotate_left
 ·have:lft (1048576) (zz tConnector c)=-1:=aY hz1;simp only[this];rfl
 have e1:lft (1048576) (zz tConnector c)=1048576 - ((zz tConnector c:Nat):Int):=aV hz1;have n1:¬ (1048576 - ((zz tConnector c:Nat):Int) < 0):=by omega
 have hz0:zz tConnector c=zz tMiner c.1+(0+(zz tMiner c.2.2.1+(0+0))):=rfl;have h1:okM c.1:=okM_of hv_c.1 (by omega);have h2:okM c.2.2.1:=okM_of hv_c.2.2.1 (by omega);have hzd:zz (.slc u8) d=d.length:=zz_bytes d;have hR:=drainAll_small (d:=d) h1 h2 (by omega);have hB:BIG=4611686018427387904:=rfl;obtain ⟨k',y,a1,a2,a3,a4⟩:=mhSentResult (drainAll c d) 1 (by omega) (by omega);obtain ⟨l1,w1,b1,c1,d1⟩:=mkConnector c 1 (by omega) (by omega);obtain ⟨l2,w2,b2,c2,d2⟩:=mkByteS d l1 (by omega) (by omega);simp only[e1,n1,aF,aG,toConnector_eq c (by omega),toByteS_eq d (by omega),specDrainL_eq (d:=d) h1 h2 (by omega),implDrainL_eq (d:=d) h1 h2 (by omega),eqSentResult_self (drainAll c d) (by omega),a1,a2,show ¬ k' < 0 by omega,eqConnector_self c (by omega),eqByteS_self d (by omega),b1,b2,show ¬ l2 < 0 by omega,aB,aQ,aE,aL]
end OT
