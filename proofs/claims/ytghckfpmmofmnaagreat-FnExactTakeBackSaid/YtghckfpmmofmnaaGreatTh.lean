/- The proof's parts, merged: Pages of bytes  compacted pages  the walk.. No conditions but those that each states. -/
import Derived.Test.YtghckfpmmofmnaaGreatTg
set_option linter.unusedVariables false
set_option linter.unusedSimpArgs false
set_option linter.unusedSectionVars false
namespace OT
open Go
theorem aaa (a b:List UInt8) (j:Nat):pb (a++b) j=if j < a.length then pb a j else pb b (j - a.length):=by
 unfold pb;simp only[bW];split
 ·rename_i h;rw[cS h]
 ·rename_i h;rw[fO (by omega)]
theorem P2 (n j:Nat):pb (List.replicate n (0:UInt8)) j=0:=by
 unfold pb;simp only[bW,gD];split <;> rfl
section
variable {p:List UInt8} (hp:gt p)
include hp
theorem Nd:oo (List.replicate 64 (0:UInt8)) 0 (min ((p.take (2+2*pn p)).drop 0).length (List.replicate 64 (0:UInt8)).length) ((p.take (2+2*pn p)).drop 0)=ym p:=by
 have hn:=hp.n;have hl:=hp.len;have ht:(p.take (2+2*pn p)).length=2+2*pn p:=by rw[dD];omega
 rw[dV,cR,show min (p.take (2+2*pn p)).length 64=(p.take (2+2*pn p)).length by omega];refine AG ?_ λj hj=>?_
 ·rw[rr _ _ (by rw[cR];omega) (aL _)];unfold ym;rw[bE,cR,cR];omega
 ·rw[Jx (by rw[cR];omega)];unfold ym;rw[aaa,ht,P2,P2];by_cases h:j < 2+2*pn p
  ·rw[aM ⟨by omega,by omega⟩,aM h,Nat.sub_zero]
  ·rw[aP (by omega),aP h]
theorem P3 {k:Nat} (hk:k < pn p) (hz:a_ p k≠0):(jt p k).1.length=64/\a_ p k<=(jt p k).2/\(jt p k).2<=64/\a_ (jt p k).1 k=a_ p k/\2+2*pn p<=(jt p k).2 - a_ p k:=by
 have I:=Du hp k (by omega);have CO:=Dr hp;have hm:=rA p (show k+1<=pn p from hk);have vN:=hp.lo;have ha:=I.a;simp only[mB] at hm;exact ⟨I.len,by omega,by omega,I.sz k hk,by omega⟩
theorem Nf:(jt p (pn p)).1.length=64/\(jt p (pn p)).2<=64:=by
 have I:=Du hp (pn p) (aL _);have ha:=I.a;exact ⟨I.len,by omega⟩
theorem Gq:gj.ab (p,())=some (mh p,()):=by
 have hn:=hp.n;have hl:=hp.len;refine ag (k:=100) λk hk=>(gj.ae k _).trans ?_;unfold gj.p;have g1:(0:Int)<=64/\(64:Int)<=64/\(64:Int)<=(cg:Int):=by unfold cg;omega
 have g2:(0:Int)<=((2+2*pn p:Nat):Int)/\((2+2*pn p:Nat):Int)<=(p.length:Int):=by omega
 simp only[ns hl,aA,AH (show pn p < 1000 by omega),g1,g2,bR,aI,aC];rw[Nd hp]
 have:=og (B:=λself v=>gj.b0 self (λz=>gj.q0 (p,()) (pn p:Int) z) (p,()) (pn p:Int) v) (pn p) (λ(s:List UInt8×Nat) (i:Int)=>(s.1,(s.2:Int),i)) (λx s=>.inr (zy p s x)) (λs=>some (s.1.set 1 (UInt8.ofNat s.2),())) (λi s=>s=jt p i) (by omega)
  (λi hi s self hs=>by
   subst hs;show gj.b0 _ _ _ _ _=_;unfold gj.b0 zy;have ax:(i:Int) < (pn p:Int):=by omega
   simp only[ax,aG,aH,pQ hl (show i < 16 by omega),aA];by_cases hz:a_ p i=0
   ·simp only[hz,fV,aG,aH,aI]
   ·have WB:¬ ((a_ p i:Int)=0):=by omega
    obtain ⟨c1,c2,c3,c4,c5⟩:=P3 hp hi hz;have Ba:=oH hp hi;have hw:af (((jt p i).2:Int) - (a_ p i:Int))=(((jt p i).2 - a_ p i:Nat):Int):=by rw[a7 (by omega)];omega
    simp only[hz,WB,aE,aD,aO,wb hp hi,aA,Ba,hw,xw c1 (show i < 16 by omega) (show (jt p i).2 - a_ p i+(iX p i).length<=64 by omega)])
  (λi hi s s' hs hf=>by injection hf with hf;subst hf;rw[hs,Dt]) (λs self hs=>by
   subst hs;obtain ⟨c1,c2⟩:=Nf hp;show gj.b0 _ _ _ _ _=_;unfold gj.b0;simp only[aX,aE,aD];show gj.q0 _ _ _=_;unfold gj.q0;have g:(0:Int)<=1/\(1:Int) < ((jt p (pn p)).1.length:Int):=by omega
   simp only[g,bR,aI,t7]
   rw[dp (by omega)]) (ym p,64) rfl k (by omega)
 rw[ig (g:=λs x=>zy p s x)] at this;exact this
theorem OL:gy.ab (p,())=some (((0:Int),(0:Int),mh p,()),()):=by
 have hn:=hp.n;have hl:=hp.len;refine ag (k:=100) λk hk=>(gy.ae k _).trans ?_;unfold gy.p;have g1:(0:Int)<=64/\(64:Int)<=64/\(64:Int)<=(cg:Int):=by unfold cg;omega
 have g2:(0:Int)<=((2+2*pn p:Nat):Int)/\((2+2*pn p:Nat):Int)<=(p.length:Int):=by omega
 rw[yn p (by rw[hp.len,au];omega),tK.2 hp];simp only[tL hl,aA,aG,aN,aD,AH (show pn p < 1000 by omega),g1,g2,bR,aI,aC];rw[Nd hp]
 have:=og (B:=λself v=>gy.b0 self (λz=>gy.q0 (p,()) (pn p:Int) z) (p,()) (pn p:Int) v) (pn p) (λ(s:List UInt8×Nat) (i:Int)=>(s.1,(s.2:Int),i)) (λx s=>.inr (zy p s x)) (λs=>some (((0:Int),(0:Int),s.1.set 1 (UInt8.ofNat s.2),()),())) (λi s=>s=jt p i) (by omega)
  (λi hi s self hs=>by
   subst hs;show gy.b0 _ _ _ _ _=_;unfold gy.b0 zy;have ax:(i:Int) < (pn p:Int):=by omega
   simp only[ax,aG,aH,xq hp i,aA];by_cases hz:a_ p i=0
   ·simp only[hz,aG,aN,Bool.and_false,bA,aH,aI]
   ·obtain ⟨c1,c2,c3,c4,c5⟩:=P3 hp hi hz;have Ba:=oH hp hi;have hw:af (((jt p i).2:Int) - (a_ p i:Int))=(((jt p i).2 - a_ p i:Nat):Int):=by rw[a7 (by omega)];omega
    have wV:(decide (i < pn p)&&!decide (a_ p i=0))=true:=by simp[hi,hz]
    have g3:(0:Int)<=(((jt p i).2 - a_ p i:Nat):Int)/\(((jt p i).2 - a_ p i:Nat):Int)<=((jt p i).1.length:Int):=by omega
    have hm:min (a_ p i) ((jt p i).1.length - ((jt p i).2 - a_ p i))=a_ p i:=by omega
    have FR:(oo (jt p i).1 ((jt p i).2 - a_ p i) (a_ p i) (iX p i)).length=64:=by rw[rr _ _ (by omega) (by omega),c1]
    have g4:(0:Int)<=((2+2*i:Nat):Int)/\((2+2*i:Nat):Int) < ((64:Nat):Int):=by omega
    rw[wV];simp only[aN,aD,aP hz,yY hp hi,aA,Ba,hw,g3,bR,aI,aC,hm,AH (show i < 1000 by omega),FR,g4,t7];rw[dp (by omega)]
    have dc:kY (jt p i).1 i ((jt p i).2 - a_ p i) (iX p i)=(oo (jt p i).1 ((jt p i).2 - a_ p i) (a_ p i) (iX p i)).set (2+2*i) (UInt8.ofNat ((jt p i).2 - a_ p i)):=by
     unfold kY;rw[Ba];refine M_ ?_ (by omega);rw[pa,aP (by omega),<- Ba,Jx (by omega),aP (by omega),Ba];exact c4
    rw[dc])
  (λi hi s s' hs hf=>by injection hf with hf;subst hf;rw[hs,Dt]) (λs self hs=>by
   subst hs;obtain ⟨c1,c2⟩:=Nf hp;show gy.b0 _ _ _ _ _=_;unfold gy.b0;simp only[aX,aE,aD];show gy.q0 _ _ _=_;unfold gy.q0;have g:(0:Int)<=1/\(1:Int) < ((jt p (pn p)).1.length:Int):=by omega
   simp only[g,bR,aI,t7]
   rw[dp (by omega)]) (ym p,64) rfl k (by omega)
 rw[ig (g:=λs x=>zy p s x)] at this;exact this
end
end OT
namespace OT
open Go
def fl (ps:bY) (P:Nat):List UInt8:=ps.getD P []
theorem nt {ps:bY} {P:Nat} (h:P < ps.length):ps[P]?=some (fl ps P):=by
 grind [fl]
theorem Hk {ps:bY} {P:Nat} (h:P < ps.length):fl ps P ∈ ps:=cD (nt h)
theorem oI {ps:bY} (h:lp ps) {P:Nat} (hP:P < ps.length):gt (fl ps P):=h.2 _ (Hk hP)
theorem Ng (ps:bY) (P Q:Nat) (b:List UInt8):fl (ps.set P b) Q=if P=Q/\P < ps.length then b else fl ps Q:=by
 grind [fl]
theorem Nh (ps:bY) (Q:Nat) (b:List UInt8):fl (ps++[b]) Q=if Q=ps.length then b else fl ps Q:=by
 grind [fl]
def bk (ps:bY) (P s:Nat):List UInt8:=cellOf (fl ps P) s
theorem JC {ps:bY} {P s:Nat} (h:ps.length<=P):bk ps P s=[]:=by
 have:fl ps P=[]:=by grind [fl]
 unfold bk;rw[this];rfl
theorem uq {ps:bY} (h:lp ps) {P s:Nat} (hc:bk ps P s≠[]):P < ps.length/\s < pn (fl ps P)/\a_ (fl ps P) s≠0:=by
 grind [JC,bk,cellOf,pY,oI]
def mR (w:aT) (P:Nat) (b:List UInt8):aT:=
 if P=List.length w.1 then (w.1++[b],w.2.1++[((P:Int),b,())],())
 else if fl w.1 P=b then w else (List.set w.1 P b,w.2.1++[((P:Int),b,())],())
structure okW (w:aT) (n:Nat):Prop where
 jp:lp w.1
 el:List.length w.2.1<=n
 eb:∀ e ∈ (w.2.1:List qG),List.length e.2.1=64
theorem okW.mono {w:aT} {n m:Nat} (h:okW w n) (hm:n<=m):okW w m:=⟨h.jp,by have:=h.el;omega,h.eb⟩
theorem sI {w:aT} {P:Nat} (hP:P < List.length w.1) (b:List UInt8):(mR w P b).1=List.set w.1 P b:=by
 unfold mR;rw[aP (by omega)];split
 ·rename_i h;refine eF λi=>?_;grind [nt]
 ·rfl
theorem Hl (w:aT) (b:List UInt8):(mR w (List.length w.1) b).1=w.1++[b]:=by
 grind [mR]
theorem ya {w:aT} {n P:Nat} (h:okW w n) {b:List UInt8} (hb:gt b) (hP:P<=List.length w.1) (xI:P < 12):okW (mR w P b) (n+1):=by
 have hl:=h.el
 have he:∀ e ∈ ((w.2.1++[((P:Int),b,())]):List qG),List.length e.2.1=64:=λe he=>by
  rcases bU.1 he with he | he
  ·exact h.eb e he
  ·rw[bJ.1 he];exact hb.len
 unfold mR;split
 ·rename_i h1;refine ⟨⟨?_,λp hp=>?_⟩,?_,he⟩
  ·grind
  ·rcases bU.1 hp with hp | hp
   ·exact h.jp.2 p hp
   grind
  grind
 ·split
  ·exact h.mono (by omega)
  ·refine ⟨⟨?_,λp hp=>?_⟩,?_,he⟩
   ·rw[aZ];exact h.jp.1
   ·rcases eR hp with hp | hp
    ·exact h.jp.2 p hp
    grind
   grind
theorem vC {w:aT} {P:Nat} (hP:P < List.length w.1) (b:List UInt8) (Q s:Nat):bk (mR w P b).1 Q s=if Q=P then cellOf b s else bk w.1 Q s:=by
 grind [sI,bk,Ng]
theorem rB {w:aT} {n P:Nat} (h:okW w n) (hn:n<=1000) {b:List UInt8} (hb:b.length=64) (hP:P<=List.length w.1):iZ.ab (w,(P:Int),b,())=some (mR w P b,()):=by
 refine ag (k:=0) λk _=>(iZ.ae k _).trans ?_;show iZ.p _=_;unfold iZ.p mR;have hl:=h.jp.1;have he:=h.el;simp only[mI b (by omega),aA];grind [dn,fl]
theorem sX {w:aT} {n P:Nat} (h:okW w n) (hn:n<=1000) {b:List UInt8} (hb:b.length=64) (hP:P<=List.length w.1):f8.ab (w,(P:Int),b,())=some (mR w P b,()):=by
 refine ag (k:=0) λk _=>(f8.ae k _).trans ?_;show f8.p _=_;unfold f8.p mR;have hl:=h.jp.1;have he:=h.el;simp only[mA b (by omega),aA];grind [dn,fl]
def nY (w:aT) (P:Nat):aT:=mR w P (mh (fl w.1 P))
theorem DJ {w:aT} {P:Nat} (hP:P < List.length w.1):fl (nY w P).1 P=mh (fl w.1 P):=by
 grind [nY,sI,Ng]
theorem tM {w:aT} {P:Nat} (hP:P < List.length w.1):List.length (nY w P).1=List.length w.1:=by
 grind [nY,sI]
theorem wj {w:aT} {n P:Nat} (h:okW w n) (hP:P < List.length w.1):okW (nY w P) (n+1):=
 ya h (sT (oI h.jp hP)).1 (by omega) (by have:=h.jp.1;omega)
theorem yp {w:aT} {n P:Nat} (h:okW w n) (hP:P < List.length w.1) (Q s:Nat):bk (nY w P).1 Q s=bk w.1 Q s:=by
 unfold nY;rw[vC hP];split
 ·rename_i hq;subst hq;exact (sT (oI h.jp hP)).2.1 s
 ·rfl
theorem EZ {w:aT} {n P:Nat} (h:okW w n) (hn:n<=1000) (hP:P < List.length w.1):jH.ab (w,(P:Int),())=some (nY w P,()):=by
 refine ag (k:=0) λk _=>(jH.ae k _).trans ?_;show jH.p _=_;unfold jH.p nY;have hp:=oI h.jp hP;have g:(0:Int)<=(P:Int)/\(P:Int) < (List.length w.1:Int):=by omega
 rw[aM g];simp only[aC,nt hP,aA,OL hp,sX h hn (sT hp).1.len (fA hP)]
def rR (w:aT) (P:Nat) (c:List UInt8):Option Nat×aT:=
 if l9 (fl w.1 P) c=8 then
  if l9 (mh (fl w.1 P)) c=0 then (some (fh (mh (fl w.1 P))),mR (nY w P) P (pG (mh (fl w.1 P)) c)) else (none,nY w P)
 else if l9 (fl w.1 P) c=0 then (some (fh (fl w.1 P)),mR w P (pG (fl w.1 P) c)) else (none,w)
structure aab (w:aT) (n P:Nat) (c:List UInt8) (r:Option Nat×aT):Prop where
 ok:okW r.2 (n+2)
 len:List.length r.2.1=List.length w.1
 no:r.1=none->∀ Q s,bk r.2.1 Q s=bk w.1 Q s
 yes:∀ t,r.1=some t->t < 16/\bk w.1 P t=[]/\∀ Q s,bk r.2.1 Q s=if Q=P/\s=t then c else bk w.1 Q s
theorem Kp {p c:List UInt8} (h:gt p) (hc:l9 p c=0):fh p < 16:=by
 have:=(uA p).1;have:=h.n;grind [l9]
theorem AS {w:aT} {n P:Nat} (h:okW w n) (hP:P < List.length w.1) {c:List UInt8} (hc:1<=c.length):aab w n P c (rR w P c):=by
 have hp:=oI h.jp hP;have xI:=h.jp.1;unfold rR;split
 ·obtain ⟨q1,q2,q3⟩:=sT hp;have hw:=wj h hP;have hl:=tM hP;split
  ·rename_i h0;obtain ⟨r1,r2,r3⟩:=xW q1 hc h0;have hP':P < List.length (nY w P).1:=by omega
   refine ⟨ya hw r1 (by omega) (by omega),?_,λhh=>(by cases hh),λt ht=>?_⟩
   ·grind [sI]
   ·injection ht with ht;subst ht;refine ⟨Kp q1 h0,?_,λQ s=>?_⟩
    ·show cellOf (fl w.1 P) _=[]
     grind
    ·rw[vC hP',r2,yp h hP];by_cases hq:Q=P
     ·subst hq;by_cases hs:s=fh (mh (fl w.1 Q))
      ·grind
      ·rw[aM rfl,aP hs,aP (λhh=>hs hh.2),q2];rfl
     grind
  ·exact ⟨hw.mono (by omega),hl,λ_=>yp h hP,λt ht=>by cases ht⟩
 ·split
  ·rename_i h0;obtain ⟨r1,r2,r3⟩:=xW hp hc h0;refine ⟨(ya h r1 (by omega) (by omega)).mono (by omega),?_,λhh=>(by cases hh),λt ht=>?_⟩
   ·rw[sI hP,aZ]
   ·injection ht with ht;subst ht;refine ⟨Kp hp h0,r3,λQ s=>?_⟩
    rw[vC hP,r2];by_cases hq:Q=P
    ·subst hq;by_cases hs:s=fh (fl w.1 Q)
     ·grind
     ·rw[aM rfl,aP hs,aP (λhh=>hs hh.2)];rfl
    grind
  ·exact ⟨h.mono (by omega),rfl,λ_ _ _=>rfl,λt ht=>by cases ht⟩
def T_ (r:Option Nat×aT):Int×Bool×aT×Unit:=match r.1 with
 | some t=>((t:Int),true,r.2,())
 | none=>((0:Int),false,r.2,())
theorem Ni {w:aT} {n P:Nat} (h:okW w n) (hn:n<=900) (hP:P < List.length w.1) {c:List UInt8} (mj:1<=c.length) (hc:c.length<=20):qg.ab (w,(P:Int),c,())=some (T_ (rR w P c)):=by
 refine ag (k:=0) λk _=>(qg.ae k _).trans ?_;show qg.p _=_;unfold qg.p rR;have hp:=oI h.jp hP;obtain ⟨q1,q2,q3⟩:=sT hp;have hw:=wj h hP;have hl:=tM hP;have g:(0:Int)<=(P:Int)/\(P:Int) < (List.length w.1:Int):=by omega
 have g2:(0:Int)<=(P:Int)/\(P:Int) < (List.length (nY w P).1:Int):=by omega
 have ec:mR w P (mh (fl w.1 P))=nY w P:=rfl;rw[aM g];simp only[aC,nt hP,aA,JB hp c mj hc,Gq hp,rB h (by omega) q1.len (fA hP),ec,nt (show P < List.length (nY w P).1 by omega),DJ hP,JB q1 c mj hc];by_cases h8:l9 (fl w.1 P) c=8
 ·rw[aV h8,aH,aM h8,aM g,aM g2];by_cases h0:l9 (mh (fl w.1 P)) c=0
  ·rw[aV h0,aM h0,aM h0,aM h0,aN,aD,rB hw (by omega) (xW q1 mj h0).1.len (by omega)];rfl
  ·rw[aY h0,bA,aH,aP h0];rfl
 ·rw[aY h8,aD,aP h8];by_cases h0:l9 (fl w.1 P) c=0
  ·rw[aV h0,aM h0,aM h0,aM h0,aN,aD,rB h (by omega) (xW hp mj h0).1.len (by omega)];rfl
  ·rw[aY h0,bA,aH,aP h0];rfl
def kI (w:aT) (P s:Nat) (c:List UInt8):Bool×aT:=
 if ri (fl w.1 P) s c=8 then
  if ri (mh (fl w.1 P)) s c=0 then (true,mR (nY w P) P (xX (mh (fl w.1 P)) s c)) else (false,nY w P)
 else if ri (fl w.1 P) s c=0 then (true,mR w P (xX (fl w.1 P) s c)) else (false,w)
theorem E0 {p:List UInt8} (h:gt p) {s:Nat} (hs:s < pn p) (hz:a_ p s≠0):s < pn (mh p)/\a_ (mh p) s≠0:=by
 obtain ⟨q1,q2,q3⟩:=sT h;refine ⟨by omega,λh0=>hz ?_⟩
 rw[<-pY h hs,<- q2,pY q1 (by omega)];exact h0
structure Ua (w:aT) (n P s:Nat) (c:List UInt8) (r:Bool×aT):Prop where
 ok:okW r.2 (n+2)
 len:List.length r.2.1=List.length w.1
 no:r.1=false->∀ Q t,bk r.2.1 Q t=bk w.1 Q t
 yes:r.1=true->∀ Q t,bk r.2.1 Q t=if Q=P/\t=s then c else bk w.1 Q t
theorem qM {w:aT} {n P s:Nat} (h:okW w n) (nQ:bk w.1 P s≠[]) {c:List UInt8} (hc:1<=c.length):Ua w n P s c (kI w P s c):=by
 obtain ⟨hP,hs,hz⟩:=uq h.jp nQ;have hp:=oI h.jp hP;have xI:=h.jp.1;unfold kI;split
 ·obtain ⟨q1,q2,q3⟩:=sT hp;obtain ⟨z1,z2⟩:=E0 hp hs hz;have hw:=wj h hP;have hl:=tM hP;split
  ·rename_i h0;obtain ⟨r1,r2⟩:=zK q1 z1 z2 hc h0;have hP':P < List.length (nY w P).1:=by omega
   refine ⟨ya hw r1 (by omega) (by omega),?_,λhh=>(by cases hh),λ_ Q t=>?_⟩
   ·grind [sI]
   ·rw[vC hP',r2,yp h hP];by_cases hq:Q=P
    ·subst hq;by_cases ht:t=s
     ·grind
     ·rw[aM rfl,aP ht,aP (λhh=>ht hh.2),q2];rfl
    grind
  ·exact ⟨hw.mono (by omega),hl,λ_=>yp h hP,λht=>by cases ht⟩
 ·split
  ·rename_i h0;obtain ⟨r1,r2⟩:=zK hp hs hz hc h0;refine ⟨(ya h r1 (by omega) (by omega)).mono (by omega),?_,λhh=>(by cases hh),λ_ Q t=>?_⟩
   ·rw[sI hP,aZ]
   ·rw[vC hP,r2];by_cases hq:Q=P
    ·subst hq;by_cases ht:t=s
     ·grind
     ·rw[aM rfl,aP ht,aP (λhh=>ht hh.2)];rfl
    grind
  ·exact ⟨h.mono (by omega),rfl,λ_ _ _=>rfl,λht=>by cases ht⟩
theorem xx {w:aT} {n P s:Nat} (h:okW w n) (hn:n<=900) (nQ:bk w.1 P s≠[]) {c:List UInt8} (mj:1<=c.length) (hc:c.length<=20):nG.ab (w,(P:Int),(s:Int),c,())=some ((kI w P s c).1,(kI w P s c).2,()):=by
 refine ag (k:=0) λk _=>(nG.ae k _).trans ?_;show nG.p _=_;unfold nG.p kI;obtain ⟨hP,hs,hz⟩:=uq h.jp nQ;have hp:=oI h.jp hP;obtain ⟨q1,q2,q3⟩:=sT hp;obtain ⟨z1,z2⟩:=E0 hp hs hz;have hw:=wj h hP;have hl:=tM hP;have g:(0:Int)<=(P:Int)/\(P:Int) < (List.length w.1:Int):=by omega
 have g2:(0:Int)<=(P:Int)/\(P:Int) < (List.length (nY w P).1:Int):=by omega
 have ec:mR w P (mh (fl w.1 P))=nY w P:=rfl;rw[aM g];simp only[aC,nt hP,aA,IJ hp c mj hc hs hz,Gq hp,rB h (by omega) q1.len (fA hP),ec,nt (show P < List.length (nY w P).1 by omega),DJ hP,IJ q1 c mj hc z1 z2];by_cases h8:ri (fl w.1 P) s c=8
 ·rw[aV h8,aH,aM h8,aM g,aM g2];by_cases h0:ri (mh (fl w.1 P)) s c=0
  ·rw[aV h0,aM h0,aM h0,aN,aD,rB hw (by omega) (zK q1 z1 z2 mj h0).1.len (by omega)];rfl
  grind
 ·rw[aY h8,aD,aP h8];by_cases h0:ri (fl w.1 P) s c=0
  ·rw[aV h0,aM h0,aM h0,aN,aD,rB h (by omega) (zK hp hs hz mj h0).1.len (by omega)];rfl
  grind
theorem E1 {w:aT} {n P s:Nat} (h:okW w n) (hn:n<=900) (nQ:bk w.1 P s≠[]) {c:List UInt8} (mj:1<=c.length) (hc:c.length<=20):lP.ab (w,(P:Int),(s:Int),c,())=some ((kI w P s c).1,(kI w P s c).2,()):=by
 refine ag (k:=0) λk _=>(lP.ae k _).trans ?_;show lP.p _=_;unfold lP.p kI;obtain ⟨hP,hs,hz⟩:=uq h.jp nQ;have hp:=oI h.jp hP;obtain ⟨q1,q2,q3⟩:=sT hp;obtain ⟨z1,z2⟩:=E0 hp hs hz;have hw:=wj h hP;have hl:=tM hP;have g:(0:Int)<=(P:Int)/\(P:Int) < (List.length w.1:Int):=by omega
 have g2:(0:Int)<=(P:Int)/\(P:Int) < (List.length (nY w P).1:Int):=by omega
 rw[aM g];simp only[aC,nt hP,aA,IK hp c mj hc hs hz,EZ h (by omega) hP,nt (show P < List.length (nY w P).1 by omega),DJ hP,IK q1 c mj hc z1 z2];by_cases h8:ri (fl w.1 P) s c=8
 ·rw[aV h8,aH,aM h8,aM g2];by_cases h0:ri (mh (fl w.1 P)) s c=0
  ·rw[aV h0,aM h0,aM h0,aN,aD,sX hw (by omega) (zK q1 z1 z2 mj h0).1.len (by omega)];rfl
  grind
 ·rw[aY h8,aD,aP h8];by_cases h0:ri (fl w.1 P) s c=0
  ·rw[aV h0,aM h0,aM h0,aN,aD,sX h (by omega) (zK hp hs hz mj h0).1.len (by omega)];rfl
  grind
def lq (w:aT) (P s:Nat):aT:=mR w P (rj (fl w.1 P) s)
theorem rC {w:aT} {n P s:Nat} (h:okW w n) (nQ:bk w.1 P s≠[]):okW (lq w P s) (n+1)/\List.length (lq w P s).1=List.length w.1/\∀ Q t,bk (lq w P s).1 Q t=if Q=P/\t=s then [] else bk w.1 Q t:=by
 obtain ⟨hP,hs,hz⟩:=uq h.jp nQ;have hp:=oI h.jp hP;have xI:=h.jp.1;obtain ⟨r1,r2⟩:=Ha hp hs;refine ⟨ya h r1 (by omega) (by omega),?_,λQ t=>?_⟩
 ·grind [lq,sI]
 ·unfold lq;rw[vC hP,r2];by_cases hq:Q=P
  ·subst hq;by_cases ht:t=s
   ·grind
   ·rw[aM rfl,aP ht,aP (λhh=>ht hh.2)];rfl
  grind
theorem y9 {w:aT} {n P s:Nat} (h:okW w n) (hn:n<=900) (nQ:bk w.1 P s≠[]):nx.ab (w,(P:Int),(s:Int),())=some (lq w P s,()):=by
 refine ag (k:=0) λk _=>(nx.ae k _).trans ?_;show nx.p _=_;unfold nx.p lq;obtain ⟨hP,hs,hz⟩:=uq h.jp nQ;have hp:=oI h.jp hP;have g:(0:Int)<=(P:Int)/\(P:Int) < (List.length w.1:Int):=by omega
 rw[aM g];simp only[aC,nt hP,aA,OJ hp hs,rB h (by omega) (Ha hp hs).1.len (fA hP)]
theorem y_ {w:aT} {n P s:Nat} (h:okW w n) (hn:n<=900) (nQ:bk w.1 P s≠[]):jX.ab (w,(P:Int),(s:Int),())=some (lq w P s,()):=by
 refine ag (k:=0) λk _=>(jX.ae k _).trans ?_;show jX.p _=_;unfold jX.p lq;obtain ⟨hP,hs,hz⟩:=uq h.jp nQ;have hp:=oI h.jp hP;have g:(0:Int)<=(P:Int)/\(P:Int) < (List.length w.1:Int):=by omega
 rw[aM g];simp only[aC,nt hP,aA,OK hp hs hz,sX h (by omega) (Ha hp hs).1.len (fA hP)]
end OT
namespace OT
open Go
theorem By {α β:Type} {f:α->β}:∀ {l:List α},(l.map f).Nodup->∀ {x y:α},x ∈ l->y ∈ l->f x=f y->x=y
 | z::l,h,x,y,hx,hy,he=>by
  rw[cY,cO] at h;rcases bB.1 hx with Ap | Ap
  ·rcases bB.1 hy with Nj | Nj
   ·rw[Ap,Nj]
   ·rw[Ap] at he;exact absurd (he ▸ gX Nj) h.1
  ·rcases bB.1 hy with Nj | Nj
   ·rw[Nj] at he;exact absurd (he ▸ gX Ap) h.1
   ·exact By h.2 Ap Nj he
theorem Ub {α β K:Type} [DecidableEq K] {l:List α} {l':List β} {g:α->β} {ka:α->K} {kb:β->K} (hk:∀ x,kb (g x)=ka x) (hp:l'.Perm (l.map g)) (hn:(l.map ka).Nodup) (k:K):l'.find? (λy=>decide (kb y=k))=(l.find? (λx=>decide (ka x=k))).map g:=by
 cases h:l.find? (λx=>decide (ka x=k)) with
 | none=>
  rw[eQ] at h;show _=none;rw[eQ];intro y hy;obtain ⟨x,hx,rfl⟩:=eX.1 (hp.mem_iff.1 hy);rw[hk];exact h x hx
 | some x=>
  have hx:=cT h;have Kq:ka x=k:=by have:=gU h;simpa using this
  show _=some (g x)
  cases h2:l'.find? (λy=>decide (kb y=k)) with
  | none=>
   rw[eQ] at h2;have:=h2 (g x) (hp.mem_iff.2 (gX hx));rw[hk,Kq] at this;simp at this
  | some y=>
   have hy:=cT h2;have Xt:kb y=k:=by have:=gU h2;simpa using this
   obtain ⟨z,hz,rfl⟩:=eX.1 (hp.mem_iff.1 hy);rw[hk] at Xt;rw[By hn hz hx (Xt.trans Kq.symm)]
theorem E2 {α O:Type} (p:α->Bool) (g:α->O) (e:O):∀ (xs:List α) (i:Nat),b_ (λ_ (_:Unit) x=>if p x then .inl (g x) else .inr ()) (λ_=>e) i xs ()=match xs.find? p with | some x=>g x | none=>e
 | [],_=>rfl
 | x::xs,i=>by
  simp only[b_,gS]
  cases h:p x with
  | true=>simp only[aI]
  | false=>simp only[aJ,aO];exact E2 p g e xs (i+1)
abbrev Xu:ay:=((0:Int),(0:Int),((0:Int),(0:Int),(0:Int),(0:Int),yX,()),())
abbrev Xv:Seen:=(yX,(0:Int),(0:Int),false,(0:Int),(0:Int),())
def t8 (ps:bY) (t k:Int):Option ay:=(ju ps).find? (λx=>decide (rk (fk x)=(t,k)))
def RJ (l:List Seen) (t k:Int):Option Seen:=l.find? (λy=>decide (rk y.1=(t,k)))
theorem Uc (r:Row) (t k:Int):decide (rk r=(t,k))=(decide (r.1=t)&&decide (r.2.1=k)):=by
 unfold rk;by_cases h1:r.1=t <;> by_cases h2:r.2.1=k <;> simp[h1,h2]
theorem OM (ps:bY) (h:lp ps) (t k:Int):mG.ab (ps,t,k,())=some (match t8 ps t k with | some x=>(x,true,()) | none=>(Xu,false,())):=by
 refine ag (k:=300) λq hq=>(mG.ae q _).trans ?_;unfold mG.p;rw[BS ps h];simp only[aA];have lT:=AP h;unfold t8;generalize ju ps=xs at lT ⊢
 have:=da (B:=λself v=>mG.b0 self (λz=>mG.q0 (ps,t,k,()) xs z) (ps,t,k,()) xs v) xs (λ(_:Unit) (i:Int)=>i) (λ_ _ x=>if decide (rk (fk x)=(t,k)) then .inl (x,true,()) else .inr ()) (λ_=>((Xu,false,()):ay×Bool×Unit)) (λ_ _=>True) (by rw[au];omega)
  (λi hi s self _=>by
   show mG.b0 _ _ _ _ _=_;unfold mG.b0;have ax:(i:Int) < (xs.length:Int):=by omega
   have g:(0:Int)<=(i:Int)/\(i:Int) < (xs.length:Int):=by omega
   rw[aV ax,aH,aM g,Uc];simp only[aC,aB hi,aA,aM g];show (bif decide ((fk xs[i]).1=t) then (bif decide ((fk xs[i]).2.1=k) then _ else _) else _)=_
   cases decide ((fk xs[i]).1=t) <;> cases decide ((fk xs[i]).2.1=k) <;> rfl)
  (λ_ _ _ _ _ _=>trivial) (λs self _=>by
   show mG.b0 _ _ _ _ _=_;unfold mG.b0;rw[aY (aX _),aD]
   rfl) () trivial q (by omega)
 rw[E2] at this;refine this.trans (cP some ?_);cases List.find? (λx=>decide (rk (fk x)=(t,k))) xs <;> rfl
theorem ON (l:List Seen) (hl:l.length<=1000) (t k:Int):pz.ab (l,t,k,())=some (match RJ l t k with | some x=>(x,true,()) | none=>(Xv,false,())):=by
 refine ag (k:=1100) λq hq=>(pz.ae q _).trans ?_;unfold RJ
 have:=da (B:=λself v=>pz.b0 self (λz=>pz.q0 (l,t,k,()) z) (l,t,k,()) v) l (λ(_:Unit) (i:Int)=>i) (λ_ _ x=>if decide (rk x.1=(t,k)) then .inl (x,true,()) else .inr ()) (λ_=>((Xv,false,()):Seen×Bool×Unit)) (λ_ _=>True) (by rw[au];omega)
  (λi hi s self _=>by
   show pz.b0 _ _ _ _=_;unfold pz.b0;have ax:(i:Int) < (l.length:Int):=by omega
   have g:(0:Int)<=(i:Int):=by omega
   rw[aV ax,aH,aM g,Uc];simp only[aC,aB hi,aA];show (bif decide (l[i].1.1=t) then (bif decide (l[i].1.2.1=k) then _ else _) else _)=_
   cases decide (l[i].1.1=t) <;> cases decide (l[i].1.2.1=k) <;> rfl)
  (λ_ _ _ _ _ _=>trivial) (λs self _=>by
   show pz.b0 _ _ _ _=_;unfold pz.b0;rw[aY (aX _),aD]
   rfl) () trivial q (by omega)
 rw[E2] at this;refine this.trans (cP some ?_);cases List.find? (λx:Seen=>decide (rk x.1=(t,k))) l <;> rfl
theorem Ud {ps:bY} (h:vB ps) (t k:Int):RJ (xv ps) t k=(t8 ps t k).map pc:=
 Ub (g:=pc) (ka:=λx=>rk (fk x)) (kb:=λy=>rk y.1) (λ_=>rfl) (II h) h.keys (t,k)
theorem V0 {ps:bY} {a b:Int} (h:(oM ps a b).2=true):bk ps a.toNat b.toNat≠[]/\(lp ps->(oM ps a b)=di (bk ps a.toNat b.toNat)):=by
 unfold oM at h ⊢
 cases hg:ps[a.toNat]? with
 | none=>rw[hg] at h;cases h
 | some p=>
  rw[hg] at h;simp only at h ⊢;split at h
  ·rename_i hc;have hp:fl ps a.toNat=p:=by unfold fl;rw[bW,hg];rfl
   have e:bk ps a.toNat b.toNat=iX p b.toNat:=by unfold bk cellOf;rw[hp,aM hc.1]
   rw[e,aM hc];refine ⟨λh0=>?_,λ_=>rfl⟩
   rw[h0] at h;exact absurd h (by decide)
  ·cases h
theorem Hm {ps:bY} (h:vB ps) {x:ay} (hx:x ∈ ju ps):∃ P s:Nat,x.1=(P:Int)/\x.2.1=(s:Int)/\bk ps P s≠[]/\(ej x=1->∃ Q t:Nat,oP x=(Q:Int)/\oQ x=(t:Int)/\bk ps Q t≠[]/\(di (bk ps Q t)).1.2.1=2)/\(di (bk ps P s)).1.2.1=ej x:=by
 unfold ju at hx;obtain ⟨y,hy,tI⟩:=cX.1 hx;obtain ⟨n1,n2⟩:=vW hy;have dc:=bK.1 h.Xr y hy;obtain ⟨P,p,s,h1,h2,h3,h4⟩:=wh.1 hy;unfold qC at tI;split at tI
 ·cases tI
 ·have Ap:=bJ.1 tI
  have hP:P < ps.length:=by
   rcases cK P ps.length with g | g
   ·exact g
   ·rw[eA g] at h1;cases h1
  have hp:fl ps P=p:=by unfold fl;rw[bW,h1];rfl
  have hpo:=oI h.right hP;rw[hp] at hpo
  have hc:bk ps P s≠[]:=by
   unfold bk;rw[hp];exact λh0=>h3 ((pY hpo h2).1 h0)
  have e1:x.1=y.1/\x.2.1=y.2.1/\ej x=ej y/\oP x=oP y/\oQ x=oQ y:=by
   rw[Ap];unfold tn;split <;> exact ⟨rfl,rfl,rfl,rfl,rfl⟩
  have e2:y.1=(P:Int)/\y.2.1=(s:Int):=by rw[h4];exact ⟨rfl,rfl⟩
  have e3:bk ps P s=iX p s:=by unfold bk cellOf;rw[hp,aM h2]
  refine ⟨P,s,by rw[e1.1,e2.1],by rw[e1.2.1,e2.2],hc,λhf=>?_,by rw[e1.2.2.1,e3,h4];rfl⟩
  rw[e1.2.2.1] at hf;unfold pN at dc;rw[aV hf,aN,cZ,aF] at dc;obtain ⟨c1,c2⟩:=V0 dc.1;refine ⟨(oP y).toNat,(oQ y).toNat,by rw[e1.2.2.2.1];omega,by rw[e1.2.2.2.2];omega,c1,?_⟩
  rw[<-c2 h.right]
  simpa using dc.2
theorem E3 {ps:bY} (h:vB ps) (t k:Int):(match t8 ps t k with
  | some x=>pW (eu ps) (t,k)=true/\(eu ps)[pos (eu ps) (t,k)]?=some (fk x)/\x ∈ ju ps/\rk (fk x)=(t,k)
  | none=>pW (eu ps) (t,k)=false):=by
 have yT:∀ r,r ∈ eu ps↔∃ x ∈ ju ps,fk x=r:=λr=>by
  rw[x_ h,(zA _).mem_iff,eX]
 cases hf:t8 ps t k with
 | none=>
  simp only;unfold t8 at hf;rw[eQ] at hf
  cases hb:pW (eu ps) (t,k) with
  | false=>rfl
  | true=>
   obtain ⟨y,hy,Xt⟩:=Yg hb;obtain ⟨x,hx,rfl⟩:=(yT y).1 hy;have:=hf x hx;rw[Xt] at this;simp at this
 | some x=>
  simp only;unfold t8 at hf;have hx:=cT hf;have Kq:rk (fk x)=(t,k):=by have:=gU hf;simpa using this
  have hb:pW (eu ps) (t,k)=true:=by
   cases hb:pW (eu ps) (t,k) with
   | true=>rfl
   | false=>
    exfalso;have hm:=(yT (fk x)).2 ⟨x,hx,rfl⟩;obtain ⟨i,hi,he⟩:=eL hm;have hu:=wi h
    have hnb:¬ i < pos (eu ps) (t,k):=λax=>by
     have:=EN (eu ps) (t,k) i hi ax;rw[he,Kq,sV] at this;cases this
    have iU:pos (eu ps) (t,k) < (eu ps).length:=by omega
    unfold pW at hb;rw[aB iU] at hb;simp only[eG] at hb;by_cases Au:pos (eu ps) (t,k)=i
    ·refine hb ?_;have:(eu ps)[pos (eu ps) (t,k)]=(eu ps)[i]:=by congr
     rw[this,he,Kq]
    ·have h1:=yJ (eu ps) (t,k) (pos (eu ps) (t,k)) iU hu (aL _);have h2:=dA.1 hu (pos (eu ps) (t,k)) i iU hi (by omega);rw[he,Kq] at h2;rw[h2] at h1;cases h1
  refine ⟨hb,?_,hx,Kq⟩
  obtain ⟨hp,hk⟩:=Co hb;rw[aB hp];congr 1;obtain ⟨y,hy,he⟩:=(yT _).1 (aU hp);have:y=x:=By h.keys hy hx (by show rk (fk y)=rk (fk x);rw[he,hk,Kq]);rw[<-he,this]
end OT
namespace OT
open Go
def cz (f:Nat) (r:Row):List UInt8:=[UInt8.ofNat f,UInt8.ofInt r.1,UInt8.ofInt r.2.1,UInt8.ofInt (r.2.2.1 / 256),UInt8.ofInt (r.2.2.1 % 256),UInt8.ofInt (List.length r.2.2.2.1:Int)]++r.2.2.2.1
theorem FN {r:Row} (h:jY r=0):(0<=r.1/\r.1<=3)/\(1<=r.2.1/\r.2.1<=99)/\(0<=r.2.2.1/\r.2.2.1<=999)/\zt r.2.2.2.1=true:=by
 unfold jY at h;split at h
 ·rename_i h1;split at h
  ·rename_i h2;unfold gu at h1;simp only[aF,bI] at h1;exact ⟨h1.1,h1.2.1,h1.2.2,h2⟩
  ·cases h
 ·cases h
theorem Bz {s:List UInt8} (h:zt s=true):s.length<=8:=by
 unfold zt at h;simp only[aF,bI] at h;exact h.2
theorem iY {f:Nat} {r:Row} (h:jY r=0):1<=(cz f r).length/\(cz f r).length<=14:=by
 have h1:=Bz (FN h).2.2.2
 have:(cz f r).length=6+List.length r.2.2.2.1:=by
  unfold cz;rw[bE];rfl
 omega
theorem aac (n:Int):UInt8.ofInt (n % 256)=UInt8.ofInt n:=by
 simp only[UInt8.ofInt,Int.emod_emod_of_dvd n (show (256:Int) ∣ 256 from Int.dvd_refl _)];simp
theorem yq {f:Nat} {r:Row} (h:jY r=0):ji.ab ((f:Int),r,())=some (cz f r,()):=by
 obtain ⟨_,_,h3,h4⟩:=FN h;have h1:=Bz h4;refine ag (k:=0) λk _=>(ji.ae k _).trans ?_;show ji.p _=_;unfold ji.p cz
 have d1:af (r.2.2.1.tdiv 256)=r.2.2.1 / 256:=by
  rw[dG h3.1,a7 (by omega)]
 have d2:r.2.2.1.tmod 256=r.2.2.1 % 256:=fS h3.1;rw[aM (dn (show List.length r.2.2.2.1<=_ by omega)),aM (dn (by simp only[aW,bC];omega))];simp only[d1,d2,t7]
theorem BT {f:Nat} {r:Row} (h:jY r=0):mL.ab ((f:Int),r,())=some (cz f r,()):=by
 obtain ⟨_,_,h3,h4⟩:=FN h;have h1:=Bz h4;refine ag (k:=0) λk _=>(mL.ae k _).trans ?_;show mL.p _=_;unfold mL.p cz;have d1:r.2.2.1.fdiv (2 ^ 8)=r.2.2.1 / 256:=fM _ (by omega);rw[aM (dn (by simp only[aW,bC];omega))];simp only[d1,aac,t7]
def jD (P t:Nat):List UInt8:=[(1:UInt8),UInt8.ofNat P,UInt8.ofNat t]
theorem Gr (P t:Nat):nZ.ab ((P:Int),(t:Int),())=some (jD P t,()):=by
 refine ag (k:=0) λk _=>(nZ.ae k _).trans ?_;show nZ.p _=_;unfold nZ.p jD;simp only[t7]
theorem OP (P t:Nat):sC.ab ((P:Int),(t:Int),())=some (jD P t,()):=by
 refine ag (k:=0) λk _=>(sC.ae k _).trans ?_;show sC.p _=_;unfold sC.p jD;simp only[t7]
def jv (c:List UInt8) (no:Int):List Nat->aT->Option (Nat×Nat)×aT
 | [],w=>(none,w)
 | P::l,w=>if (P:Int)=no then jv c no l w else match (rR w P c).1 with
  | some t=>(some (P,t),(rR w P c).2)
  | none=>jv c no l (rR w P c).2
def mS (w:aT) (no:Int) (c:List UInt8):Option (Nat×Nat)×aT:=
 match (jv c no (List.range (List.length w.1)) w).1 with
 | some a=>jv c no (List.range (List.length w.1)) w
 | none=>if 12<=List.length w.1 then (none,(jv c no (List.range (List.length w.1)) w).2) else (some (List.length w.1,0),mR (jv c no (List.range (List.length w.1)) w).2 (List.length w.1) (pG rm c))
structure IN (w:aT) (n m:Nat) (c:List UInt8) (r:Option (Nat×Nat)×aT):Prop where
 ok:okW r.2 (n+m)
 no:r.1=none->List.length r.2.1=List.length w.1/\∀ Q s,bk r.2.1 Q s=bk w.1 Q s
 yes:∀ P t,r.1=some (P,t)->P < 12/\t < 16/\bk w.1 P t=[]/\∀ Q s,bk r.2.1 Q s=if Q=P/\s=t then c else bk w.1 Q s
theorem vD {c:List UInt8} (hc:1<=c.length) (no:Int):∀ (l:List Nat) (w:aT) (n:Nat),okW w n->(∀ P ∈ l,P < List.length w.1)->IN w n (2*l.length) c (jv c no l w)
 | [],w,n,h,_=>⟨h.mono (by omega),λ_=>⟨rfl,λ_ _=>rfl⟩,λP t ht=>by cases ht⟩
 | P::l,w,n,h,hl=>by
  unfold jv;split
  ·have:=vD hc no l w n h λQ hQ=>hl Q (bF _ hQ);exact ⟨this.ok.mono (by simp only[aW];omega),this.no,this.yes⟩
  ·have hP:=hl P cA;have R:=AS h hP hc;split
   ·rename_i t ht;obtain ⟨y1,y2,y3⟩:=R.yes t ht;refine ⟨R.ok.mono (by simp only[aW];omega),λhh=>(by cases hh),λP' t' hh=>?_⟩
    injection hh with hh;injection hh with h1 h2;subst h1;subst h2;exact ⟨by have:=h.jp.1;omega,y1,y2,y3⟩
   ·rename_i ht;have e:=R.no ht;have:=vD hc no l (rR w P c).2 (n+2) R.ok λQ hQ=>by rw[R.len];exact hl Q (bF _ hQ)
    refine ⟨this.ok.mono (by simp only[aW];omega),λhh=>?_,λP' t' hh=>?_⟩
    ·obtain ⟨a1,a2⟩:=this.no hh;exact ⟨by rw[a1,R.len],λQ s=>by rw[a2,e]⟩
    ·obtain ⟨a1,a2,a3,a4⟩:=this.yes P' t' hh;exact ⟨a1,a2,by rw[<-e];exact a3,λQ s=>by rw[a4,e]⟩
theorem JD {c:List UInt8} (mj:1<=c.length) (hc:c.length<=20):l9 rm c=0/\fh rm=0/\gt (pG rm c)/\∀ s,cellOf (pG rm c) s=if s=0 then c else []:=by
 have e0:fh rm=0:=by decide +kernel
 have hn:pn rm=0:=by decide +kernel
 have hl:c7 rm=64:=by decide +kernel
 have hf:rQ rm=62:=by decide +kernel
 have h0:l9 rm c=0:=by
  unfold l9 tk;rw[e0,hn,hl,hf,aM rfl,aP (by omega),aP (by omega),aP (by omega)]
 obtain ⟨r1,r2,r3⟩:=xW Dv.1 mj h0;refine ⟨h0,e0,r1,λs=>?_⟩
 rw[r2,e0,Dv.2]
theorem tN {w:aT} {n:Nat} (h:okW w n) {c:List UInt8} (mj:1<=c.length) (hc:c.length<=20) (no:Int):IN w n 25 c (mS w no c):=by
 have R:=vD mj no (List.range (List.length w.1)) w n h λP hP=>cH.1 hP;have xI:=h.jp.1;rw[cG] at R;unfold mS;split
 ·exact ⟨R.ok.mono (by omega),R.no,R.yes⟩
 ·rename_i h0;obtain ⟨a1,a2⟩:=R.no h0;split
  ·exact ⟨R.ok.mono (by omega),λ_=>⟨a1,a2⟩,λP t ht=>by cases ht⟩
  ·rename_i ax;obtain ⟨n1,n2,n3,n4⟩:=JD mj hc;have hk:=ya R.ok n3 (P:=List.length w.1) (by omega) (by omega);refine ⟨hk.mono (by omega),λhh=>(by cases hh),λP t ht=>?_⟩
   injection ht with ht;injection ht with t1 t2;subst t1;subst t2;refine ⟨by omega,by omega,JC (aL _),λQ s=>?_⟩
   have e:=Hl (jv c no (List.range (List.length w.1)) w).2 (pG rm c);rw[a1] at e;show bk (mR (jv c no (List.range (List.length w.1)) w).2 (List.length w.1) (pG rm c)).1 Q s=_;rw[e];unfold bk;rw[Nh,a1];by_cases hq:Q=List.length w.1
   ·rw[aM hq,n4];by_cases hs:s=0
    ·rw[aM hs,aM ⟨hq,hs⟩]
    ·rw[aP hs,aP (λhh=>hs hh.2)];subst hq;exact (JC (aL _)).symm
   ·rw[aP hq,aP (λhh=>hq hh.1)];exact a2 Q s
def t_ (r:Option (Nat×Nat)×aT):Int×Int×Bool×aT×Unit:=match r.1 with
 | some a=>((a.1:Int),(a.2:Int),true,r.2,())
 | none=>((0:Int),(0:Int),false,r.2,())
def yL (c:List UInt8) (no:Int) (P:Nat) (w:aT):Sum (Option (Int×Int×Bool×aT×Unit)) aT:=
 if (P:Int)=no then .inr w else match (rR w P c).1 with
  | some t=>.inl (some ((P:Int),(t:Int),true,(rR w P c).2,()))
  | none=>.inr (rR w P c).2
theorem zC {c:List UInt8} {no:Int} {fin:aT->Option (Int×Int×Bool×aT×Unit)}:∀ (l:List Nat) (i:Nat) (w:aT),b_ (λ_ s x=>yL c no x s) fin i l w=match (jv c no l w).1 with
  | some a=>some ((a.1:Int),(a.2:Int),true,(jv c no l w).2,())
  | none=>fin (jv c no l w).2
 | [],i,w=>rfl
 | P::l,i,w=>by
  simp only[b_,yL,jv];by_cases hn:(P:Int)=no
  ·rw[aM hn,aM hn];exact zC l (i+1) w
  ·rw[aP hn,aP hn]
   cases (rR w P c).1 with
   | some t=>rfl
   | none=>exact zC l (i+1) _
theorem Nk:u9=rm:=rfl
theorem AT {w:aT} {n:Nat} (h:okW w n) (hn:n<=800) {c:List UInt8} (mj:1<=c.length) (hc:c.length<=20) (no:Int):gq.ab (w,no,c,())=some (t_ (mS w no c)):=by
 have xI:=h.jp.1;refine ag (k:=100) λk hk=>(gq.ae k _).trans ?_;obtain ⟨n1,n2,n3,n4⟩:=JD mj hc
 have:=og (B:=λself v=>gq.b0 self (λz=>gq.q0 (w,no,c,()) z) (w,no,c,()) v) (List.length w.1) (λ(s:aT) (i:Int)=>(s,i)) (yL c no) (λs=>gq.q0 (w,no,c,()) s) (λi s=>okW s (n+2*i)/\List.length s.1=List.length w.1) (by omega)
  (λi hi s self ⟨hs,lT⟩=>by
   show gq.b0 _ _ _ _=_;unfold gq.b0 yL;have ax:(i:Int) < (List.length s.1:Int):=by omega
   rw[aV ax,aH];by_cases oN:(i:Int)=no
   ·rw[aV oN,aH,aM oN]
   ·rw[aY oN,aD,aP oN,Ni hs (by omega) (by omega) mj hc];unfold T_
    cases (rR s i c).1 with
    | some t=>rfl
    | none=>rfl)
  (λi hi s s' ⟨hs,lT⟩ hf=>by
   unfold yL at hf;have R:=AS hs (show i < List.length s.1 by omega) mj;split at hf
   ·injection hf with hf;subst hf;exact ⟨hs.mono (by omega),lT⟩
   ·split at hf
    ·cases hf
    ·injection hf with hf;subst hf
     exact ⟨R.ok.mono (by omega),by rw[R.len,lT]⟩)
  (λs self ⟨hs,lT⟩=>by
   show gq.b0 _ _ _ _=_;unfold gq.b0
   rw[lT,aY (aX _),aD]) w ⟨h,rfl⟩ k (by omega)
 refine this.trans ?_;rw[zC];unfold mS t_;have R:=vD mj no (List.range (List.length w.1)) w n h λP hP=>cH.1 hP;rw[cG] at R
 cases hg:(jv c no (List.range (List.length w.1)) w).1 with
 | some a=>simp only[hg]
 | none=>
  obtain ⟨a1,a2⟩:=R.no hg;simp only;show gq.q0 _ _=_;unfold gq.q0;rw[a1];by_cases hl:12<=List.length w.1
  ·have:(12:Int)<=(List.length w.1:Int):=by omega
   rw[aV this,aH,aM hl]
  ·have:¬ (12:Int)<=(List.length w.1:Int):=by omega
   rw[aY this,aD,aP hl,Di];simp only[aA,Nk,JB Dv.1 c mj hc,n1,n2,aI,rB R.ok (by omega) n3.len (show List.length w.1<=List.length (jv c no (List.range (List.length w.1)) w).2.1 by omega)]
   have e:List.length (mR (jv c no (List.range (List.length w.1)) w).2 (List.length w.1) (pG rm c)).1=List.length w.1+1:=by
    have:=Hl (jv c no (List.range (List.length w.1)) w).2 (pG rm c);rw[a1] at this;rw[this,bE,a1];rfl
   rw[e,a7 (by omega)];have:((List.length w.1+1:Nat):Int) - 1=(List.length w.1:Int):=by omega
   rw[this]
theorem E4 {w:aT} {n:Nat} (h:okW w n) (hn:n<=800) {c:List UInt8} (mj:1<=c.length) (hc:c.length<=20) (no:Int):ff.ab (w,c,no,())=some (t_ (mS w no c)):=by
 have xI:=h.jp.1;refine ag (k:=100) λk hk=>(ff.ae k _).trans ?_;obtain ⟨n1,n2,n3,n4⟩:=JD mj hc
 have:=og (B:=λself v=>ff.b0 self (λz=>ff.q0 (w,c,no,()) z) (w,c,no,()) v) (List.length w.1) (λ(s:aT) (i:Int)=>(s,i)) (yL c no) (λs=>ff.q0 (w,c,no,()) s) (λi s=>okW s (n+2*i)/\List.length s.1=List.length w.1) (by omega)
  (λi hi s self ⟨hs,lT⟩=>by
   show ff.b0 _ _ _ _=_;unfold ff.b0 yL;have ax:(i:Int) < (List.length w.1:Int):=by omega
   rw[aV ax,aH];by_cases oN:(i:Int)=no
   ·rw[aV oN,aH,aM oN]
   ·rw[aY oN,aD,aP oN];have hP:i < List.length s.1:=by omega
    have hp:=oI hs.jp hP;obtain ⟨q1,q2,q3⟩:=sT hp;have hw:=wj hs hP;have hl:=tM hP;have g:(0:Int)<=(i:Int)/\(i:Int) < (List.length s.1:Int):=by omega
    have g2:(0:Int)<=(i:Int)/\(i:Int) < (List.length (nY s i).1:Int):=by omega
    rw[aM g];unfold rR;simp only[aC,nt hP,aA,DI hp c mj hc,EZ hs (by omega) hP,nt (show i < List.length (nY s i).1 by omega),DJ hP,DI q1 c mj hc];by_cases h8:l9 (fl s.1 i) c=8
    ·rw[aV h8,aH,aM h8,aM g2];by_cases h0:l9 (mh (fl s.1 i)) c=0
     ·rw[aV h0,aH,aM h0,aM h0,aM h0,sX hw (by omega) (xW q1 mj h0).1.len (by omega)];rfl
     ·rw[aY h0,aD,aP h0]
    ·rw[aY h8,aD,aP h8];by_cases h0:l9 (fl s.1 i) c=0
     ·rw[aV h0,aH,aM h0,aM h0,aM h0,sX hs (by omega) (xW hp mj h0).1.len (by omega)];rfl
     ·rw[aY h0,aD,aP h0])
  (λi hi s s' ⟨hs,lT⟩ hf=>by
   unfold yL at hf;have R:=AS hs (show i < List.length s.1 by omega) mj;split at hf
   ·injection hf with hf;subst hf;exact ⟨hs.mono (by omega),lT⟩
   ·split at hf
    ·cases hf
    ·injection hf with hf;subst hf
     exact ⟨R.ok.mono (by omega),by rw[R.len,lT]⟩)
  (λs self ⟨hs,lT⟩=>by
   show ff.b0 _ _ _ _=_;unfold ff.b0;show (bif decide ((List.length w.1:Int) < (List.length w.1:Int)) then _ else _)=_
   rw[aY (aX _),aD]) w ⟨h,rfl⟩ k (by omega)
 refine this.trans ?_;rw[zC];unfold mS t_;have R:=vD mj no (List.range (List.length w.1)) w n h λP hP=>cH.1 hP;rw[cG] at R
 cases hg:(jv c no (List.range (List.length w.1)) w).1 with
 | some a=>simp only[hg]
 | none=>
  obtain ⟨a1,a2⟩:=R.no hg;simp only;show ff.q0 _ _=_;unfold ff.q0;rw[a1];by_cases hl:12<=List.length w.1
  ·have:(List.length w.1:Int)=12:=by omega
   rw[aV this,aH,aM hl]
  ·have:¬ (List.length w.1:Int)=12:=by omega
   rw[aY this,aD,aP hl,Dh];simp only[aA,Nk,DI Dv.1 c mj hc,n1,n2,aI,sX R.ok (by omega) n3.len (show List.length w.1<=List.length (jv c no (List.range (List.length w.1)) w).2.1 by omega)]
   have e:List.length (mR (jv c no (List.range (List.length w.1)) w).2 (List.length w.1) (pG rm c)).1=List.length w.1+1:=by
    have:=Hl (jv c no (List.range (List.length w.1)) w).2 (pG rm c);rw[a1] at this;rw[this,bE,a1];rfl
   rw[e,a7 (by omega)];have:((List.length w.1+1:Nat):Int) - 1=(List.length w.1:Int):=by omega
   rw[this]
end OT
namespace OT
open Go
theorem AU {α β:Type} {g:α->Option β}:∀ {l:List α},l.Nodup->((l.filterMap g).Nodup↔∀ x ∈ l,∀ y ∈ l,∀ b,g x=some b->g y=some b->x=y)
 | [],_=>by simp
 | z::l,h=>by
  rw[cO] at h;have ih:=AU (g:=g) h.2
  cases hz:g z with
  | none=>
   rw[List.filterMap_cons_none hz,ih];constructor
   ·intro hh x hx y hy b h1 h2;rcases bB.1 hx with e1 | hx
    ·rw[e1,hz] at h1;cases h1
    ·rcases bB.1 hy with e2 | hy
     ·rw[e2,hz] at h2;cases h2
     ·exact hh x hx y hy b h1 h2
   ·intro hh x hx y hy;exact hh x (bF _ hx) y (bF _ hy)
  | some c=>
   rw[List.filterMap_cons_some hz,cO,ih,gB];constructor
   ·rintro ⟨hn,hh⟩ x hx y hy b h1 h2;rcases bB.1 hx with e1 | hx
    ·rcases bB.1 hy with e2 | hy
     ·rw[e1,e2]
     ·rw[e1,hz] at h1;exact absurd ⟨y,hy,h2.trans h1.symm⟩ hn
    ·rcases bB.1 hy with e2 | hy
     ·rw[e2,hz] at h2;exact absurd ⟨x,hx,h1.trans h2.symm⟩ hn
     ·exact hh x hx y hy b h1 h2
   ·intro hh;refine ⟨?_,λx hx y hy=>hh x (bF _ hx) y (bF _ hy)⟩
    rintro ⟨y,hy,h2⟩;have:=hh z cA y (bF _ hy) c hz h2;exact h.1 (this ▸ hy)
abbrev oJ:Type:=Nat->Nat->List UInt8
def fx (d:List UInt8):Int:=(di d).1.2.1
def mT (d:List UInt8):Nat:=(di d).1.2.2.1.toNat
def mU (d:List UInt8):Nat:=(di d).1.2.2.2.1.toNat
def E5 (d:List UInt8):Row:=(di d).1.2.2.2.2.1
def rowAt (f:oJ) (P s:Nat):Row:=if fx (f P s)=1 then E5 (f (mT (f P s)) (mU (f P s))) else E5 (f P s)
structure tD (f:oJ):Prop where
 read:∀ P s,f P s≠[]->(di (f P s)).2=true
 stub:∀ P s,f P s≠[]->fx (f P s)=1->f (mT (f P s)) (mU (f P s))≠[]/\fx (f (mT (f P s)) (mU (f P s)))=2
 P4:∀ P s Q t,f P s≠[]->f Q t≠[]->fx (f P s)=1->fx (f Q t)=1->mT (f P s)=mT (f Q t)->mU (f P s)=mU (f Q t)->P=Q/\s=t
 key:∀ P s Q t,f P s≠[]->f Q t≠[]->fx (f P s)≠2->fx (f Q t)≠2->rk (rowAt f P s)=rk (rowAt f Q t)->P=Q/\s=t
def pZ (f:oJ) (r:Row):Prop:=∃ P s,f P s≠[]/\fx (f P s)≠2/\rowAt f P s=r
def qn (ps:bY) (P s:Nat):ay:=((P:Int),(s:Int),(di (bk ps P s)).1,())
theorem pR {ps:bY} (h:lp ps) {x:ay}:x ∈ b9 ps↔∃ P s,bk ps P s≠[]/\x=qn ps P s:=by
 rw[wh];constructor
 ·rintro ⟨P,p,s,h1,h2,h3,rfl⟩
  have hP:P < ps.length:=by
   rcases cK P ps.length with g | g
   ·exact g
   ·rw[eA g] at h1;cases h1
  have hp:fl ps P=p:=by unfold fl;rw[bW,h1];rfl
  have e:bk ps P s=iX p s:=by unfold bk cellOf;rw[hp,aM h2]
  refine ⟨P,s,λh0=>h3 ?_,by unfold qn;rw[e]⟩
  have:=(pY (oI h hP) (i:=s) (by rw[hp];exact h2)).1 h0;rw[hp] at this;exact this
 ·rintro ⟨P,s,h1,rfl⟩;obtain ⟨a1,a2,a3⟩:=uq h h1;refine ⟨P,fl ps P,s,nt a1,a2,a3,?_⟩
  unfold qn bk cellOf;rw[aM a2]
theorem yr (ps:bY):(b9 ps).Nodup:=by
 have h1:∀ (P:Nat) (p:List UInt8),(qB P p).Pairwise (λx y=>x.2.1 < y.2.1)/\∀ x ∈ qB P p,x.1=(P:Int):=by
  intro P p
  have key:∀ n,((List.range n).flatMap (qA P p)).Pairwise (λx y=>x.2.1 < y.2.1)/\∀ x ∈ (List.range n).flatMap (qA P p),x.1=(P:Int)/\x.2.1 < (n:Int):=by
   intro n
   induction n with
   | zero=>exact ⟨List.Pairwise.nil,λx hx=>by cases hx⟩
   | succ n ih=>
    rw[gT,fX]
    have hs:∀ x ∈ ([n]:List Nat).flatMap (qA P p),x.1=(P:Int)/\x.2.1=(n:Int):=λx hx=>by
     rw[dN,gM,cI] at hx;unfold qA at hx;split at hx
     ·cases hx
     ·rw[bJ.1 hx];exact ⟨rfl,rfl⟩
    constructor
    ·rw[eY];refine ⟨ih.1,?_,λx hx y hy=>?_⟩
     ·rw[dN,gM,cI];unfold qA;split
      ·exact List.Pairwise.nil
      ·exact fD _ _
     ·have:=(ih.2 x hx).2;have:=(hs y hy).2;omega
    ·intro x hx;rcases bU.1 hx with hx | hx
     ·have:=ih.2 x hx;exact ⟨this.1,by have:=this.2;omega⟩
     ·have:=hs x hx;exact ⟨this.1,by have:=this.2;omega⟩
  exact ⟨(key (pn p)).1,λx hx=>((key (pn p)).2 x hx).1⟩
 have main:∀ (xs:bY) (i:Nat),(AN qB i xs).Nodup/\∀ x ∈ AN qB i xs,(i:Int)<=x.1:=by
  intro xs
  induction xs with
  | nil=>intro i;exact ⟨List.Pairwise.nil,λx hx=>by cases hx⟩
  | cons p xs ih=>
   intro i;obtain ⟨a1,a2⟩:=h1 i p;obtain ⟨b1,b2⟩:=ih (i+1);refine ⟨?_,λx hx=>?_⟩
   ·unfold AN;rw[eZ];refine ⟨a1.imp λ{x y} ax he=>by rw[he] at ax;omega,b1,λx hx y hy he=>?_⟩
    have:=a2 x hx;have:=b2 y hy;rw[<-he] at this;omega
   ·unfold AN at hx;rcases bU.1 hx with hx | hx
    ·rw[a2 x hx];omega
    ·have:=b2 x hx;omega
 exact (main ps 0).1
theorem Nl (ps:bY):(ju ps).map (λx=>rk (fk x))=(b9 ps).filterMap (λx=>if ej x=2 then none else some (rk (fk (tn ps x)))):=by
 unfold ju;generalize b9 ps=l
 induction l with
 | nil=>rfl
 | cons x l ih=>
  rw[dN,eS,ih];unfold qC;by_cases h:ej x=2
  ·rw[aM h,List.filterMap_cons_none (by simp only[aM h])];rfl
  ·rw[aP h,List.filterMap_cons_some (b:=rk (fk (tn ps x))) (by simp only[aP h])];rfl
theorem AV (d:List UInt8):(di d).1.2.2.1=(mT d:Int)/\(di d).1.2.2.2.1=(mU d:Int):=by
 obtain ⟨h1,h2⟩:=ER d;unfold mT mU;omega
theorem Kr {ps:bY} (h:lp ps) (P s:Nat):oM ps (P:Int) (s:Int)=if bk ps P s=[] then (Dx,false) else di (bk ps P s):=by
 unfold oM;rw[aC,aC]
 by_cases hc:bk ps P s=[]
 ·rw[aM hc]
  cases hg:ps[P]? with
  | none=>rfl
  | some p=>
   simp only;have hp:fl ps P=p:=by unfold fl;rw[bW,hg];rfl
   have hP:P < ps.length:=by
    rcases cK P ps.length with g | g
    ·exact g
    ·rw[eA g] at hg;cases hg
   rw[aP];rintro ⟨a1,a2⟩;refine a2 ?_;have:=(pY (oI h hP) (i:=s) (by rw[hp];exact a1)).1 hc;rw[hp] at this;exact this
 ·rw[aP hc];obtain ⟨a1,a2,a3⟩:=uq h hc;rw[nt a1];simp only;rw[aM ⟨a2,a3⟩];unfold bk cellOf;rw[aM a2]
theorem vf {ps:bY} (h:lp ps) (P s:Nat) (dc:fx (bk ps P s)=1->bk ps (mT (bk ps P s)) (mU (bk ps P s))≠[]):fk (tn ps (qn ps P s))=rowAt (bk ps) P s:=by
 unfold tn rowAt;have e1:ej (qn ps P s)=fx (bk ps P s):=rfl;rw[e1];by_cases hf:fx (bk ps P s)=1
 ·rw[aM hf,aM hf];obtain ⟨t1,t2⟩:=AV (bk ps P s);have e2:oP (qn ps P s)=(mT (bk ps P s):Int):=t1;have e3:oQ (qn ps P s)=(mU (bk ps P s):Int):=t2;rw[e2,e3,Kr h,aP (dc hf)];rfl
 ·rw[aP hf,aP hf];rfl
theorem E6 {α:Type} {c:α->Int}:∀ {xs:List α},(∀ x ∈ xs,c x=0)->ng c xs=0
 | [],_=>rfl
 | x::xs,h=>by
  unfold ng;rw[aM (h x cA)];exact E6 λy hy=>h y (bF _ hy)
theorem IP {ps:bY} (h:lp ps) (P s:Nat) (hr:∀ Q t,bk ps Q t≠[]->(di (bk ps Q t)).2=true):pN ps (qn ps P s)=true↔(fx (bk ps P s)=1->bk ps (mT (bk ps P s)) (mU (bk ps P s))≠[]/\fx (bk ps (mT (bk ps P s)) (mU (bk ps P s)))=2):=by
 unfold pN;have e1:ej (qn ps P s)=fx (bk ps P s):=rfl;obtain ⟨t1,t2⟩:=AV (bk ps P s);have e2:oP (qn ps P s)=(mT (bk ps P s):Int):=t1;have e3:oQ (qn ps P s)=(mU (bk ps P s):Int):=t2;rw[e1,e2,e3,Kr h];by_cases hf:fx (bk ps P s)=1
 ·by_cases hc:bk ps (mT (bk ps P s)) (mU (bk ps P s))=[]
  ·simp[hf,hc]
  ·simp only[hf,hc,aG,aN,cZ,aO,hr _ _ hc,dJ,bI,true_implies,ne_eq,dM,dQ];exact iH
 ·simp[hf]
theorem ou {ps:bY}:ij ps=0↔lp ps/\tD (bk ps):=by
 constructor
 ·intro hv;have V:=qD hv;have hr:=V.right
  have Li:∀ P s,bk ps P s≠[]->(di (bk ps P s)).2=true:=λP s hc=>by
   obtain ⟨a1,a2,a3⟩:=uq hr hc;have:=V.cells.2 _ (Hk a1) s a2 a3;unfold bk cellOf;rw[aM a2];exact this
  have RK:∀ P s,bk ps P s≠[]->fx (bk ps P s)=1->bk ps (mT (bk ps P s)) (mU (bk ps P s))≠[]/\fx (bk ps (mT (bk ps P s)) (mU (bk ps P s)))=2:=λP s hc=>
   (IP hr P s Li).1 (bK.1 V.Xr _ ((pR hr).2 ⟨P,s,hc,rfl⟩))
  refine ⟨hr,Li,RK,λP s Q t h1 h2 f1 f2 e1 e2=>?_,λP s Q t h1 h2 f1 f2 e=>?_⟩
  ·have:=(AU (yr ps)).1 V.abY _ ((pR hr).2 ⟨P,s,h1,rfl⟩) _ ((pR hr).2 ⟨Q,t,h2,rfl⟩) ((mT (bk ps P s):Int),(mU (bk ps P s):Int))
    (by unfold xt;rw[aM (show ej (qn ps P s)=1 from f1)];show some ((di (bk ps P s)).1.2.2.1,(di (bk ps P s)).1.2.2.2.1)=_;rw[(AV _).1,(AV _).2])
    (by unfold xt;rw[aM (show ej (qn ps Q t)=1 from f2)];show some ((di (bk ps Q t)).1.2.2.1,(di (bk ps Q t)).1.2.2.2.1)=_;rw[(AV _).1,(AV _).2,e1,e2])
   have g1:((P:Int))=(Q:Int):=cP (λx:ay=>x.1) this;have g2:((s:Int))=(t:Int):=cP (λx:ay=>x.2.1) this;omega
  ·have hk:=V.keys;rw[Nl] at hk
   have:=(AU (yr ps)).1 hk _ ((pR hr).2 ⟨P,s,h1,rfl⟩) _ ((pR hr).2 ⟨Q,t,h2,rfl⟩) (rk (rowAt (bk ps) P s))
    (by rw[aP (show ¬ ej (qn ps P s)=2 from f1),vf hr P s λhf=>(RK P s h1 hf).1])
    (by rw[aP (show ¬ ej (qn ps Q t)=2 from f2),vf hr Q t λhf=>(RK Q t h2 hf).1,e])
   have g1:((P:Int))=(Q:Int):=cP (λx:ay=>x.1) this;have g2:((s:Int))=(t:Int):=cP (λx:ay=>x.2.1) this;omega
 ·rintro ⟨hr,S⟩
  have hf:ng vV ps=0:=E6 λp hp=>by
   obtain ⟨P,hP,he⟩:=eL hp;have Xw:fl ps P=p:=by unfold fl;rw[bW,aB hP,he];rfl
   have ba:=hr.2 p hp;unfold vV;rw[aM (tK.2 ba),aM];refine bK.2 λs hs=>?_;have hs:=cH.1 hs;unfold xr;by_cases hz:a_ p s=0
   ·rw[aV hz];rfl
   ·have hc:bk ps P s≠[]:=λh0=>hz (by
     unfold bk at h0;rw[Xw] at h0
     exact (pY ba hs).1 h0)
    have:=S.read P s hc;unfold bk cellOf at this;rw[Xw,aM hs] at this;rw[this,iJ]
  have hl:¬ 12 < ps.length:=by have:=hr.1;omega
  unfold ij;rw[aP hl,aM hf];unfold Bu;rw[aM,aM,aM]
  ·rw[Nl];refine (AU (yr ps)).2 λx hx y hy b h1 h2=>?_;obtain ⟨P,s,c1,rfl⟩:=(pR hr).1 hx;obtain ⟨Q,t,c2,rfl⟩:=(pR hr).1 hy;split at h1
   ·cases h1
   ·rename_i f1;split at h2
    ·cases h2
    ·rename_i f2;rw[vf hr P s λhf=>(S.stub P s c1 hf).1] at h1;rw[vf hr Q t λhf=>(S.stub Q t c2 hf).1] at h2;obtain ⟨rfl,rfl⟩:=S.key P s Q t c1 c2 f1 f2 (by injection h1 with h1;injection h2 with h2;rw[h1,h2]);rfl
  ·refine (AU (yr ps)).2 λx hx y hy b h1 h2=>?_;obtain ⟨P,s,c1,rfl⟩:=(pR hr).1 hx;obtain ⟨Q,t,c2,rfl⟩:=(pR hr).1 hy;unfold xt at h1 h2;split at h1
   ·rename_i f1;split at h2
    ·rename_i f2;injection h1 with h1;injection h2 with h2;have h3:=h1.trans h2.symm;injection h3 with h3 h4;obtain ⟨rfl,rfl⟩:=S.P4 P s Q t c1 c2 f1 f2 (cP Int.toNat h3) (cP Int.toNat h4);rfl
    ·cases h2
   ·cases h1
  ·refine bK.2 λx hx=>?_;obtain ⟨P,s,c1,rfl⟩:=(pR hr).1 hx;exact (IP hr P s S.read).2 (S.stub P s c1)
theorem sY {ps:bY} (hv:ij ps=0) (r:Row):r ∈ eu ps↔pZ (bk ps) r:=by
 have V:=qD hv;have hr:=V.right;have S:=(ou.1 hv).2;rw[x_ V,(zA _).mem_iff,eX];constructor
 ·rintro ⟨x,hx,rfl⟩;unfold ju at hx;obtain ⟨y,hy,tI⟩:=cX.1 hx;obtain ⟨P,s,c1,rfl⟩:=(pR hr).1 hy;unfold qC at tI;split at tI
  ·cases tI
  ·rename_i f1;rw[bJ.1 tI,vf hr P s λhf=>(S.stub P s c1 hf).1];exact ⟨P,s,c1,f1,rfl⟩
 ·rintro ⟨P,s,c1,f1,rfl⟩;refine ⟨tn ps (qn ps P s),?_,vf hr P s λhf=>(S.stub P s c1 hf).1⟩
  unfold ju;refine cX.2 ⟨_,(pR hr).2 ⟨P,s,c1,rfl⟩,?_⟩;unfold qC;rw[aP (show ¬ ej (qn ps P s)=2 from f1)];exact bJ.2 rfl
end OT
namespace OT
open Go
def lS (f:oJ) (P s:Nat) (c:List UInt8):oJ:=λQ t=>if Q=P/\t=s then c else f Q t
theorem qP (f:oJ) (P s:Nat) (c:List UInt8):lS f P s c P s=c:=aM ⟨rfl,rfl⟩
theorem jZ {f:oJ} {P s:Nat} {c:List UInt8} {Q t:Nat} (h:¬ (Q=P/\t=s)):lS f P s c Q t=f Q t:=aP h
def lone (f:oJ) (A B:Nat):Prop:=∀ Q t,f Q t≠[]->fx (f Q t)=1->¬ (mT (f Q t)=A/\mU (f Q t)=B)
theorem sZ {f g:oJ} {Q u:Nat} (h1:g Q u=f Q u) (h2:fx (f Q u)=1->g (mT (f Q u)) (mU (f Q u))=f (mT (f Q u)) (mU (f Q u))):rowAt g Q u=rowAt f Q u:=by
 unfold rowAt;rw[h1];split
 ·rename_i hf;rw[h2 hf]
 ·rfl
section
variable {f:oJ} (S:tD f)
include S
theorem Ue {P t:Nat} {c:List UInt8} (h0:f P t=[]) (hc:(di c).2=true) (h2:fx c=2):tD (lS f P t c)/\(∀ r,pZ (lS f P t c) r↔pZ f r)/\lone (lS f P t c) P t:=by
 have off:∀ {Q u},f Q u≠[]->lS f P t c Q u=f Q u:=λ{Q u} hq=>jZ λ⟨e1,e2⟩=>hq (by rw[e1,e2];exact h0);have Nm:∀ {Q u},fx (lS f P t c Q u)≠2->lS f P t c Q u=f Q u:=λ{Q u} hq=>jZ λ⟨e1,e2⟩=>hq (by rw[e1,e2,qP];exact h2);have row:∀ {Q u},f Q u≠[]->rowAt (lS f P t c) Q u=rowAt f Q u:=λ{Q u} hq=>sZ (off hq) λhf=>off (S.stub Q u hq hf).1;refine ⟨⟨λQ u hq=>?_,λQ u hq hf=>?_,λQ u R v hq hr f1 f2 e1 e2=>?_,λQ u R v hq hr f1 f2 e=>?_⟩,λr=>?_,λQ u hq hf hh=>?_⟩
 ·by_cases he:Q=P/\u=t
  ·rw[he.1,he.2,qP];exact hc
  ·rw[jZ he] at hq ⊢;exact S.read Q u hq
 ·have e:=Nm (Q:=Q) (u:=u) (by rw[hf];decide);rw[e] at hq hf ⊢;obtain ⟨a1,a2⟩:=S.stub Q u hq hf;rw[off a1];exact ⟨a1,a2⟩
 ·have g1:=Nm (Q:=Q) (u:=u) (by rw[f1];decide);have g2:=Nm (Q:=R) (u:=v) (by rw[f2];decide);rw[g1] at hq f1 e1 e2;rw[g2] at hr f2 e1 e2;exact S.P4 Q u R v hq hr f1 f2 e1 e2
 ·have g1:=Nm f1;have g2:=Nm f2;rw[g1] at hq f1;rw[g2] at hr f2;rw[row hq,row hr] at e;exact S.key Q u R v hq hr f1 f2 e
 ·constructor
  ·rintro ⟨Q,u,hq,f1,e⟩;rw[Nm f1] at hq f1;rw[row hq] at e;exact ⟨Q,u,hq,f1,e⟩
  ·rintro ⟨Q,u,hq,f1,e⟩;exact ⟨Q,u,by rw[off hq];exact hq,by rw[off hq];exact f1,by rw[row hq];exact e⟩
 ·have e:=Nm (Q:=Q) (u:=u) (by rw[hf];decide);rw[e] at hq hf hh;have:=(S.stub Q u hq hf).1;rw[hh.1,hh.2] at this;exact this h0
theorem RL {A B:Nat} (h2:fx (f A B)=2) (hl:lone f A B):tD (lS f A B [])/\(∀ r,pZ (lS f A B []) r↔pZ f r):=by
 have ne:∀ {Q u},lS f A B [] Q u≠[]->¬ (Q=A/\u=B):=λ{Q u} hq he=>hq (by rw[he.1,he.2,qP]);have tg:∀ {Q u},f Q u≠[]->fx (f Q u)=1->lS f A B [] (mT (f Q u)) (mU (f Q u))=f (mT (f Q u)) (mU (f Q u)):=λ{Q u} hq hf=>jZ (hl Q u hq hf);refine ⟨⟨λQ u hq=>?_,λQ u hq hf=>?_,λQ u R v hq hr f1 f2 e1 e2=>?_,λQ u R v hq hr f1 f2 e=>?_⟩,λr=>?_⟩
 ·have:=ne hq;rw[jZ this] at hq ⊢;exact S.read Q u hq
 ·have:=ne hq;rw[jZ this] at hq hf ⊢;rw[tg hq hf];exact S.stub Q u hq hf
 ·have n1:=ne hq;have n2:=ne hr;rw[jZ n1] at hq f1 e1 e2;rw[jZ n2] at hr f2 e1 e2;exact S.P4 Q u R v hq hr f1 f2 e1 e2
 ·have n1:=ne hq;have n2:=ne hr;have g1:=jZ (f:=f) (c:=[]) n1;have g2:=jZ (f:=f) (c:=[]) n2;rw[g1] at hq f1;rw[g2] at hr f2;rw[sZ g1 (tg hq),sZ g2 (tg hr)] at e;exact S.key Q u R v hq hr f1 f2 e
 ·constructor
  ·rintro ⟨Q,u,hq,f1,e⟩;have g1:=jZ (f:=f) (c:=[]) (ne hq);rw[g1] at hq f1;rw[sZ g1 (tg hq)] at e;exact ⟨Q,u,hq,f1,e⟩
  ·rintro ⟨Q,u,hq,f1,e⟩;have g1:lS f A B [] Q u=f Q u:=jZ λhe=>f1 (by rw[he.1,he.2];exact h2);exact ⟨Q,u,by rw[g1];exact hq,by rw[g1];exact f1,by rw[sZ g1 (tg hq)];exact e⟩
theorem Uf {P s:Nat} (h0:f P s≠[]) (h2:fx (f P s)≠2):tD (lS f P s [])/\(∀ r,pZ (lS f P s []) r↔pZ f r/\rk r≠rk (rowAt f P s))/\(fx (f P s)=1->lone (lS f P s []) (mT (f P s)) (mU (f P s))):=by
 have ne:∀ {Q u},lS f P s [] Q u≠[]->¬ (Q=P/\u=s):=λ{Q u} hq he=>hq (by rw[he.1,he.2,qP])
 have tg:∀ {Q u},f Q u≠[]->fx (f Q u)=1->lS f P s [] (mT (f Q u)) (mU (f Q u))=f (mT (f Q u)) (mU (f Q u)):=λ{Q u} hq hf=>jZ λhe=>h2 (by
  have:=(S.stub Q u hq hf).2;rw[he.1,he.2] at this
  exact this)
 refine ⟨⟨λQ u hq=>?_,λQ u hq hf=>?_,λQ u R v hq hr f1 f2 e1 e2=>?_,λQ u R v hq hr f1 f2 e=>?_⟩,λr=>?_,λh1 Q u hq hf hh=>?_⟩
 ·have:=ne hq;rw[jZ this] at hq ⊢;exact S.read Q u hq
 ·have:=ne hq;rw[jZ this] at hq hf ⊢;rw[tg hq hf];exact S.stub Q u hq hf
 ·have n1:=ne hq;have n2:=ne hr;rw[jZ n1] at hq f1 e1 e2;rw[jZ n2] at hr f2 e1 e2;exact S.P4 Q u R v hq hr f1 f2 e1 e2
 ·have g1:=jZ (f:=f) (c:=[]) (ne hq);have g2:=jZ (f:=f) (c:=[]) (ne hr);rw[g1] at hq f1;rw[g2] at hr f2;rw[sZ g1 (tg hq),sZ g2 (tg hr)] at e;exact S.key Q u R v hq hr f1 f2 e
 ·constructor
  ·rintro ⟨Q,u,hq,f1,e⟩;have n1:=ne hq;have g1:=jZ (f:=f) (c:=[]) n1;rw[g1] at hq f1;rw[sZ g1 (tg hq)] at e;refine ⟨⟨Q,u,hq,f1,e⟩,λhk=>n1 ?_⟩
   rw[<-e] at hk;exact S.key Q u P s hq h0 f1 h2 hk
  ·rintro ⟨⟨Q,u,hq,f1,e⟩,hk⟩;have g1:lS f P s [] Q u=f Q u:=jZ λhe=>hk (by rw[<-e,he.1,he.2]);exact ⟨Q,u,by rw[g1];exact hq,by rw[g1];exact f1,by rw[sZ g1 (tg hq)];exact e⟩
 ·have n1:=ne hq;rw[jZ n1] at hq hf hh;exact n1 (S.P4 Q u P s hq h0 hf h1 hh.1 hh.2)
theorem Ks {P s:Nat} {c:List UInt8} {r:Row} (h0:f P s=[]) (hc:(di c).2=true) (hn:c≠[]) (hr:(fx c=0/\E5 c=r)\/(fx c=1/\f (mT c) (mU c)≠[]/\fx (f (mT c) (mU c))=2/\lone f (mT c) (mU c)/\E5 (f (mT c) (mU c))=r)) (hk:∀ r',pZ f r'->rk r'≠rk r):tD (lS f P s c)/\(∀ r',pZ (lS f P s c) r'↔pZ f r'\/r'=r):=by
 have off:∀ {Q u},f Q u≠[]->lS f P s c Q u=f Q u:=λ{Q u} hq=>jZ λ⟨e1,e2⟩=>hq (by rw[e1,e2];exact h0);have row:∀ {Q u},f Q u≠[]->rowAt (lS f P s c) Q u=rowAt f Q u:=λ{Q u} hq=>sZ (off hq) λhf=>off (S.stub Q u hq hf).1;have h2:fx c≠2:=by rcases hr with ⟨h,_⟩ | ⟨h,_⟩ <;> rw[h] <;> decide
 have RM:rowAt (lS f P s c) P s=r:=by
  unfold rowAt;rw[qP]
  rcases hr with ⟨h,h'⟩ | ⟨h,h3,_,_,h6⟩
  ·rw[h,aP (by decide),h']
  ·rw[h,aM rfl,off h3,h6]
 have cut:∀ {Q u},lS f P s c Q u≠[]->(Q=P/\u=s)\/(f Q u≠[]/\lS f P s c Q u=f Q u):=λ{Q u} hq=>by
  by_cases he:Q=P/\u=s
  ·exact .inl he
  ·rw[jZ he] at hq ⊢;exact .inr ⟨hq,rfl⟩
 refine ⟨⟨λQ u hq=>?_,λQ u hq hf=>?_,λQ u R v hq hv f1 f2 e1 e2=>?_,λQ u R v hq hv f1 f2 e=>?_⟩,λr'=>?_⟩
 ·rcases cut hq with ⟨rfl,rfl⟩ | ⟨a,e⟩
  ·rw[qP];exact hc
  ·rw[e];exact S.read Q u a
 ·rcases cut hq with ⟨rfl,rfl⟩ | ⟨a,e⟩
  ·rw[qP] at hf ⊢
   rcases hr with ⟨h,_⟩ | ⟨h,h3,h4,_,_⟩
   ·rw[h] at hf;cases hf
   ·rw[off h3];exact ⟨h3,h4⟩
  ·rw[e] at hf ⊢;obtain ⟨b1,b2⟩:=S.stub Q u a hf;rw[off b1];exact ⟨b1,b2⟩
 ·rcases cut hq with ⟨rfl,rfl⟩ | ⟨a,g1⟩
  ·rcases cut hv with ⟨rfl,rfl⟩ | ⟨b,g2⟩
   ·exact ⟨rfl,rfl⟩
   ·rw[qP] at f1 e1 e2;rw[g2] at f2 e1 e2
    rcases hr with ⟨h,_⟩ | ⟨h,_,_,h5,_⟩
    ·rw[h] at f1;cases f1
    ·exact absurd ⟨e1.symm,e2.symm⟩ (h5 R v b f2)
  ·rcases cut hv with ⟨rfl,rfl⟩ | ⟨b,g2⟩
   ·rw[qP] at f2 e1 e2;rw[g1] at f1 e1 e2
    rcases hr with ⟨h,_⟩ | ⟨h,_,_,h5,_⟩
    ·rw[h] at f2;cases f2
    ·exact absurd ⟨e1,e2⟩ (h5 Q u a f1)
   ·rw[g1] at f1 e1 e2;rw[g2] at f2 e1 e2;exact S.P4 Q u R v a b f1 f2 e1 e2
 ·rcases cut hq with ⟨rfl,rfl⟩ | ⟨a,g1⟩
  ·rcases cut hv with ⟨rfl,rfl⟩ | ⟨b,g2⟩
   ·exact ⟨rfl,rfl⟩
   ·rw[g2] at f2;rw[RM,row b] at e;exact absurd e.symm (hk _ ⟨R,v,b,f2,rfl⟩)
  ·rcases cut hv with ⟨rfl,rfl⟩ | ⟨b,g2⟩
   ·rw[g1] at f1;rw[RM,row a] at e;exact absurd e (hk _ ⟨Q,u,a,f1,rfl⟩)
   ·rw[g1] at f1;rw[g2] at f2;rw[row a,row b] at e;exact S.key Q u R v a b f1 f2 e
 ·constructor
  ·rintro ⟨Q,u,hq,f1,e⟩
   rcases cut hq with ⟨rfl,rfl⟩ | ⟨a,g1⟩
   ·rw[RM] at e;exact .inr e.symm
   ·rw[g1] at f1;rw[row a] at e;exact .inl ⟨Q,u,a,f1,e⟩
  ·rintro (⟨Q,u,hq,f1,e⟩ | rfl)
   ·exact ⟨Q,u,by rw[off hq];exact hq,by rw[off hq];exact f1,by rw[row hq];exact e⟩
   ·exact ⟨P,s,by rw[qP];exact hn,by rw[qP];exact h2,RM⟩
end
theorem E7 {n:Int} (h:0<=n) (h2:n < 256):((UInt8.ofInt n).toNat:Int)=n:=by
 have:n=((n.toNat:Nat):Int):=by omega
 rw[this,t7,ofNat_toNat (by omega)]
theorem RN {n:Nat} (hn:n=0\/n=2) {r:Row} (hr:jY r=0):di (cz n r)=(((0:Int),(n:Int),(0:Int),(0:Int),r,()),true):=by
 obtain ⟨h1,h2,h3,h4⟩:=FN hr;have h5:=Bz h4;have hl:(cz n r).length=6+List.length r.2.2.2.1:=by unfold cz;rw[bE];rfl
 have b0:pb (cz n r) 0=n:=by
  show (UInt8.ofNat n).toNat=n;exact ofNat_toNat (by omega)
 have b1:(pb (cz n r) 1:Int)=r.1:=by
  show ((UInt8.ofInt r.1).toNat:Int)=r.1;exact E7 (by omega) (by omega)
 have b2:(pb (cz n r) 2:Int)=r.2.1:=by
  show ((UInt8.ofInt r.2.1).toNat:Int)=r.2.1;exact E7 (by omega) (by omega)
 have b3:(pb (cz n r) 3:Int)=r.2.2.1 / 256:=by
  show ((UInt8.ofInt (r.2.2.1 / 256)).toNat:Int)=_;exact E7 (by omega) (by omega)
 have b4:(pb (cz n r) 4:Int)=r.2.2.1 % 256:=by
  show ((UInt8.ofInt (r.2.2.1 % 256)).toNat:Int)=_;exact E7 (by omega) (by omega)
 have b5:(pb (cz n r) 5:Int)=(List.length r.2.2.2.1:Int):=by
  show ((UInt8.ofInt (List.length r.2.2.2.1:Int)).toNat:Int)=_;exact E7 (by omega) (by omega)
 have hd:(cz n r).drop 6=r.2.2.2.1:=rfl
 have abZ:sU (cz n r)=r:=by
  unfold sU;rw[b1,b2,b3,b4,hd];obtain ⟨t,k,v,x,u⟩:=r
  show (t,k,v / 256*256+v % 256,x,())=(t,k,v,x,u)
  rw[show v / 256*256+v % 256=v by omega]
 unfold di;rw[aP (by omega),aP (by omega),b0,abZ,aV hr]
theorem RP {P t:Nat} (hP:P<=11) (ht:t<=15):di (jD P t)=(((0:Int),(1:Int),(P:Int),(t:Int),yX,()),true):=by
 have b1:pb (jD P t) 1=P:=by
  show (UInt8.ofNat P).toNat=P;exact ofNat_toNat (by omega)
 have b2:pb (jD P t) 2=t:=by
  show (UInt8.ofNat t).toNat=t;exact ofNat_toNat (by omega)
 unfold di;rw[aM ⟨rfl,rfl⟩,b1,b2,aV hP,aV ht];rfl
theorem RR {d:List UInt8} (h:(di d).2=true) (h1:fx d=1):d=jD (mT d) (mU d)/\mT d<=11/\mU d<=15:=by
 unfold fx at h1;unfold mT mU;unfold di at h h1 ⊢;split at h
 ·rename_i hc;rw[aM hc];simp only[aF,bI] at h;refine ⟨?_,by simpa using h.1,by simpa using h.2⟩
  refine AG (by rw[hc.1];rfl) λj hj=>?_;rw[hc.1] at hj;have e1:=l7 d 1;have e2:=l7 d 2
  match j,hj with
  | 0,_=>rw[hc.2];rfl
  | 1,_=>show _=(UInt8.ofNat _).toNat;rw[ofNat_toNat (by simpa using e1)];simp
  | 2,_=>show _=(UInt8.ofNat _).toNat;rw[ofNat_toNat (by simpa using e2)];simp
 ·rename_i hc;rw[aP hc] at h1;split at h
  ·cases h
  ·rename_i HS;rw[aP HS] at h1;have:((pb d 0:Nat):Int)=1:=by simpa using h1
   omega
end OT
namespace OT
open Go
theorem Nn {xs:List Row} {k:Int×Int} (hu:up xs) {i:Nat} (hi:i < xs.length) (hk:rk xs[i]=k):pW xs k=true/\pos xs k=i:=by
 have h1:¬ i < pos xs k:=λax=>by
  have:=EN xs k i hi ax;rw[hk,sV] at this;cases this
 have hp:pos xs k < xs.length:=by omega
 have h2:pos xs k=i:=by
  by_cases he:pos xs k=i
  ·exact he
  ·have h3:=dA.1 hu (pos xs k) i hp hi (by omega);have h4:=yJ xs k (pos xs k) hp hu (aL _);rw[hk] at h3;rw[h3] at h4;cases h4
 refine ⟨?_,h2⟩
 unfold pW;rw[h2,aB hi]
 simpa using hk
theorem V1 {xs:List Row} (hu:up xs) (c:Change) (r:Row):r ∈ qz xs c↔(r ∈ xs/\rk r≠ck c)\/(c.2.2.1=true/\r=c.2.2.2.1):=by
 have key:(r ∈ xs.take (pos xs (ck c))\/r ∈ xs.drop (pos xs (ck c)+if pW xs (ck c) then 1 else 0))↔(r ∈ xs/\rk r≠ck c):=by
  constructor
  ·rintro (h | h)
   ·exact ⟨eE h,λhe=>by have:=AL h;rw[he,sV] at this;cases this⟩
   ·refine ⟨fQ h,λhe=>?_⟩
    obtain ⟨i,hi,hr⟩:=eL h;rw[List.getElem_drop] at hr;rw[bQ] at hi;obtain ⟨f1,f2⟩:=Nn hu (i:=pos xs (ck c)+(if pW xs (ck c) then 1 else 0)+i) (k:=ck c) (by omega) (by rw[hr];exact he);rw[f1] at f2;simp only[aI] at f2;omega
  ·rintro ⟨h,kF⟩;obtain ⟨i,hi,hr⟩:=eL h;by_cases h1:i < pos xs (ck c)
   ·left;rw[iC];exact ⟨i,by omega,hr⟩
   ·right;rw[List.mem_drop_iff_getElem];by_cases hf:pW xs (ck c)=true
    ·rw[aM hf];obtain ⟨hp,hk⟩:=Co hf;have:i≠pos xs (ck c):=λhe=>kF (by subst he;rw[<-hr];exact hk);exact ⟨i - (pos xs (ck c)+1),by omega,by rw[<-hr];congr 1;omega⟩
    ·rw[aP hf];exact ⟨i - (pos xs (ck c)+0),by omega,by rw[<-hr];congr 1;omega⟩
 unfold qz;rw[bU,bU];constructor
 ·rintro ((h | h) | h)
  ·exact .inl (key.1 (.inl h))
  ·cases hi:c.2.2.1 with
   | true=>rw[hi] at h;exact .inr ⟨rfl,bJ.1 h⟩
   | false=>rw[hi] at h;cases h
  ·exact .inl (key.1 (.inr h))
 ·rintro (h | ⟨hi,rfl⟩)
  ·rcases key.2 h with h | h
   ·exact .inl (.inl h)
   ·exact .inr h
  ·rw[hi];exact .inl (.inr (bJ.2 rfl))
theorem aad {a b:Row} (h:Ty.eq bd a b=true):a=b:=by
 have e:Ty.eq bd a b=(decide (a.1=b.1)&&(decide (a.2.1=b.2.1)&&(decide (a.2.2.1=b.2.2.1)&&(decide (a.2.2.2.1=b.2.2.2.1)&&true)))):=rfl;rw[e] at h;simp only[aF,bI,eJ] at h;obtain ⟨a1,a2,a3,a4,⟨⟩⟩:=a;obtain ⟨b1,b2,b3,b4,⟨⟩⟩:=b;obtain ⟨h1,h2,h3,h4⟩:=h;simp only at h1 h2 h3 h4;rw[h1,h2,h3,h4]
end OT
namespace OT
open Go
def eg (ps:bY):aT:=(ps,([]:List qG),())
theorem qN {ps:bY} (h:lp ps):okW (eg ps) 0:=⟨h,aL _,λe he=>by cases he⟩
theorem RS {ps:bY} (h:lp ps):gp ps:=⟨h.1,λp hp=>(h.2 p hp).len⟩
theorem AW {ps:bY} (h:lp ps):kT.ab (ps,())=some (eg ps,()):=by
 refine ag (k:=0) λk _=>(kT.ae k _).trans ?_;show kT.p _=_;unfold kT.p;rw[v_ ps (RS h)];rfl
theorem No {ps:bY} (h:lp ps):rz.ab (ps,())=some (eg ps,()):=by
 refine ag (k:=0) λk _=>(rz.ae k _).trans ?_;show rz.p _=_;unfold rz.p;rw[DY ps (RS h)];rfl
def DK (k:Int):dr:=(k,([]:List qG),([]:List (List UInt8)),())
def ua (ok:Bool) (w:aT):dr:=if ok then ((0:Int),w.2.1,w.1,()) else DK 9
theorem BU (k:Int):fe.ab (k,())=some (DK k,()):=ag (k:=0) λq _=>(fe.ae q _).trans rfl
theorem AY (w:aT):kC.ab (w,())=some (ua true w,()):=ag (k:=0) λq _=>(kC.ae q _).trans rfl
theorem Gs (w:aT):lj.ab (w,())=some (ua true w,()):=ag (k:=0) λq _=>(lj.ae q _).trans rfl
theorem AZ (w:aT) (ok:Bool):mH.ab (w,ok,())=some (ua ok w,()):=by
 refine ag (k:=0) λk _=>(mH.ae k _).trans ?_;show mH.p _=_;unfold mH.p;rw[Gs];cases ok <;> rfl
def tE (w:aT) (r:Row):Option (Nat×Nat)×aT:=mS w (-1) (cz 0 r)
theorem P5 {w:aT} {n:Nat} (h:okW w n) {r:Row} (hr:jY r=0):IN w n 25 (cz 0 r) (tE w r):=
 tN h (iY hr).1 (by have:=(iY (f:=0) hr).2;omega) _
theorem RU {w:aT} {n:Nat} (h:okW w n) (hn:n<=800) {r:Row} (hr:jY r=0):np.ab (w,r,())=some ((tE w r).1.isSome,(tE w r).2,()):=by
 refine ag (k:=0) λk _=>(np.ae k _).trans ?_;show np.p _=_;unfold np.p;have e:mL.ab ((0:Int),r,())=some (cz 0 r,()):=BT (f:=0) hr;simp only[e,aA,E4 h hn (iY hr).1 (show (cz 0 r).length<=20 by have:=(iY (f:=0) hr).2;omega)];unfold t_ tE;cases (mS w (-1) (cz 0 r)).1 <;> rfl
theorem RV {ps:bY} (h:lp ps) {r:Row} (hr:jY r=0):pv.ab (ps,r,())=some (ua (tE (eg ps) r).1.isSome (tE (eg ps) r).2,()):=by
 refine ag (k:=0) λk _=>(pv.ae k _).trans ?_;show pv.p _=_;unfold pv.p;have e:ji.ab ((0:Int),r,())=some (cz 0 r,()):=yq (f:=0) hr;simp only[e,AW h,aA,AT (qN h) (by omega) (iY hr).1 (show (cz 0 r).length<=20 by have:=(iY (f:=0) hr).2;omega),BU,AY];unfold t_ tE;cases (mS (eg ps) (-1) (cz 0 r)).1 <;> rfl
def pe (w:aT) (P s A B:Nat) (mv:Bool) (r:Row):Bool×aT:=
 if (kI w A B (cz (bif mv then 2 else 0) r)).1=true then (true,(kI w A B (cz (bif mv then 2 else 0) r)).2)
 else match (mS (kI w A B (cz (bif mv then 2 else 0) r)).2 (A:Int) (cz 2 r)).1 with
  | none=>(false,(mS (kI w A B (cz (bif mv then 2 else 0) r)).2 (A:Int) (cz 2 r)).2)
  | some a=>(true,bif mv then lq (kI (mS (kI w A B (cz (bif mv then 2 else 0) r)).2 (A:Int) (cz 2 r)).2 P s (jD a.1 a.2)).2 A B else (kI (mS (kI w A B (cz (bif mv then 2 else 0) r)).2 (A:Int) (cz 2 r)).2 P s (jD a.1 a.2)).2)
theorem jP {f:Nat} {r:Row}:cz f r≠[]:=by unfold cz;simp
theorem qo (P t:Nat):(jD P t).length=3:=rfl
theorem tF {w:aT} {n m:Nat} {c:List UInt8} {r:Option (Nat×Nat)×aT} (R:IN w n m c r) {Q t:Nat} (h:bk w.1 Q t≠[]) (hc:c≠[]):bk r.2.1 Q t≠[]:=by
 cases hr:r.1 with
 | none=>rw[(R.no hr).2];exact h
 | some a=>
  rw[(R.yes a.1 a.2 hr).2.2.2];split
  ·exact hc
  ·exact h
theorem nN {w:aT} {n P s:Nat} {c:List UInt8} {r:Bool×aT} (R:Ua w n P s c r) {Q t:Nat} (h:bk w.1 Q t≠[]) (hc:c≠[]):bk r.2.1 Q t≠[]:=by
 cases hr:r.1 with
 | false=>rw[R.no hr];exact h
 | true=>
  rw[R.yes hr];split
  ·exact hc
  ·exact h
section
variable {w:aT} {n:Nat} (h:okW w n) (hn:n<=400) {P s A B:Nat} (h1:bk w.1 P s≠[]) (h2:bk w.1 A B≠[]) (mv:Bool) {r:Row} (hr:jY r=0)
include h hn h1 h2 hr
theorem FO:okW (pe w P s A B mv r).2 (n+40):=by
 have R1:=qM h h2 (iY (f:=bif mv then 2 else 0) hr).1;have R2:=tN R1.ok (iY (f:=2) hr).1 (by have:=(iY (f:=2) hr).2;omega) (A:Int);unfold pe;split
 ·exact R1.ok.mono (by omega)
 ·split
  ·exact R2.ok.mono (by omega)
  ·rename_i a ha;have k1:=tF R2 (nN R1 h1 jP) jP;have k2:=tF R2 (nN R1 h2 jP) jP;have R3:=qM R2.ok k1 (c:=jD a.1 a.2) (by rw[qo];omega)
   cases mv with
   | false=>exact R3.ok.mono (by omega)
   | true=>
    have k3:=nN R3 k2 (by unfold jD;simp);exact (rC R3.ok k3).1.mono (by omega)
theorem IQ (r0:Row):km.ab (w,(r0,(P:Int),(s:Int),mv,(A:Int),(B:Int),()),r,())=some (if Ty.eq bd r0 r=true then (true,w,()) else ((pe w P s A B mv r).1,(pe w P s A B mv r).2,())):=by
 refine ag (k:=0) λk _=>(km.ae k _).trans ?_;show km.p _=_;unfold km.p;show (bif Ty.eq bd r0 r then _ else _)=_
 cases Ty.eq bd r0 r with
 | true=>rfl
 | false=>
  have Cr:∀ f,(cz f r).length<=20:=λf=>by have:=(iY (f:=f) hr).2;omega
  have l1:∀ f,1<=(cz f r).length:=λf=>(iY (f:=f) hr).1
  have main:∀ f:Nat,f=(bif mv then 2 else 0)->((mL.ab ((f:Int),r,())).bind λtA=>(lP.ab (w,(A:Int),(B:Int),tA.1,())).bind λwz=>bif wz.1 then (some (true,wz.2.1,()):Option km.Out) else (mL.ab ((2:Int),r,())).bind λIf=>(ff.ab (wz.2.1,If.1,(A:Int),())).bind λxg=>bif !xg.2.2.1 then (some (false,xg.2.2.2.1,())) else (sC.ab (xg.1,xg.2.1,())).bind λEz=>(lP.ab (xg.2.2.2.1,(P:Int),(s:Int),Ez.1,())).bind λAz=>bif mv then ((jX.ab (Az.2.1,(A:Int),(B:Int),())).bind λCh=>some (true,Ch.1,())) else some (true,Az.2.1,()))=some ((pe w P s A B mv r).1,(pe w P s A B mv r).2,()):=by
   intro f hf;have R1:=qM h h2 (l1 f);have R2:=tN R1.ok (l1 2) (Cr 2) (A:Int);have e2:mL.ab ((2:Int),r,())=some (cz 2 r,()):=BT (f:=2) hr;unfold pe;rw[<-hf];simp only[BT (f:=f) hr,e2,aA,E1 h (by omega) h2 (l1 f) (Cr f)]
   cases hb:(kI w A B (cz f r)).1 with
   | true=>simp only[aH,aI]
   | false=>
    simp only[aD,aJ,aO,E4 R1.ok (show n+2<=800 by omega) (l1 2) (Cr 2),aA];unfold t_
    cases hg:(mS (kI w A B (cz f r)).2 (A:Int) (cz 2 r)).1 with
    | none=>rfl
    | some a=>
     have k1:=tF R2 (nN R1 h1 jP) jP;have k2:=tF R2 (nN R1 h2 jP) jP;have l3:1<=(jD a.1 a.2).length:=by rw[qo];omega
     have R3:=qM R2.ok k1 l3;have k3:=nN R3 k2 (by unfold jD;simp);simp only[aN,aD,OP,aA,E1 R2.ok (show n+2+25<=900 by omega) k1 l3 (show (jD a.1 a.2).length<=20 by rw[qo];omega)]
     cases mv with
     | false=>rfl
     | true=>simp only[aH,y_ R3.ok (show n+2+25+2<=900 by omega) k3,aA]
  cases mv with
  | true=>exact main 2 rfl
  | false=>exact main 0 rfl
theorem OQ (x:ay) (x3:x.2.2.1.2.2.1=(A:Int)) (x4:x.2.2.1.2.2.2.1=(B:Int)) (x1:x.1=(P:Int)) (x2:x.2.1=(s:Int)):ry.ab (w,x,r,())=some ((pe w P s A B true r).1,(pe w P s A B true r).2,()):=by
 refine ag (k:=0) λk _=>(ry.ae k _).trans ?_;show ry.p _=_;unfold ry.p;have Cr:∀ f,(cz f r).length<=20:=λf=>by have:=(iY (f:=f) hr).2;omega
 have l1:∀ f,1<=(cz f r).length:=λf=>(iY (f:=f) hr).1;have R1:=qM h h2 (l1 2);have R2:=tN R1.ok (l1 2) (Cr 2) (A:Int);have e2:ji.ab ((2:Int),r,())=some (cz 2 r,()):=yq (f:=2) hr;unfold pe;simp only[e2,x1,x2,x3,x4,aA,xx h (by omega) h2 (l1 2) (Cr 2),aH]
 cases hb:(kI w A B (cz 2 r)).1 with
 | true=>simp only[aH,aI]
 | false=>
  simp only[aD,aJ,aO,AT R1.ok (show n+2<=800 by omega) (l1 2) (Cr 2),aA];unfold t_
  cases hg:(mS (kI w A B (cz 2 r)).2 (A:Int) (cz 2 r)).1 with
  | none=>rfl
  | some a=>
   have k1:=tF R2 (nN R1 h1 jP) jP;have k2:=tF R2 (nN R1 h2 jP) jP;have l3:1<=(jD a.1 a.2).length:=by rw[qo];omega
   have R3:=qM R2.ok k1 l3;have k3:=nN R3 k2 (by unfold jD;simp);simp only[aN,aD,Gr,aA,xx R2.ok (show n+2+25<=900 by omega) k1 l3 (show (jD a.1 a.2).length<=20 by rw[qo];omega),y9 R3.ok (show n+2+25+2<=900 by omega) k3]
end
def BV (ps:bY) (x:ay) (r:Row):dr:=
 if Ty.eq bd (fk x) r=true then ua true (eg ps) else
  ua (pe (eg ps) x.1.toNat x.2.1.toNat (if ej x=1 then oP x else x.1).toNat (if ej x=1 then oQ x else x.2.1).toNat (decide (ej x=1)) r).1 (pe (eg ps) x.1.toNat x.2.1.toNat (if ej x=1 then oP x else x.1).toNat (if ej x=1 then oQ x else x.2.1).toNat (decide (ej x=1)) r).2
theorem RW {ps:bY} (h:vB ps) {x:ay} (hx:x ∈ ju ps) {r:Row} (hr:jY r=0):px.ab (ps,x,r,())=some (BV ps x r,()):=by
 obtain ⟨P,s,x1,x2,c1,c2,c3⟩:=Hm h hx;have ho:=qN h.right;refine ag (k:=0) λk _=>(px.ae k _).trans ?_;show px.p _=_;unfold px.p BV;simp only[AW h.right,AY,BU,aA];show (bif Ty.eq bd (fk x) r then _ else _)=_
 cases Ty.eq bd (fk x) r with
 | true=>rfl
 | false=>
  simp only[aD,aJ,aO];show (bif decide (ej x=1) then _ else _)=_;by_cases hf:ej x=1
  ·obtain ⟨Q,t,x3,x4,c4,c5⟩:=c2 hf;rw[aV hf,aH,OQ ho (by omega) c1 c4 hr x x3 x4 x1 x2];simp only[aM hf,x1,x2,x3,x4,aC,aA];cases (pe (eg ps) P s Q t true r).1 <;> rfl
  ·rw[aY hf,aD];simp only[aP hf,x1,x2,aC];have Cr:∀ f,(cz f r).length<=20:=λf=>by have:=(iY (f:=f) hr).2;omega
   have l1:∀ f,1<=(cz f r).length:=λf=>(iY (f:=f) hr).1;have R1:=qM ho c1 (l1 0);have R2:=tN R1.ok (l1 2) (Cr 2) (P:Int);have e0:ji.ab ((0:Int),r,())=some (cz 0 r,()):=yq (f:=0) hr;have e2:ji.ab ((2:Int),r,())=some (cz 2 r,()):=yq (f:=2) hr;unfold pe;simp only[e0,e2,aA,xx ho (by omega) c1 (l1 0) (Cr 0),aD]
   cases hb:(kI (eg ps) P s (cz 0 r)).1 with
   | true=>rfl
   | false=>
    simp only[aD,aJ,aO,AT R1.ok (show 0+2<=800 by omega) (l1 2) (Cr 2),aA];unfold t_
    cases hg:(mS (kI (eg ps) P s (cz 0 r)).2 (P:Int) (cz 2 r)).1 with
    | none=>rfl
    | some a=>
     have k1:=tF R2 (nN R1 c1 jP) jP;have l3:1<=(jD a.1 a.2).length:=by rw[qo];omega
     simp only[aN,aD,Gr,aA,xx R2.ok (show 0+2+25<=900 by omega) k1 l3 (show (jD a.1 a.2).length<=20 by rw[qo];omega)]
theorem OR {ps:bY} (h:vB ps) {x:ay} (hx:x ∈ ju ps) {r:Row} (hr:jY r=0):((km.ab (eg ps,pc x,r,())).bind λwz=>mH.ab (wz.2.1,wz.1,()))=some (BV ps x r,()):=by
 obtain ⟨P,s,x1,x2,c1,c2,c3⟩:=Hm h hx;have ho:=qN h.right;unfold BV;by_cases hf:ej x=1
 ·obtain ⟨Q,t,x3,x4,c4,c5⟩:=c2 hf;have hc:pc x=(fk x,(P:Int),(s:Int),true,(Q:Int),(t:Int),()):=by unfold pc;rw[aV hf,aM hf,aM hf,x1,x2,x3,x4]
  rw[hc,IQ ho (by omega) c1 c4 true hr (fk x),aV hf];simp only[aM hf,x1,x2,x3,x4,aC,aA,AZ];cases Ty.eq bd (fk x) r <;> rfl
 ·have hc:pc x=(fk x,(P:Int),(s:Int),false,(P:Int),(s:Int),()):=by unfold pc;rw[aY hf,aP hf,aP hf,x1,x2]
  rw[hc,IQ ho (by omega) c1 c1 false hr (fk x),aY hf];simp only[aP hf,x1,x2,aC,aA,AZ];cases Ty.eq bd (fk x) r <;> rfl
def E8 (ps:bY) (x:ay):dr:=ua true (if ej x=1 then lq (lq (eg ps) x.1.toNat x.2.1.toNat) (oP x).toNat (oQ x).toNat else lq (eg ps) x.1.toNat x.2.1.toNat)
theorem Ug {ps:bY} (h:vB ps) {x:ay} (hx:x ∈ ju ps):∃ P s:Nat,x.1=(P:Int)/\x.2.1=(s:Int)/\bk ps P s≠[]/\(ej x=1->∃ Q t:Nat,oP x=(Q:Int)/\oQ x=(t:Int)/\bk (lq (eg ps) P s).1 Q t≠[]):=by
 obtain ⟨P,s,x1,x2,c1,c2,c3⟩:=Hm h hx;refine ⟨P,s,x1,x2,c1,λhf=>?_⟩
 obtain ⟨Q,t,x3,x4,c4,c5⟩:=c2 hf;refine ⟨Q,t,x3,x4,?_⟩
 rw[(rC (qN h.right) c1).2.2,aP]
 ·exact c4
 ·rintro ⟨rfl,rfl⟩;rw[c5] at c3;rw[hf] at c3;cases c3
theorem RX {ps:bY} (h:vB ps) {x:ay} (hx:x ∈ ju ps):pw.ab (ps,x,())=some (E8 ps x,()):=by
 obtain ⟨P,s,x1,x2,c1,c2⟩:=Ug h hx;have ho:=qN h.right;have hd:=(rC ho c1).1;refine ag (k:=0) λk _=>(pw.ae k _).trans ?_;show pw.p _=_;unfold pw.p E8;simp only[AW h.right,AY,aA,x1,x2,y9 ho (by omega) c1,aC];show (bif decide (ej x=1) then _ else _)=_;by_cases hf:ej x=1
 ·obtain ⟨Q,t,x3,x4,c4⟩:=c2 hf;rw[aV hf,aH,aM hf];have e3:x.2.2.1.2.2.1=(Q:Int):=x3;have e4:x.2.2.1.2.2.2.1=(t:Int):=x4;simp only[x3,x4,e3,e4,aC,y9 hd (by omega) c4,aA]
 ·rw[aY hf,aD,aP hf]
theorem RY {ps:bY} (h:vB ps) {x:ay} (hx:x ∈ ju ps):((lk.ab (eg ps,pc x,())).bind λZU=>lj.ab (ZU.1,()))=some (E8 ps x,()):=by
 obtain ⟨P,s,x1,x2,c1,c2⟩:=Ug h hx;have ho:=qN h.right;have hd:=(rC ho c1).1
 have e:lk.ab (eg ps,pc x,())=some (if ej x=1 then lq (lq (eg ps) x.1.toNat x.2.1.toNat) (oP x).toNat (oQ x).toNat else lq (eg ps) x.1.toNat x.2.1.toNat,()):=by
  refine ag (k:=0) λk _=>(lk.ae k _).trans ?_;show lk.p _=_;unfold lk.p pc;simp only[x1,x2,aC];rw[y_ ho (by omega) c1];simp only[aA];by_cases hf:ej x=1
  ·obtain ⟨Q,t,x3,x4,c4⟩:=c2 hf;rw[aV hf,aH,aM hf,aM hf,aM hf,x3,x4,y_ hd (by omega) c4];simp only[aA,aC]
  ·rw[aY hf,aD,aP hf]
 rw[e,aA,Gs];rfl
end OT
namespace OT
open Go
def rS (f:oJ) (P s:Nat):oJ:=if fx (f P s)=1 then lS (lS f P s []) (mT (f P s)) (mU (f P s)) [] else lS f P s []
theorem Np {f:oJ} (S:tD f) {P s:Nat} (h0:f P s≠[]) (h2:fx (f P s)≠2):tD (rS f P s)/\(∀ r,pZ (rS f P s) r↔pZ f r/\rk r≠rk (rowAt f P s)):=by
 obtain ⟨S1,r1,l1⟩:=Uf S h0 h2;unfold rS;split
 ·rename_i hf;obtain ⟨a1,a2⟩:=S.stub P s h0 hf
  have ne:¬ (mT (f P s)=P/\mU (f P s)=s):=λhe=>by
   rw[he.1,he.2] at a2;exact h2 a2
  obtain ⟨S2,r2⟩:=RL S1 (A:=mT (f P s)) (B:=mU (f P s)) (by rw[jZ ne];exact a2) (l1 hf);exact ⟨S2,λr=>by rw[r2,r1]⟩
 ·exact ⟨S1,r1⟩
theorem Kt (f:oJ) (P s:Nat):rS f P s P s=[]:=by
 unfold rS;split
 ·unfold lS;split
  ·rfl
  ·rw[aM ⟨rfl,rfl⟩]
 ·exact qP _ _ _ _
theorem drop_nil {f:oJ} {P s Q t:Nat} (h:f Q t=[]):rS f P s Q t=[]:=by
 have one:∀ (g:oJ) (A B:Nat),g Q t=[]->lS g A B [] Q t=[]:=λg A B hg=>by
  by_cases he:Q=A/\t=B
  ·rw[he.1,he.2,qP]
  ·rw[jZ he];exact hg
 unfold rS;split
 ·exact one _ _ _ (one _ _ _ h)
 ·exact one _ _ _ h
theorem Ku {n:Nat} (hn:n=0\/n=2) {r:Row} (hr:jY r=0):(di (cz n r)).2=true/\fx (cz n r)=n/\E5 (cz n r)=r:=by
 unfold fx E5;rw[RN hn hr];exact ⟨rfl,rfl,rfl⟩
theorem Nq {h:oJ} (S:tD h) {P s:Nat} (h0:h P s=[]) {r:Row} (hr:jY r=0) (hk:∀ r',pZ h r'->rk r'≠rk r):tD (lS h P s (cz 0 r))/\(∀ r',pZ (lS h P s (cz 0 r)) r'↔pZ h r'\/r'=r):=by
 obtain ⟨c1,c2,c3⟩:=Ku (n:=0) (.inl rfl) hr;exact Ks S h0 c1 jP (.inl ⟨c2,c3⟩) hk
theorem Yj {h:oJ} (S:tD h) {P s X Y:Nat} (h0:h P s=[]) (h1:h X Y=[]) (kF:¬ (X=P/\Y=s)) (hX:X<=11) (hY:Y<=15) {r:Row} (hr:jY r=0) (hk:∀ r',pZ h r'->rk r'≠rk r):tD (lS (lS h X Y (cz 2 r)) P s (jD X Y))/\(∀ r',pZ (lS (lS h X Y (cz 2 r)) P s (jD X Y)) r'↔pZ h r'\/r'=r):=by
 obtain ⟨c1,c2,c3⟩:=Ku (n:=2) (.inr rfl) hr;obtain ⟨S1,r1,l1⟩:=Ue S h1 c1 c2;have hs:=RP hX hY;have e1:fx (jD X Y)=1:=by unfold fx;rw[hs]
 have e2:mT (jD X Y)=X:=by unfold mT;rw[hs];rfl
 have e3:mU (jD X Y)=Y:=by unfold mU;rw[hs];rfl
 have:=Ks S1 (P:=P) (s:=s) (c:=jD X Y) (r:=r) (by rw[jZ (λhe=>kF ⟨he.1.symm,he.2.symm⟩)];exact h0) (by rw[hs]) (by unfold jD;simp)
  (.inr ⟨e1,by rw[e2,e3,qP];exact jP,by rw[e2,e3,qP];exact c2,by rw[e2,e3];exact l1,by rw[e2,e3,qP];exact c3⟩) (λr' hr'=>hk r' ((r1 r').1 hr'))
 exact ⟨this.1,λr'=>by rw[this.2,r1]⟩
theorem wB {ps:bY} {g:oJ} (h:∀ Q t,bk ps Q t=g Q t):bk ps=g:=funext λQ=>funext λt=>h Q t
theorem JE {ps:bY} (hv:ij ps=0) {x:ay} (hx:x ∈ ju ps):∃ P s:Nat,bk ps P s≠[]/\fx (bk ps P s)≠2/\x.1=(P:Int)/\x.2.1=(s:Int)/\ej x=fx (bk ps P s)/\oP x=(mT (bk ps P s):Int)/\oQ x=(mU (bk ps P s):Int)/\fk x=rowAt (bk ps) P s:=by
 have V:=qD hv;have S:=(ou.1 hv).2;unfold ju at hx;obtain ⟨y,hy,tI⟩:=cX.1 hx;obtain ⟨P,s,c1,rfl⟩:=(pR V.right).1 hy;unfold qC at tI;split at tI
 ·cases tI
 ·rename_i f1;have Ap:=bJ.1 tI;have e:=vf V.right P s λhf=>(S.stub P s c1 hf).1;obtain ⟨t1,t2⟩:=AV (bk ps P s);refine ⟨P,s,c1,f1,?_⟩
  rw[Ap];refine ⟨?_,?_,?_,?_,?_,e⟩
  all_goals (unfold tn;split)
  all_goals first | rfl | exact t1 | exact t2
theorem V2 {w:aT} {n P s:Nat} (h:okW w n) (nQ:bk w.1 P s≠[]) {c:List UInt8} (hc:c.length<=(bk w.1 P s).length):(kI w P s c).1=true:=by
 obtain ⟨hP,hs,hz⟩:=uq h.jp nQ;have hp:=oI h.jp hP
 have hl:(bk w.1 P s).length=a_ (fl w.1 P) s:=by
  unfold bk cellOf;rw[aM hs,oH hp hs]
 have h0:ri (fl w.1 P) s c=0:=by unfold ri;rw[aM (by omega)]
 unfold kI;rw[aP (by rw[h0];decide),aM h0]
theorem Uh {d:List UInt8} (h:(di d).2=true):3<=d.length:=by
 unfold di at h;split at h
 ·rename_i hc;omega
 ·split at h
  ·cases h
  ·rename_i hc;omega
theorem V3 {ps:bY} (hv:ij ps=0) {r:Row} (hr:jY r=0) (hk:∀ r' ∈ eu ps,rk r'≠rk r) {a:Nat×Nat} (ha:(tE (eg ps) r).1=some a):ij (tE (eg ps) r).2.1=0/\∀ r',r' ∈ eu (tE (eg ps) r).2.1↔r' ∈ eu ps\/r'=r:=by
 obtain ⟨hR,S⟩:=ou.1 hv;have R:=P5 (qN hR) hr;obtain ⟨y1,y2,y3,y4⟩:=R.yes a.1 a.2 ha;have e:bk (tE (eg ps) r).2.1=lS (bk ps) a.1 a.2 (cz 0 r):=wB y4;obtain ⟨S1,r1⟩:=Nq S y3 hr λr' h'=>hk r' ((sY hv r').2 h');have E9:ij (tE (eg ps) r).2.1=0:=ou.2 ⟨R.ok.jp,by rw[e];exact S1⟩;exact ⟨E9,λr'=>by rw[sY E9,sY hv,e,r1]⟩
section
variable {ps:bY} (hv:ij ps=0) {P s:Nat} (c1:bk ps P s≠[]) (c2:fx (bk ps P s)≠2)
include hv c1 c2
theorem Ui {r:Row} (hr:jY r=0) (mv:Bool) {A B:Nat} (hm:if mv then fx (bk ps P s)=1/\A=mT (bk ps P s)/\B=mU (bk ps P s) else fx (bk ps P s)≠1/\A=P/\B=s) (JF:(pe (eg ps) P s A B mv r).1=true) :
  ∃ g:oJ,bk (pe (eg ps) P s A B mv r).2.1=g/\(g=lS (rS (bk ps) P s) P s (cz 0 r)\/∃ X Y,rS (bk ps) P s X Y=[]/\¬ (X=P/\Y=s)/\X<=11/\Y<=15/\g=lS (lS (rS (bk ps) P s) X Y (cz 2 r)) P s (jD X Y)):=by
 obtain ⟨hR,S⟩:=ou.1 hv;have ho:=qN hR;have Cr:∀ f,(cz f r).length<=20:=λf=>by have:=(iY (f:=f) hr).2;omega
 have l1:∀ f,1<=(cz f r).length:=λf=>(iY (f:=f) hr).1
 have hAB:bk ps A B≠[]/\(mv=true->fx (bk ps A B)=2/\¬ (A=P/\B=s)/\bk ps P s=jD A B/\A<=11/\B<=15):=by
  cases mv with
  | false=>obtain ⟨m1,m2,m3⟩:=hm;rw[m2,m3];exact ⟨c1,λh=>by cases h⟩
  | true=>
   obtain ⟨m1,m2,m3⟩:=hm;obtain ⟨a1,a2⟩:=S.stub P s c1 m1;obtain ⟨b1,b2,b3⟩:=RR (S.read P s c1) m1;rw[m2,m3];exact ⟨a1,λ_=>⟨a2,λhe=>c2 (by rw[he.1,he.2] at a2;exact a2),b1,b2,b3⟩⟩
 obtain ⟨cAB,hmv⟩:=hAB
 have hd:∀ Q t,rS (bk ps) P s Q t=if (Q=P/\t=s)\/(mv=true/\Q=A/\t=B) then [] else bk ps Q t:=by
  intro Q t;unfold rS lS
  cases mv with
  | false=>
   obtain ⟨m1,m2,m3⟩:=hm;rw[aP m1];by_cases h:Q=P/\t=s
   ·rw[aM h,aM (.inl h)]
   ·rw[aP h,aP (λhh=>by rcases hh with hh | hh;exact h hh;cases hh.1)]
  | true=>
   obtain ⟨m1,m2,m3⟩:=hm;rw[aM m1,<- m2,<- m3];by_cases h2:Q=A/\t=B
   ·rw[aM h2,aM (.inr ⟨rfl,h2⟩)]
   ·rw[aP h2];by_cases h:Q=P/\t=s
    ·rw[aM h,aM (.inl h)]
    ·rw[aP h,aP (λhh=>by rcases hh with hh | hh;exact h hh;exact h2 hh.2)]
 have R1:=qM ho (P:=A) (s:=B) cAB (l1 (bif mv then 2 else 0));have R2:=tN R1.ok (l1 2) (Cr 2) (A:Int);refine ⟨_,rfl,?_⟩
 unfold pe at JF ⊢;split at JF
 ·rename_i hb;rw[aM hb];have e:=R1.yes hb
  cases mv with
  | false=>
   left;obtain ⟨m1,m2,m3⟩:=hm;refine wB λQ t=>?_;rw[e Q t];unfold lS;rw[m2,m3,hd];by_cases h:Q=P/\t=s
   ·rw[aM h,aM h];rfl
   ·rw[aP h,aP h,aP (λhh=>by rcases hh with hh | hh;exact h hh;cases hh.1)];rfl
  | true=>
   right;obtain ⟨m4,m5,m6,m7,m8⟩:=hmv rfl;refine ⟨A,B,by rw[hd,aM (.inr ⟨rfl,rfl,rfl⟩)],m5,m7,m8,wB λQ t=>?_⟩
   rw[e Q t];unfold lS;rw[hd];by_cases h:Q=P/\t=s
   ·rw[aM h,aP (λhh=>m5 ⟨hh.1.symm.trans h.1,hh.2.symm.trans h.2⟩),h.1,h.2];exact m6
   ·rw[aP h];by_cases h2:Q=A/\t=B
    ·rw[aM h2,aM h2];rfl
    ·rw[aP h2,aP h2,aP (λhh=>by rcases hh with hh | hh;exact h hh;exact h2 hh.2)];rfl
 ·rename_i hb;rw[aP hb];have hbf:(kI (eg ps) A B (cz (bif mv then 2 else 0) r)).1=false:=by simpa using hb
  have e:=R1.no hbf
  cases hg:(mS (kI (eg ps) A B (cz (bif mv then 2 else 0) r)).2 (A:Int) (cz 2 r)).1 with
  | none=>rw[hg] at JF;cases JF
  | some a=>
   obtain ⟨y1,y2,y3,y4⟩:=R2.yes a.1 a.2 hg;rw[e] at y3;have y3':bk ps a.1 a.2=[]:=y3;have k1:=tF R2 (nN R1 (Q:=P) (t:=s) c1 jP) jP;have k2:=tF R2 (nN R1 (Q:=A) (t:=B) cAB jP) jP;have n1:¬ (a.1=P/\a.2=s):=λhe=>c1 (by rw[<-he.1,<- he.2];exact y3');have n2:¬ (a.1=A/\a.2=B):=λhe=>cAB (by rw[<-he.1,<- he.2];exact y3');have R3:=qM R2.ok k1 (c:=jD a.1 a.2) (by rw[qo];omega)
   have tR:bk (mS (kI (eg ps) A B (cz (bif mv then 2 else 0) r)).2 (A:Int) (cz 2 r)).2.1 P s=bk ps P s:=by
    rw[y4,aP (λhe=>n1 ⟨he.1.symm,he.2.symm⟩),e];rfl
   have dc:=V2 R2.ok k1 (c:=jD a.1 a.2) (by rw[tR,qo];exact Uh (S.read P s c1));have e3:=R3.yes dc;right;refine ⟨a.1,a.2,drop_nil y3',n1,by omega,by omega,wB λQ t=>?_⟩
   have base:∀ Q t,bk (kI (mS (kI (eg ps) A B (cz (bif mv then 2 else 0) r)).2 (A:Int) (cz 2 r)).2 P s (jD a.1 a.2)).2.1 Q t=if Q=P/\t=s then jD a.1 a.2 else if Q=a.1/\t=a.2 then cz 2 r else bk ps Q t:=λQ t=>by
    rw[e3,y4,e];rfl
   simp only;unfold lS;rw[hd]
   cases mv with
   | false=>
    show bk (kI _ P s (jD a.1 a.2)).2.1 Q t=_;rw[base];by_cases h:Q=P/\t=s
    ·rw[aM h,aM h]
    ·rw[aP h,aP h];by_cases h2:Q=a.1/\t=a.2
     ·rw[aM h2,aM h2]
     ·rw[aP h2,aP h2,aP (λhh=>by rcases hh with hh | hh;exact h hh;cases hh.1)]
   | true=>
    obtain ⟨m4,m5,m6,m7,m8⟩:=hmv rfl;have k3:=nN R3 k2 (by unfold jD;simp);show bk (lq (kI _ P s (jD a.1 a.2)).2 A B).1 Q t=_;rw[(rC R3.ok k3).2.2,base];by_cases E_:Q=A/\t=B
    ·rw[aM E_,aP (λhh=>m5 ⟨E_.1.symm.trans hh.1,E_.2.symm.trans hh.2⟩),aP (λhh=>n2 ⟨hh.1.symm.trans E_.1,hh.2.symm.trans E_.2⟩),aM (.inr ⟨rfl,E_⟩)]
    ·rw[aP E_];by_cases h:Q=P/\t=s
     ·rw[aM h,aM h]
     ·rw[aP h,aP h];by_cases h2:Q=a.1/\t=a.2
      ·rw[aM h2,aM h2]
      ·rw[aP h2,aP h2,aP (λhh=>by rcases hh with hh | hh;exact h hh;exact E_ hh.2)]
theorem Nr {r:Row} (hr:jY r=0) (hk:rk (rowAt (bk ps) P s)=rk r) (mv:Bool) {A B:Nat} (hm:if mv then fx (bk ps P s)=1/\A=mT (bk ps P s)/\B=mU (bk ps P s) else fx (bk ps P s)≠1/\A=P/\B=s) (ba:lp (pe (eg ps) P s A B mv r).2.1) (JF:(pe (eg ps) P s A B mv r).1=true) :
  ij (pe (eg ps) P s A B mv r).2.1=0/\∀ r',r' ∈ eu (pe (eg ps) P s A B mv r).2.1↔(r' ∈ eu ps/\rk r'≠rk r)\/r'=r:=by
 obtain ⟨hR,S⟩:=ou.1 hv;obtain ⟨S1,r1⟩:=Np S c1 c2;rw[hk] at r1;have oN:∀ r',pZ (rS (bk ps) P s) r'->rk r'≠rk r:=λr' h'=>((r1 r').1 h').2;obtain ⟨g,hg,abc⟩:=Ui hv c1 c2 hr mv hm JF
 have fin:tD g/\∀ r',pZ g r'↔pZ (rS (bk ps) P s) r'\/r'=r:=by
  rcases abc with rfl | ⟨X,Y,x1,x2,x3,x4,rfl⟩
  ·exact Nq S1 (Kt _ _ _) hr oN
  ·exact Yj S1 (Kt _ _ _) x1 x2 x3 x4 hr oN
 have E9:ij (pe (eg ps) P s A B mv r).2.1=0:=ou.2 ⟨ba,by rw[hg];exact fin.1⟩;exact ⟨E9,λr'=>by rw[sY E9,sY hv,hg,fin.2,r1]⟩
end
theorem Ns {xs:List Row} (h:(xs.map rk).Nodup):xs.Nodup:=List.Pairwise.of_map rk (λa b h he=>h (cP rk he)) h
theorem V4 {ps:bY} (hv:ij ps=0) {x:ay} (hx:x ∈ ju ps):∃ w:aT,E8 ps x=ua true w/\okW w 2/\ij w.1=0/\∀ r',r' ∈ eu w.1↔r' ∈ eu ps/\rk r'≠rk (fk x):=by
 obtain ⟨hR,S⟩:=ou.1 hv;obtain ⟨P,s,c1,c2,x1,x2,x3,x4,x5,x6⟩:=JE hv hx;have ho:=qN hR;obtain ⟨d1,d2,d3⟩:=rC ho c1;obtain ⟨S1,r1⟩:=Np S c1 c2;unfold E8;rw[x1,x2,x4,x5,aC,aC,aC,aC,x3,x6];by_cases hf:fx (bk ps P s)=1
 ·rw[aM hf];obtain ⟨a1,a2⟩:=S.stub P s c1 hf
  have ne:¬ (mT (bk ps P s)=P/\mU (bk ps P s)=s):=λhe=>by
   rw[he.1,he.2] at a2;exact c2 a2
  have k1:bk (lq (eg ps) P s).1 (mT (bk ps P s)) (mU (bk ps P s))≠[]:=by rw[d3,aP ne];exact a1
  obtain ⟨e1,e2,e3⟩:=rC d1 k1
  have e:bk (lq (lq (eg ps) P s) (mT (bk ps P s)) (mU (bk ps P s))).1=rS (bk ps) P s:=wB λQ t=>by
   rw[e3,d3];unfold rS;rw[aM hf];rfl
  have E9:=ou.2 ⟨e1.jp,by rw[e];exact S1⟩;exact ⟨_,rfl,e1.mono (by omega),E9,λr'=>by rw[sY E9,sY hv,e,r1]⟩
 ·rw[aP hf]
  have e:bk (lq (eg ps) P s).1=rS (bk ps) P s:=wB λQ t=>by
   rw[d3];unfold rS;rw[aP hf];rfl
  have E9:=ou.2 ⟨d1.jp,by rw[e];exact S1⟩;exact ⟨_,rfl,d1.mono (by omega),E9,λr'=>by rw[sY E9,sY hv,e,r1]⟩
theorem Uj {ps:bY} (hv:ij ps=0) {x:ay} (hx:x ∈ ju ps) {r:Row} (hr:jY r=0) (hk:rk (fk x)=rk r):BV ps x r=DK 9\/∃ w:aT,BV ps x r=ua true w/\okW w 40/\ij w.1=0/\∀ r',r' ∈ eu w.1↔(r' ∈ eu ps/\rk r'≠rk r)\/r'=r:=by
 obtain ⟨hR,S⟩:=ou.1 hv;obtain ⟨P,s,c1,c2,x1,x2,x3,x4,x5,x6⟩:=JE hv hx;have ho:=qN hR;have V:=qD hv;unfold BV;by_cases he:Ty.eq bd (fk x) r=true
 ·rw[aM he];right
  have Mj:fk x=r:=by
   exact aad he
  refine ⟨eg ps,rfl,ho.mono (by omega),hv,λr'=>?_⟩
  have i7:r ∈ eu ps:=by
   rw[x_ V,(zA _).mem_iff];exact eX.2 ⟨x,hx,Mj⟩
  constructor
  ·intro h;by_cases mJ:rk r'=rk r
   ·right;have hn:=DC (wi V);exact By hn h i7 mJ
   ·exact .inl ⟨h,mJ⟩
  ·rintro (h | rfl)
   ·exact h.1
   ·exact i7
 ·rw[aP he];by_cases hf:fx (bk ps P s)=1
  ·obtain ⟨a1,a2⟩:=S.stub P s c1 hf
   have hm:if (true:Bool) then fx (bk ps P s)=1/\mT (bk ps P s)=mT (bk ps P s)/\mU (bk ps P s)=mU (bk ps P s) else fx (bk ps P s)≠1/\mT (bk ps P s)=P/\mU (bk ps P s)=s:=⟨hf,rfl,rfl⟩
   rw[x3,aM hf,aM hf,x1,x2,x4,x5,aV hf,aC,aC,aC,aC];have ba:=FO ho (by omega) c1 a1 true hr
   cases hy:(pe (eg ps) P s (mT (bk ps P s)) (mU (bk ps P s)) true r).1 with
   | false=>exact .inl rfl
   | true=>
    right;obtain ⟨v1,v2⟩:=Nr hv c1 c2 hr (by rw[<-x6];exact hk) true hm ba.jp hy;exact ⟨_,rfl,ba.mono (by omega),v1,v2⟩
  ·have hm:if (false:Bool) then fx (bk ps P s)=1/\P=mT (bk ps P s)/\s=mU (bk ps P s) else fx (bk ps P s)≠1/\P=P/\s=s:=⟨hf,rfl,rfl⟩
   rw[x3,aP hf,aP hf,x1,x2,aY hf,aC,aC];have ba:=FO ho (by omega) c1 c1 false hr
   cases hy:(pe (eg ps) P s P s false r).1 with
   | false=>exact .inl rfl
   | true=>
    right;obtain ⟨v1,v2⟩:=Nr hv c1 c2 hr (by rw[<-x6];exact hk) false hm ba.jp hy;exact ⟨_,rfl,ba.mono (by omega),v1,v2⟩
theorem Yk {xs ys:List Row} (hx:up xs) (hy:up ys) (h:∀ r,r ∈ xs↔r ∈ ys):xs=ys:=by
 have n1:xs.Nodup:=Ns (DC hx);have n2:ys.Nodup:=Ns (DC hy);exact TY ((List.perm_ext_iff_of_nodup n1 n2).2 h) hx hy
end OT
namespace OT
open Go
def kK (ps:bY) (c:Change):dr:=
 if ij ps=0 then
  if oO c=0 then
   match t8 ps (ck c).1 (ck c).2 with
   | some x=>if c.1&&Ty.eq bd (fk x) c.2.1 then (if c.2.2.1 then BV ps x c.2.2.2.1 else E8 ps x) else DK 8
   | none=>if c.1 then DK 8 else ua (tE (eg ps) c.2.2.2.1).1.isSome (tE (eg ps) c.2.2.2.1).2
  else DK (oO c)
 else DK (ij ps)
section
variable {ps:bY} (hp:∀ p ∈ ps,p.length<=maxLen)
include hp
theorem FQ {c:Change} (h:oO c=0) (hw:c.1=false):c.2.2.1=true:=by
 unfold oO at h;rw[hw] at h
 cases hi:c.2.2.1 with
 | true=>rfl
 | false=>rw[hi] at h;simp at h
theorem Nt {c:Change} (hv:ij ps=0) (hf:oO c=0):q9.ab (ps,c,())=some (match t8 ps (ck c).1 (ck c).2 with
  | some x=>if c.1&&Ty.eq bd (fk x) c.2.1 then (if c.2.2.1 then BV ps x c.2.2.2.1 else E8 ps x) else DK 8
  | none=>if c.1 then DK 8 else ua (tE (eg ps) c.2.2.2.1).1.isSome (tE (eg ps) c.2.2.2.1).2,()):=by
 have hV:=qD hv;refine ag (k:=0) λk _=>(q9.ae k _).trans ?_;show q9.p _=_;unfold q9.p;rw[zx];simp only[aA,OM ps hV.right,BU]
 cases hx:t8 ps (ck c).1 (ck c).2 with
 | none=>
  simp only
  cases hw:c.1 with
  | true=>rfl
  | false=>
   have hi:=(sf hf).2 (FQ hp hf hw);rw[RV hV.right hi];rfl
 | some x=>
  have hm:=cT hx;simp only
  cases hw:c.1 with
  | false=>rfl
  | true=>
   show (bif !Ty.eq bd (fk x) c.2.1 then _ else _)=_
   cases Ty.eq bd (fk x) c.2.1 with
   | false=>rfl
   | true=>
    cases hi:c.2.2.1 with
    | false=>rw[RX hV hm];rfl
    | true=>rw[RW hV hm ((sf hf).2 hi)];rfl
theorem OS {c:Change} (hc:cl c):pA.ab (ps,c,())=some (kK ps c,()):=by
 refine ag (k:=0) λk _=>(pA.ae k _).trans ?_;show pA.p _=_;unfold pA.p kK;rw[Gl ps hp];simp only[aA,yW c hc,xm];by_cases hv:ij ps=0
 ·rw[aM hv,aV hv,aH];by_cases hf:oO c=0
  ·have hV:=qD hv;have hl:=EW hV;have ho:=qN hV.right;rw[aM hf,aV hf,aN,aD,Gm _ (by omega),No hV.right];simp only[aA];have yy:(eu ps).length<=2000000:=by unfold eu;rw[gV];omega
   rw[show (xv ps).map (·.1)=eu ps from rfl,Kj c (eu ps) (wi hV) yy];have JX:(yG c).1=(ck c).1:=by rw[<-yH c]
   have mJ:(yG c).2.1=(ck c).2:=by rw[<-yH c]
   simp only[aA,JX,mJ,ON _ (show (xv ps).length<=1000 by omega),Ud hV];have nc:=E3 hV (ck c).1 (ck c).2
   cases hx:t8 ps (ck c).1 (ck c).2 with
   | none=>
    rw[hx] at nc;simp only at nc
    have e:uJ (eu ps) c=!c.1:=by
     unfold uJ;rw[show ck c=((ck c).1,(ck c).2) from rfl,nc];cases c.1 <;> rfl
    rw[e]
    cases hw:c.1 with
    | true=>rfl
    | false=>
     have hi:=(sf hf).2 (FQ hp hf hw);simp only[gR,bA,aN,aD,aH,aJ,aO,RU ho (show 0<=800 by omega) hi,aA,AZ]
   | some x=>
    have hm:=cT hx;rw[hx] at nc;obtain ⟨f1,f2,f3,f4⟩:=nc
    have e:uJ (eu ps) c=(c.1&&Ty.eq bd (fk x) c.2.1):=by
     unfold uJ;rw[show ck c=((ck c).1,(ck c).2) from rfl,f1,f2];cases c.1 <;> rfl
    rw[e];dsimp only
    cases hw:c.1 with
    | false=>rfl
    | true=>
     cases Ty.eq bd (fk x) c.2.1 with
     | false=>rfl
     | true=>
      simp only[bT,gO,aN,aD,aI]
      cases hi:c.2.2.1 with
      | true=>
       have e:=OR hV hm ((sf hf).2 hi);simp only[aH,aI]
       cases hu:km.ab (eg ps,pc x,c.2.2.2.1,()) with
       | none=>rw[hu] at e;cases e
       | some y=>
        rw[hu,aA] at e;simp only[aA,e]
      | false=>
       have e:=RY hV hm;simp only[aD,aJ,aO]
       cases hu:lk.ab (eg ps,pc x,()) with
       | none=>rw[hu] at e;cases e
       | some y=>
        rw[hu,aA] at e;simp only[aA,e]
  ·rw[aP hf,aY hf,bA,aH];rfl
 ·rw[aP hv,aY hv,aD,bA,aH];rfl
end
end OT
namespace OT
open Go
theorem zD {ok:Bool} {w:aT} (h:(ua ok w).1=0):ok=true/\ua ok w=((0:Int),w.2.1,w.1,()):=by
 unfold ua at h ⊢
 cases ok with
 | true=>exact ⟨rfl,rfl⟩
 | false=>exact absurd h (show ¬ (9:Int)=0 by decide)
theorem Uk {ps:bY} (hv:ij ps=0) {r:Row} (hr:jY r=0) (hn:t8 ps r.1 r.2.1=none) (h0:(ua (tE (eg ps) r).1.isSome (tE (eg ps) r).2).1=0):ij (tE (eg ps) r).2.1=0/\∀ r',r' ∈ eu (tE (eg ps) r).2.1↔r' ∈ eu ps\/r'=r:=by
 have V:=qD hv;obtain ⟨ha,_⟩:=zD h0;obtain ⟨a,ha⟩:=eC.1 ha;refine V3 hv hr (λr' hr' he=>?_) ha;have hf:=E3 V r.1 r.2.1;rw[hn] at hf;simp only at hf;obtain ⟨i,hi,hx⟩:=eL hr';have:=(Nn (wi V) hi (k:=(r.1,r.2.1)) (by rw[hx];exact he)).1;rw[hf] at this;cases this
theorem P6 {d:List UInt8} (h:(di d).2=true) (h1:fx d≠1):jY (E5 d)=0:=by
 unfold fx at h1;unfold E5;unfold di at h h1 ⊢;split at h
 ·rename_i hc;rw[aM hc] at h1;exact absurd rfl h1
 ·rename_i hc;rw[aP hc];split at h
  ·cases h
  ·rename_i HS;rw[aP HS]
   simpa using h
theorem Ul {ps:bY} (hv:ij ps=0):Good (eu ps):=by
 refine ⟨wi (qD hv),λr hr=>?_⟩
 have S:=(ou.1 hv).2;obtain ⟨P,s,c1,f1,rfl⟩:=(sY hv r).1 hr;unfold rowAt;split
 ·rename_i hf;obtain ⟨a1,a2⟩:=S.stub P s c1 hf;exact P6 (S.read _ _ a1) (by rw[a2];decide)
 ·rename_i hf;exact P6 (S.read _ _ c1) hf
theorem Um {ps:bY} (hv:ij ps=0) {c:Change} (hc:oO c=0) (h0:(kK ps c).1=0):ij (kK ps c).2.2.1=0/\eu (kK ps c).2.2.1=qz (eu ps) c:=by
 have V:=qD hv;have hu:=wi V;have hdu:up (qz (eu ps) c):=(yK (Ul hv) hc).up
 have fin:∀ {w:aT},ij w.1=0->(∀ r',r' ∈ eu w.1↔(r' ∈ eu ps/\rk r'≠ck c)\/(c.2.2.1=true/\r'=c.2.2.2.1))->ij w.1=0/\eu w.1=qz (eu ps) c:=λ{w} h1 h2=>
  ⟨h1,Yk (wi (qD h1)) hdu λr'=>by rw[h2,V1 hu]⟩
 unfold kK at h0 ⊢;rw[aM hv,aM hc] at h0 ⊢;have nc:=E3 V (ck c).1 (ck c).2
 cases hx:t8 ps (ck c).1 (ck c).2 with
 | none=>
  rw[hx] at nc h0;simp only at nc h0 ⊢
  cases hw:c.1 with
  | true=>rw[hw] at h0;exact absurd h0 (show ¬ (8:Int)=0 by decide)
  | false=>
   rw[hw] at h0;simp only[aJ,aO] at h0 ⊢;have hi:=FQ (ps:=[]) (λp hp=>by cases hp) hc hw;have hr:=(sf hc).2 hi;have hk:=(sf hc).1 hi
   have hn:t8 ps c.2.2.2.1.1 c.2.2.2.1.2.1=none:=by
    have:rk c.2.2.2.1=((ck c).1,(ck c).2):=hk;unfold rk at this;injection this with e1 e2;rw[e1,e2];exact hx
   obtain ⟨v1,v2⟩:=Uk hv hr hn h0;rw[(zD h0).2];refine fin v1 λr'=>?_;rw[v2];constructor
   ·rintro (h | h)
    ·refine .inl ⟨h,λhe=>?_⟩;obtain ⟨i,hi2,Tc⟩:=eL h;have:=(Nn hu hi2 (k:=ck c) (by rw[Tc];exact he)).1;rw[show ck c=((ck c).1,(ck c).2) from rfl,nc] at this;cases this
    ·exact .inr ⟨hi,h⟩
   ·rintro (h | h)
    ·exact .inl h.1
    ·exact .inr h.2
 | some x=>
  have hm:=cT hx;rw[hx] at nc h0;obtain ⟨f1,f2,f3,f4⟩:=nc;simp only at h0 ⊢;have f4':rk (fk x)=ck c:=f4
  cases hb:(c.1&&Ty.eq bd (fk x) c.2.1) with
  | false=>rw[hb] at h0;exact absurd h0 (show ¬ (8:Int)=0 by decide)
  | true=>
   rw[hb] at h0;simp only[aI] at h0 ⊢
   cases hi:c.2.2.1 with
   | true=>
    rw[hi] at h0;simp only[aI] at h0 ⊢;have hr:=(sf hc).2 hi;have hk:=(sf hc).1 hi
    rcases Uj hv hm hr (by rw[f4',hk]) with e | ⟨w,e,ok,v1,v2⟩
    ·rw[e] at h0;exact absurd h0 (show ¬ (9:Int)=0 by decide)
    ·rw[e];refine fin v1 λr'=>?_;rw[v2,hk];simp only[hi,dQ]
   | false=>
    rw[hi] at h0;simp only[aJ,aO] at h0 ⊢;obtain ⟨w,e,ok,v1,v2⟩:=V4 hv hm;rw[e];refine fin v1 λr'=>?_;rw[v2,f4'];simp only[hi,aJ,hU,or_false]
end OT
namespace OT
open Go
def nu (ps:bY) (e:qG):bY:=if e.1.toNat=ps.length then ps++[e.2.1] else ps.set e.1.toNat e.2.1
def Gt (ps:bY) (es:List qG):bY:=es.foldl nu ps
theorem Yl (ps:bY) (es:List qG) (e:qG):Gt ps (es++[e])=nu (Gt ps es) e:=by
 grind [Gt]
def JG (ps:bY) (e:qG):Prop:=List.length e.2.1=64/\0<=e.1/\e.1<=(ps.length:Int)/\e.1 < 12
def zE:bY->List qG->Prop
 | _,[]=>True
 | ps,e::es=>JG ps e/\zE (nu ps e) es
theorem Kv {ps:bY}:∀ {es:List qG} {e:qG},zE ps es->JG (Gt ps es) e->zE ps (es++[e])
 | [],e,_,h=>⟨h,trivial⟩
 | x::es,e,h,h2=>⟨h.1,Kv (ps:=nu ps x) h.2 h2⟩
theorem Ym {ps:bY} {P:Nat} {b:List UInt8} (h:lp (nu ps ((P:Int),b,()))) (hP:P<=ps.length):JG ps ((P:Int),b,()):=by
 have hm:b ∈ nu ps ((P:Int),b,())/\P < (nu ps ((P:Int),b,())).length:=by
  grind [nu,List.mem_set]
 have xI:=h.1;exact ⟨(h.2 b hm.1).len,by grind,by grind,by grind⟩
def aae (ps:bY) (es:List qG) (B:Nat->List Row):Prop:=∀ j,j<=es.length->ij (Gt ps (es.take j))=0/\eu (Gt ps (es.take j))=B j
structure ab8 (ps:bY) (w:aT) (B0:List Row):Prop where
 at_:Gt ps w.2.1=w.1
 ed:zE ps w.2.1
 way:aae ps w.2.1 λ_=>B0
structure ab5 (ps:bY) (w:aT) (B0 B1:List Row):Prop where
 at_:Gt ps w.2.1=w.1
 ed:zE ps w.2.1
 way:∃ m,m<=List.length w.2.1/\aae ps w.2.1 λj=>if j < m then B0 else B1
theorem RZ {w:aT} {P:Nat} (hP:P<=List.length w.1) (b:List UInt8):mR w P b=w\/((mR w P b).2.1=w.2.1++[((P:Int),b,())]/\(mR w P b).1=nu w.1 ((P:Int),b,())):=by
 grind [mR,nu]
end OT
namespace OT
open Go
structure Lk (ps:bY) (w:aT):Prop where
 at_:Gt ps w.2.1=w.1
 ed:zE ps w.2.1
section
variable {ps:bY} {w:aT} {n:Nat}
theorem Lk.yR (h:Lk ps w) {P:Nat} {b:List UInt8} {m:Nat} (ho:okW (mR w P b) m) (hP:P<=List.length w.1):Lk ps (mR w P b):=by
 rcases RZ hP b with e | ⟨e1,e2⟩
 ·rw[e];exact h
 ·refine ⟨by rw[e1,Yl,h.at_,e2],?_⟩
  rw[e1];exact Kv h.ed (by rw[h.at_];exact Ym (by rw[<-e2];exact ho.jp) hP)
theorem Lk.comp (h:Lk ps w) (ho:okW w n) {P:Nat} (hP:P < List.length w.1):Lk ps (nY w P):=h.yR (wj ho hP) (fA hP)
theorem Lk.rR (h:Lk ps w) (ho:okW w n) {P:Nat} (hP:P < List.length w.1) {c:List UInt8} (hc:1<=c.length):Lk ps (rR w P c).2:=by
 have R:=(AS ho hP hc).ok;have hk:=h.comp ho hP;unfold OT.rR at R ⊢;by_cases h8:l9 (fl w.1 P) c=8
 ·rw[aM h8] at R ⊢;by_cases h0:l9 (mh (fl w.1 P)) c=0
  ·rw[aM h0] at R ⊢;exact hk.yR R (by rw[tM hP];omega)
  ·rw[aP h0];exact hk
 ·rw[aP h8] at R ⊢;by_cases h0:l9 (fl w.1 P) c=0
  ·rw[aM h0] at R ⊢;exact h.yR R (fA hP)
  ·rw[aP h0];exact h
theorem Lk.kI (h:Lk ps w) (ho:okW w n) {P s:Nat} (nQ:bk w.1 P s≠[]) {c:List UInt8} (hc:1<=c.length):Lk ps (kI w P s c).2:=by
 have R:=(qM ho nQ hc).ok;have hP:=(uq ho.jp nQ).1;have hk:=h.comp ho hP;unfold OT.kI at R ⊢;by_cases h8:ri (fl w.1 P) s c=8
 ·rw[aM h8] at R ⊢;by_cases h0:ri (mh (fl w.1 P)) s c=0
  ·rw[aM h0] at R ⊢;exact hk.yR R (by rw[tM hP];omega)
  ·rw[aP h0];exact hk
 ·rw[aP h8] at R ⊢;by_cases h0:ri (fl w.1 P) s c=0
  ·rw[aM h0] at R ⊢;exact h.yR R (fA hP)
  ·rw[aP h0];exact h
theorem Lk.lq (h:Lk ps w) (ho:okW w n) {P s:Nat} (nQ:bk w.1 P s≠[]):Lk ps (lq w P s):=h.yR (rC ho nQ).1 (fA (uq ho.jp nQ).1)
end
theorem Lk.jv {ps:bY} {c:List UInt8} (hc:1<=c.length) (no:Int):∀ (l:List Nat) (w:aT) (n:Nat),Lk ps w->okW w n->(∀ P ∈ l,P < List.length w.1)->Lk ps (jv c no l w).2
 | [],w,n,h,_,_=>h
 | P::l,w,n,h,ho,hl=>by
  unfold OT.jv;split
  ·exact Lk.jv hc no l w n h ho λQ hQ=>hl Q (bF _ hQ)
  ·have hP:=hl P cA;have R:=AS ho hP hc;have hk:=h.rR ho hP hc;split
   ·exact hk
   ·exact Lk.jv hc no l _ _ hk R.ok λQ hQ=>by rw[R.len];exact hl Q (bF _ hQ)
section
variable {ps:bY} {w:aT} {n:Nat}
theorem Lk.mS (h:Lk ps w) (ho:okW w n) {c:List UInt8} (mj:1<=c.length) (hc:c.length<=20) (no:Int):Lk ps (mS w no c).2:=by
 have R:=(tN ho mj hc no).ok;have G:=vD mj no (List.range (List.length w.1)) w n ho λP hP=>cH.1 hP;have hk:=Lk.jv mj no (List.range (List.length w.1)) w n h ho λP hP=>cH.1 hP;unfold OT.mS at R ⊢
 cases hr:(OT.jv c no (List.range (List.length w.1)) w).1 with
 | some a=>exact hk
 | none=>
  rw[hr] at R;simp only at R ⊢;by_cases xI:12<=List.length w.1
  ·rw[aM xI];exact hk
  ·rw[aP xI] at R ⊢;exact hk.yR R (by rw[(G.no hr).1];omega)
theorem Lk.pe (h:Lk ps w) (ho:okW w n) {P s A B:Nat} (h1:bk w.1 P s≠[]) (h2:bk w.1 A B≠[]) (mv:Bool) {r:Row} (hr:jY r=0):Lk ps (pe w P s A B mv r).2:=by
 have R1:=qM ho h2 (iY (f:=bif mv then 2 else 0) hr).1;have L1:=h.kI ho h2 (iY (f:=bif mv then 2 else 0) hr).1;have R2:=tN R1.ok (iY (f:=2) hr).1 (by have:=(iY (f:=2) hr).2;omega) (A:Int);have L2:=L1.mS R1.ok (iY (f:=2) hr).1 (by have:=(iY (f:=2) hr).2;omega) (A:Int);unfold OT.pe;split
 ·exact L1
 ·split
  ·exact L2
  ·rename_i a ha;have k1:=tF R2 (nN R1 h1 jP) jP;have k2:=tF R2 (nN R1 h2 jP) jP;have R3:=qM R2.ok k1 (c:=jD a.1 a.2) (by rw[qo];omega);have L3:=L2.kI R2.ok k1 (c:=jD a.1 a.2) (by rw[qo];omega)
   cases mv with
   | false=>exact L3
   | true=>exact L3.lq R3.ok (nN R3 k2 (by unfold jD;simp))
end
theorem Lk.start {ps:bY}:Lk ps (eg ps):=⟨rfl,trivial⟩
theorem JH {ps:bY} (hv:ij ps=0) {c:Change} (hc:oO c=0) (h0:(kK ps c).1=0):∃ w:aT,kK ps c=((0:Int),w.2.1,w.1,())/\okW w 40/\Lk ps w:=by
 obtain ⟨hR,S⟩:=ou.1 hv;have ho:=qN hR;have hL:Lk ps (eg ps):=Lk.start;unfold kK at h0 ⊢;rw[aM hv,aM hc] at h0 ⊢
 cases hx:t8 ps (ck c).1 (ck c).2 with
 | none=>
  rw[hx] at h0;simp only at h0 ⊢
  cases hw:c.1 with
  | true=>rw[hw] at h0;exact absurd h0 (show ¬ (8:Int)=0 by decide)
  | false=>
   rw[hw] at h0;simp only[aJ,aO] at h0 ⊢;have hr:=(sf hc).2 (FQ (ps:=[]) (λp hp=>by cases hp) hc hw);have hk:=hL.mS ho (iY (f:=0) hr).1 (by have:=(iY (f:=0) hr).2;omega) (-1);rw[(zD h0).2];exact ⟨_,rfl,(P5 ho hr).ok.mono (by omega),hk⟩
 | some x=>
  have hm:=cT hx;obtain ⟨P,s,c1,c2,x1,x2,x3,x4,x5,x6⟩:=JE hv hm;rw[hx] at h0;simp only at h0 ⊢
  cases hb:(c.1&&Ty.eq bd (fk x) c.2.1) with
  | false=>rw[hb] at h0;exact absurd h0 (show ¬ (8:Int)=0 by decide)
  | true=>
   rw[hb] at h0;simp only[aI] at h0 ⊢
   cases hi:c.2.2.1 with
   | true=>
    rw[hi] at h0;simp only[aI] at h0 ⊢;have hr:=(sf hc).2 hi;unfold BV at h0 ⊢;by_cases he:Ty.eq bd (fk x) c.2.2.2.1=true
    ·rw[aM he];exact ⟨_,rfl,ho.mono (by omega),hL⟩
    ·rw[aP he] at h0 ⊢;rw[(zD h0).2];by_cases hf:fx (bk ps P s)=1
     ·obtain ⟨a1,a2⟩:=S.stub P s c1 hf;rw[x3,aM hf,aM hf,x1,x2,x4,x5,aV hf,aC,aC,aC,aC];exact ⟨_,rfl,(FO ho (by omega) c1 a1 true hr).mono (by omega),hL.pe ho c1 a1 true hr⟩
     ·rw[x3,aP hf,aP hf,x1,x2,aY hf,aC,aC];exact ⟨_,rfl,(FO ho (by omega) c1 c1 false hr).mono (by omega),hL.pe ho c1 c1 false hr⟩
   | false=>
    simp only[aJ,aO];obtain ⟨d1,d2,d3⟩:=rC ho c1;have L1:=hL.lq ho c1;unfold E8;rw[x1,x2,x4,x5,aC,aC,aC,aC,x3];by_cases hf:fx (bk ps P s)=1
    ·rw[aM hf];obtain ⟨a1,a2⟩:=S.stub P s c1 hf
     have ne:¬ (mT (bk ps P s)=P/\mU (bk ps P s)=s):=λhe=>by
      rw[he.1,he.2] at a2;exact c2 a2
     have k1:bk (lq (eg ps) P s).1 (mT (bk ps P s)) (mU (bk ps P s))≠[]:=by rw[d3,aP ne];exact a1
     exact ⟨_,rfl,(rC d1 k1).1.mono (by omega),L1.lq d1 k1⟩
    ·rw[aP hf];exact ⟨_,rfl,d1.mono (by omega),L1⟩
end OT
namespace OT
open Go
def to (x:cd):List UInt8:=UInt8.ofInt x.1::UInt8.ofInt (List.length x.2.1:Int)::x.2.1
def kJ (xs:List cd):List UInt8:=xs.flatMap to
def ub (r:bm):List UInt8:=[(0:UInt8),UInt8.ofInt r.1,UInt8.ofInt r.2.1,UInt8.ofInt r.2.2.1,UInt8.ofInt (List.length r.2.2.2.1:Int)]
def wk (s:Int) (l:List UInt8):Int:=l.foldl (λs c=>(s*31+(c.toNat:Int)) % 65521) s
def Nu (r:bm):List UInt8:=(ub r++kJ r.2.2.2.1).set 0 (UInt8.ofInt (af (((ub r++kJ r.2.2.2.1).length:Int)+2)))
def nK (r:bm):List UInt8:=Nu r++[UInt8.ofInt ((wk 1 (Nu r)) / 256),UInt8.ofInt (wk 1 (Nu r))]
def xy (r:bm):Prop:=List.length r.2.2.2.1<=64/\∀ x ∈ r.2.2.2.1,List.length x.2.1<=64
theorem Nv {r:bm} (h:tY r=0):xy r:=by
 have:=wA h;refine ⟨this.2.2.2.2.2.2.1,λx hx=>?_⟩
 have h2:=this.2.2.2.2.2.2.2 x hx;unfold bl at h2;omega
theorem Fc (xs ys:List cd):kJ (xs++ys)=kJ xs++kJ ys:=fX
theorem xz (x:cd) (xs:List cd):kJ (x::xs)=to x++kJ xs:=dN
theorem Fe {xs:List cd} (h:∀ x ∈ xs,List.length x.2.1<=64):(kJ xs).length<=66*xs.length:=by
 induction xs with
 | nil=>simp[kJ]
 | cons x xs ih=>
  have h1:=ih λy hy=>h y (by simp[hy]);have h2:=h x (by simp);rw[xz];simp only[bE,aW,to];omega
theorem Yn (r:bm):(Nu r).length=5+(kJ r.2.2.2.1).length:=by simp[Nu,ub];omega
theorem Kw (r:bm):(nK r).length=7+(kJ r.2.2.2.1).length:=by
 simp only[nK,bE,Yn,aW,bC];omega
theorem BW {r:bm} (h:xy r):(nK r).length<=5000:=by
 rw[Kw];have:=Fe h.2;have:=h.1;omega
theorem P7:∀ (l:List UInt8) (s:Int),0<=s/\s < 65521->0<=wk s l/\wk s l < 65521
 | [],s,h=>h
 | c::l,s,h=>P7 l ((s*31+(c.toNat:Int)) % 65521) ⟨Int.emod_nonneg _ (by omega),Int.emod_lt_of_pos _ (by omega)⟩
theorem Un {s:Int} (h:0<=s):UInt8.ofInt (s.tmod 256)=UInt8.ofInt s:=by
 rw[fS h];apply UInt8.toBitVec_inj.1;apply BitVec.eq_of_toNat_eq;simp[UInt8.ofInt,fF]
theorem Ff:∀ (xs:List cd) (s:List UInt8),xs.foldl (λs x=>s++to x) s=s++kJ xs
 | [],s=>by simp[kJ]
 | x::xs,s=>by rw[eU,Ff,xz,bN]
theorem Nw {s:Int} {c:UInt8} (h:0<=s/\s < 65521):((af ((af (s*(31:Int)))+(af (c.toNat:Int)))).tmod (65521:Int))=(s*31+(c.toNat:Int)) % 65521:=by
 have hc:=c.toNat_lt;have e1:af (s*31)=s*31:=a7 (by omega);have e2:af (c.toNat:Int)=(c.toNat:Int):=a7 (by omega);have e3:af (s*31+(c.toNat:Int))=s*31+(c.toNat:Int):=a7 (by omega);rw[e1,e2,e3,fS (by omega)]
theorem R4 (l:List UInt8) (h:l.length<=100000):mP.ab (l,())=some (wk 1 l,()):=by
 refine ag (k:=100001) λk hk=>(mP.ae k _).trans ?_
 have:=da (B:=λself v=>mP.b0 self (λz=>mP.q0 (l,()) z) (l,()) v) l (λ(s:Int) (i:Int)=>(s,i)) (λ_ s c=>.inr ((s*31+(c.toNat:Int)) % 65521)) (λs=>(s,())) (λ_ s=>0<=s/\s < 65521) (by rw[au];omega)
  (λi hi s self hI=>by
   show mP.b0 _ _ _ _=_;unfold mP.b0;have ax:(i:Int) < (l.length:Int):=by omega
   simp only[ax,aG,aH,aK,aI,aC,aB hi,aA,Nw hI])
  (λi hi s s' hI hs=>by injection hs with hs;omega) (λs self _=>by
   show mP.b0 _ _ _ _=_;unfold mP.b0
   simp[mP.q0,mP.q0]) 1 (by omega) k (by omega)
 rw[ig] at this;exact this
theorem Gu (r:bm) (h:xy r):jR.ab (r,())=some (nK r,()):=by
 obtain ⟨K,T,P,xs,⟨⟩⟩:=r;obtain ⟨h1,h2⟩:=h;simp only at h1 h2;refine ag (k:=100) λk hk=>(jR.ae k _).trans ?_
 have hlen:∀ i,(kJ (xs.take i)).length<=66*64:=λi=>by
  have:=Fe (xs:=xs.take i) (λx hx=>h2 x (eE hx));have:(xs.take i).length<=xs.length:=by simp;omega
  omega
 have:=da (B:=λself v=>jR.b0 self (λz=>jR.q0 ((K,T,P,xs,()),()) z) ((K,T,P,xs,()),()) v) xs (λ(s:List UInt8) (i:Int)=>(s,i)) (λ_ s x=>.inr (s++to x)) (λs=>(let q:=s.set 0 (UInt8.ofInt (af ((s.length:Int)+2)));(q++[UInt8.ofInt ((wk 1 q) / 256),UInt8.ofInt (wk 1 q)],())))
  (λi s=>s=ub (K,T,P,xs,())++kJ (xs.take i)) (by rw[au];omega)
  (λi hi s self hI=>by
   show jR.b0 _ _ _ _=_;unfold jR.b0;have ax:(i:Int) < (xs.length:Int):=by omega
   have hs:s.length<=5000:=by rw[hI];have:=hlen i;simp only[bE,ub,aW,bC];omega
   have hx:=h2 xs[i] (aU hi);simp only[ax,aG,aH,aK,aI,aC,aB hi,aA];generalize xs[i]=x at hx;have c1:s.length+[UInt8.ofInt x.1,UInt8.ofInt (List.length x.2.1:Int)].length<=cg:=dn (by simp only[aW,bC];omega);have c2:(s++[UInt8.ofInt x.1,UInt8.ofInt (List.length x.2.1:Int)]).length+List.length x.2.1<=cg:=dn (by simp only[bE,aW,bC];omega)
   simp only[c1,c2,aI,to,bN,cL,bO])
  (λi hi s s' hI hs=>by
   injection hs with hs;rw[<-hs,hI,dZ hi,Fc,bN]
   simp[kJ]) (λs self hI=>by
   show jR.b0 _ _ _ _=_;unfold jR.b0;have hs:5<=s.length/\s.length<=5000:=by rw[hI];have:=hlen xs.length;simp only[bE,ub,aW,bC];omega
   simp only[aX,aE,aD,jR.q0,jR.q0]
   have c0:(0:Int)<=0/\(0:Int) < (s.length:Int):=⟨by omega,by omega⟩
   rw[aM c0,aB (by omega:0 < s.length)];simp only[aA];generalize hq:s.set 0 (UInt8.ofInt (af ((s.length:Int)+2)))=q;have hql:q.length=s.length:=by rw[<-hq];simp
   rw[R4 q (by omega)];simp only[aA];have hb:=P7 q 1 (by omega);have c1:q.length+[UInt8.ofInt (af ((wk 1 q).tdiv 256)),UInt8.ofInt ((wk 1 q).tmod 256)].length<=cg:=dn (by simp only[aW,bC];omega)
   rw[aM c1,Un hb.1,dG hb.1,a7 (by omega)]) (ub (K,T,P,xs,())) (by simp[kJ]) k (by omega)
 rw[ig,Ff] at this;exact this
theorem Gv (r:bm) (h:xy r):fj.ab (r,())=some (nK r,()):=by
 obtain ⟨K,T,P,xs,⟨⟩⟩:=r;obtain ⟨h1,h2⟩:=h;simp only at h1 h2;refine ag (k:=6000) λk hk=>(fj.ae k _).trans ?_
 have hlen:∀ i,(kJ (xs.take i)).length<=66*64:=λi=>by
  have:=Fe (xs:=xs.take i) (λx hx=>h2 x (eE hx));have:(xs.take i).length<=xs.length:=by simp;omega
  omega
 have ab0:∀ q:List UInt8,q.length<=5000->fj.r1 k ((K,T,P,xs,()),()) q (q.length:Int) (1,0)=some (q++[UInt8.ofInt ((wk 1 q) / 256),UInt8.ofInt (wk 1 q)],()):=λq hq=>by
  have:=da (B:=λself v=>fj.b1 self (λz=>fj.q1 ((K,T,P,xs,()),()) q (q.length:Int) z) ((K,T,P,xs,()),()) q (q.length:Int) v) q (λ(s:Int) (i:Int)=>(s,i)) (λ_ s c=>.inr ((s*31+(c.toNat:Int)) % 65521)) (λs=>(q++[UInt8.ofInt (s / 256),UInt8.ofInt s],())) (λ_ s=>0<=s/\s < 65521) (by rw[au];omega)
   (λi hi s self hI=>by
    show fj.b1 _ _ _ _ _ _=_;unfold fj.b1;have ax:(i:Int) < (q.length:Int):=by omega
    have My:(0:Int)<=(i:Int)/\(i:Int) < (q.length:Int):=by omega
    simp only[ax,My,bR,aG,aH,aK,aI,aC,aB hi,aA,Nw hI])
   (λi hi s s' hI hs=>by injection hs with hs;omega) (λs self hI=>by
    show fj.b1 _ _ _ _ _ _=_;unfold fj.b1;simp only[aX,aE,aD,fj.q1,fj.q1];have c1:q.length+[UInt8.ofInt (s.fdiv (2 ^ 8)),UInt8.ofInt s].length<=cg:=dn (by simp only[aW,bC];omega);rw[aM c1,fM s (by omega:(0:Int)<=2 ^ 8)]
    rfl) 1 (by omega) k (by omega)
  rw[ig] at this;exact this
 have:=da (B:=λself v=>fj.b0 self (λz=>fj.Q0 k ((K,T,P,xs,()),()) z) ((K,T,P,xs,()),()) v) xs (λ(s:List UInt8) (i:Int)=>(s,i)) (λ_ s x=>.inr (s++to x)) (λs=>(let q:=s.set 0 (UInt8.ofInt (af ((s.length:Int)+2)));(q++[UInt8.ofInt ((wk 1 q) / 256),UInt8.ofInt (wk 1 q)],())))
  (λi s=>s=ub (K,T,P,xs,())++kJ (xs.take i)) (by rw[au];omega)
  (λi hi s self hI=>by
   show fj.b0 _ _ _ _=_;unfold fj.b0;have ax:(i:Int) < (xs.length:Int):=by omega
   have hs:s.length<=5000:=by rw[hI];have:=hlen i;simp only[bE,ub,aW,bC];omega
   have hx:=h2 xs[i] (aU hi);simp only[ax,aG,aH,aK,aI,aC,aB hi,aA];generalize xs[i]=x at hx;have c1:s.length+[UInt8.ofInt x.1,UInt8.ofInt (List.length x.2.1:Int)].length<=cg:=dn (by simp only[aW,bC];omega);have c2:(s++[UInt8.ofInt x.1,UInt8.ofInt (List.length x.2.1:Int)]).length+List.length x.2.1<=cg:=dn (by simp only[bE,aW,bC];omega)
   simp only[c1,c2,aI,to,bN,cL,bO])
  (λi hi s s' hI hs=>by
   injection hs with hs;rw[<-hs,hI,dZ hi,Fc,bN]
   simp[kJ]) (λs self hI=>by
   show fj.b0 _ _ _ _=_;unfold fj.b0;have hs:5<=s.length/\s.length<=5000:=by rw[hI];have:=hlen xs.length;simp only[bE,ub,aW,bC];omega
   simp only[aX,aE,aD,fj.Q0,fj.q0]
   have c0:(0:Int)<=0/\(0:Int) < (s.length:Int):=⟨by omega,by omega⟩
   rw[aM c0,aB (by omega:0 < s.length)];simp only[aA];generalize hq:s.set 0 (UInt8.ofInt (af ((s.length:Int)+2)))=q;have hql:q.length=s.length:=by rw[<-hq];simp
   exact ab0 q (by omega)) (ub (K,T,P,xs,())) (by simp[kJ]) k (by omega)
 rw[ig,Ff] at this;exact this
end OT
namespace OT
open Go
def cj (D:List UInt8) (i:Nat):Nat:=(D.getD i 0).toNat
theorem qQ (D:List UInt8) (i:Nat):cj D i < 256:=iQ _
theorem qE {D:List UInt8} {i:Nat} (h:i < D.length):D[i]?=some D[i]/\(D[i]).toNat=cj D i:=⟨aB h,by simp[cj,h]⟩
def piece (D:List UInt8) (at' n:Nat):cd:=((cj D at':Int),(D.take (at'+2+n)).drop (at'+2),())
def pI (D:List UInt8) (e:Nat):Nat->Nat->List cd->Option (List cd×Nat)
 | 0,a,rs=>some (rs,a)
 | c+1,a,rs=>if e < a+2 then none else if e < a+2+cj D (a+1) then none else pI D e c (a+2+cj D (a+1)) (rs++[piece D a (cj D (a+1))])
def pS (D:List UInt8):Nat->Nat->List cd->List cd
 | 0,_,rs=>rs
 | c+1,a,rs=>if a+2<=D.length then (if D.length < a+2+cj D (a+1) then rs else pS D c (a+2+cj D (a+1)) (rs++[piece D a (cj D (a+1))])) else rs
theorem R5 {D:List UInt8} {e:Nat} (he:e<=D.length):∀ (c a:Nat) (rs Kx:List cd) (a':Nat),pI D e c a rs=some (Kx,a')->pS D c a rs=Kx
 | 0,a,rs,Kx,a',h=>by injection h with h;injection h
 | c+1,a,rs,Kx,a',h=>by
  simp only[pI] at h;split at h
  ·cases h
  ·split at h
   ·cases h
   ·simp only[pS];rw[aM (by omega),aP (by omega)];exact R5 he c _ _ _ _ h
theorem P8 {e:Nat}:∀ (ys:List cd) (pre BA:List UInt8) (rs:List cd),(∀ y ∈ ys,0<=y.1/\y.1<=63/\1<=bl y/\bl y<=64)->pre.length+(kJ ys).length<=e ->
  pI (pre++kJ ys++BA) e ys.length pre.length rs=some (rs++ys,pre.length+(kJ ys).length)
 | [],pre,BA,rs,_,_=>by simp[pI,kJ]
 | y::ys,pre,BA,rs,h,he=>by
  obtain ⟨b1,b2,b3,b4⟩:=h y (by simp);unfold bl at b3 b4;have hD:pre++kJ (y::ys)++BA=(pre++to y)++kJ ys++BA:=by grind [xz]
  have hf1:(to y).length=2+List.length y.2.1:=by grind [to]
  have Cb:(kJ (y::ys)).length=2+List.length y.2.1+(kJ ys).length:=by grind [List.length_append]
  have h8:∀ n:Int,0<=n->n<=64->((UInt8.ofInt n).toNat:Int)=n:=λn h1 h2=>by
   simp[UInt8.ofInt,fF];omega
  have g0:(cj (pre++kJ (y::ys)++BA) pre.length:Int)=y.1:=by
   grind [cj,to]
  have g1:cj (pre++kJ (y::ys)++BA) (pre.length+1)=List.length y.2.1:=by
   unfold cj;grind [xz,to,Nat.add_sub_cancel_left]
  have g2:piece (pre++kJ (y::ys)++BA) pre.length (List.length y.2.1)=y:=by
   obtain ⟨yi,yb,⟨⟩⟩:=y;unfold piece;have g0:(cj (pre++kJ ((yi,yb,())::ys)++BA) pre.length:Int)=yi:=g0;rw[g0]
   have:((pre++kJ ((yi,yb,())::ys)++BA).take (pre.length+2+yb.length)).drop (pre.length+2)=yb:=by
    rw[xz];simp only[to,bN,cL];rw[List.take_append,List.drop_append];have e1:List.take (pre.length+2+yb.length) pre=pre:=List.take_of_length_le (by omega);have e2:pre.length+2+yb.length - pre.length=yb.length+1+1:=by omega
    simp_all
   grind
  simp only[aW,pI];rw[aP (by omega),g1,aP (by omega),g2,hD];have hl:(pre++to y).length=pre.length+2+List.length y.2.1:=by grind
  have:=P8 (e:=e) ys (pre++to y) BA (rs++[y]) (λz hz=>h z (by simp[hz])) (by rw[hl];omega);grind
def sJ (d:List UInt8):Option (bm×Nat):=
 if d.length < 7\/cj d 0 < 7\/d.length < cj d 0 then none else
 match pI (d.take (cj d 0)) (cj d 0 - 2) (cj d 4) 5 [] with
 | none=>none
 | some (rs,a)=>if a=cj d 0 - 2/\tY ((cj d 1:Int),(cj d 2:Int),(cj d 3:Int),rs,())=0/\nK ((cj d 1:Int),(cj d 2:Int),(cj d 3:Int),rs,())=d.take (cj d 0) then
   some (((cj d 1:Int),(cj d 2:Int),(cj d 3:Int),rs,()),cj d 0) else none
theorem Ny {d:List UInt8} {n i:Nat} (h:i < n) (hn:n<=d.length):cj (d.take n) i=cj d i:=by
 grind [cj]
theorem abd {D:List UInt8} (hl:7<=D.length) {rs:List cd} (Nz:pS D (cj D 4) 5 []=rs) {k t p:Int} (hr:tY (k,t,p,rs,())=0) (hp:nK (k,t,p,rs,())=D):pI D (D.length - 2) (cj D 4) 5 []=some (rs,D.length - 2):=by
 have hg:=wA hr;have h1:=hg.2.2.2.2.2.2.1;have h2:=hg.2.2.2.2.2.2.2;simp only at h1 h2;have hlen:=Kw (k,t,p,rs,());rw[hp] at hlen;simp only at hlen
 have aaf:∃ (pre BA:List UInt8),pre.length=5/\D=pre++kJ rs++BA/\pre[4]?=some (UInt8.ofInt (List.length rs:Int)):=by
  refine ⟨(ub (k,t,p,rs,())).set 0 (UInt8.ofInt (af (((ub (k,t,p,rs,())++kJ rs).length:Int)+2))),[UInt8.ofInt ((wk 1 (Nu (k,t,p,rs,()))) / 256),UInt8.ofInt (wk 1 (Nu (k,t,p,rs,())))],by simp[ub],?_,by simp[ub]⟩
  rw[<-hp];rfl
 obtain ⟨pre,BA,s1,s2,s3⟩:=aaf
 have h4:cj D 4=List.length rs:=by
  unfold cj;rw[s2];simp only[bW,bN];rw[cS (by omega),s3];simp[UInt8.ofInt,fF];omega
 grind [P8]
theorem pT {n:Nat} (h:n<=4000000000):af (n:Int)=(n:Int):=a7 (by omega)
theorem NA (a b:List UInt8) (h:a.length<=100000):fa.ab (a,b,())=some (decide (a=b),()):=by
 refine ag (k:=100001) λk hk=>(fa.ae k _).trans ?_;unfold fa.p;by_cases hl:a.length=b.length;rotate_left
 ·have h1:¬ ((a.length:Int)=(b.length:Int)):=by omega
  have h2:¬ a=b:=λe=>hl (by rw[e]);grind
 have wy:(a.length:Int)=(b.length:Int):=by omega
 simp only[wy,aG,aN,aD]
 have key:∀ (m i:Nat),a.length - i=m->i<=a.length->∀ j,m < j->al (λself v=>fa.B0 k self (λz=>fa.Q0 k (a,b,()) z) (a,b,()) v) j (i:Int)=some (decide (a.drop i=b.drop i),()):=by
  intro m
  induction m with
  | zero=>
   intro i hm hi j hj;have:i=a.length:=by omega
   subst this
   cases j with
   | zero=>omega
   | succ j=>
    show fa.b0 _ _ _ _=_;grind [fa.b0,fa.q0]
  | succ m ih=>
   intro i hm hi j hj;have ax:i < a.length:=by omega
   cases j with
   | zero=>omega
   | succ j=>
    show fa.b0 _ _ _ _=_;unfold fa.b0;have ab1:(i:Int) < (a.length:Int):=by omega
    have hlb:i < b.length:=by omega
    have hw:af ((i:Int)+1)=((i+1:Nat):Int):=by grind [a7]
    simp only[ab1,aG,aH,aK,aI,aC,aB ax,aB hlb,aA,hw];rw[bX ax,bX hlb];by_cases he:a[i]=b[i]
    ·grind [List.cons.injEq]
    ·have:¬ (((a[i]).toNat:Int)=((b[i]).toNat:Int)):=λe=>he (fY.1 (by omega));have h2:¬ (a[i]::a.drop (i+1)=b[i]::b.drop (i+1)):=λe=>he (by injection e);grind
 have:=key a.length 0 (by omega) (by omega) k (by omega);simp only[dV] at this;exact this
def R6:bm:=((0:Int),(0:Int),(0:Int),([]:List cd),())
theorem Uo {D:List UInt8} (hD:7<=D.length) (hD2:D.length<=255) {a1:l_.Arg} {e0:(bm×Int)->Option l_.Out} {K T P N:Int} (hN:0<=N/\N<=255) {k:Nat} :
  ∀ (c a i:Nat) (rs:List cd),(i:Int)+c=N->a<=D.length - 2->rs.length<=i->∀ j,c < j ->
   al (λself v=>l_.B0 k self e0 a1 D ((D.length - 2:Nat):Int) N v) j ((K,T,P,rs,()),(a:Int),(i:Int))=match pI D (D.length - 2) c a rs with
    | none=>some (R6,(0:Int),())
    | some (Kx,a')=>e0 ((K,T,P,Kx,()),(a':Int)):=by
 intro c
 induction c with
 | zero=>
  intro a i rs hi ha Nz j hj
  cases j with
  | zero=>omega
  | succ j=>
   show l_.b0 _ _ a1 _ _ _ _=_;grind [l_.b0,pI]
 | succ c ih=>
  intro a i rs hi ha Nz j hj
  cases j with
  | zero=>omega
  | succ j=>
   show l_.b0 _ _ a1 _ _ _ _=_;unfold l_.b0;have h1:(i:Int) < N:=by omega
   have e1:af ((a:Int)+2)=((a+2:Nat):Int):=by grind [a7]
   have e2:af ((a:Int)+1)=((a+1:Nat):Int):=by grind [a7]
   have e3:af ((i:Int)+1)=((i+1:Nat):Int):=by grind [a7]
   simp only[h1,aG,aH,e1,e2,e3,pI];by_cases h2:D.length - 2 < a+2
   ·have:((D.length - 2:Nat):Int) < ((a+2:Nat):Int):=by omega
    simp only[this,aG,aH,aM h2];rfl
   have WJ:¬ ((D.length - 2:Nat):Int) < ((a+2:Nat):Int):=by omega
   obtain ⟨g1,g2⟩:=qE (show a+1 < D.length by omega);obtain ⟨g3,g4⟩:=qE (show a < D.length by omega);have hb:=qQ D (a+1);have YJ:=qQ D a;simp only[WJ,aE,aD,aP h2,aK,aI,aC,g1,g3,aA,g2,g4,pT (show cj D (a+1)<=4000000000 by omega),pT (show cj D a<=4000000000 by omega)];have e4:af (((a+2:Nat):Int)+(cj D (a+1):Int))=((a+2+cj D (a+1):Nat):Int):=by rw[a7 (by omega)];omega
   have e5:af ((2:Int)+(cj D (a+1):Int))=((2+cj D (a+1):Nat):Int):=by grind [a7]
   have e6:af ((a:Int)+((2+cj D (a+1):Nat):Int))=((a+2+cj D (a+1):Nat):Int):=by grind
   simp only[e4,e5,e6];by_cases h3:D.length - 2 < a+2+cj D (a+1)
   ·have:((D.length - 2:Nat):Int) < ((a+2+cj D (a+1):Nat):Int):=by omega
    simp only[this,aG,aH,aM h3];rfl
   have Pv:¬ ((D.length - 2:Nat):Int) < ((a+2+cj D (a+1):Nat):Int):=by omega
   have h4:((a+2:Nat):Int)<=((a+2+cj D (a+1):Nat):Int)/\((a+2+cj D (a+1):Nat):Int)<=(D.length:Int):=by omega
   simp only[Pv,aE,aD,aP h3,h4,bR,aI,aC];rw[mA _ (by simp only[bQ,dD];omega)];have hc:rs.length+[(((cj D a:Nat):Int),((D.take (a+2+cj D (a+1))).drop (a+2)),())].length<=cg:=dn (by grind [List.length_nil]);simp only[aA,hc,aI];exact ih (a+2+cj D (a+1)) (i+1) _ (by omega) (by omega) (by simp;omega) j (by omega)
theorem Up {D:List UInt8} (hD:7<=D.length) (hD2:D.length<=255) {e0:bm->Option lV.Out} {K T P:Int} {k:Nat} :
  ∀ (c a i:Nat) (rs:List cd),i+c=cj D 4->a<=600->rs.length<=i->∀ j,c < j ->
   al (λself v=>lV.B0 k self e0 (D,()) v) j ((K,T,P,rs,()),(a:Int),(i:Int))=e0 (K,T,P,pS D c a rs,()):=by
 intro c
 induction c with
 | zero=>
  intro a i rs hi ha Nz j hj
  cases j with
  | zero=>omega
  | succ j=>
   show lV.b0 _ _ (D,()) _=_;grind [lV.b0,qQ,pT,cj,pS]
 | succ c ih=>
  intro a i rs hi ha Nz j hj
  cases j with
  | zero=>omega
  | succ j=>
   show lV.b0 _ _ (D,()) _=_;unfold lV.b0;obtain ⟨g1,g2⟩:=qE (show 4 < D.length by omega);have hb4:=qQ D 4;have h1:(i:Int) < (cj D 4:Int):=by omega
   have e1:af ((a:Int)+2)=((a+2:Nat):Int):=by grind [a7]
   have e2:af ((a:Int)+1)=((a+1:Nat):Int):=by grind [a7]
   have e3:af ((i:Int)+1)=((i+1:Nat):Int):=by grind [a7]
   simp only[g1,aA,g2,pT (show cj D 4<=4000000000 by omega),h1,aG,aH,e1,e2,e3,pS];by_cases h2:a+2<=D.length;rotate_left
   ·grind
   have WJ:((a+2:Nat):Int)<=(D.length:Int):=by omega
   obtain ⟨g5,g6⟩:=qE (show a+1 < D.length by omega);obtain ⟨g3,g4⟩:=qE (show a < D.length by omega);have hb:=qQ D (a+1);have YJ:=qQ D a;simp only[WJ,aG,aH,aM h2,aK,aI,aC,g5,g3,aA,g6,g4,pT (show cj D (a+1)<=4000000000 by omega),pT (show cj D a<=4000000000 by omega)];have e4:af (((a+2:Nat):Int)+(cj D (a+1):Int))=((a+2+cj D (a+1):Nat):Int):=by grind [a7]
   simp only[e4];by_cases h3:D.length < a+2+cj D (a+1)
   ·grind
   have Pv:¬ (D.length:Int) < ((a+2+cj D (a+1):Nat):Int):=by omega
   have h4:((a+2:Nat):Int)<=((a+2+cj D (a+1):Nat):Int)/\((a+2+cj D (a+1):Nat):Int)<=(D.length:Int):=by omega
   simp only[Pv,aE,aD,aP h3,h4,bR,aI,aC];rw[mI _ (by grind)];have hc:rs.length+[(((cj D a:Nat):Int),((D.take (a+2+cj D (a+1))).drop (a+2)),())].length<=cg:=dn (by grind);simp only[aA,hc,aI];exact ih (a+2+cj D (a+1)) (i+1) _ (by omega) (by omega) (by simp;omega) j (by omega)
theorem OU (d:List UInt8) (hd:d.length<=2000000000):l_.ab (d,())=some (match sJ d with | none=>(R6,(0:Int),()) | some (r,n)=>(r,(n:Int),())):=by
 refine ag (k:=300) λk hk=>(l_.ae k _).trans ?_;unfold l_.p sJ;by_cases h7:d.length < 7
 ·have:(d.length:Int) < 7:=by omega
  simp only[this,aG,aH,h7,iT,aI];rfl
 have h7':¬ (d.length:Int) < 7:=by omega
 obtain ⟨g1,g2⟩:=qE (show 0 < d.length by omega);have hb:=qQ d 0;simp only[h7',aE,aD,h7,iS,g1,aA,g2,pT (show cj d 0<=4000000000 by omega)];by_cases hl:d.length < cj d 0
 ·have:(d.length:Int) < (cj d 0:Int):=by omega
  simp only[this,aG,aH,hl,or_true,aI];rfl
 have wy:¬ (d.length:Int) < (cj d 0:Int):=by omega
 by_cases hm:cj d 0 < 7
 ·have:(cj d 0:Int) < 7:=by omega
  simp only[wy,aE,aD,this,aG,aH,hm,iT,aI];rfl
 have Gd:¬ (cj d 0:Int) < 7:=by omega
 have i7:0<=(cj d 0:Int)/\(cj d 0:Int)<=(d.length:Int):=by omega
 simp only[wy,Gd,aE,aD,hl,hm,or_self,aO,i7,bR,aI,aC,dV];generalize hDD:d.take (cj d 0)=D;have hDl:D.length=cj d 0:=by grind
 have ga:∀ i,i < cj d 0->cj D i=cj d i:=λi hi=>by grind [Ny]
 obtain ⟨q1,q2⟩:=qE (show 1 < D.length by omega);obtain ⟨q3,q4⟩:=qE (show 2 < D.length by omega);obtain ⟨q5,q6⟩:=qE (show 3 < D.length by omega);obtain ⟨q7,q8⟩:=qE (show 4 < D.length by omega);have b1:=qQ d 1;have b2:=qQ d 2;have b3:=qQ d 3;have b4:=qQ d 4;have ew:af ((D.length:Int) - 2)=((D.length - 2:Nat):Int):=by grind [a7]
 simp only[q1,q3,q5,q7,aA,q2,q4,q6,q8,ga 1 (by omega),ga 2 (by omega),ga 3 (by omega),ga 4 (by omega),ew,pT (show cj d 1<=4000000000 by omega),pT (show cj d 2<=4000000000 by omega),pT (show cj d 3<=4000000000 by omega),pT (show cj d 4<=4000000000 by omega)];have hp:=Uo (D:=D) (by omega) (by omega) (a1:=(d,())) (e0:=λz=>l_.Q0 k (d,()) D ((D.length - 2:Nat):Int) (cj d 4:Int) z) (K:=(cj d 1:Int)) (T:=(cj d 2:Int)) (P:=(cj d 3:Int)) (N:=(cj d 4:Int)) (by omega) (k:=k) (cj d 4) 5 0 [] (by omega) (by omega) (aL _) k (by omega);refine aQ hp ?_;rw[<-hDl]
 cases Au:pI D (D.length - 2) (cj d 4) 5 [] with
 | none=>rfl
 | some q=>
  obtain ⟨rs,a⟩:=q;simp only[l_.Q0,l_.q0];by_cases ha:a=D.length - 2;rotate_left
  ·have:¬ ((a:Int)=((D.length - 2:Nat):Int)):=by omega
   simp only[this,aE,bA,aH,ha,hU,aO];rfl
  subst ha;simp only[aG,aN,aD,Ip,aA,dQ];by_cases hr:tY ((cj d 1:Int),(cj d 2:Int),(cj d 3:Int),rs,())=0;rotate_left
  ·simp only[hr,aE,bA,aH,hU,aO];rfl
  have hs:=Nv hr;have iU:=BW hs;simp only[hr,aG,aN,aD,Gv _ hs,aA,dQ];rw[NA _ _ (by omega)];by_cases he:nK ((cj d 1:Int),(cj d 2:Int),(cj d 3:Int),rs,())=D
  ·grind
  ·simp only[he,aE,aA,bA,aH,aO];rfl
theorem OV (d:List UInt8) (hd:d.length<=2000000000):nR.ab (d,())=some (match sJ d with | none=>(((5:Int),(0:Int),R6,()),()) | some (r,n)=>(((0:Int),(n:Int),r,()),())):=by
 refine ag (k:=300) λk hk=>(nR.ae k _).trans ?_;show nR.p _=_;unfold nR.p sJ;by_cases h7:d.length < 7
 ·have:(d.length:Int) < 7:=by omega
  simp only[this,aG,aH,h7,iT,aI];rfl
 have h7':¬ (d.length:Int) < 7:=by omega
 obtain ⟨g1,g2⟩:=qE (show 0 < d.length by omega);have hb:=qQ d 0;simp only[h7',aE,aD,h7,iS,g1,aA,g2,pT (show cj d 0<=4000000000 by omega)];by_cases hm:cj d 0 < 7
 ·have:(cj d 0:Int) < 7:=by omega
  simp only[this,aG,aH,hm,iT,aI];rfl
 have Gd:¬ (cj d 0:Int) < 7:=by omega
 by_cases hl:d.length < cj d 0
 ·have:(d.length:Int) < (cj d 0:Int):=by omega
  simp only[Gd,aE,aD,this,aG,aH,hl,or_true,aI];rfl
 have wy:¬ (d.length:Int) < (cj d 0:Int):=by omega
 have i7:0<=(cj d 0:Int)/\(cj d 0:Int)<=(d.length:Int):=by omega
 simp only[wy,Gd,aE,aD,hl,hm,or_self,aO,i7,bR,aI,aC,dV];generalize hDD:d.take (cj d 0)=D;have hDl:D.length=cj d 0:=by grind
 have ga:∀ i,i < cj d 0->cj D i=cj d i:=λi hi=>by grind [Ny]
 have Li:lV.ab (D,())=some (((cj d 1:Int),(cj d 2:Int),(cj d 3:Int),pS D (cj d 4) 5 [],()),()):=by
  refine ag (k:=300) λk hk=>(lV.ae k _).trans ?_;unfold lV.p;obtain ⟨q1,q2⟩:=qE (show 1 < D.length by omega);obtain ⟨q3,q4⟩:=qE (show 2 < D.length by omega);obtain ⟨q5,q6⟩:=qE (show 3 < D.length by omega);have b1:=qQ d 1;have b2:=qQ d 2;have b3:=qQ d 3;have b4:=qQ d 4;simp only[q1,q3,q5,aA,q2,q4,q6,ga 1 (by omega),ga 2 (by omega),ga 3 (by omega),pT (show cj d 1<=4000000000 by omega),pT (show cj d 2<=4000000000 by omega),pT (show cj d 3<=4000000000 by omega)];have hp:=Up (D:=D) (by omega) (by omega) (e0:=λz=>lV.Q0 k (D,()) z) (K:=(cj d 1:Int)) (T:=(cj d 2:Int)) (P:=(cj d 3:Int)) (k:=k) (cj D 4) 5 0 [] (by omega) (by omega) (aL _) k (by grind);refine aQ hp ?_;rw[ga 4 (by omega)];rfl
 rw[Li];simp only[aA,In];rw[<-hDl];generalize Nz:pS D (cj d 4) 5 []=rs;by_cases hr:tY ((cj d 1:Int),(cj d 2:Int),(cj d 3:Int),rs,())=0
 ·have hs:=Nv hr;simp only[hr,aG,aN,aD,Gu _ hs,aA];by_cases he:nK ((cj d 1:Int),(cj d 2:Int),(cj d 3:Int),rs,())=D
  ·have h4:cj D 4=cj d 4:=ga 4 (by omega);have Au:=abd (D:=D) (by omega) (by grind) hr he;grind
  ·simp only[he,aE,bA,aH]
   cases Au:pI D (D.length - 2) (cj d 4) 5 [] with
   | none=>rfl
   | some q=>
    obtain ⟨Kx,a'⟩:=q;have:=R5 (by omega) _ _ _ _ _ Au;rw[Nz] at this;subst this;simp only[he,and_false,aO];rfl
 ·simp only[hr,aE,bA,aH]
  cases Au:pI D (D.length - 2) (cj d 4) 5 [] with
  | none=>rfl
  | some q=>
   obtain ⟨Kx,a'⟩:=q;have:=R5 (by omega) _ _ _ _ _ Au;rw[Nz] at this;subst this;simp only[hr,hU,and_false,aO];rfl
end OT
namespace OT
open Go
theorem Cs {d:List UInt8} {r:bm} {n:Nat} (h:sJ d=some (r,n)):7<=n/\n<=d.length/\tY r=0:=by
 unfold sJ at h;split at h
 ·cases h
 ·rename_i hc;split at h
  ·cases h
  ·split at h
   ·rename_i hh;injection h with h;injection h with h1 h2;subst h1;omega
   ·cases h
theorem Uq:sJ []=none:=rfl
def kL:Nat->List UInt8->List bm×Nat
 | 0,_=>([],0)
 | k+1,d=>match sJ d with
  | none=>([],0)
  | some (r,n)=>(r::(kL k (d.drop n)).1,n+(kL k (d.drop n)).2)
theorem ur:∀ (k k':Nat) (d:List UInt8),d.length < k->d.length < k'->kL k d=kL k' d
 | 0,_,_,h,_=>by omega
 | _+1,0,_,_,h=>by omega
 | k+1,k'+1,d,h,h'=>by
  simp only[kL]
  cases hr:sJ d with
  | none=>rfl
  | some q=>
   obtain ⟨r,n⟩:=q;have hn:=Cs hr;have:(d.drop n).length=d.length - n:=bQ;simp only;rw[ur k k' (d.drop n) (by omega) (by omega)]
def ud (d:List UInt8):List bm×Nat:=kL (d.length+1) d
theorem DL (d:List UInt8) (hd:d.length<=1048576):lN.ab (d,())=some ((ud d).1,((ud d).2:Int),()):=by
 refine ag (k:=1048578) λk hk=>(lN.ae k _).trans ?_
 have key:∀ (m a:Nat) (acc:List bm),d.length - a=m->a<=d.length->acc.length<=a->∀ j,m < j ->
   al (λself v=>lN.B0 k self (d,()) v) j (acc,(a:Int))=some (acc++(kL (m+1) (d.drop a)).1,((a+(kL (m+1) (d.drop a)).2:Nat):Int),()):=by
  intro m
  induction m using Nat.strongRecOn with
  | ind m ih=>
  intro a acc hm ha ab2 j hj
  cases j with
  | zero=>omega
  | succ j=>
   show lN.b0 _ _ _=_;unfold lN.b0;have i7:(0:Int)<=(a:Int)/\(a:Int)<=(d.length:Int):=by omega
   simp only[i7,bR,aI,aC,fB];rw[OU _ (by simp;omega)];simp only[aA,kL]
   cases hr:sJ (d.drop a) with
   | none=>simp only[aG,aH,cI,dW];try rfl
   | some q=>
    obtain ⟨r,n⟩:=q;have hn:=Cs hr;have hl:(d.drop a).length=d.length - a:=bQ;have h0:¬ ((n:Int)=0):=by omega
    have hc:acc.length+[r].length<=cg:=dn (by simp only[aW,bC];omega);have ew:af ((a:Int)+(n:Int))=((a+n:Nat):Int):=by rw[a7 (by omega)];omega
    simp only[h0,aE,aD,hc,aI,ew];have:=ih (d.length - (a+n)) (by omega) (a+n) (acc++[r]) rfl (by omega) (by simp;omega) j (by omega);refine aQ this ?_;have Bi:(d.drop a).drop n=d.drop (a+n):=by rw[cU]
    have wK:(d.drop (a+n)).length=d.length - (a+n):=bQ;rw[Bi,ur m (d.length - (a+n)+1) (d.drop (a+n)) (by omega) (by omega)];simp only[bN,cL,bO,cW]
 have:=key d.length 0 [] rfl (by omega) (aL _) k (by omega);simp only[dV,bO,cB] at this;exact this
theorem DM (d:List UInt8) (hd:d.length<=1048576):jw.ab (d,())=some ((ud d).1,((ud d).2:Int),()):=by
 refine ag (k:=1048578) λk hk=>(jw.ae k _).trans ?_
 have key:∀ (m a:Nat) (acc:List bm),d.length - a=m->a<=d.length->acc.length<=a->∀ j,m < j ->
   al (λself v=>jw.B0 k self (λz=>jw.Q0 k (d,()) z) (d,()) v) j (acc,(a:Int))=some (acc++(kL (m+1) (d.drop a)).1,((a+(kL (m+1) (d.drop a)).2:Nat):Int),()):=by
  intro m
  induction m using Nat.strongRecOn with
  | ind m ih=>
  intro a acc hm ha ab2 j hj
  cases j with
  | zero=>omega
  | succ j=>
   show jw.b0 _ _ (d,()) _=_;unfold jw.b0;by_cases ax:a < d.length;rotate_left
   ·have h1:¬ (a:Int) < (d.length:Int):=by omega
    have h2:d.drop a=[]:=dX (by omega);simp only[h1,aE,aD,jw.Q0,jw.q0,h2,kL,Uq,cI,dW]
    try rfl
   have z6:(a:Int) < (d.length:Int):=by omega
   have i7:(0:Int)<=(a:Int)/\(a:Int)<=(d.length:Int):=by omega
   simp only[z6,aG,aH,i7,bR,aI,aC,fB];rw[OV _ (by simp;omega)];simp only[aA,kL]
   cases hr:sJ (d.drop a) with
   | none=>
    have h5:¬ ((5:Int)=0):=by omega
    simp only[h5,aE,bA,aH,cI,dW,jw.Q0,jw.q0];try rfl
   | some q=>
    obtain ⟨r,n⟩:=q;have hn:=Cs hr;have hl:(d.drop a).length=d.length - a:=bQ;have hc:acc.length+[r].length<=cg:=dn (by simp only[aW,bC];omega);have ew:af ((a:Int)+(n:Int))=((a+n:Nat):Int):=by rw[a7 (by omega)];omega
    simp only[aG,aN,aD,hc,aI,ew];have:=ih (d.length - (a+n)) (by omega) (a+n) (acc++[r]) rfl (by omega) (by simp;omega) j (by omega);refine aQ this ?_;have Bi:(d.drop a).drop n=d.drop (a+n):=by rw[cU]
    have wK:(d.drop (a+n)).length=d.length - (a+n):=bQ;rw[Bi,ur m (d.length - (a+n)+1) (d.drop (a+n)) (by omega) (by omega)];simp only[bN,cL,bO,cW]
 have:=key d.length 0 [] rfl (by omega) (aL _) k (by omega);simp only[dV,bO,cB] at this;exact this
def NB (l:Log):Prop:=List.length l.1<=1048576/\List.length l.2.1<=1048576
def sK (d:List UInt8):Bool:=decide ((ud d).2=d.length)
def xA (l:Log):Int:=if 16000 < List.length l.1+List.length l.2.1 then 2 else if sK l.1&&sK l.2.1 then 0 else 5
theorem Ky (d:List UInt8):decide (((ud d).2:Int)=(d.length:Int))=sK d:=by
 unfold sK;by_cases h:(ud d).2=d.length
 ·simp[h]
 ·have:¬ ((ud d).2:Int)=(d.length:Int):=by omega
  simp[h,this]
theorem R7 (l:Log) (h:NB l):qd.ab (l,())=some (xA l,()):=by
 refine ag (k:=0) λk _=>(qd.ae k _).trans ?_;show qd.p _=_;unfold qd.p xA;obtain ⟨h1,h2⟩:=h;have ew:af ((List.length l.1:Int)+(List.length l.2.1:Int))=((List.length l.1+List.length l.2.1:Nat):Int):=by rw[a7 (by omega)];omega
 simp only[ew,DM _ h1,DM _ h2,aA,Ky];by_cases hc:16000 < List.length l.1+List.length l.2.1
 ·have:(16000:Int) < ((List.length l.1+List.length l.2.1:Nat):Int):=by omega
  simp only[this,hc,aG,aH,aI]
  try rfl
 ·have:¬ (16000:Int) < ((List.length l.1+List.length l.2.1:Nat):Int):=by omega
  simp only[this,hc,aE,aD,aO];cases sK l.1 <;> cases sK l.2.1 <;> rfl
theorem size_eq (l:Log) (h:NB l):mw.ab (l,())=some (((List.length l.1+List.length l.2.1:Nat):Int),()):=by
 refine ag (k:=0) λk _=>(mw.ae k _).trans ?_;show mw.p _=_;unfold mw.p;obtain ⟨h1,h2⟩:=h;have ew:af ((List.length l.1:Int)+(List.length l.2.1:Int))=((List.length l.1+List.length l.2.1:Nat):Int):=by rw[a7 (by omega)];omega
 rw[ew]
 try rfl
theorem R8 (l:Log) (h:NB l):jg.ab (l,())=some (xA l,()):=by
 refine ag (k:=5) λk hk=>(jg.ae k _).trans ?_;unfold jg.p xA;rw[size_eq l h]
 have hl:∀ x ∈ [l.1,l.2.1],List.length x<=1048576:=by
  intro x hx;simp only[bB,List.not_mem_nil,or_false] at hx;rcases hx with e | e <;> subst e
  ·exact h.1
  ·exact h.2
 have:=da (B:=λself v=>jg.b0 self (λz=>jg.q0 (l,()) z) (l,()) v) [l.1,l.2.1] (λ(_:Unit) (i:Int)=>i) (λ_ _ x=>if sK x then .inr () else .inl (5,())) (λ_=>(0,())) (λ_ _=>True) (by rw[au];simp)
  (λi hi s self hI=>by
   show jg.b0 _ _ _ _=_;unfold jg.b0;have ax:(i:Int) < ([l.1,l.2.1].length:Int):=by omega
   have i7:(0:Int)<=(i:Int)/\(i:Int) < ([l.1,l.2.1].length:Int):=by omega
   simp only[ax,i7,bR,aG,aH,aI,aC,aB hi,aA];have hx:=hl [l.1,l.2.1][i] (aU hi);generalize [l.1,l.2.1][i]=x at hx;rw[DL x hx];simp only[aA,Ky]
   cases sK x <;> rfl)
  (λ_ _ _ _ _ _=>trivial) (λs self _=>by
   show jg.b0 _ _ _ _=_;unfold jg.b0
   simp[jg.q0,jg.q0]) () trivial k (by simp only[aW,bC];omega)
 rw[so sK (5,()) (λ_=>(0,()))] at this;have this:jg.r0 k (l,()) 0=_:=this;simp only[aA,this];by_cases hc:16000 < List.length l.1+List.length l.2.1
 ·have:(16000:Int) < ((List.length l.1+List.length l.2.1:Nat):Int):=by omega
  simp only[this,hc,aG,aH,aI]
 ·have:¬ (16000:Int) < ((List.length l.1+List.length l.2.1:Nat):Int):=by omega
  simp only[this,hc,aE,aD,aO,dI,List.all_nil,Bool.and_true];cases sK l.1 <;> cases sK l.2.1 <;> rfl
theorem R9 (l:Log) (r:bm) (h:NB l) (hs:xy r):pu.ab (l,r,())=some (if 16000 < List.length l.1+List.length l.2.1+(nK r).length then (l,false,()) else ((l.1,l.2.1++nK r,()),true,())):=by
 have iU:=BW hs;obtain ⟨o1,o2⟩:=h;refine ag (k:=0) λk _=>(pu.ae k _).trans ?_;show pu.p _=_;unfold pu.p
 have hcp:lY.ab (l,())=some (l,()):=by
  refine ag (k:=0) λk _=>(lY.ae k _).trans ?_;show lY.p _=_;unfold lY.p;rw[mI _ (by show List.length l.1<=_;omega)];simp only[aA];rw[mI _ (by show List.length l.2.1<=_;omega)];rfl
 have e1:af ((List.length l.1:Int)+(List.length l.2.1:Int))=((List.length l.1+List.length l.2.1:Nat):Int):=by rw[a7 (by omega)];omega
 have e2:af (((List.length l.1+List.length l.2.1:Nat):Int)+((nK r).length:Int))=((List.length l.1+List.length l.2.1+(nK r).length:Nat):Int):=by rw[a7 (by omega)];omega
 have Ey:List.length l.2.1+(nK r).length<=cg:=dn (by omega);simp only[Gu r hs,hcp,aA,e1,e2];by_cases hc:16000 < List.length l.1+List.length l.2.1+(nK r).length
 ·have:(16000:Int) < ((List.length l.1+List.length l.2.1+(nK r).length:Nat):Int):=by omega
  simp only[this,hc,aG,aH,aI]
 ·have:¬ (16000:Int) < ((List.length l.1+List.length l.2.1+(nK r).length:Nat):Int):=by omega
  simp only[this,hc,aE,aD,aO,Ey,aI]
theorem R_ (l:Log) (r:bm) (h:NB l) (hs:xy r):mK.ab (l,r,())=some (if 16000 < List.length l.1+List.length l.2.1+(nK r).length then (l,false,()) else ((l.1,l.2.1++nK r,()),true,())):=by
 have iU:=BW hs;have ba:=h;obtain ⟨o1,o2⟩:=h;refine ag (k:=0) λk _=>(mK.ae k _).trans ?_;show mK.p _=_;unfold mK.p;have e2:af (((List.length l.1+List.length l.2.1:Nat):Int)+((nK r).length:Int))=((List.length l.1+List.length l.2.1+(nK r).length:Nat):Int):=by rw[a7 (by omega)];omega
 have Ey:List.length l.2.1+(nK r).length<=cg:=dn (by omega);simp only[Gv r hs,size_eq l ba,aA,e2];rw[mA _ (by show List.length l.2.1<=_;omega)];by_cases hc:16000 < List.length l.1+List.length l.2.1+(nK r).length
 ·have:(16000:Int) < ((List.length l.1+List.length l.2.1+(nK r).length:Nat):Int):=by omega
  simp only[this,hc,aG,aH,aI]
 ·have:¬ (16000:Int) < ((List.length l.1+List.length l.2.1+(nK r).length:Nat):Int):=by omega
  simp only[this,hc,aE,aD,aO,aA,Ey,aI]
theorem Yo (l:Log) (g1:List.length l.1<=2000000) (g2:List.length l.2.1<=2000000):qi.ab (l,())=some (l,()):=by
 refine ag (k:=0) λk _=>(qi.ae k _).trans ?_;show qi.p _=_;unfold qi.p;rw[mA _ (by show List.length l.1<=_;omega)];simp only[aA];rw[mA _ (by show List.length l.2.1<=_;omega)];rfl
end OT
namespace OT
open Go
def xJ (x:Tx):Int:=if Bs x=0 then uo x else Bs x
theorem Kz {α:Type} (c:Nat->α->Int):∀ (xs:List α) (i:Nat),b_ (λi (_:Unit) y=>if c i y=0 then .inr () else .inl (c i y,())) (λ_=>((0:Int),())) i xs ()=(b_ (λi (_:Unit) y=>if c i y=0 then .inr () else .inl (c i y)) (λ_=>(0:Int)) i xs (),())
 | [],_=>rfl
 | y::ys,i=>by simp only[b_];by_cases h0:c i y=0 <;> simp[h0,Kz c ys (i+1)]
theorem zF {α:Type} (c:Nat->α->Int) (E:Option (Int×Unit)):∀ (xs:List α) (i:Nat),b_ (λi (_:Unit) y=>if c i y=0 then .inr () else .inl (some (c i y,()))) (λ_=>E) i xs () =
  if b_ (λi (_:Unit) y=>if c i y=0 then .inr () else .inl (c i y)) (λ_=>(0:Int)) i xs ()=0 then E else some (b_ (λi (_:Unit) y=>if c i y=0 then .inr () else .inl (c i y)) (λ_=>(0:Int)) i xs (),())
 | [],_=>rfl
 | y::ys,i=>by simp only[b_];by_cases h0:c i y=0 <;> simp[h0,zF c E ys (i+1)]
theorem Gw {α:Type} (c:α->Int):∀ (xs:List α) (i:Nat),b_ (λ_ (_:Unit) y=>if c y=0 then .inr () else .inl (c y)) (λ_=>(0:Int)) i xs ()=ng c xs
 | [],_=>rfl
 | y::ys,i=>by simp only[b_,ng];by_cases h0:c y=0 <;> simp[h0,Gw c ys (i+1)]
theorem Sa (x:Tx) (h:tl x):dh.ab (x,())=some (xJ x,()):=by
 obtain ⟨h1,h2,h3,h4⟩:=h;refine ag (k:=1048577) λk hk=>(dh.ae k _).trans ?_
 have Sb:List.length x.2.2.2.1<=12->dh.r2 k (x,()) (0:Int)=some (xn x.2.2.2.1,()):=λhl=>by
  have:=da (B:=λself v=>dh.b2 self (λz=>dh.q2 (x,()) z) (x,()) v) x.2.2.2.1 (λ(_:Unit) (i:Int)=>i) (λi _ y=>if rP x.2.2.2.1 i y=0 then .inr () else .inl (rP x.2.2.2.1 i y,())) (λ_=>(0,())) (λ_ _=>True) (by rw[au];omega)
   (λi hi s self _=>by
    show dh.b2 _ _ _ _=_;unfold dh.b2 rP;have ax:(i:Int) < (List.length x.2.2.2.1:Int):=by omega
    have i7:(0:Int)<=(i:Int)/\(i:Int)<=(List.length x.2.2.2.1:Int):=by omega
    simp only[ax,i7,bR,aG,aH,aK,aI,aC,aB hi,aA,VJ,dV];rw[contains_eq _ _ (by rw[au];simp;omega)]
    cases yj (x.2.2.2.1)[i] <;> cases jI (x.2.2.2.1.take i) (x.2.2.2.1)[i] <;> rfl)
   (λ_ _ _ _ _ _=>trivial) (λs self _=>by
    show dh.b2 _ _ _ _=_;unfold dh.b2;simp only[aX,aE,aD]
    rfl) () trivial k (by omega)
  rw[Kz (rP x.2.2.2.1)] at this;exact this
 have second:List.length x.2.2.1<=8->List.length x.2.2.2.1<=12->dh.r1 k (x,()) ((0:Int),(0:Int))=some (if Iy (List.length x.2.1:Int) 0 x.2.2.1 then xn x.2.2.2.1 else 3,()):=λhm hl=>by
  have:=dz (B:=λself v=>dh.b1 self (λz=>dh.Q1 k (x,()) z) (x,()) v) x.2.2.1 (λ(last:Int) (i:Int)=>(last,i)) (λ_ last m=>if gu m last (List.length x.2.1:Int) then .inr m else .inl (some ((3:Int),()))) (λ_=>some (xn x.2.2.2.1,())) (λ_ _=>True) (by rw[au];omega)
   (λi hi last self _=>by
    show dh.b1 _ _ _ _=_;unfold dh.b1;have ax:(i:Int) < (List.length x.2.2.1:Int):=by omega
    simp only[ax,aG,aH,aK,aI,aC,aB hi,aA,tJ];show (bif !gu (x.2.2.1)[i] last (List.length x.2.1:Int) then _ else _)=_
    cases gu (x.2.2.1)[i] last (List.length x.2.1:Int) <;> rfl)
   (λ_ _ _ _ _ _=>trivial) (λlast self _=>by
    show dh.b1 _ _ _ _=_;unfold dh.b1;simp only[aX,aE,aD]
    exact Sb hl) 0 trivial k (by omega)
  rw[MU] at this;refine aQ this ?_;unfold Iy;cases b_ (λ_ last m=>if gu m last (List.length x.2.1:Int) then .inr m else .inl false) (λ_=>true) 0 x.2.2.1 0 <;> rfl
 have after:dh.Q0 k (x,()) ()=some (uo x,()):=by
  show dh.q0 _ _ _=_;unfold dh.q0 uo;by_cases hm:8 < List.length x.2.2.1
  ·have:(8:Int) < (List.length x.2.2.1:Int):=by omega
   simp only[this,hm,aG,aH,hJ,aI]
   try rfl
  have Gd:¬ (8:Int) < (List.length x.2.2.1:Int):=by omega
  by_cases mJ:12 < List.length x.2.2.2.1
  ·have:(12:Int) < (List.length x.2.2.2.1:Int):=by omega
   simp only[this,hm,Gd,mJ,aG,aE,aH,aD,cZ,aI]
   try rfl
  have J0:¬ (12:Int) < (List.length x.2.2.2.1:Int):=by omega
  simp only[hm,Gd,J0,mJ,aE,aD,gE,aJ,aO];exact second (by omega) (by omega)
 have:=dz (B:=λself v=>dh.b0 self (λz=>dh.Q0 k (x,()) z) (x,()) v) x.2.1 (λ(_:Unit) (i:Int)=>i) (λ_ _ c=>if yk x.2.2.2.1 c=0 then .inr () else .inl (some (yk x.2.2.2.1 c,()))) (λ_=>some (uo x,())) (λ_ _=>True) (by rw[au];omega)
  (λi hi s self _=>by
   show dh.b0 _ _ _ _=_;unfold dh.b0;have ax:(i:Int) < (List.length x.2.1:Int):=by omega
   simp only[ax,aG,aH,aK,aI,aC,aB hi,aA,Kd _ (h4 _ (aU hi)),Yf];rw[contains_eq _ _ (by rw[au];omega)];unfold yk;by_cases hc:AF (x.2.1)[i]=0
   ·simp only[hc,aG,aN,aD,aI,aA];cases jI x.2.2.2.1 (Cl (x.2.1)[i]) <;> rfl
   ·simp only[hc,aE,bA,aH,aO])
  (λ_ _ _ _ _ _=>trivial) (λs self _=>by
   show dh.b0 _ _ _ _=_;unfold dh.b0;simp only[aX,aE,aD]
   exact after) () trivial k (by omega)
 rw[zF (λ_=>yk x.2.2.2.1),Gw] at this;refine aQ this ?_;unfold xJ Bs;split <;> rfl
def rn (xs:List Tx) (k:Key):Int:=match xs with
 | []=>0
 | x::xs=>if jI x.2.2.2.1 k then x.1 else rn xs k
def BB (xs:List Tx):Prop:=xs.length<=1048576/\∀ x ∈ xs,tl x
theorem KA (k:Key):∀ (xs:List Tx) (i:Nat),b_ (λ_ (_:Unit) x=>if jI x.2.2.2.1 k then .inl (x.1,()) else .inr ()) (λ_=>((0:Int),())) i xs ()=(rn xs k,())
 | [],_=>rfl
 | x::xs,i=>by simp only[b_,rn];cases jI x.2.2.2.1 k <;> simp[KA k xs (i+1)]
theorem V5 {x:Tx} (h:tl x):List.length x.2.2.2.1<=maxLen:=by rw[au];have:=h.2.2.1;omega
theorem OW (xs:List Tx) (k0:Key) (h:BB xs):mr.ab (xs,k0,())=some (rn xs k0,()):=by
 obtain ⟨h1,h2⟩:=h;refine ag (k:=xs.length+1) λk hk=>(mr.ae k _).trans ?_
 have:=da (B:=λself v=>mr.b0 self (λz=>mr.q0 (xs,k0,()) z) (xs,k0,()) v) xs (λ(_:Unit) (i:Int)=>i) (λ_ _ x=>if jI x.2.2.2.1 k0 then .inl (x.1,()) else .inr ()) (λ_=>(0,())) (λ_ _=>True) (by rw[au];omega)
  (λi hi s self _=>by
   show mr.b0 _ _ _ _=_;unfold mr.b0;have ax:(i:Int) < (xs.length:Int):=by omega
   simp only[ax,aG,aH,aK,aI,aC,aB hi,aA,MT _ _ (V5 (h2 _ (aU hi)))]
   cases jI (xs[i]).2.2.2.1 k0 <;> rfl)
  (λ_ _ _ _ _ _=>trivial) (λs self _=>by
   show mr.b0 _ _ _ _=_;unfold mr.b0;simp only[aX,aE,aD]
   rfl) () trivial k (by omega)
 rw[KA] at this;exact this
def za (xs:List Tx):Int:=xs.foldl (λn x=>n+(List.length x.2.1:Int)) 0
theorem NC (xs:List Tx) (h:BB xs):lF.ab (xs,())=some (za xs,()):=by
 obtain ⟨h1,h2⟩:=h;refine ag (k:=xs.length+1) λk hk=>(lF.ae k _).trans ?_
 have:=da (B:=λself v=>lF.b0 self (λz=>lF.q0 (xs,()) z) (xs,()) v) xs (λ(n:Int) (i:Int)=>(n,i)) (λ_ n x=>.inr (n+(List.length x.2.1:Int))) (λn=>(n,())) (λi n=>0<=n/\n<=1048576*(i:Int)) (by rw[au];omega)
  (λi hi n self hI=>by
   show lF.b0 _ _ _ _=_;unfold lF.b0;have ax:(i:Int) < (xs.length:Int):=by omega
   have hx:=(h2 _ (aU hi)).1;simp only[ax,aG,aH,aK,aI,aC,aB hi,aA]
   rw[a7 (n:=n+_) (by omega)])
  (λi hi n n' hI hs=>by
   injection hs with hs;have hx:=(h2 _ (aU hi)).1
   omega) (λs self _=>by
   show lF.b0 _ _ _ _=_;unfold lF.b0;simp only[aX,aE,aD]
   rfl) 0 (by omega) k (by omega)
 rw[ig] at this;exact this
theorem ND (xs:List Tx) (h:BB xs):ny.ab (xs,())=some (za xs,()):=by
 obtain ⟨h1,h2⟩:=h;refine ag (k:=xs.length+1) λk hk=>(ny.ae k _).trans ?_
 have:=da (B:=λself v=>ny.b0 self (λz=>ny.q0 (xs,()) z) (xs,()) v) xs (λ(n:Int) (i:Int)=>(n,i)) (λ_ n x=>.inr (n+(List.length x.2.1:Int))) (λn=>(n,())) (λi n=>0<=n/\n<=1048576*(i:Int)) (by rw[au];omega)
  (λi hi n self hI=>by
   show ny.b0 _ _ _ _=_;unfold ny.b0;have ax:(i:Int) < (xs.length:Int):=by omega
   have hx:=(h2 _ (aU hi)).1;simp only[ax,aG,aH,aK,aI,aC,aB hi,aA]
   rw[a7 (n:=n+_) (by omega)])
  (λi hi n n' hI hs=>by
   injection hs with hs;have hx:=(h2 _ (aU hi)).1
   omega) (λs self _=>by
   show ny.b0 _ _ _ _=_;unfold ny.b0;simp only[aX,aE,aD]
   rfl) 0 (by omega) k (by omega)
 rw[ig] at this;exact this
def vg (xs:List Tx) (i:Nat) (x:Tx):Int:=if gu x.1 1 99 then (if 0 < i then (match xs[i - 1]? with
    | some y=>if x.1<=y.1 then 1 else xJ x
    | none=>1) else xJ x) else 3
def BC (xs:List Tx):Int:=b_ (λi (_:Unit) x=>if vg xs i x=0 then .inr () else .inl (vg xs i x)) (λ_=>(0:Int)) 0 xs ()
def flatK (xs:List Tx):List Key:=xs.flatMap λx=>x.2.2.2.1
def Ct (xs:List Tx):Bool:=decide (flatK xs).Nodup
def BX (xs:List Tx):Int:=if 4 < xs.length then 2 else if BC xs=0 then (if Ct xs then (if 12 < za xs then 2 else 0) else 7) else BC xs
theorem BD (xs:List Tx) (h:BC xs=0):∀ i (hi:i < xs.length),vg xs i xs[i]=0:=by
 have main:∀ (ys:List Tx) (j:Nat),(b_ (λi (_:Unit) x=>if vg xs i x=0 then .inr () else .inl (vg xs i x)) (λ_=>(0:Int)) j ys ())=0->∀ i (hi:i < ys.length),vg xs (j+i) ys[i]=0:=by
  intro ys
  induction ys with
  | nil=>intro j _ i hi;simp at hi
  | cons y ys ih=>
   intro j hf i hi;simp only[b_] at hf;by_cases h0:vg xs j y=0
   ·rw[aM h0] at hf
    cases i with
    | zero=>simpa using h0
    | succ i=>
     have:=ih (j+1) hf i (by simpa using hi);rw[show j+(i+1)=j+1+i by omega]
     simpa using this
   ·rw[aP h0] at hf;exact absurd hf h0
 intro i hi;have:=main xs 0 h i hi
 rwa [cB] at this
theorem DN {xs:List Tx} {i:Nat} {x:Tx} (h:vg xs i x=0):1<=x.1/\xJ x=0/\∀ y,0 < i->xs[i - 1]?=some y->y.1 < x.1:=by
 unfold vg at h;split at h
 ·rename_i hb;simp only[gu,aF,bI] at hb;split at h
  ·rename_i h0;split at h
   ·rename_i y hy;split at h
    ·cases h
    ·exact ⟨hb.1,h,λz _ hz=>by rw[hy] at hz;injection hz with hz;subst hz;omega⟩
   ·cases h
  ·exact ⟨hb.1,h,λy h0=>by omega⟩
 ·cases h
theorem Ur {xs:List Tx} (h:BC xs=0):xs.Pairwise λx y=>x.1 < y.1:=by
 rw[dA];intro i j hi hj ui
 have key:∀ d (hd:i+d+1 < xs.length),(xs[i]).1 < (xs[i+d+1]).1:=by
  intro d
  induction d with
  | zero=>
   intro hd;exact (DN (BD xs h (i+1) hd)).2.2 xs[i] (by omega) (by simp[hi])
  | succ d ih=>
   intro hd;have h1:=ih (by omega);have h2:=(DN (BD xs h (i+d+1+1) hd)).2.2 xs[i+d+1] (by omega) (by rw[eP];exact aB (by omega));exact Int.lt_trans h1 h2
 have:=key (j - i - 1) (by omega);have e:i+(j - i - 1)+1=j:=by omega
 simpa only [e] using this
theorem OX {ks:List Key} (h:xn ks=0):ks.Nodup:=by
 have main:∀ (ys:List Key) (j:Nat),(b_ (λi (_:Unit) k=>if rP ks i k=0 then .inr () else .inl (rP ks i k)) (λ_=>(0:Int)) j ys ())=0->∀ i (hi:i < ys.length),rP ks (j+i) ys[i]=0:=by
  intro ys
  induction ys with
  | nil=>intro j _ i hi;simp at hi
  | cons y ys ih=>
   intro j hf i hi;simp only[b_] at hf;by_cases h0:rP ks j y=0
   ·rw[aM h0] at hf
    cases i with
    | zero=>simpa using h0
    | succ i=>
     have:=ih (j+1) hf i (by simpa using hi);rw[show j+(i+1)=j+1+i by omega]
     simpa using this
   ·rw[aP h0] at hf;exact absurd hf h0
 rw[iA,dA];intro i j hi hj ui e;have h1:=main ks 0 h j hj;rw[cB] at h1;unfold rP at h1;split at h1
 ·split at h1
  ·cases h1
  ·rename_i hn;refine hn (tZ.2 ?_);rw[<-e];exact iC.2 ⟨i,by omega,rfl⟩
 ·cases h1
theorem V6 {x:Tx} (h:xJ x=0):(x.2.2.2.1:List Key).Nodup:=by
 unfold xJ at h;split at h
 ·unfold uo at h;split at h
  ·cases h
  ·split at h
   ·exact OX h
   ·cases h
 ·rename_i hn;exact absurd h hn
end OT
namespace OT
open Go
def A4 (xs:List Tx):Bool:=xs.all λx=>x.2.2.2.1.all λk=>decide (rn xs k=x.1)
theorem V7 {xs:List Tx} (hr:xs.Pairwise λx y=>x.1 < y.1) (hn:∀ x ∈ xs,(x.2.2.2.1:List Key).Nodup):A4 xs=Ct xs:=by
 have main:∀ (xs:List Tx),(xs.Pairwise λx y=>x.1 < y.1)->(∀ x ∈ xs,(x.2.2.2.1:List Key).Nodup)->((∀ x ∈ xs,∀ k ∈ (x.2.2.2.1:List Key),rn xs k=x.1)↔(flatK xs).Nodup):=by
  intro xs
  induction xs with
  | nil=>intro _ _;simp[flatK]
  | cons x xs ih=>
   intro hr hn;obtain ⟨h1,h2⟩:=dT.1 hr;have ih:=ih h2 (λy hy=>hn y (by simp[hy]));have Cb:flatK (x::xs)=x.2.2.2.1++flatK xs:=by simp[flatK]
   rw[Cb,eZ];constructor
   ·intro rJ
    have hd:∀ y ∈ xs,∀ k ∈ (y.2.2.2.1:List Key),k ∉ (x.2.2.2.1:List Key):=λy hy k hk hx=>by
     have e1:=rJ y (by simp[hy]) k hk;simp only[rn,tZ.2 hx,aI] at e1;have:=h1 y hy;omega
    refine ⟨hn x (by simp),ih.1 λy hy k hk=>?_,λa ha b hb e=>?_⟩
    ·have e1:=rJ y (by simp[hy]) k hk
     have:jI x.2.2.2.1 k=false:=by
      cases hh:jI x.2.2.2.1 k with
      | false=>rfl
      | true=>exact absurd (tZ.1 hh) (hd y hy k hk)
     simp only[rn,this,aJ,aO] at e1;exact e1
    ·subst e;obtain ⟨y,hy,hk⟩:=cX.1 hb;exact hd y hy a hk ha
   ·rintro ⟨g1,g2,g3⟩ y hy k hk;rcases bB.1 hy with e | e
    ·subst e;simp only[rn,tZ.2 hk,aI]
    ·have hkf:k ∈ flatK xs:=cX.2 ⟨y,e,hk⟩
     have:jI x.2.2.2.1 k=false:=by
      cases hh:jI x.2.2.2.1 k with
      | false=>rfl
      | true=>exact absurd rfl (g3 k (tZ.1 hh) k hkf)
     simp only[rn,this,aJ,aO];exact ih.2 g2 y e k hk
 have hm:=main xs hr hn;unfold A4 Ct;rw[iM];simp only[bK,bI];exact hm
theorem NE (xs:List Tx) (h:BB xs):fu.ab (xs,())=some (A4 xs,()):=by
 have ht:=h;obtain ⟨h1,h2⟩:=h;refine ag (k:=1048577) λk hk=>(fu.ae k _).trans ?_
 have inner:∀ (self:((List Tx)×Int)->Option fu.Out) (e0:Unit->Option fu.Out) (i:Nat) (hi:i < xs.length),fu.r1 k self e0 (xs,()) xs (i:Int) (0:Int)=if (xs[i]).2.2.2.1.any (λy=>!decide (rn xs y=(xs[i]).1)) then some (false,()) else self (xs,af ((i:Int)+1)):=λself e0 i hi=>by
  have htx:=h2 _ (aU hi);have hlk:=htx.2.2.1
  have:=dz (B:=λgk v=>fu.b1 gk (λz=>fu.q0 self e0 (xs,()) xs (i:Int) z) (xs,()) xs (i:Int) v) (xs[i]).2.2.2.1 (λ(_:Unit) (j:Int)=>j) (λ_ _ y=>if !decide (rn xs y=(xs[i]).1) then .inl (some (false,())) else .inr ()) (λ_=>self (xs,af ((i:Int)+1))) (λ_ _=>True) (by rw[au];omega)
   (λj hj s gk _=>by
    show fu.b1 _ _ _ _ _ _=_;unfold fu.b1;have ax:(j:Int) < (List.length (xs[i]).2.2.2.1:Int):=by omega
    simp only[aK,aI,aC,aB hi,aA,ax,aG,aH,aB hj,OW xs _ ht]
    cases decide (rn xs ((xs[i]).2.2.2.1)[j]=(xs[i]).1) <;> rfl)
   (λ_ _ _ _ _ _=>trivial) (λs gk _=>by
    show fu.b1 _ _ _ _ _ _=_;unfold fu.b1;simp only[aK,aI,aC,aB hi,aA,aX,aE,aD]
    rfl) () trivial k (by omega)
  rw[xV] at this;exact this
 have:=da (B:=λself v=>fu.B0 k self (λz=>fu.q1 (xs,()) z) (xs,()) v) xs (λ(_:Unit) (i:Int)=>(xs,i)) (λ_ _ x=>if x.2.2.2.1.all (λy=>decide (rn xs y=x.1)) then .inr () else .inl (false,())) (λ_=>(true,())) (λ_ _=>True) (by rw[au];omega)
  (λi hi s self _=>by
   show fu.b0 _ _ _ _ _=_;unfold fu.b0;have ax:(i:Int) < (xs.length:Int):=by omega
   simp only[ax,aG,aH];rw[inner self _ i hi];have:(xs[i]).2.2.2.1.any (λy=>!decide (rn xs y=(xs[i]).1))=!(xs[i]).2.2.2.1.all (λy=>decide (rn xs y=(xs[i]).1)):=by rw[List.not_all_eq_any_not]
   rw[this]
   cases (xs[i]).2.2.2.1.all (λy=>decide (rn xs y=(xs[i]).1)) <;> rfl)
  (λ_ _ _ _ _ _=>trivial) (λs self _=>by
   show fu.b0 _ _ _ _ _=_;unfold fu.b0;simp only[aX,aE,aD]
   rfl) () trivial k (by omega)
 rw[so (λ(x:Tx)=>x.2.2.2.1.all (λy=>decide (rn xs y=x.1))) (false,()) (λ_=>(true,()))] at this;refine aQ this ?_;unfold A4;cases xs.all λx=>x.2.2.2.1.all (λy=>decide (rn xs y=x.1)) <;> rfl
def kx (S:List Key):List (Key×Bool):=S.map λk=>(k,true)
theorem OY {α:Type} (k:Ty) (e:k.den×α) (m:List (k.den×α)) (x:k.den):jQ k (e::m) x=if k.eq x e.1 then some e.2 else jQ k m x:=by
 unfold jQ;rw[gS];cases k.eq x e.1 <;> rfl
theorem Sc {α:Type} (k:Ty) (m:List (k.den×α)) (x:k.den) (y:α) (h:∀ e ∈ m,k.eq x e.1=false):oV k m x y=m++[(x,y)]:=by
 have:m.findIdx? (λe=>k.eq x e.1)=none:=by
  rw[fW];intro e he;exact h e he
 unfold oV;rw[this]
theorem Gx (S:List Key) (k:Key):jQ be (kx S) k=if jI S k then some true else none:=by
 induction S with
 | nil=>rfl
 | cons s S ih=>
  refine (OY be (s,true) (kx S) k).trans ?_;have hk:be.eq k (s,true).1=decide (k=s):=Dn k s;rw[hk];have hc:jI (s::S) k=(decide (s=k)||jI S k):=rfl;rw[hc];by_cases h:k=s
  ·have h2:s=k:=h.symm;simp[h2]
  ·have h2:¬ s=k:=λe=>h e.symm;simp only[h,h2,aE,cZ,aJ,aO];exact ih
theorem V8 (S:List Key) (k:Key):A7 (jQ be (kx S) k) false=jI S k:=by
 refine aQ (cP (λo=>A7 o false) (Gx S k)) ?_;cases jI S k <;> rfl
theorem NF {S:List Key} {k:Key} (h:jI S k=false):oV be (kx S) k true=kx (S++[k]):=by
 refine (Sc be (kx S) k true λe he=>?_).trans ?_
 ·obtain ⟨s,hs,rfl⟩:=eX.1 he;have hk:be.eq k (s,true).1=decide (k=s):=Dn k s;rw[hk];simp only[jI,List.any_eq_false,bI] at h;have:=h s hs;simp only[eG];exact λe=>this e.symm
 ·simp only[kx,eS,cY,fU];rfl
def getM (m:List (Key×Bool)) (k:Key):Bool:=A7 (jQ be m k) false
def s7 (m:List (Key×Bool)) (k:Key):List (Key×Bool):=oV be m k true
def tq:List (Key×Bool)->List Key->Option (List (Key×Bool))
 | m,[]=>some m
 | m,k::ks=>if getM m k then none else tq (s7 m k) ks
theorem Gy:∀ (m:List (Key×Bool)) (a b:List Key),tq m (a++b)=(tq m a).bind λm'=>tq m' b
 | m,[],b=>rfl
 | m,k::a,b=>by
  simp only[cL,tq];split
  ·rfl
  ·exact Gy _ a b
theorem KB:∀ (ks S:List Key),S.Nodup->tq (kx S) ks=if (S++ks).Nodup then some (kx (S++ks)) else none
 | [],S,h=>by simp[tq,h]
 | k::ks,S,h=>by
  have hg:getM (kx S) k=jI S k:=V8 S k;simp only[tq,hg]
  cases hh:jI S k with
  | true=>
   have:¬ (S++k::ks).Nodup:=λhn=>by
    rw[eZ] at hn;exact hn.2.2 k (tZ.1 hh) k (by simp) rfl
   simp[this]
  | false=>
   have hk:k ∉ S:=λhm=>by rw[tZ.2 hm] at hh;cases hh
   simp only[aJ,aO];have hp:s7 (kx S) k=kx (S++[k]):=NF hh;rw[hp,KB ks (S++[k]) (by rw[eZ];exact ⟨h,by simp,λa ha b hb e=>by simp at hb;subst hb;subst e;exact hk ha⟩)];simp only[bN,cL,bO]
theorem KC {O:Type} (bad:Option O) (E:List (Key×Bool)->Option O):∀ (ks:List Key) (i:Nat) (m:List (Key×Bool)),b_ (λ_ m k=>if getM m k then .inl bad else .inr (s7 m k)) E i ks m=match tq m ks with | none=>bad | some m'=>E m'
 | [],_,_=>rfl
 | k::ks,i,m=>by
  simp only[b_,tq];by_cases h:getM m k=true
  ·simp[h]
  ·simp only[h,aO];exact KC bad E ks _ _
theorem IR {O:Type} (bad:Option O) (E:Option O):∀ (xs:List Tx) (i:Nat) (m:List (Key×Bool)),b_ (λ_ m x=>match tq m x.2.2.2.1 with | none=>.inl bad | some m'=>.inr m') (λ_=>E) i xs m=match tq m (flatK xs) with | none=>bad | some _=>E
 | [],_,_=>rfl
 | x::xs,i,m=>by
  have Cb:flatK (x::xs)=x.2.2.2.1++flatK xs:=by simp[flatK]
  rw[Cb,Gy];simp only[b_]
  cases h:tq m x.2.2.2.1 with
  | none=>rfl
  | some m'=>
   simp only[aA];exact IR bad E xs _ _
theorem Sd (xs:List Tx) (h:BB xs):ct.ab (xs,())=some (BX xs,()):=by
 have ht:=h;obtain ⟨h1,h2⟩:=h;refine ag (k:=1048577) λk hk=>(ct.ae k _).trans ?_;unfold ct.p BX;by_cases h4:4 < xs.length
 ·have:(4:Int) < (xs.length:Int):=by omega
  simp only[this,h4,aG,aH,aI]
  (try rfl)
 have h4':¬ (4:Int) < (xs.length:Int):=by omega
 simp only[h4,h4',aE,aD,aO]
 have last:ct.q2 (xs,()) xs=some (if 12 < za xs then 2 else 0,()):=by
  show ct.q2 _ _=_;unfold ct.q2;simp only[ND xs ht,aA];by_cases hc:12 < za xs <;> simp[hc]
 have inner:∀ (self:((List Tx)×(List (Key×Bool))×(List Tx)×Int×Int)->Option ct.Out) (e2:List Tx->Option ct.Out) (i:Nat) (hi:i < xs.length) (m:List (Key×Bool)),ct.r2 k self e2 (xs,()) xs xs (xs.length:Int) (i:Int) (xs[i]).2.2.2.1 (List.length (xs[i]).2.2.2.1:Int) (m,(0:Int))=match tq m (xs[i]).2.2.2.1 with | none=>some ((7:Int),()) | some m'=>self (xs,m',xs,(xs.length:Int),af ((i:Int)+1)):=λself e2 i hi m=>by
  have hlk:=(h2 _ (aU hi)).2.2.1
  have:=dz (B:=λgk v=>ct.b2 gk (λz=>ct.q1 self e2 (xs,()) xs xs (xs.length:Int) (i:Int) (xs[i]).2.2.2.1 (List.length (xs[i]).2.2.2.1:Int) z) (xs,()) xs xs (xs.length:Int) (i:Int) (xs[i]).2.2.2.1 (List.length (xs[i]).2.2.2.1:Int) v) (xs[i]).2.2.2.1 (λ(m:List (Key×Bool)) (j:Int)=>(m,j)) (λ_ m y=>if getM m y then .inl (some ((7:Int),())) else .inr (s7 m y)) (λm=>self (xs,m,xs,(xs.length:Int),af ((i:Int)+1))) (λ_ _=>True) (by rw[au];omega)
   (λj hj s gk _=>by
    show ct.b2 _ _ _ _ _ _ _ _ _ _=_;unfold ct.b2;have ax:(j:Int) < (List.length (xs[i]).2.2.2.1:Int):=by omega
    simp only[ax,aG,aH,aK,aI,aC,aB hj,aA];show (bif getM s ((xs[i]).2.2.2.1)[j] then some ((7:Int),()) else gk (s7 s ((xs[i]).2.2.2.1)[j],af ((j:Int)+1)))=_
    cases getM s ((xs[i]).2.2.2.1)[j] <;> rfl)
   (λ_ _ _ _ _ _=>trivial) (λs gk _=>by
    show ct.b2 _ _ _ _ _ _ _ _ _ _=_;unfold ct.b2;simp only[aX,aE,aD]
    rfl) m trivial k (by omega)
  rw[KC] at this;exact this
 have apart:ct.Q0 k (xs,()) ()=some (if Ct xs then (if 12 < za xs then 2 else 0) else 7,()):=by
  have:=dz (B:=λself v=>ct.B1 k self (λz=>ct.q2 (xs,()) z) (xs,()) v) xs (λ(m:List (Key×Bool)) (i:Int)=>(xs,m,xs,(xs.length:Int),i)) (λ_ m x=>match tq m x.2.2.2.1 with | none=>.inl (some ((7:Int),())) | some m'=>.inr m') (λ_=>some (if 12 < za xs then 2 else 0,())) (λ_ _=>True) (by rw[au];omega)
   (λi hi m self _=>by
    show ct.b1 _ _ _ _ _=_;unfold ct.b1;have ax:(i:Int) < (xs.length:Int):=by omega
    simp only[ax,aG,aH,aK,aI,aC,aB hi,aA];rw[inner self _ i hi m]
    cases tq m (xs[i]).2.2.2.1 <;> rfl)
   (λ_ _ _ _ _ _=>trivial) (λs self _=>by
    show ct.b1 _ _ _ _ _=_;unfold ct.b1;simp only[aX,aE,aD]
    exact last) (kx []) trivial k (by omega)
  rw[IR,KB _ _ gF] at this;refine aQ this ?_;unfold Ct;simp only[bO];by_cases hn:(flatK xs).Nodup <;> simp[hn]
 have:=dz (B:=λself v=>ct.b0 self (λz=>ct.Q0 k (xs,()) z) (xs,()) v) xs (λ(_:Unit) (i:Int)=>i) (λi _ x=>if vg xs i x=0 then .inr () else .inl (some (vg xs i x,()))) (λ_=>some (if Ct xs then (if 12 < za xs then 2 else 0) else 7,())) (λ_ _=>True) (by rw[au];omega)
  (λi hi s self _=>by
   show ct.b0 _ _ _ _=_;unfold ct.b0 vg;have ax:(i:Int) < (xs.length:Int):=by omega
   simp only[ax,aG,aH,aK,aI,aC,aB hi,aA,Ju,Sa _ (h2 _ (aU hi))];show (bif !gu (xs[i]).1 1 99 then _ else _)=_
   cases gu (xs[i]).1 1 99 with
   | false=>rfl
   | true=>
    simp only[aN,aD,aI];by_cases h0:i=0
    ·subst h0;have hz:¬ (0:Int) < ((0:Nat):Int):=by omega
     simp only[hz,aE,aD,Nat.lt_irrefl,aO];by_cases hc:xJ xs[0]=0
     ·simp only[hc,aG,aN,aD,aI]
     ·simp only[hc,aE,bA,aH,aO]
    ·have Il:i - 1 < xs.length:=by omega
     have hp:(0:Int) < (i:Int):=by omega
     have hp2:0 < i:=by omega
     simp only[hp,hp2,aG,aH,Dm (show 0 < i by omega) (by rw[au];omega),aK,aI,aC,aB Il,aA];by_cases hle:(xs[i]).1<=(xs[i - 1]).1
     ·simp only[hle,aG,aH,aI];rfl
     ·simp only[hle,aE,aD,aO];by_cases hc:xJ xs[i]=0
      ·simp only[hc,aG,aN,aD,aI]
      ·simp only[hc,aE,bA,aH,aO])
  (λ_ _ _ _ _ _=>trivial) (λs self _=>by
   show ct.b0 _ _ _ _=_;unfold ct.b0;simp only[aX,aE,aD]
   exact apart) () trivial k (by omega)
 rw[zF (vg xs)] at this;refine aQ this ?_;unfold BC;split <;> rfl
theorem Se (xs:List Tx) (h:BB xs):jf.ab (xs,())=some (BX xs,()):=by
 have ht:=h;obtain ⟨h1,h2⟩:=h;refine ag (k:=1048577) λk hk=>(jf.ae k _).trans ?_;unfold jf.p BX;by_cases h4:4 < xs.length
 ·have:(4:Int) < (xs.length:Int):=by omega
  simp only[this,h4,aG,aH,aI]
  (try rfl)
 have h4':¬ (4:Int) < (xs.length:Int):=by omega
 simp only[h4,h4',aE,aD,aO]
 have last:jf.q0 (xs,()) ()=some (if A4 xs then (if 12 < za xs then 2 else 0) else 7,()):=by
  show jf.q0 _ _=_;unfold jf.q0;simp only[NE xs ht,NC xs ht,aA]
  cases A4 xs with
  | false=>rfl
  | true=>by_cases hc:12 < za xs <;> simp[hc]
 have:=dz (B:=λself v=>jf.b0 self (λz=>jf.q0 (xs,()) z) (xs,()) v) xs (λ(_:Unit) (i:Int)=>i) (λi _ x=>if vg xs i x=0 then .inr () else .inl (some (vg xs i x,()))) (λ_=>some (if A4 xs then (if 12 < za xs then 2 else 0) else 7,())) (λ_ _=>True) (by rw[au];omega)
  (λi hi s self _=>by
   show jf.b0 _ _ _ _=_;unfold jf.b0 vg;have ax:(i:Int) < (xs.length:Int):=by omega
   simp only[ax,aG,aH,aK,aI,aC,aB hi,aA,nX,OE _ (h2 _ (aU hi)),MV _ (h2 _ (aU hi))]
   have hj:(bif !decide (Bs xs[i]=0) then some (Bs xs[i],()) else bif !decide (uo xs[i]=0) then some (uo xs[i],()) else self (af ((i:Int)+1)))=match (generalizing:=false) (if xJ xs[i]=0 then .inr () else .inl (some (xJ xs[i],())):Sum (Option (Int×Unit)) Unit) with | .inl o=>o | .inr _=>self (af ((i:Int)+1)):=by
    unfold xJ;by_cases hu:Bs xs[i]=0
    ·simp only[hu,aG,aN,aD,aI];by_cases hm:uo xs[i]=0
     ·simp only[hm,aG,aN,aD,aI]
     ·simp only[hm,aE,bA,aH,aO]
    ·simp only[hu,aE,bA,aH,aO]
   show (bif !gu (xs[i]).1 1 99 then _ else _)=_
   cases gu (xs[i]).1 1 99 with
   | false=>rfl
   | true=>
    simp only[aN,aD,aI];by_cases h0:i=0
    ·subst h0;have hz:¬ (0:Int) < ((0:Nat):Int):=by omega
     simp only[hz,aE,aD,Nat.lt_irrefl,aO];refine hj.trans ?_;by_cases hc:xJ xs[0]=0 <;> simp only[hc,aI,aO]
    ·have Il:i - 1 < xs.length:=by omega
     have hp:(0:Int) < (i:Int):=by omega
     have hp2:0 < i:=by omega
     simp only[hp,hp2,aG,aH,Dm (show 0 < i by omega) (by rw[au];omega),aK,aI,aC,aB Il,aA];by_cases hle:(xs[i]).1<=(xs[i - 1]).1
     ·simp only[hle,aG,aH,aI];rfl
     ·simp only[hle,aE,aD,aO];refine hj.trans ?_
      by_cases hc:xJ xs[i]=0 <;> simp only[hc,aI,aO])
  (λ_ _ _ _ _ _=>trivial) (λs self _=>by
   show jf.b0 _ _ _ _=_;unfold jf.b0;simp only[aX,aE,aD]
   exact last) () trivial k (by omega)
 rw[zF (vg xs)] at this;refine aQ this ?_;show (if BC xs=0 then _ else some (BC xs,()))=_;by_cases he:BC xs=0
 ·rw[aM he,aM he,V7 (Ur he) (λx hx=>by
   obtain ⟨i,hi,rfl⟩:=cV.1 hx
   exact V6 (DN (BD xs he i hi)).2.1)]
 ·rw[aP he,aP he]
end OT
namespace OT
open Go
def dd (S:List Key) (ks:List Key):List Key:=ks.foldl (λS k=>if jI S k then S else S++[k]) S
def vE (rows:List Row):List Key:=rows.map λr=>(r.1,r.2.1,())
def yt (rows:List Row) (xs:List Tx):List Key:=vE rows++flatK xs
theorem OZ {α:Type} (k:Ty) (m:List (k.den×α)) (x:k.den) (y:α) {i:Nat} (h:m.findIdx? (λe=>k.eq x e.1)=some i):oV k m x y=m.set i (x,y):=by
 grind [oV]
theorem Us {S:List Key} {k:Key} (h:jI S k=true):s7 (kx S) k=kx S:=by
 have key:∀ (S:List Key) (i:Nat),(kx S).findIdx? (λe=>Ty.eq be k e.1)=some i->(kx S)[i]?=some (k,true):=by
  intro S i hi;have h1:=eK.1 hi;grind [kx,Dn]
 show oV be (kx S) k true=kx S
 cases hf:(kx S).findIdx? (λe=>Ty.eq be k e.1) with
 | none=>
  exfalso
  have h1:jQ be (kx S) k=none:=by
   unfold jQ;have h2:=fW.1 hf;have:(kx S).find? (λe=>Ty.eq be k e.1)=none:=eQ.2 λe he=>by grind
   exact cP _ this
  grind [Gx]
 | some i=>
  have h1:=key S i hf;have ax:=(aR.1 h1).1;refine (OZ be (kx S) k true hf).trans ?_;show (kx S).set i (k,true)=kx S;grind [List.set_getElem_self]
theorem V9 (S:List Key) (k:Key):s7 (kx S) k=kx (if jI S k then S else S++[k]):=by
 cases h:jI S k with
 | true=>grind [Us]
 | false=>simp only[aJ,aO];exact NF h
theorem P9:∀ (ks S:List Key),ks.foldl s7 (kx S)=kx (dd S ks)
 | [],S=>rfl
 | k::ks,S=>by
  rw[eU,V9,P9 ks];rfl
theorem Ut (S a b:List Key):dd S (a++b)=dd (dd S a) b:=List.foldl_append
theorem Uu:∀ (ks S:List Key),S.length<=(dd S ks).length
 | [],S=>aL _
 | x::ks,S=>by
  refine bL ?_ (Uu ks (if jI S x then S else S++[x]));grind
theorem NG:∀ (ks S:List Key),(S++ks).Nodup->dd S ks=S++ks
 | [],S,_=>by simp[dd]
 | x::ks,S,h=>by
  have hx:jI S x=false:=by
   grind [jI]
  show dd (if jI S x then S else S++[x]) ks=_;rw[hx];simp only[aJ,aO];rw[NG ks (S++[x]) (by simpa using h)];simp
theorem O0 {rows:List Row} (h:up rows):(vE rows).Nodup:=by
 unfold vE;rw[iA,gG];refine h.imp λ{a b} hab e=>?_;grind [rk,sV]
theorem KD {rows:List Row} {xs:List Tx} (h:up rows):rows.length<=(dd [] (yt rows xs)).length:=by
 unfold yt;rw[Ut,NG (vE rows) [] (by simpa using O0 h)];refine bL ?_ (Uu _ _);simp[vE]
def Fg:List Key->List Key->Nat
 | _,[]=>0
 | S,k::ks=>(if jI S k then 0 else 1)+Fg (S++[k]) ks
theorem JI:∀ (ks S T:List Key),(∀ k,k ∈ S↔k ∈ T)->(dd S ks).length=S.length+Fg T ks
 | [],S,T,_=>rfl
 | x::ks,S,T,h=>by
  have hx:jI S x=jI T x:=by grind [tZ]
  show (dd (if jI S x then S else S++[x]) ks).length=_;simp only[Fg,<- hx]
  cases hh:jI S x with
  | true=>
   simp only[aI];rw[JI ks S (T++[x]) λk=>?_]
   ·omega
   ·simp only[bU,bJ,<- h k];constructor
    ·exact .inl
    ·rintro (h1 | h1)
     ·exact h1
     ·subst h1;exact tZ.1 hh
  | false=>
   simp only[aJ,aO];rw[JI ks (S++[x]) (T++[x]) λk=>by grind];grind
def zG (rows:List Row) (xs:List Tx):Nat:=(dd [] (yt rows xs)).length
theorem Uv (rows:List Row) (xs:List Tx) (hr:rows.length<=1048576) (h:BB xs):ey.ab (rows,xs,())=some (kx (dd [] (yt rows xs)),()):=by
 obtain ⟨h1,h2⟩:=h;refine ag (k:=1048577) λk hk=>(ey.ae k _).trans ?_
 have inner:∀ (self:((List (Key×Bool))×(List Tx)×Int×Int)->Option ey.Out) (e2:(List (Key×Bool))->Option ey.Out) (i:Nat) (hi:i < xs.length) (m:List (Key×Bool)),ey.r2 k self e2 (rows,xs,()) xs (xs.length:Int) (i:Int) (xs[i]).2.2.2.1 (List.length (xs[i]).2.2.2.1:Int) (m,(0:Int))=self ((xs[i]).2.2.2.1.foldl s7 m,xs,(xs.length:Int),af ((i:Int)+1)):=λself e2 i hi m=>by
  have hlk:=(h2 _ (aU hi)).2.2.1
  have:=dz (B:=λgk v=>ey.b2 gk (λz=>ey.q1 self e2 (rows,xs,()) xs (xs.length:Int) (i:Int) (xs[i]).2.2.2.1 (List.length (xs[i]).2.2.2.1:Int) z) (rows,xs,()) xs (xs.length:Int) (i:Int) (xs[i]).2.2.2.1 (List.length (xs[i]).2.2.2.1:Int) v) (xs[i]).2.2.2.1 (λ(m:List (Key×Bool)) (j:Int)=>(m,j)) (λ_ m y=>.inr (s7 m y)) (λm=>self (m,xs,(xs.length:Int),af ((i:Int)+1))) (λ_ _=>True) (by rw[au];omega)
   (λj hj s gk _=>by
    show ey.b2 _ _ _ _ _ _ _ _ _=_;unfold ey.b2;have ax:(j:Int) < (List.length (xs[i]).2.2.2.1:Int):=by omega
    simp only[ax,aG,aH,aK,aI,aC,aB hj,aA]
    rfl)
   (λ_ _ _ _ _ _=>trivial) (λs gk _=>by
    show ey.b2 _ _ _ _ _ _ _ _ _=_;unfold ey.b2;simp only[aX,aE,aD]
    rfl) m trivial k (by omega)
  rw[ig (g:=s7)] at this;exact this
 have second:∀ m,ey.r1 k (rows,xs,()) (m,xs,(xs.length:Int),(0:Int))=some ((flatK xs).foldl s7 m,()):=λm=>by
  have:=da (B:=λself v=>ey.B1 k self (λz=>ey.q2 (rows,xs,()) z) (rows,xs,()) v) xs (λ(m:List (Key×Bool)) (i:Int)=>(m,xs,(xs.length:Int),i)) (λ_ m x=>.inr (x.2.2.2.1.foldl s7 m)) (λm=>(m,())) (λ_ _=>True) (by rw[au];omega)
   (λi hi m self _=>by
    show ey.b1 _ _ _ _ _=_
    grind [ey.b1])
   (λ_ _ _ _ _ _=>trivial) (λs self _=>by
    show ey.b1 _ _ _ _ _=_;unfold ey.b1;simp only[aX,aE,aD]
    rfl) m trivial k (by omega)
  rw[ig (g:=λm (x:Tx)=>x.2.2.2.1.foldl s7 m)] at this;refine aQ this ?_
  have:∀ (xs:List Tx) (m:List (Key×Bool)),xs.foldl (λm (x:Tx)=>x.2.2.2.1.foldl s7 m) m=(flatK xs).foldl s7 m:=by
   intro xs
   induction xs <;> grind [flatK]
  rw[this]
 have:=dz (B:=λself v=>ey.b0 self (λz=>ey.Q0 k (rows,xs,()) z) (rows,xs,()) v) rows (λ(m:List (Key×Bool)) (i:Int)=>(m,i)) (λ_ m r=>.inr (s7 m (r.1,r.2.1,()))) (λm=>some ((flatK xs).foldl s7 m,())) (λ_ _=>True) (by rw[au];omega)
  (λi hi m self _=>by
   show ey.b0 _ _ _ _=_;unfold ey.b0;have ax:(i:Int) < (rows.length:Int):=by omega
   simp only[ax,aG,aH,aK,aI,aC,aB hi,aA]
   rfl)
  (λ_ _ _ _ _ _=>trivial) (λs self _=>by
   show ey.b0 _ _ _ _=_;unfold ey.b0;simp only[aX,aE,aD]
   exact second s) (kx []) trivial k (by omega)
 rw[ig (g:=λm (r:Row)=>s7 m (r.1,r.2.1,()))] at this;refine aQ this ?_;have e1:rows.foldl (λm (r:Row)=>s7 m (r.1,r.2.1,())) (kx [])=(vE rows).foldl s7 (kx []):=by unfold vE;rw[List.foldl_map]
 grind [P9,yt]
theorem Gz {O:Type} (x:Key) (E:Bool->Option O):∀ (ys:List Key) (j:Nat) (b:Bool),b_ (λ_ b y=>if b then .inr (!decide (y=x)) else .inl (E false)) E j ys b=if b then E (!jI ys x) else E false
 | [],_,b=>by cases b <;> rfl
 | y::ys,j,b=>by
  cases b with
  | false=>simp[b_]
  | true=>
   simp only[b_,aI];rw[Gz x E ys];grind [jI]
theorem NH {O:Type} (all:List Key) (E:Int->O):∀ (ys pre:List Key) (n:Int),all=pre++ys->b_ (λi n x=>.inr (if jI (all.take i) x then n else n+1)) E pre.length ys n=E (n+(Fg pre ys:Int))
 | [],pre,n,_=>by simp[b_,Fg]
 | y::ys,pre,n,h=>by
  simp only[b_];have ht:all.take pre.length=pre:=by rw[h];simp
  rw[ht];have:=NH all E ys (pre++[y]) (if jI pre y then n else n+1) (by rw[h];simp);grind [Fg]
def KE (k:Key):List Key:=if k.2.1=0 then [] else [k]
def Sf (rows:List Row) (xs:List Tx) (k:Key):Nat:=(dd [] (yt rows xs++KE k)).length
theorem NI (rows:List Row) (xs:List Tx) (kk:Key) (hr:rows.length<=1048576) (hx:xs.length<=1000) (h:∀ x ∈ xs,List.length x.2.2.2.1<=1000):cc.ab (rows,xs,kk,())=some ((Sf rows xs kk:Int),()):=by
 refine ag (k:=3000000) λk hk=>(cc.ae k _).trans ?_
 have Cb:(flatK xs).length<=1000*xs.length:=by
  clear hx
  induction xs <;> grind [flatK]
 have Sb:∀ all:List Key,all.length<=2100000->cc.r2 k (rows,xs,kk,()) (all,(0:Int),(0:Int))=some ((Fg [] all:Int),()):=λall rJ=>by
  have inner:∀ (self:((List Key)×Int×Int)->Option cc.Out) (e4:Int->Option cc.Out) (i:Nat) (hi:i < all.length) (n:Int),cc.r3 k self e4 (rows,xs,kk,()) all n (i:Int) (true,(0:Int))=if jI (all.take i) all[i] then self (all,n,af ((i:Int)+1)) else self (all,af (n+1),af ((i:Int)+1)):=λself e4 i hi n=>by
   have kG:(all.take i).length=i:=by simp;omega
   have:=dz (B:=λgk v=>cc.b3 gk (λz=>cc.q2 self e4 (rows,xs,kk,()) all n (i:Int) z) (rows,xs,kk,()) all n (i:Int) v) (all.take i) (λ(b:Bool) (j:Int)=>(b,j)) (λ_ b y=>if b then .inr (!decide (y=all[i])) else .inl (if false then self (all,af (n+1),af ((i:Int)+1)) else self (all,n,af ((i:Int)+1)))) (λb=>if b then self (all,af (n+1),af ((i:Int)+1)) else self (all,n,af ((i:Int)+1))) (λ_ _=>True) (by rw[au];omega)
    (λj hj b gk _=>by
     show cc.b3 _ _ _ _ _ _ _=_;unfold cc.b3;rw[kG] at hj;have ax:(j:Int) < (i:Int):=by omega
     have PA:j < all.length:=by omega
     have c1:(0:Int)<=(j:Int)/\(j:Int) < (all.length:Int):=by omega
     have c2:(0:Int)<=(i:Int)/\(i:Int) < (all.length:Int):=by omega
     simp only[ax,c1,c2,bR,aG,aH,aI,aC,aB PA,aB hi,aA,Dn,List.getElem_take]
     cases b <;> rfl)
    (λ_ _ _ _ _ _=>trivial) (λb gk _=>by
     show cc.b3 _ _ _ _ _ _ _=_;unfold cc.b3;simp only[kG,aX,aE,aD]
     cases b <;> rfl) true trivial k (by omega)
   have e:=Gz all[i] (λb=>if b then self (all,af (n+1),af ((i:Int)+1)) else self (all,n,af ((i:Int)+1))) (all.take i) 0 true;refine (aQ this e).trans ?_;grind
  have:=da (B:=λself v=>cc.B2 k self (λz=>cc.q3 (rows,xs,kk,()) z) (rows,xs,kk,()) v) all (λ(n:Int) (i:Int)=>(all,n,i)) (λi n x=>.inr (if jI (all.take i) x then n else n+1)) (λn=>(n,())) (λi n=>0<=n/\n<=(i:Int)) (by rw[au];omega)
   (λi hi n self hI=>by
    show cc.b2 _ _ _ _ _=_
    grind [cc.b2,a7])
   (λi hi n n' hI hs=>by
    grind) (λs self _=>by
    show cc.b2 _ _ _ _ _=_;unfold cc.b2;simp only[aX,aE,aD]
    rfl) 0 (by omega) k (by omega)
  have e:=NH all (λn=>(n,())) all [] 0 rfl;refine (aQ this (cP some e)).trans ?_;rw[Int.zero_add]
 have second:cc.r1 k (rows,xs,kk,()) (vE rows,(0:Int))=some ((Fg [] (yt rows xs++KE kk):Int),()):=by
  have yy:(vE rows).length=rows.length:=by simp[vE]
  have:=dz (B:=λself v=>cc.b1 self (λz=>cc.Q1 k (rows,xs,kk,()) z) (rows,xs,kk,()) v) xs (λ(s:List Key) (i:Int)=>(s,i)) (λ_ s x=>.inr (s++x.2.2.2.1)) (λs=>cc.r2 k (rows,xs,kk,()) (s++KE kk,(0:Int),(0:Int))) (λi s=>s.length<=1048576+1000*i) (by rw[au];omega)
   (λi hi s self hI=>by
    grind [cc.b1,dn,Int.natCast_nonneg])
   (λi hi s s' hI hs=>by
    grind) (λs self hI=>by
    show cc.b1 _ _ _ _=_;unfold cc.b1;simp only[aX,aE,aD];show cc.q1 _ _ _=_
    grind [cc.q1,KE,dn]) (vE rows) (by omega) k (by omega)
  rw[ig (g:=λs (x:Tx)=>s++x.2.2.2.1)] at this;refine aQ this ?_
  have e:∀ (xs:List Tx) (s:List Key),xs.foldl (λs (x:Tx)=>s++x.2.2.2.1) s=s++flatK xs:=by
   intro xs
   induction xs <;> grind [flatK]
  rw[e];have hex:(KE kk).length<=1:=by grind [KE]
  exact Sb _ (by grind)
 have:=dz (B:=λself v=>cc.b0 self (λz=>cc.Q0 k (rows,xs,kk,()) z) (rows,xs,kk,()) v) rows (λ(s:List Key) (i:Int)=>(s,i)) (λ_ s r=>.inr (s++[(r.1,r.2.1,())])) (λs=>cc.r1 k (rows,xs,kk,()) (s,(0:Int))) (λi s=>s.length=i) (by rw[au];omega)
  (λi hi s self hI=>by
   grind [cc.b0,dn,Int.natCast_nonneg])
  (λi hi s s' hI hs=>by grind) (λs self _=>by
   show cc.b0 _ _ _ _=_;unfold cc.b0;simp only[aX,aE,aD]
   rfl) [] rfl k (by omega)
 rw[ig (g:=λs (r:Row)=>s++[(r.1,r.2.1,())])] at this
 have e:∀ (rows:List Row) (s:List Key),rows.foldl (λs (r:Row)=>s++[(r.1,r.2.1,())]) s=s++vE rows:=by
  intro rows
  induction rows <;> grind [vE]
 rw[e,bO,second] at this;refine aQ this ?_;have:=JI (yt rows xs++KE kk) [] [] (λ_=>iH);grind [Sf]
theorem O1 (rows:List Row) (xs:List Tx) (hr:rows.length<=1048576) (hx:xs.length<=1000) (h:∀ x ∈ xs,List.length x.2.2.2.1<=1000):cc.ab (rows,xs,((0:Int),(0:Int),()),())=some ((zG rows xs:Int),()):=by
 rw[NI rows xs _ hr hx h];unfold Sf KE;simp only[aI,cI];rfl
theorem Uw {ks:List Key} (h:xn ks=0):∀ k ∈ ks,yj k=true:=by
 have main:∀ (ys:List Key) (j:Nat),(b_ (λi (_:Unit) k=>if rP ks i k=0 then .inr () else .inl (rP ks i k)) (λ_=>(0:Int)) j ys ())=0->∀ y ∈ ys,yj y=true:=by
  intro ys
  induction ys <;> grind [b_,rP]
 exact main ks 0 h
structure Sg (xs:List Tx):Prop where
 len:xs.length<=4
 ch:∀ x ∈ xs,∀ c ∈ (x.2.1:List Change),oO c=0
 abe:∀ x ∈ xs,List.length x.2.2.2.1<=12
 vI:∀ x ∈ xs,List.length x.2.1<=12
 keys:∀ x ∈ xs,∀ k ∈ (x.2.2.2.1:List Key),yj k=true
theorem GA {α:Type} {c:α->Int}:∀ {xs:List α},ng c xs=0->∀ x ∈ xs,c x=0
 | [],_,_,h=>by cases h
 | y::ys,h,x,hx=>by
  simp only[ng] at h;split at h
  ·rcases bB.1 hx with e | e
   ·subst e;assumption
   ·exact GA h x e
  grind
theorem P_:∀ (xs:List Tx) (n:Int),0<=n->n<=xs.foldl (λn x=>n+(List.length x.2.1:Int)) n/\∀ x ∈ xs,(List.length x.2.1:Int)<=xs.foldl (λn x=>n+(List.length x.2.1:Int)) n
 | [],n,h=>⟨iE _,λx hx=>by cases hx⟩
 | y::ys,n,h=>by
  obtain ⟨h1,h2⟩:=P_ ys (n+(List.length y.2.1:Int)) (by omega);grind
theorem Ux {xs:List Tx} (h:BX xs=0):Sg xs:=by
 unfold BX at h;split at h
 ·cases h
 ·rename_i hl;split at h
  ·rename_i he;split at h
   ·split at h
    ·cases h
    ·rename_i hc
     have each:∀ x ∈ xs,xJ x=0:=λx hx=>by
      obtain ⟨i,hi,rfl⟩:=cV.1 hx;exact (DN (BD xs he i hi)).2.1
     refine ⟨by omega,λx hx c hcm=>?_,λx hx=>?_,λx hx=>?_,λx hx=>?_⟩
     ·have h1:=each x hx;unfold xJ at h1;split at h1
      ·rename_i hu;have h2:=GA hu c hcm;grind [yk,AF]
      grind
     ·grind [xJ,uo]
     ·have:=(P_ xs 0 (iE _)).2 x hx;grind [za]
     grind [xJ,uo,Uw]
   ·cases h
  grind
end OT
namespace OT
open Go
def Fh (c:Change):Change:=(c.2.2.1,c.2.2.2.1,c.1,c.2.1,())
def nL (cs:List Change):List Change:=cs.reverse.map Fh
theorem zM (cs:List Change):(nL cs).length=cs.length:=by simp[nL]
theorem Qa {cs:List Change} {c:Change} (h:c ∈ nL cs):∃ d ∈ cs,c=Fh d:=by
 grind [nL]
theorem Yp {c:Change} (h:oO c=0):oO (Fh c)=0:=by
 grind [oO,Fh,sameKey]
theorem Fl (cs:List Change) (hl:cs.length<=1048576) {O:Type} {B:((List Change×Int)->Option O)->(List Change×Int)->Option O} {E:List Change->Option O}
  (i7:∀ (m:Nat) (hm:m < cs.length) acc self,acc.length<=1048576->B self (acc,(m:Int))=self (acc++[Fh cs[m]],af ((m:Int) - 1))) (sO:∀ acc self,B self (acc,(-1:Int))=E acc) :
  ∀ k,cs.length < k->al B k ([],af ((cs.length:Int) - 1))=E (nL cs):=by
 have main:∀ (m:Nat) (acc:List Change),m<=cs.length->acc.length+m<=cs.length->∀ k,m < k->al B k (acc,(m:Int) - 1)=E (acc++(cs.take m).reverse.map Fh):=by
  intro m
  induction m with
  | zero=>
   intro acc _ _ k hk;cases k <;> grind [al]
  | succ m ih=>
   intro acc hm ha k hk
   cases k with
   | zero=>omega
   | succ k=>
    show B (al B k) _=_;have e:((m+1:Nat):Int) - 1=(m:Int):=by omega
    rw[e,i7 m (by omega) acc _ (by omega),a7 (by omega),ih _ (by omega) (by simp;omega) k (by omega),dZ (by omega),List.reverse_append,eS,bN];rfl
 grind [a7,nL]
theorem IS (cs:List Change) (hl:cs.length<=1048576):ja.ab (cs,())=some (nL cs,()):=by
 refine ag (k:=cs.length+1) λk hk=>(ja.ae k _).trans ?_;refine Fl cs hl (B:=λself v=>ja.b0 self (λz=>ja.q0 (cs,()) z) (cs,()) v) (E:=λz=>some (z,())) (λm hm acc self ha=>?_) (λacc self=>?_) k (by omega)
 ·grind [ja.b0,Fh,dn]
 ·show ja.b0 _ _ _ _=_;unfold ja.b0;rfl
theorem IT (cs:List Change) (hl:cs.length<=1048576):kW.ab (cs,())=some (nL cs,()):=by
 refine ag (k:=cs.length+1) λk hk=>(kW.ae k _).trans ?_;refine Fl cs hl (B:=λself v=>kW.b0 self (λz=>kW.q0 (cs,()) z) (cs,()) v) (E:=λz=>some (z,())) (λm hm acc self ha=>?_) (λacc self=>?_) k (by omega)
 ·grind [kW.b0,Fh,dn]
 ·show kW.b0 _ _ _ _=_;unfold kW.b0;rfl
def pg:List Row->List Change->Option (List Row)
 | s,[]=>some s
 | s,c::cs=>if uJ s c then pg (qz s c) cs else none
theorem back_append:∀ (a b:List Change) (s:List Row),pg s (a++b)=(pg s a).bind λt=>pg t b
 | [],b,s=>rfl
 | c::a,b,s=>by
  simp only[cL,pg];split
  ·exact back_append a b _
  ·rfl
theorem KF {O:Type} (bad:O) (fin:List Row->O):∀ (cs:List Change) (i:Nat) (s:List Row),b_ (λ_ s c=>if uJ s c then .inr (qz s c) else .inl bad) fin i cs s=match pg s cs with | some t=>fin t | none=>bad
 | [],_,_=>rfl
 | c::cs,i,s=>by
  simp only[b_,pg];by_cases h:uJ s c=true
  ·simp only[h,aI];exact KF bad fin cs _ _
  ·simp[h]
theorem Fm:∀ (cs:List Change) (s t:List Row),Good s->(∀ c ∈ cs,oO c=0)->pg s cs=some t->Good t/\t.length<=s.length+cs.length
 | [],s,t,h,_,hb=>by injection hb with hb;grind
 | c::cs,s,t,h,hc,hb=>by
  simp only[pg] at hb;split at hb
  ·have h1:=Fm cs (qz s c) t (yK h (hc c (by simp))) (λd hd=>hc d (by simp[hd])) hb;grind [DB]
  ·cases hb
theorem NJ {O α:Type} {f:Nat->Unit->α->Sum O Unit} {fin:Unit->O}:∀ (xs:List α) (j:Nat),(∀ i (hi:i < xs.length),f (j+i) () xs[i]=.inr ())->b_ f fin j xs ()=fin ()
 | [],_,_=>rfl
 | x::xs,j,h=>by
  have h0:=h 0 (by simp);simp only[dW,List.getElem_cons_zero] at h0;simp only[b_,h0]
  exact NJ xs (j+1) λi hi=>by
   have:=h (i+1) (by simp;omega);grind
theorem Sh {xs:List Row} (h:Good xs) (hl:xs.length<=60):t6 xs=0:=by
 unfold t6;rw[aP (by omega),NJ xs 0 λi hi=>?_];unfold sW;rw[aM (h.ok _ (aU hi)),cB];by_cases h0:0 < i
 ·rw[aM h0,aB (show i - 1 < xs.length by omega)];have hu:=h.up;grind [up,List.pairwise_iff_getElem]
 ·rw[aP h0]
theorem Si {s:List Row} {cs:List Change} (h:Good s) (hc:∀ c ∈ cs,oO c=0) (hl:s.length+cs.length<=60):IC s cs=match pg s cs with | some t=>((0:Int),t,()) | none=>((8:Int),([]:List Row),()):=by
 unfold IC;rw[aM (Sh h (by omega))]
 have main:∀ (cs:List Change) (s:List Row) (i:Nat),Good s->(∀ c ∈ cs,oO c=0)->s.length+cs.length<=60->(b_ ve AM i cs s).1=match pg s cs with | some t=>((0:Int),t,()) | none=>((8:Int),([]:List Row),()):=by
  intro cs
  induction cs <;> grind [b_,AM,pg,ve,DB,yK]
 grind
def DO (xs:List Tx):List Change:=xs.flatMap λx=>nL x.2.1
theorem DP {O:Type} (bad:O) (fin:List Row->O):∀ (xs:List Tx) (i:Nat) (s:List Row),b_ (λ_ s x=>match pg s (nL x.2.1) with | some t=>.inr t | none=>.inl bad) fin i xs s=match pg s (DO xs) with | some t=>fin t | none=>bad
 | [],_,_=>rfl
 | x::xs,i,s=>by
  have hb:DO (x::xs)=nL x.2.1++DO xs:=by simp[DO]
  rw[hb,back_append];simp only[b_]
  cases pg s (nL x.2.1) with
  | none=>rfl
  | some t=>simp only[aA];exact DP bad fin xs _ _
theorem yM {cs:List Change} (h:∀ c ∈ cs,oO c=0):∀ c ∈ nL cs,oO c=0:=λc hc=>by
 grind [Qa,Yp]
theorem Uy {cs:List Change} (h:∀ c ∈ cs,cl c):∀ c ∈ nL cs,cl c:=λc hc=>by
 obtain ⟨d,h1,rfl⟩:=Qa hc;exact ⟨(h d h1).2,(h d h1).1⟩
theorem Yq {s:List Row} (h:Good s):∀ x ∈ s,rl x:=λx hx=>by
 have:=TV (h.ok x hx);grind [rl,au]
theorem NK (s:List Row) (cs:List Change) (h:Good s) (hc:∀ c ∈ cs,oO c=0) (hl:s.length+cs.length<=1000):lI.ab (s,cs,())=some (match pg s (nL cs) with | some t=>(t,true,()) | none=>(([]:List Row),false,())):=by
 refine ag (k:=1001) λk hk=>(lI.ae k _).trans ?_;unfold lI.p;rw[IS cs (by omega)];simp only[aA];have hlen:=zM cs;have hch:=yM hc
 have:=da (B:=λself v=>lI.b0 self (λz=>lI.q0 (s,cs,()) (nL cs) z) (s,cs,()) (nL cs) v) (nL cs) (λ(s:List Row) (i:Int)=>(s,i)) (λ_ s c=>if uJ s c then .inr (qz s c) else .inl (([]:List Row),false,())) (λs=>(s,true,())) (λi t=>Good t/\t.length<=s.length+i) (by rw[au];omega)
  (λi hi t self hI=>by
   show lI.b0 _ _ _ _ _=_;unfold lI.b0;have ax:(i:Int) < ((nL cs).length:Int):=by omega
   have i7:(0:Int)<=(i:Int)/\(i:Int) < ((nL cs).length:Int):=by omega
   simp only[ax,i7,bR,aG,aH,aI,aC,aB hi,aA];rw[TS t _ hI.1.up (by omega) (sf (hch _ (aU hi))).1]
   grind)
  (λi hi t t' hI hs=>by
   grind [DB,yK]) (λt self _=>by
   show lI.b0 _ _ _ _ _=_;unfold lI.b0;simp only[aX,aE,aD]
   rfl) s ⟨h,by omega⟩ k (by omega)
 rw[KF] at this;refine aQ this ?_;grind
theorem O2 (rows:List Row) (xs:List Tx) (h:Good rows) (hl:rows.length<=12) (hx:Sg xs):lJ.ab (rows,xs,())=some (match pg rows (DO xs) with | some t=>(t,true,()) | none=>(([]:List Row),false,())):=by
 refine ag (k:=10) λk hk=>(lJ.ae k _).trans ?_;unfold lJ.p;have hc:([]:List Row).length+rows.length<=cg:=dn (by grind);rw[aM hc,bO];have hx4:=hx.len
 have:=da (B:=λself v=>lJ.b0 self (λz=>lJ.q0 (rows,xs,()) z) (rows,xs,()) v) xs (λ(s:List Row) (i:Int)=>(s,i)) (λ_ s x=>match pg s (nL x.2.1) with | some t=>.inr t | none=>.inl (([]:List Row),false,())) (λs=>(s,true,())) (λi t=>Good t/\t.length<=12+12*i) (by rw[au];omega)
  (λi hi t self hI=>by
   show lJ.b0 _ _ _ _=_;unfold lJ.b0;have ax:(i:Int) < (xs.length:Int):=by omega
   have hu:=hx.vI _ (aU hi);simp only[ax,aG,aH,aK,aI,aC,aB hi,aA];rw[NK t _ hI.1 (hx.ch _ (aU hi)) (by omega)]
   grind)
  (λi hi t t' hI hs=>by
   have hu:=hx.vI _ (aU hi)
   cases hb:pg t (nL (xs[i]).2.1) with
   | none=>grind
   | some q=>
    rw[hb] at hs;injection hs with hs;subst hs;have:=Fm _ _ _ hI.1 (yM (hx.ch _ (aU hi))) hb
    grind [zM]) (λt self _=>by
   show lJ.b0 _ _ _ _=_;unfold lJ.b0;simp only[aX,aE,aD]
   rfl) rows ⟨h,by omega⟩ k (by omega)
 rw[DP] at this;refine aQ this ?_;grind
theorem NL (rows:List Row) (xs:List Tx) (h:Good rows) (hl:rows.length<=12) (hx:Sg xs) (ht:BB xs):jW.ab (rows,xs,())=some (match pg rows (DO xs) with | some t=>(t,(0:Int),()) | none=>(([]:List Row),(8:Int),())):=by
 refine ag (k:=10) λk hk=>(jW.ae k _).trans ?_;unfold jW.p;have hx4:=hx.len
 have:=da (B:=λself v=>jW.b0 self (λz=>jW.q0 (rows,xs,()) z) (rows,xs,()) v) xs (λ(s:List Row) (i:Int)=>(s,i)) (λ_ s x=>match pg s (nL x.2.1) with | some t=>.inr t | none=>.inl (([]:List Row),(8:Int),())) (λs=>(s,(0:Int),())) (λi t=>Good t/\t.length<=12+12*i) (by rw[au];omega)
  (λi hi t self hI=>by
   show jW.b0 _ _ _ _=_;unfold jW.b0;have ax:(i:Int) < (xs.length:Int):=by omega
   have hu:=hx.vI _ (aU hi);have hch:=yM (hx.ch _ (aU hi));have htl:=ht.2 _ (aU hi);simp only[ax,aG,aH,aK,aI,aC,aB hi,aA];rw[IT _ htl.1];simp only[aA];have Y9:=zM (xs[i]).2.1;rw[MZ t _ (by rw[au];omega) (Yq hI.1) (by omega) (Uy htl.2.2.2),Si hI.1 hch (by omega)]
   grind)
  (λi hi t t' hI hs=>by
   have hu:=hx.vI _ (aU hi)
   cases hb:pg t (nL (xs[i]).2.1) with
   | none=>grind
   | some q=>
    rw[hb] at hs;injection hs with hs;subst hs;have:=Fm _ _ _ hI.1 (yM (hx.ch _ (aU hi))) hb
    grind [zM]) (λt self hI=>by
   grind [jW.b0,jW.q0,Gk]) rows ⟨h,by omega⟩ k (by omega)
 rw[DP] at this;refine aQ this ?_;grind
def IU (n:Int) (xs:List Tx):Bool:=match xs[xs.length - 1]? with
 | some x=>decide (n<=x.1)
 | none=>false
def vX (p:Plain):Int:=
 if t6 p.1=0 then
  if BX p.2.1=0 then
   if gu p.2.2.1 1 100&&!IU p.2.2.1 p.2.1 then
    if 12 < zG p.1 p.2.1 then 2 else (match pg p.1 (DO p.2.1) with | some _=>0 | none=>8)
   else 3
  else BX p.2.1
 else t6 p.1
def Xx (p:Plain):Prop:=List.length p.1<=1048576/\(∀ x ∈ (p.1:List Row),rl x)/\BB p.2.1
theorem Qb {O:Type} (n:Int) (xs:List Tx) (hl:xs.length<=1048576) (bad j:Option O) :
  (bif decide ((0:Int) < (xs.length:Int)) then (if 0<=af ((xs.length:Int) - (1:Int)) then ((xs[(af ((xs.length:Int) - (1:Int))).toNat]?).bind λx5=>bif decide (n<=x5.1) then bad else j) else none) else j)=if IU n xs then bad else j:=by
 grind [IU,a7,Int.toNat_natCast]
theorem NM (p:Plain) (h:Xx p):nU.ab (p,())=some (vX p,()):=by
 obtain ⟨rows,xs,n,⟨⟩⟩:=p;obtain ⟨h1,h2,h3⟩:=h;simp only at h1 h2 h3;refine ag (k:=0) λk _=>(nU.ae k _).trans ?_;show nU.p _=_;unfold nU.p vX;simp only[Gj rows (by rw[au];omega) h2,Sd xs h3,tJ,Uv rows xs h1 h3,aA];by_cases hr:t6 rows=0;rotate_left
 ·grind
 by_cases ht:BX xs=0;rotate_left
 ·grind
 obtain ⟨hg,_⟩:=DA hr;have ba:=Ux ht;simp only[hr,ht,aG,aN,aD,aI];have i7:(decide ((1:Int)<=n)&&decide (n<=100))=gu n 1 100:=rfl;rw[i7]
 cases gu n 1 100 with
 | false=>rfl
 | true=>
  simp only[aN,aD,dJ];rw[Qb n xs h3.1]
  cases IU n xs with
  | true=>rfl
  | false=>
   simp only[bA,aJ,aO,aI];have hlen:(kx (dd [] (yt rows xs))).length=zG rows xs:=by simp[kx,zG]
   by_cases CO:12 < zG rows xs
   ·grind
   ·have:¬ (12:Int) < ((kx (dd [] (yt rows xs))).length:Int):=by grind
    have yy:rows.length<=12:=by
     have:=KD (xs:=xs) hg.up;grind [zG]
    grind [NL]
theorem NN (p:Plain) (h:Xx p):pt.ab (p,())=some (vX p,()):=by
 obtain ⟨rows,xs,n,⟨⟩⟩:=p;obtain ⟨h1,h2,h3⟩:=h;simp only at h1 h2 h3;refine ag (k:=0) λk _=>(pt.ae k _).trans ?_;show pt.p _=_;unfold pt.p vX;simp only[OG rows (by rw[au];omega) h2,Se xs h3,nX,aA];by_cases hr:t6 rows=0;rotate_left
 ·grind
 by_cases ht:BX xs=0;rotate_left
 ·grind
 obtain ⟨hg,_⟩:=DA hr;have ba:=Ux ht;have aag:=O1 rows xs h1 (by have:=ba.len;omega) (λx hx=>by have:=ba.abe x hx;omega);simp only[hr,ht,aG,aN,aD,aI,aag,aA];have i7:(decide ((1:Int)<=n)&&decide (n<=100))=gu n 1 100:=rfl;rw[i7]
 cases gu n 1 100 with
 | false=>rfl
 | true=>
  simp only[aN,aD,dJ];rw[Qb n xs h3.1]
  cases IU n xs with
  | true=>rfl
  | false=>
   simp only[bA,aJ,aO,aI];by_cases CO:12 < zG rows xs
   ·grind
   ·have:¬ (12:Int) < (zG rows xs:Int):=by omega
    have yy:rows.length<=12:=by
     have:=KD (xs:=xs) hg.up;grind [zG]
    grind [O2]
theorem V_ {p:Plain} (hv:sm Cg p) (hz:zz Cg p<=1048576):Xx p:=by
 obtain ⟨rows,xs,n,⟨⟩⟩:=p;obtain ⟨hr,hx,_⟩:=hv;replace hz:zz (.aa bd) rows+(zz (.aa ca) xs+(0+0))<=1048576:=hz;refine ⟨bL (uW (e:=bd) rows) (by omega),λx hm=>Ry (hr.2 x hm),bL (uW (e:=ca) xs) (by omega),λx hm=>?_⟩
 have h1:zz ca x+1<=zz (.aa ca) xs:=Ib (e:=ca) hm;have h2:zz ca x=0+(zz (.aa an) x.2.1+(zz (.aa i64) x.2.2.1+(zz (.aa be) x.2.2.2.1+0))):=rfl;have h3:List.length x.2.1<=zz (.aa an) x.2.1:=uW (e:=an) x.2.1;have h4:List.length x.2.2.1<=zz (.aa i64) x.2.2.1:=uW (e:=i64) x.2.2.1;have h5:List.length x.2.2.2.1<=zz (.aa be) x.2.2.2.1:=uW (e:=be) x.2.2.2.1;exact ⟨by omega,by omega,by omega,λc hc=>Xl ((hx.2 x hm).2.1.2 c hc)⟩
end OT
namespace OT
open Go
end OT
