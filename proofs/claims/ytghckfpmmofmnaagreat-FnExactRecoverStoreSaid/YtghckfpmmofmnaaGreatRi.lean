/- The proof's parts, merged: The desk  a cell is placed  the cells of rows.. No conditions but those that each states. -/
import Derived.Test.YtghckfpmmofmnaaGreatRh
set_option linter.unusedVariables false
set_option linter.unusedSimpArgs false
set_option linter.unusedSectionVars false
namespace OT
open Go
def dy (f:Nat) (r:Row):List UInt8:=[UInt8.ofNat f,UInt8.ofInt r.1,UInt8.ofInt r.2.1,UInt8.ofInt (r.2.2.1 / 256),UInt8.ofInt (r.2.2.1 % 256),UInt8.ofInt (List.length r.2.2.2.1:Int)]++r.2.2.2.1
theorem Ip {r:Row} (h:ly r=0):(0<=r.1/\r.1<=3)/\(1<=r.2.1/\r.2.1<=99)/\(0<=r.2.2.1/\r.2.2.1<=999)/\DF r.2.2.2.1=true:=by
 grind [ly,lD]
theorem DM {s:List UInt8} (h:DF s=true):s.length<=8:=by
 grind [DF]
theorem jp {f:Nat} {r:Row} (h:ly r=0):1<=(dy f r).length/\(dy f r).length<=14:=by
 simp_all [DM,Ip,dy]
theorem ade (n:Int):UInt8.ofInt (n % 256)=UInt8.ofInt n:=by
 grind [UInt8.ofInt]
theorem AC {f:Nat} {r:Row} (h:ly r=0):jK.ae ((f:Int),r,())=some (dy f r,()):=by
 obtain ⟨_,_,h3,h4⟩:=Ip h;have h1:=DM h4;refine ah (k:=0) λk _=>(jK.af k _).trans ?_;grind [jK.p,dy,bh,cv,vx]
theorem D3 {f:Nat} {r:Row} (h:ly r=0):oM.ae ((f:Int),r,())=some (dy f r,()):=by
 obtain ⟨_,_,h3,h4⟩:=Ip h;have h1:=DM h4;refine ah (k:=0) λk _=>(oM.af k _).trans ?_;grind [oM.p,dy,cv,ade,vx]
def kK (P t:Nat):List UInt8:=[(1:UInt8),UInt8.ofNat P,UInt8.ofNat t]
theorem I4 (P t:Nat):pH.ae ((P:Int),(t:Int),())=some (kK P t,()):=by
 refine ah (k:=0) λk _=>(pH.af k _).trans ?_;grind [pH.p,kK,vx]
theorem Sc (P t:Nat):uT.ae ((P:Int),(t:Int),())=some (kK P t,()):=by
 refine ah (k:=0) λk _=>(uT.af k _).trans ?_;grind [uT.p,kK,vx]
def kZ (c:List UInt8) (no:Int):List Nat->ba->Option (Nat×Nat)×ba
 | [],w=>(none,w)
 | P::l,w=>if (P:Int)=no then kZ c no l w else match (tU w P c).1 with
  | some t=>(some (P,t),(tU w P c).2)
  | none=>kZ c no l (tU w P c).2
def nZ (w:ba) (no:Int) (c:List UInt8):Option (Nat×Nat)×ba:=
 match (kZ c no (List.range (List.length w.1)) w).1 with
 | some a=>kZ c no (List.range (List.length w.1)) w
 | none=>if 12<=List.length w.1 then (none,(kZ c no (List.range (List.length w.1)) w).2) else (some (List.length w.1,0),ox (kZ c no (List.range (List.length w.1)) w).2 (List.length w.1) (si vp c))
structure Ls (w:ba) (n m:Nat) (c:List UInt8) (r:Option (Nat×Nat)×ba):Prop where
 ok:okW r.2 (n+m)
 no:r.1=none->List.length r.2.1=List.length w.1/\∀ Q s,br r.2.1 Q s=br w.1 Q s
 yes:∀ P t,r.1=some (P,t)->P < 12/\t < 16/\br w.1 P t=[]/\∀ Q s,br r.2.1 Q s=if Q=P/\s=t then c else br w.1 Q s
theorem xk {c:List UInt8} (hc:1<=c.length) (no:Int):∀ (l:List Nat) (w:ba) (n:Nat),okW w n->(∀ P ∈ l,P < List.length w.1)->Ls w n (2*l.length) c (kZ c no l w)
 | [],w,n,h,_=>⟨h.mono Bys,λ_=>⟨rfl,λ_ _=>rfl⟩,λP t ht=>by cases ht⟩
 | P::l,w,n,h,hl=>by
  unfold kZ;split
  ·have:=xk hc no l w n h λQ hQ=>hl Q (aW _ hQ);exact ⟨this.ok.mono (by grind),this.no,this.yes⟩
  ·have hP:=hl P bB;have R:=C8 h hP hc;split
   ·rename_i t ht;obtain ⟨y1,y2,y3⟩:=R.yes t ht;refine ⟨R.ok.mono (by grind),λhh=>(by cases hh),λP' t' hh=>?_⟩
    injection hh with hh;injection hh with h1 h2;subst h1;subst h2;exact ⟨by have:=h.jh.1;omega,y1,y2,y3⟩
   ·rename_i ht;have e:=R.no ht;have:=xk hc no l (tU w P c).2 (n+2) R.ok λQ hQ=>by rw[R.len];grind
    refine ⟨this.ok.mono (by grind),λhh=>?_,λP' t' hh=>?_⟩
    ·obtain ⟨a1,a2⟩:=this.no hh;exact ⟨by rw[a1,R.len],λQ s=>by rw[a2,e]⟩
    ·obtain ⟨a1,a2,a3,a4⟩:=this.yes P' t' hh;grind
theorem MA {c:List UInt8} (lY:1<=c.length) (hc:c.length<=20):m9 vp c=0/\gg vp=0/\ij (si vp c)/\∀ s,cellOf (si vp c) s=if s=0 then c else []:=by
 have e0:gg vp=0:=by decide +kernel
 have hn:pn vp=0:=by decide +kernel
 have hl:ff vp=64:=by decide +kernel
 have hf:sX vp=62:=by decide +kernel
 have h0:m9 vp c=0:=by
  grind [m9,vn]
 obtain ⟨r1,r2,r3⟩:=Ae FQ.1 lY h0;refine ⟨h0,e0,r1,λs=>?_⟩
 rw[r2,e0,FQ.2]
theorem uZ {w:ba} {n:Nat} (h:okW w n) {c:List UInt8} (lY:1<=c.length) (hc:c.length<=20) (no:Int):Ls w n 25 c (nZ w no c):=by
 have R:=xk lY no (List.range (List.length w.1)) w n h λP hP=>cD.1 hP;have zK:=h.jh.1;rw[cZ] at R;unfold nZ;split
 ·exact ⟨R.ok.mono Bys,R.no,R.yes⟩
 ·rename_i h0;obtain ⟨a1,a2⟩:=R.no h0;split
  ·exact ⟨R.ok.mono Bys,λ_=>⟨a1,a2⟩,λP t ht=>by cases ht⟩
  ·rename_i a_;obtain ⟨n1,n2,n3,n4⟩:=MA lY hc;have hk:=Aj R.ok n3 (P:=List.length w.1) Bys Bys;refine ⟨hk.mono Bys,λhh=>(by cases hh),λP t ht=>?_⟩
   injection ht with ht;injection ht with t1 t2;subst t1;subst t2;refine ⟨by omega,by omega,Mz (aH _),λQ s=>?_⟩
   have e:=JZ (kZ c no (List.range (List.length w.1)) w).2 (si vp c);rw[a1] at e;show br (ox (kZ c no (List.range (List.length w.1)) w).2 (List.length w.1) (si vp c)).1 Q s=_;rw[e];unfold br;rw[Qq,a1];by_cases hq:Q=List.length w.1
   ·rw[aR hq,n4];by_cases hs:s=0
    ·grind
    ·rw[aV hs,aV (λhh=>hs hh.2)];subst hq;exact (Mz (aH _)).symm
   ·rw[aV hq,aV (λhh=>hq hh.1)];exact a2 Q s
def vz (r:Option (Nat×Nat)×ba):Int×Int×Bool×ba×Unit:=match r.1 with
 | some a=>((a.1:Int),(a.2:Int),true,r.2,())
 | none=>((0:Int),(0:Int),false,r.2,())
def A8 (c:List UInt8) (no:Int) (P:Nat) (w:ba):Sum (Option (Int×Int×Bool×ba×Unit)) ba:=
 if (P:Int)=no then .inr w else match (tU w P c).1 with
  | some t=>.inl (some ((P:Int),(t:Int),true,(tU w P c).2,()))
  | none=>.inr (tU w P c).2
theorem BS {c:List UInt8} {no:Int} {fin:ba->Option (Int×Int×Bool×ba×Unit)}:∀ (l:List Nat) (i:Nat) (w:ba),bq (λ_ s x=>A8 c no x s) fin i l w=match (kZ c no l w).1 with
  | some a=>some ((a.1:Int),(a.2:Int),true,(kZ c no l w).2,())
  | none=>fin (kZ c no l w).2
 | [],i,w=>rfl
 | P::l,i,w=>by
  simp only[bq,A8,kZ];by_cases hn:(P:Int)=no
  ·rw[aR hn,aR hn];exact BS l (i+1) w
  ·rw[aV hn,aV hn]
   cases (tU w P c).1 with
   | some t=>rfl
   | none=>exact BS l (i+1) _
theorem Qs:wG=vp:=rfl
theorem C9 {w:ba} {n:Nat} (h:okW w n) (hn:n<=800) {c:List UInt8} (lY:1<=c.length) (hc:c.length<=20) (no:Int):ja.ae (w,no,c,())=some (vz (nZ w no c)):=by
 have zK:=h.jh.1;refine ah (k:=100) λk hk=>(ja.af k _).trans ?_;obtain ⟨n1,n2,n3,n4⟩:=MA lY hc
 have:=o8 (B:=λself v=>ja.b0 self (λz=>ja.q0 (w,no,c,()) z) (w,no,c,()) v) (List.length w.1) (λ(s:ba) (i:Int)=>(s,i)) (A8 c no) (λs=>ja.q0 (w,no,c,()) s) (λi s=>okW s (n+2*i)/\List.length s.1=List.length w.1) Bys
  (λi hi s self ⟨hs,mF⟩=>by
   grind [ja.b0,A8,Qr,XW])
  (λi hi s s' ⟨hs,mF⟩ hf=>by
   unfold A8 at hf;have R:=C8 hs (show i < List.length s.1 by omega) lY;split at hf
   ·injection hf with hf;subst hf;exact ⟨hs.mono Bys,mF⟩
   ·split at hf
    ·cases hf
    ·injection hf with hf;subst hf
     exact ⟨R.ok.mono Bys,by rw[R.len,mF]⟩)
  (λs self ⟨hs,mF⟩=>by
   grind [ja.b0]) w ⟨h,rfl⟩ k Bys
 refine this.trans ?_;rw[BS];unfold nZ vz;have R:=xk lY no (List.range (List.length w.1)) w n h λP hP=>cD.1 hP;rw[cZ] at R
 cases hg:(kZ c no (List.range (List.length w.1)) w).1 with
 | some a=>simp only[hg]
 | none=>
  obtain ⟨a1,a2⟩:=R.no hg;simp only;show ja.q0 _ _=_;unfold ja.q0;rw[a1];by_cases hl:12<=List.length w.1
  ·grind
  ·have:¬ (12:Int)<=(List.length w.1:Int):=by omega
   rw[bC this,aE,aV hl,FC];simp only[aA,Qs,My FQ.1 c lY hc,n1,n2,aJ,sw R.ok Bys n3.len (show List.length w.1<=List.length (kZ c no (List.range (List.length w.1)) w).2.1 by omega)];grind [JZ,bh]
theorem HH {w:ba} {n:Nat} (h:okW w n) (hn:n<=800) {c:List UInt8} (lY:1<=c.length) (hc:c.length<=20) (no:Int):gm.ae (w,c,no,())=some (vz (nZ w no c)):=by
 have zK:=h.jh.1;refine ah (k:=100) λk hk=>(gm.af k _).trans ?_;obtain ⟨n1,n2,n3,n4⟩:=MA lY hc
 have:=o8 (B:=λself v=>gm.b0 self (λz=>gm.q0 (w,c,no,()) z) (w,c,no,()) v) (List.length w.1) (λ(s:ba) (i:Int)=>(s,i)) (A8 c no) (λs=>gm.q0 (w,c,no,()) s) (λi s=>okW s (n+2*i)/\List.length s.1=List.length w.1) Bys
  (λi hi s self ⟨hs,mF⟩=>by
   show gm.b0 _ _ _ _=_;unfold gm.b0 A8;have a_:(i:Int) < (List.length w.1:Int):=by omega
   rw[bA a_,aO];by_cases rD:(i:Int)=no
   ·grind
   ·rw[bC rD,aE,aV rD];have hP:i < List.length s.1:=by omega
    have hp:=pw hs.jh hP;obtain ⟨q1,q2,q3⟩:=uf hp;have hw:=yf hs hP;have hl:=uY hP;have g:(0:Int)<=(i:Int)/\(i:Int) < (List.length s.1:Int):=by omega
    have g2:(0:Int)<=(i:Int)/\(i:Int) < (List.length (oS s i).1:Int):=by omega
    rw[aR g];unfold tU;simp only[aC,nY hP,aA,Ga hp c lY hc,HC hs Bys hP,nY (show i < List.length (oS s i).1 by omega),Gb hP,Ga q1 c lY hc];by_cases h8:m9 (il s.1 i) c=8
    ·rw[bA h8,aO,aR h8,aR g2];by_cases h0:m9 (mP (il s.1 i)) c=0
     ·rw[bA h0,aO,aR h0,aR h0,aR h0,uh hw Bys (Ae q1 lY h0).1.len Bys];rfl
     grind
    ·rw[bC h8,aE,aV h8];by_cases h0:m9 (il s.1 i) c=0
     ·rw[bA h0,aO,aR h0,aR h0,aR h0,uh hs Bys (Ae hp lY h0).1.len Bys];rfl
     grind)
  (λi hi s s' ⟨hs,mF⟩ hf=>by
   unfold A8 at hf;have R:=C8 hs (show i < List.length s.1 by omega) lY;split at hf
   ·injection hf with hf;subst hf;exact ⟨hs.mono Bys,mF⟩
   ·split at hf
    ·cases hf
    ·injection hf with hf;subst hf
     exact ⟨R.ok.mono Bys,by rw[R.len,mF]⟩)
  (λs self ⟨hs,mF⟩=>by
   grind [gm.b0]) w ⟨h,rfl⟩ k Bys
 refine this.trans ?_;rw[BS];unfold nZ vz;have R:=xk lY no (List.range (List.length w.1)) w n h λP hP=>cD.1 hP;rw[cZ] at R
 cases hg:(kZ c no (List.range (List.length w.1)) w).1 with
 | some a=>simp only[hg]
 | none=>
  obtain ⟨a1,a2⟩:=R.no hg;simp only;show gm.q0 _ _=_;unfold gm.q0;rw[a1];by_cases hl:12<=List.length w.1
  ·grind
  ·have:¬ (List.length w.1:Int)=12:=by omega
   rw[bC this,aE,aV hl,FB];simp only[aA,Qs,Ga FQ.1 c lY hc,n1,n2,aJ,uh R.ok Bys n3.len (show List.length w.1<=List.length (kZ c no (List.range (List.length w.1)) w).2.1 by omega)];grind [JZ,bh]
end OT
namespace OT
open Go
theorem C_ {α β:Type} {g:α->Option β}:∀ {l:List α},l.Nodup->((l.filterMap g).Nodup↔∀ x ∈ l,∀ y ∈ l,∀ b,g x=some b->g y=some b->x=y)
 | [],_=>by simp
 | z::l,h=>by
  rw[cS] at h;have ih:=C_ (g:=g) h.2;grind
abbrev px:Type:=Nat->Nat->List UInt8
def gr (d:List UInt8):Int:=(en d).1.2.1
def oz (d:List UInt8):Nat:=(en d).1.2.2.1.toNat
def oA (d:List UInt8):Nat:=(en d).1.2.2.2.1.toNat
def HI (d:List UInt8):Row:=(en d).1.2.2.2.2.1
def rowAt (f:px) (P s:Nat):Row:=if gr (f P s)=1 then HI (f (oz (f P s)) (oA (f P s))) else HI (f P s)
structure uL (f:px):Prop where
 read:∀ P s,f P s≠[]->(en (f P s)).2=true
 stub:∀ P s,f P s≠[]->gr (f P s)=1->f (oz (f P s)) (oA (f P s))≠[]/\gr (f (oz (f P s)) (oA (f P s)))=2
 TM:∀ P s Q t,f P s≠[]->f Q t≠[]->gr (f P s)=1->gr (f Q t)=1->oz (f P s)=oz (f Q t)->oA (f P s)=oA (f Q t)->P=Q/\s=t
 key:∀ P s Q t,f P s≠[]->f Q t≠[]->gr (f P s)≠2->gr (f Q t)≠2->rk (rowAt f P s)=rk (rowAt f Q t)->P=Q/\s=t
def q9 (f:px) (r:Row):Prop:=∃ P s,f P s≠[]/\gr (f P s)≠2/\rowAt f P s=r
def tV (ps:bv) (P s:Nat):a7:=((P:Int),(s:Int),(en (br ps P s)).1,())
theorem qO {ps:bv} (h:lA ps) {x:a7}:x ∈ co ps↔∃ P s,br ps P s≠[]/\x=tV ps P s:=by
 grind [ye,Nat.lt_or_ge,br,cellOf,tV,qY,pw,vS,nY]
theorem AD (ps:bv):(co ps).Nodup:=by
 have h1:∀ (P:Nat) (p:List UInt8),(rM P p).Pairwise (λx y=>x.2.1 < y.2.1)/\∀ x ∈ rM P p,x.1=(P:Int):=by
  intro P p
  have key:∀ n,((List.range n).flatMap (rL P p)).Pairwise (λx y=>x.2.1 < y.2.1)/\∀ x ∈ (List.range n).flatMap (rL P p),x.1=(P:Int)/\x.2.1 < (n:Int):=by
   intro n
   induction n with
   | zero=>simp_all
   | succ n ih=>
    rw[gJ,gN]
    have hs:∀ x ∈ ([n]:List Nat).flatMap (rL P p),x.1=(P:Int)/\x.2.1=(n:Int):=λx hx=>by
     simp_all [rL]
    constructor
    ·rw[List.pairwise_append];grind [rL]
    grind
  exact ⟨(key (pn p)).1,λx hx=>((key (pn p)).2 x hx).1⟩
 have main:∀ (xs:bv) (i:Nat),(C5 rM i xs).Nodup/\∀ x ∈ C5 rM i xs,(i:Int)<=x.1:=by
  intro xs
  induction xs with
  | nil=>intro i;exact ⟨List.Pairwise.nil,λx hx=>by cases hx⟩
  | cons p xs ih=>
   intro i;obtain ⟨a1,a2⟩:=h1 i p;obtain ⟨b1,b2⟩:=ih (i+1);refine ⟨?_,λx hx=>?_⟩
   ·unfold C5;rw[fH];refine ⟨a1.imp λ{x y} a_ he=>by grind,b1,λx hx y hy he=>?_⟩
    grind
   grind [C5]
 exact (main ps 0).1
theorem Qt (ps:bv):(jJ ps).map (λx=>rk (gy x))=(co ps).filterMap (λx=>if fl x=2 then none else some (rk (gy (xh ps x)))):=by
 unfold jJ;generalize co ps=l
 induction l <;> grind [sY]
theorem HJ (d:List UInt8):(en d).1.2.2.1=(oz d:Int)/\(en d).1.2.2.2.1=(oA d:Int):=by
 obtain ⟨h1,h2⟩:=Hw d;unfold oz oA;omega
theorem Ns {ps:bv} (h:lA ps) (P s:Nat):pB ps (P:Int) (s:Int)=if br ps P s=[] then (Ld,false) else en (br ps P s):=by
 unfold pB;rw[aC,aC];grind [br,qY,pw,vS,nY,cellOf]
theorem wN {ps:bv} (h:lA ps) (P s:Nat) (dp:gr (br ps P s)=1->br ps (oz (br ps P s)) (oA (br ps P s))≠[]):gy (xh ps (tV ps P s))=rowAt (br ps) P s:=by
 unfold xh rowAt;have e1:fl (tV ps P s)=gr (br ps P s):=rfl;rw[e1];by_cases hf:gr (br ps P s)=1
 ·rw[aR hf,aR hf];obtain ⟨t1,t2⟩:=HJ (br ps P s);have e2:pE (tV ps P s)=(oz (br ps P s):Int):=t1;have e3:pF (tV ps P s)=(oA (br ps P s):Int):=t2;rw[e2,e3,Ns h,aV (dp hf)];rfl
 ·rw[aV hf,aV hf];rfl
theorem HK {α:Type} {c:α->Int}:∀ {xs:List α},(∀ x ∈ xs,c x=0)->nO c xs=0
 | [],_=>rfl
 | x::xs,h=>by
  unfold nO;rw[aR (h x bB)];exact HK λy hy=>h y (aW _ hy)
theorem Lt {ps:bv} (h:lA ps) (P s:Nat) (hr:∀ Q t,br ps Q t≠[]->(en (br ps Q t)).2=true):qF ps (tV ps P s)=true↔(gr (br ps P s)=1->br ps (oz (br ps P s)) (oA (br ps P s))≠[]/\gr (br ps (oz (br ps P s)) (oA (br ps P s)))=2):=by
 grind [qF,fl,tV,gr,HJ,pE,pF,Ns]
theorem pi {ps:bv}:f9 ps=0↔lA ps/\uL (br ps):=by
 constructor
 ·intro hv;have V:=ov hv;have hr:=V.right
  have Of:∀ P s,br ps P s≠[]->(en (br ps P s)).2=true:=λP s hc=>by
   obtain ⟨a1,a2,a3⟩:=vS hr hc;have:=V.cells.2 _ (JY a1) s a2 a3;grind [br,cellOf]
  have VF:∀ P s,br ps P s≠[]->gr (br ps P s)=1->br ps (oz (br ps P s)) (oA (br ps P s))≠[]/\gr (br ps (oz (br ps P s)) (oA (br ps P s)))=2:=λP s hc=>
   (Lt hr P s Of).1 (bH.1 V.aa1 _ ((qO hr).2 ⟨P,s,hc,rfl⟩))
  refine ⟨hr,Of,VF,λP s Q t h1 h2 f1 f2 e1 e2=>?_,λP s Q t h1 h2 f1 f2 e=>?_⟩
  ·have:=(C_ (AD ps)).1 V.afn _ ((qO hr).2 ⟨P,s,h1,rfl⟩) _ ((qO hr).2 ⟨Q,t,h2,rfl⟩) ((oz (br ps P s):Int),(oA (br ps P s):Int))
    (by unfold zr;rw[aR (show fl (tV ps P s)=1 from f1)];show some ((en (br ps P s)).1.2.2.1,(en (br ps P s)).1.2.2.2.1)=_;grind [HJ])
    (by unfold zr;rw[aR (show fl (tV ps Q t)=1 from f2)];show some ((en (br ps Q t)).1.2.2.1,(en (br ps Q t)).1.2.2.2.1)=_;grind [HJ])
   have g1:((P:Int))=(Q:Int):=cN (λx:a7=>x.1) this;have g2:((s:Int))=(t:Int):=cN (λx:a7=>x.2.1) this;omega
  ·have hk:=V.keys;rw[Qt] at hk
   have:=(C_ (AD ps)).1 hk _ ((qO hr).2 ⟨P,s,h1,rfl⟩) _ ((qO hr).2 ⟨Q,t,h2,rfl⟩) (rk (rowAt (br ps) P s))
    (by rw[aV (show ¬ fl (tV ps P s)=2 from f1),wN hr P s λhf=>(VF P s h1 hf).1])
    (by rw[aV (show ¬ fl (tV ps Q t)=2 from f2),wN hr Q t λhf=>(VF Q t h2 hf).1,e])
   have g1:((P:Int))=(Q:Int):=cN (λx:a7=>x.1) this;have g2:((s:Int))=(t:Int):=cN (λx:a7=>x.2.1) this;omega
 ·rintro ⟨hr,S⟩
  have hf:nO xL ps=0:=HK λp hp=>by
   obtain ⟨P,hP,he⟩:=eI hp;have hpg:il ps P=p:=by grind [il]
   have bf:=hr.2 p hp;unfold xL;rw[aR (uW.2 bf),aR];refine bH.2 λs hs=>?_;have hs:=cD.1 hs;unfold zq;by_cases hz:bj p s=0
   ·grind
   ·have hc:br ps P s≠[]:=λh0=>hz (by
     grind [br,qY])
    have:=S.read P s hc;grind [br,cellOf]
  have hl:¬ 12 < ps.length:=by have:=hr.1;omega
  unfold f9;rw[aV hl,aR hf];unfold DI;rw[aR,aR,aR]
  ·rw[Qt];refine (C_ (AD ps)).2 λx hx y hy b h1 h2=>?_;obtain ⟨P,s,c1,rfl⟩:=(qO hr).1 hx;obtain ⟨Q,t,c2,rfl⟩:=(qO hr).1 hy;split at h1
   ·cases h1
   ·rename_i f1;split at h2
    ·cases h2
    ·rename_i f2;rw[wN hr P s λhf=>(S.stub P s c1 hf).1] at h1;rw[wN hr Q t λhf=>(S.stub Q t c2 hf).1] at h2;obtain ⟨rfl,rfl⟩:=S.key P s Q t c1 c2 f1 f2 (by grind);rfl
  ·refine (C_ (AD ps)).2 λx hx y hy b h1 h2=>?_;obtain ⟨P,s,c1,rfl⟩:=(qO hr).1 hx;obtain ⟨Q,t,c2,rfl⟩:=(qO hr).1 hy;unfold zr at h1 h2;split at h1
   ·rename_i f1;split at h2
    ·rename_i f2;injection h1 with h1;injection h2 with h2;have h3:=h1.trans h2.symm;injection h3 with h3 h4;obtain ⟨rfl,rfl⟩:=S.TM P s Q t c1 c2 f1 f2 (cN Int.toNat h3) (cN Int.toNat h4);rfl
    ·cases h2
   ·cases h1
  ·refine bH.2 λx hx=>?_;obtain ⟨P,s,c1,rfl⟩:=(qO hr).1 hx;exact (Lt hr P s S.read).2 (S.stub P s c1)
theorem Ak {ps:bv} (hv:f9 ps=0) (r:Row):r ∈ dg ps↔q9 (br ps) r:=by
 have V:=ov hv;have hr:=V.right;have S:=(pi.1 hv).2;rw[Ai V,(BQ _).mem_iff,eL];constructor
 ·rintro ⟨x,hx,rfl⟩;unfold jJ at hx;obtain ⟨y,hy,uR⟩:=dI.1 hx;obtain ⟨P,s,c1,rfl⟩:=(qO hr).1 hy;unfold sY at uR;split at uR
  ·cases uR
  ·rename_i f1;rw[bV.1 uR,wN hr P s λhf=>(S.stub P s c1 hf).1];exact ⟨P,s,c1,f1,rfl⟩
 ·rintro ⟨P,s,c1,f1,rfl⟩;refine ⟨xh ps (tV ps P s),?_,wN hr P s λhf=>(S.stub P s c1 hf).1⟩
  unfold jJ;refine dI.2 ⟨_,(qO hr).2 ⟨P,s,c1,rfl⟩,?_⟩;unfold sY;rw[aV (show ¬ fl (tV ps P s)=2 from f1)];exact bV.2 rfl
end OT
namespace OT
open Go
def mr (f:px) (P s:Nat) (c:List UInt8):px:=λQ t=>if Q=P/\t=s then c else f Q t
theorem sS (f:px) (P s:Nat) (c:List UInt8):mr f P s c P s=c:=aR ⟨rfl,rfl⟩
theorem km {f:px} {P s:Nat} {c:List UInt8} {Q t:Nat} (h:¬ (Q=P/\t=s)):mr f P s c Q t=f Q t:=aV h
def lone (f:px) (A B:Nat):Prop:=∀ Q t,f Q t≠[]->gr (f Q t)=1->¬ (oz (f Q t)=A/\oA (f Q t)=B)
theorem ui {f g:px} {Q u:Nat} (h1:g Q u=f Q u) (h2:gr (f Q u)=1->g (oz (f Q u)) (oA (f Q u))=f (oz (f Q u)) (oA (f Q u))):rowAt g Q u=rowAt f Q u:=by
 grind [rowAt]
section
variable {f:px} (S:uL f)
include S
theorem X4 {P t:Nat} {c:List UInt8} (h0:f P t=[]) (hc:(en c).2=true) (h2:gr c=2):uL (mr f P t c)/\(∀ r,q9 (mr f P t c) r↔q9 f r)/\lone (mr f P t c) P t:=by
 have off:∀ {Q u},f Q u≠[]->mr f P t c Q u=f Q u:=λ{Q u} hq=>km λ⟨e1,e2⟩=>hq (by grind);have Qu:∀ {Q u},gr (mr f P t c Q u)≠2->mr f P t c Q u=f Q u:=λ{Q u} hq=>km λ⟨e1,e2⟩=>hq (by grind [sS]);have row:∀ {Q u},f Q u≠[]->rowAt (mr f P t c) Q u=rowAt f Q u:=λ{Q u} hq=>ui (off hq) λhf=>off (S.stub Q u hq hf).1;refine ⟨⟨λQ u hq=>?_,λQ u hq hf=>?_,λQ u R v hq hr f1 f2 e1 e2=>?_,λQ u R v hq hr f1 f2 e=>?_⟩,λr=>?_,λQ u hq hf hh=>?_⟩
 ·by_cases he:Q=P/\u=t
  ·grind [sS]
  ·rw[km he] at hq ⊢;exact S.read Q u hq
 ·have e:=Qu (Q:=Q) (u:=u) (by rw[hf];decide);rw[e] at hq hf ⊢;obtain ⟨a1,a2⟩:=S.stub Q u hq hf;grind
 ·have g1:=Qu (Q:=Q) (u:=u) (by rw[f1];decide);have g2:=Qu (Q:=R) (u:=v) (by rw[f2];decide);rw[g1] at hq f1 e1 e2;rw[g2] at hr f2 e1 e2;exact S.TM Q u R v hq hr f1 f2 e1 e2
 ·have g1:=Qu f1;have g2:=Qu f2;rw[g1] at hq f1;rw[g2] at hr f2;rw[row hq,row hr] at e;exact S.key Q u R v hq hr f1 f2 e
 ·constructor
  ·rintro ⟨Q,u,hq,f1,e⟩;rw[Qu f1] at hq f1;rw[row hq] at e;exact ⟨Q,u,hq,f1,e⟩
  ·rintro ⟨Q,u,hq,f1,e⟩;exact ⟨Q,u,by grind,by grind,by grind⟩
 ·have e:=Qu (Q:=Q) (u:=u) (by rw[hf];decide);rw[e] at hq hf hh;have:=(S.stub Q u hq hf).1;grind
theorem VG {A B:Nat} (h2:gr (f A B)=2) (hl:lone f A B):uL (mr f A B [])/\(∀ r,q9 (mr f A B []) r↔q9 f r):=by
 have ne:∀ {Q u},mr f A B [] Q u≠[]->¬ (Q=A/\u=B):=λ{Q u} hq he=>hq (by grind [sS]);have tg:∀ {Q u},f Q u≠[]->gr (f Q u)=1->mr f A B [] (oz (f Q u)) (oA (f Q u))=f (oz (f Q u)) (oA (f Q u)):=λ{Q u} hq hf=>km (hl Q u hq hf);refine ⟨⟨λQ u hq=>?_,λQ u hq hf=>?_,λQ u R v hq hr f1 f2 e1 e2=>?_,λQ u R v hq hr f1 f2 e=>?_⟩,λr=>?_⟩
 ·have:=ne hq;rw[km this] at hq ⊢;exact S.read Q u hq
 ·have:=ne hq;rw[km this] at hq hf ⊢;rw[tg hq hf];exact S.stub Q u hq hf
 ·have n1:=ne hq;have n2:=ne hr;rw[km n1] at hq f1 e1 e2;rw[km n2] at hr f2 e1 e2;exact S.TM Q u R v hq hr f1 f2 e1 e2
 ·have n1:=ne hq;have n2:=ne hr;have g1:=km (f:=f) (c:=[]) n1;have g2:=km (f:=f) (c:=[]) n2;rw[g1] at hq f1;rw[g2] at hr f2;rw[ui g1 (tg hq),ui g2 (tg hr)] at e;exact S.key Q u R v hq hr f1 f2 e
 ·constructor
  ·rintro ⟨Q,u,hq,f1,e⟩;have g1:=km (f:=f) (c:=[]) (ne hq);rw[g1] at hq f1;rw[ui g1 (tg hq)] at e;exact ⟨Q,u,hq,f1,e⟩
  ·rintro ⟨Q,u,hq,f1,e⟩;have g1:mr f A B [] Q u=f Q u:=km λhe=>f1 (by grind);exact ⟨Q,u,by grind,by grind,by grind [ui]⟩
theorem X5 {P s:Nat} (h0:f P s≠[]) (h2:gr (f P s)≠2):uL (mr f P s [])/\(∀ r,q9 (mr f P s []) r↔q9 f r/\rk r≠rk (rowAt f P s))/\(gr (f P s)=1->lone (mr f P s []) (oz (f P s)) (oA (f P s))):=by
 have ne:∀ {Q u},mr f P s [] Q u≠[]->¬ (Q=P/\u=s):=λ{Q u} hq he=>hq (by grind [sS])
 have tg:∀ {Q u},f Q u≠[]->gr (f Q u)=1->mr f P s [] (oz (f Q u)) (oA (f Q u))=f (oz (f Q u)) (oA (f Q u)):=λ{Q u} hq hf=>km λhe=>h2 (by
  have:=(S.stub Q u hq hf).2
  grind)
 refine ⟨⟨λQ u hq=>?_,λQ u hq hf=>?_,λQ u R v hq hr f1 f2 e1 e2=>?_,λQ u R v hq hr f1 f2 e=>?_⟩,λr=>?_,λh1 Q u hq hf hh=>?_⟩
 ·have:=ne hq;rw[km this] at hq ⊢;exact S.read Q u hq
 ·have:=ne hq;rw[km this] at hq hf ⊢;rw[tg hq hf];exact S.stub Q u hq hf
 ·have n1:=ne hq;have n2:=ne hr;rw[km n1] at hq f1 e1 e2;rw[km n2] at hr f2 e1 e2;exact S.TM Q u R v hq hr f1 f2 e1 e2
 ·have g1:=km (f:=f) (c:=[]) (ne hq);have g2:=km (f:=f) (c:=[]) (ne hr);rw[g1] at hq f1;rw[g2] at hr f2;rw[ui g1 (tg hq),ui g2 (tg hr)] at e;exact S.key Q u R v hq hr f1 f2 e
 ·constructor
  ·rintro ⟨Q,u,hq,f1,e⟩;have n1:=ne hq;have g1:=km (f:=f) (c:=[]) n1;rw[g1] at hq f1;rw[ui g1 (tg hq)] at e;refine ⟨⟨Q,u,hq,f1,e⟩,λhk=>n1 ?_⟩
   rw[<-e] at hk;exact S.key Q u P s hq h0 f1 h2 hk
  ·rintro ⟨⟨Q,u,hq,f1,e⟩,hk⟩;have g1:mr f P s [] Q u=f Q u:=km λhe=>hk (by grind);exact ⟨Q,u,by grind,by grind,by grind [ui]⟩
 ·have n1:=ne hq;rw[km n1] at hq hf hh;exact n1 (S.TM Q u P s hq h0 hf h1 hh.1 hh.2)
theorem Nt {P s:Nat} {c:List UInt8} {r:Row} (h0:f P s=[]) (hc:(en c).2=true) (hn:c≠[]) (hr:(gr c=0/\HI c=r)\/(gr c=1/\f (oz c) (oA c)≠[]/\gr (f (oz c) (oA c))=2/\lone f (oz c) (oA c)/\HI (f (oz c) (oA c))=r)) (hk:∀ r',q9 f r'->rk r'≠rk r):uL (mr f P s c)/\(∀ r',q9 (mr f P s c) r'↔q9 f r'\/r'=r):=by
 have off:∀ {Q u},f Q u≠[]->mr f P s c Q u=f Q u:=λ{Q u} hq=>km λ⟨e1,e2⟩=>hq (by grind);have row:∀ {Q u},f Q u≠[]->rowAt (mr f P s c) Q u=rowAt f Q u:=λ{Q u} hq=>ui (off hq) λhf=>off (S.stub Q u hq hf).1;have h2:gr c≠2:=by grind
 have Z7:rowAt (mr f P s c) P s=r:=by
  grind [rowAt,sS]
 have cut:∀ {Q u},mr f P s c Q u≠[]->(Q=P/\u=s)\/(f Q u≠[]/\mr f P s c Q u=f Q u):=λ{Q u} hq=>by
  grind [km]
 refine ⟨⟨λQ u hq=>?_,λQ u hq hf=>?_,λQ u R v hq hv f1 f2 e1 e2=>?_,λQ u R v hq hv f1 f2 e=>?_⟩,λr'=>?_⟩
 ·rcases cut hq with ⟨rfl,rfl⟩ | ⟨a,e⟩
  ·grind [sS]
  ·rw[e];exact S.read Q u a
 ·rcases cut hq with ⟨rfl,rfl⟩ | ⟨a,e⟩
  ·grind [sS]
  ·rw[e] at hf ⊢;obtain ⟨b1,b2⟩:=S.stub Q u a hf;grind
 ·rcases cut hq with ⟨rfl,rfl⟩ | ⟨a,g1⟩
  ·rcases cut hv with ⟨rfl,rfl⟩ | ⟨b,g2⟩
   ·grind
   ·rw[sS] at f1 e1 e2;rw[g2] at f2 e1 e2
    rcases hr with ⟨h,_⟩ | ⟨h,_,_,h5,_⟩
    ·grind
    ·exact absurd ⟨e1.symm,e2.symm⟩ (h5 R v b f2)
  ·rcases cut hv with ⟨rfl,rfl⟩ | ⟨b,g2⟩
   ·rw[sS] at f2 e1 e2;rw[g1] at f1 e1 e2
    rcases hr with ⟨h,_⟩ | ⟨h,_,_,h5,_⟩
    ·grind
    ·exact absurd ⟨e1,e2⟩ (h5 Q u a f1)
   ·rw[g1] at f1 e1 e2;rw[g2] at f2 e1 e2;exact S.TM Q u R v a b f1 f2 e1 e2
 ·rcases cut hq with ⟨rfl,rfl⟩ | ⟨a,g1⟩
  ·rcases cut hv with ⟨rfl,rfl⟩ | ⟨b,g2⟩
   ·grind
   ·rw[g2] at f2;rw[Z7,row b] at e;exact absurd e.symm (hk _ ⟨R,v,b,f2,rfl⟩)
  ·rcases cut hv with ⟨rfl,rfl⟩ | ⟨b,g2⟩
   ·rw[g1] at f1;rw[Z7,row a] at e;exact absurd e (hk _ ⟨Q,u,a,f1,rfl⟩)
   ·rw[g1] at f1;rw[g2] at f2;rw[row a,row b] at e;exact S.key Q u R v a b f1 f2 e
 ·constructor
  ·rintro ⟨Q,u,hq,f1,e⟩
   rcases cut hq with ⟨rfl,rfl⟩ | ⟨a,g1⟩
   ·grind
   ·rw[g1] at f1;rw[row a] at e;exact .inl ⟨Q,u,a,f1,e⟩
  ·rintro (⟨Q,u,hq,f1,e⟩ | rfl)
   ·exact ⟨Q,u,by grind,by grind,by grind⟩
   ·exact ⟨P,s,by grind [sS],by grind [sS],Z7⟩
end
theorem HL {n:Int} (h:0<=n) (h2:n < 256):((UInt8.ofInt n).toNat:Int)=n:=by
 have:n=((n.toNat:Nat):Int):=by omega
 grind [vx,ofNat_toNat]
theorem VH {n:Nat} (hn:n=0\/n=2) {r:Row} (hr:ly r=0):en (dy n r)=(((0:Int),(n:Int),(0:Int),(0:Int),r,()),true):=by
 obtain ⟨h1,h2,h3,h4⟩:=Ip hr;have h5:=DM h4;have hl:(dy n r).length=6+List.length r.2.2.2.1:=by grind [dy]
 have b0:pb (dy n r) 0=n:=by
  show (UInt8.ofNat n).toNat=n;grind [ofNat_toNat]
 have b1:(pb (dy n r) 1:Int)=r.1:=by
  show ((UInt8.ofInt r.1).toNat:Int)=r.1;grind [HL]
 have b2:(pb (dy n r) 2:Int)=r.2.1:=by
  show ((UInt8.ofInt r.2.1).toNat:Int)=r.2.1;grind [HL]
 have b3:(pb (dy n r) 3:Int)=r.2.2.1 / 256:=by
  show ((UInt8.ofInt (r.2.2.1 / 256)).toNat:Int)=_;grind [HL]
 have b4:(pb (dy n r) 4:Int)=r.2.2.1 % 256:=by
  show ((UInt8.ofInt (r.2.2.1 % 256)).toNat:Int)=_;grind [HL]
 have b5:(pb (dy n r) 5:Int)=(List.length r.2.2.2.1:Int):=by
  show ((UInt8.ofInt (List.length r.2.2.2.1:Int)).toNat:Int)=_;grind [HL]
 have hd:(dy n r).drop 6=r.2.2.2.1:=rfl;grind [vq,en]
theorem VI {P t:Nat} (hP:P<=11) (ht:t<=15):en (kK P t)=(((0:Int),(1:Int),(P:Int),(t:Int),CZ,()),true):=by
 have b1:pb (kK P t) 1=P:=by
  show (UInt8.ofNat P).toNat=P;grind [ofNat_toNat]
 have b2:pb (kK P t) 2=t:=by
  show (UInt8.ofNat t).toNat=t;grind [ofNat_toNat]
 unfold en;rw[aR ⟨rfl,rfl⟩,b1,b2,bA hP,bA ht];rfl
theorem VJ {d:List UInt8} (h:(en d).2=true) (h1:gr d=1):d=kK (oz d) (oA d)/\oz d<=11/\oA d<=15:=by
 unfold gr at h1;unfold oz oA;unfold en at h h1 ⊢;split at h
 ·rename_i hc;rw[aR hc];simp only[aD,bP] at h;refine ⟨?_,by simpa using h.1,by simpa using h.2⟩
  refine CX (by rw[hc.1];rfl) λj hj=>?_;rw[hc.1] at hj;have e1:=mC d 1;have e2:=mC d 2
  match j,hj with
  | 0,_=>rw[hc.2];rfl
  | 1,_=>show _=(UInt8.ofNat _).toNat;grind [ofNat_toNat]
  | 2,_=>show _=(UInt8.ofNat _).toNat;grind [ofNat_toNat]
 grind
end OT
namespace OT
open Go
theorem Qv {xs:List Row} {k:Int×Int} (hu:up xs) {i:Nat} (hi:i < xs.length) (hk:rk xs[i]=k):lz xs k=true/\pos xs k=i:=by
 have h1:¬ i < pos xs k:=λa_=>by
  have:=C3 xs k i hi a_;rw[hk,mQ] at this;cases this
 have hp:pos xs k < xs.length:=by omega
 have h2:pos xs k=i:=by
  by_cases he:pos xs k=i
  ·exact he
  ·have h3:=cW.1 hu (pos xs k) i hp hi Bys;have h4:=wK xs k (pos xs k) hp hu (aH _);rw[hk] at h3;rw[h3] at h4;cases h4
 refine ⟨?_,h2⟩
 unfold lz;rw[h2,aB hi]
 simpa using hk
theorem Z8 {xs:List Row} (hu:up xs) (c:Change) (r:Row):r ∈ rK xs c↔(r ∈ xs/\rk r≠ck c)\/(c.2.2.1=true/\r=c.2.2.2.1):=by
 have key:(r ∈ xs.take (pos xs (ck c))\/r ∈ xs.drop (pos xs (ck c)+if lz xs (ck c) then 1 else 0))↔(r ∈ xs/\rk r≠ck c):=by
  constructor
  ·rintro (h | h)
   ·exact ⟨dU h,λhe=>by have:=Ah h;rw[he,mQ] at this;cases this⟩
   ·refine ⟨cQ h,λhe=>?_⟩
    obtain ⟨i,hi,hr⟩:=eI h;rw[List.getElem_drop] at hr;rw[cC] at hi;obtain ⟨f1,f2⟩:=Qv hu (i:=pos xs (ck c)+(if lz xs (ck c) then 1 else 0)+i) (k:=ck c) Bys (by rw[hr];exact he);rw[f1] at f2;simp only[aJ] at f2;omega
  ·rintro ⟨h,jx⟩;obtain ⟨i,hi,hr⟩:=eI h;by_cases h1:i < pos xs (ck c)
   ·left;rw[gW];exact ⟨i,by omega,hr⟩
   ·right;rw[List.mem_drop_iff_getElem];by_cases hf:lz xs (ck c)=true
    ·rw[aR hf];obtain ⟨hp,hk⟩:=zp hf;have:i≠pos xs (ck c):=λhe=>jx (by subst he;rw[<-hr];exact hk);exact ⟨i - (pos xs (ck c)+1),by omega,by rw[<-hr];congr 1;omega⟩
    ·rw[aV hf];exact ⟨i - (pos xs (ck c)+0),by omega,by rw[<-hr];congr 1;omega⟩
 unfold rK;rw[bR,bR];constructor
 ·rintro ((h | h) | h)
  ·exact .inl (key.1 (.inl h))
  ·cases hi:c.2.2.1 with
   | true=>rw[hi] at h;exact .inr ⟨rfl,bV.1 h⟩
   | false=>rw[hi] at h;cases h
  ·exact .inl (key.1 (.inr h))
 ·rintro (h | ⟨hi,rfl⟩)
  ·rcases key.2 h with h | h
   ·exact .inl (.inl h)
   ·exact .inr h
  ·rw[hi];exact .inl (.inr (bV.2 rfl))
theorem X6 {a b:Row} (h:Ty.eq bd a b=true):a=b:=by
 have e:Ty.eq bd a b=(decide (a.1=b.1)&&(decide (a.2.1=b.2.1)&&(decide (a.2.2.1=b.2.2.1)&&(decide (a.2.2.2.1=b.2.2.2.1)&&true)))):=rfl;rw[e] at h;simp only[aD,bP,eG] at h;obtain ⟨a1,a2,a3,a4,⟨⟩⟩:=a;obtain ⟨b1,b2,b3,b4,⟨⟩⟩:=b;obtain ⟨h1,h2,h3,h4⟩:=h;simp only at h1 h2 h3 h4;rw[h1,h2,h3,h4]
end OT
namespace OT
open Go
def fb (ps:bv):ba:=(ps,([]:List rQ),())
theorem rV {ps:bv} (h:lA ps):okW (fb ps) 0:=⟨h,aH _,λe he=>by cases he⟩
theorem VK {ps:bv} (h:lA ps):gp ps:=⟨h.1,λp hp=>(h.2 p hp).len⟩
theorem Da {ps:bv} (h:lA ps):ln.ae (ps,())=some (fb ps,()):=by
 refine ah (k:=0) λk _=>(ln.af k _).trans ?_;show ln.p _=_;unfold ln.p;rw[xS ps (VK h)];rfl
theorem Qw {ps:bv} (h:lA ps):st.ae (ps,())=some (fb ps,()):=by
 refine ah (k:=0) λk _=>(st.af k _).trans ?_;show st.p _=_;unfold st.p;rw[vQ ps (VK h)];rfl
def Gc (k:Int):d7:=(k,([]:List rQ),([]:List (List UInt8)),())
def vA (ok:Bool) (w:ba):d7:=if ok then ((0:Int),w.2.1,w.1,()) else Gc 9
theorem D4 (k:Int):f8.ae (k,())=some (Gc k,()):=ah (k:=0) λq _=>(f8.af q _).trans rfl
theorem Db (w:ba):kP.ae (w,())=some (vA true w,()):=ah (k:=0) λq _=>(kP.af q _).trans rfl
theorem I5 (w:ba):lK.ae (w,())=some (vA true w,()):=ah (k:=0) λq _=>(lK.af q _).trans rfl
theorem Dc (w:ba) (ok:Bool):np.ae (w,ok,())=some (vA ok w,()):=by
 refine ah (k:=0) λk _=>(np.af k _).trans ?_;show np.p _=_;unfold np.p;rw[I5];cases ok <;> rfl
def uM (w:ba) (r:Row):Option (Nat×Nat)×ba:=nZ w (-1) (dy 0 r)
theorem TN {w:ba} {n:Nat} (h:okW w n) {r:Row} (hr:ly r=0):Ls w n 25 (dy 0 r) (uM w r):=
 uZ h (jp hr).1 (by grind [jp]) _
theorem VL {w:ba} {n:Nat} (h:okW w n) (hn:n<=800) {r:Row} (hr:ly r=0):pg.ae (w,r,())=some ((uM w r).1.isSome,(uM w r).2,()):=by
 refine ah (k:=0) λk _=>(pg.af k _).trans ?_;grind [pg.p,dy,D3,HH,jp,vz,uM]
theorem VM {ps:bv} (h:lA ps) {r:Row} (hr:ly r=0):qk.ae (ps,r,())=some (vA (uM (fb ps) r).1.isSome (uM (fb ps) r).2,()):=by
 refine ah (k:=0) λk _=>(qk.af k _).trans ?_;show qk.p _=_;unfold qk.p;have e:jK.ae ((0:Int),r,())=some (dy 0 r,()):=AC (f:=0) hr;simp only[e,Da h,aA,C9 (rV h) Bys (jp hr).1 (show (dy 0 r).length<=20 by grind [jp]),D4,Db];unfold vz uM;cases (nZ (fb ps) (-1) (dy 0 r)).1 <;> rfl
def qa (w:ba) (P s A B:Nat) (mv:Bool) (r:Row):Bool×ba:=
 if (lB w A B (dy (bif mv then 2 else 0) r)).1=true then (true,(lB w A B (dy (bif mv then 2 else 0) r)).2)
 else match (nZ (lB w A B (dy (bif mv then 2 else 0) r)).2 (A:Int) (dy 2 r)).1 with
  | none=>(false,(nZ (lB w A B (dy (bif mv then 2 else 0) r)).2 (A:Int) (dy 2 r)).2)
  | some a=>(true,bif mv then lS (lB (nZ (lB w A B (dy (bif mv then 2 else 0) r)).2 (A:Int) (dy 2 r)).2 P s (kK a.1 a.2)).2 A B else (lB (nZ (lB w A B (dy (bif mv then 2 else 0) r)).2 (A:Int) (dy 2 r)).2 P s (kK a.1 a.2)).2)
theorem jY {f:Nat} {r:Row}:dy f r≠[]:=by grind [dy]
theorem rz (P t:Nat):(kK P t).length=3:=rfl
theorem uN {w:ba} {n m:Nat} {c:List UInt8} {r:Option (Nat×Nat)×ba} (R:Ls w n m c r) {Q t:Nat} (h:br w.1 Q t≠[]) (hc:c≠[]):br r.2.1 Q t≠[]:=by
 cases hr:r.1 with
 | none=>rw[(R.no hr).2];exact h
 | some a=>
  rw[(R.yes a.1 a.2 hr).2.2.2];grind
theorem oE {w:ba} {n P s:Nat} {c:List UInt8} {r:Bool×ba} (R:XX w n P s c r) {Q t:Nat} (h:br w.1 Q t≠[]) (hc:c≠[]):br r.2.1 Q t≠[]:=by
 cases hr:r.1 with
 | false=>rw[R.no hr];exact h
 | true=>
  rw[R.yes hr];grind
section
variable {w:ba} {n:Nat} (h:okW w n) (hn:n<=400) {P s A B:Nat} (h1:br w.1 P s≠[]) (h2:br w.1 A B≠[]) (mv:Bool) {r:Row} (hr:ly r=0)
include h hn h1 h2 hr
theorem Iq:okW (qa w P s A B mv r).2 (n+40):=by
 have R1:=rU h h2 (jp (f:=bif mv then 2 else 0) hr).1;have R2:=uZ R1.ok (jp (f:=2) hr).1 (by grind [jp]) (A:Int);unfold qa;split
 ·exact R1.ok.mono Bys
 ·split
  ·exact R2.ok.mono Bys
  ·rename_i a ha;have k1:=uN R2 (oE R1 h1 jY) jY;have k2:=uN R2 (oE R1 h2 jY) jY;have R3:=rU R2.ok k1 (c:=kK a.1 a.2) (by rw[rz];omega)
   cases mv with
   | false=>exact R3.ok.mono Bys
   | true=>
    have k3:=oE R3 k2 (by grind [kK]);exact (sx R3.ok k3).1.mono Bys
theorem Lu (r0:Row):kG.ae (w,(r0,(P:Int),(s:Int),mv,(A:Int),(B:Int),()),r,())=some (if Ty.eq bd r0 r=true then (true,w,()) else ((qa w P s A B mv r).1,(qa w P s A B mv r).2,())):=by
 refine ah (k:=0) λk _=>(kG.af k _).trans ?_;show kG.p _=_;unfold kG.p;show (bif Ty.eq bd r0 r then _ else _)=_
 cases Ty.eq bd r0 r with
 | true=>rfl
 | false=>
  have EA:∀ f,(dy f r).length<=20:=λf=>by grind [jp]
  have l1:∀ f,1<=(dy f r).length:=λf=>(jp (f:=f) hr).1
  have main:∀ f:Nat,f=(bif mv then 2 else 0)->((oM.ae ((f:Int),r,())).bind λtc=>(mn.ae (w,(A:Int),(B:Int),tc.1,())).bind λtd=>bif td.1 then (some (true,td.2.1,()):Option kG.O) else (oM.ae ((2:Int),r,())).bind λGA=>(gm.ae (td.2.1,GA.1,(A:Int),())).bind λze=>bif !ze.2.2.1 then (some (false,ze.2.2.2.1,())) else (uT.ae (ze.1,ze.2.1,())).bind λEt=>(mn.ae (ze.2.2.2.1,(P:Int),(s:Int),Et.1,())).bind λAV=>bif mv then ((kh.ae (AV.2.1,(A:Int),(B:Int),())).bind λDB=>some (true,DB.1,())) else some (true,AV.2.1,()))=some ((qa w P s A B mv r).1,(qa w P s A B mv r).2,()):=by
   intro f hf;have R1:=rU h h2 (l1 f);have R2:=uZ R1.ok (l1 2) (EA 2) (A:Int);have e2:oM.ae ((2:Int),r,())=some (dy 2 r,()):=D3 (f:=2) hr;unfold qa;rw[<-hf];simp only[D3 (f:=f) hr,e2,aA,HE h Bys h2 (l1 f) (EA f)]
   cases hb:(lB w A B (dy f r)).1 with
   | true=>grind
   | false=>
    simp only[aE,aF,aS,HH R1.ok (show n+2<=800 by omega) (l1 2) (EA 2),aA];unfold vz
    cases hg:(nZ (lB w A B (dy f r)).2 (A:Int) (dy 2 r)).1 with
    | none=>rfl
    | some a=>
     have k1:=uN R2 (oE R1 h1 jY) jY;have k2:=uN R2 (oE R1 h2 jY) jY;have l3:1<=(kK a.1 a.2).length:=by rw[rz];omega
     have R3:=rU R2.ok k1 l3;have k3:=oE R3 k2 (by grind);simp only[aN,aE,Sc,aA,HE R2.ok (show n+2+25<=900 by omega) k1 l3 (show (kK a.1 a.2).length<=20 by rw[rz];omega)]
     cases mv with
     | false=>rfl
     | true=>simp only[aO,Bs R3.ok (show n+2+25+2<=900 by omega) k3,aA]
  grind
theorem Sd (x:a7) (x3:x.2.2.1.2.2.1=(A:Int)) (x4:x.2.2.1.2.2.2.1=(B:Int)) (x1:x.1=(P:Int)) (x2:x.2.1=(s:Int)):sr.ae (w,x,r,())=some ((qa w P s A B true r).1,(qa w P s A B true r).2,()):=by
 refine ah (k:=0) λk _=>(sr.af k _).trans ?_;show sr.p _=_;unfold sr.p;have EA:∀ f,(dy f r).length<=20:=λf=>by grind [jp]
 have l1:∀ f,1<=(dy f r).length:=λf=>(jp (f:=f) hr).1;have R1:=rU h h2 (l1 2);have R2:=uZ R1.ok (l1 2) (EA 2) (A:Int);have e2:jK.ae ((2:Int),r,())=some (dy 2 r,()):=AC (f:=2) hr;unfold qa;simp only[e2,x1,x2,x3,x4,aA,zu h Bys h2 (l1 2) (EA 2),aO]
 cases hb:(lB w A B (dy 2 r)).1 with
 | true=>grind
 | false=>
  simp only[aE,aF,aS,C9 R1.ok (show n+2<=800 by omega) (l1 2) (EA 2),aA];unfold vz
  cases hg:(nZ (lB w A B (dy 2 r)).2 (A:Int) (dy 2 r)).1 with
  | none=>rfl
  | some a=>
   have k1:=uN R2 (oE R1 h1 jY) jY;have k2:=uN R2 (oE R1 h2 jY) jY;have l3:1<=(kK a.1 a.2).length:=by rw[rz];omega
   have R3:=rU R2.ok k1 l3;have k3:=oE R3 k2 (by grind);simp only[aN,aE,I4,aA,zu R2.ok (show n+2+25<=900 by omega) k1 l3 (show (kK a.1 a.2).length<=20 by rw[rz];omega),Br R3.ok (show n+2+25+2<=900 by omega) k3]
end
def D5 (ps:bv) (x:a7) (r:Row):d7:=
 if Ty.eq bd (gy x) r=true then vA true (fb ps) else
  vA (qa (fb ps) x.1.toNat x.2.1.toNat (if fl x=1 then pE x else x.1).toNat (if fl x=1 then pF x else x.2.1).toNat (decide (fl x=1)) r).1 (qa (fb ps) x.1.toNat x.2.1.toNat (if fl x=1 then pE x else x.1).toNat (if fl x=1 then pF x else x.2.1).toNat (decide (fl x=1)) r).2
theorem VN {ps:bv} (h:xi ps) {x:a7} (hx:x ∈ jJ ps) {r:Row} (hr:ly r=0):qm.ae (ps,x,r,())=some (D5 ps x r,()):=by
 obtain ⟨P,s,x1,x2,c1,c2,c3⟩:=J0 h hx;have ho:=rV h.right;refine ah (k:=0) λk _=>(qm.af k _).trans ?_;show qm.p _=_;unfold qm.p D5;simp only[Da h.right,Db,D4,aA];show (bif Ty.eq bd (gy x) r then _ else _)=_
 cases Ty.eq bd (gy x) r with
 | true=>rfl
 | false=>
  simp only[aE,aF,aS];show (bif decide (fl x=1) then _ else _)=_;by_cases hf:fl x=1
  ·obtain ⟨Q,t,x3,x4,c4,c5⟩:=c2 hf;rw[bA hf,aO,Sd ho Bys c1 c4 hr x x3 x4 x1 x2];simp only[aR hf,x1,x2,x3,x4,aC,aA];cases (qa (fb ps) P s Q t true r).1 <;> rfl
  ·rw[bC hf,aE];simp only[aV hf,x1,x2,aC];have EA:∀ f,(dy f r).length<=20:=λf=>by grind [jp]
   have l1:∀ f,1<=(dy f r).length:=λf=>(jp (f:=f) hr).1;have R1:=rU ho c1 (l1 0);have R2:=uZ R1.ok (l1 2) (EA 2) (P:Int);have e0:jK.ae ((0:Int),r,())=some (dy 0 r,()):=AC (f:=0) hr;have e2:jK.ae ((2:Int),r,())=some (dy 2 r,()):=AC (f:=2) hr;unfold qa;simp only[e0,e2,aA,zu ho Bys c1 (l1 0) (EA 0),aE]
   cases hb:(lB (fb ps) P s (dy 0 r)).1 with
   | true=>rfl
   | false=>
    simp only[aE,aF,aS,C9 R1.ok (show 0+2<=800 by omega) (l1 2) (EA 2),aA];unfold vz
    cases hg:(nZ (lB (fb ps) P s (dy 0 r)).2 (P:Int) (dy 2 r)).1 with
    | none=>rfl
    | some a=>
     have k1:=uN R2 (oE R1 c1 jY) jY;have l3:1<=(kK a.1 a.2).length:=by rw[rz];omega
     simp only[aN,aE,I4,aA,zu R2.ok (show 0+2+25<=900 by omega) k1 l3 (show (kK a.1 a.2).length<=20 by rw[rz];omega)]
theorem Se {ps:bv} (h:xi ps) {x:a7} (hx:x ∈ jJ ps) {r:Row} (hr:ly r=0):((kG.ae (fb ps,qA x,r,())).bind λtd=>np.ae (td.2.1,td.1,()))=some (D5 ps x r,()):=by
 obtain ⟨P,s,x1,x2,c1,c2,c3⟩:=J0 h hx;have ho:=rV h.right;unfold D5;by_cases hf:fl x=1
 ·obtain ⟨Q,t,x3,x4,c4,c5⟩:=c2 hf;have hc:qA x=(gy x,(P:Int),(s:Int),true,(Q:Int),(t:Int),()):=by grind [qA]
  rw[hc,Lu ho Bys c1 c4 true hr (gy x),bA hf];grind [Int.toNat_natCast,Dc]
 ·have hc:qA x=(gy x,(P:Int),(s:Int),false,(P:Int),(s:Int),()):=by grind [qA]
  rw[hc,Lu ho Bys c1 c1 false hr (gy x),bC hf];grind [Dc]
def HM (ps:bv) (x:a7):d7:=vA true (if fl x=1 then lS (lS (fb ps) x.1.toNat x.2.1.toNat) (pE x).toNat (pF x).toNat else lS (fb ps) x.1.toNat x.2.1.toNat)
theorem X7 {ps:bv} (h:xi ps) {x:a7} (hx:x ∈ jJ ps):∃ P s:Nat,x.1=(P:Int)/\x.2.1=(s:Int)/\br ps P s≠[]/\(fl x=1->∃ Q t:Nat,pE x=(Q:Int)/\pF x=(t:Int)/\br (lS (fb ps) P s).1 Q t≠[]):=by
 obtain ⟨P,s,x1,x2,c1,c2,c3⟩:=J0 h hx;refine ⟨P,s,x1,x2,c1,λhf=>?_⟩
 obtain ⟨Q,t,x3,x4,c4,c5⟩:=c2 hf;refine ⟨Q,t,x3,x4,?_⟩
 rw[(sx (rV h.right) c1).2.2,aV]
 ·exact c4
 grind
theorem VO {ps:bv} (h:xi ps) {x:a7} (hx:x ∈ jJ ps):ql.ae (ps,x,())=some (HM ps x,()):=by
 obtain ⟨P,s,x1,x2,c1,c2⟩:=X7 h hx;have ho:=rV h.right;have hd:=(sx ho c1).1;refine ah (k:=0) λk _=>(ql.af k _).trans ?_;show ql.p _=_;unfold ql.p HM;simp only[Da h.right,Db,aA,x1,x2,Br ho Bys c1,aC];show (bif decide (fl x=1) then _ else _)=_;by_cases hf:fl x=1
 ·obtain ⟨Q,t,x3,x4,c4⟩:=c2 hf;rw[bA hf,aO,aR hf];have e3:x.2.2.1.2.2.1=(Q:Int):=x3;have e4:x.2.2.1.2.2.2.1=(t:Int):=x4;grind [Br]
 grind
theorem VP {ps:bv} (h:xi ps) {x:a7} (hx:x ∈ jJ ps):((lL.ae (fb ps,qA x,())).bind λr28=>lK.ae (r28.1,()))=some (HM ps x,()):=by
 obtain ⟨P,s,x1,x2,c1,c2⟩:=X7 h hx;have ho:=rV h.right;have hd:=(sx ho c1).1
 have e:lL.ae (fb ps,qA x,())=some (if fl x=1 then lS (lS (fb ps) x.1.toNat x.2.1.toNat) (pE x).toNat (pF x).toNat else lS (fb ps) x.1.toNat x.2.1.toNat,()):=by
  refine ah (k:=0) λk _=>(lL.af k _).trans ?_;show lL.p _=_;unfold lL.p qA;simp only[x1,x2,aC];rw[Bs ho Bys c1];grind [Bs]
 rw[e,aA,I5];rfl
end OT
namespace OT
open Go
def sZ (f:px) (P s:Nat):px:=if gr (f P s)=1 then mr (mr f P s []) (oz (f P s)) (oA (f P s)) [] else mr f P s []
theorem Qx {f:px} (S:uL f) {P s:Nat} (h0:f P s≠[]) (h2:gr (f P s)≠2):uL (sZ f P s)/\(∀ r,q9 (sZ f P s) r↔q9 f r/\rk r≠rk (rowAt f P s)):=by
 obtain ⟨S1,r1,l1⟩:=X5 S h0 h2;unfold sZ;split
 ·rename_i hf;obtain ⟨a1,a2⟩:=S.stub P s h0 hf;grind [VG,km]
 grind
theorem X8 (f:px) (P s:Nat):sZ f P s P s=[]:=by
 unfold sZ;grind [mr]
theorem drop_nil {f:px} {P s Q t:Nat} (h:f Q t=[]):sZ f P s Q t=[]:=by
 have one:∀ (g:px) (A B:Nat),g Q t=[]->mr g A B [] Q t=[]:=λg A B hg=>by
  grind [sS,km]
 unfold sZ;grind
theorem Nu {n:Nat} (hn:n=0\/n=2) {r:Row} (hr:ly r=0):(en (dy n r)).2=true/\gr (dy n r)=n/\HI (dy n r)=r:=by
 grind [gr,HI,VH]
theorem Qy {h:px} (S:uL h) {P s:Nat} (h0:h P s=[]) {r:Row} (hr:ly r=0) (hk:∀ r',q9 h r'->rk r'≠rk r):uL (mr h P s (dy 0 r))/\(∀ r',q9 (mr h P s (dy 0 r)) r'↔q9 h r'\/r'=r):=by
 simp_all [Nu,Nt,jY]
theorem abO {h:px} (S:uL h) {P s X Y:Nat} (h0:h P s=[]) (h1:h X Y=[]) (jx:¬ (X=P/\Y=s)) (hX:X<=11) (hY:Y<=15) {r:Row} (hr:ly r=0) (hk:∀ r',q9 h r'->rk r'≠rk r):uL (mr (mr h X Y (dy 2 r)) P s (kK X Y))/\(∀ r',q9 (mr (mr h X Y (dy 2 r)) P s (kK X Y)) r'↔q9 h r'\/r'=r):=by
 obtain ⟨c1,c2,c3⟩:=Nu (n:=2) (.inr rfl) hr;obtain ⟨S1,r1,l1⟩:=X4 S h1 c1 c2;have hs:=VI hX hY;have e1:gr (kK X Y)=1:=by grind [gr]
 have e2:oz (kK X Y)=X:=by grind [oz]
 have e3:oA (kK X Y)=Y:=by grind [oA]
 have:=Nt S1 (P:=P) (s:=s) (c:=kK X Y) (r:=r) (by grind [km]) (by rw[hs]) (by grind [kK])
  (.inr ⟨e1,by grind [sS,jY],by grind [sS],by grind,by grind [sS]⟩) (λr' hr'=>hk r' ((r1 r').1 hr'))
 grind
theorem yC {ps:bv} {g:px} (h:∀ Q t,br ps Q t=g Q t):br ps=g:=funext λQ=>funext λt=>h Q t
theorem MB {ps:bv} (hv:f9 ps=0) {x:a7} (hx:x ∈ jJ ps):∃ P s:Nat,br ps P s≠[]/\gr (br ps P s)≠2/\x.1=(P:Int)/\x.2.1=(s:Int)/\fl x=gr (br ps P s)/\pE x=(oz (br ps P s):Int)/\pF x=(oA (br ps P s):Int)/\gy x=rowAt (br ps) P s:=by
 have V:=ov hv;have S:=(pi.1 hv).2;unfold jJ at hx;obtain ⟨y,hy,uR⟩:=dI.1 hx;obtain ⟨P,s,c1,rfl⟩:=(qO V.right).1 hy;unfold sY at uR;split at uR
 ·cases uR
 ·rename_i f1;have xE:=bV.1 uR;have e:=wN V.right P s λhf=>(S.stub P s c1 hf).1;obtain ⟨t1,t2⟩:=HJ (br ps P s);refine ⟨P,s,c1,f1,?_⟩
  rw[xE];refine ⟨?_,?_,?_,?_,?_,e⟩
  all_goals (unfold xh;split)
  all_goals first | rfl | exact t1 | exact t2
theorem Z9 {w:ba} {n P s:Nat} (h:okW w n) (nN:br w.1 P s≠[]) {c:List UInt8} (hc:c.length<=(br w.1 P s).length):(lB w P s c).1=true:=by
 obtain ⟨hP,hs,hz⟩:=vS h.jh nN;have hp:=pw h.jh hP;grind [br,cellOf,pv,sR,lB]
theorem X9 {d:List UInt8} (h:(en d).2=true):3<=d.length:=by
 grind [en]
theorem Z_ {ps:bv} (hv:f9 ps=0) {r:Row} (hr:ly r=0) (hk:∀ r' ∈ dg ps,rk r'≠rk r) {a:Nat×Nat} (ha:(uM (fb ps) r).1=some a):f9 (uM (fb ps) r).2.1=0/\∀ r',r' ∈ dg (uM (fb ps) r).2.1↔r' ∈ dg ps\/r'=r:=by
 obtain ⟨hR,S⟩:=pi.1 hv;have R:=TN (rV hR) hr;obtain ⟨y1,y2,y3,y4⟩:=R.yes a.1 a.2 ha;have e:br (uM (fb ps) r).2.1=mr (br ps) a.1 a.2 (dy 0 r):=yC y4;obtain ⟨S1,r1⟩:=Qy S y3 hr λr' h'=>hk r' ((Ak hv r').2 h');have hv':f9 (uM (fb ps) r).2.1=0:=pi.2 ⟨R.ok.jh,by grind⟩;grind [Ak]
section
variable {ps:bv} (hv:f9 ps=0) {P s:Nat} (c1:br ps P s≠[]) (c2:gr (br ps P s)≠2)
include hv c1 c2
theorem X_ {r:Row} (hr:ly r=0) (mv:Bool) {A B:Nat} (hm:if mv then gr (br ps P s)=1/\A=oz (br ps P s)/\B=oA (br ps P s) else gr (br ps P s)≠1/\A=P/\B=s) (VQ:(qa (fb ps) P s A B mv r).1=true) :
  ∃ g:px,br (qa (fb ps) P s A B mv r).2.1=g/\(g=mr (sZ (br ps) P s) P s (dy 0 r)\/∃ X Y,sZ (br ps) P s X Y=[]/\¬ (X=P/\Y=s)/\X<=11/\Y<=15/\g=mr (mr (sZ (br ps) P s) X Y (dy 2 r)) P s (kK X Y)):=by
 obtain ⟨hR,S⟩:=pi.1 hv;have ho:=rV hR;have EA:∀ f,(dy f r).length<=20:=λf=>by grind [jp]
 have l1:∀ f,1<=(dy f r).length:=λf=>(jp (f:=f) hr).1
 have hAB:br ps A B≠[]/\(mv=true->gr (br ps A B)=2/\¬ (A=P/\B=s)/\br ps P s=kK A B/\A<=11/\B<=15):=by
  cases mv with
  | false=>grind
  | true=>
   obtain ⟨m1,m2,m3⟩:=hm;obtain ⟨a1,a2⟩:=S.stub P s c1 m1;obtain ⟨b1,b2,b3⟩:=VJ (S.read P s c1) m1;grind
 obtain ⟨cAB,hmv⟩:=hAB
 have hd:∀ Q t,sZ (br ps) P s Q t=if (Q=P/\t=s)\/(mv=true/\Q=A/\t=B) then [] else br ps Q t:=by
  intro Q t;unfold sZ mr
  cases mv with
  | false=>
   simp_all
  | true=>
   obtain ⟨m1,m2,m3⟩:=hm;rw[aR m1,<- m2,<- m3];grind
 have R1:=rU ho (P:=A) (s:=B) cAB (l1 (bif mv then 2 else 0));have R2:=uZ R1.ok (l1 2) (EA 2) (A:Int);refine ⟨_,rfl,?_⟩
 unfold qa at VQ ⊢;split at VQ
 ·rename_i hb;rw[aR hb];have e:=R1.yes hb
  cases mv with
  | false=>
   left;obtain ⟨m1,m2,m3⟩:=hm;refine yC λQ t=>?_;rw[e Q t];unfold mr;rw[m2,m3,hd];by_cases h:Q=P/\t=s
   ·grind
   ·rw[aV h,aV h,aV (λhh=>by grind)];rfl
  | true=>
   right;obtain ⟨m4,m5,m6,m7,m8⟩:=hmv rfl;refine ⟨A,B,by grind,m5,m7,m8,yC λQ t=>?_⟩
   rw[e Q t];unfold mr;rw[hd];by_cases h:Q=P/\t=s
   ·rw[aR h,aV (λhh=>m5 ⟨hh.1.symm.trans h.1,hh.2.symm.trans h.2⟩),h.1,h.2];exact m6
   ·rw[aV h];by_cases h2:Q=A/\t=B
    ·grind
    ·rw[aV h2,aV h2,aV (λhh=>by grind)];rfl
 ·rename_i hb;rw[aV hb];have hbf:(lB (fb ps) A B (dy (bif mv then 2 else 0) r)).1=false:=by simpa using hb
  have e:=R1.no hbf
  cases hg:(nZ (lB (fb ps) A B (dy (bif mv then 2 else 0) r)).2 (A:Int) (dy 2 r)).1 with
  | none=>grind
  | some a=>
   obtain ⟨y1,y2,y3,y4⟩:=R2.yes a.1 a.2 hg;rw[e] at y3;have y3':br ps a.1 a.2=[]:=y3;have k1:=uN R2 (oE R1 (Q:=P) (t:=s) c1 jY) jY;have k2:=uN R2 (oE R1 (Q:=A) (t:=B) cAB jY) jY;have n1:¬ (a.1=P/\a.2=s):=λhe=>c1 (by grind);have n2:¬ (a.1=A/\a.2=B):=λhe=>cAB (by grind);have R3:=rU R2.ok k1 (c:=kK a.1 a.2) (by rw[rz];omega)
   have nI:br (nZ (lB (fb ps) A B (dy (bif mv then 2 else 0) r)).2 (A:Int) (dy 2 r)).2.1 P s=br ps P s:=by
    rw[y4,aV (λhe=>n1 ⟨he.1.symm,he.2.symm⟩),e];rfl
   have dp:=Z9 R2.ok k1 (c:=kK a.1 a.2) (by rw[nI,rz];exact X9 (S.read P s c1));have e3:=R3.yes dp;right;refine ⟨a.1,a.2,drop_nil y3',n1,by omega,by omega,yC λQ t=>?_⟩
   have base:∀ Q t,br (lB (nZ (lB (fb ps) A B (dy (bif mv then 2 else 0) r)).2 (A:Int) (dy 2 r)).2 P s (kK a.1 a.2)).2.1 Q t=if Q=P/\t=s then kK a.1 a.2 else if Q=a.1/\t=a.2 then dy 2 r else br ps Q t:=λQ t=>by
    rw[e3,y4,e];rfl
   simp only;unfold mr;rw[hd]
   cases mv with
   | false=>
    grind
   | true=>
    obtain ⟨m4,m5,m6,m7,m8⟩:=hmv rfl;have k3:=oE R3 k2 (by grind [kK]);show br (lS (lB _ P s (kK a.1 a.2)).2 A B).1 Q t=_;rw[(sx R3.ok k3).2.2,base];grind
theorem Qz {r:Row} (hr:ly r=0) (hk:rk (rowAt (br ps) P s)=rk r) (mv:Bool) {A B:Nat} (hm:if mv then gr (br ps P s)=1/\A=oz (br ps P s)/\B=oA (br ps P s) else gr (br ps P s)≠1/\A=P/\B=s) (bf:lA (qa (fb ps) P s A B mv r).2.1) (VQ:(qa (fb ps) P s A B mv r).1=true) :
  f9 (qa (fb ps) P s A B mv r).2.1=0/\∀ r',r' ∈ dg (qa (fb ps) P s A B mv r).2.1↔(r' ∈ dg ps/\rk r'≠rk r)\/r'=r:=by
 obtain ⟨hR,S⟩:=pi.1 hv;obtain ⟨S1,r1⟩:=Qx S c1 c2;rw[hk] at r1;have rD:∀ r',q9 (sZ (br ps) P s) r'->rk r'≠rk r:=λr' h'=>((r1 r').1 h').2;obtain ⟨g,hg,afI⟩:=X_ hv c1 c2 hr mv hm VQ
 have fin:uL g/\∀ r',q9 g r'↔q9 (sZ (br ps) P s) r'\/r'=r:=by
  grind [Qy,X8,abO]
 have hv':f9 (qa (fb ps) P s A B mv r).2.1=0:=pi.2 ⟨bf,by grind⟩;grind [Ak]
end
theorem QA {xs:List Row} (h:(xs.map rk).Nodup):xs.Nodup:=List.Pairwise.of_map rk (λa b h he=>h (cN rk he)) h
theorem aaa {ps:bv} (hv:f9 ps=0) {x:a7} (hx:x ∈ jJ ps):∃ w:ba,HM ps x=vA true w/\okW w 2/\f9 w.1=0/\∀ r',r' ∈ dg w.1↔r' ∈ dg ps/\rk r'≠rk (gy x):=by
 obtain ⟨hR,S⟩:=pi.1 hv;obtain ⟨P,s,c1,c2,x1,x2,x3,x4,x5,x6⟩:=MB hv hx;have ho:=rV hR;obtain ⟨d1,d2,d3⟩:=sx ho c1;obtain ⟨S1,r1⟩:=Qx S c1 c2;unfold HM;rw[x1,x2,x4,x5,aC,aC,aC,aC,x3,x6];by_cases hf:gr (br ps P s)=1
 ·rw[aR hf];obtain ⟨a1,a2⟩:=S.stub P s c1 hf
  have ne:¬ (oz (br ps P s)=P/\oA (br ps P s)=s):=λhe=>by
   grind
  have k1:br (lS (fb ps) P s).1 (oz (br ps P s)) (oA (br ps P s))≠[]:=by rw[d3,aV ne];exact a1
  obtain ⟨e1,e2,e3⟩:=sx d1 k1
  have e:br (lS (lS (fb ps) P s) (oz (br ps P s)) (oA (br ps P s))).1=sZ (br ps) P s:=yC λQ t=>by
   rw[e3,d3];unfold sZ;rw[aR hf];rfl
  have hv':=pi.2 ⟨e1.jh,by grind⟩;grind [Ak]
 ·rw[aV hf]
  have e:br (lS (fb ps) P s).1=sZ (br ps) P s:=yC λQ t=>by
   rw[d3];unfold sZ;rw[aV hf];rfl
  have hv':=pi.2 ⟨d1.jh,by grind⟩;exact ⟨_,rfl,d1.mono Bys,hv',λr'=>by grind [Ak]⟩
theorem Ya {ps:bv} (hv:f9 ps=0) {x:a7} (hx:x ∈ jJ ps) {r:Row} (hr:ly r=0) (hk:rk (gy x)=rk r):D5 ps x r=Gc 9\/∃ w:ba,D5 ps x r=vA true w/\okW w 40/\f9 w.1=0/\∀ r',r' ∈ dg w.1↔(r' ∈ dg ps/\rk r'≠rk r)\/r'=r:=by
 obtain ⟨hR,S⟩:=pi.1 hv;obtain ⟨P,s,c1,c2,x1,x2,x3,x4,x5,x6⟩:=MB hv hx;have ho:=rV hR;have V:=ov hv;unfold D5;by_cases he:Ty.eq bd (gy x) r=true
 ·rw[aR he];right
  have Tc:gy x=r:=by
   exact X6 he
  refine ⟨fb ps,rfl,ho.mono Bys,hv,λr'=>?_⟩
  have iZ:r ∈ dg ps:=by
   grind [Ai,BQ]
  constructor
  ·intro h;by_cases nM:rk r'=rk r
   ·right;have hn:=FY (vw V);exact DL hn h iZ nM
   ·exact .inl ⟨h,nM⟩
  ·rintro (h | rfl)
   ·exact h.1
   ·exact iZ
 ·rw[aV he];by_cases hf:gr (br ps P s)=1
  ·obtain ⟨a1,a2⟩:=S.stub P s c1 hf
   have hm:if (true:Bool) then gr (br ps P s)=1/\oz (br ps P s)=oz (br ps P s)/\oA (br ps P s)=oA (br ps P s) else gr (br ps P s)≠1/\oz (br ps P s)=P/\oA (br ps P s)=s:=⟨hf,rfl,rfl⟩
   rw[x3,aR hf,aR hf,x1,x2,x4,x5,bA hf,aC,aC,aC,aC];have bf:=Iq ho Bys c1 a1 true hr
   cases hy:(qa (fb ps) P s (oz (br ps P s)) (oA (br ps P s)) true r).1 with
   | false=>exact .inl rfl
   | true=>
    right;obtain ⟨v1,v2⟩:=Qz hv c1 c2 hr (by grind) true hm bf.jh hy;grind
  ·have hm:if (false:Bool) then gr (br ps P s)=1/\P=oz (br ps P s)/\s=oA (br ps P s) else gr (br ps P s)≠1/\P=P/\s=s:=⟨hf,rfl,rfl⟩
   rw[x3,aV hf,aV hf,x1,x2,bC hf,aC,aC];have bf:=Iq ho Bys c1 c1 false hr
   cases hy:(qa (fb ps) P s P s false r).1 with
   | false=>exact .inl rfl
   | true=>
    right;obtain ⟨v1,v2⟩:=Qz hv c1 c2 hr (by grind) false hm bf.jh hy;grind
theorem abP {xs ys:List Row} (hx:up xs) (hy:up ys) (h:∀ r,r ∈ xs↔r ∈ ys):xs=ys:=by
 have n1:xs.Nodup:=QA (FY hx);have n2:ys.Nodup:=QA (FY hy);exact XP ((List.perm_ext_iff_of_nodup n1 n2).2 h) hx hy
end OT
namespace OT
open Go
def kT (ps:bv) (c:Change):d7:=
 if f9 ps=0 then
  if om c=0 then
   match vy ps (ck c).1 (ck c).2 with
   | some x=>if c.1&&Ty.eq bd (gy x) c.2.1 then (if c.2.2.1 then D5 ps x c.2.2.2.1 else HM ps x) else Gc 8
   | none=>if c.1 then Gc 8 else vA (uM (fb ps) c.2.2.2.1).1.isSome (uM (fb ps) c.2.2.2.1).2
  else Gc (om c)
 else Gc (f9 ps)
section
variable {ps:bv} (hp:∀ p ∈ ps,p.length<=maxLen)
include hp
theorem Ir {c:Change} (h:om c=0) (hw:c.1=false):c.2.2.1=true:=by
 grind [om]
theorem QB {c:Change} (hv:f9 ps=0) (hf:om c=0):se.ae (ps,c,())=some (match vy ps (ck c).1 (ck c).2 with
  | some x=>if c.1&&Ty.eq bd (gy x) c.2.1 then (if c.2.2.1 then D5 ps x c.2.2.2.1 else HM ps x) else Gc 8
  | none=>if c.1 then Gc 8 else vA (uM (fb ps) c.2.2.2.1).1.isSome (uM (fb ps) c.2.2.2.1).2,()):=by
 have hV:=ov hv;refine ah (k:=0) λk _=>(se.af k _).trans ?_;show se.p _=_;unfold se.p;rw[BN];simp only[aA,Sa ps hV.right,D4]
 cases hx:vy ps (ck c).1 (ck c).2 with
 | none=>
  simp only
  cases hw:c.1 with
  | true=>rfl
  | false=>
   have hi:=(sE hf).2 (Ir hp hf hw);rw[VM hV.right hi];rfl
 | some x=>
  have hm:=cX hx;grind [gy,VO,VN,sE]
theorem Sf {c:Change} (hc:cl c):qp.ae (ps,c,())=some (kT ps c,()):=by
 refine ah (k:=0) λk _=>(qp.af k _).trans ?_;show qp.p _=_;unfold qp.p kT;rw[Az ps hp];simp only[aA,Bn c hc,vm];by_cases hv:f9 ps=0
 ·rw[aR hv,bA hv,aO];by_cases hf:om c=0
  ·have hV:=ov hv;have hl:=A7 hV;have ho:=rV hV.right;rw[aR hf,bA hf,aN,aE,AA _ Bys,Qw hV.right];simp only[aA];have yM:(dg ps).length<=2000000:=by grind [dg]
   rw[show (vv ps).map (·.1)=dg ps from rfl,Nk c (dg ps) (vw hV) yM];have Ku:(rx c).1=(ck c).1:=by rw[<-yB c]
   have nM:(rx c).2.1=(ck c).2:=by rw[<-yB c]
   simp only[aA,Ku,nM,Sb _ (show (vv ps).length<=1000 by omega),X0 hV];have ol:=HG hV (ck c).1 (ck c).2
   cases hx:vy ps (ck c).1 (ck c).2 with
   | none=>
    rw[hx] at ol;simp only at ol
    have e:xg (dg ps) c=!c.1:=by
     grind [xg]
    rw[e]
    cases hw:c.1 with
    | true=>rfl
    | false=>
     have hi:=(sE hf).2 (Ir hp hf hw);grind [VL,Dc]
   | some x=>
    have hm:=cX hx;rw[hx] at ol;obtain ⟨f1,f2,f3,f4⟩:=ol
    have e:xg (dg ps) c=(c.1&&Ty.eq bd (gy x) c.2.1):=by
     grind [xg]
    rw[e];dsimp only
    cases hw:c.1 with
    | false=>rfl
    | true=>
     cases Ty.eq bd (gy x) c.2.1 with
     | false=>rfl
     | true=>
      simp only[bQ,fL,aN,aE,aJ]
      cases hi:c.2.2.1 with
      | true=>
       have e:=Se hV hm ((sE hf).2 hi);simp only[aO,aJ];cases hu:kG.ae (fb ps,qA x,c.2.2.2.1,()) <;> grind
      | false=>
       have e:=VP hV hm;simp only[aE,aF,aS];cases hu:lL.ae (fb ps,qA x,()) <;> grind
  ·rw[aV hf,bC hf,bZ,aO];rfl
 ·rw[aV hv,bC hv,aE,bZ,aO];rfl
end
end OT
namespace OT
open Go
theorem BT {ok:Bool} {w:ba} (h:(vA ok w).1=0):ok=true/\vA ok w=((0:Int),w.2.1,w.1,()):=by
 unfold vA at h ⊢
 cases ok with
 | true=>exact ⟨rfl,rfl⟩
 | false=>exact absurd h (show ¬ (9:Int)=0 by decide)
theorem Yb {ps:bv} (hv:f9 ps=0) {r:Row} (hr:ly r=0) (hn:vy ps r.1 r.2.1=none) (h0:(vA (uM (fb ps) r).1.isSome (uM (fb ps) r).2).1=0):f9 (uM (fb ps) r).2.1=0/\∀ r',r' ∈ dg (uM (fb ps) r).2.1↔r' ∈ dg ps\/r'=r:=by
 have V:=ov hv;obtain ⟨ha,_⟩:=BT h0;obtain ⟨a,ha⟩:=eB.1 ha;refine Z_ hv hr (λr' hr' he=>?_) ha;have hf:=HG V r.1 r.2.1;rw[hn] at hf;simp only at hf;obtain ⟨i,hi,hx⟩:=eI hr';have:=(Qv (vw V) hi (k:=(r.1,r.2.1)) (by rw[hx];exact he)).1;rw[hf] at this;cases this
theorem TO {d:List UInt8} (h:(en d).2=true) (h1:gr d≠1):ly (HI d)=0:=by
 unfold gr at h1;unfold HI;unfold en at h h1 ⊢;split at h
 ·rename_i hc;rw[aR hc] at h1;exact absurd rfl h1
 ·rename_i hc;rw[aV hc];split at h
  ·cases h
  ·rename_i IG;rw[aV IG]
   simpa using h
theorem Yc {ps:bv} (hv:f9 ps=0):Good (dg ps):=by
 refine ⟨vw (ov hv),λr hr=>?_⟩
 have S:=(pi.1 hv).2;obtain ⟨P,s,c1,f1,rfl⟩:=(Ak hv r).1 hr;unfold rowAt;split
 ·rename_i hf;obtain ⟨a1,a2⟩:=S.stub P s c1 hf;exact TO (S.read _ _ a1) (by rw[a2];decide)
 ·rename_i hf;exact TO (S.read _ _ c1) hf
theorem Yd {ps:bv} (hv:f9 ps=0) {c:Change} (hc:om c=0) (h0:(kT ps c).1=0):f9 (kT ps c).2.2.1=0/\dg (kT ps c).2.2.1=rK (dg ps) c:=by
 have V:=ov hv;have hu:=vw V;have hdu:up (rK (dg ps) c):=(A6 (Yc hv) hc).up
 have fin:∀ {w:ba},f9 w.1=0->(∀ r',r' ∈ dg w.1↔(r' ∈ dg ps/\rk r'≠ck c)\/(c.2.2.1=true/\r'=c.2.2.2.1))->f9 w.1=0/\dg w.1=rK (dg ps) c:=λ{w} h1 h2=>
  ⟨h1,abP (vw (ov h1)) hdu λr'=>by rw[h2,Z8 hu]⟩
 unfold kT at h0 ⊢;rw[aR hv,aR hc] at h0 ⊢;have ol:=HG V (ck c).1 (ck c).2
 cases hx:vy ps (ck c).1 (ck c).2 with
 | none=>
  rw[hx] at ol h0;simp only at ol h0 ⊢
  cases hw:c.1 with
  | true=>rw[hw] at h0;exact absurd h0 (show ¬ (8:Int)=0 by decide)
  | false=>
   rw[hw] at h0;simp only[aF,aS] at h0 ⊢;have hi:=Ir (ps:=[]) (λp hp=>by cases hp) hc hw;have hr:=(sE hc).2 hi;have hk:=(sE hc).1 hi
   have hn:vy ps c.2.2.2.1.1 c.2.2.2.1.2.1=none:=by
    have:rk c.2.2.2.1=((ck c).1,(ck c).2):=hk;unfold rk at this;injection this with e1 e2;rw[e1,e2];exact hx
   obtain ⟨v1,v2⟩:=Yb hv hr hn h0;rw[(BT h0).2];refine fin v1 λr'=>?_;rw[v2];constructor
   ·rintro (h | h)
    ·refine .inl ⟨h,λhe=>?_⟩;obtain ⟨i,hi2,Pa⟩:=eI h;have:=(Qv hu hi2 (k:=ck c) (by rw[Pa];exact he)).1;rw[show ck c=((ck c).1,(ck c).2) from rfl,ol] at this;cases this
    ·exact .inr ⟨hi,h⟩
   ·rintro (h | h)
    ·exact .inl h.1
    ·exact .inr h.2
 | some x=>
  have hm:=cX hx;rw[hx] at ol h0;obtain ⟨f1,f2,f3,f4⟩:=ol;simp only at h0 ⊢;have f4':rk (gy x)=ck c:=f4
  cases hb:(c.1&&Ty.eq bd (gy x) c.2.1) with
  | false=>rw[hb] at h0;exact absurd h0 (show ¬ (8:Int)=0 by decide)
  | true=>
   rw[hb] at h0;simp only[aJ] at h0 ⊢
   cases hi:c.2.2.1 with
   | true=>
    rw[hi] at h0;simp only[aJ] at h0 ⊢;have hr:=(sE hc).2 hi;have hk:=(sE hc).1 hi
    rcases Ya hv hm hr (by rw[f4',hk]) with e | ⟨w,e,ok,v1,v2⟩
    ·rw[e] at h0;exact absurd h0 (show ¬ (9:Int)=0 by decide)
    ·rw[e];refine fin v1 λr'=>?_;rw[v2,hk];simp only[hi,dE]
   | false=>
    rw[hi] at h0;simp only[aF,aS] at h0 ⊢;obtain ⟨w,e,ok,v1,v2⟩:=aaa hv hm;rw[e];refine fin v1 λr'=>?_;rw[v2,f4'];simp only[hi,aF,iM,or_false]
end OT
namespace OT
open Go
def n7 (ps:bv) (e:rQ):bv:=if e.1.toNat=ps.length then ps++[e.2.1] else ps.set e.1.toNat e.2.1
def I6 (ps:bv) (es:List rQ):bv:=es.foldl n7 ps
theorem abQ (ps:bv) (es:List rQ) (e:rQ):I6 ps (es++[e])=n7 (I6 ps es) e:=by
 grind [I6]
def MC (ps:bv) (e:rQ):Prop:=List.length e.2.1=64/\0<=e.1/\e.1<=(ps.length:Int)/\e.1 < 12
def BU:bv->List rQ->Prop
 | _,[]=>True
 | ps,e::es=>MC ps e/\BU (n7 ps e) es
theorem Nv {ps:bv}:∀ {es:List rQ} {e:rQ},BU ps es->MC (I6 ps es) e->BU ps (es++[e])
 | [],e,_,h=>⟨h,trivial⟩
 | x::es,e,h,h2=>⟨h.1,Nv (ps:=n7 ps x) h.2 h2⟩
theorem abR {ps:bv} {P:Nat} {b:List UInt8} (h:lA (n7 ps ((P:Int),b,()))) (hP:P<=ps.length):MC ps ((P:Int),b,()):=by
 have hm:b ∈ n7 ps ((P:Int),b,())/\P < (n7 ps ((P:Int),b,())).length:=by
  grind [n7,List.mem_set]
 have zK:=h.1;exact ⟨(h.2 b hm.1).len,by grind,by grind,by grind⟩
def adf (ps:bv) (es:List rQ) (B:Nat->List Row):Prop:=∀ j,j<=es.length->f9 (I6 ps (es.take j))=0/\dg (I6 ps (es.take j))=B j
structure afw (ps:bv) (w:ba) (B0:List Row):Prop where
 at_:I6 ps w.2.1=w.1
 ed:BU ps w.2.1
 way:adf ps w.2.1 λ_=>B0
structure afs (ps:bv) (w:ba) (B0 B1:List Row):Prop where
 at_:I6 ps w.2.1=w.1
 ed:BU ps w.2.1
 way:∃ m,m<=List.length w.2.1/\adf ps w.2.1 λj=>if j < m then B0 else B1
theorem VR {w:ba} {P:Nat} (hP:P<=List.length w.1) (b:List UInt8):ox w P b=w\/((ox w P b).2.1=w.2.1++[((P:Int),b,())]/\(ox w P b).1=n7 w.1 ((P:Int),b,())):=by
 grind [ox,n7]
end OT
namespace OT
open Go
structure Lk (ps:bv) (w:ba):Prop where
 at_:I6 ps w.2.1=w.1
 ed:BU ps w.2.1
section
variable {ps:bv} {w:ba} {n:Nat}
theorem Lk.Be (h:Lk ps w) {P:Nat} {b:List UInt8} {m:Nat} (ho:okW (ox w P b) m) (hP:P<=List.length w.1):Lk ps (ox w P b):=by
 rcases VR hP b with e | ⟨e1,e2⟩
 ·rw[e];exact h
 ·refine ⟨by rw[e1,abQ,h.at_,e2],?_⟩
  rw[e1];exact Nv h.ed (by rw[h.at_];exact abR (by rw[<-e2];exact ho.jh) hP)
theorem Lk.comp (h:Lk ps w) (ho:okW w n) {P:Nat} (hP:P < List.length w.1):Lk ps (oS w P):=h.Be (yf ho hP) (eV hP)
theorem Lk.tU (h:Lk ps w) (ho:okW w n) {P:Nat} (hP:P < List.length w.1) {c:List UInt8} (hc:1<=c.length):Lk ps (tU w P c).2:=by
 have R:=(C8 ho hP hc).ok;have hk:=h.comp ho hP;unfold OT.tU at R ⊢;by_cases h8:m9 (il w.1 P) c=8
 ·rw[aR h8] at R ⊢;by_cases h0:m9 (mP (il w.1 P)) c=0
  ·rw[aR h0] at R ⊢;exact hk.Be R (by rw[uY hP];omega)
  ·rw[aV h0];exact hk
 ·rw[aV h8] at R ⊢;by_cases h0:m9 (il w.1 P) c=0
  ·rw[aR h0] at R ⊢;exact h.Be R (eV hP)
  ·rw[aV h0];exact h
theorem Lk.lB (h:Lk ps w) (ho:okW w n) {P s:Nat} (nN:br w.1 P s≠[]) {c:List UInt8} (hc:1<=c.length):Lk ps (lB w P s c).2:=by
 have R:=(rU ho nN hc).ok;have hP:=(vS ho.jh nN).1;have hk:=h.comp ho hP;unfold OT.lB at R ⊢;by_cases h8:sR (il w.1 P) s c=8
 ·rw[aR h8] at R ⊢;by_cases h0:sR (mP (il w.1 P)) s c=0
  ·rw[aR h0] at R ⊢;exact hk.Be R (by rw[uY hP];omega)
  ·rw[aV h0];exact hk
 ·rw[aV h8] at R ⊢;by_cases h0:sR (il w.1 P) s c=0
  ·rw[aR h0] at R ⊢;exact h.Be R (eV hP)
  ·rw[aV h0];exact h
theorem Lk.lS (h:Lk ps w) (ho:okW w n) {P s:Nat} (nN:br w.1 P s≠[]):Lk ps (lS w P s):=h.Be (sx ho nN).1 (eV (vS ho.jh nN).1)
end
theorem Lk.kZ {ps:bv} {c:List UInt8} (hc:1<=c.length) (no:Int):∀ (l:List Nat) (w:ba) (n:Nat),Lk ps w->okW w n->(∀ P ∈ l,P < List.length w.1)->Lk ps (kZ c no l w).2
 | [],w,n,h,_,_=>h
 | P::l,w,n,h,ho,hl=>by
  unfold OT.kZ;split
  ·exact Lk.kZ hc no l w n h ho λQ hQ=>hl Q (aW _ hQ)
  ·have hP:=hl P bB;have R:=C8 ho hP hc;have hk:=h.tU ho hP hc;split
   ·exact hk
   ·exact Lk.kZ hc no l _ _ hk R.ok λQ hQ=>by rw[R.len];exact hl Q (aW _ hQ)
section
variable {ps:bv} {w:ba} {n:Nat}
theorem Lk.nZ (h:Lk ps w) (ho:okW w n) {c:List UInt8} (lY:1<=c.length) (hc:c.length<=20) (no:Int):Lk ps (nZ w no c).2:=by
 have R:=(uZ ho lY hc no).ok;have G:=xk lY no (List.range (List.length w.1)) w n ho λP hP=>cD.1 hP;have hk:=Lk.kZ lY no (List.range (List.length w.1)) w n h ho λP hP=>cD.1 hP;unfold OT.nZ at R ⊢
 cases hr:(OT.kZ c no (List.range (List.length w.1)) w).1 with
 | some a=>exact hk
 | none=>
  rw[hr] at R;simp only at R ⊢;by_cases zK:12<=List.length w.1
  ·rw[aR zK];exact hk
  ·rw[aV zK] at R ⊢;exact hk.Be R (by rw[(G.no hr).1];omega)
theorem Lk.qa (h:Lk ps w) (ho:okW w n) {P s A B:Nat} (h1:br w.1 P s≠[]) (h2:br w.1 A B≠[]) (mv:Bool) {r:Row} (hr:ly r=0):Lk ps (qa w P s A B mv r).2:=by
 have R1:=rU ho h2 (jp (f:=bif mv then 2 else 0) hr).1;have L1:=h.lB ho h2 (jp (f:=bif mv then 2 else 0) hr).1;have R2:=uZ R1.ok (jp (f:=2) hr).1 (by have:=(jp (f:=2) hr).2;omega) (A:Int);have L2:=L1.nZ R1.ok (jp (f:=2) hr).1 (by have:=(jp (f:=2) hr).2;omega) (A:Int);unfold OT.qa;split
 ·exact L1
 ·split
  ·exact L2
  ·rename_i a ha;have k1:=uN R2 (oE R1 h1 jY) jY;have k2:=uN R2 (oE R1 h2 jY) jY;have R3:=rU R2.ok k1 (c:=kK a.1 a.2) (by rw[rz];omega);have L3:=L2.lB R2.ok k1 (c:=kK a.1 a.2) (by rw[rz];omega)
   cases mv with
   | false=>exact L3
   | true=>exact L3.lS R3.ok (oE R3 k2 (by unfold kK;simp))
end
theorem Lk.start {ps:bv}:Lk ps (fb ps):=⟨rfl,trivial⟩
theorem MD {ps:bv} (hv:f9 ps=0) {c:Change} (hc:om c=0) (h0:(kT ps c).1=0):∃ w:ba,kT ps c=((0:Int),w.2.1,w.1,())/\okW w 40/\Lk ps w:=by
 obtain ⟨hR,S⟩:=pi.1 hv;have ho:=rV hR;have hL:Lk ps (fb ps):=Lk.start;unfold kT at h0 ⊢;rw[aR hv,aR hc] at h0 ⊢
 cases hx:vy ps (ck c).1 (ck c).2 with
 | none=>
  rw[hx] at h0;simp only at h0 ⊢
  cases hw:c.1 with
  | true=>rw[hw] at h0;exact absurd h0 (show ¬ (8:Int)=0 by decide)
  | false=>
   rw[hw] at h0;simp only[aF,aS] at h0 ⊢;have hr:=(sE hc).2 (Ir (ps:=[]) (λp hp=>by cases hp) hc hw);have hk:=hL.nZ ho (jp (f:=0) hr).1 (by have:=(jp (f:=0) hr).2;omega) (-1);rw[(BT h0).2];exact ⟨_,rfl,(TN ho hr).ok.mono Bys,hk⟩
 | some x=>
  have hm:=cX hx;obtain ⟨P,s,c1,c2,x1,x2,x3,x4,x5,x6⟩:=MB hv hm;rw[hx] at h0;simp only at h0 ⊢
  cases hb:(c.1&&Ty.eq bd (gy x) c.2.1) with
  | false=>rw[hb] at h0;exact absurd h0 (show ¬ (8:Int)=0 by decide)
  | true=>
   rw[hb] at h0;simp only[aJ] at h0 ⊢
   cases hi:c.2.2.1 with
   | true=>
    rw[hi] at h0;simp only[aJ] at h0 ⊢;have hr:=(sE hc).2 hi;unfold D5 at h0 ⊢;by_cases he:Ty.eq bd (gy x) c.2.2.2.1=true
    ·rw[aR he];exact ⟨_,rfl,ho.mono Bys,hL⟩
    ·rw[aV he] at h0 ⊢;rw[(BT h0).2];by_cases hf:gr (br ps P s)=1
     ·obtain ⟨a1,a2⟩:=S.stub P s c1 hf;rw[x3,aR hf,aR hf,x1,x2,x4,x5,bA hf,aC,aC,aC,aC];exact ⟨_,rfl,(Iq ho Bys c1 a1 true hr).mono Bys,hL.qa ho c1 a1 true hr⟩
     ·rw[x3,aV hf,aV hf,x1,x2,bC hf,aC,aC];exact ⟨_,rfl,(Iq ho Bys c1 c1 false hr).mono Bys,hL.qa ho c1 c1 false hr⟩
   | false=>
    simp only[aF,aS];obtain ⟨d1,d2,d3⟩:=sx ho c1;have L1:=hL.lS ho c1;unfold HM;rw[x1,x2,x4,x5,aC,aC,aC,aC,x3];by_cases hf:gr (br ps P s)=1
    ·rw[aR hf];obtain ⟨a1,a2⟩:=S.stub P s c1 hf
     have ne:¬ (oz (br ps P s)=P/\oA (br ps P s)=s):=λhe=>by
      rw[he.1,he.2] at a2;exact c2 a2
     have k1:br (lS (fb ps) P s).1 (oz (br ps P s)) (oA (br ps P s))≠[]:=by rw[d3,aV ne];exact a1
     exact ⟨_,rfl,(sx d1 k1).1.mono Bys,L1.lS d1 k1⟩
    ·rw[aV hf];exact ⟨_,rfl,d1.mono Bys,L1⟩
end OT
namespace OT
open Go
def ux (x:cq):List UInt8:=UInt8.ofInt x.1::UInt8.ofInt (List.length x.2.1:Int)::x.2.1
def mc (xs:List cq):List UInt8:=xs.flatMap ux
def vB (r:bg):List UInt8:=[(0:UInt8),UInt8.ofInt r.1,UInt8.ofInt r.2.1,UInt8.ofInt r.2.2.1,UInt8.ofInt (List.length r.2.2.2.1:Int)]
def yg (s:Int) (l:List UInt8):Int:=l.foldl (λs c=>(s*31+(c.toNat:Int)) % 65521) s
def QC (r:bg):List UInt8:=(vB r++mc r.2.2.2.1).set 0 (UInt8.ofInt (ag (((vB r++mc r.2.2.2.1).length:Int)+2)))
def vC (r:bg):List UInt8:=QC r++[UInt8.ofInt ((yg 1 (QC r)) / 256),UInt8.ofInt (yg 1 (QC r))]
def zw (r:bg):Prop:=List.length r.2.2.2.1<=64/\∀ x ∈ r.2.2.2.1,List.length x.2.1<=64
theorem QD {r:bg} (h:ru r=0):zw r:=by
 have:=yz h;refine ⟨this.2.2.2.2.2.2.1,λx hx=>?_⟩
 grind [bl]
theorem BV (x:cq) (xs:List cq):mc (x::xs)=ux x++mc xs:=fF
theorem HN {xs:List cq} (h:∀ x ∈ xs,List.length x.2.1<=64):(mc xs).length<=66*xs.length:=by
 induction xs <;> grind [mc,ux]
theorem abS (r:bg):(QC r).length=5+(mc r.2.2.2.1).length:=by grind [QC,vB]
theorem Nw (r:bg):(vC r).length=7+(mc r.2.2.2.1).length:=by
 grind [vC,abS]
theorem D6 {r:bg} (h:zw r):(vC r).length<=5000:=by
 rw[Nw];have:=HN h.2;have:=h.1;omega
theorem TP:∀ (l:List UInt8) (s:Int),0<=s/\s < 65521->0<=yg s l/\yg s l < 65521
 | [],s,h=>h
 | c::l,s,h=>TP l ((s*31+(c.toNat:Int)) % 65521) ⟨Int.emod_nonneg _ Bys,Int.emod_lt_of_pos _ Bys⟩
theorem Ye {s:Int} (h:0<=s):UInt8.ofInt (s.tmod 256)=UInt8.ofInt s:=by
 grind [UInt8.ofInt]
theorem HO:∀ (xs:List cq) (s:List UInt8),xs.foldl (λs x=>s++ux x) s=s++mc xs
 | [],s=>by simp[mc]
 | x::xs,s=>by rw[eQ,HO,BV,cA]
theorem QE {s:Int} {c:UInt8} (h:0<=s/\s < 65521):((ag ((ag (s*(31:Int)))+(ag (c.toNat:Int)))).tmod (65521:Int))=(s*31+(c.toNat:Int)) % 65521:=by
 have hc:=c.toNat_lt;grind [bh]
theorem VS (l:List UInt8) (h:l.length<=100000):pO.ae (l,())=some (yg 1 l,()):=by
 refine ah (k:=100001) λk hk=>(pO.af k _).trans ?_
 have:=ci (B:=λself v=>pO.b0 self (λz=>pO.q0 (l,()) z) (l,()) v) l (λ(s:Int) (i:Int)=>(s,i)) (λ_ s c=>.inr ((s*31+(c.toNat:Int)) % 65521)) (λs=>(s,())) (λ_ s=>0<=s/\s < 65521) (by rw[au];omega)
  (λi hi s self hI=>by
   grind [pO.b0,QE])
  (λi hi s s' hI hs=>by grind) (λs self _=>by
   grind [pO.b0,pO.q0]) 1 Bys k Bys
 rw[gt] at this;exact this
theorem I7 (r:bg) (h:zw r):j6.ae (r,())=some (vC r,()):=by
 obtain ⟨K,T,P,xs,⟨⟩⟩:=r;obtain ⟨h1,h2⟩:=h;simp only at h1 h2;refine ah (k:=100) λk hk=>(j6.af k _).trans ?_
 have hlen:∀ i,(mc (xs.take i)).length<=66*64:=λi=>by
  grind [HN]
 have:=ci (B:=λself v=>j6.b0 self (λz=>j6.q0 ((K,T,P,xs,()),()) z) ((K,T,P,xs,()),()) v) xs (λ(s:List UInt8) (i:Int)=>(s,i)) (λ_ s x=>.inr (s++ux x)) (λs=>(let q:=s.set 0 (UInt8.ofInt (ag ((s.length:Int)+2)));(q++[UInt8.ofInt ((yg 1 q) / 256),UInt8.ofInt (yg 1 q)],())))
  (λi s=>s=vB (K,T,P,xs,())++mc (xs.take i)) (by rw[au];omega)
  (λi hi s self hI=>by
   show j6.b0 _ _ _ _=_;unfold j6.b0;have a_:(i:Int) < (xs.length:Int):=by omega
   have hs:s.length<=5000:=by grind [vB,List.length_cons]
   have hx:=h2 xs[i] (aP hi);simp only[a_,aI,aO,aK,aJ,aC,aB hi,aA]
   grind [cv,ux])
  (λi hi s s' hI hs=>by
   grind [List.take_succ_eq_append_getElem,mc]) (λs self hI=>by
   show j6.b0 _ _ _ _=_;unfold j6.b0;have hs:5<=s.length/\s.length<=5000:=by grind [vB]
   simp only[aU,aG,aE,j6.q0,j6.q0]
   have c0:(0:Int)<=0/\(0:Int) < (s.length:Int):=⟨by omega,by omega⟩
   rw[aR c0,aB (by omega:0 < s.length)];simp only[aA];generalize hq:s.set 0 (UInt8.ofInt (ag ((s.length:Int)+2)))=q;have hql:q.length=s.length:=by grind
   rw[VS q Bys];simp only[aA];have hb:=TP q 1 Bys;have c1:q.length+[UInt8.ofInt (ag ((yg 1 q).tdiv 256)),UInt8.ofInt ((yg 1 q).tmod 256)].length<=b9:=cv (by grind)
   grind [Ye,bh]) (vB (K,T,P,xs,())) (by simp[mc]) k Bys
 rw[gt,HO] at this;exact this
theorem I8 (r:bg) (h:zw r):ii.ae (r,())=some (vC r,()):=by
 obtain ⟨K,T,P,xs,⟨⟩⟩:=r;obtain ⟨h1,h2⟩:=h;simp only at h1 h2;refine ah (k:=6000) λk hk=>(ii.af k _).trans ?_
 have hlen:∀ i,(mc (xs.take i)).length<=66*64:=λi=>by
  grind [HN]
 have af2:∀ q:List UInt8,q.length<=5000->ii.r1 k ((K,T,P,xs,()),()) q (q.length:Int) (1,0)=some (q++[UInt8.ofInt ((yg 1 q) / 256),UInt8.ofInt (yg 1 q)],()):=λq hq=>by
  have:=ci (B:=λself v=>ii.b1 self (λz=>ii.q1 ((K,T,P,xs,()),()) q (q.length:Int) z) ((K,T,P,xs,()),()) q (q.length:Int) v) q (λ(s:Int) (i:Int)=>(s,i)) (λ_ s c=>.inr ((s*31+(c.toNat:Int)) % 65521)) (λs=>(q++[UInt8.ofInt (s / 256),UInt8.ofInt s],())) (λ_ s=>0<=s/\s < 65521) (by rw[au];omega)
   (λi hi s self hI=>by
    grind [ii.b1,QE])
   (λi hi s s' hI hs=>by grind) (λs self hI=>by
    grind [ii.b1,ii.q1,cv]) 1 Bys k Bys
  rw[gt] at this;exact this
 have:=ci (B:=λself v=>ii.b0 self (λz=>ii.Q0 k ((K,T,P,xs,()),()) z) ((K,T,P,xs,()),()) v) xs (λ(s:List UInt8) (i:Int)=>(s,i)) (λ_ s x=>.inr (s++ux x)) (λs=>(let q:=s.set 0 (UInt8.ofInt (ag ((s.length:Int)+2)));(q++[UInt8.ofInt ((yg 1 q) / 256),UInt8.ofInt (yg 1 q)],())))
  (λi s=>s=vB (K,T,P,xs,())++mc (xs.take i)) (by rw[au];omega)
  (λi hi s self hI=>by
   show ii.b0 _ _ _ _=_;unfold ii.b0;have a_:(i:Int) < (xs.length:Int):=by omega
   have hs:s.length<=5000:=by grind [vB]
   have hx:=h2 xs[i] (aP hi);simp only[a_,aI,aO,aK,aJ,aC,aB hi,aA];generalize xs[i]=x at hx;have c1:s.length+[UInt8.ofInt x.1,UInt8.ofInt (List.length x.2.1:Int)].length<=b9:=cv (by grind);have c2:(s++[UInt8.ofInt x.1,UInt8.ofInt (List.length x.2.1:Int)]).length+List.length x.2.1<=b9:=cv (by grind)
   grind [ux])
  (λi hi s s' hI hs=>by
   grind [List.take_succ_eq_append_getElem,mc]) (λs self hI=>by
   show ii.b0 _ _ _ _=_;unfold ii.b0;have hs:5<=s.length/\s.length<=5000:=by rw[hI];have:=hlen xs.length;simp only[bU,vB,bM,cY];omega
   grind [ii.Q0,ii.q0]) (vB (K,T,P,xs,())) (by simp[mc]) k Bys
 rw[gt,HO] at this;exact this
end OT
namespace OT
open Go
def da (D:List UInt8) (i:Nat):Nat:=(D.getD i 0).toNat
theorem rX (D:List UInt8) (i:Nat):da D i < 256:=iH _
theorem rN {D:List UInt8} {i:Nat} (h:i < D.length):D[i]?=some D[i]/\(D[i]).toNat=da D i:=⟨aB h,by simp[da,h]⟩
def piece (D:List UInt8) (at' n:Nat):cq:=((da D at':Int),(D.take (at'+2+n)).drop (at'+2),())
def pI (D:List UInt8) (e:Nat):Nat->Nat->List cq->Option (List cq×Nat)
 | 0,a,rs=>some (rs,a)
 | c+1,a,rs=>if e < a+2 then none else if e < a+2+da D (a+1) then none else pI D e c (a+2+da D (a+1)) (rs++[piece D a (da D (a+1))])
def pS (D:List UInt8):Nat->Nat->List cq->List cq
 | 0,_,rs=>rs
 | c+1,a,rs=>if a+2<=D.length then (if D.length < a+2+da D (a+1) then rs else pS D c (a+2+da D (a+1)) (rs++[piece D a (da D (a+1))])) else rs
theorem VT {D:List UInt8} {e:Nat} (he:e<=D.length):∀ (c a:Nat) (rs Ny:List cq) (a':Nat),pI D e c a rs=some (Ny,a')->pS D c a rs=Ny
 | 0,a,rs,Ny,a',h=>by injection h with h;injection h
 | c+1,a,rs,Ny,a',h=>by
  simp only[pI] at h;split at h
  ·cases h
  ·split at h
   ·cases h
   ·simp only[pS];rw[aR Bys,aV Bys];exact VT he c _ _ _ _ h
theorem TQ {e:Nat}:∀ (ys:List cq) (pre DN:List UInt8) (rs:List cq),(∀ y ∈ ys,0<=y.1/\y.1<=63/\1<=bl y/\bl y<=64)->pre.length+(mc ys).length<=e ->
  pI (pre++mc ys++DN) e ys.length pre.length rs=some (rs++ys,pre.length+(mc ys).length)
 | [],pre,DN,rs,_,_=>by simp[pI,mc]
 | y::ys,pre,DN,rs,h,he=>by
  obtain ⟨b1,b2,b3,b4⟩:=h y (by simp);unfold bl at b3 b4;have hD:pre++mc (y::ys)++DN=(pre++ux y)++mc ys++DN:=by grind [BV]
  have hf1:(ux y).length=2+List.length y.2.1:=by grind [ux]
  have Em:(mc (y::ys)).length=2+List.length y.2.1+(mc ys).length:=by grind [List.length_append]
  have h8:∀ n:Int,0<=n->n<=64->((UInt8.ofInt n).toNat:Int)=n:=λn h1 h2=>by
   simp[UInt8.ofInt,gT];omega
  have g0:(da (pre++mc (y::ys)++DN) pre.length:Int)=y.1:=by
   grind [da,ux]
  have g1:da (pre++mc (y::ys)++DN) (pre.length+1)=List.length y.2.1:=by
   unfold da;grind [BV,ux,Nat.add_sub_cancel_left]
  have g2:piece (pre++mc (y::ys)++DN) pre.length (List.length y.2.1)=y:=by
   obtain ⟨yi,yb,⟨⟩⟩:=y;unfold piece;have g0:(da (pre++mc ((yi,yb,())::ys)++DN) pre.length:Int)=yi:=g0;rw[g0]
   have:((pre++mc ((yi,yb,())::ys)++DN).take (pre.length+2+yb.length)).drop (pre.length+2)=yb:=by
    rw[BV];simp only[ux,cA,dR];rw[List.take_append,gZ];have e1:List.take (pre.length+2+yb.length) pre=pre:=List.take_of_length_le Bys;have e2:pre.length+2+yb.length - pre.length=yb.length+1+1:=by omega
    simp_all
   grind
  simp only[bM,pI];rw[aV Bys,g1,aV Bys,g2,hD];have hl:(pre++ux y).length=pre.length+2+List.length y.2.1:=by grind
  have:=TQ (e:=e) ys (pre++ux y) DN (rs++[y]) (λz hz=>h z (by simp[hz])) (by rw[hl];omega);grind
def uy (d:List UInt8):Option (bg×Nat):=
 if d.length < 7\/da d 0 < 7\/d.length < da d 0 then none else
 match pI (d.take (da d 0)) (da d 0 - 2) (da d 4) 5 [] with
 | none=>none
 | some (rs,a)=>if a=da d 0 - 2/\ru ((da d 1:Int),(da d 2:Int),(da d 3:Int),rs,())=0/\vC ((da d 1:Int),(da d 2:Int),(da d 3:Int),rs,())=d.take (da d 0) then
   some (((da d 1:Int),(da d 2:Int),(da d 3:Int),rs,()),da d 0) else none
theorem QF {d:List UInt8} {n i:Nat} (h:i < n) (hn:n<=d.length):da (d.take n) i=da d i:=by
 grind [da]
theorem aev {D:List UInt8} (hl:7<=D.length) {rs:List cq} (QG:pS D (da D 4) 5 []=rs) {k t p:Int} (hr:ru (k,t,p,rs,())=0) (hp:vC (k,t,p,rs,())=D):pI D (D.length - 2) (da D 4) 5 []=some (rs,D.length - 2):=by
 have hg:=yz hr;have h1:=hg.2.2.2.2.2.2.1;have h2:=hg.2.2.2.2.2.2.2;simp only at h1 h2;have hlen:=Nw (k,t,p,rs,());rw[hp] at hlen;simp only at hlen
 have adg:∃ (pre DN:List UInt8),pre.length=5/\D=pre++mc rs++DN/\pre[4]?=some (UInt8.ofInt (List.length rs:Int)):=by
  refine ⟨(vB (k,t,p,rs,())).set 0 (UInt8.ofInt (ag (((vB (k,t,p,rs,())++mc rs).length:Int)+2))),[UInt8.ofInt ((yg 1 (QC (k,t,p,rs,()))) / 256),UInt8.ofInt (yg 1 (QC (k,t,p,rs,())))],by simp[vB],?_,by simp[vB]⟩
  rw[<-hp];rfl
 obtain ⟨pre,DN,s1,s2,s3⟩:=adg
 have h4:da D 4=List.length rs:=by
  unfold da;rw[s2];simp only[dZ,cA];rw[bO Bys,s3];simp[UInt8.ofInt,gT];omega
 grind [TQ]
theorem qP {n:Nat} (h:n<=4000000000):ag (n:Int)=(n:Int):=bh Bys
theorem QH (a b:List UInt8) (h:a.length<=100000):fw.ae (a,b,())=some (decide (a=b),()):=by
 refine ah (k:=100001) λk hk=>(fw.af k _).trans ?_;unfold fw.p;by_cases hl:a.length=b.length;rotate_left
 ·have h1:¬ ((a.length:Int)=(b.length:Int)):=by omega
  have h2:¬ a=b:=λe=>hl (by rw[e]);grind
 have yx:(a.length:Int)=(b.length:Int):=by omega
 simp only[yx,aI,aN,aE]
 have key:∀ (m i:Nat),a.length - i=m->i<=a.length->∀ j,m < j->am (λself v=>fw.B0 k self (λz=>fw.Q0 k (a,b,()) z) (a,b,()) v) j (i:Int)=some (decide (a.drop i=b.drop i),()):=by
  intro m
  induction m with
  | zero=>
   intro i hm hi j hj;have:i=a.length:=by omega
   subst this
   cases j with
   | zero=>omega
   | succ j=>
    show fw.b0 _ _ _ _=_;grind [fw.b0,fw.q0]
  | succ m ih=>
   intro i hm hi j hj;have a_:i < a.length:=by omega
   cases j with
   | zero=>omega
   | succ j=>
    show fw.b0 _ _ _ _=_;unfold fw.b0;have afo:(i:Int) < (a.length:Int):=by omega
    have hlb:i < b.length:=by omega
    have hw:ag ((i:Int)+1)=((i+1:Nat):Int):=by grind [bh]
    simp only[afo,aI,aO,aK,aJ,aC,aB a_,aB hlb,aA,hw];rw[cP a_,cP hlb];by_cases he:a[i]=b[i]
    ·grind [List.cons.injEq]
    ·have:¬ (((a[i]).toNat:Int)=((b[i]).toNat:Int)):=λe=>he (fM.1 Bys);have h2:¬ (a[i]::a.drop (i+1)=b[i]::b.drop (i+1)):=λe=>he (by injection e);grind
 have:=key a.length 0 Bys Bys k Bys;simp only[eD] at this;exact this
def VU:bg:=((0:Int),(0:Int),(0:Int),([]:List cq),())
theorem Yf {D:List UInt8} (hD:7<=D.length) (hD2:D.length<=255) {a1:mG.A} {e0:(bg×Int)->Option mG.O} {K T P N:Int} (hN:0<=N/\N<=255) {k:Nat} :
  ∀ (c a i:Nat) (rs:List cq),(i:Int)+c=N->a<=D.length - 2->rs.length<=i->∀ j,c < j ->
   am (λself v=>mG.B0 k self e0 a1 D ((D.length - 2:Nat):Int) N v) j ((K,T,P,rs,()),(a:Int),(i:Int))=match pI D (D.length - 2) c a rs with
    | none=>some (VU,(0:Int),())
    | some (Ny,a')=>e0 ((K,T,P,Ny,()),(a':Int)):=by
 intro c
 induction c with
 | zero=>
  intro a i rs hi ha QG j hj
  cases j with
  | zero=>omega
  | succ j=>
   show mG.b0 _ _ a1 _ _ _ _=_;grind [mG.b0,pI]
 | succ c ih=>
  intro a i rs hi ha QG j hj
  cases j with
  | zero=>omega
  | succ j=>
   show mG.b0 _ _ a1 _ _ _ _=_;unfold mG.b0;have h1:(i:Int) < N:=by omega
   have e1:ag ((a:Int)+2)=((a+2:Nat):Int):=by grind [bh]
   have e2:ag ((a:Int)+1)=((a+1:Nat):Int):=by grind [bh]
   have e3:ag ((i:Int)+1)=((i+1:Nat):Int):=by grind [bh]
   simp only[h1,aI,aO,e1,e2,e3,pI];by_cases h2:D.length - 2 < a+2
   ·have:((D.length - 2:Nat):Int) < ((a+2:Nat):Int):=by omega
    simp only[this,aI,aO,aR h2];rfl
   have O7:¬ ((D.length - 2:Nat):Int) < ((a+2:Nat):Int):=by omega
   obtain ⟨g1,g2⟩:=rN (show a+1 < D.length by omega);obtain ⟨g3,g4⟩:=rN (show a < D.length by omega);have hb:=rX D (a+1);have SL:=rX D a;simp only[O7,aG,aE,aV h2,aK,aJ,aC,g1,g3,aA,g2,g4,qP (show da D (a+1)<=4000000000 by omega),qP (show da D a<=4000000000 by omega)];have e4:ag (((a+2:Nat):Int)+(da D (a+1):Int))=((a+2+da D (a+1):Nat):Int):=by rw[bh Bys];omega
   have e5:ag ((2:Int)+(da D (a+1):Int))=((2+da D (a+1):Nat):Int):=by grind [bh]
   have e6:ag ((a:Int)+((2+da D (a+1):Nat):Int))=((a+2+da D (a+1):Nat):Int):=by grind
   simp only[e4,e5,e6];by_cases h3:D.length - 2 < a+2+da D (a+1)
   ·have:((D.length - 2:Nat):Int) < ((a+2+da D (a+1):Nat):Int):=by omega
    simp only[this,aI,aO,aR h3];rfl
   have S7:¬ ((D.length - 2:Nat):Int) < ((a+2+da D (a+1):Nat):Int):=by omega
   have h4:((a+2:Nat):Int)<=((a+2+da D (a+1):Nat):Int)/\((a+2+da D (a+1):Nat):Int)<=(D.length:Int):=by omega
   simp only[S7,aG,aE,aV h3,h4,cI,aJ,aC];rw[mY _ (by simp only[cC,dC];omega)];have hc:rs.length+[(((da D a:Nat):Int),((D.take (a+2+da D (a+1))).drop (a+2)),())].length<=b9:=cv (by grind [List.length_nil]);simp only[aA,hc,aJ];exact ih (a+2+da D (a+1)) (i+1) _ Bys Bys (by simp;omega) j Bys
theorem Yg {D:List UInt8} (hD:7<=D.length) (hD2:D.length<=255) {e0:bg->Option mt.O} {K T P:Int} {k:Nat} :
  ∀ (c a i:Nat) (rs:List cq),i+c=da D 4->a<=600->rs.length<=i->∀ j,c < j ->
   am (λself v=>mt.B0 k self e0 (D,()) v) j ((K,T,P,rs,()),(a:Int),(i:Int))=e0 (K,T,P,pS D c a rs,()):=by
 intro c
 induction c with
 | zero=>
  intro a i rs hi ha QG j hj
  cases j with
  | zero=>omega
  | succ j=>
   show mt.b0 _ _ (D,()) _=_;grind [mt.b0,rX,qP,da,pS]
 | succ c ih=>
  intro a i rs hi ha QG j hj
  cases j with
  | zero=>omega
  | succ j=>
   show mt.b0 _ _ (D,()) _=_;unfold mt.b0;obtain ⟨g1,g2⟩:=rN (show 4 < D.length by omega);have hb4:=rX D 4;have h1:(i:Int) < (da D 4:Int):=by omega
   have e1:ag ((a:Int)+2)=((a+2:Nat):Int):=by grind [bh]
   have e2:ag ((a:Int)+1)=((a+1:Nat):Int):=by grind [bh]
   have e3:ag ((i:Int)+1)=((i+1:Nat):Int):=by grind [bh]
   simp only[g1,aA,g2,qP (show da D 4<=4000000000 by omega),h1,aI,aO,e1,e2,e3,pS];by_cases h2:a+2<=D.length;rotate_left
   ·grind
   have O7:((a+2:Nat):Int)<=(D.length:Int):=by omega
   obtain ⟨g5,g6⟩:=rN (show a+1 < D.length by omega);obtain ⟨g3,g4⟩:=rN (show a < D.length by omega);have hb:=rX D (a+1);have SL:=rX D a;simp only[O7,aI,aO,aR h2,aK,aJ,aC,g5,g3,aA,g6,g4,qP (show da D (a+1)<=4000000000 by omega),qP (show da D a<=4000000000 by omega)];have e4:ag (((a+2:Nat):Int)+(da D (a+1):Int))=((a+2+da D (a+1):Nat):Int):=by grind [bh]
   simp only[e4];by_cases h3:D.length < a+2+da D (a+1)
   ·grind
   have S7:¬ (D.length:Int) < ((a+2+da D (a+1):Nat):Int):=by omega
   have h4:((a+2:Nat):Int)<=((a+2+da D (a+1):Nat):Int)/\((a+2+da D (a+1):Nat):Int)<=(D.length:Int):=by omega
   simp only[S7,aG,aE,aV h3,h4,cI,aJ,aC];rw[nr _ (by grind)];have hc:rs.length+[(((da D a:Nat):Int),((D.take (a+2+da D (a+1))).drop (a+2)),())].length<=b9:=cv (by grind);simp only[aA,hc,aJ];exact ih (a+2+da D (a+1)) (i+1) _ Bys Bys (by simp;omega) j Bys
theorem Sg (d:List UInt8) (hd:d.length<=2000000000):mG.ae (d,())=some (match uy d with | none=>(VU,(0:Int),()) | some (r,n)=>(r,(n:Int),())):=by
 refine ah (k:=300) λk hk=>(mG.af k _).trans ?_;unfold mG.p uy;by_cases h7:d.length < 7
 ·have:(d.length:Int) < 7:=by omega
  simp only[this,aI,aO,h7,true_or,aJ];rfl
 have h7':¬ (d.length:Int) < 7:=by omega
 obtain ⟨g1,g2⟩:=rN (show 0 < d.length by omega);have hb:=rX d 0;simp only[h7',aG,aE,h7,iJ,g1,aA,g2,qP (show da d 0<=4000000000 by omega)];by_cases hl:d.length < da d 0
 ·have:(d.length:Int) < (da d 0:Int):=by omega
  simp only[this,aI,aO,hl,or_true,aJ];rfl
 have yx:¬ (d.length:Int) < (da d 0:Int):=by omega
 by_cases hm:da d 0 < 7
 ·have:(da d 0:Int) < 7:=by omega
  simp only[yx,aG,aE,this,aI,aO,hm,true_or,aJ];rfl
 have Ng:¬ (da d 0:Int) < 7:=by omega
 have iZ:0<=(da d 0:Int)/\(da d 0:Int)<=(d.length:Int):=by omega
 simp only[yx,Ng,aG,aE,hl,hm,or_self,aS,iZ,cI,aJ,aC,eD];generalize hDD:d.take (da d 0)=D;have hDl:D.length=da d 0:=by grind
 have ga:∀ i,i < da d 0->da D i=da d i:=λi hi=>by grind [QF]
 obtain ⟨q1,q2⟩:=rN (show 1 < D.length by omega);obtain ⟨q3,q4⟩:=rN (show 2 < D.length by omega);obtain ⟨q5,q6⟩:=rN (show 3 < D.length by omega);obtain ⟨q7,q8⟩:=rN (show 4 < D.length by omega);have b1:=rX d 1;have b2:=rX d 2;have b3:=rX d 3;have b4:=rX d 4;have ew:ag ((D.length:Int) - 2)=((D.length - 2:Nat):Int):=by grind [bh]
 simp only[q1,q3,q5,q7,aA,q2,q4,q6,q8,ga 1 Bys,ga 2 Bys,ga 3 Bys,ga 4 Bys,ew,qP (show da d 1<=4000000000 by omega),qP (show da d 2<=4000000000 by omega),qP (show da d 3<=4000000000 by omega),qP (show da d 4<=4000000000 by omega)];have hp:=Yf (D:=D) Bys Bys (a1:=(d,())) (e0:=λz=>mG.Q0 k (d,()) D ((D.length - 2:Nat):Int) (da d 4:Int) z) (K:=(da d 1:Int)) (T:=(da d 2:Int)) (P:=(da d 3:Int)) (N:=(da d 4:Int)) Bys (k:=k) (da d 4) 5 0 [] Bys Bys (aH _) k Bys;refine aL hp ?_;rw[<-hDl]
 cases CK:pI D (D.length - 2) (da d 4) 5 [] with
 | none=>rfl
 | some q=>
  obtain ⟨rs,a⟩:=q;simp only[mG.Q0,mG.q0];by_cases ha:a=D.length - 2;rotate_left
  ·have:¬ ((a:Int)=((D.length - 2:Nat):Int)):=by omega
   simp only[this,aG,bZ,aO,ha,iM,aS];rfl
  subst ha;simp only[aI,aN,aE,FA,aA,dE];by_cases hr:ru ((da d 1:Int),(da d 2:Int),(da d 3:Int),rs,())=0;rotate_left
  ·simp only[hr,aG,bZ,aO,iM,aS];rfl
  have hs:=QD hr;have ji:=D6 hs;simp only[hr,aI,aN,aE,I8 _ hs,aA,dE];rw[QH _ _ Bys];by_cases he:vC ((da d 1:Int),(da d 2:Int),(da d 3:Int),rs,())=D
  ·grind
  ·simp only[he,aG,aA,bZ,aO,aS];rfl
theorem Sh (d:List UInt8) (hd:d.length<=2000000000):oI.ae (d,())=some (match uy d with | none=>(((5:Int),(0:Int),VU,()),()) | some (r,n)=>(((0:Int),(n:Int),r,()),())):=by
 refine ah (k:=300) λk hk=>(oI.af k _).trans ?_;show oI.p _=_;unfold oI.p uy;by_cases h7:d.length < 7
 ·have:(d.length:Int) < 7:=by omega
  simp only[this,aI,aO,h7,true_or,aJ];rfl
 have h7':¬ (d.length:Int) < 7:=by omega
 obtain ⟨g1,g2⟩:=rN (show 0 < d.length by omega);have hb:=rX d 0;simp only[h7',aG,aE,h7,iJ,g1,aA,g2,qP (show da d 0<=4000000000 by omega)];by_cases hm:da d 0 < 7
 ·have:(da d 0:Int) < 7:=by omega
  simp only[this,aI,aO,hm,true_or,aJ];rfl
 have Ng:¬ (da d 0:Int) < 7:=by omega
 by_cases hl:d.length < da d 0
 ·have:(d.length:Int) < (da d 0:Int):=by omega
  simp only[Ng,aG,aE,this,aI,aO,hl,or_true,aJ];rfl
 have yx:¬ (d.length:Int) < (da d 0:Int):=by omega
 have iZ:0<=(da d 0:Int)/\(da d 0:Int)<=(d.length:Int):=by omega
 simp only[yx,Ng,aG,aE,hl,hm,or_self,aS,iZ,cI,aJ,aC,eD];generalize hDD:d.take (da d 0)=D;have hDl:D.length=da d 0:=by grind
 have ga:∀ i,i < da d 0->da D i=da d i:=λi hi=>by grind [QF]
 have Of:mt.ae (D,())=some (((da d 1:Int),(da d 2:Int),(da d 3:Int),pS D (da d 4) 5 [],()),()):=by
  refine ah (k:=300) λk hk=>(mt.af k _).trans ?_;unfold mt.p;obtain ⟨q1,q2⟩:=rN (show 1 < D.length by omega);obtain ⟨q3,q4⟩:=rN (show 2 < D.length by omega);obtain ⟨q5,q6⟩:=rN (show 3 < D.length by omega);have b1:=rX d 1;have b2:=rX d 2;have b3:=rX d 3;have b4:=rX d 4;simp only[q1,q3,q5,aA,q2,q4,q6,ga 1 Bys,ga 2 Bys,ga 3 Bys,qP (show da d 1<=4000000000 by omega),qP (show da d 2<=4000000000 by omega),qP (show da d 3<=4000000000 by omega)];have hp:=Yg (D:=D) Bys Bys (e0:=λz=>mt.Q0 k (D,()) z) (K:=(da d 1:Int)) (T:=(da d 2:Int)) (P:=(da d 3:Int)) (k:=k) (da D 4) 5 0 [] Bys Bys (aH _) k (by grind);refine aL hp ?_;rw[ga 4 Bys];rfl
 rw[Of];simp only[aA,Fz];rw[<-hDl];generalize QG:pS D (da d 4) 5 []=rs;by_cases hr:ru ((da d 1:Int),(da d 2:Int),(da d 3:Int),rs,())=0
 ·have hs:=QD hr;simp only[hr,aI,aN,aE,I7 _ hs,aA];by_cases he:vC ((da d 1:Int),(da d 2:Int),(da d 3:Int),rs,())=D
  ·have h4:da D 4=da d 4:=ga 4 Bys;have CK:=aev (D:=D) Bys (by grind) hr he;grind
  ·simp only[he,aG,bZ,aO]
   cases CK:pI D (D.length - 2) (da d 4) 5 [] with
   | none=>rfl
   | some q=>
    obtain ⟨Ny,a'⟩:=q;have:=VT Bys _ _ _ _ _ CK;rw[QG] at this;subst this;simp only[he,and_false,aS];rfl
 ·simp only[hr,aG,bZ,aO]
  cases CK:pI D (D.length - 2) (da d 4) 5 [] with
  | none=>rfl
  | some q=>
   obtain ⟨Ny,a'⟩:=q;have:=VT Bys _ _ _ _ _ CK;rw[QG] at this;subst this;simp only[hr,iM,and_false,aS];rfl
end OT
namespace OT
open Go
theorem EB {d:List UInt8} {r:bg} {n:Nat} (h:uy d=some (r,n)):7<=n/\n<=d.length/\ru r=0:=by
 grind [uy]
theorem Yh:uy []=none:=rfl
def kU:Nat->List UInt8->List bg×Nat
 | 0,_=>([],0)
 | k+1,d=>match uy d with
  | none=>([],0)
  | some (r,n)=>(r::(kU k (d.drop n)).1,n+(kU k (d.drop n)).2)
theorem xU:∀ (k k':Nat) (d:List UInt8),d.length < k->d.length < k'->kU k d=kU k' d
 | 0,_,_,h,_=>by omega
 | _+1,0,_,_,h=>by omega
 | k+1,k'+1,d,h,h'=>by
  simp only[kU]
  cases hr:uy d with
  | none=>rfl
  | some q=>
   obtain ⟨r,n⟩:=q;have hn:=EB hr;have:(d.drop n).length=d.length - n:=cC;simp only;rw[xU k k' (d.drop n) Bys Bys]
def xt (d:List UInt8):List bg×Nat:=kU (d.length+1) d
theorem Lv (d:List UInt8) (hd:d.length<=1048576):ml.ae (d,())=some ((xt d).1,((xt d).2:Int),()):=by
 refine ah (k:=1048578) λk hk=>(ml.af k _).trans ?_
 have key:∀ (m a:Nat) (acc:List bg),d.length - a=m->a<=d.length->acc.length<=a->∀ j,m < j ->
   am (λself v=>ml.B0 k self (d,()) v) j (acc,(a:Int))=some (acc++(kU (m+1) (d.drop a)).1,((a+(kU (m+1) (d.drop a)).2:Nat):Int),()):=by
  intro m
  induction m using Nat.strongRecOn with
  | ind m ih=>
  intro a acc hm ha afp j hj
  cases j with
  | zero=>omega
  | succ j=>
   show ml.b0 _ _ _=_;unfold ml.b0;have iZ:(0:Int)<=(a:Int)/\(a:Int)<=(d.length:Int):=by omega
   simp only[iZ,cI,aJ,aC,eM];rw[Sg _ (by simp;omega)];simp only[aA,kU]
   cases hr:uy (d.drop a) with
   | none=>grind
   | some q=>
    obtain ⟨r,n⟩:=q;have hn:=EB hr;have hl:(d.drop a).length=d.length - a:=cC;have h0:¬ ((n:Int)=0):=by omega
    have hc:acc.length+[r].length<=b9:=cv (by grind);have ew:ag ((a:Int)+(n:Int))=((a+n:Nat):Int):=by grind [bh]
    simp only[h0,aG,aE,hc,aJ,ew];have:=ih (d.length - (a+n)) Bys (a+n) (acc++[r]) rfl Bys (by simp;omega) j Bys;grind [List.drop_drop,xU]
 have:=key d.length 0 [] rfl Bys (aH _) k Bys;simp only[eD,cJ,bE] at this;exact this
theorem Lw (d:List UInt8) (hd:d.length<=1048576):kN.ae (d,())=some ((xt d).1,((xt d).2:Int),()):=by
 refine ah (k:=1048578) λk hk=>(kN.af k _).trans ?_
 have key:∀ (m a:Nat) (acc:List bg),d.length - a=m->a<=d.length->acc.length<=a->∀ j,m < j ->
   am (λself v=>kN.B0 k self (λz=>kN.Q0 k (d,()) z) (d,()) v) j (acc,(a:Int))=some (acc++(kU (m+1) (d.drop a)).1,((a+(kU (m+1) (d.drop a)).2:Nat):Int),()):=by
  intro m
  induction m using Nat.strongRecOn with
  | ind m ih=>
  intro a acc hm ha afp j hj
  cases j with
  | zero=>omega
  | succ j=>
   show kN.b0 _ _ (d,()) _=_;unfold kN.b0;by_cases a_:a < d.length;rotate_left
   ·grind [kN.q0,kU,Yh]
   have zP:(a:Int) < (d.length:Int):=by omega
   have iZ:(0:Int)<=(a:Int)/\(a:Int)<=(d.length:Int):=by omega
   simp only[zP,aI,aO,iZ,cI,aJ,aC,eM];rw[Sh _ (by simp;omega)];simp only[aA,kU]
   cases hr:uy (d.drop a) with
   | none=>
    grind [kN.q0]
   | some q=>
    obtain ⟨r,n⟩:=q;have hn:=EB hr;have hl:(d.drop a).length=d.length - a:=cC;have hc:acc.length+[r].length<=b9:=cv (by grind);have ew:ag ((a:Int)+(n:Int))=((a+n:Nat):Int):=by grind [bh]
    simp only[aI,aN,aE,hc,aJ,ew];have:=ih (d.length - (a+n)) Bys (a+n) (acc++[r]) rfl Bys (by simp;omega) j Bys;grind [List.drop_drop,xU]
 have:=key d.length 0 [] rfl Bys (aH _) k Bys;simp only[eD,cJ,bE] at this;exact this
def QI (l:Log):Prop:=List.length l.1<=1048576/\List.length l.2.1<=1048576
def zx (d:List UInt8):Bool:=decide ((xt d).2=d.length)
def zy (l:Log):Int:=if 16000 < List.length l.1+List.length l.2.1 then 2 else if zx l.1&&zx l.2.1 then 0 else 5
theorem VV (l:Log) (h:QI l):rj.ae (l,())=some (zy l,()):=by
 refine ah (k:=0) λk _=>(rj.af k _).trans ?_;show rj.p _=_;unfold rj.p zy;obtain ⟨h1,h2⟩:=h;grind [bh,Lw,zx]
theorem size_eq (l:Log) (h:QI l):mX.ae (l,())=some (((List.length l.1+List.length l.2.1:Nat):Int),()):=by
 refine ah (k:=0) λk _=>(mX.af k _).trans ?_;show mX.p _=_;unfold mX.p;obtain ⟨h1,h2⟩:=h;grind [bh]
theorem VW (l:Log) (h:QI l):kX.ae (l,())=some (zy l,()):=by
 refine ah (k:=5) λk hk=>(kX.af k _).trans ?_;unfold kX.p zy;rw[size_eq l h]
 have hl:∀ x ∈ [l.1,l.2.1],List.length x<=1048576:=by
  intro x hx;simp only[aY,List.not_mem_nil,or_false] at hx;rcases hx with e | e <;> subst e
  ·exact h.1
  ·exact h.2
 have:=ci (B:=λself v=>kX.b0 self (λz=>kX.q0 (l,()) z) (l,()) v) [l.1,l.2.1] (λ(_:Unit) (i:Int)=>i) (λ_ _ x=>if zx x then .inr () else .inl (5,())) (λ_=>(0,())) (λ_ _=>True) (by rw[au];simp)
  (λi hi s self hI=>by
   grind [kX.b0,Lv,zx])
  (λ_ _ _ _ _ _=>trivial) (λs self _=>by
   grind [kX.b0,kX.q0]) () trivial k (by grind)
 rw[tE zx (5,()) (λ_=>(0,()))] at this;have this:kX.r0 k (l,()) 0=_:=this;grind
theorem VX (l:Log) (r:bg) (h:QI l) (hs:zw r):qj.ae (l,r,())=some (if 16000 < List.length l.1+List.length l.2.1+(vC r).length then (l,false,()) else ((l.1,l.2.1++vC r,()),true,())):=by
 have ji:=D6 hs;obtain ⟨o1,o2⟩:=h;refine ah (k:=0) λk _=>(qj.af k _).trans ?_;show qj.p _=_;unfold qj.p
 have hcp:nk.ae (l,())=some (l,()):=by
  refine ah (k:=0) λk _=>(nk.af k _).trans ?_;grind [nk.p,nr]
 grind [bh,cv,I7]
theorem VY (l:Log) (r:bg) (h:QI l) (hs:zw r):oD.ae (l,r,())=some (if 16000 < List.length l.1+List.length l.2.1+(vC r).length then (l,false,()) else ((l.1,l.2.1++vC r,()),true,())):=by
 have ji:=D6 hs;have bf:=h;obtain ⟨o1,o2⟩:=h;refine ah (k:=0) λk _=>(oD.af k _).trans ?_;grind [oD.p,bh,cv,I8,size_eq,mY]
theorem TR (l:Log) (g1:List.length l.1<=2000000) (g2:List.length l.2.1<=2000000):oY.ae (l,())=some (l,()):=by
 refine ah (k:=0) λk _=>(oY.af k _).trans ?_;grind [oY.p,mY]
end OT
namespace OT
open Go
def DO (x:Tx):Int:=if FI x=0 then wI x else FI x
theorem Nz {α:Type} (c:Nat->α->Int):∀ (xs:List α) (i:Nat),bq (λi (_:Unit) y=>if c i y=0 then .inr () else .inl (c i y,())) (λ_=>((0:Int),())) i xs ()=(bq (λi (_:Unit) y=>if c i y=0 then .inr () else .inl (c i y)) (λ_=>(0:Int)) i xs (),())
 | [],_=>rfl
 | y::ys,i=>by simp only[bq];by_cases h0:c i y=0 <;> simp[h0,Nz c ys (i+1)]
theorem BW {α:Type} (c:Nat->α->Int) (E:Option (Int×Unit)):∀ (xs:List α) (i:Nat),bq (λi (_:Unit) y=>if c i y=0 then .inr () else .inl (some (c i y,()))) (λ_=>E) i xs () =
  if bq (λi (_:Unit) y=>if c i y=0 then .inr () else .inl (c i y)) (λ_=>(0:Int)) i xs ()=0 then E else some (bq (λi (_:Unit) y=>if c i y=0 then .inr () else .inl (c i y)) (λ_=>(0:Int)) i xs (),())
 | [],_=>rfl
 | y::ys,i=>by simp only[bq];by_cases h0:c i y=0 <;> simp[h0,BW c E ys (i+1)]
theorem I9 {α:Type} (c:α->Int):∀ (xs:List α) (i:Nat),bq (λ_ (_:Unit) y=>if c y=0 then .inr () else .inl (c y)) (λ_=>(0:Int)) i xs ()=nO c xs
 | [],_=>rfl
 | y::ys,i=>by simp only[bq,nO];by_cases h0:c y=0 <;> simp[h0,I9 c ys (i+1)]
theorem VZ (x:Tx) (h:tl x):e_.ae (x,())=some (DO x,()):=by
 obtain ⟨h1,h2,h3,h4⟩:=h;refine ah (k:=1048577) λk hk=>(e_.af k _).trans ?_
 have V0:List.length x.2.2.2.1<=12->e_.r2 k (x,()) (0:Int)=some (zl x.2.2.2.1,()):=λhl=>by
  have:=ci (B:=λself v=>e_.b2 self (λz=>e_.q2 (x,()) z) (x,()) v) x.2.2.2.1 (λ(_:Unit) (i:Int)=>i) (λi _ y=>if tP x.2.2.2.1 i y=0 then .inr () else .inl (tP x.2.2.2.1 i y,())) (λ_=>(0,())) (λ_ _=>True) (by rw[au];omega)
   (λi hi s self _=>by
    grind [e_.b2,tP,ZP,contains_eq,au])
   (λ_ _ _ _ _ _=>trivial) (λs self _=>by
    show e_.b2 _ _ _ _=_;unfold e_.b2;simp only[aU,aG,aE]
    rfl) () trivial k Bys
  rw[Nz (tP x.2.2.2.1)] at this;exact this
 have second:List.length x.2.2.1<=8->List.length x.2.2.2.1<=12->e_.r1 k (x,()) ((0:Int),(0:Int))=some (if Lb (List.length x.2.1:Int) 0 x.2.2.1 then zl x.2.2.2.1 else 3,()):=λhm hl=>by
  have:=eh (B:=λself v=>e_.b1 self (λz=>e_.Q1 k (x,()) z) (x,()) v) x.2.2.1 (λ(last:Int) (i:Int)=>(last,i)) (λ_ last m=>if lD m last (List.length x.2.1:Int) then .inr m else .inl (some ((3:Int),()))) (λ_=>some (zl x.2.2.2.1,())) (λ_ _=>True) (by rw[au];omega)
   (λi hi last self _=>by
    grind [e_.b1,uV,lD])
   (λ_ _ _ _ _ _=>trivial) (λlast self _=>by
    show e_.b1 _ _ _ _=_;unfold e_.b1;simp only[aU,aG,aE]
    exact V0 hl) 0 trivial k Bys
  rw[P4] at this;refine aL this ?_;grind [Lb]
 have after:e_.Q0 k (x,()) ()=some (wI x,()):=by
  show e_.q0 _ _ _=_;grind [e_.q0,wI]
 have:=eh (B:=λself v=>e_.b0 self (λz=>e_.Q0 k (x,()) z) (x,()) v) x.2.1 (λ(_:Unit) (i:Int)=>i) (λ_ _ c=>if Av x.2.2.2.1 c=0 then .inr () else .inl (some (Av x.2.2.2.1 c,()))) (λ_=>some (wI x,())) (λ_ _=>True) (by rw[au];omega)
  (λi hi s self _=>by
   show e_.b0 _ _ _ _=_;unfold e_.b0;have a_:(i:Int) < (List.length x.2.1:Int):=by omega
   simp only[a_,aI,aO,aK,aJ,aC,aB hi,aA,Ho _ (h4 _ (aP hi)),abL]
   grind [contains_eq,au,Av])
  (λ_ _ _ _ _ _=>trivial) (λs self _=>by
   grind [e_.b0]) () trivial k Bys
 rw[BW (λ_=>Av x.2.2.2.1),I9] at this;refine aL this ?_;grind [DO,FI]
def xV (xs:List Tx) (k:Key):Int:=match xs with
 | []=>0
 | x::xs=>if mE x.2.2.2.1 k then x.1 else xV xs k
def EC (xs:List Tx):Prop:=xs.length<=1048576/\∀ x ∈ xs,tl x
theorem NA (k:Key):∀ (xs:List Tx) (i:Nat),bq (λ_ (_:Unit) x=>if mE x.2.2.2.1 k then .inl (x.1,()) else .inr ()) (λ_=>((0:Int),())) i xs ()=(xV xs k,())
 | [],_=>rfl
 | x::xs,i=>by simp only[bq,xV];cases mE x.2.2.2.1 k <;> simp[NA k xs (i+1)]
theorem aab {x:Tx} (h:tl x):List.length x.2.2.2.1<=maxLen:=by rw[au];have:=h.2.2.1;omega
theorem Si (xs:List Tx) (k0:Key) (h:EC xs):nQ.ae (xs,k0,())=some (xV xs k0,()):=by
 obtain ⟨h1,h2⟩:=h;refine ah (k:=xs.length+1) λk hk=>(nQ.af k _).trans ?_
 have:=ci (B:=λself v=>nQ.b0 self (λz=>nQ.q0 (xs,k0,()) z) (xs,k0,()) v) xs (λ(_:Unit) (i:Int)=>i) (λ_ _ x=>if mE x.2.2.2.1 k0 then .inl (x.1,()) else .inr ()) (λ_=>(0,())) (λ_ _=>True) (by rw[au];omega)
  (λi hi s self _=>by
   grind [nQ.b0,P3,aab])
  (λ_ _ _ _ _ _=>trivial) (λs self _=>by
   show nQ.b0 _ _ _ _=_;unfold nQ.b0;simp only[aU,aG,aE]
   rfl) () trivial k Bys
 rw[NA] at this;exact this
def D7 (xs:List Tx):Int:=xs.foldl (λn x=>n+(List.length x.2.1:Int)) 0
theorem QJ (xs:List Tx) (h:EC xs):mf.ae (xs,())=some (D7 xs,()):=by
 obtain ⟨h1,h2⟩:=h;refine ah (k:=xs.length+1) λk hk=>(mf.af k _).trans ?_
 have:=ci (B:=λself v=>mf.b0 self (λz=>mf.q0 (xs,()) z) (xs,()) v) xs (λ(n:Int) (i:Int)=>(n,i)) (λ_ n x=>.inr (n+(List.length x.2.1:Int))) (λn=>(n,())) (λi n=>0<=n/\n<=1048576*(i:Int)) (by rw[au];omega)
  (λi hi n self hI=>by
   show mf.b0 _ _ _ _=_;unfold mf.b0;have a_:(i:Int) < (xs.length:Int):=by omega
   have hx:=(h2 _ (aP hi)).1
   grind [bh])
  (λi hi n n' hI hs=>by
   injection hs with hs;have hx:=(h2 _ (aP hi)).1
   omega) (λs self _=>by
   show mf.b0 _ _ _ _=_;unfold mf.b0;simp only[aU,aG,aE]
   rfl) 0 Bys k Bys
 rw[gt] at this;exact this
theorem QL (xs:List Tx) (h:EC xs):oc.ae (xs,())=some (D7 xs,()):=by
 obtain ⟨h1,h2⟩:=h;refine ah (k:=xs.length+1) λk hk=>(oc.af k _).trans ?_
 have:=ci (B:=λself v=>oc.b0 self (λz=>oc.q0 (xs,()) z) (xs,()) v) xs (λ(n:Int) (i:Int)=>(n,i)) (λ_ n x=>.inr (n+(List.length x.2.1:Int))) (λn=>(n,())) (λi n=>0<=n/\n<=1048576*(i:Int)) (by rw[au];omega)
  (λi hi n self hI=>by
   show oc.b0 _ _ _ _=_;unfold oc.b0;have a_:(i:Int) < (xs.length:Int):=by omega
   have hx:=(h2 _ (aP hi)).1
   grind [bh])
  (λi hi n n' hI hs=>by
   injection hs with hs;have hx:=(h2 _ (aP hi)).1
   omega) (λs self _=>by
   show oc.b0 _ _ _ _=_;unfold oc.b0;simp only[aU,aG,aE]
   rfl) 0 Bys k Bys
 rw[gt] at this;exact this
def wO (xs:List Tx) (i:Nat) (x:Tx):Int:=if lD x.1 1 99 then (if 0 < i then (match xs[i - 1]? with
    | some y=>if x.1<=y.1 then 1 else DO x
    | none=>1) else DO x) else 3
def DP (xs:List Tx):Int:=bq (λi (_:Unit) x=>if wO xs i x=0 then .inr () else .inl (wO xs i x)) (λ_=>(0:Int)) 0 xs ()
def flatK (xs:List Tx):List Key:=xs.flatMap λx=>x.2.2.2.1
def ED (xs:List Tx):Bool:=decide (flatK xs).Nodup
def D8 (xs:List Tx):Int:=if 4 < xs.length then 2 else if DP xs=0 then (if ED xs then (if 12 < D7 xs then 2 else 0) else 7) else DP xs
theorem DQ (xs:List Tx) (h:DP xs=0):∀ i (hi:i < xs.length),wO xs i xs[i]=0:=by
 have main:∀ (ys:List Tx) (j:Nat),(bq (λi (_:Unit) x=>if wO xs i x=0 then .inr () else .inl (wO xs i x)) (λ_=>(0:Int)) j ys ())=0->∀ i (hi:i < ys.length),wO xs (j+i) ys[i]=0:=by
  intro ys
  induction ys with
  | nil=>grind
  | cons y ys ih=>
   intro j hf i hi;simp only[bq] at hf;by_cases h0:wO xs j y=0
   ·rw[aR h0] at hf
    cases i with
    | zero=>simpa using h0
    | succ i=>
     have:=ih (j+1) hf i (by simpa using hi);grind
   grind
 intro i hi;have:=main xs 0 h i hi;grind
theorem Gd {xs:List Tx} {i:Nat} {x:Tx} (h:wO xs i x=0):1<=x.1/\DO x=0/\∀ y,0 < i->xs[i - 1]?=some y->y.1 < x.1:=by
 grind [wO,lD]
theorem Yi {xs:List Tx} (h:DP xs=0):xs.Pairwise λx y=>x.1 < y.1:=by
 rw[cW];intro i j hi hj ul
 have key:∀ d (hd:i+d+1 < xs.length),(xs[i]).1 < (xs[i+d+1]).1:=by
  intro d
  induction d with
  | zero=>
   intro hd;exact (Gd (DQ xs h (i+1) hd)).2.2 xs[i] Bys (by simp[hi])
  | succ d ih=>
   intro hd;have h1:=ih Bys;have h2:=(Gd (DQ xs h (i+d+1+1) hd)).2.2 xs[i+d+1] Bys (by grind);grind
 have:=key (j - i - 1) Bys;grind
theorem Sj {ks:List Key} (h:zl ks=0):ks.Nodup:=by
 have main:∀ (ys:List Key) (j:Nat),(bq (λi (_:Unit) k=>if tP ks i k=0 then .inr () else .inl (tP ks i k)) (λ_=>(0:Int)) j ys ())=0->∀ i (hi:i < ys.length),tP ks (j+i) ys[i]=0:=by
  intro ys
  induction ys with
  | nil=>grind
  | cons y ys ih=>
   intro j hf i hi;simp only[bq] at hf;by_cases h0:tP ks j y=0
   ·rw[aR h0] at hf
    cases i with
    | zero=>simpa using h0
    | succ i=>
     have:=ih (j+1) hf i (by simpa using hi);grind
   grind
 rw[gV,cW];intro i j hi hj ul e;have h1:=main ks 0 h j hj;rw[bE] at h1;unfold tP at h1;split at h1
 ·split at h1
  ·cases h1
  ·rename_i hn;refine hn (CW.2 ?_);rw[<-e];exact gW.2 ⟨i,by omega,rfl⟩
 ·cases h1
theorem aac {x:Tx} (h:DO x=0):(x.2.2.2.1:List Key).Nodup:=by
 grind [DO,wI,Sj]
end OT
namespace OT
open Go
def EE (xs:List Tx):Bool:=xs.all λx=>x.2.2.2.1.all λk=>decide (xV xs k=x.1)
theorem aad {xs:List Tx} (hr:xs.Pairwise λx y=>x.1 < y.1) (hn:∀ x ∈ xs,(x.2.2.2.1:List Key).Nodup):EE xs=ED xs:=by
 have main:∀ (xs:List Tx),(xs.Pairwise λx y=>x.1 < y.1)->(∀ x ∈ xs,(x.2.2.2.1:List Key).Nodup)->((∀ x ∈ xs,∀ k ∈ (x.2.2.2.1:List Key),xV xs k=x.1)↔(flatK xs).Nodup):=by
  intro xs
  induction xs with
  | nil=>grind [flatK]
  | cons x xs ih=>
   intro hr hn;obtain ⟨h1,h2⟩:=dD.1 hr;have ih:=ih h2 (λy hy=>hn y (by simp[hy]));have Em:flatK (x::xs)=x.2.2.2.1++flatK xs:=by simp[flatK]
   rw[Em,fH];constructor
   ·intro t7
    have hd:∀ y ∈ xs,∀ k ∈ (y.2.2.2.1:List Key),k ∉ (x.2.2.2.1:List Key):=λy hy k hk hx=>by
     grind
    refine ⟨hn x (by simp),ih.1 λy hy k hk=>?_,λa ha b hb e=>?_⟩
    ·grind [xV]
    ·subst e;obtain ⟨y,hy,hk⟩:=dI.1 hb;grind
   ·rintro ⟨g1,g2,g3⟩ y hy k hk;grind [xV,flatK,mE]
 have hm:=main xs hr hn;unfold EE ED;rw[iD];simp_all
theorem QM (xs:List Tx) (h:EC xs):gj.ae (xs,())=some (EE xs,()):=by
 have ht:=h;obtain ⟨h1,h2⟩:=h;refine ah (k:=1048577) λk hk=>(gj.af k _).trans ?_
 have inner:∀ (self:((List Tx)×Int)->Option gj.O) (e0:Unit->Option gj.O) (i:Nat) (hi:i < xs.length),gj.r1 k self e0 (xs,()) xs (i:Int) (0:Int)=if (xs[i]).2.2.2.1.any (λy=>!decide (xV xs y=(xs[i]).1)) then some (false,()) else self (xs,ag ((i:Int)+1)):=λself e0 i hi=>by
  have htx:=h2 _ (aP hi);have hlk:=htx.2.2.1
  have:=eh (B:=λim v=>gj.b1 im (λz=>gj.q0 self e0 (xs,()) xs (i:Int) z) (xs,()) xs (i:Int) v) (xs[i]).2.2.2.1 (λ(_:Unit) (j:Int)=>j) (λ_ _ y=>if !decide (xV xs y=(xs[i]).1) then .inl (some (false,())) else .inr ()) (λ_=>self (xs,ag ((i:Int)+1))) (λ_ _=>True) (by rw[au];omega)
   (λj hj s im _=>by
    show gj.b1 _ _ _ _ _ _=_;unfold gj.b1
    grind [Si])
   (λ_ _ _ _ _ _=>trivial) (λs im _=>by
    show gj.b1 _ _ _ _ _ _=_;unfold gj.b1;simp only[aK,aJ,aC,aB hi,aA,aU,aG,aE]
    rfl) () trivial k Bys
  rw[Ac] at this;exact this
 have:=ci (B:=λself v=>gj.B0 k self (λz=>gj.q1 (xs,()) z) (xs,()) v) xs (λ(_:Unit) (i:Int)=>(xs,i)) (λ_ _ x=>if x.2.2.2.1.all (λy=>decide (xV xs y=x.1)) then .inr () else .inl (false,())) (λ_=>(true,())) (λ_ _=>True) (by rw[au];omega)
  (λi hi s self _=>by
   show gj.b0 _ _ _ _ _=_
   grind [gj.b0])
  (λ_ _ _ _ _ _=>trivial) (λs self _=>by
   show gj.b0 _ _ _ _ _=_;unfold gj.b0;simp only[aU,aG,aE]
   rfl) () trivial k Bys
 rw[tE (λ(x:Tx)=>x.2.2.2.1.all (λy=>decide (xV xs y=x.1))) (false,()) (λ_=>(true,()))] at this;refine aL this ?_;grind [EE]
def kL (S:List Key):List (Key×Bool):=S.map λk=>(k,true)
theorem Sk {α:Type} (k:Ty) (e:k.den×α) (m:List (k.den×α)) (x:k.den):jZ k (e::m) x=if k.eq x e.1 then some e.2 else jZ k m x:=by
 grind [jZ]
theorem V1 {α:Type} (k:Ty) (m:List (k.den×α)) (x:k.den) (y:α) (h:∀ e ∈ m,k.eq x e.1=false):pL k m x y=m++[(x,y)]:=by
 grind [pL]
theorem I_ (S:List Key) (k:Key):jZ bp (kL S) k=if mE S k then some true else none:=by
 induction S with
 | nil=>rfl
 | cons s S ih=>
  refine (Sk bp (s,true) (kL S) k).trans ?_;grind [FH,mE]
theorem aae (S:List Key) (k:Key):Di (jZ bp (kL S) k) false=mE S k:=by
 grind [Di,I_]
theorem QN {S:List Key} {k:Key} (h:mE S k=false):pL bp (kL S) k true=kL (S++[k]):=by
 refine (V1 bp (kL S) k true λe he=>?_).trans ?_
 ·obtain ⟨s,hs,rfl⟩:=eL.1 he;grind [FH,mE]
 ·simp only[kL,fN,dH,gQ];rfl
def getM (m:List (Key×Bool)) (k:Key):Bool:=Di (jZ bp m k) false
def uj (m:List (Key×Bool)) (k:Key):List (Key×Bool):=pL bp m k true
def vD:List (Key×Bool)->List Key->Option (List (Key×Bool))
 | m,[]=>some m
 | m,k::ks=>if getM m k then none else vD (uj m k) ks
theorem Ja:∀ (m:List (Key×Bool)) (a b:List Key),vD m (a++b)=(vD m a).bind λm'=>vD m' b
 | m,[],b=>rfl
 | m,k::a,b=>by
  simp only[dR,vD];split
  ·rfl
  ·exact Ja _ a b
theorem NB:∀ (ks S:List Key),S.Nodup->vD (kL S) ks=if (S++ks).Nodup then some (kL (S++ks)) else none
 | [],S,h=>by simp[vD,h]
 | k::ks,S,h=>by
  have hg:getM (kL S) k=mE S k:=aae S k;simp only[vD,hg]
  cases hh:mE S k with
  | true=>
   have:¬ (S++k::ks).Nodup:=λhn=>by
    rw[fH] at hn;exact hn.2.2 k (CW.1 hh) k (by simp) rfl
   simp[this]
  | false=>
   have hk:k ∉ S:=λhm=>by rw[CW.2 hm] at hh;cases hh
   simp only[aF,aS];have hp:uj (kL S) k=kL (S++[k]):=QN hh;rw[hp,NB ks (S++[k]) (by grind)];grind
theorem NC {O:Type} (bad:Option O) (E:List (Key×Bool)->Option O):∀ (ks:List Key) (i:Nat) (m:List (Key×Bool)),bq (λ_ m k=>if getM m k then .inl bad else .inr (uj m k)) E i ks m=match vD m ks with | none=>bad | some m'=>E m'
 | [],_,_=>rfl
 | k::ks,i,m=>by
  simp only[bq,vD];by_cases h:getM m k=true
  ·simp[h]
  ·simp only[h,aS];exact NC bad E ks _ _
theorem Lx {O:Type} (bad:Option O) (E:Option O):∀ (xs:List Tx) (i:Nat) (m:List (Key×Bool)),bq (λ_ m x=>match vD m x.2.2.2.1 with | none=>.inl bad | some m'=>.inr m') (λ_=>E) i xs m=match vD m (flatK xs) with | none=>bad | some _=>E
 | [],_,_=>rfl
 | x::xs,i,m=>by
  have Em:flatK (x::xs)=x.2.2.2.1++flatK xs:=by simp[flatK]
  rw[Em,Ja];simp only[bq]
  cases h:vD m x.2.2.2.1 with
  | none=>rfl
  | some m'=>
   simp only[aA];exact Lx bad E xs _ _
theorem V2 (xs:List Tx) (h:EC xs):dr.ae (xs,())=some (D8 xs,()):=by
 have ht:=h;obtain ⟨h1,h2⟩:=h;refine ah (k:=1048577) λk hk=>(dr.af k _).trans ?_;unfold dr.p D8;by_cases h4:4 < xs.length
 ·grind
 have h4':¬ (4:Int) < (xs.length:Int):=by omega
 simp only[h4,h4',aG,aE,aS]
 have last:dr.q2 (xs,()) xs=some (if 12 < D7 xs then 2 else 0,()):=by
  grind [dr.q2,QL]
 have inner:∀ (self:((List Tx)×(List (Key×Bool))×(List Tx)×Int×Int)->Option dr.O) (e2:List Tx->Option dr.O) (i:Nat) (hi:i < xs.length) (m:List (Key×Bool)),dr.r2 k self e2 (xs,()) xs xs (xs.length:Int) (i:Int) (xs[i]).2.2.2.1 (List.length (xs[i]).2.2.2.1:Int) (m,(0:Int))=match vD m (xs[i]).2.2.2.1 with | none=>some ((7:Int),()) | some m'=>self (xs,m',xs,(xs.length:Int),ag ((i:Int)+1)):=λself e2 i hi m=>by
  have hlk:=(h2 _ (aP hi)).2.2.1
  have:=eh (B:=λim v=>dr.b2 im (λz=>dr.q1 self e2 (xs,()) xs xs (xs.length:Int) (i:Int) (xs[i]).2.2.2.1 (List.length (xs[i]).2.2.2.1:Int) z) (xs,()) xs xs (xs.length:Int) (i:Int) (xs[i]).2.2.2.1 (List.length (xs[i]).2.2.2.1:Int) v) (xs[i]).2.2.2.1 (λ(m:List (Key×Bool)) (j:Int)=>(m,j)) (λ_ m y=>if getM m y then .inl (some ((7:Int),())) else .inr (uj m y)) (λm=>self (xs,m,xs,(xs.length:Int),ag ((i:Int)+1))) (λ_ _=>True) (by rw[au];omega)
   (λj hj s im _=>by
    grind [dr.b2,getM,uj])
   (λ_ _ _ _ _ _=>trivial) (λs im _=>by
    show dr.b2 _ _ _ _ _ _ _ _ _ _=_;unfold dr.b2;simp only[aU,aG,aE]
    rfl) m trivial k Bys
  rw[NC] at this;exact this
 have apart:dr.Q0 k (xs,()) ()=some (if ED xs then (if 12 < D7 xs then 2 else 0) else 7,()):=by
  have:=eh (B:=λself v=>dr.B1 k self (λz=>dr.q2 (xs,()) z) (xs,()) v) xs (λ(m:List (Key×Bool)) (i:Int)=>(xs,m,xs,(xs.length:Int),i)) (λ_ m x=>match vD m x.2.2.2.1 with | none=>.inl (some ((7:Int),())) | some m'=>.inr m') (λ_=>some (if 12 < D7 xs then 2 else 0,())) (λ_ _=>True) (by rw[au];omega)
   (λi hi m self _=>by
    show dr.b1 _ _ _ _ _=_
    grind [dr.b1])
   (λ_ _ _ _ _ _=>trivial) (λs self _=>by
    show dr.b1 _ _ _ _ _=_
    grind [dr.b1]) (kL []) trivial k Bys
  rw[Lx,NB _ _ fV] at this;refine aL this ?_;grind [ED]
 have:=eh (B:=λself v=>dr.b0 self (λz=>dr.Q0 k (xs,()) z) (xs,()) v) xs (λ(_:Unit) (i:Int)=>i) (λi _ x=>if wO xs i x=0 then .inr () else .inl (some (wO xs i x,()))) (λ_=>some (if ED xs then (if 12 < D7 xs then 2 else 0) else 7,())) (λ_ _=>True) (by rw[au];omega)
  (λi hi s self _=>by
   show dr.b0 _ _ _ _=_;unfold dr.b0 wO;have a_:(i:Int) < (xs.length:Int):=by omega
   simp only[a_,aI,aO,aK,aJ,aC,aB hi,aA,Tt,VZ _ (h2 _ (aP hi))]
   grind [lD,FF,au,Int.toNat_natCast])
  (λ_ _ _ _ _ _=>trivial) (λs self _=>by
   grind [dr.b0]) () trivial k Bys
 rw[BW (wO xs)] at this;refine aL this ?_;grind [DP]
theorem V3 (xs:List Tx) (h:EC xs):kq.ae (xs,())=some (D8 xs,()):=by
 have ht:=h;obtain ⟨h1,h2⟩:=h;refine ah (k:=1048577) λk hk=>(kq.af k _).trans ?_;unfold kq.p D8;by_cases h4:4 < xs.length
 ·grind
 have h4':¬ (4:Int) < (xs.length:Int):=by omega
 simp only[h4,h4',aG,aE,aS]
 have last:kq.q0 (xs,()) ()=some (if EE xs then (if 12 < D7 xs then 2 else 0) else 7,()):=by
  grind [kq.q0,QM,QJ]
 have:=eh (B:=λself v=>kq.b0 self (λz=>kq.q0 (xs,()) z) (xs,()) v) xs (λ(_:Unit) (i:Int)=>i) (λi _ x=>if wO xs i x=0 then .inr () else .inl (some (wO xs i x,()))) (λ_=>some (if EE xs then (if 12 < D7 xs then 2 else 0) else 7,())) (λ_ _=>True) (by rw[au];omega)
  (λi hi s self _=>by
   show kq.b0 _ _ _ _=_;unfold kq.b0 wO;have a_:(i:Int) < (xs.length:Int):=by omega
   simp only[a_,aI,aO,aK,aJ,aC,aB hi,aA,pu,R4 _ (h2 _ (aP hi)),P5 _ (h2 _ (aP hi))]
   have hj:(bif !decide (FI xs[i]=0) then some (FI xs[i],()) else bif !decide (wI xs[i]=0) then some (wI xs[i],()) else self (ag ((i:Int)+1)))=match (generalizing:=false) (if DO xs[i]=0 then .inr () else .inl (some (DO xs[i],())):Sum (Option (Int×Unit)) Unit) with | .inl o=>o | .inr _=>self (ag ((i:Int)+1)):=by
    grind [DO]
   grind [lD,FF,au,Int.toNat_natCast])
  (λ_ _ _ _ _ _=>trivial) (λs self _=>by
   grind [kq.b0]) () trivial k Bys
 rw[BW (wO xs)] at this;refine aL this ?_;show (if DP xs=0 then _ else some (DP xs,()))=_;by_cases he:DP xs=0
 ·rw[aR he,aR he,aad (Yi he) (λx hx=>by
   obtain ⟨i,hi,rfl⟩:=cK.1 hx
   exact aac (Gd (DQ xs he i hi)).2.1)]
 grind
end OT
namespace OT
open Go
def dd (S:List Key) (ks:List Key):List Key:=ks.foldl (λS k=>if mE S k then S else S++[k]) S
def xl (rows:List Row):List Key:=rows.map λr=>(r.1,r.2.1,())
def AE (rows:List Row) (xs:List Tx):List Key:=xl rows++flatK xs
theorem Sl {α:Type} (k:Ty) (m:List (k.den×α)) (x:k.den) (y:α) {i:Nat} (h:m.findIdx? (λe=>k.eq x e.1)=some i):pL k m x y=m.set i (x,y):=by
 grind [pL]
theorem Yj {S:List Key} {k:Key} (h:mE S k=true):uj (kL S) k=kL S:=by
 have key:∀ (S:List Key) (i:Nat),(kL S).findIdx? (λe=>Ty.eq bp k e.1)=some i->(kL S)[i]?=some (k,true):=by
  intro S i hi;have h1:=eH.1 hi;grind [kL,FH]
 show pL bp (kL S) k true=kL S
 cases hf:(kL S).findIdx? (λe=>Ty.eq bp k e.1) with
 | none=>
  exfalso
  have h1:jZ bp (kL S) k=none:=by
   unfold jZ;have h2:=List.findIdx?_eq_none_iff.1 hf;have:(kL S).find? (λe=>Ty.eq bp k e.1)=none:=eZ.2 λe he=>by grind
   exact cN _ this
  grind [I_]
 | some i=>
  have h1:=key S i hf;have a_:=(aM.1 h1).1;refine (Sl bp (kL S) k true hf).trans ?_;show (kL S).set i (k,true)=kL S;grind [List.set_getElem_self]
theorem aaf (S:List Key) (k:Key):uj (kL S) k=kL (if mE S k then S else S++[k]):=by
 cases h:mE S k with
 | true=>grind [Yj]
 | false=>simp only[aF,aS];exact QN h
theorem TS:∀ (ks S:List Key),ks.foldl uj (kL S)=kL (dd S ks)
 | [],S=>rfl
 | k::ks,S=>by
  rw[eQ,aaf,TS ks];rfl
theorem Yk (S a b:List Key):dd S (a++b)=dd (dd S a) b:=List.foldl_append
theorem Yl:∀ (ks S:List Key),S.length<=(dd S ks).length
 | [],S=>aH _
 | x::ks,S=>by
  refine bG ?_ (Yl ks (if mE S x then S else S++[x]));grind
theorem QO:∀ (ks S:List Key),(S++ks).Nodup->dd S ks=S++ks
 | [],S,_=>by simp[dd]
 | x::ks,S,h=>by
  have hx:mE S x=false:=by
   grind [mE]
  show dd (if mE S x then S else S++[x]) ks=_;rw[hx];simp only[aF,aS];rw[QO ks (S++[x]) (by simpa using h)];simp
theorem Sm {rows:List Row} (h:up rows):(xl rows).Nodup:=by
 unfold xl;rw[gV,fX];refine h.imp λ{a b} hab e=>?_;grind [rk,mQ]
theorem ND {rows:List Row} {xs:List Tx} (h:up rows):rows.length<=(dd [] (AE rows xs)).length:=by
 unfold AE;rw[Yk,QO (xl rows) [] (by simpa using Sm h)];refine bG ?_ (Yl _ _);simp[xl]
def HP:List Key->List Key->Nat
 | _,[]=>0
 | S,k::ks=>(if mE S k then 0 else 1)+HP (S++[k]) ks
theorem ME:∀ (ks S T:List Key),(∀ k,k ∈ S↔k ∈ T)->(dd S ks).length=S.length+HP T ks
 | [],S,T,_=>rfl
 | x::ks,S,T,h=>by
  have hx:mE S x=mE T x:=by grind [CW]
  show (dd (if mE S x then S else S++[x]) ks).length=_;simp only[HP,<- hx]
  cases hh:mE S x with
  | true=>
   simp only[aJ];rw[ME ks S (T++[x]) λk=>?_]
   ·omega
   ·simp only[bR,bV,<- h k];constructor
    ·exact .inl
    ·rintro (h1 | h1)
     ·exact h1
     ·subst h1;exact CW.1 hh
  | false=>
   simp only[aF,aS];rw[ME ks (S++[x]) (T++[x]) λk=>by grind];grind
def BX (rows:List Row) (xs:List Tx):Nat:=(dd [] (AE rows xs)).length
theorem Ym (rows:List Row) (xs:List Tx) (hr:rows.length<=1048576) (h:EC xs):fk.ae (rows,xs,())=some (kL (dd [] (AE rows xs)),()):=by
 obtain ⟨h1,h2⟩:=h;refine ah (k:=1048577) λk hk=>(fk.af k _).trans ?_
 have inner:∀ (self:((List (Key×Bool))×(List Tx)×Int×Int)->Option fk.O) (e2:(List (Key×Bool))->Option fk.O) (i:Nat) (hi:i < xs.length) (m:List (Key×Bool)),fk.r2 k self e2 (rows,xs,()) xs (xs.length:Int) (i:Int) (xs[i]).2.2.2.1 (List.length (xs[i]).2.2.2.1:Int) (m,(0:Int))=self ((xs[i]).2.2.2.1.foldl uj m,xs,(xs.length:Int),ag ((i:Int)+1)):=λself e2 i hi m=>by
  have hlk:=(h2 _ (aP hi)).2.2.1
  have:=eh (B:=λim v=>fk.b2 im (λz=>fk.q1 self e2 (rows,xs,()) xs (xs.length:Int) (i:Int) (xs[i]).2.2.2.1 (List.length (xs[i]).2.2.2.1:Int) z) (rows,xs,()) xs (xs.length:Int) (i:Int) (xs[i]).2.2.2.1 (List.length (xs[i]).2.2.2.1:Int) v) (xs[i]).2.2.2.1 (λ(m:List (Key×Bool)) (j:Int)=>(m,j)) (λ_ m y=>.inr (uj m y)) (λm=>self (m,xs,(xs.length:Int),ag ((i:Int)+1))) (λ_ _=>True) (by rw[au];omega)
   (λj hj s im _=>by
    show fk.b2 _ _ _ _ _ _ _ _ _=_;unfold fk.b2;have a_:(j:Int) < (List.length (xs[i]).2.2.2.1:Int):=by omega
    simp only[a_,aI,aO,aK,aJ,aC,aB hj,aA]
    rfl)
   (λ_ _ _ _ _ _=>trivial) (λs im _=>by
    show fk.b2 _ _ _ _ _ _ _ _ _=_;unfold fk.b2;simp only[aU,aG,aE]
    rfl) m trivial k Bys
  rw[gt (g:=uj)] at this;exact this
 have second:∀ m,fk.r1 k (rows,xs,()) (m,xs,(xs.length:Int),(0:Int))=some ((flatK xs).foldl uj m,()):=λm=>by
  have:=ci (B:=λself v=>fk.B1 k self (λz=>fk.q2 (rows,xs,()) z) (rows,xs,()) v) xs (λ(m:List (Key×Bool)) (i:Int)=>(m,xs,(xs.length:Int),i)) (λ_ m x=>.inr (x.2.2.2.1.foldl uj m)) (λm=>(m,())) (λ_ _=>True) (by rw[au];omega)
   (λi hi m self _=>by
    show fk.b1 _ _ _ _ _=_
    grind [fk.b1])
   (λ_ _ _ _ _ _=>trivial) (λs self _=>by
    show fk.b1 _ _ _ _ _=_;unfold fk.b1;simp only[aU,aG,aE]
    rfl) m trivial k Bys
  rw[gt (g:=λm (x:Tx)=>x.2.2.2.1.foldl uj m)] at this;refine aL this ?_
  have:∀ (xs:List Tx) (m:List (Key×Bool)),xs.foldl (λm (x:Tx)=>x.2.2.2.1.foldl uj m) m=(flatK xs).foldl uj m:=by
   intro xs
   induction xs <;> grind [flatK]
  rw[this]
 have:=eh (B:=λself v=>fk.b0 self (λz=>fk.Q0 k (rows,xs,()) z) (rows,xs,()) v) rows (λ(m:List (Key×Bool)) (i:Int)=>(m,i)) (λ_ m r=>.inr (uj m (r.1,r.2.1,()))) (λm=>some ((flatK xs).foldl uj m,())) (λ_ _=>True) (by rw[au];omega)
  (λi hi m self _=>by
   show fk.b0 _ _ _ _=_;unfold fk.b0;have a_:(i:Int) < (rows.length:Int):=by omega
   simp only[a_,aI,aO,aK,aJ,aC,aB hi,aA]
   rfl)
  (λ_ _ _ _ _ _=>trivial) (λs self _=>by
   show fk.b0 _ _ _ _=_;unfold fk.b0;simp only[aU,aG,aE]
   exact second s) (kL []) trivial k Bys
 rw[gt (g:=λm (r:Row)=>uj m (r.1,r.2.1,()))] at this;refine aL this ?_;have e1:rows.foldl (λm (r:Row)=>uj m (r.1,r.2.1,())) (kL [])=(xl rows).foldl uj (kL []):=by unfold xl;rw[List.foldl_map]
 grind [TS,AE]
theorem Jb {O:Type} (x:Key) (E:Bool->Option O):∀ (ys:List Key) (j:Nat) (b:Bool),bq (λ_ b y=>if b then .inr (!decide (y=x)) else .inl (E false)) E j ys b=if b then E (!mE ys x) else E false
 | [],_,b=>by cases b <;> rfl
 | y::ys,j,b=>by
  cases b with
  | false=>simp[bq]
  | true=>
   simp only[bq,aJ];rw[Jb x E ys];grind [mE]
theorem QP {O:Type} (all:List Key) (E:Int->O):∀ (ys pre:List Key) (n:Int),all=pre++ys->bq (λi n x=>.inr (if mE (all.take i) x then n else n+1)) E pre.length ys n=E (n+(HP pre ys:Int))
 | [],pre,n,_=>by simp[bq,HP]
 | y::ys,pre,n,h=>by
  simp only[bq];have ht:all.take pre.length=pre:=by rw[h];simp
  rw[ht];have:=QP all E ys (pre++[y]) (if mE pre y then n else n+1) (by rw[h];simp);grind [HP]
def NE (k:Key):List Key:=if k.2.1=0 then [] else [k]
def V4 (rows:List Row) (xs:List Tx) (k:Key):Nat:=(dd [] (AE rows xs++NE k)).length
theorem QQ (rows:List Row) (xs:List Tx) (kk:Key) (hr:rows.length<=1048576) (hx:xs.length<=1000) (h:∀ x ∈ xs,List.length x.2.2.2.1<=1000):cn.ae (rows,xs,kk,())=some ((V4 rows xs kk:Int),()):=by
 refine ah (k:=3000000) λk hk=>(cn.af k _).trans ?_
 have Em:(flatK xs).length<=1000*xs.length:=by
  clear hx
  induction xs <;> grind [flatK]
 have V0:∀ all:List Key,all.length<=2100000->cn.r2 k (rows,xs,kk,()) (all,(0:Int),(0:Int))=some ((HP [] all:Int),()):=λall t7=>by
  have inner:∀ (self:((List Key)×Int×Int)->Option cn.O) (e4:Int->Option cn.O) (i:Nat) (hi:i < all.length) (n:Int),cn.r3 k self e4 (rows,xs,kk,()) all n (i:Int) (true,(0:Int))=if mE (all.take i) all[i] then self (all,n,ag ((i:Int)+1)) else self (all,ag (n+1),ag ((i:Int)+1)):=λself e4 i hi n=>by
   have kV:(all.take i).length=i:=by simp;omega
   have:=eh (B:=λim v=>cn.b3 im (λz=>cn.q2 self e4 (rows,xs,kk,()) all n (i:Int) z) (rows,xs,kk,()) all n (i:Int) v) (all.take i) (λ(b:Bool) (j:Int)=>(b,j)) (λ_ b y=>if b then .inr (!decide (y=all[i])) else .inl (if false then self (all,ag (n+1),ag ((i:Int)+1)) else self (all,n,ag ((i:Int)+1)))) (λb=>if b then self (all,ag (n+1),ag ((i:Int)+1)) else self (all,n,ag ((i:Int)+1))) (λ_ _=>True) (by rw[au];omega)
    (λj hj b im _=>by
     show cn.b3 _ _ _ _ _ _ _=_;unfold cn.b3;rw[kV] at hj;have a_:(j:Int) < (i:Int):=by omega
     have hjl:j < all.length:=by omega
     have c1:(0:Int)<=(j:Int)/\(j:Int) < (all.length:Int):=by omega
     have c2:(0:Int)<=(i:Int)/\(i:Int) < (all.length:Int):=by omega
     simp only[a_,c1,c2,cI,aI,aO,aJ,aC,aB hjl,aB hi,aA,FH,List.getElem_take]
     cases b <;> rfl)
    (λ_ _ _ _ _ _=>trivial) (λb im _=>by
     show cn.b3 _ _ _ _ _ _ _=_;unfold cn.b3;simp only[kV,aU,aG,aE]
     cases b <;> rfl) true trivial k Bys
   have e:=Jb all[i] (λb=>if b then self (all,ag (n+1),ag ((i:Int)+1)) else self (all,n,ag ((i:Int)+1))) (all.take i) 0 true;refine (aL this e).trans ?_;grind
  have:=ci (B:=λself v=>cn.B2 k self (λz=>cn.q3 (rows,xs,kk,()) z) (rows,xs,kk,()) v) all (λ(n:Int) (i:Int)=>(all,n,i)) (λi n x=>.inr (if mE (all.take i) x then n else n+1)) (λn=>(n,())) (λi n=>0<=n/\n<=(i:Int)) (by rw[au];omega)
   (λi hi n self hI=>by
    show cn.b2 _ _ _ _ _=_
    grind [cn.b2,bh])
   (λi hi n n' hI hs=>by
    grind) (λs self _=>by
    show cn.b2 _ _ _ _ _=_;unfold cn.b2;simp only[aU,aG,aE]
    rfl) 0 Bys k Bys
  have e:=QP all (λn=>(n,())) all [] 0 rfl;refine (aL this (cN some e)).trans ?_;rw[Int.zero_add]
 have second:cn.r1 k (rows,xs,kk,()) (xl rows,(0:Int))=some ((HP [] (AE rows xs++NE kk):Int),()):=by
  have yM:(xl rows).length=rows.length:=by simp[xl]
  have:=eh (B:=λself v=>cn.b1 self (λz=>cn.Q1 k (rows,xs,kk,()) z) (rows,xs,kk,()) v) xs (λ(s:List Key) (i:Int)=>(s,i)) (λ_ s x=>.inr (s++x.2.2.2.1)) (λs=>cn.r2 k (rows,xs,kk,()) (s++NE kk,(0:Int),(0:Int))) (λi s=>s.length<=1048576+1000*i) (by rw[au];omega)
   (λi hi s self hI=>by
    grind [cn.b1,cv,Int.natCast_nonneg])
   (λi hi s s' hI hs=>by
    grind) (λs self hI=>by
    show cn.b1 _ _ _ _=_;unfold cn.b1;simp only[aU,aG,aE];show cn.q1 _ _ _=_
    grind [cn.q1,NE,cv]) (xl rows) Bys k Bys
  rw[gt (g:=λs (x:Tx)=>s++x.2.2.2.1)] at this;refine aL this ?_
  have e:∀ (xs:List Tx) (s:List Key),xs.foldl (λs (x:Tx)=>s++x.2.2.2.1) s=s++flatK xs:=by
   intro xs
   induction xs <;> grind [flatK]
  rw[e];have hex:(NE kk).length<=1:=by grind [NE]
  exact V0 _ (by grind)
 have:=eh (B:=λself v=>cn.b0 self (λz=>cn.Q0 k (rows,xs,kk,()) z) (rows,xs,kk,()) v) rows (λ(s:List Key) (i:Int)=>(s,i)) (λ_ s r=>.inr (s++[(r.1,r.2.1,())])) (λs=>cn.r1 k (rows,xs,kk,()) (s,(0:Int))) (λi s=>s.length=i) (by rw[au];omega)
  (λi hi s self hI=>by
   grind [cn.b0,cv,Int.natCast_nonneg])
  (λi hi s s' hI hs=>by grind) (λs self _=>by
   show cn.b0 _ _ _ _=_;unfold cn.b0;simp only[aU,aG,aE]
   rfl) [] rfl k Bys
 rw[gt (g:=λs (r:Row)=>s++[(r.1,r.2.1,())])] at this
 have e:∀ (rows:List Row) (s:List Key),rows.foldl (λs (r:Row)=>s++[(r.1,r.2.1,())]) s=s++xl rows:=by
  intro rows
  induction rows <;> grind [xl]
 rw[e,cJ,second] at this;refine aL this ?_;have:=ME (AE rows xs++NE kk) [] [] (λ_=>iL);grind [V4]
theorem Sn (rows:List Row) (xs:List Tx) (hr:rows.length<=1048576) (hx:xs.length<=1000) (h:∀ x ∈ xs,List.length x.2.2.2.1<=1000):cn.ae (rows,xs,((0:Int),(0:Int),()),())=some ((BX rows xs:Int),()):=by
 rw[QQ rows xs _ hr hx h];unfold V4 NE;simp only[aJ,cR];rfl
theorem Yn {ks:List Key} (h:zl ks=0):∀ k ∈ ks,DG k=true:=by
 have main:∀ (ys:List Key) (j:Nat),(bq (λi (_:Unit) k=>if tP ks i k=0 then .inr () else .inl (tP ks i k)) (λ_=>(0:Int)) j ys ())=0->∀ y ∈ ys,DG y=true:=by
  intro ys
  induction ys <;> grind [bq,tP]
 exact main ks 0 h
structure V5 (xs:List Tx):Prop where
 len:xs.length<=4
 ch:∀ x ∈ xs,∀ c ∈ (x.2.1:List Change),om c=0
 aew:∀ x ∈ xs,List.length x.2.2.2.1<=12
 xu:∀ x ∈ xs,List.length x.2.1<=12
 keys:∀ x ∈ xs,∀ k ∈ (x.2.2.2.1:List Key),DG k=true
theorem Jc {α:Type} {c:α->Int}:∀ {xs:List α},nO c xs=0->∀ x ∈ xs,c x=0
 | [],_,_,h=>by cases h
 | y::ys,h,x,hx=>by
  simp only[nO] at h;split at h
  ·rcases aY.1 hx with e | e
   ·subst e;assumption
   ·exact Jc h x e
  grind
theorem TT:∀ (xs:List Tx) (n:Int),0<=n->n<=xs.foldl (λn x=>n+(List.length x.2.1:Int)) n/\∀ x ∈ xs,(List.length x.2.1:Int)<=xs.foldl (λn x=>n+(List.length x.2.1:Int)) n
 | [],n,h=>⟨gX _,λx hx=>by cases hx⟩
 | y::ys,n,h=>by
  obtain ⟨h1,h2⟩:=TT ys (n+(List.length y.2.1:Int)) Bys;grind
theorem Yo {xs:List Tx} (h:D8 xs=0):V5 xs:=by
 unfold D8 at h;split at h
 ·cases h
 ·rename_i hl;split at h
  ·rename_i he;split at h
   ·split at h
    ·cases h
    ·rename_i hc
     have each:∀ x ∈ xs,DO x=0:=λx hx=>by
      obtain ⟨i,hi,rfl⟩:=cK.1 hx;exact (Gd (DQ xs he i hi)).2.1
     refine ⟨by omega,λx hx c hcm=>?_,λx hx=>?_,λx hx=>?_,λx hx=>?_⟩
     ·have h1:=each x hx;unfold DO at h1;split at h1
      ·rename_i hu;have h2:=Jc hu c hcm;grind [Av,AY]
      grind
     ·grind [DO,wI]
     ·have:=(TT xs 0 (gX _)).2 x hx;grind [D7]
     grind [DO,wI,Yn]
   ·cases h
  grind
end OT
namespace OT
open Go
def HQ (c:Change):Change:=(c.2.2.1,c.2.2.2.1,c.1,c.2.1,())
def oy (cs:List Change):List Change:=cs.reverse.map HQ
theorem Ca (cs:List Change):(oy cs).length=cs.length:=by simp[oy]
theorem TU {cs:List Change} {c:Change} (h:c ∈ oy cs):∃ d ∈ cs,c=HQ d:=by
 grind [oy]
theorem abT {c:Change} (h:om c=0):om (HQ c)=0:=by
 grind [om,HQ,sameKey]
theorem HR (cs:List Change) (hl:cs.length<=1048576) {O:Type} {B:((List Change×Int)->Option O)->(List Change×Int)->Option O} {E:List Change->Option O}
  (iZ:∀ (m:Nat) (hm:m < cs.length) acc self,acc.length<=1048576->B self (acc,(m:Int))=self (acc++[HQ cs[m]],ag ((m:Int) - 1))) (mL:∀ acc self,B self (acc,(-1:Int))=E acc) :
  ∀ k,cs.length < k->am B k ([],ag ((cs.length:Int) - 1))=E (oy cs):=by
 have main:∀ (m:Nat) (acc:List Change),m<=cs.length->acc.length+m<=cs.length->∀ k,m < k->am B k (acc,(m:Int) - 1)=E (acc++(cs.take m).reverse.map HQ):=by
  intro m
  induction m with
  | zero=>
   intro acc _ _ k hk;cases k <;> grind [am]
  | succ m ih=>
   intro acc hm ha k hk
   cases k with
   | zero=>omega
   | succ k=>
    show B (am B k) _=_;have e:((m+1:Nat):Int) - 1=(m:Int):=by omega
    rw[e,iZ m Bys acc _ Bys,bh Bys,ih _ Bys (by simp;omega) k Bys,fY Bys,List.reverse_append,fN,cA];rfl
 grind [bh,oy]
theorem LA (cs:List Change) (hl:cs.length<=1048576):jo.ae (cs,())=some (oy cs,()):=by
 refine ah (k:=cs.length+1) λk hk=>(jo.af k _).trans ?_;refine HR cs hl (B:=λself v=>jo.b0 self (λz=>jo.q0 (cs,()) z) (cs,()) v) (E:=λz=>some (z,())) (λm hm acc self ha=>?_) (λacc self=>?_) k Bys
 ·grind [jo.b0,HQ,cv]
 ·show jo.b0 _ _ _ _=_;unfold jo.b0;rfl
theorem LB (cs:List Change) (hl:cs.length<=1048576):lr.ae (cs,())=some (oy cs,()):=by
 refine ah (k:=cs.length+1) λk hk=>(lr.af k _).trans ?_;refine HR cs hl (B:=λself v=>lr.b0 self (λz=>lr.q0 (cs,()) z) (cs,()) v) (E:=λz=>some (z,())) (λm hm acc self ha=>?_) (λacc self=>?_) k Bys
 ·grind [lr.b0,HQ,cv]
 ·show lr.b0 _ _ _ _=_;unfold lr.b0;rfl
def qb:List Row->List Change->Option (List Row)
 | s,[]=>some s
 | s,c::cs=>if xg s c then qb (rK s c) cs else none
theorem back_append:∀ (a b:List Change) (s:List Row),qb s (a++b)=(qb s a).bind λt=>qb t b
 | [],b,s=>rfl
 | c::a,b,s=>by
  simp only[dR,qb];split
  ·exact back_append a b _
  ·rfl
theorem NF {O:Type} (bad:O) (fin:List Row->O):∀ (cs:List Change) (i:Nat) (s:List Row),bq (λ_ s c=>if xg s c then .inr (rK s c) else .inl bad) fin i cs s=match qb s cs with | some t=>fin t | none=>bad
 | [],_,_=>rfl
 | c::cs,i,s=>by
  simp only[bq,qb];by_cases h:xg s c=true
  ·simp only[h,aJ];exact NF bad fin cs _ _
  ·simp[h]
theorem HS:∀ (cs:List Change) (s t:List Row),Good s->(∀ c ∈ cs,om c=0)->qb s cs=some t->Good t/\t.length<=s.length+cs.length
 | [],s,t,h,_,hb=>by injection hb with hb;grind
 | c::cs,s,t,h,hc,hb=>by
  simp only[qb] at hb;split at hb
  ·have h1:=HS cs (rK s c) t (A6 h (hc c (by simp))) (λd hd=>hc d (by simp[hd])) hb;grind [FX]
  ·cases hb
theorem QR {O α:Type} {f:Nat->Unit->α->Sum O Unit} {fin:Unit->O}:∀ (xs:List α) (j:Nat),(∀ i (hi:i < xs.length),f (j+i) () xs[i]=.inr ())->bq f fin j xs ()=fin ()
 | [],_,_=>rfl
 | x::xs,j,h=>by
  have h0:=h 0 (by simp);simp only[eJ,List.getElem_cons_zero] at h0;simp only[bq,h0]
  exact QR xs (j+1) λi hi=>by
   have:=h (i+1) (by simp;omega);grind
theorem V6 {xs:List Row} (h:Good xs) (hl:xs.length<=60):vu xs=0:=by
 unfold vu;rw[aV Bys,QR xs 0 λi hi=>?_];unfold ug;rw[aR (h.ok _ (aP hi)),bE];by_cases h0:0 < i
 ·rw[aR h0,aB (show i - 1 < xs.length by omega)];have hu:=h.up;grind [up,List.pairwise_iff_getElem]
 ·rw[aV h0]
theorem V7 {s:List Row} {cs:List Change} (h:Good s) (hc:∀ c ∈ cs,om c=0) (hl:s.length+cs.length<=60):Lf s cs=match qb s cs with | some t=>((0:Int),t,()) | none=>((8:Int),([]:List Row),()):=by
 unfold Lf;rw[aR (V6 h Bys)]
 have main:∀ (cs:List Change) (s:List Row) (i:Nat),Good s->(∀ c ∈ cs,om c=0)->s.length+cs.length<=60->(bq wM C4 i cs s).1=match qb s cs with | some t=>((0:Int),t,()) | none=>((8:Int),([]:List Row),()):=by
  intro cs
  induction cs <;> grind [bq,C4,qb,wM,FX,A6]
 grind
def Ge (xs:List Tx):List Change:=xs.flatMap λx=>oy x.2.1
theorem Gf {O:Type} (bad:O) (fin:List Row->O):∀ (xs:List Tx) (i:Nat) (s:List Row),bq (λ_ s x=>match qb s (oy x.2.1) with | some t=>.inr t | none=>.inl bad) fin i xs s=match qb s (Ge xs) with | some t=>fin t | none=>bad
 | [],_,_=>rfl
 | x::xs,i,s=>by
  have hb:Ge (x::xs)=oy x.2.1++Ge xs:=by simp[Ge]
  rw[hb,back_append];simp only[bq]
  cases qb s (oy x.2.1) with
  | none=>rfl
  | some t=>simp only[aA];exact Gf bad fin xs _ _
theorem A9 {cs:List Change} (h:∀ c ∈ cs,om c=0):∀ c ∈ oy cs,om c=0:=λc hc=>by
 grind [TU,abT]
theorem Yp {cs:List Change} (h:∀ c ∈ cs,cl c):∀ c ∈ oy cs,cl c:=λc hc=>by
 obtain ⟨d,h1,rfl⟩:=TU hc;exact ⟨(h d h1).2,(h d h1).1⟩
theorem abU {s:List Row} (h:Good s):∀ x ∈ s,rl x:=λx hx=>by
 have:=XO (h.ok x hx);grind [rl,au]
theorem QS (s:List Row) (cs:List Change) (h:Good s) (hc:∀ c ∈ cs,om c=0) (hl:s.length+cs.length<=1000):mi.ae (s,cs,())=some (match qb s (oy cs) with | some t=>(t,true,()) | none=>(([]:List Row),false,())):=by
 refine ah (k:=1001) λk hk=>(mi.af k _).trans ?_;unfold mi.p;rw[LA cs Bys];simp only[aA];have hlen:=Ca cs;have hch:=A9 hc
 have:=ci (B:=λself v=>mi.b0 self (λz=>mi.q0 (s,cs,()) (oy cs) z) (s,cs,()) (oy cs) v) (oy cs) (λ(s:List Row) (i:Int)=>(s,i)) (λ_ s c=>if xg s c then .inr (rK s c) else .inl (([]:List Row),false,())) (λs=>(s,true,())) (λi t=>Good t/\t.length<=s.length+i) (by rw[au];omega)
  (λi hi t self hI=>by
   show mi.b0 _ _ _ _ _=_;unfold mi.b0;have a_:(i:Int) < ((oy cs).length:Int):=by omega
   have iZ:(0:Int)<=(i:Int)/\(i:Int) < ((oy cs).length:Int):=by omega
   simp only[a_,iZ,cI,aI,aO,aJ,aC,aB hi,aA];rw[XM t _ hI.1.up Bys (sE (hch _ (aP hi))).1]
   grind)
  (λi hi t t' hI hs=>by
   grind [FX,A6]) (λt self _=>by
   show mi.b0 _ _ _ _ _=_;unfold mi.b0;simp only[aU,aG,aE]
   rfl) s ⟨h,by omega⟩ k Bys
 rw[NF] at this;refine aL this ?_;grind
theorem So (rows:List Row) (xs:List Tx) (h:Good rows) (hl:rows.length<=12) (hx:V5 xs):mj.ae (rows,xs,())=some (match qb rows (Ge xs) with | some t=>(t,true,()) | none=>(([]:List Row),false,())):=by
 refine ah (k:=10) λk hk=>(mj.af k _).trans ?_;unfold mj.p;have hc:([]:List Row).length+rows.length<=b9:=cv (by grind);rw[aR hc,cJ];have hx4:=hx.len
 have:=ci (B:=λself v=>mj.b0 self (λz=>mj.q0 (rows,xs,()) z) (rows,xs,()) v) xs (λ(s:List Row) (i:Int)=>(s,i)) (λ_ s x=>match qb s (oy x.2.1) with | some t=>.inr t | none=>.inl (([]:List Row),false,())) (λs=>(s,true,())) (λi t=>Good t/\t.length<=12+12*i) (by rw[au];omega)
  (λi hi t self hI=>by
   show mj.b0 _ _ _ _=_;unfold mj.b0;have a_:(i:Int) < (xs.length:Int):=by omega
   have hu:=hx.xu _ (aP hi);simp only[a_,aI,aO,aK,aJ,aC,aB hi,aA];rw[QS t _ hI.1 (hx.ch _ (aP hi)) Bys]
   grind)
  (λi hi t t' hI hs=>by
   have hu:=hx.xu _ (aP hi)
   cases hb:qb t (oy (xs[i]).2.1) with
   | none=>grind
   | some q=>
    rw[hb] at hs;injection hs with hs;subst hs;have:=HS _ _ _ hI.1 (A9 (hx.ch _ (aP hi))) hb
    grind [Ca]) (λt self _=>by
   show mj.b0 _ _ _ _=_;unfold mj.b0;simp only[aU,aG,aE]
   rfl) rows ⟨h,by omega⟩ k Bys
 rw[Gf] at this;refine aL this ?_;grind
theorem QT (rows:List Row) (xs:List Tx) (h:Good rows) (hl:rows.length<=12) (hx:V5 xs) (ht:EC xs):kg.ae (rows,xs,())=some (match qb rows (Ge xs) with | some t=>(t,(0:Int),()) | none=>(([]:List Row),(8:Int),())):=by
 refine ah (k:=10) λk hk=>(kg.af k _).trans ?_;unfold kg.p;have hx4:=hx.len
 have:=ci (B:=λself v=>kg.b0 self (λz=>kg.q0 (rows,xs,()) z) (rows,xs,()) v) xs (λ(s:List Row) (i:Int)=>(s,i)) (λ_ s x=>match qb s (oy x.2.1) with | some t=>.inr t | none=>.inl (([]:List Row),(8:Int),())) (λs=>(s,(0:Int),())) (λi t=>Good t/\t.length<=12+12*i) (by rw[au];omega)
  (λi hi t self hI=>by
   show kg.b0 _ _ _ _=_;unfold kg.b0;have a_:(i:Int) < (xs.length:Int):=by omega
   have hu:=hx.xu _ (aP hi);have hch:=A9 (hx.ch _ (aP hi));have htl:=ht.2 _ (aP hi);simp only[a_,aI,aO,aK,aJ,aC,aB hi,aA];rw[LB _ htl.1];simp only[aA];have hil:=Ca (xs[i]).2.1;rw[P_ t _ (by rw[au];omega) (abU hI.1) Bys (Yp htl.2.2.2),V7 hI.1 hch Bys]
   grind)
  (λi hi t t' hI hs=>by
   have hu:=hx.xu _ (aP hi)
   cases hb:qb t (oy (xs[i]).2.1) with
   | none=>grind
   | some q=>
    rw[hb] at hs;injection hs with hs;subst hs;have:=HS _ _ _ hI.1 (A9 (hx.ch _ (aP hi))) hb
    grind [Ca]) (λt self hI=>by
   grind [kg.b0,kg.q0,IZ]) rows ⟨h,by omega⟩ k Bys
 rw[Gf] at this;refine aL this ?_;grind
def LC (n:Int) (xs:List Tx):Bool:=match xs[xs.length - 1]? with
 | some x=>decide (n<=x.1)
 | none=>false
def A_ (p:Plain):Int:=
 if vu p.1=0 then
  if D8 p.2.1=0 then
   if lD p.2.2.1 1 100&&!LC p.2.2.1 p.2.1 then
    if 12 < BX p.1 p.2.1 then 2 else (match qb p.1 (Ge p.2.1) with | some _=>0 | none=>8)
   else 3
  else D8 p.2.1
 else vu p.1
def okP (p:Plain):Prop:=List.length p.1<=1048576/\(∀ x ∈ (p.1:List Row),rl x)/\EC p.2.1
theorem TV {O:Type} (n:Int) (xs:List Tx) (hl:xs.length<=1048576) (bad j:Option O) :
  (bif decide ((0:Int) < (xs.length:Int)) then (if 0<=ag ((xs.length:Int) - (1:Int)) then ((xs[(ag ((xs.length:Int) - (1:Int))).toNat]?).bind λx5=>bif decide (n<=x5.1) then bad else j) else none) else j)=if LC n xs then bad else j:=by
 grind [LC,bh,Int.toNat_natCast]
theorem QU (p:Plain) (h:okP p):oL.ae (p,())=some (A_ p,()):=by
 obtain ⟨rows,xs,n,⟨⟩⟩:=p;obtain ⟨h1,h2,h3⟩:=h;simp only at h1 h2 h3;refine ah (k:=0) λk _=>(oL.af k _).trans ?_;show oL.p _=_;unfold oL.p A_;simp only[IY rows (by rw[au];omega) h2,V2 xs h3,uV,Ym rows xs h1 h3,aA];by_cases hr:vu rows=0;rotate_left
 ·grind
 by_cases ht:D8 xs=0;rotate_left
 ·grind
 obtain ⟨hg,_⟩:=FW hr;have bf:=Yo ht;simp only[hr,ht,aI,aN,aE,aJ];have iZ:(decide ((1:Int)<=n)&&decide (n<=100))=lD n 1 100:=rfl;rw[iZ]
 cases lD n 1 100 with
 | false=>rfl
 | true=>
  simp only[aN,aE,dV];rw[TV n xs h3.1]
  cases LC n xs with
  | true=>rfl
  | false=>
   simp only[bZ,aF,aS,aJ];have hlen:(kL (dd [] (AE rows xs))).length=BX rows xs:=by simp[kL,BX]
   by_cases sW:12 < BX rows xs
   ·grind
   ·have:¬ (12:Int) < ((kL (dd [] (AE rows xs))).length:Int):=by grind
    have yM:rows.length<=12:=by
     have:=ND (xs:=xs) hg.up;grind [BX]
    grind [QT]
theorem QV (p:Plain) (h:okP p):qi.ae (p,())=some (A_ p,()):=by
 obtain ⟨rows,xs,n,⟨⟩⟩:=p;obtain ⟨h1,h2,h3⟩:=h;simp only at h1 h2 h3;refine ah (k:=0) λk _=>(qi.af k _).trans ?_;show qi.p _=_;unfold qi.p A_;simp only[R6 rows (by rw[au];omega) h2,V3 xs h3,pu,aA];by_cases hr:vu rows=0;rotate_left
 ·grind
 by_cases ht:D8 xs=0;rotate_left
 ·grind
 obtain ⟨hg,_⟩:=FW hr;have bf:=Yo ht;have adh:=Sn rows xs h1 (by have:=bf.len;omega) (λx hx=>by have:=bf.aew x hx;omega);simp only[hr,ht,aI,aN,aE,aJ,adh,aA];have iZ:(decide ((1:Int)<=n)&&decide (n<=100))=lD n 1 100:=rfl;rw[iZ]
 cases lD n 1 100 with
 | false=>rfl
 | true=>
  simp only[aN,aE,dV];rw[TV n xs h3.1]
  cases LC n xs with
  | true=>rfl
  | false=>
   simp only[bZ,aF,aS,aJ];by_cases sW:12 < BX rows xs
   ·grind
   ·have:¬ (12:Int) < (BX rows xs:Int):=by omega
    have yM:rows.length<=12:=by
     have:=ND (xs:=xs) hg.up;grind [BX]
    grind [So]
theorem aag {p:Plain} (hv:uG Es p) (hz:zz Es p<=1048576):okP p:=by
 obtain ⟨rows,xs,n,⟨⟩⟩:=p;obtain ⟨hr,hx,_⟩:=hv;replace hz:zz (.aa bd) rows+(zz (.aa df) xs+(0+0))<=1048576:=hz;refine ⟨bG (y_ (e:=bd) rows) Bys,λx hm=>Vw (hr.2 x hm),bG (y_ (e:=df) xs) Bys,λx hm=>?_⟩
 have h1:zz df x+1<=zz (.aa df) xs:=KP (e:=df) hm;have h2:zz df x=0+(zz (.aa aq) x.2.1+(zz (.aa i64) x.2.2.1+(zz (.aa bp) x.2.2.2.1+0))):=rfl;have h3:List.length x.2.1<=zz (.aa aq) x.2.1:=y_ (e:=aq) x.2.1;have h4:List.length x.2.2.1<=zz (.aa i64) x.2.2.1:=y_ (e:=i64) x.2.2.1;have h5:List.length x.2.2.2.1<=zz (.aa bp) x.2.2.2.1:=y_ (e:=bp) x.2.2.2.1;exact ⟨by omega,by omega,by omega,λc hc=>aes ((hx.2 x hm).2.1.2 c hc)⟩
end OT
namespace OT
open Go
end OT
namespace OT
open Go
theorem abV {a b:List UInt8} {i:Nat} (h:i < a.length):da (a++b) i=da a i:=by
 grind [da]
theorem Yq {a b:List UInt8} {q:bg×Nat} (h:uy a=some q):uy (a++b)=some q:=by
 grind [uy,abV]
theorem Jd (b:List UInt8):∀ (k:Nat) (a:List UInt8),a.length < k->(kU k a).2=a.length->kU (k+b.length) (a++b)=((kU k a).1++(xt b).1,a.length+(xt b).2)
 | 0,_,h,_=>by omega
 | k+1,a,hk,h=>by
  cases hr:uy a with
  | none=>
   simp only[kU,hr] at h;have:a=[]:=bF h.symm;subst this;grind [xU,kU,xt]
  | some q=>
   obtain ⟨r,n⟩:=q;have hn:=EB hr;have hd:(a.drop n).length=a.length - n:=cC;simp only[kU,hr] at h;have ih:=Jd b k (a.drop n) Bys Bys;have e:k+1+b.length=(k+b.length)+1:=by omega
   rw[e];simp only[kU,hr,Yq hr,eY hn.2.1,ih,dR];grind
theorem Yr {a b:List UInt8} (h:zx a=true):xt (a++b)=((xt a).1++(xt b).1,a.length+(xt b).2):=by
 have:=Jd b (a.length+1) a Bys (of_decide_eq_true h);grind [xt]
def qB (l:Log):List bg:=(xt l.1).1++(xt l.2.1).1
theorem HT:∀ (k:Nat) (d:List UInt8),(kU k d).1.length<=d.length
 | 0,d=>aZ _
 | k+1,d=>by
  simp only[kU]
  cases hr:uy d with
  | none=>exact aZ _
  | some q=>
   obtain ⟨r,n⟩:=q;have hn:=EB hr;have hd:(d.drop n).length=d.length - n:=cC;have:=HT k (d.drop n);grind
theorem yD {l:Log} (h:zy l=0):List.length l.1+List.length l.2.1<=16000/\zx l.1=true/\zx l.2.1=true:=by
 grind [zy]
theorem Dd {l:Log} (h:zy l=0):(qB l).length<=16000:=by
 have h1:=yD h;grind [qB,HT,xt]
theorem Je {l:Log} (h:zy l=0):lJ.ae (l,())=some (qB l,()):=by
 have h1:=yD h;have h2:=Dd h;refine ah (k:=0) λk _=>(lJ.af k _).trans ?_;grind [lJ.p,Lv,cv,qB]
theorem aah (d:List UInt8) (hd:d.length<=1048576):bY.ae (d,())=some (d,()):=nr d Bys
theorem Jf {l:Log} (h:zy l=0):mu.ae (l,())=some (qB l,()):=by
 have h1:=yD h;refine ah (k:=0) λk _=>(mu.af k _).trans ?_;unfold mu.p;simp only[aah l.1 Bys,aA];rw[aR (cv Bys),Lw _ (by grind)];rw[Yr h1.2.1];rfl
theorem J1 {α:Type} [DecidableEq α]:∀ {a b:List α},a.length=b.length->CM (λx y=>decide (x=y)) a b=decide (a=b)
 | [],[],_=>by simp[CM]
 | x::a,y::b,h=>by
  have ih:=J1 (a:=a) (b:=b) (by simpa using h);grind [CM,List.zip_cons_cons]
 | [],_::_,h=>by cases h
 | _::_,[],h=>by cases h
theorem Sp (a b:List (List UInt8)) (hl:a.length<=1000):mW.ae (a,b,())=some (decide (a=b),()):=by
 refine ah (k:=1002) λk hk=>(mW.af k _).trans ?_;unfold mW.p;by_cases hlen:a.length=b.length;rotate_left
 ·have e1:¬ ((a.length:Int)=(b.length:Int)):=by omega
  have e2:¬ a=b:=λh=>hlen (by rw[h]);grind
 have e1:((a.length:Int)=(b.length:Int)):=by omega
 simp only[e1,aI,aN,aE]
 have:=JG (B:=λself v=>mW.b0 self (λz=>mW.q0 (a,b,()) z) (a,b,()) v) (xs:=a) (ys:=b) (λx y=>decide (x=y)) hlen (by rw[au];omega)
  (λi hx hy self=>by
   grind [mW.b0]) (λself=>by
   show mW.b0 _ _ _ _=_;unfold mW.b0;rw[bC (aU _),aE]
   rfl) k Bys
 refine this.trans ?_;rw[J1 hlen]
theorem Sq (a b:List (List UInt8)) (hl:a.length<=1000) (ha:∀ x ∈ a,x.length<=100000):qK.ae (a,b,())=some (decide (a=b),()):=by
 refine ah (k:=0) λk _=>(qK.af k _).trans ?_;unfold qK.p
 have:∀ f:Nat×Int,gk.ae (a,b,f,())=some (decide (a=b),()):=λf=>by
  refine ah (k:=1002) λk hk=>(gk.af k _).trans ?_;unfold gk.p;by_cases hlen:a.length=b.length;rotate_left
  ·have e1:¬ ((a.length:Int)=(b.length:Int)):=by omega
   have e2:¬ a=b:=λh=>hlen (by rw[h]);grind
  have e1:((a.length:Int)=(b.length:Int)):=by omega
  simp only[e1,aI,aN,aE]
  have:=JG (B:=λself v=>gk.b0 self (λz=>gk.q0 (a,b,f,()) z) (a,b,f,()) v) (xs:=a) (ys:=b) (λx y=>decide (x=y)) hlen (by rw[au];omega)
   (λi hx hy self=>by
    grind [gk.b0,Int.toNat_natCast,QH]) (λself=>by
    show gk.b0 _ _ _ _=_;unfold gk.b0;rw[bC (aU _),aE]
    rfl) k Bys
  refine this.trans ?_;rw[J1 hlen]
 rw[this];rfl
theorem QW {d:List UInt8} (h:d.length<=64):List.length (en d).1.2.2.2.2.1.2.2.2.1<=64:=by
 unfold en;split
 ·exact aZ _
 ·split
  ·exact aZ _
  ·show (d.drop 6).length<=64;rw[cC];omega
theorem QX {p:List UInt8} (s:Nat) (h:p.length<=64):(jm p s).length<=64:=by
 grind [jm]
theorem aai {ps:bv} (h:lA ps) (a b:Int):List.length (pB ps a b).1.2.2.2.2.1.2.2.2.1<=64:=by
 unfold pB
 cases hp:ps[a.toNat]? with
 | none=>exact aZ _
 | some p=>
  have hm:=h.2 p (bI hp);simp only;split
  ·exact QW (QX _ (by rw[hm.len];omega))
  ·exact aZ _
theorem MF {ps:bv} (h:f9 ps=0):∀ r ∈ dg ps,List.length r.2.2.2.1<=64:=λr hr=>by
 have hv:=FZ h;rw[Ai (ov h),(BQ _).mem_iff,eL] at hr;obtain ⟨x,hx,rfl⟩:=hr;unfold jJ at hx;rw[dI] at hx;obtain ⟨y,hy,hx⟩:=hx;unfold sY at hx;split at hx
 ·cases hx
 ·rw[bV] at hx;subst hx;unfold xh;split
  ·exact aai hv.1 _ _
  ·obtain ⟨P,p,t,h1,h2,h3,rfl⟩:=ye.1 hy;exact QW (QX _ (by rw[(hv.1.2 p (bI h1)).len];omega))
theorem abW {ps:bv} (h:f9 ps=0):∀ r ∈ dg ps,rl r:=λr hr=>by
 grind [MF,rl,au]
theorem Al {ps:bv} (h:f9 ps=0):(dg ps).length<=192:=by
 grind [dg,A7,ov]
def QY (s:bi):Prop:=QI s.2.2.1/\(∀ p ∈ (s.2.1:bv),p.length<=maxLen)/\EC s.2.2.2.1
theorem Ys {s:bi} (h:QY s) (hv:f9 s.2.1=0):okP (dg s.2.1,s.2.2.2.1,s.2.2.2.2.1,()):=
 ⟨by grind [Al],abW hv,h.2.2⟩
def V8 (s:bi):Int:=if decide (0 < List.length s.2.1)||(decide (0 < List.length s.2.2.2.1)||decide (0 < List.length s.2.2.1.2.1)) then 1 else if lD s.2.2.2.2.1 1 100 then 0 else 3
def upF (s:bi):Int:=if f9 s.2.1=0 then
        if A_ (dg s.2.1,s.2.2.2.1,s.2.2.2.2.1,())=0 then
         if (zk (qB s.2.2.1)).2.1=0/\(zk (qB s.2.2.1)).1=s.2.1 then 0 else 8
        else A_ (dg s.2.1,s.2.2.2.1,s.2.2.2.2.1,())
   else f9 s.2.1
def xN (s:bi):Int:=if zy s.2.2.1=0 then (bif s.1 then upF s else V8 s) else zy s.2.2.1
theorem TW (s:bi) (A:Option (Bool×Unit)) (h:A=some (lD s.2.2.2.2.1 1 100,())) :
  (bif decide ((0:Int) < (List.length s.2.1:Int)) then (some ((1:Int),())) else bif decide ((0:Int) < (List.length s.2.2.2.1:Int)) then (some ((1:Int),())) else bif decide ((0:Int) < (List.length s.2.2.1.2.1:Int)) then (some ((1:Int),())) else A.bind λr3=>bif !r3.1 then (some ((3:Int),())) else some ((0:Int),()))=some (V8 s,()):=by
 grind [V8]
theorem QZ {s:bi} (h:QY s):pY.ae (s,())=some (xN s,()):=by
 refine ah (k:=0) λk _=>(pY.af k _).trans ?_;unfold pY.p xN;simp only[VW _ h.1,aA];by_cases h0:zy s.2.2.1=0;rotate_left
 ·grind
 simp only[h0,aI,aN,aE,aJ]
 cases hu:s.1 with
 | false=>exact TW s _ (uV _ _ _)
 | true=>
  simp only[aN,aE,aO];unfold upF;rw[Az s.2.1 h.2.1];simp only[aA];by_cases h1:f9 s.2.1=0;rotate_left
  ·grind
  simp only[h1,aI,aN,aE,aJ];rw[AA _ (by grind [A7,ov])];simp only[aA];have hp:=QU _ (Ys h h1);unfold dg at hp ⊢;rw[hp];simp only[aA];generalize A_ ((vv s.2.1).map (·.1),s.2.2.2.1,s.2.2.2.2.1,())=c;by_cases h2:c=0;rotate_left
  ·grind
  simp only[h2,aI,aN,aE,aJ,Je h0,aA,IQ _ (show (qB s.2.2.1).length<=maxLen by grind [Dd,au])];by_cases h3:(zk (qB s.2.2.1)).2.1=0;rotate_left
  ·grind
  have hg:=K9 _ h3;simp only[h3,aI,aN,aE,dE,Sq _ s.2.1 (show List.length (zk (qB s.2.2.1)).1<=1000 by have:=hg.1;omega) (λx hx=>by have:=hg.2 x hx;omega),aA];grind
theorem MG {s:bi} (h:QY s):rS.ae (s,())=some (xN s,()):=by
 refine ah (k:=0) λk _=>(rS.af k _).trans ?_;unfold rS.p xN;simp only[VV _ h.1,aA];by_cases h0:zy s.2.2.1=0;rotate_left
 ·grind
 simp only[h0,aI,aN,aE,aJ]
 cases hu:s.1 with
 | false=>exact TW s _ (pu _ _ _)
 | true=>
  simp only[aN,aE,aO];unfold upF;rw[I0 s.2.1 h.2.1];simp only[aA];by_cases h1:f9 s.2.1=0;rotate_left
  ·grind
  simp only[h1,aI,aN,aE,aJ];rw[Bq h1];simp only[aA];rw[QV _ (Ys h h1)];simp only[aA];generalize A_ (dg s.2.1,s.2.2.2.1,s.2.2.2.2.1,())=c;by_cases h2:c=0;rotate_left
  ·grind
  simp only[h2,aI,aN,aE,aJ,Jf h0,aA,RV _ (show (qB s.2.2.1).length<=maxLen by grind [Dd,au])];by_cases h3:(zk (qB s.2.2.1)).2.1=0;rotate_left
  ·grind
  have hg:=K9 _ h3;simp only[h3,aI,aN,aE,dE,Sp _ s.2.1 (show List.length (zk (qB s.2.2.1)).1<=1000 by have:=hg.1;omega),aA];grind
end OT
namespace OT
open Go
def rA (l:Log):Nat:=List.length l.1+List.length l.2.1
theorem Yt {l:Log} (h:rA l<=16000):QI l:=by unfold rA at h;exact ⟨by omega,by omega⟩
def uO (l:Log) (r:bg):Option Log:=if 16000 < List.length l.1+List.length l.2.1+(vC r).length then none else some (l.1,l.2.1++vC r,())
theorem Gg {l l':Log} {r:bg} (h:uO l r=some l'):rA l'<=16000:=by
 grind [uO,rA]
def HU (s:bi) (r:bg):Int×bi×Unit:=match uO s.2.2.1 r with
 | some l=>((0:Int),(s.1,s.2.1,l,s.2.2.2),())
 | none=>((9:Int),s,())
section
variable {s:bi} {r:bg} (hl:rA s.2.2.1<=16000) (hs:zw r)
include hl hs
theorem Jg:kF.ae (s,r,())=some (HU s r):=by
 refine ah (k:=0) λk _=>(kF.af k _).trans ?_;grind [kF.p,HU,uO,VY,Yt]
theorem Jh:nl.ae (s,r,())=some (HU s r):=by
 refine ah (k:=0) λk _=>(nl.af k _).trans ?_;grind [nl.p,HU,uO,VX,Yt]
end
def zA (ps:bv) (P:Nat):List UInt8:=if P < ps.length then il ps P else wG
def zB (ps:bv) (kind tx:Int) (e:rQ):bg:=(kind,tx,e.1,FE (zA ps e.1.toNat) e.2.1,())
theorem Q5 {ps:bv} (hg:gp ps) (P:Nat):(zA ps P).length=64:=by
 unfold zA;split
 ·rename_i h;exact hg.2 _ (JY h)
 ·exact Aa
theorem NG {ps:bv} (hg:gp ps) (kind tx:Int) (e:rQ):zw (zB ps kind tx e):=RW (Q5 hg _)
def J2 (ps:bv) (e:rQ):bv:=if e.1.toNat=ps.length then ps++[wG] else ps
def py (add:Bool) (kind tx:Int):List rQ->bv×Log->Sum (bv×Log) (bv×Log)
 | [],q=>.inr q
 | e::es,q=>match uO q.2 (zB q.1 kind tx e) with
  | none=>.inl (if add then J2 q.1 e else q.1,q.2)
  | some l=>py add kind tx es (n7 q.1 e,l)
def q_ (add:Bool) (kind tx:Int):List Change->bv×Log->Sum (Int×bv×Log) (bv×Log)
 | [],q=>.inr q
 | c :: cs,q=>if (kT q.1 c).1=0 then (match py add kind tx (kT q.1 c).2.1 q with
     | .inl p=>.inl ((9:Int),p)
     | .inr p=>q_ add kind tx cs p) else .inl ((kT q.1 c).1,q)
theorem Gh {O:Type} {add:Bool} {kind tx:Int} {K:bv×Log->O} {fin:bv×Log->O}:∀ (es:List rQ) (i:Nat) (q:bv×Log),bq (λ_ q e=>match uO q.2 (zB q.1 kind tx e) with
   | none=>.inl (K (if add then J2 q.1 e else q.1,q.2))
   | some l=>.inr (n7 q.1 e,l)) fin i es q=match py add kind tx es q with | .inl p=>K p | .inr p=>fin p
 | [],i,q=>rfl
 | e::es,i,q=>by
  simp only[bq,py]
  cases h:uO q.2 (zB q.1 kind tx e) with
  | none=>rfl
  | some l=>exact Gh es (i+1) _
theorem HV {O:Type} {add:Bool} {kind tx:Int} {K:Int×bv×Log->O} {fin:bv×Log->O}:∀ (cs:List Change) (i:Nat) (q:bv×Log),bq (λ_ q c=>if (kT q.1 c).1=0 then (match py add kind tx (kT q.1 c).2.1 q with
   | .inl p=>.inl (K ((9:Int),p))
   | .inr p=>.inr p) else .inl (K ((kT q.1 c).1,q))) fin i cs q=match q_ add kind tx cs q with | .inl p=>K p | .inr p=>fin p
 | [],i,q=>rfl
 | c::cs,i,q=>by
  simp only[bq,q_];by_cases h0:(kT q.1 c).1=0
  ·rw[aR h0,aR h0]
   cases h:py add kind tx (kT q.1 c).2.1 q with
   | inl p=>rfl
   | inr p=>exact HV cs (i+1) _
  grind
theorem LD (kind tx:Int):∀ (es:List rQ) (q:bv×Log),match py true kind tx es q,py false kind tx es q with | .inr p,.inr p'=>p=p' | .inl _,.inl _=>True | _,_=>False
 | [],q=>rfl
 | e::es,q=>by
  simp only[py]
  cases h:uO q.2 (zB q.1 kind tx e) with
  | none=>trivial
  | some l=>exact LD kind tx es _
theorem NH (kind tx:Int):∀ (cs:List Change) (q:bv×Log),match q_ true kind tx cs q,q_ false kind tx cs q with | .inr p,.inr p'=>p=p' | .inl p,.inl p'=>p.1=p'.1 | _,_=>False
 | [],q=>rfl
 | c::cs,q=>by
  simp only[q_];by_cases h0:(kT q.1 c).1=0
  ·rw[aR h0,aR h0];have:=LD kind tx (kT q.1 c).2.1 q
   cases h1:py true kind tx (kT q.1 c).2.1 q with
   | inl p=>grind
   | inr p=>cases h2:py false kind tx (kT q.1 c).2.1 q with
    | inl p'=>grind
    | inr p'=>
     rw[h1,h2] at this;have this:_=_:=this;subst this;exact NH kind tx cs _
  grind
theorem Ji {add:Bool} {kind tx:Int}:∀ (es:List rQ) (q p:bv×Log),py add kind tx es q=.inr p->rA q.2<=16000->p.1=I6 q.1 es/\rA p.2<=16000
 | [],q,p,h,hl=>by injection h with h;subst h;exact ⟨rfl,hl⟩
 | e::es,q,p,h,hl=>by
  simp only[py] at h
  cases ha:uO q.2 (zB q.1 kind tx e) with
  | none=>grind
  | some l=>
   rw[ha] at h;exact Ji es _ p h (Gg ha)
theorem Q6 {ps:bv} (hg:gp ps) {e:rQ} (he:MC ps e):gp (n7 ps e):=by
 obtain ⟨e1,e2,e3,e4⟩:=he;unfold n7;split
 ·refine ⟨by grind,λp hp=>?_⟩
  rcases bR.1 hp with h | h
  ·exact hg.2 p h
  grind
 ·refine ⟨by rw[cE];exact hg.1,λp hp=>?_⟩
  rcases dK hp with h | h
  ·exact hg.2 p h
  grind
def wk (q:bv×Log):Prop:=f9 q.1=0/\rA q.2<=16000
theorem Gj {add:Bool} {kind tx:Int} {q p:bv×Log} (hq:wk q) {c:Change} (hc:om c=0) (h0:(kT q.1 c).1=0) (h:py add kind tx (kT q.1 c).2.1 q=.inr p):wk p/\p.1=(kT q.1 c).2.2.1:=by
 obtain ⟨e1,e2⟩:=Ji _ q p h hq.2;obtain ⟨w,f1,f2,f3⟩:=MD hq.1 hc h0;have e3:p.1=(kT q.1 c).2.2.1:=by rw[e1,f1];exact f3.at_
 exact ⟨⟨by rw[e3];exact (Yd hq.1 hc h0).1,e2⟩,e3⟩
theorem Q7 {ps:bv} (hv:f9 ps=0):∀ p ∈ ps,p.length<=maxLen:=λp hp=>by
 have:=((pi.1 hv).1.2 p hp).len;grind [au]
theorem Is {ps:bv} (hv:f9 ps=0):gp ps:=VK (pi.1 hv).1
section
variable {s0:bi} {kind tx:Int}
theorem Q8 {a:fe.A} {cs:List Change} {n i0:Int} {es:List rQ} {fin:bi->Option fe.O} {q:bv×Log} (hg:gp q.1) (hl:rA q.2<=16000) (he:BU q.1 es) (xC:es.length<=40) {k:Nat} (hk:50<=k) :
  am (λw v=>fe.b1 w fin a kind tx cs n i0 es (es.length:Int) v) k ((s0.1,q.1,q.2,s0.2.2.2),(0:Int))=match py true kind tx es q with
   | .inl p=>some ((9:Int),(s0.1,p.1,p.2,s0.2.2.2),())
   | .inr p=>fin (s0.1,p.1,p.2,s0.2.2.2):=by
 have:=eh (B:=λw v=>fe.b1 w fin a kind tx cs n i0 es (es.length:Int) v) es (λ(q:bv×Log) (i:Int)=>((s0.1,q.1,q.2,s0.2.2.2),i))
  (λ_ q e=>match uO q.2 (zB q.1 kind tx e) with
   | none=>.inl (some ((9:Int),(s0.1,(if true=true then J2 q.1 e else q.1),q.2,s0.2.2.2),()))
   | some l=>.inr (n7 q.1 e,l)) (λp=>fin (s0.1,p.1,p.2,s0.2.2.2))
  (λi q=>gp q.1/\rA q.2<=16000/\BU q.1 (es.drop i)) (by rw[au];omega)
  (λi hi q self hI=>by
   obtain ⟨hg,hl,he⟩:=hI;rw[cP hi] at he;obtain ⟨⟨e1,e2,e3,e4⟩,_⟩:=he;unfold fe.b1;have a_:(i:Int) < (es.length:Int):=by omega
   simp only[a_,aI,aO,aK,aJ,aC,aB hi,aA];generalize es[i]=e at e1 e2 e3 e4;obtain ⟨P,b,⟨⟩⟩:=e;simp only at e1 e2 e3 e4
   obtain ⟨P,rfl⟩:∃ Q:Nat,P=(Q:Int):=⟨P.toNat,by omega⟩
   have J:∀ qs:bv,gp qs->P < qs.length->il qs P=zA q.1 P->n7 q.1 ((P:Int),b,())=qs.set P b->(if 0<=(P:Int)/\(P:Int) < (qs.length:Int) then ((qs[P]?).bind λad6=>(qs[P]?).bind λVb=>(jB.ae (Vb,b,())).bind λVc=>(kF.ae ((s0.1,qs,q.2,s0.2.2.2),(kind,tx,(P:Int),Vc.1,()),())).bind λtM=>bif !decide (tM.1=(0:Int)) then (some (tM.1,tM.2.1,())) else (cm.ae (b,())).bind λVd=>if 0<=(P:Int)/\(P:Int) < (tM.2.1.2.1.length:Int) then ((tM.2.1.2.1[P]?).bind λad7=>self ((tM.2.1.1,tM.2.1.2.1.set P Vd.1,tM.2.1.2.2),ag ((i:Int)+(1:Int)))) else none) else none) =
     match uO q.2 (zB q.1 kind tx ((P:Int),b,())) with
     | none=>some ((9:Int),(s0.1,qs,q.2,s0.2.2.2),())
     | some l=>self ((s0.1,n7 q.1 ((P:Int),b,()),l,s0.2.2.2),ag ((i:Int)+1)):=λqs hqs hP hb ha=>by
    have iZ:0<=(P:Int)/\(P:Int) < (qs.length:Int):=by omega
    have hx:(qs[P]).length=64:=hqs.2 _ (aP hP);have hpg:qs[P]=zA q.1 P:=by rw[<-hb];have:=nY hP;grind
    have af3:(kind,tx,(P:Int),FE qs[P] b,())=zB q.1 kind tx ((P:Int),b,()):=by rw[hpg];rfl
    have Xd:=NG hg kind tx ((P:Int),b,());rw[aR iZ,aB hP];grind [RX,Jg,HU,mY]
   simp only[aC];by_cases hP:P=q.1.length
   ·subst hP;have oU:q.1.length+[wG].length<=b9:=cv (by grind);rw[bA rfl,aO,FB];simp only[aA,oU,aJ];have hlen:(q.1++[wG]).length=q.1.length+1:=by simp
    have hj:=J (q.1++[wG]) ⟨by grind,λp hp=>by
     rcases bR.1 hp with h | h
     ·exact hg.2 p h
     grind [Aa]⟩ (by grind) (by
      grind [zA,Qq]) (by
      grind [n7])
    rw[hj];have ha:J2 q.1 ((q.1.length:Int),b,())=q.1++[wG]:=by grind [J2]
    grind
   grind [zA,n7,Int.toNat_natCast,J2])
  (λi hi q q' hI hf=>by
   obtain ⟨hg,hl,he⟩:=hI;rw[cP hi] at he
   cases G7:uO q.2 (zB q.1 kind tx es[i]) with
   | none=>grind
   | some l=>
    rw[G7] at hf;injection hf with hf;subst hf
    exact ⟨Q6 hg he.1,Gg G7,he.2⟩) (λq self hI=>by
   grind [fe.b1]) q ⟨hg,hl,he⟩ k Bys
 rw[this,Gh (add:=true) (K:=λp:bv×Log=>(some ((9:Int),(s0.1,p.1,p.2,s0.2.2.2),()):Option fe.O))]
end
def sk (s:bi) (r:Sum (Int×bv×Log) (bv×Log)):Int×bi×Unit:=match r with
 | .inl p=>(p.1,(s.1,p.2.1,p.2.2,s.2.2.2),())
 | .inr p=>((0:Int),(s.1,p.1,p.2,s.2.2.2),())
section
variable {s:bi} {kind tx:Int}
theorem Sr {cs:List Change} (hq:wk (s.2.1,s.2.2.1)) (hc:∀ c ∈ cs,om c=0) (ta:∀ c ∈ cs,cl c) (hn:cs.length<=1000):fe.ae (s,cs,kind,tx,())=some (sk s (q_ true kind tx cs (s.2.1,s.2.2.1))):=by
 refine ah (k:=1100) λk hk=>(fe.af k _).trans ?_
 have:=eh (B:=λself v=>fe.B0 k self (fe.q1 (s,cs,kind,tx,())) (s,cs,kind,tx,()) v) cs (λ(q:bv×Log) (i:Int)=>((s.1,q.1,q.2,s.2.2.2),kind,tx,cs,(cs.length:Int),i))
  (λ_ q c=>if (kT q.1 c).1=0 then (match py true kind tx (kT q.1 c).2.1 q with
   | .inl p=>.inl (some (sk s (.inl ((9:Int),p))))
   | .inr p=>.inr p) else .inl (some (sk s (.inl ((kT q.1 c).1,q))))) (λp=>some (sk s (.inr p))) (λ_ q=>wk q) (by rw[au];omega)
  (λi hi q self hI=>by
   show fe.b0 _ _ _ _ _=_;unfold fe.b0;have a_:(i:Int) < (cs.length:Int):=by omega
   have hm:=aP hi;simp only[a_,aI,aO,aK,aJ,aC,aB hi,aA];rw[Sf (Q7 hI.1) (ta _ hm)];simp only[aA];by_cases h0:(kT q.1 cs[i]).1=0
   ·obtain ⟨w,f1,f2,f3⟩:=MD hI.1 (hc _ hm) h0;have he:(kT q.1 cs[i]).2.1=w.2.1:=by rw[f1]
    rw[aR h0,bA h0,aN,aE]
    have:=Q8 (s0:=s) (kind:=kind) (tx:=tx) (a:=(s,cs,kind,tx,())) (cs:=cs) (n:=(cs.length:Int)) (i0:=(i:Int)) (es:=(kT q.1 cs[i]).2.1)
     (fin:=fe.q0 self (fe.q1 (s,cs,kind,tx,())) (s,cs,kind,tx,()) kind tx cs (cs.length:Int) (i:Int) (kT q.1 cs[i]).2.1 ((kT q.1 cs[i]).2.1.length:Int)) (q:=q) (Is hI.1) hI.2 (by rw[he];exact f3.ed) (by rw[he];exact f2.el) (k:=k) Bys
    refine aL this ?_
    cases py true kind tx (kT q.1 cs[i]).2.1 q with
    | inl p=>rfl
    | inr p=>rfl
   ·rw[aV h0,bC h0,bZ,aO]
    rfl)
  (λi hi q q' hI hf=>by
   grind [Gj]) (λq self hI=>by
   show fe.b0 _ _ _ _ _=_;unfold fe.b0;rw[bC (aU _),aE]
   rfl) (s.2.1,s.2.2.1) hq k Bys
 refine aL this ?_;rw[HV (add:=true) (K:=λp=>some (sk s (.inl p)))];grind
theorem Ss {ps:bv} (hg:gp ps) {e:rQ} (he:MC ps e):ud.ae (ps,e,kind,tx,())=some (zB ps kind tx e,()):=by
 obtain ⟨P,b,⟨⟩⟩:=e;obtain ⟨e1,e2,e3,e4⟩:=he;simp only at e1 e2 e3 e4
 obtain ⟨P,rfl⟩:∃ Q:Nat,P=(Q:Int):=⟨P.toNat,by omega⟩
 refine ah (k:=0) λk _=>(ud.af k _).trans ?_;unfold ud.p;rw[FC];simp only[aA];by_cases h:P < ps.length
 ·have h1:(P:Int) < (ps.length:Int):=by omega
  have hb:zA ps P=ps[P]:=by
   unfold zA;rw[aR h];have:=nY h;grind
  have hl:=Q5 hg P;rw[hb] at hl;simp only[h1,aI,aO,aK,aJ,aC,aB h,aA];rw[IS hl e1,<- hb];rfl
 ·have h1:¬ (P:Int) < (ps.length:Int):=by omega
  have hb:zA ps P=wG:=by grind [zA]
  simp only[h1,aG,aE];rw[IS Aa e1,<- hb];rfl
theorem NW {ps:bv} (hg:gp ps) {e:rQ} (he:MC ps e):lp.ae (ps,[e],())=some (((0:Int),[e],n7 ps e,()),()):=by
 obtain ⟨P,b,⟨⟩⟩:=e;obtain ⟨e1,e2,e3,e4⟩:=he;simp only at e1 e2 e3 e4
 obtain ⟨P,rfl⟩:∃ Q:Nat,P=(Q:Int):=⟨P.toNat,by omega⟩
 refine ah (k:=5) λk hk=>(lp.af k _).trans ?_;unfold lp.p;have zK:¬ (12:Int) < (ps.length:Int):=by have:=hg.1;omega
 simp only[zK,aG,aE,xS ps hg,aA]
 have:=ci (B:=λself v=>lp.b0 self (lp.q0 (ps,[((P:Int),b,())],())) (ps,[((P:Int),b,())],()) v) [((P:Int),b,())] (λ(r:d7) (i:Int)=>(r,i))
  (λ_ r x=>.inr ((0:Int),[x],n7 ps x,())) (λr=>(r,())) (λi r=>i=0->r=((0:Int),[],ps,())) (by rw[au];simp)
  (λi hi r self hI=>by
   have M9:i=0:=by grind
   subst M9;rw[hI rfl];unfold lp.b0;have h64:(b.length:Int)=64:=by omega
   have afq:¬ (P:Int)=12:=by omega
   have vM:((0:Nat):Int) < (([((P:Int),b,())]:List rQ).length:Int):=by simp
   simp only[vM,aI,aO,aK,aJ,aC,eW,aA,h64,aN,aE,pu,e3,dE,fL,afq,aG]
   grind [n7,nr,cv])
  (λi hi r r' hI hf h=>by omega) (λr self hI=>by
   unfold lp.b0;rw[bC (aU _),aE]
   rfl) ((0:Int),[],ps,()) (λ_=>rfl) k (by grind)
 exact this
theorem take_one {α:Type} {es:List α} {i:Nat} (h:i < es.length):(es.take (i+1)).drop i=[es[i]]:=by
 grind [List.drop_eq_getElem_cons]
theorem Yu {ps:bv} (hv:f9 ps=0) {c:Change} (hc:om c=0):se.ae (ps,c,())=some (kT ps c,()):=by
 grind [QB,Q7,kT]
theorem Q9 {c:Change} (hq:wk (s.2.1,s.2.2.1)) (hc:om c=0):nS.ae (s,c,kind,tx,())=some (sk s (q_ false kind tx [c] (s.2.1,s.2.2.1))):=by
 refine ah (k:=100) λk hk=>(nS.af k _).trans ?_;unfold nS.p;rw[Yu hq.1 hc];simp only[aA,q_];by_cases h0:(kT s.2.1 c).1=0;rotate_left
 ·simp only[h0,aG,bZ,aO,aS];rfl
 simp only[h0,aI,aN,aE,aJ];obtain ⟨w,f1,f2,f3⟩:=MD hq.1 hc h0
 obtain ⟨E,hE⟩:∃ E,E=kT s.2.1 c:=⟨_,rfl⟩
 have he:E.2.1=w.2.1:=by rw[hE,f1]
 rw[<-hE];have hlen:List.length E.2.1<=40:=by rw[he];exact f2.el
 have:=eh (B:=λself v=>nS.b0 self (nS.q0 (s,c,kind,tx,()) E) (s,c,kind,tx,()) E v) E.2.1 (λ(q:bv×Log) (i:Int)=>((s.1,q.1,q.2,s.2.2.2),i))
  (λ_ q e=>match uO q.2 (zB q.1 kind tx e) with
   | none=>.inl (some (sk s (.inl ((9:Int),(if false=true then J2 q.1 e else q.1),q.2))))
   | some l=>.inr (n7 q.1 e,l)) (λp=>some (sk s (.inr p))) (λi q=>gp q.1/\rA q.2<=16000/\BU q.1 (E.2.1.drop i)) (by rw[au];omega)
  (λi hi q self hI=>by
   obtain ⟨hg,hl,he⟩:=hI;rw[cP hi] at he;unfold nS.b0;have a_:(i:Int) < (List.length E.2.1:Int):=by omega
   have hw:ag ((i:Int)+1)=((i+1:Nat):Int):=by grind [bh]
   have iZ:0<=(i:Int)/\(i:Int) < (List.length E.2.1:Int):=by omega
   have Uj:0<=(i:Int)/\(i:Int)<=((i+1:Nat):Int)/\((i+1:Nat):Int)<=(List.length E.2.1:Int):=by omega
   simp only[hw];rw[bA a_,aO,aR iZ];simp only[aC,aB hi,aA];rw[Ss hg he.1];simp only[aA];rw[Jh (s:=(s.1,q.1,q.2,s.2.2.2)) hl (NG hg kind tx _)];unfold HU;simp only
   cases G7:uO q.2 (zB q.1 kind tx E.2.1[i]) with
   | none=>rfl
   | some l=>
    simp only[aA,aI,aN,aE];rw[aR Uj,take_one hi,NW hg he.1]
    rfl)
  (λi hi q q' hI hf=>by
   obtain ⟨hg,hl,he⟩:=hI;rw[cP hi] at he
   cases G7:uO q.2 (zB q.1 kind tx E.2.1[i]) with
   | none=>grind
   | some l=>
    rw[G7] at hf;injection hf with hf;subst hf
    exact ⟨Q6 hg he.1,Gg G7,he.2⟩) (λq self hI=>by
   unfold nS.b0;rw[bC (aU _),aE]
   rfl) (s.2.1,s.2.2.1) ⟨Is hq.1,hq.2,by rw[he];exact f3.ed⟩ k Bys
 refine aL this ?_;rw[Gh (add:=false) (K:=λp=>some (sk s (.inl ((9:Int),p))))];grind
end
theorem MH {add:Bool} {kind tx:Int}:∀ (cs:List Change) (q:bv×Log) (p:Int×bv×Log),q_ add kind tx cs q=.inl p->p.1≠0
 | [],q,p,h=>by cases h
 | c::cs,q,p,h=>by
  simp only[q_] at h;by_cases h0:(kT q.1 c).1=0
  ·rw[aR h0] at h
   cases he:py add kind tx (kT q.1 c).2.1 q with
   | inl p'=>grind
   | inr p'=>rw[he] at h;exact MH cs p' p h
  grind
theorem DR {add:Bool} {kind tx:Int}:∀ (cs:List Change) (q p:bv×Log),wk q->(∀ c ∈ cs,om c=0)->q_ add kind tx cs q=.inr p->wk p
 | [],q,p,hq,hc,h=>by injection h with h;grind
 | c::cs,q,p,hq,hc,h=>by
  simp only[q_] at h;by_cases h0:(kT q.1 c).1=0
  ·rw[aR h0] at h
   cases he:py add kind tx (kT q.1 c).2.1 q with
   | inl p=>grind
   | inr p'=>
    rw[he] at h;exact DR cs p' p (Gj hq (hc _ bB) h0 he).1 (λd hd=>hc d (aW _ hd)) h
  grind
section
variable {s:bi} {tx:Int}
theorem Q_ {xu:List Change} (hq:wk (s.2.1,s.2.2.1)) (hc:∀ c ∈ xu,om c=0) (hn:xu.length<=1000):nT.ae (s,xu,tx,())=some (sk s (q_ false 3 tx (oy xu) (s.2.1,s.2.2.1))):=by
 refine ah (k:=1100) λk hk=>(nT.af k _).trans ?_;unfold nT.p;rw[LA xu Bys];simp only[aA];have hci:=A9 hc;have hln:(oy xu).length=xu.length:=Ca xu
 obtain ⟨cs,qD⟩:∃ cs,cs=oy xu:=⟨_,rfl⟩
 rw[<-qD] at hci hln ⊢
 have:=eh (B:=λself v=>nT.b0 self (nT.q0 (s,xu,tx,()) cs) (s,xu,tx,()) cs v) cs (λ(q:bv×Log) (i:Int)=>((s.1,q.1,q.2,s.2.2.2),i))
  (λ_ q c=>if (kT q.1 c).1=0 then (match py false 3 tx (kT q.1 c).2.1 q with
   | .inl p=>.inl (some (sk s (.inl ((9:Int),p))))
   | .inr p=>.inr p) else .inl (some (sk s (.inl ((kT q.1 c).1,q))))) (λp=>some (sk s (.inr p))) (λ_ q=>wk q) (by rw[au];omega)
  (λi hi q self hI=>by
   grind [nT.b0,Int.natCast_nonneg,Int.toNat_natCast,Q9,q_,sk])
  (λi hi q q' hI hf=>by
   grind [Gj]) (λq self hI=>by
   unfold nT.b0;rw[bC (aU _),aE]
   rfl) (s.2.1,s.2.2.1) hq k Bys
 refine aL this ?_;rw[HV (add:=false) (K:=λp=>some (sk s (.inl p)))];grind
end
end OT
namespace OT
open Go
theorem aaj {s:bi} (hv:uG cw s) (hz:zz cw s<=1048576):QY s:=by
 obtain ⟨u,ps,l,xs,n,⟨⟩⟩:=s;obtain ⟨h1,h2,h3,h4,h5,_⟩:=hv;replace hz:0+(zz (.aa (.aa u8)) ps+(zz gd l+(zz (.aa df) xs+(0+0))))<=1048576:=hz;have hzl:zz gd l=zz (.aa u8) l.1+(zz (.aa u8) l.2.1+0):=rfl;have vM:List.length l.1<=zz (.aa u8) l.1:=y_ (e:=u8) l.1;have zG:List.length l.2.1<=zz (.aa u8) l.2.1:=y_ (e:=u8) l.2.1;refine ⟨⟨?_,?_⟩,λp hp=>?_,?_⟩
 ·grind
 ·grind
 ·have a1:zz (.aa u8) p+1<=zz (.aa (.aa u8)) ps:=KP (e:=.aa u8) hp;grind [zz,au]
 ·have a3:zz Es (([]:List Row),xs,n,())<=1048576:=by
   show (0+0)+(zz (.aa df) xs+(0+0))<=1048576;omega
  exact (aag (p:=(([]:List Row),xs,n,())) ⟨⟨aZ _,λx hx=>by cases hx⟩,h4,h5,trivial⟩ a3).2.2
abbrev afr:Log:=(([]:List UInt8),([]:List UInt8),())
abbrev De (c:Int):nf:=(c,(0:Int),(false,([]:List (List UInt8)),afr,([]:List Tx),(0:Int),()),())
theorem TX (c:Int):qW.ae (c,())=some (De c,()):=by
 refine ah (k:=0) λj _=>(qW.af j _).trans ?_;rfl
end OT
namespace OT
open Go
theorem Ra (c d:Change):mq.ae (c,d,())=some (cr (ck c) (ck d),()):=by
 refine ah (k:=0) λk _=>(mq.af k _).trans ?_;show mq.p _=_;unfold mq.p cr;simp only[BN,aA];by_cases h1:(ck c).1 < (ck d).1 <;> by_cases h2:(ck c).1=(ck d).1 <;> simp[h1,h2]
def vE (xs:List Change) (i:Nat) (x:Change):Sum (Int×Unit) Unit:=
 if AY x=0 then (if 0 < i then (match xs[i - 1]? with | some y=>if cr (ck y) (ck x) then .inr () else .inl (1,()) | none=>.inl (1,())) else .inr ()) else .inl (AY x,())
def BY (xs:List Change):Int:=if 60 < xs.length then 2 else (bq (λi (_:Unit) x=>vE xs i x) (λ_=>((0:Int),())) 0 xs ()).1
theorem Su (xs:List Change) (hl:xs.length<=maxLen) (h:∀ c ∈ xs,cl c):kR.ae (xs,())=some (BY xs,()):=by
 refine ah (k:=xs.length+1) λk hk=>(kR.af k _).trans ?_
 have:=ci (B:=λself v=>kR.b0 self (λz=>kR.q0 (xs,()) z) (xs,()) v) xs (λ(_:Unit) (i:Int)=>i) (λi _ x=>vE xs i x) (λ_=>(0,())) (λ_ _=>True) hl
  (λi hi _ self _=>by
   show kR.b0 _ _ _ _=_;unfold kR.b0 vE;have a_:(i:Int) < (xs.length:Int):=by omega
   simp only[a_,aI,aO,aK,aJ,aC,aB hi,aA,Ab _ (h _ (aP hi))];by_cases h1:AY xs[i]=0
   ·simp only[h1,aI,aN,aE,aJ];by_cases h0:0 < i
    ·have zF:(0:Int) < (i:Int):=by omega
     have rE:i - 1 < xs.length:=by omega
     simp only[h0,zF,aI,aO,aJ,FF h0 Bys,aK,aC,aB rE,aA,Ra];cases cr (ck xs[i - 1]) (ck xs[i]) <;> rfl
    ·have zF:¬ (0:Int) < (i:Int):=by omega
     simp[h0,zF]
   ·simp[h1]) (λ_ _ _ _ _ _=>trivial) (λ_ self _=>by
   show kR.b0 _ _ _ _=_;unfold kR.b0
   simp[kR.q0,kR.q0]) () trivial k Bys
 have this:kR.r0 k (xs,()) 0=_:=this;unfold kR.p BY;rw[this,show (60:Int)=((60:Nat):Int) from rfl];simp only[aaX];by_cases h1:60 < xs.length <;> simp[h1] <;> rfl
theorem Yv (xs:List Change) (hl:xs.length<=maxLen) (h:∀ c ∈ xs,cl c):gx.ae (xs,())=some (BY xs,()):=by
 refine ah (k:=xs.length+1) λk hk=>(gx.af k _).trans ?_
 have:=ci (B:=λself v=>gx.b0 self (λz=>gx.q0 (xs,()) z) (xs,()) v) xs (λ(_:Unit) (i:Int)=>i) (λi _ x=>vE xs i x) (λ_=>(0,())) (λ_ _=>True) hl
  (λi hi _ self _=>by
   show gx.b0 _ _ _ _=_;unfold gx.b0 vE;have a_:(i:Int) < (xs.length:Int):=by omega
   simp only[a_,aI,aO,aK,aJ,aC,aB hi,aA,Ho _ (h _ (aP hi))];by_cases h1:AY xs[i]=0
   ·simp only[h1,aI,aN,aE,aJ];by_cases h0:0 < i
    ·have zF:(0:Int) < (i:Int):=by omega
     have rE:i - 1 < xs.length:=by omega
     simp only[h0,zF,aI,aO,aJ,FF h0 Bys,aK,aC,aB rE,aA,vm,Au,yB];cases cr (ck xs[i - 1]) (ck xs[i]) <;> rfl
    ·have zF:¬ (0:Int) < (i:Int):=by omega
     simp[h0,zF]
   ·simp[h1]) (λ_ _ _ _ _ _=>trivial) (λ_ self _=>by
   show gx.b0 _ _ _ _=_;unfold gx.b0
   simp[gx.q0,gx.q0]) () trivial k Bys
 have this:gx.r0 k (xs,()) 0=_:=this;unfold gx.p BY;rw[this,show (60:Int)=((60:Nat):Int) from rfl];simp only[aaX];by_cases h1:60 < xs.length <;> simp[h1] <;> rfl
theorem EF (xs:List Change) (h:xs.length<=1048576):d8.ae (xs,())=some (xs,()):=by
 refine ah (k:=0) λk _=>(d8.af k _).trans ?_;show d8.p _=_;unfold d8.p;have c1:([]:List Change).length+xs.length<=b9:=cv (by simp only[cY];omega);exact B8 (λe=>by have e:xs=[]:=e;subst e;rfl) (by rw[aR c1];rfl)
end OT
namespace OT
open Go
end OT
namespace OT
open Go
theorem Yw (s:List Change) (h:s.length<=1048576):d8.ae (s,())=some (s,()):=by
 refine ah (k:=0) λk _=>(d8.af k _).trans ?_;show d8.p _=_;unfold d8.p;refine B8 (λe=>by grind) ?_;grind [cv]
theorem Yx (s:List Int) (h:s.length<=1048576):mI.ae (s,())=some (s,()):=by
 refine ah (k:=0) λk _=>(mI.af k _).trans ?_;show mI.p _=_;unfold mI.p;refine B8 (λe=>by grind) ?_;grind [cv]
theorem Yy (s:List Key) (h:s.length<=1048576):nV.ae (s,())=some (s,()):=by
 refine ah (k:=0) λk _=>(nV.af k _).trans ?_;show nV.p _=_;unfold nV.p;refine B8 (λe=>by grind) ?_;grind [cv]
theorem Yz (xs:List Tx) (h:EC xs):of.ae (xs,())=some (xs,()):=by
 obtain ⟨h1,h2⟩:=h;refine ah (k:=xs.length+1) λk hk=>(of.af k _).trans ?_
 have:=ci (B:=λself v=>of.b0 self (λz=>of.q0 (xs,()) z) (xs,()) v) xs (λ(s:List Tx) (i:Int)=>(s,i)) (λ_ s x=>.inr (s++[x])) (λs=>(s,())) (λi s=>s.length=i) (by rw[au];omega)
  (λi hi s self hI=>by
   show of.b0 _ _ _ _=_;unfold of.b0;have a_:(i:Int) < (xs.length:Int):=by omega
   have hx:=h2 _ (aP hi);simp only[a_,aI,aO,aK,aJ,aC,aB hi,aA];generalize xs[i]=x at hx;obtain ⟨g1,g2,g3,_⟩:=hx
   grind [Yw,Yx,Yy,cv])
  (λi hi s s' hI hs=>by grind) (λs self hI=>by
   show of.b0 _ _ _ _=_;unfold of.b0;simp only[aU,aG,aE]
   rfl) [] rfl k Bys
 rw[gt,yy] at this;exact this
end OT
namespace OT
open Go
theorem abX {s:bi} (hq:wk (s.2.1,s.2.2.1)) (ht:EC s.2.2.2.1):qL.ae (s,())=some (s,()):=by
 refine ah (k:=0) λk _=>(qL.af k _).trans ?_;unfold qL.p;have:=hq.2;unfold rA at this;rw[vQ _ (Is hq.1)];simp only[aA];rw[TR s.2.2.1 (by show List.length s.2.2.1.1<=_;simp only at this;omega) (by show List.length s.2.2.1.2.1<=_;simp only at this;omega)];simp only[aA];rw[Yz _ ht];rfl
theorem aak {l:Log} (h:rA l<=16000):nk.ae (l,())=some (l,()):=by
 unfold rA at h;refine ah (k:=0) λk _=>(nk.af k _).trans ?_;unfold nk.p;rw[nr _ (by show List.length l.1<=_;omega)];simp only[aA];rw[nr _ (by show List.length l.2.1<=_;omega)];rfl
def uz (s:bi) (b:Buffer):Sum Int bi:=match q_ true 3 b.1 (oy b.2.1) (s.2.1,s.2.2.1) with
 | .inl p=>.inl p.1
 | .inr p=>match uO p.2 ((6:Int),b.1,(0:Int),([]:List cq),()) with
  | none=>.inl 9
  | some l=>.inr (s.1,p.1,l,s.2.2.2)
theorem YA (k t:Int):zw (k,t,(0:Int),([]:List cq),()):=⟨aZ _,λx hx=>by cases hx⟩
section
variable {s:bi} {b:Buffer} (hq:wk (s.2.1,s.2.2.1)) (hb:∀ c ∈ (b.2.1:List Change),om c=0) (hl:List.length b.2.1<=1000)
include hq hb hl
theorem Rb (hc:∀ c ∈ (b.2.1:List Change),cl c):∃ r:Int×bi×Unit,l6.ae (s,b,())=some r/\match uz s b with | .inl c=>r.1=c/\c≠0 | .inr s'=>r=((0:Int),s',()):=by
 suffices hp:∃ r:Int×bi×Unit,l6.p (s,b,())=some r/\match uz s b with | .inl c=>r.1=c/\c≠0 | .inr s'=>r=((0:Int),s',()) by
  obtain ⟨r,h1,h2⟩:=hp;exact ⟨r,ah (k:=0) λk _=>(l6.af k _).trans h1,h2⟩
 unfold l6.p uz;have hi:=A9 hb;rw[LB _ (by show List.length b.2.1<=_;omega)];simp only[aA];rw[Sr hq hi (Yp hc) (by rw[Ca];omega)];simp only[aA]
 cases hd:q_ true 3 b.1 (oy b.2.1) (s.2.1,s.2.2.1) with
 | inl p=>
  have jx:=MH _ _ _ hd;simp only[sk,jx,aG,bZ,aO];exact ⟨_,rfl,rfl,jx⟩
 | inr p=>
  have hg:=DR _ _ _ hq hi hd;simp only[sk,aI,aN,aE];rw[Jg (s:=(s.1,p.1,p.2,s.2.2.2)) hg.2 (YA 6 b.1)];unfold HU;simp only
  cases ha:uO p.2 ((6:Int),b.1,(0:Int),([]:List cq),()) with
  | none=>exact ⟨_,rfl,rfl,by decide⟩
  | some l=>exact ⟨_,rfl,rfl⟩
theorem Rc:∃ r:Int×bi×Unit,rt.ae (s,b,())=some r/\match uz s b with | .inl c=>r.1=c/\c≠0 | .inr s'=>r=((0:Int),s',()):=by
 suffices hp:∃ r:Int×bi×Unit,rt.p (s,b,())=some r/\match uz s b with | .inl c=>r.1=c/\c≠0 | .inr s'=>r=((0:Int),s',()) by
  obtain ⟨r,h1,h2⟩:=hp;exact ⟨r,ah (k:=0) λk _=>(rt.af k _).trans h1,h2⟩
 unfold rt.p uz;have hi:=A9 hb;rw[Q_ hq hb Bys];simp only[aA];have hf:=NH 3 b.1 (oy b.2.1) (s.2.1,s.2.2.1)
 cases hd:q_ true 3 b.1 (oy b.2.1) (s.2.1,s.2.2.1) with
 | inl p=>
  have jx:=MH _ _ _ hd
  cases Ts:q_ false 3 b.1 (oy b.2.1) (s.2.1,s.2.2.1) with
  | inr p'=>rw[hd,Ts] at hf;exact hf.elim
  | inl p'=>
   rw[hd,Ts] at hf;have hf:p.1=p'.1:=hf;rw[hf] at jx;simp only[sk,jx,aG,bZ,aO];exact ⟨_,rfl,hf.symm,by rw[hf];exact jx⟩
 | inr p=>
  cases Ts:q_ false 3 b.1 (oy b.2.1) (s.2.1,s.2.2.1) with
  | inl p'=>rw[hd,Ts] at hf;exact hf.elim
  | inr p'=>
   rw[hd,Ts] at hf;have hf:p=p':=hf;subst hf;have hg:=DR _ _ _ hq hi hd;simp only[sk,aI,aN,aE];rw[Jh (s:=(s.1,p.1,p.2,s.2.2.2)) hg.2 (YA 6 b.1)];unfold HU;simp only
   cases ha:uO p.2 ((6:Int),b.1,(0:Int),([]:List cq),()) with
   | none=>exact ⟨_,rfl,rfl,by decide⟩
   | some l=>exact ⟨_,rfl,rfl⟩
theorem Gk {s':bi} (h:uz s b=.inr s'):wk (s'.2.1,s'.2.2.1)/\s'.1=s.1/\s'.2.2.2=s.2.2.2:=by
 unfold uz at h
 cases hd:q_ true 3 b.1 (oy b.2.1) (s.2.1,s.2.2.1) with
 | inl p=>rw[hd] at h;cases h
 | inr p=>
  rw[hd] at h;simp only at h;have hg:=DR _ _ _ hq (A9 hb) hd
  cases ha:uO p.2 ((6:Int),b.1,(0:Int),([]:List cq),()) with
  | none=>rw[ha] at h;cases h
  | some l=>
   rw[ha] at h;injection h with h;subst h;exact ⟨⟨hg.1,Gg ha⟩,rfl,rfl⟩
end
theorem aal (u:Bool) (ps:bv) (l:Log) (ts:List Tx) (n:Int):zz cw (u,ps,l,ts,n,())=zz (.aa (.aa u8)) ps+rA l+zz (.aa df) ts:=by
 show 0+(zz (.aa (.aa u8)) ps+(((List.length l.1+nu (zz u8) l.1)+((List.length l.2.1+nu (zz u8) l.2.1)+0))+(zz (.aa df) ts+(0+0))))=_;have h1:nu (zz u8) l.1=0:=AS _ (λ_=>rfl) l.1;have h2:nu (zz u8) l.2.1=0:=AS _ (λ_=>rfl) l.2.1;unfold rA;omega
theorem abY {s':bi} (hq:wk (s'.2.1,s'.2.2.1)):zz cw s'<=17000+zz (.aa df) s'.2.2.2.1:=by
 obtain ⟨u,ps,l,ts,n,⟨⟩⟩:=s';refine bG (fW (aal u ps l ts n)) ?_;have h1:=PY ps (Is hq.1);have h2:rA l<=16000:=hq.2;show _<=17000+zz (.aa df) ts;omega
end OT
namespace OT
open Go
theorem qQ {α β:Type} {f g:α->Option β}:∀ {l:List α},(∀ x ∈ l,f x=g x)->l.filterMap f=l.filterMap g
 | [],_=>rfl
 | x::l,h=>by
  rw[dM,dM,h x bB,qQ λy hy=>h y (aW _ hy)]
abbrev xv:Row:=((0:Int),(0:Int),(0:Int),([]:List UInt8),())
def look (xs:List Row) (k:Int×Int):Option Row:=if lz xs k then xs[pos xs k]? else none
theorem EG {x:Row} {xs:List Row} {k:Int×Int} (h:cr (rk x) k=true):look (x::xs) k=look xs k:=by
 grind [look,IX,pos]
theorem yE {x:Row} {xs:List Row}:look (x::xs) (rk x)=some x:=by
 grind [pos,mQ,lz,look]
theorem YB {xs:List Row} {k:Int×Int} (h:∀ y ∈ xs,rk y≠k):look xs k=none:=by
 grind [look,Im]
theorem TY {x:Row} {xs:List Row} {k:Int×Int} (hu:up (x::xs)) (h:cr k (rk x)=true):look (x::xs) k=none:=by
 refine YB λy hy e=>?_;subst e;rcases aY.1 hy with rfl | hy
 ·grind [mQ]
 ·have:=(v_.1 hu).1 y hy;grind [A4]
def Cp:Option Row->Option Row->Option Change
 | some a,some b=>if Ty.eq bd a b then none else some (true,a,true,b,())
 | some a,none=>some (true,a,false,xv,())
 | none,some b=>some (false,xv,true,b,())
 | none,none=>none
theorem V9 (a:Row):Cp (some a) none=some (true,a,false,xv,()):=rfl
theorem V_ (b:Row):Cp none (some b)=some (false,xv,true,b,()):=rfl
theorem aex (a b:Row):Cp (some a) (some b)=if Ty.eq bd a b then none else some (true,a,true,b,()):=rfl
def wl:Nat->List Row->List Row->List Change
 | 0,_,_=>[]
 | n+1,[],[]=>[]
 | n+1,[],b::bs=>(false,xv,true,b,())::wl n [] bs
 | n+1,a::al,[]=>(true,a,false,xv,())::wl n al []
 | n+1,a::al,b::bs=>if cr (rk a) (rk b) then (true,a,false,xv,())::wl n al (b::bs) else
  if cr (rk b) (rk a) then (false,xv,true,b,())::wl n (a::al) bs else
  if Ty.eq bd a b then wl n al bs else (true,a,true,b,())::wl n al bs
def upK (ks:List (Int×Int)):Prop:=ks.Pairwise (λa b=>cr a b=true)
def Cb (B A:List Row) (k:Int×Int):Prop:=(∃ x ∈ B,rk x=k)\/∃ y ∈ A,rk y=k
theorem Df {ks:List (Int×Int)} {m:Int×Int} (hu:upK ks) (hm:m ∈ ks) (aeF:∀ k ∈ ks,k=m\/cr m k=true):∃ uP,ks=m::uP/\upK uP/\∀ k,k ∈ uP↔k ∈ ks/\k≠m:=by
 cases ks with
 | nil=>cases hm
 | cons k uP=>
  have hp:=dD.1 hu
  have e:k=m:=by
   grind [A4]
  subst e;refine ⟨uP,rfl,hp.2,λq=>⟨λhq=>⟨aW _ hq,λe=>?_⟩,λ⟨hq,jx⟩=>?_⟩⟩
  all_goals grind [mQ]
theorem adi:∀ (n:Nat) (B A:List Row) (ks:List (Int×Int)),up B->up A->upK ks->(∀ k,k ∈ ks↔Cb B A k)->B.length+A.length<=n->wl n B A=ks.filterMap λk=>Cp (look B k) (look A k):=by
 intro n
 induction n with
 | zero=>
  intro B A ks _ _ _ hk hl;obtain rfl:B=[]:=bF Bys;obtain rfl:A=[]:=bF Bys
  cases ks with
  | nil=>rfl
  | cons k ks=>rcases (hk k).1 bB with ⟨_,h,_⟩ | ⟨_,h,_⟩ <;> cases h
 | succ n ih=>
  intro B A ks hB hA GC hk hl
  cases B with
  | nil=>
   cases A with
   | nil=>
    cases ks with
    | nil=>rfl
    | cons k ks=>rcases (hk k).1 bB with ⟨_,h,_⟩ | ⟨_,h,_⟩ <;> cases h
   | cons b bs=>
    have GX:=v_.1 hA
    obtain ⟨uP,rfl,g1,g2⟩:=Df (m:=rk b) GC ((hk _).2 (.inr ⟨b,bB,rfl⟩)) (λk sK=>by
     rcases (hk k).1 sK with ⟨_,h,_⟩ | ⟨y,h,rfl⟩
     all_goals grind)
    have sK:∀ k,k ∈ uP↔Cb [] bs k:=λk=>by
     rw[g2,hk];constructor
     ·rintro ⟨⟨_,h,_⟩ | ⟨y,h,rfl⟩,jx⟩
      ·cases h
      ·rcases aY.1 h with rfl | h
       ·grind
       ·exact .inr ⟨y,h,rfl⟩
     ·rintro (⟨_,h,_⟩ | ⟨y,h,rfl⟩)
      ·cases h
      ·exact ⟨.inr ⟨y,aW _ h,rfl⟩,λe=>by grind [mQ]⟩
    have a_:∀ k ∈ uP,cr (rk b) k=true:=λk hm=>by
     rcases (sK k).1 hm with ⟨_,h,_⟩ | ⟨y,h,rfl⟩
     all_goals grind
    simp only[wl,dM,yE];rw[show look ([]:List Row) (rk b)=none from rfl];simp only[V9,V_];rw[ih [] bs uP hB GX.2 g1 sK (by grind)];congr 1;grind [qQ,EG]
  | cons a al=>
   have hB2:=v_.1 hB
   cases A with
   | nil=>
    obtain ⟨uP,rfl,g1,g2⟩:=Df (m:=rk a) GC ((hk _).2 (.inl ⟨a,bB,rfl⟩)) (λk sK=>by
     rcases (hk k).1 sK with ⟨y,h,rfl⟩ | ⟨_,h,_⟩
     all_goals grind)
    have sK:∀ k,k ∈ uP↔Cb al [] k:=λk=>by
     rw[g2,hk];constructor
     ·rintro ⟨⟨y,h,rfl⟩ | ⟨_,h,_⟩,jx⟩
      ·rcases aY.1 h with rfl | h
       ·grind
       ·exact .inl ⟨y,h,rfl⟩
      ·cases h
     ·rintro (⟨y,h,rfl⟩ | ⟨_,h,_⟩)
      ·exact ⟨.inl ⟨y,aW _ h,rfl⟩,λe=>by grind [mQ]⟩
      ·cases h
    have a_:∀ k ∈ uP,cr (rk a) k=true:=λk hm=>by
     rcases (sK k).1 hm with ⟨y,h,rfl⟩ | ⟨_,h,_⟩
     all_goals grind
    simp only[wl,dM,yE];rw[show look ([]:List Row) (rk a)=none from rfl];simp only[V9,V_];rw[ih al [] uP hB2.2 hA g1 sK (by grind)];congr 1;grind [qQ,EG]
   | cons b bs=>
    have GX:=v_.1 hA;by_cases h1:cr (rk a) (rk b)=true
    ·have Py:∀ y ∈ b::bs,cr (rk a) (rk y)=true:=λy h=>by
      grind [qZ]
     obtain ⟨uP,rfl,g1,g2⟩:=Df (m:=rk a) GC ((hk _).2 (.inl ⟨a,bB,rfl⟩)) (λk sK=>by
      rcases (hk k).1 sK with ⟨y,h,rfl⟩ | ⟨y,h,rfl⟩
      all_goals grind)
     have sK:∀ k,k ∈ uP↔Cb al (b::bs) k:=λk=>by
      rw[g2,hk];constructor
      ·rintro ⟨⟨y,h,rfl⟩ | ⟨y,h,rfl⟩,jx⟩
       ·rcases aY.1 h with rfl | h
        ·grind
        ·exact .inl ⟨y,h,rfl⟩
       ·exact .inr ⟨y,h,rfl⟩
      ·rintro (⟨y,h,rfl⟩ | ⟨y,h,rfl⟩)
       ·exact ⟨.inl ⟨y,aW _ h,rfl⟩,λe=>by grind [mQ]⟩
       ·exact ⟨.inr ⟨y,h,rfl⟩,λe=>by grind [mQ]⟩
     have a_:∀ k ∈ uP,cr (rk a) k=true:=λk hm=>by
      rcases (sK k).1 hm with ⟨y,h,rfl⟩ | ⟨y,h,rfl⟩
      all_goals grind
     simp only[wl,h1,aJ,dM,yE,TY hA h1,V9];rw[ih al (b::bs) uP hB2.2 hA g1 sK (by grind)];congr 1;refine qQ λk h=>?_;grind [EG]
    ·have h1':cr (rk a) (rk b)=false:=by simpa using h1
     by_cases h2:cr (rk b) (rk a)=true
     ·have Py:∀ y ∈ a::al,cr (rk b) (rk y)=true:=λy h=>by
       grind [qZ]
      obtain ⟨uP,rfl,g1,g2⟩:=Df (m:=rk b) GC ((hk _).2 (.inr ⟨b,bB,rfl⟩)) (λk sK=>by
       rcases (hk k).1 sK with ⟨y,h,rfl⟩ | ⟨y,h,rfl⟩
       all_goals grind)
      have sK:∀ k,k ∈ uP↔Cb (a::al) bs k:=λk=>by
       rw[g2,hk];constructor
       ·rintro ⟨⟨y,h,rfl⟩ | ⟨y,h,rfl⟩,jx⟩
        ·exact .inl ⟨y,h,rfl⟩
        ·rcases aY.1 h with rfl | h
         ·grind
         ·exact .inr ⟨y,h,rfl⟩
       ·rintro (⟨y,h,rfl⟩ | ⟨y,h,rfl⟩)
        ·exact ⟨.inl ⟨y,h,rfl⟩,λe=>by grind⟩
        ·exact ⟨.inr ⟨y,aW _ h,rfl⟩,λe=>by grind [mQ]⟩
      have a_:∀ k ∈ uP,cr (rk b) k=true:=λk hm=>by
       rcases (sK k).1 hm with ⟨y,h,rfl⟩ | ⟨y,h,rfl⟩
       all_goals grind
      simp only[wl,h1',h2,aJ,aF,aS,dM,yE,TY hB h2,V_];rw[ih (a::al) bs uP hB GX.2 g1 sK (by grind)];congr 1;refine qQ λk h=>?_;grind [EG]
     ·have O7:cr (rk b) (rk a)=false:=by simpa using h2
      have hab:rk a=rk b:=vt h1' O7;have Py:∀ y ∈ bs,cr (rk a) (rk y)=true:=λy h=>by grind
      obtain ⟨uP,rfl,g1,g2⟩:=Df (m:=rk a) GC ((hk _).2 (.inl ⟨a,bB,rfl⟩)) (λk sK=>by
       rcases (hk k).1 sK with ⟨y,h,rfl⟩ | ⟨y,h,rfl⟩
       all_goals grind)
      have sK:∀ k,k ∈ uP↔Cb al bs k:=λk=>by
       rw[g2,hk];constructor
       ·rintro ⟨⟨y,h,rfl⟩ | ⟨y,h,rfl⟩,jx⟩
        ·rcases aY.1 h with rfl | h
         ·grind
         ·exact .inl ⟨y,h,rfl⟩
        ·rcases aY.1 h with rfl | h
         ·grind
         ·exact .inr ⟨y,h,rfl⟩
       ·rintro (⟨y,h,rfl⟩ | ⟨y,h,rfl⟩)
        ·exact ⟨.inl ⟨y,aW _ h,rfl⟩,λe=>by grind⟩
        ·exact ⟨.inr ⟨y,aW _ h,rfl⟩,λe=>by grind⟩
      have a_:∀ k ∈ uP,cr (rk a) k=true:=λk hm=>by
       rcases (sK k).1 hm with ⟨y,h,rfl⟩ | ⟨y,h,rfl⟩
       all_goals grind
      have hih:=ih al bs uP hB2.2 GX.2 g1 sK (by grind)
      have UJ:(uP.filterMap λk=>Cp (look (a::al) k) (look (b::bs) k))=uP.filterMap λk=>Cp (look al k) (look bs k):=qQ λk h=>by
       grind [EG]
      have hlb:look (b::bs) (rk a)=some b:=by grind [yE]
      simp only[wl,h1',O7,aF,aS,dM,yE,hlb,aex];grind
theorem Gl:∀ (n m:Nat) (B A:List Row),B.length+A.length<=n->B.length+A.length<=m->wl n B A=wl m B A:=by
 intro n
 induction n with
 | zero=>
  intro m B A h _;obtain rfl:B=[]:=bF Bys;obtain rfl:A=[]:=bF Bys;cases m <;> rfl
 | succ n ih=>
  intro m B A h1 h2
  cases m with
  | zero=>
   grind
  | succ m=>
   cases B with
   | nil=>
    cases A <;> grind [wl]
   | cons a al=>
    cases A <;> grind [wl]
def qy (B A:List Row):List Change:=wl (B.length+A.length) B A
theorem aam:qy [] []=[]:=rfl
theorem adj (b:Row) (bs:List Row):qy [] (b::bs)=(false,xv,true,b,())::qy [] bs:=by
 unfold qy;rw[Gl _ (([]:List Row).length+bs.length+1) [] (b::bs) (aH _) (by simp)];rfl
theorem adk (a:Row) (al:List Row):qy (a::al) []=(true,a,false,xv,())::qy al []:=by
 unfold qy;rw[Gl _ (al.length+([]:List Row).length+1) (a::al) [] (aH _) (by simp)];rfl
theorem LE (a b:Row) (al bs:List Row):qy (a::al) (b::bs)=if cr (rk a) (rk b) then (true,a,false,xv,())::qy al (b::bs) else
  if cr (rk b) (rk a) then (false,xv,true,b,())::qy (a::al) bs else if Ty.eq bd a b then qy al bs else (true,a,true,b,())::qy al bs:=by
 unfold qy;rw[Gl _ (al.length+bs.length+1+1) (a::al) (b::bs) (aH _) (by simp;omega)];grind [wl,Gl]
theorem Am:∀ (n:Nat) (B A:List Row),(wl n B A).length<=n
 | 0,_,_=>aH _
 | n+1,[],[]=>aZ _
 | n+1,[],b::bs=>by simp only[wl,bM];have:=Am n [] bs;omega
 | n+1,a::al,[]=>by simp only[wl,bM];have:=Am n al [];omega
 | n+1,a::al,b::bs=>by
  simp only[wl];have h1:=Am n al (b::bs);have h2:=Am n (a::al) bs;have h3:=Am n al bs
  grind
theorem yh {q:Row->Prop} (h0:q xv):∀ (n:Nat) (B A:List Row),(∀ x ∈ B,q x)->(∀ x ∈ A,q x)->∀ c ∈ wl n B A,q c.2.1/\q c.2.2.2.1
 | 0,_,_,_,_=>λ_ h=>by cases h
 | n+1,[],[],_,_=>λ_ h=>by cases h
 | n+1,[],b::bs,hB,hA=>λc h=>by
  rcases aY.1 h with rfl | h
  ·grind
  ·exact yh h0 n [] bs hB (λx hx=>hA x (aW _ hx)) c h
 | n+1,a::al,[],hB,hA=>λc h=>by
  rcases aY.1 h with rfl | h
  ·grind
  ·exact yh h0 n al [] (λx hx=>hB x (aW _ hx)) hA c h
 | n+1,a::al,b::bs,hB,hA=>λc h=>by
  have ha:=hB a bB;have hb:=hA b bB
  have hB':∀ x ∈ al,q x:=λx hx=>hB x (aW _ hx);have hA':∀ x ∈ bs,q x:=λx hx=>hA x (aW _ hx);simp only[wl] at h;split at h
  ·rcases aY.1 h with rfl | h
   ·exact ⟨ha,h0⟩
   ·exact yh h0 n al (b::bs) hB' hA c h
  ·split at h
   ·rcases aY.1 h with rfl | h
    ·exact ⟨h0,hb⟩
    ·exact yh h0 n (a::al) bs hB hA' c h
   ·split at h
    ·exact yh h0 n al bs hB' hA' c h
    ·rcases aY.1 h with rfl | h
     ·exact ⟨ha,hb⟩
     ·exact yh h0 n al bs hB' hA' c h
theorem MI (B A:List Row) (hB:B.length<=1000) (hA:A.length<=1000):jQ.ae (B,A,())=some (qy B A,()):=by
 refine ah (k:=2001) λk hk=>(jQ.af k _).trans ?_
 have:=qV (B:=λself v=>jQ.b0 self (λz=>jQ.q0 (B,A,()) z) (B,A,()) v) (λv=>(v.2.2++qy v.1 v.2.1,()))
  (λv=>v.2.2.length+(v.1.length+v.2.1.length)<=2000) (λv=>v.1.length+v.2.1.length) (λv hv self=>?_) k (B,A,[]) (by simp;omega) (by simp;omega)
 ·exact this
 obtain ⟨al,bs,out⟩:=v;simp only at hv;have oU:out.length+1<=b9:=cv Bys
 cases al with
 | nil=>
  cases bs <;> grind [jQ.b0,jQ.q0,aam,adj]
 | cons a al=>
  have h1:(0:Int) < (al.length:Int)+1:=by omega
  have h2:(1:Int)<=(al.length:Int)+1:=by omega
  have h3:¬ ((al.length:Int)+1=0):=by omega
  cases bs with
  | nil=>
   right;refine ⟨(al,[],out++[(true,a,false,xv,())]),?_,?_,?_,by simp⟩
   all_goals grind [jQ.b0,adk]
  | cons b bs=>
   have h4:(0:Int) < (bs.length:Int)+1:=by omega
   have h5:(1:Int)<=(bs.length:Int)+1:=by omega
   have h6:¬ ((bs.length:Int)+1=0):=by omega
   right;have Ku:cr (a.1,a.2.1) (b.1,b.2.1)=cr (rk a) (rk b):=rfl;have nM:cr (b.1,b.2.1) (a.1,a.2.1)=cr (rk b) (rk a):=rfl
   cases lY:cr (rk a) (rk b) with
   | true=>
    refine ⟨(al,b::bs,out++[(true,a,false,xv,())]),?_,?_,?_,by simp⟩
    ·simp_all [jQ.b0,vl]
    all_goals grind [LE]
   | false=>
    cases IG:cr (rk b) (rk a) with
    | true=>
     refine ⟨(a::al,bs,out++[(false,xv,true,b,())]),?_,?_,?_,by simp⟩
     ·simp_all [jQ.b0,vl]
     all_goals grind [LE]
    | false=>
     cases hc3:Ty.eq bd a b with
     | true=>
      refine ⟨(al,bs,out),?_,?_,?_,by simp;omega⟩
      ·simp_all [jQ.b0,vl]
      all_goals grind [LE]
     | false=>
      refine ⟨(al,bs,out++[(true,a,true,b,())]),?_,?_,?_,by simp;omega⟩
      ·simp_all [jQ.b0,vl]
      all_goals grind [LE]
def J3 (B A:List Row):List Row:=A.foldl (λks x=>if lz B (rk x) then ks else m_ ks x) B
theorem J4 (ks:List Row) (r y:Row):y ∈ m_ ks r↔y=r\/y ∈ ks:=by
 grind [m_,List.take_append_drop]
theorem abZ {ks:List Row} {r:Row} (hu:up ks) (hn:∀ y ∈ ks,rk y≠rk r):up (m_ ks r):=by
 have hp:=A5 ks (rk r);have h1:∀ y ∈ ks.take (pos ks (rk r)),cr (rk y) (rk r)=true:=λy hy=>Ah hy
 have h2:∀ y ∈ ks.drop (pos ks (rk r)),cr (rk r) (rk y)=true:=λy hy=>by
  obtain ⟨i,hi,rfl⟩:=cK.1 hy;grind [wK,vt]
 unfold m_ up;have hu':(ks.take (pos ks (rk r))++ks.drop (pos ks (rk r))).Pairwise (λa b=>cr (rk a) (rk b)=true):=by rw[dA];exact hu
 grind
theorem TZ {xs:List Row} {k:Int×Int} (hu:up xs):lz xs k=true↔∃ y ∈ xs,rk y=k:=by
 constructor
 ·exact Im
 ·rintro ⟨y,hy,hk⟩
  cases hf:lz xs k with
  | true=>rfl
  | false=>
   exfalso;obtain ⟨i,hi,rfl⟩:=cK.1 hy;have hle:=A5 xs k;rcases cG i (pos xs k) with h | h
   ·have:=C3 xs k i hi h;grind [mQ]
   ·have h1:pos xs k < xs.length:=by omega
    have h2:=wK xs k (pos xs k) h1 hu (aH _);rcases cG (pos xs k) i with h3 | h3
    ·have:=cW.1 hu _ _ h1 hi h3;grind
    grind [lz]
theorem BZ (B:List Row) (hB:up B):∀ (A:List Row) (ks:List Row),up ks->A.Pairwise (λa b=>cr (rk a) (rk b)=true)->(∀ x ∈ B,x ∈ ks)->(∀ y ∈ A,∀ x ∈ ks,rk x=rk y->∃ z ∈ B,rk z=rk y) ->
  up (A.foldl (λks x=>if lz B (rk x) then ks else m_ ks x) ks)/\(A.foldl (λks x=>if lz B (rk x) then ks else m_ ks x) ks).length<=ks.length+A.length /\
  ∀ k,(∃ x ∈ A.foldl (λks x=>if lz B (rk x) then ks else m_ ks x) ks,rk x=k)↔((∃ x ∈ ks,rk x=k)\/∃ y ∈ A,rk y=k)
 | [],ks,hu,_,_,_=>⟨hu,by simp,λk=>by simp⟩
 | y::A,ks,hu,hA,ES,jx=>by
  have GX:=dD.1 hA;rw[eQ];by_cases hf:lz B (rk y)=true
  ·rw[aR hf];obtain ⟨h1,h2,h3⟩:=BZ B hB A ks hu GX.2 ES (λz hz=>jx z (aW _ hz));refine ⟨h1,by grind,λk=>?_⟩
   rw[h3];grind [Im]
  ·rw[aV hf];have xY:∀ x ∈ ks,rk x≠rk y:=λx hx e=>hf ((TZ hB).2 (jx y bB x hx e))
   obtain ⟨h1,h2,h3⟩:=BZ B hB A (m_ ks y) (abZ hu xY) GX.2 (λx hx=>(J4 ks y x).2 (.inr (ES x hx))) (λz hz x hx e=>by
    grind [J4,mQ])
   refine ⟨h1,?_,λk=>?_⟩
   ·grind [m_]
   ·rw[h3];grind [J4]
theorem aan {B A:List Row} (hB:up B) (hA:up A):up (J3 B A)/\(J3 B A).length<=B.length+A.length/\(J3 B A).filterMap (λx=>Cp (look B (rk x)) (look A (rk x)))=qy B A:=by
 obtain ⟨h1,h2,h3⟩:=BZ B hB A B hB hA (λ_ h=>h) (λy _ x hx e=>⟨x,hx,e⟩);refine ⟨h1,h2,?_⟩
 have hp:upK ((J3 B A).map rk):=fX.2 h1;unfold qy;rw[adi _ B A ((J3 B A).map rk) hB hA hp (λk=>?_) (aH _),List.filterMap_map]
 ·rfl
 ·rw[eL];exact h3 k
theorem Sv {α β:Type} (g:β->α->β) (xs:List α) (i:Nat) (hi:i < xs.length) (s:β):(xs.take (i+1)).foldl g s=g ((xs.take i).foldl g s) xs[i]:=by
 grind [List.take_succ_eq_append_getElem]
def MJ {β:Type} (s:List β):Option β->List β
 | some y=>s++[y]
 | none=>s
theorem Rd {α β:Type} (f:α->Option β):∀ (xs:List α) (s:List β),xs.foldl (λs x=>MJ s (f x)) s=s++xs.filterMap f
 | [],s=>by simp
 | x::xs,s=>by
  rw[eQ,Rd f xs,dM];grind [MJ]
theorem HW {xs:List Row} {k:Int×Int} (h:lz xs k=true):∃ hp:pos xs k < xs.length,look xs k=some xs[pos xs k]:=by
 grind [zp,look]
theorem MK (B A:List Row) (hB:up B) (hA:up A) (hBl:B.length<=1000) (hAl:A.length<=1000):fu.ae (B,A,())=some (qy B A,()):=by
 obtain ⟨hu,hlen,af4⟩:=aan hB hA;refine ah (k:=2001) λk hk=>(fu.af k _).trans ?_;unfold fu.p;rw[aR (cv (by grind)),cJ]
 have h1:=ci (B:=λself v=>fu.b0 self (λz=>fu.Q0 k (B,A,()) z) (B,A,()) v) A (λ(s:List Row) (i:Int)=>(s,i)) (λ_ s x=>.inr (if lz B (rk x) then s else m_ s x)) (λs=>(s.filterMap (λx=>Cp (look B (rk x)) (look A (rk x))),()))
  (λi s=>s=(A.take i).foldl (λks x=>if lz B (rk x) then ks else m_ ks x) B/\s.length<=B.length+i) (by rw[au];omega)
  (λi hi s self hI=>by
   show fu.b0 _ _ _ _=_;unfold fu.b0
   grind [Int.natCast_nonneg,Hs,rk,zL,FV])
  (λi hi s s' hI hf=>by
   grind [Sv,m_]) (λs self hI=>by
   show fu.b0 _ _ _ _=_;unfold fu.b0;simp only[aU,aG,aE];obtain ⟨e,hl⟩:=hI;rw[eM] at e;have hs:s=J3 B A:=e;show fu.r1 k (B,A,()) s ([],0)=_
   have h2:=ci (B:=λself v=>fu.b1 self (λz=>fu.q1 (B,A,()) s z) (B,A,()) s v) s (λ(s:List Change) (i:Int)=>(s,i)) (λ_ s x=>.inr (MJ s (Cp (look B (rk x)) (look A (rk x))))) (λs=>(s,()))
    (λi s=>s.length<=i) (by rw[au];omega)
    (λi hi t self hI=>by
     show fu.b1 _ _ _ _ _=_;unfold fu.b1;have a_:(i:Int) < (s.length:Int):=by omega
     have oU:∀ y:Change,t.length+[y].length<=b9:=λy=>cv (by grind);have nN:∀ xs:List Row,up xs->xs.length<=1000->lk.ae (xs,(s[i]).1,(s[i]).2.1,())=some (zL xs (rk s[i]),()):=λxs h1 h2=>Hs xs _ _ h1 Bys;simp only[a_,aI,aO,aK,dE,aJ,aC,aB hi,aA,nN B hB hBl,nN A hA hAl];unfold zL
     cases hf1:lz B (rk s[i]) with
     | true=>
      obtain ⟨hp1,e1⟩:=HW hf1
      cases hf2:lz A (rk s[i]) with
      | true=>
       grind [HW,Int.toNat_natCast,Cp,MJ]
      | false=>
       grind [look,Cp,MJ]
     | false=>
      have e1:look B (rk s[i])=none:=by grind [look]
      have hf2:lz A (rk s[i])=true:=by
       have hm:=(BZ B hB A B hB hA (λ_ h=>h) (λy _ x hx e=>⟨x,hx,e⟩)).2.2 (rk s[i]);grind [TZ]
      grind [HW,Int.natCast_nonneg,Int.toNat_natCast,Cp,MJ])
    (λi hi t t' hI hf=>by
     injection hf with hf;subst hf
     cases Cp (look B (rk s[i])) (look A (rk s[i])) with
     | none=>show t.length<=_;omega
     | some y=>show (t++[y]).length<=_;grind) (λt self _=>by
     show fu.b1 _ _ _ _ _=_;unfold fu.b1;simp only[aU,aG,aE]
     rfl) [] (by simp) k (by rw[hs];omega)
   rw[gt,Rd,cJ] at h2
   exact h2) B ⟨rfl,by omega⟩ k Bys
 simp_all [gt,fu.r0,J3]
end OT
