/- The proof's parts, merged: The desk  pages that are edited  one page at a time.. No conditions but those that each states. -/
import Derived.Test.YtghckfpmmofmnaaGreatDg
set_option linter.unusedVariables false
set_option linter.unusedSimpArgs false
set_option linter.unusedSectionVars false
namespace OT
open Go
def ii (ps:ca) (P:Nat):List UInt8:=ps.getD P []
theorem nT {ps:ca} {P:Nat} (h:P < ps.length):ps[P]?=some (ii ps P):=by
 grind [ii]
theorem Jv {ps:ca} {P:Nat} (h:P < ps.length):ii ps P ∈ ps:=bU (nT h)
theorem pp {ps:ca} (h:lP ps) {P:Nat} (hP:P < ps.length):ig (ii ps P):=h.2 _ (Jv hP)
theorem PX (ps:ca) (P Q:Nat) (b:List UInt8):ii (ps.set P b) Q=if P=Q/\P < ps.length then b else ii ps Q:=by
 grind [ii]
theorem PY (ps:ca) (Q:Nat) (b:List UInt8):ii (ps++[b]) Q=if Q=ps.length then b else ii ps Q:=by
 grind [ii]
def bu (ps:ca) (P s:Nat):List UInt8:=cellOf (ii ps P) s
theorem Ma {ps:ca} {P s:Nat} (h:ps.length<=P):bu ps P s=[]:=by
 have:ii ps P=[]:=by grind [ii]
 unfold bu;rw[this];rfl
theorem vG {ps:ca} (h:lP ps) {P s:Nat} (hc:bu ps P s≠[]):P < ps.length/\s < pn (ii ps P)/\bg (ii ps P) s≠0:=by
 grind [Ma,bu,cellOf,qO,pp]
def ov (w:a_) (P:Nat) (b:List UInt8):a_:=
 if P=List.length w.1 then (w.1++[b],w.2.1++[((P:Int),b,())],())
 else if ii w.1 P=b then w else (List.set w.1 P b,w.2.1++[((P:Int),b,())],())
structure okW (w:a_) (n:Nat):Prop where
 jy:lP w.1
 el:List.length w.2.1<=n
 eb:∀ e ∈ (w.2.1:List rE),List.length e.2.1=64
theorem okW.mono {w:a_} {n m:Nat} (h:okW w n) (hm:n<=m):okW w m:=⟨h.jy,by have:=h.el;omega,h.eb⟩
theorem tO {w:a_} {P:Nat} (hP:P < List.length w.1) (b:List UInt8):(ov w P b).1=List.set w.1 P b:=by
 unfold ov;rw[aV Bys];split
 ·rename_i h;refine eB λi=>?_;grind [nT]
 ·rfl
theorem Jw (w:a_) (b:List UInt8):(ov w (List.length w.1) b).1=w.1++[b]:=by
 grind [ov]
theorem zM {w:a_} {n P:Nat} (h:okW w n) {b:List UInt8} (hb:ig b) (hP:P<=List.length w.1) (zt:P < 12):okW (ov w P b) (n+1):=by
 have hl:=h.el
 have he:∀ e ∈ ((w.2.1++[((P:Int),b,())]):List rE),List.length e.2.1=64:=λe he=>by
  rcases bO.1 he with he | he
  ·exact h.eb e he
  ·rw[bL.1 he];exact hb.len
 unfold ov;split
 ·rename_i h1;refine ⟨⟨?_,λp hp=>?_⟩,?_,he⟩
  ·grind
  ·rcases bO.1 hp with hp | hp
   ·exact h.jy.2 p hp
   grind
  grind
 ·split
  ·exact h.mono Bys
  ·refine ⟨⟨?_,λp hp=>?_⟩,?_,he⟩
   ·rw[bB];exact h.jy.1
   ·rcases eK hp with hp | hp
    ·exact h.jy.2 p hp
    grind
   grind
theorem wW {w:a_} {P:Nat} (hP:P < List.length w.1) (b:List UInt8) (Q s:Nat):bu (ov w P b).1 Q s=if Q=P then cellOf b s else bu w.1 Q s:=by
 grind [tO,bu,PX]
theorem sm {w:a_} {n P:Nat} (h:okW w n) (hn:n<=1000) {b:List UInt8} (hb:b.length=64) (hP:P<=List.length w.1):jd.ab (w,(P:Int),b,())=some (ov w P b,()):=by
 refine ag (k:=0) λk _=>(jd.ae k _).trans ?_;show jd.p _=_;unfold jd.p ov;have hl:=h.jy.1;have he:=h.el;simp only[my b Bys,aA];grind [dc,ii]
theorem ub {w:a_} {n P:Nat} (h:okW w n) (hn:n<=1000) {b:List UInt8} (hb:b.length=64) (hP:P<=List.length w.1):gk.ab (w,(P:Int),b,())=some (ov w P b,()):=by
 refine ag (k:=0) λk _=>(gk.ae k _).trans ?_;show gk.p _=_;unfold gk.p ov;have hl:=h.jy.1;have he:=h.el;simp only[l9 b Bys,aA];grind [dc,ii]
def oL (w:a_) (P:Nat):a_:=ov w P (mS (ii w.1 P))
theorem Fy {w:a_} {P:Nat} (hP:P < List.length w.1):ii (oL w P).1 P=mS (ii w.1 P):=by
 grind [oL,tO,PX]
theorem uV {w:a_} {P:Nat} (hP:P < List.length w.1):List.length (oL w P).1=List.length w.1:=by
 grind [oL,tO]
theorem xP {w:a_} {n P:Nat} (h:okW w n) (hP:P < List.length w.1):okW (oL w P) (n+1):=
 zM h (t_ (pp h.jy hP)).1 Bys (by have:=h.jy.1;omega)
theorem Ab {w:a_} {n P:Nat} (h:okW w n) (hP:P < List.length w.1) (Q s:Nat):bu (oL w P).1 Q s=bu w.1 Q s:=by
 unfold oL;rw[wW hP];split
 ·rename_i hq;subst hq;exact (t_ (pp h.jy hP)).2.1 s
 ·rfl
theorem G8 {w:a_} {n P:Nat} (h:okW w n) (hn:n<=1000) (hP:P < List.length w.1):jR.ab (w,(P:Int),())=some (oL w P,()):=by
 refine ag (k:=0) λk _=>(jR.ae k _).trans ?_;show jR.p _=_;unfold jR.p oL;have hp:=pp h.jy hP;have g:(0:Int)<=(P:Int)/\(P:Int) < (List.length w.1:Int):=by omega
 rw[aM g];simp only[aC,nT hP,aA,Rx hp,ub h hn (t_ hp).1.len (eO hP)]
def tP (w:a_) (P:Nat) (c:List UInt8):Option Nat×a_:=
 if mR (ii w.1 P) c=8 then
  if mR (mS (ii w.1 P)) c=0 then (some (gc (mS (ii w.1 P))),ov (oL w P) P (r_ (mS (ii w.1 P)) c)) else (none,oL w P)
 else if mR (ii w.1 P) c=0 then (some (gc (ii w.1 P)),ov w P (r_ (ii w.1 P) c)) else (none,w)
structure acu (w:a_) (n P:Nat) (c:List UInt8) (r:Option Nat×a_):Prop where
 ok:okW r.2 (n+2)
 len:List.length r.2.1=List.length w.1
 no:r.1=none->∀ Q s,bu r.2.1 Q s=bu w.1 Q s
 yes:∀ t,r.1=some t->t < 16/\bu w.1 P t=[]/\∀ Q s,bu r.2.1 Q s=if Q=P/\s=t then c else bu w.1 Q s
theorem M3 {p c:List UInt8} (h:ig p) (hc:mR p c=0):gc p < 16:=by
 have:=(vQ p).1;have:=h.n;grind [mR]
theorem CD {w:a_} {n P:Nat} (h:okW w n) (hP:P < List.length w.1) {c:List UInt8} (hc:1<=c.length):acu w n P c (tP w P c):=by
 have hp:=pp h.jy hP;have zt:=h.jy.1;unfold tP;split
 ·obtain ⟨q1,q2,q3⟩:=t_ hp;have hw:=xP h hP;have hl:=uV hP;split
  ·rename_i h0;obtain ⟨r1,r2,r3⟩:=zH q1 hc h0;have hP':P < List.length (oL w P).1:=by omega
   refine ⟨zM hw r1 Bys Bys,?_,λhh=>(by cases hh),λt ht=>?_⟩
   ·grind [tO]
   ·injection ht with ht;subst ht;refine ⟨M3 q1 h0,?_,λQ s=>?_⟩
    ·show cellOf (ii w.1 P) _=[]
     grind
    ·rw[wW hP',r2,Ab h hP];by_cases hq:Q=P
     ·subst hq;by_cases hs:s=gc (mS (ii w.1 Q))
      ·grind
      ·rw[aM rfl,aV hs,aV (λhh=>hs hh.2),q2];rfl
     grind
  ·exact ⟨hw.mono Bys,hl,λ_=>Ab h hP,λt ht=>by cases ht⟩
 ·split
  ·rename_i h0;obtain ⟨r1,r2,r3⟩:=zH hp hc h0;refine ⟨(zM h r1 Bys Bys).mono Bys,?_,λhh=>(by cases hh),λt ht=>?_⟩
   ·rw[tO hP,bB]
   ·injection ht with ht;subst ht;refine ⟨M3 hp h0,r3,λQ s=>?_⟩
    rw[wW hP,r2];by_cases hq:Q=P
    ·subst hq;by_cases hs:s=gc (ii w.1 Q)
     ·grind
     ·rw[aM rfl,aV hs,aV (λhh=>hs hh.2)];rfl
    grind
  ·exact ⟨h.mono Bys,rfl,λ_ _ _=>rfl,λt ht=>by cases ht⟩
def Xt (r:Option Nat×a_):Int×Bool×a_×Unit:=match r.1 with
 | some t=>((t:Int),true,r.2,())
 | none=>((0:Int),false,r.2,())
theorem PZ {w:a_} {n P:Nat} (h:okW w n) (hn:n<=900) (hP:P < List.length w.1) {c:List UInt8} (lY:1<=c.length) (hc:c.length<=20):qY.ab (w,(P:Int),c,())=some (Xt (tP w P c)):=by
 refine ag (k:=0) λk _=>(qY.ae k _).trans ?_;show qY.p _=_;unfold qY.p tP;have hp:=pp h.jy hP;obtain ⟨q1,q2,q3⟩:=t_ hp;have hw:=xP h hP;have hl:=uV hP;have g:(0:Int)<=(P:Int)/\(P:Int) < (List.length w.1:Int):=by omega
 have g2:(0:Int)<=(P:Int)/\(P:Int) < (List.length (oL w P).1:Int):=by omega
 have ec:ov w P (mS (ii w.1 P))=oL w P:=rfl;rw[aM g];simp only[aC,nT hP,aA,L_ hp c lY hc,ID hp,sm h Bys q1.len (eO hP),ec,nT (show P < List.length (oL w P).1 by omega),Fy hP,L_ q1 c lY hc];by_cases h8:mR (ii w.1 P) c=8
 ·rw[aX h8,aO,aM h8,aM g,aM g2];by_cases h0:mR (mS (ii w.1 P)) c=0
  ·rw[aX h0,aM h0,aM h0,aM h0,aR,aE,sm hw Bys (zH q1 lY h0).1.len Bys];rfl
  ·rw[bA h0,bW,aO,aV h0];rfl
 ·rw[bA h8,aE,aV h8];by_cases h0:mR (ii w.1 P) c=0
  ·rw[aX h0,aM h0,aM h0,aM h0,aR,aE,sm h Bys (zH hp lY h0).1.len Bys];rfl
  ·rw[bA h0,bW,aO,aV h0];rfl
def lz (w:a_) (P s:Nat) (c:List UInt8):Bool×a_:=
 if sK (ii w.1 P) s c=8 then
  if sK (mS (ii w.1 P)) s c=0 then (true,ov (oL w P) P (zI (mS (ii w.1 P)) s c)) else (false,oL w P)
 else if sK (ii w.1 P) s c=0 then (true,ov w P (zI (ii w.1 P) s c)) else (false,w)
theorem G9 {p:List UInt8} (h:ig p) {s:Nat} (hs:s < pn p) (hz:bg p s≠0):s < pn (mS p)/\bg (mS p) s≠0:=by
 obtain ⟨q1,q2,q3⟩:=t_ h;refine ⟨by omega,λh0=>hz ?_⟩
 rw[<-qO h hs,<- q2,qO q1 Bys];exact h0
structure Xu (w:a_) (n P s:Nat) (c:List UInt8) (r:Bool×a_):Prop where
 ok:okW r.2 (n+2)
 len:List.length r.2.1=List.length w.1
 no:r.1=false->∀ Q t,bu r.2.1 Q t=bu w.1 Q t
 yes:r.1=true->∀ Q t,bu r.2.1 Q t=if Q=P/\t=s then c else bu w.1 Q t
theorem rM {w:a_} {n P s:Nat} (h:okW w n) (jt:bu w.1 P s≠[]) {c:List UInt8} (hc:1<=c.length):Xu w n P s c (lz w P s c):=by
 obtain ⟨hP,hs,hz⟩:=vG h.jy jt;have hp:=pp h.jy hP;have zt:=h.jy.1;unfold lz;split
 ·obtain ⟨q1,q2,q3⟩:=t_ hp;obtain ⟨z1,z2⟩:=G9 hp hs hz;have hw:=xP h hP;have hl:=uV hP;split
  ·rename_i h0;obtain ⟨r1,r2⟩:=BC q1 z1 z2 hc h0;have hP':P < List.length (oL w P).1:=by omega
   refine ⟨zM hw r1 Bys Bys,?_,λhh=>(by cases hh),λ_ Q t=>?_⟩
   ·grind [tO]
   ·rw[wW hP',r2,Ab h hP];by_cases hq:Q=P
    ·subst hq;by_cases ht:t=s
     ·grind
     ·rw[aM rfl,aV ht,aV (λhh=>ht hh.2),q2];rfl
    grind
  ·exact ⟨hw.mono Bys,hl,λ_=>Ab h hP,λht=>by cases ht⟩
 ·split
  ·rename_i h0;obtain ⟨r1,r2⟩:=BC hp hs hz hc h0;refine ⟨(zM h r1 Bys Bys).mono Bys,?_,λhh=>(by cases hh),λ_ Q t=>?_⟩
   ·rw[tO hP,bB]
   ·rw[wW hP,r2];by_cases hq:Q=P
    ·subst hq;by_cases ht:t=s
     ·grind
     ·rw[aM rfl,aV ht,aV (λhh=>ht hh.2)];rfl
    grind
  ·exact ⟨h.mono Bys,rfl,λ_ _ _=>rfl,λht=>by cases ht⟩
theorem zg {w:a_} {n P s:Nat} (h:okW w n) (hn:n<=900) (jt:bu w.1 P s≠[]) {c:List UInt8} (lY:1<=c.length) (hc:c.length<=20):ot.ab (w,(P:Int),(s:Int),c,())=some ((lz w P s c).1,(lz w P s c).2,()):=by
 refine ag (k:=0) λk _=>(ot.ae k _).trans ?_;show ot.p _=_;unfold ot.p lz;obtain ⟨hP,hs,hz⟩:=vG h.jy jt;have hp:=pp h.jy hP;obtain ⟨q1,q2,q3⟩:=t_ hp;obtain ⟨z1,z2⟩:=G9 hp hs hz;have hw:=xP h hP;have hl:=uV hP;have g:(0:Int)<=(P:Int)/\(P:Int) < (List.length w.1:Int):=by omega
 have g2:(0:Int)<=(P:Int)/\(P:Int) < (List.length (oL w P).1:Int):=by omega
 have ec:ov w P (mS (ii w.1 P))=oL w P:=rfl;rw[aM g];simp only[aC,nT hP,aA,KU hp c lY hc hs hz,ID hp,sm h Bys q1.len (eO hP),ec,nT (show P < List.length (oL w P).1 by omega),Fy hP,KU q1 c lY hc z1 z2];by_cases h8:sK (ii w.1 P) s c=8
 ·rw[aX h8,aO,aM h8,aM g,aM g2];by_cases h0:sK (mS (ii w.1 P)) s c=0
  ·rw[aX h0,aM h0,aM h0,aR,aE,sm hw Bys (BC q1 z1 z2 lY h0).1.len Bys];rfl
  grind
 ·rw[bA h8,aE,aV h8];by_cases h0:sK (ii w.1 P) s c=0
  ·rw[aX h0,aM h0,aM h0,aR,aE,sm h Bys (BC hp hs hz lY h0).1.len Bys];rfl
  grind
theorem G_ {w:a_} {n P s:Nat} (h:okW w n) (hn:n<=900) (jt:bu w.1 P s≠[]) {c:List UInt8} (lY:1<=c.length) (hc:c.length<=20):mi.ab (w,(P:Int),(s:Int),c,())=some ((lz w P s c).1,(lz w P s c).2,()):=by
 refine ag (k:=0) λk _=>(mi.ae k _).trans ?_;show mi.p _=_;unfold mi.p lz;obtain ⟨hP,hs,hz⟩:=vG h.jy jt;have hp:=pp h.jy hP;obtain ⟨q1,q2,q3⟩:=t_ hp;obtain ⟨z1,z2⟩:=G9 hp hs hz;have hw:=xP h hP;have hl:=uV hP;have g:(0:Int)<=(P:Int)/\(P:Int) < (List.length w.1:Int):=by omega
 have g2:(0:Int)<=(P:Int)/\(P:Int) < (List.length (oL w P).1:Int):=by omega
 rw[aM g];simp only[aC,nT hP,aA,KV hp c lY hc hs hz,G8 h Bys hP,nT (show P < List.length (oL w P).1 by omega),Fy hP,KV q1 c lY hc z1 z2];by_cases h8:sK (ii w.1 P) s c=8
 ·rw[aX h8,aO,aM h8,aM g2];by_cases h0:sK (mS (ii w.1 P)) s c=0
  ·rw[aX h0,aM h0,aM h0,aR,aE,ub hw Bys (BC q1 z1 z2 lY h0).1.len Bys];rfl
  grind
 ·rw[bA h8,aE,aV h8];by_cases h0:sK (ii w.1 P) s c=0
  ·rw[aX h0,aM h0,aM h0,aR,aE,ub h Bys (BC hp hs hz lY h0).1.len Bys];rfl
  grind
def lQ (w:a_) (P s:Nat):a_:=ov w P (sa (ii w.1 P) s)
theorem sn {w:a_} {n P s:Nat} (h:okW w n) (jt:bu w.1 P s≠[]):okW (lQ w P s) (n+1)/\List.length (lQ w P s).1=List.length w.1/\∀ Q t,bu (lQ w P s).1 Q t=if Q=P/\t=s then [] else bu w.1 Q t:=by
 obtain ⟨hP,hs,hz⟩:=vG h.jy jt;have hp:=pp h.jy hP;have zt:=h.jy.1;obtain ⟨r1,r2⟩:=Jn hp hs;refine ⟨zM h r1 Bys Bys,?_,λQ t=>?_⟩
 ·grind [lQ,tO]
 ·unfold lQ;rw[wW hP,r2];by_cases hq:Q=P
  ·subst hq;by_cases ht:t=s
   ·grind
   ·rw[aM rfl,aV ht,aV (λhh=>ht hh.2)];rfl
  grind
theorem AW {w:a_} {n P s:Nat} (h:okW w n) (hn:n<=900) (jt:bu w.1 P s≠[]):n_.ab (w,(P:Int),(s:Int),())=some (lQ w P s,()):=by
 refine ag (k:=0) λk _=>(n_.ae k _).trans ?_;show n_.p _=_;unfold n_.p lQ;obtain ⟨hP,hs,hz⟩:=vG h.jy jt;have hp:=pp h.jy hP;have g:(0:Int)<=(P:Int)/\(P:Int) < (List.length w.1:Int):=by omega
 rw[aM g];simp only[aC,nT hP,aA,Rv hp hs,sm h Bys (Jn hp hs).1.len (eO hP)]
theorem AY {w:a_} {n P s:Nat} (h:okW w n) (hn:n<=900) (jt:bu w.1 P s≠[]):kl.ab (w,(P:Int),(s:Int),())=some (lQ w P s,()):=by
 refine ag (k:=0) λk _=>(kl.ae k _).trans ?_;show kl.p _=_;unfold kl.p lQ;obtain ⟨hP,hs,hz⟩:=vG h.jy jt;have hp:=pp h.jy hP;have g:(0:Int)<=(P:Int)/\(P:Int) < (List.length w.1:Int):=by omega
 rw[aM g];simp only[aC,nT hP,aA,Rw hp hs hz,ub h Bys (Jn hp hs).1.len (eO hP)]
end OT
namespace OT
open Go
theorem Di {α β:Type} {f:α->β}:∀ {l:List α},(l.map f).Nodup->∀ {x y:α},x ∈ l->y ∈ l->f x=f y->x=y
 | z::l,h,x,y,hx,hy,he=>by
  rw[dR,cH] at h;rcases aY.1 hx with Ar | Ar
  ·rcases aY.1 hy with P0 | P0
   ·rw[Ar,P0]
   ·rw[Ar] at he;exact absurd (he ▸ gF P0) h.1
  ·rcases aY.1 hy with P0 | P0
   ·rw[P0] at he;exact absurd (he ▸ gF Ar) h.1
   ·exact Di h.2 Ar P0 he
theorem Xv {α β K:Type} [DecidableEq K] {l:List α} {l':List β} {g:α->β} {ka:α->K} {kb:β->K} (hk:∀ x,kb (g x)=ka x) (hp:l'.Perm (l.map g)) (hn:(l.map ka).Nodup) (k:K):l'.find? (λy=>decide (kb y=k))=(l.find? (λx=>decide (ka x=k))).map g:=by
 cases h:l.find? (λx=>decide (ka x=k)) with
 | none=>
  rw[eJ] at h;show _=none;rw[eJ];intro y hy;obtain ⟨x,hx,rfl⟩:=eV.1 (hp.mem_iff.1 hy);rw[hk];exact h x hx
 | some x=>
  have hx:=cT h;have M4:ka x=k:=by have:=gD h;simpa using this
  show _=some (g x)
  cases h2:l'.find? (λy=>decide (kb y=k)) with
  | none=>
   rw[eJ] at h2;have:=h2 (g x) (hp.mem_iff.2 (gF hx));rw[hk,M4] at this;simp at this
  | some y=>
   have hy:=cT h2;have hyk:kb y=k:=by have:=gD h2;simpa using this
   obtain ⟨z,hz,rfl⟩:=eV.1 (hp.mem_iff.1 hy);rw[hk] at hyk;rw[Di hn hz hx (hyk.trans M4.symm)]
theorem Ha {α O:Type} (p:α->Bool) (g:α->O) (e:O):∀ (xs:List α) (i:Nat),ci (λ_ (_:Unit) x=>if p x then .inl (g x) else .inr ()) (λ_=>e) i xs ()=match xs.find? p with | some x=>g x | none=>e
 | [],_=>rfl
 | x::xs,i=>by
  simp only[ci,hK]
  cases h:p x with
  | true=>simp only[aH]
  | false=>simp only[aF,aS];exact Ha p g e xs (i+1)
abbrev aav:ax:=((0:Int),(0:Int),((0:Int),(0:Int),(0:Int),(0:Int),Cv,()),())
abbrev aaw:Seen:=(Cv,(0:Int),(0:Int),false,(0:Int),(0:Int),())
def vn (ps:ca) (t k:Int):Option ax:=(jH ps).find? (λx=>decide (rk (gr x)=(t,k)))
def U8 (l:List Seen) (t k:Int):Option Seen:=l.find? (λy=>decide (rk y.1=(t,k)))
theorem Xw (r:Row) (t k:Int):decide (rk r=(t,k))=(decide (r.1=t)&&decide (r.2.1=k)):=by
 unfold rk;by_cases h1:r.1=t <;> by_cases h2:r.2.1=k <;> simp[h1,h2]
theorem Ry (ps:ca) (h:lP ps) (t k:Int):nm.ab (ps,t,k,())=some (match vn ps t k with | some x=>(x,true,()) | none=>(aav,false,())):=by
 refine ag (k:=300) λq hq=>(nm.ae q _).trans ?_;unfold nm.p;rw[DF ps h];simp only[aA];have mF:=CB h;unfold vn;generalize jH ps=xs at mF ⊢
 have:=cz (B:=λself v=>nm.b0 self (λz=>nm.q0 (ps,t,k,()) xs z) (ps,t,k,()) xs v) xs (λ(_:Unit) (i:Int)=>i) (λ_ _ x=>if decide (rk (gr x)=(t,k)) then .inl (x,true,()) else .inr ()) (λ_=>((aav,false,()):ax×Bool×Unit)) (λ_ _=>True) (by rw[an];omega)
  (λi hi s self _=>by
   show nm.b0 _ _ _ _ _=_;unfold nm.b0;have a8:(i:Int) < (xs.length:Int):=by omega
   have g:(0:Int)<=(i:Int)/\(i:Int) < (xs.length:Int):=by omega
   rw[aX a8,aO,aM g,Xw];simp only[aC,aB hi,aA,aM g];show (bif decide ((gr xs[i]).1=t) then (bif decide ((gr xs[i]).2.1=k) then _ else _) else _)=_
   cases decide ((gr xs[i]).1=t) <;> cases decide ((gr xs[i]).2.1=k) <;> rfl)
  (λ_ _ _ _ _ _=>trivial) (λs self _=>by
   show nm.b0 _ _ _ _ _=_;unfold nm.b0;rw[bA (aU _),aE]
   rfl) () trivial q Bys
 rw[Ha] at this;refine this.trans (cN some ?_);cases List.find? (λx=>decide (rk (gr x)=(t,k))) xs <;> rfl
theorem Rz (l:List Seen) (hl:l.length<=1000) (t k:Int):qp.ab (l,t,k,())=some (match U8 l t k with | some x=>(x,true,()) | none=>(aaw,false,())):=by
 refine ag (k:=1100) λq hq=>(qp.ae q _).trans ?_;unfold U8
 have:=cz (B:=λself v=>qp.b0 self (λz=>qp.q0 (l,t,k,()) z) (l,t,k,()) v) l (λ(_:Unit) (i:Int)=>i) (λ_ _ x=>if decide (rk x.1=(t,k)) then .inl (x,true,()) else .inr ()) (λ_=>((aaw,false,()):Seen×Bool×Unit)) (λ_ _=>True) (by rw[an];omega)
  (λi hi s self _=>by
   show qp.b0 _ _ _ _=_;unfold qp.b0;have a8:(i:Int) < (l.length:Int):=by omega
   have g:(0:Int)<=(i:Int):=by omega
   rw[aX a8,aO,aM g,Xw];simp only[aC,aB hi,aA];show (bif decide (l[i].1.1=t) then (bif decide (l[i].1.2.1=k) then _ else _) else _)=_
   cases decide (l[i].1.1=t) <;> cases decide (l[i].1.2.1=k) <;> rfl)
  (λ_ _ _ _ _ _=>trivial) (λs self _=>by
   show qp.b0 _ _ _ _=_;unfold qp.b0;rw[bA (aU _),aE]
   rfl) () trivial q Bys
 rw[Ha] at this;refine this.trans (cN some ?_);cases List.find? (λx:Seen=>decide (rk x.1=(t,k))) l <;> rfl
theorem Xx {ps:ca} (h:wV ps) (t k:Int):U8 (ze ps) t k=(vn ps t k).map qx:=
 Xv (g:=qx) (ka:=λx=>rk (gr x)) (kb:=λy=>rk y.1) (λ_=>rfl) (KS h) h.keys (t,k)
theorem Zn {ps:ca} {a b:Int} (h:(pw ps a b).2=true):bu ps a.toNat b.toNat≠[]/\(lP ps->(pw ps a b)=ee (bu ps a.toNat b.toNat)):=by
 unfold pw at h ⊢
 cases hg:ps[a.toNat]? with
 | none=>rw[hg] at h;cases h
 | some p=>
  rw[hg] at h;simp only at h ⊢;split at h
  ·rename_i hc;have hp:ii ps a.toNat=p:=by unfold ii;rw[cI,hg];rfl
   have e:bu ps a.toNat b.toNat=je p b.toNat:=by unfold bu cellOf;rw[hp,aM hc.1]
   rw[e,aM hc];refine ⟨λh0=>?_,λ_=>rfl⟩
   rw[h0] at h;exact absurd h (by decide)
  ·cases h
theorem Jx {ps:ca} (h:wV ps) {x:ax} (hx:x ∈ jH ps):∃ P s:Nat,x.1=(P:Int)/\x.2.1=(s:Int)/\bu ps P s≠[]/\(fe x=1->∃ Q t:Nat,pz x=(Q:Int)/\pA x=(t:Int)/\bu ps Q t≠[]/\(ee (bu ps Q t)).1.2.1=2)/\(ee (bu ps P s)).1.2.1=fe x:=by
 unfold jH at hx;obtain ⟨y,hy,uO⟩:=dF.1 hx;obtain ⟨n1,n2⟩:=xy hy;have dt:=bG.1 h.aau y hy;obtain ⟨P,p,s,h1,h2,h3,h4⟩:=xN.1 hy;unfold sO at uO;split at uO
 ·cases uO
 ·have Ar:=bL.1 uO
  have hP:P < ps.length:=by
   rcases cK P ps.length with g | g
   ·exact g
   ·rw[eX g] at h1;cases h1
  have hp:ii ps P=p:=by unfold ii;rw[cI,h1];rfl
  have hpo:=pp h.right hP;rw[hp] at hpo
  have hc:bu ps P s≠[]:=by
   unfold bu;rw[hp];exact λh0=>h3 ((qO hpo h2).1 h0)
  have e1:x.1=y.1/\x.2.1=y.2.1/\fe x=fe y/\pz x=pz y/\pA x=pA y:=by
   rw[Ar];unfold wU;split <;> exact ⟨rfl,rfl,rfl,rfl,rfl⟩
  have e2:y.1=(P:Int)/\y.2.1=(s:Int):=by rw[h4];exact ⟨rfl,rfl⟩
  have e3:bu ps P s=je p s:=by unfold bu cellOf;rw[hp,aM h2]
  refine ⟨P,s,by rw[e1.1,e2.1],by rw[e1.2.1,e2.2],hc,λhf=>?_,by rw[e1.2.2.1,e3,h4];rfl⟩
  rw[e1.2.2.1] at hf;unfold qB at dt;rw[aX hf,aR,dJ,aD] at dt;obtain ⟨c1,c2⟩:=Zn dt.1;refine ⟨(pz y).toNat,(pA y).toNat,by rw[e1.2.2.2.1];omega,by rw[e1.2.2.2.2];omega,c1,?_⟩
  rw[<-c2 h.right]
  simpa using dt.2
theorem Hc {ps:ca} (h:wV ps) (t k:Int):(match vn ps t k with
  | some x=>nD (bm ps) (t,k)=true/\(bm ps)[pos (bm ps) (t,k)]?=some (gr x)/\x ∈ jH ps/\rk (gr x)=(t,k)
  | none=>nD (bm ps) (t,k)=false):=by
 have AP:∀ r,r ∈ bm ps↔∃ x ∈ jH ps,gr x=r:=λr=>by
  rw[zL h,(Bo _).mem_iff,eV]
 cases hf:vn ps t k with
 | none=>
  simp only;unfold vn at hf;rw[eJ] at hf
  cases hb:nD (bm ps) (t,k) with
  | false=>rfl
  | true=>
   obtain ⟨y,hy,hyk⟩:=SY hb;obtain ⟨x,hx,rfl⟩:=(AP y).1 hy;have:=hf x hx;rw[hyk] at this;simp at this
 | some x=>
  simp only;unfold vn at hf;have hx:=cT hf;have M4:rk (gr x)=(t,k):=by have:=gD hf;simpa using this
  have hb:nD (bm ps) (t,k)=true:=by
   cases hb:nD (bm ps) (t,k) with
   | true=>rfl
   | false=>
    exfalso;have hm:=(AP (gr x)).2 ⟨x,hx,rfl⟩;obtain ⟨i,hi,he⟩:=cX hm;have hu:=xO h
    have hnb:¬ i < pos (bm ps) (t,k):=λa8=>by
     have:=Cx (bm ps) (t,k) i hi a8;rw[he,M4,vl] at this;cases this
    have i7:pos (bm ps) (t,k) < (bm ps).length:=by omega
    unfold nD at hb;rw[aB i7] at hb;simp only[decide_eq_false_iff_not] at hb;by_cases Ci:pos (bm ps) (t,k)=i
    ·refine hb ?_;have:(bm ps)[pos (bm ps) (t,k)]=(bm ps)[i]:=by congr
     rw[this,he,M4]
    ·have h1:=y_ (bm ps) (t,k) (pos (bm ps) (t,k)) i7 hu (aI _);have h2:=dD.1 hu (pos (bm ps) (t,k)) i i7 hi Bys;rw[he,M4] at h2;rw[h2] at h1;cases h1
  refine ⟨hb,?_,hx,M4⟩
  obtain ⟨hp,hk⟩:=vF hb;rw[aB hp];congr 1;obtain ⟨y,hy,he⟩:=(AP _).1 (aN hp);have:y=x:=Di h.keys hy hx (by show rk (gr y)=rk (gr x);rw[he,hk,M4]);rw[<-he,this]
end OT
namespace OT
open Go
def dx (f:Nat) (r:Row):List UInt8:=[UInt8.ofNat f,UInt8.ofInt r.1,UInt8.ofInt r.2.1,UInt8.ofInt (r.2.2.1 / 256),UInt8.ofInt (r.2.2.1 % 256),UInt8.ofInt (List.length r.2.2.2.1:Int)]++r.2.2.2.1
theorem H8 {r:Row} (h:jb r=0):(0<=r.1/\r.1<=3)/\(1<=r.2.1/\r.2.1<=99)/\(0<=r.2.2.1/\r.2.2.1<=999)/\Bk r.2.2.2.1=true:=by
 grind [jb,gj]
theorem Dj {s:List UInt8} (h:Bk s=true):s.length<=8:=by
 grind [Bk]
theorem ji {f:Nat} {r:Row} (h:jb r=0):1<=(dx f r).length/\(dx f r).length<=14:=by
 simp_all [Dj,H8,dx]
theorem acv (n:Int):UInt8.ofInt (n % 256)=UInt8.ofInt n:=by
 grind [UInt8.ofInt]
theorem Ac {f:Nat} {r:Row} (h:jb r=0):jI.ab ((f:Int),r,())=some (dx f r,()):=by
 obtain ⟨_,_,h3,h4⟩:=H8 h;have h1:=Dj h4;refine ag (k:=0) λk _=>(jI.ae k _).trans ?_;grind [jI.p,dx,be,dc,vm]
theorem DI {f:Nat} {r:Row} (h:jb r=0):oJ.ab ((f:Int),r,())=some (dx f r,()):=by
 obtain ⟨_,_,h3,h4⟩:=H8 h;have h1:=Dj h4;refine ag (k:=0) λk _=>(oJ.ae k _).trans ?_;grind [oJ.p,dx,dc,acv,vm]
def kN (P t:Nat):List UInt8:=[(1:UInt8),UInt8.ofNat P,UInt8.ofNat t]
theorem IE (P t:Nat):pD.ab ((P:Int),(t:Int),())=some (kN P t,()):=by
 refine ag (k:=0) λk _=>(pD.ae k _).trans ?_;grind [pD.p,kN,vm]
theorem RA (P t:Nat):uR.ab ((P:Int),(t:Int),())=some (kN P t,()):=by
 refine ag (k:=0) λk _=>(uR.ae k _).trans ?_;grind [uR.p,kN,vm]
def k_ (c:List UInt8) (no:Int):List Nat->a_->Option (Nat×Nat)×a_
 | [],w=>(none,w)
 | P::l,w=>if (P:Int)=no then k_ c no l w else match (tP w P c).1 with
  | some t=>(some (P,t),(tP w P c).2)
  | none=>k_ c no l (tP w P c).2
def nU (w:a_) (no:Int) (c:List UInt8):Option (Nat×Nat)×a_:=
 match (k_ c no (List.range (List.length w.1)) w).1 with
 | some a=>k_ c no (List.range (List.length w.1)) w
 | none=>if 12<=List.length w.1 then (none,(k_ c no (List.range (List.length w.1)) w).2) else (some (List.length w.1,0),ov (k_ c no (List.range (List.length w.1)) w).2 (List.length w.1) (r_ vh c))
structure KY (w:a_) (n m:Nat) (c:List UInt8) (r:Option (Nat×Nat)×a_):Prop where
 ok:okW r.2 (n+m)
 no:r.1=none->List.length r.2.1=List.length w.1/\∀ Q s,bu r.2.1 Q s=bu w.1 Q s
 yes:∀ P t,r.1=some (P,t)->P < 12/\t < 16/\bu w.1 P t=[]/\∀ Q s,bu r.2.1 Q s=if Q=P/\s=t then c else bu w.1 Q s
theorem wX {c:List UInt8} (hc:1<=c.length) (no:Int):∀ (l:List Nat) (w:a_) (n:Nat),okW w n->(∀ P ∈ l,P < List.length w.1)->KY w n (2*l.length) c (k_ c no l w)
 | [],w,n,h,_=>⟨h.mono Bys,λ_=>⟨rfl,λ_ _=>rfl⟩,λP t ht=>by cases ht⟩
 | P::l,w,n,h,hl=>by
  unfold k_;split
  ·have:=wX hc no l w n h λQ hQ=>hl Q (bD _ hQ);exact ⟨this.ok.mono (by grind),this.no,this.yes⟩
  ·have hP:=hl P bV;have R:=CD h hP hc;split
   ·rename_i t ht;obtain ⟨y1,y2,y3⟩:=R.yes t ht;refine ⟨R.ok.mono (by grind),λhh=>(by cases hh),λP' t' hh=>?_⟩
    injection hh with hh;injection hh with h1 h2;subst h1;subst h2;exact ⟨by have:=h.jy.1;omega,y1,y2,y3⟩
   ·rename_i ht;have e:=R.no ht;have:=wX hc no l (tP w P c).2 (n+2) R.ok λQ hQ=>by rw[R.len];grind
    refine ⟨this.ok.mono (by grind),λhh=>?_,λP' t' hh=>?_⟩
    ·obtain ⟨a1,a2⟩:=this.no hh;exact ⟨by rw[a1,R.len],λQ s=>by rw[a2,e]⟩
    ·obtain ⟨a1,a2,a3,a4⟩:=this.yes P' t' hh;grind
theorem Mb {c:List UInt8} (lY:1<=c.length) (hc:c.length<=20):mR vh c=0/\gc vh=0/\ig (r_ vh c)/\∀ s,cellOf (r_ vh c) s=if s=0 then c else []:=by
 have e0:gc vh=0:=by decide +kernel
 have hn:pn vh=0:=by decide +kernel
 have hl:et vh=64:=by decide +kernel
 have hf:sN vh=62:=by decide +kernel
 have h0:mR vh c=0:=by
  grind [mR,uu]
 obtain ⟨r1,r2,r3⟩:=zH Fe.1 lY h0;refine ⟨h0,e0,r1,λs=>?_⟩
 rw[r2,e0,Fe.2]
theorem uW {w:a_} {n:Nat} (h:okW w n) {c:List UInt8} (lY:1<=c.length) (hc:c.length<=20) (no:Int):KY w n 25 c (nU w no c):=by
 have R:=wX lY no (List.range (List.length w.1)) w n h λP hP=>cD.1 hP;have zt:=h.jy.1;rw[cW] at R;unfold nU;split
 ·exact ⟨R.ok.mono Bys,R.no,R.yes⟩
 ·rename_i h0;obtain ⟨a1,a2⟩:=R.no h0;split
  ·exact ⟨R.ok.mono Bys,λ_=>⟨a1,a2⟩,λP t ht=>by cases ht⟩
  ·rename_i a8;obtain ⟨n1,n2,n3,n4⟩:=Mb lY hc;have hk:=zM R.ok n3 (P:=List.length w.1) Bys Bys;refine ⟨hk.mono Bys,λhh=>(by cases hh),λP t ht=>?_⟩
   injection ht with ht;injection ht with t1 t2;subst t1;subst t2;refine ⟨by omega,by omega,Ma (aI _),λQ s=>?_⟩
   have e:=Jw (k_ c no (List.range (List.length w.1)) w).2 (r_ vh c);rw[a1] at e;show bu (ov (k_ c no (List.range (List.length w.1)) w).2 (List.length w.1) (r_ vh c)).1 Q s=_;rw[e];unfold bu;rw[PY,a1];by_cases hq:Q=List.length w.1
   ·rw[aM hq,n4];by_cases hs:s=0
    ·grind
    ·rw[aV hs,aV (λhh=>hs hh.2)];subst hq;exact (Ma (aI _)).symm
   ·rw[aV hq,aV (λhh=>hq hh.1)];exact a2 Q s
def vo (r:Option (Nat×Nat)×a_):Int×Int×Bool×a_×Unit:=match r.1 with
 | some a=>((a.1:Int),(a.2:Int),true,r.2,())
 | none=>((0:Int),(0:Int),false,r.2,())
def AA (c:List UInt8) (no:Int) (P:Nat) (w:a_):Sum (Option (Int×Int×Bool×a_×Unit)) a_:=
 if (P:Int)=no then .inr w else match (tP w P c).1 with
  | some t=>.inl (some ((P:Int),(t:Int),true,(tP w P c).2,()))
  | none=>.inr (tP w P c).2
theorem Br {c:List UInt8} {no:Int} {fin:a_->Option (Int×Int×Bool×a_×Unit)}:∀ (l:List Nat) (i:Nat) (w:a_),ci (λ_ s x=>AA c no x s) fin i l w=match (k_ c no l w).1 with
  | some a=>some ((a.1:Int),(a.2:Int),true,(k_ c no l w).2,())
  | none=>fin (k_ c no l w).2
 | [],i,w=>rfl
 | P::l,i,w=>by
  simp only[ci,AA,k_];by_cases hn:(P:Int)=no
  ·rw[aM hn,aM hn];exact Br l (i+1) w
  ·rw[aV hn,aV hn]
   cases (tP w P c).1 with
   | some t=>rfl
   | none=>exact Br l (i+1) _
theorem P1:ww=vh:=rfl
theorem CE {w:a_} {n:Nat} (h:okW w n) (hn:n<=800) {c:List UInt8} (lY:1<=c.length) (hc:c.length<=20) (no:Int):iU.ab (w,no,c,())=some (vo (nU w no c)):=by
 have zt:=h.jy.1;refine ag (k:=100) λk hk=>(iU.ae k _).trans ?_;obtain ⟨n1,n2,n3,n4⟩:=Mb lY hc
 have:=oW (B:=λself v=>iU.b0 self (λz=>iU.q0 (w,no,c,()) z) (w,no,c,()) v) (List.length w.1) (λ(s:a_) (i:Int)=>(s,i)) (AA c no) (λs=>iU.q0 (w,no,c,()) s) (λi s=>okW s (n+2*i)/\List.length s.1=List.length w.1) Bys
  (λi hi s self ⟨hs,mF⟩=>by
   grind [iU.b0,AA,PZ,Xt])
  (λi hi s s' ⟨hs,mF⟩ hf=>by
   unfold AA at hf;have R:=CD hs (show i < List.length s.1 by omega) lY;split at hf
   ·injection hf with hf;subst hf;exact ⟨hs.mono Bys,mF⟩
   ·split at hf
    ·cases hf
    ·injection hf with hf;subst hf
     exact ⟨R.ok.mono Bys,by rw[R.len,mF]⟩)
  (λs self ⟨hs,mF⟩=>by
   grind [iU.b0]) w ⟨h,rfl⟩ k Bys
 refine this.trans ?_;rw[Br];unfold nU vo;have R:=wX lY no (List.range (List.length w.1)) w n h λP hP=>cD.1 hP;rw[cW] at R
 cases hg:(k_ c no (List.range (List.length w.1)) w).1 with
 | some a=>simp only[hg]
 | none=>
  obtain ⟨a1,a2⟩:=R.no hg;simp only;show iU.q0 _ _=_;unfold iU.q0;rw[a1];by_cases hl:12<=List.length w.1
  ·grind
  ·have:¬ (12:Int)<=(List.length w.1:Int):=by omega
   rw[bA this,aE,aV hl,EZ];simp only[aA,P1,L_ Fe.1 c lY hc,n1,n2,aH,sm R.ok Bys n3.len (show List.length w.1<=List.length (k_ c no (List.range (List.length w.1)) w).2.1 by omega)];grind [Jw,be]
theorem Hd {w:a_} {n:Nat} (h:okW w n) (hn:n<=800) {c:List UInt8} (lY:1<=c.length) (hc:c.length<=20) (no:Int):gg.ab (w,c,no,())=some (vo (nU w no c)):=by
 have zt:=h.jy.1;refine ag (k:=100) λk hk=>(gg.ae k _).trans ?_;obtain ⟨n1,n2,n3,n4⟩:=Mb lY hc
 have:=oW (B:=λself v=>gg.b0 self (λz=>gg.q0 (w,c,no,()) z) (w,c,no,()) v) (List.length w.1) (λ(s:a_) (i:Int)=>(s,i)) (AA c no) (λs=>gg.q0 (w,c,no,()) s) (λi s=>okW s (n+2*i)/\List.length s.1=List.length w.1) Bys
  (λi hi s self ⟨hs,mF⟩=>by
   show gg.b0 _ _ _ _=_;unfold gg.b0 AA;have a8:(i:Int) < (List.length w.1:Int):=by omega
   rw[aX a8,aO];by_cases rP:(i:Int)=no
   ·grind
   ·rw[bA rP,aE,aV rP];have hP:i < List.length s.1:=by omega
    have hp:=pp hs.jy hP;obtain ⟨q1,q2,q3⟩:=t_ hp;have hw:=xP hs hP;have hl:=uV hP;have g:(0:Int)<=(i:Int)/\(i:Int) < (List.length s.1:Int):=by omega
    have g2:(0:Int)<=(i:Int)/\(i:Int) < (List.length (oL s i).1:Int):=by omega
    rw[aM g];unfold tP;simp only[aC,nT hP,aA,Fx hp c lY hc,G8 hs Bys hP,nT (show i < List.length (oL s i).1 by omega),Fy hP,Fx q1 c lY hc];by_cases h8:mR (ii s.1 i) c=8
    ·rw[aX h8,aO,aM h8,aM g2];by_cases h0:mR (mS (ii s.1 i)) c=0
     ·rw[aX h0,aO,aM h0,aM h0,aM h0,ub hw Bys (zH q1 lY h0).1.len Bys];rfl
     grind
    ·rw[bA h8,aE,aV h8];by_cases h0:mR (ii s.1 i) c=0
     ·rw[aX h0,aO,aM h0,aM h0,aM h0,ub hs Bys (zH hp lY h0).1.len Bys];rfl
     grind)
  (λi hi s s' ⟨hs,mF⟩ hf=>by
   unfold AA at hf;have R:=CD hs (show i < List.length s.1 by omega) lY;split at hf
   ·injection hf with hf;subst hf;exact ⟨hs.mono Bys,mF⟩
   ·split at hf
    ·cases hf
    ·injection hf with hf;subst hf
     exact ⟨R.ok.mono Bys,by rw[R.len,mF]⟩)
  (λs self ⟨hs,mF⟩=>by
   grind [gg.b0]) w ⟨h,rfl⟩ k Bys
 refine this.trans ?_;rw[Br];unfold nU vo;have R:=wX lY no (List.range (List.length w.1)) w n h λP hP=>cD.1 hP;rw[cW] at R
 cases hg:(k_ c no (List.range (List.length w.1)) w).1 with
 | some a=>simp only[hg]
 | none=>
  obtain ⟨a1,a2⟩:=R.no hg;simp only;show gg.q0 _ _=_;unfold gg.q0;rw[a1];by_cases hl:12<=List.length w.1
  ·grind
  ·have:¬ (List.length w.1:Int)=12:=by omega
   rw[bA this,aE,aV hl,EY];simp only[aA,P1,Fx Fe.1 c lY hc,n1,n2,aH,ub R.ok Bys n3.len (show List.length w.1<=List.length (k_ c no (List.range (List.length w.1)) w).2.1 by omega)];grind [Jw,be]
end OT
namespace OT
open Go
theorem CF {α β:Type} {g:α->Option β}:∀ {l:List α},l.Nodup->((l.filterMap g).Nodup↔∀ x ∈ l,∀ y ∈ l,∀ b,g x=some b->g y=some b->x=y)
 | [],_=>by simp
 | z::l,h=>by
  rw[cH] at h;have ih:=CF (g:=g) h.2;grind
abbrev pq:Type:=Nat->Nat->List UInt8
def gm (d:List UInt8):Int:=(ee d).1.2.1
def oz (d:List UInt8):Nat:=(ee d).1.2.2.1.toNat
def oA (d:List UInt8):Nat:=(ee d).1.2.2.2.1.toNat
def He (d:List UInt8):Row:=(ee d).1.2.2.2.2.1
def rowAt (f:pq) (P s:Nat):Row:=if gm (f P s)=1 then He (f (oz (f P s)) (oA (f P s))) else He (f P s)
structure uJ (f:pq):Prop where
 read:∀ P s,f P s≠[]->(ee (f P s)).2=true
 stub:∀ P s,f P s≠[]->gm (f P s)=1->f (oz (f P s)) (oA (f P s))≠[]/\gm (f (oz (f P s)) (oA (f P s)))=2
 Tf:∀ P s Q t,f P s≠[]->f Q t≠[]->gm (f P s)=1->gm (f Q t)=1->oz (f P s)=oz (f Q t)->oA (f P s)=oA (f Q t)->P=Q/\s=t
 key:∀ P s Q t,f P s≠[]->f Q t≠[]->gm (f P s)≠2->gm (f Q t)≠2->rk (rowAt f P s)=rk (rowAt f Q t)->P=Q/\s=t
def qP (f:pq) (r:Row):Prop:=∃ P s,f P s≠[]/\gm (f P s)≠2/\rowAt f P s=r
def tQ (ps:ca) (P s:Nat):ax:=((P:Int),(s:Int),(ee (bu ps P s)).1,())
theorem qI {ps:ca} (h:lP ps) {x:ax}:x ∈ cv ps↔∃ P s,bu ps P s≠[]/\x=tQ ps P s:=by
 grind [xN,Nat.lt_or_ge,bu,cellOf,tQ,qO,pp,vG,nT]
theorem Ad (ps:ca):(cv ps).Nodup:=by
 have h1:∀ (P:Nat) (p:List UInt8),(rA P p).Pairwise (λx y=>x.2.1 < y.2.1)/\∀ x ∈ rA P p,x.1=(P:Int):=by
  intro P p
  have key:∀ n,((List.range n).flatMap (rz P p)).Pairwise (λx y=>x.2.1 < y.2.1)/\∀ x ∈ (List.range n).flatMap (rz P p),x.1=(P:Int)/\x.2.1 < (n:Int):=by
   intro n
   induction n with
   | zero=>simp_all
   | succ n ih=>
    rw[gC,eP]
    have hs:∀ x ∈ ([n]:List Nat).flatMap (rz P p),x.1=(P:Int)/\x.2.1=(n:Int):=λx hx=>by
     simp_all [rz]
    constructor
    ·rw[List.pairwise_append];grind [rz]
    grind
  exact ⟨(key (pn p)).1,λx hx=>((key (pn p)).2 x hx).1⟩
 have main:∀ (xs:ca) (i:Nat),(CA rA i xs).Nodup/\∀ x ∈ CA rA i xs,(i:Int)<=x.1:=by
  intro xs
  induction xs with
  | nil=>intro i;exact ⟨List.Pairwise.nil,λx hx=>by cases hx⟩
  | cons p xs ih=>
   intro i;obtain ⟨a1,a2⟩:=h1 i p;obtain ⟨b1,b2⟩:=ih (i+1);refine ⟨?_,λx hx=>?_⟩
   ·unfold CA;rw[eE];refine ⟨a1.imp λ{x y} a8 he=>by grind,b1,λx hx y hy he=>?_⟩
    grind
   grind [CA]
 exact (main ps 0).1
theorem P2 (ps:ca):(jH ps).map (λx=>rk (gr x))=(cv ps).filterMap (λx=>if fe x=2 then none else some (rk (gr (wU ps x)))):=by
 unfold jH;generalize cv ps=l
 induction l <;> grind [sO]
theorem Hf (d:List UInt8):(ee d).1.2.2.1=(oz d:Int)/\(ee d).1.2.2.2.1=(oA d:Int):=by
 obtain ⟨h1,h2⟩:=G0 d;unfold oz oA;omega
theorem M5 {ps:ca} (h:lP ps) (P s:Nat):pw ps (P:Int) (s:Int)=if bu ps P s=[] then (KJ,false) else ee (bu ps P s):=by
 unfold pw;rw[aC,aC];grind [bu,qO,pp,vG,nT,cellOf]
theorem wB {ps:ca} (h:lP ps) (P s:Nat) (dt:gm (bu ps P s)=1->bu ps (oz (bu ps P s)) (oA (bu ps P s))≠[]):gr (wU ps (tQ ps P s))=rowAt (bu ps) P s:=by
 unfold wU rowAt;have e1:fe (tQ ps P s)=gm (bu ps P s):=rfl;rw[e1];by_cases hf:gm (bu ps P s)=1
 ·rw[aM hf,aM hf];obtain ⟨t1,t2⟩:=Hf (bu ps P s);have e2:pz (tQ ps P s)=(oz (bu ps P s):Int):=t1;have e3:pA (tQ ps P s)=(oA (bu ps P s):Int):=t2;rw[e2,e3,M5 h,aV (dt hf)];rfl
 ·rw[aV hf,aV hf];rfl
theorem Hg {α:Type} {c:α->Int}:∀ {xs:List α},(∀ x ∈ xs,c x=0)->nI c xs=0
 | [],_=>rfl
 | x::xs,h=>by
  unfold nI;rw[aM (h x bV)];exact Hg λy hy=>h y (bD _ hy)
theorem KZ {ps:ca} (h:lP ps) (P s:Nat) (hr:∀ Q t,bu ps Q t≠[]->(ee (bu ps Q t)).2=true):qB ps (tQ ps P s)=true↔(gm (bu ps P s)=1->bu ps (oz (bu ps P s)) (oA (bu ps P s))≠[]/\gm (bu ps (oz (bu ps P s)) (oA (bu ps P s)))=2):=by
 grind [qB,fe,tQ,gm,Hf,pz,pA,M5]
theorem o9 {ps:ca}:ip ps=0↔lP ps/\uJ (bu ps):=by
 constructor
 ·intro hv;have V:=qH hv;have hr:=V.right
  have NZ:∀ P s,bu ps P s≠[]->(ee (bu ps P s)).2=true:=λP s hc=>by
   obtain ⟨a1,a2,a3⟩:=vG hr hc;have:=V.cells.2 _ (Jv a1) s a2 a3;grind [bu,cellOf]
  have U9:∀ P s,bu ps P s≠[]->gm (bu ps P s)=1->bu ps (oz (bu ps P s)) (oA (bu ps P s))≠[]/\gm (bu ps (oz (bu ps P s)) (oA (bu ps P s)))=2:=λP s hc=>
   (KZ hr P s NZ).1 (bG.1 V.aau _ ((qI hr).2 ⟨P,s,hc,rfl⟩))
  refine ⟨hr,NZ,U9,λP s Q t h1 h2 f1 f2 e1 e2=>?_,λP s Q t h1 h2 f1 f2 e=>?_⟩
  ·have:=(CF (Ad ps)).1 V.aem _ ((qI hr).2 ⟨P,s,h1,rfl⟩) _ ((qI hr).2 ⟨Q,t,h2,rfl⟩) ((oz (bu ps P s):Int),(oA (bu ps P s):Int))
    (by unfold zb;rw[aM (show fe (tQ ps P s)=1 from f1)];show some ((ee (bu ps P s)).1.2.2.1,(ee (bu ps P s)).1.2.2.2.1)=_;grind [Hf])
    (by unfold zb;rw[aM (show fe (tQ ps Q t)=1 from f2)];show some ((ee (bu ps Q t)).1.2.2.1,(ee (bu ps Q t)).1.2.2.2.1)=_;grind [Hf])
   have g1:((P:Int))=(Q:Int):=cN (λx:ax=>x.1) this;have g2:((s:Int))=(t:Int):=cN (λx:ax=>x.2.1) this;omega
  ·have hk:=V.keys;rw[P2] at hk
   have:=(CF (Ad ps)).1 hk _ ((qI hr).2 ⟨P,s,h1,rfl⟩) _ ((qI hr).2 ⟨Q,t,h2,rfl⟩) (rk (rowAt (bu ps) P s))
    (by rw[aV (show ¬ fe (tQ ps P s)=2 from f1),wB hr P s λhf=>(U9 P s h1 hf).1])
    (by rw[aV (show ¬ fe (tQ ps Q t)=2 from f2),wB hr Q t λhf=>(U9 Q t h2 hf).1,e])
   have g1:((P:Int))=(Q:Int):=cN (λx:ax=>x.1) this;have g2:((s:Int))=(t:Int):=cN (λx:ax=>x.2.1) this;omega
 ·rintro ⟨hr,S⟩
  have hf:nI xx ps=0:=Hg λp hp=>by
   obtain ⟨P,hP,he⟩:=cX hp;have hpg:ii ps P=p:=by grind [ii]
   have bd:=hr.2 p hp;unfold xx;rw[aM (uT.2 bd),aM];refine bG.2 λs hs=>?_;have hs:=cD.1 hs;unfold za;by_cases hz:bg p s=0
   ·grind
   ·have hc:bu ps P s≠[]:=λh0=>hz (by
     grind [bu,qO])
    have:=S.read P s hc;grind [bu,cellOf]
  have hl:¬ 12 < ps.length:=by have:=hr.1;omega
  unfold ip;rw[aV hl,aM hf];unfold De;rw[aM,aM,aM]
  ·rw[P2];refine (CF (Ad ps)).2 λx hx y hy b h1 h2=>?_;obtain ⟨P,s,c1,rfl⟩:=(qI hr).1 hx;obtain ⟨Q,t,c2,rfl⟩:=(qI hr).1 hy;split at h1
   ·cases h1
   ·rename_i f1;split at h2
    ·cases h2
    ·rename_i f2;rw[wB hr P s λhf=>(S.stub P s c1 hf).1] at h1;rw[wB hr Q t λhf=>(S.stub Q t c2 hf).1] at h2;obtain ⟨rfl,rfl⟩:=S.key P s Q t c1 c2 f1 f2 (by grind);rfl
  ·refine (CF (Ad ps)).2 λx hx y hy b h1 h2=>?_;obtain ⟨P,s,c1,rfl⟩:=(qI hr).1 hx;obtain ⟨Q,t,c2,rfl⟩:=(qI hr).1 hy;unfold zb at h1 h2;split at h1
   ·rename_i f1;split at h2
    ·rename_i f2;injection h1 with h1;injection h2 with h2;have h3:=h1.trans h2.symm;injection h3 with h3 h4;obtain ⟨rfl,rfl⟩:=S.Tf P s Q t c1 c2 f1 f2 (cN Int.toNat h3) (cN Int.toNat h4);rfl
    ·cases h2
   ·cases h1
  ·refine bG.2 λx hx=>?_;obtain ⟨P,s,c1,rfl⟩:=(qI hr).1 hx;exact (KZ hr P s S.read).2 (S.stub P s c1)
theorem zN {ps:ca} (hv:ip ps=0) (r:Row):r ∈ bm ps↔qP (bu ps) r:=by
 have V:=qH hv;have hr:=V.right;have S:=(o9.1 hv).2;rw[zL V,(Bo _).mem_iff,eV];constructor
 ·rintro ⟨x,hx,rfl⟩;unfold jH at hx;obtain ⟨y,hy,uO⟩:=dF.1 hx;obtain ⟨P,s,c1,rfl⟩:=(qI hr).1 hy;unfold sO at uO;split at uO
  ·cases uO
  ·rename_i f1;rw[bL.1 uO,wB hr P s λhf=>(S.stub P s c1 hf).1];exact ⟨P,s,c1,f1,rfl⟩
 ·rintro ⟨P,s,c1,f1,rfl⟩;refine ⟨wU ps (tQ ps P s),?_,wB hr P s λhf=>(S.stub P s c1 hf).1⟩
  unfold jH;refine dF.2 ⟨_,(qI hr).2 ⟨P,s,c1,rfl⟩,?_⟩;unfold sO;rw[aV (show ¬ fe (tQ ps P s)=2 from f1)];exact bL.2 rfl
end OT
namespace OT
open Go
def ml (f:pq) (P s:Nat) (c:List UInt8):pq:=λQ t=>if Q=P/\t=s then c else f Q t
theorem sL (f:pq) (P s:Nat) (c:List UInt8):ml f P s c P s=c:=aM ⟨rfl,rfl⟩
theorem ko {f:pq} {P s:Nat} {c:List UInt8} {Q t:Nat} (h:¬ (Q=P/\t=s)):ml f P s c Q t=f Q t:=aV h
def lone (f:pq) (A B:Nat):Prop:=∀ Q t,f Q t≠[]->gm (f Q t)=1->¬ (oz (f Q t)=A/\oA (f Q t)=B)
theorem ud {f g:pq} {Q u:Nat} (h1:g Q u=f Q u) (h2:gm (f Q u)=1->g (oz (f Q u)) (oA (f Q u))=f (oz (f Q u)) (oA (f Q u))):rowAt g Q u=rowAt f Q u:=by
 grind [rowAt]
section
variable {f:pq} (S:uJ f)
include S
theorem Xy {P t:Nat} {c:List UInt8} (h0:f P t=[]) (hc:(ee c).2=true) (h2:gm c=2):uJ (ml f P t c)/\(∀ r,qP (ml f P t c) r↔qP f r)/\lone (ml f P t c) P t:=by
 have off:∀ {Q u},f Q u≠[]->ml f P t c Q u=f Q u:=λ{Q u} hq=>ko λ⟨e1,e2⟩=>hq (by grind);have P3:∀ {Q u},gm (ml f P t c Q u)≠2->ml f P t c Q u=f Q u:=λ{Q u} hq=>ko λ⟨e1,e2⟩=>hq (by grind [sL]);have row:∀ {Q u},f Q u≠[]->rowAt (ml f P t c) Q u=rowAt f Q u:=λ{Q u} hq=>ud (off hq) λhf=>off (S.stub Q u hq hf).1;refine ⟨⟨λQ u hq=>?_,λQ u hq hf=>?_,λQ u R v hq hr f1 f2 e1 e2=>?_,λQ u R v hq hr f1 f2 e=>?_⟩,λr=>?_,λQ u hq hf hh=>?_⟩
 ·by_cases he:Q=P/\u=t
  ·grind [sL]
  ·rw[ko he] at hq ⊢;exact S.read Q u hq
 ·have e:=P3 (Q:=Q) (u:=u) (by rw[hf];decide);rw[e] at hq hf ⊢;obtain ⟨a1,a2⟩:=S.stub Q u hq hf;grind
 ·have g1:=P3 (Q:=Q) (u:=u) (by rw[f1];decide);have g2:=P3 (Q:=R) (u:=v) (by rw[f2];decide);rw[g1] at hq f1 e1 e2;rw[g2] at hr f2 e1 e2;exact S.Tf Q u R v hq hr f1 f2 e1 e2
 ·have g1:=P3 f1;have g2:=P3 f2;rw[g1] at hq f1;rw[g2] at hr f2;rw[row hq,row hr] at e;exact S.key Q u R v hq hr f1 f2 e
 ·constructor
  ·rintro ⟨Q,u,hq,f1,e⟩;rw[P3 f1] at hq f1;rw[row hq] at e;exact ⟨Q,u,hq,f1,e⟩
  ·rintro ⟨Q,u,hq,f1,e⟩;exact ⟨Q,u,by grind,by grind,by grind⟩
 ·have e:=P3 (Q:=Q) (u:=u) (by rw[hf];decide);rw[e] at hq hf hh;have:=(S.stub Q u hq hf).1;grind
theorem U_ {A B:Nat} (h2:gm (f A B)=2) (hl:lone f A B):uJ (ml f A B [])/\(∀ r,qP (ml f A B []) r↔qP f r):=by
 have ne:∀ {Q u},ml f A B [] Q u≠[]->¬ (Q=A/\u=B):=λ{Q u} hq he=>hq (by grind [sL]);have tg:∀ {Q u},f Q u≠[]->gm (f Q u)=1->ml f A B [] (oz (f Q u)) (oA (f Q u))=f (oz (f Q u)) (oA (f Q u)):=λ{Q u} hq hf=>ko (hl Q u hq hf);refine ⟨⟨λQ u hq=>?_,λQ u hq hf=>?_,λQ u R v hq hr f1 f2 e1 e2=>?_,λQ u R v hq hr f1 f2 e=>?_⟩,λr=>?_⟩
 ·have:=ne hq;rw[ko this] at hq ⊢;exact S.read Q u hq
 ·have:=ne hq;rw[ko this] at hq hf ⊢;rw[tg hq hf];exact S.stub Q u hq hf
 ·have n1:=ne hq;have n2:=ne hr;rw[ko n1] at hq f1 e1 e2;rw[ko n2] at hr f2 e1 e2;exact S.Tf Q u R v hq hr f1 f2 e1 e2
 ·have n1:=ne hq;have n2:=ne hr;have g1:=ko (f:=f) (c:=[]) n1;have g2:=ko (f:=f) (c:=[]) n2;rw[g1] at hq f1;rw[g2] at hr f2;rw[ud g1 (tg hq),ud g2 (tg hr)] at e;exact S.key Q u R v hq hr f1 f2 e
 ·constructor
  ·rintro ⟨Q,u,hq,f1,e⟩;have g1:=ko (f:=f) (c:=[]) (ne hq);rw[g1] at hq f1;rw[ud g1 (tg hq)] at e;exact ⟨Q,u,hq,f1,e⟩
  ·rintro ⟨Q,u,hq,f1,e⟩;have g1:ml f A B [] Q u=f Q u:=ko λhe=>f1 (by grind);exact ⟨Q,u,by grind,by grind,by grind [ud]⟩
theorem Xz {P s:Nat} (h0:f P s≠[]) (h2:gm (f P s)≠2):uJ (ml f P s [])/\(∀ r,qP (ml f P s []) r↔qP f r/\rk r≠rk (rowAt f P s))/\(gm (f P s)=1->lone (ml f P s []) (oz (f P s)) (oA (f P s))):=by
 have ne:∀ {Q u},ml f P s [] Q u≠[]->¬ (Q=P/\u=s):=λ{Q u} hq he=>hq (by grind [sL])
 have tg:∀ {Q u},f Q u≠[]->gm (f Q u)=1->ml f P s [] (oz (f Q u)) (oA (f Q u))=f (oz (f Q u)) (oA (f Q u)):=λ{Q u} hq hf=>ko λhe=>h2 (by
  have:=(S.stub Q u hq hf).2
  grind)
 refine ⟨⟨λQ u hq=>?_,λQ u hq hf=>?_,λQ u R v hq hr f1 f2 e1 e2=>?_,λQ u R v hq hr f1 f2 e=>?_⟩,λr=>?_,λh1 Q u hq hf hh=>?_⟩
 ·have:=ne hq;rw[ko this] at hq ⊢;exact S.read Q u hq
 ·have:=ne hq;rw[ko this] at hq hf ⊢;rw[tg hq hf];exact S.stub Q u hq hf
 ·have n1:=ne hq;have n2:=ne hr;rw[ko n1] at hq f1 e1 e2;rw[ko n2] at hr f2 e1 e2;exact S.Tf Q u R v hq hr f1 f2 e1 e2
 ·have g1:=ko (f:=f) (c:=[]) (ne hq);have g2:=ko (f:=f) (c:=[]) (ne hr);rw[g1] at hq f1;rw[g2] at hr f2;rw[ud g1 (tg hq),ud g2 (tg hr)] at e;exact S.key Q u R v hq hr f1 f2 e
 ·constructor
  ·rintro ⟨Q,u,hq,f1,e⟩;have n1:=ne hq;have g1:=ko (f:=f) (c:=[]) n1;rw[g1] at hq f1;rw[ud g1 (tg hq)] at e;refine ⟨⟨Q,u,hq,f1,e⟩,λhk=>n1 ?_⟩
   rw[<-e] at hk;exact S.key Q u P s hq h0 f1 h2 hk
  ·rintro ⟨⟨Q,u,hq,f1,e⟩,hk⟩;have g1:ml f P s [] Q u=f Q u:=ko λhe=>hk (by grind);exact ⟨Q,u,by grind,by grind,by grind [ud]⟩
 ·have n1:=ne hq;rw[ko n1] at hq hf hh;exact n1 (S.Tf Q u P s hq h0 hf h1 hh.1 hh.2)
theorem M6 {P s:Nat} {c:List UInt8} {r:Row} (h0:f P s=[]) (hc:(ee c).2=true) (hn:c≠[]) (hr:(gm c=0/\He c=r)\/(gm c=1/\f (oz c) (oA c)≠[]/\gm (f (oz c) (oA c))=2/\lone f (oz c) (oA c)/\He (f (oz c) (oA c))=r)) (hk:∀ r',qP f r'->rk r'≠rk r):uJ (ml f P s c)/\(∀ r',qP (ml f P s c) r'↔qP f r'\/r'=r):=by
 have off:∀ {Q u},f Q u≠[]->ml f P s c Q u=f Q u:=λ{Q u} hq=>ko λ⟨e1,e2⟩=>hq (by grind);have row:∀ {Q u},f Q u≠[]->rowAt (ml f P s c) Q u=rowAt f Q u:=λ{Q u} hq=>ud (off hq) λhf=>off (S.stub Q u hq hf).1;have h2:gm c≠2:=by grind
 have Zo:rowAt (ml f P s c) P s=r:=by
  grind [rowAt,sL]
 have cut:∀ {Q u},ml f P s c Q u≠[]->(Q=P/\u=s)\/(f Q u≠[]/\ml f P s c Q u=f Q u):=λ{Q u} hq=>by
  grind [ko]
 refine ⟨⟨λQ u hq=>?_,λQ u hq hf=>?_,λQ u R v hq hv f1 f2 e1 e2=>?_,λQ u R v hq hv f1 f2 e=>?_⟩,λr'=>?_⟩
 ·rcases cut hq with ⟨rfl,rfl⟩ | ⟨a,e⟩
  ·grind [sL]
  ·rw[e];exact S.read Q u a
 ·rcases cut hq with ⟨rfl,rfl⟩ | ⟨a,e⟩
  ·grind [sL]
  ·rw[e] at hf ⊢;obtain ⟨b1,b2⟩:=S.stub Q u a hf;grind
 ·rcases cut hq with ⟨rfl,rfl⟩ | ⟨a,g1⟩
  ·rcases cut hv with ⟨rfl,rfl⟩ | ⟨b,g2⟩
   ·grind
   ·rw[sL] at f1 e1 e2;rw[g2] at f2 e1 e2
    rcases hr with ⟨h,_⟩ | ⟨h,_,_,h5,_⟩
    ·grind
    ·exact absurd ⟨e1.symm,e2.symm⟩ (h5 R v b f2)
  ·rcases cut hv with ⟨rfl,rfl⟩ | ⟨b,g2⟩
   ·rw[sL] at f2 e1 e2;rw[g1] at f1 e1 e2
    rcases hr with ⟨h,_⟩ | ⟨h,_,_,h5,_⟩
    ·grind
    ·exact absurd ⟨e1,e2⟩ (h5 Q u a f1)
   ·rw[g1] at f1 e1 e2;rw[g2] at f2 e1 e2;exact S.Tf Q u R v a b f1 f2 e1 e2
 ·rcases cut hq with ⟨rfl,rfl⟩ | ⟨a,g1⟩
  ·rcases cut hv with ⟨rfl,rfl⟩ | ⟨b,g2⟩
   ·grind
   ·rw[g2] at f2;rw[Zo,row b] at e;exact absurd e.symm (hk _ ⟨R,v,b,f2,rfl⟩)
  ·rcases cut hv with ⟨rfl,rfl⟩ | ⟨b,g2⟩
   ·rw[g1] at f1;rw[Zo,row a] at e;exact absurd e (hk _ ⟨Q,u,a,f1,rfl⟩)
   ·rw[g1] at f1;rw[g2] at f2;rw[row a,row b] at e;exact S.key Q u R v a b f1 f2 e
 ·constructor
  ·rintro ⟨Q,u,hq,f1,e⟩
   rcases cut hq with ⟨rfl,rfl⟩ | ⟨a,g1⟩
   ·grind
   ·rw[g1] at f1;rw[row a] at e;exact .inl ⟨Q,u,a,f1,e⟩
  ·rintro (⟨Q,u,hq,f1,e⟩ | rfl)
   ·exact ⟨Q,u,by grind,by grind,by grind⟩
   ·exact ⟨P,s,by grind [sL],by grind [sL],Zo⟩
end
theorem Hh {n:Int} (h:0<=n) (h2:n < 256):((UInt8.ofInt n).toNat:Int)=n:=by
 have:n=((n.toNat:Nat):Int):=by omega
 grind [vm,ofNat_toNat]
theorem Va {n:Nat} (hn:n=0\/n=2) {r:Row} (hr:jb r=0):ee (dx n r)=(((0:Int),(n:Int),(0:Int),(0:Int),r,()),true):=by
 obtain ⟨h1,h2,h3,h4⟩:=H8 hr;have h5:=Dj h4;have hl:(dx n r).length=6+List.length r.2.2.2.1:=by grind [dx]
 have b0:pb (dx n r) 0=n:=by
  show (UInt8.ofNat n).toNat=n;grind [ofNat_toNat]
 have b1:(pb (dx n r) 1:Int)=r.1:=by
  show ((UInt8.ofInt r.1).toNat:Int)=r.1;grind [Hh]
 have b2:(pb (dx n r) 2:Int)=r.2.1:=by
  show ((UInt8.ofInt r.2.1).toNat:Int)=r.2.1;grind [Hh]
 have b3:(pb (dx n r) 3:Int)=r.2.2.1 / 256:=by
  show ((UInt8.ofInt (r.2.2.1 / 256)).toNat:Int)=_;grind [Hh]
 have b4:(pb (dx n r) 4:Int)=r.2.2.1 % 256:=by
  show ((UInt8.ofInt (r.2.2.1 % 256)).toNat:Int)=_;grind [Hh]
 have b5:(pb (dx n r) 5:Int)=(List.length r.2.2.2.1:Int):=by
  show ((UInt8.ofInt (List.length r.2.2.2.1:Int)).toNat:Int)=_;grind [Hh]
 have hd:(dx n r).drop 6=r.2.2.2.1:=rfl;grind [vj,ee]
theorem Vb {P t:Nat} (hP:P<=11) (ht:t<=15):ee (kN P t)=(((0:Int),(1:Int),(P:Int),(t:Int),Cv,()),true):=by
 have b1:pb (kN P t) 1=P:=by
  show (UInt8.ofNat P).toNat=P;grind [ofNat_toNat]
 have b2:pb (kN P t) 2=t:=by
  show (UInt8.ofNat t).toNat=t;grind [ofNat_toNat]
 unfold ee;rw[aM ⟨rfl,rfl⟩,b1,b2,aX hP,aX ht];rfl
theorem Vc {d:List UInt8} (h:(ee d).2=true) (h1:gm d=1):d=kN (oz d) (oA d)/\oz d<=11/\oA d<=15:=by
 unfold gm at h1;unfold oz oA;unfold ee at h h1 ⊢;split at h
 ·rename_i hc;rw[aM hc];simp only[aD,bF] at h;refine ⟨?_,by simpa using h.1,by simpa using h.2⟩
  refine Ct (by rw[hc.1];rfl) λj hj=>?_;rw[hc.1] at hj;have e1:=mA d 1;have e2:=mA d 2
  match j,hj with
  | 0,_=>rw[hc.2];rfl
  | 1,_=>show _=(UInt8.ofNat _).toNat;grind [ofNat_toNat]
  | 2,_=>show _=(UInt8.ofNat _).toNat;grind [ofNat_toNat]
 grind
end OT
namespace OT
open Go
theorem Ea {xs:List Row} {k:Int×Int} (hu:up xs) {i:Nat} (hi:i < xs.length) (hk:rk xs[i]=k):nD xs k=true/\pos xs k=i:=by
 have h1:¬ i < pos xs k:=λa8=>by
  have:=Cx xs k i hi a8;rw[hk,vl] at this;cases this
 have hp:pos xs k < xs.length:=by omega
 have h2:pos xs k=i:=by
  by_cases he:pos xs k=i
  ·exact he
  ·have h3:=dD.1 hu (pos xs k) i hp hi Bys;have h4:=y_ xs k (pos xs k) hp hu (aI _);rw[hk] at h3;rw[h3] at h4;cases h4
 refine ⟨?_,h2⟩
 unfold nD;rw[h2,aB hi]
 simpa using hk
theorem Zp {xs:List Row} (hu:up xs) (c:Change) (r:Row):r ∈ ry xs c↔(r ∈ xs/\rk r≠ck c)\/(c.2.2.1=true/\r=c.2.2.2.1):=by
 have key:(r ∈ xs.take (pos xs (ck c))\/r ∈ xs.drop (pos xs (ck c)+if nD xs (ck c) then 1 else 0))↔(r ∈ xs/\rk r≠ck c):=by
  constructor
  ·rintro (h | h)
   ·exact ⟨dG h,λhe=>by have:=Cy h;rw[he,vl] at this;cases this⟩
   ·refine ⟨dC h,λhe=>?_⟩
    obtain ⟨i,hi,hr⟩:=cX h;rw[List.getElem_drop] at hr;rw[bX] at hi;obtain ⟨f1,f2⟩:=Ea hu (i:=pos xs (ck c)+(if nD xs (ck c) then 1 else 0)+i) (k:=ck c) Bys (by rw[hr];exact he);rw[f1] at f2;simp only[aH] at f2;omega
  ·rintro ⟨h,lU⟩;obtain ⟨i,hi,hr⟩:=cX h;by_cases h1:i < pos xs (ck c)
   ·left;rw[gN];exact ⟨i,by omega,hr⟩
   ·right;rw[List.mem_drop_iff_getElem];by_cases hf:nD xs (ck c)=true
    ·rw[aM hf];obtain ⟨hp,hk⟩:=vF hf;have:i≠pos xs (ck c):=λhe=>lU (by subst he;rw[<-hr];exact hk);exact ⟨i - (pos xs (ck c)+1),by omega,by rw[<-hr];congr 1;omega⟩
    ·rw[aV hf];exact ⟨i - (pos xs (ck c)+0),by omega,by rw[<-hr];congr 1;omega⟩
 unfold ry;rw[bO,bO];constructor
 ·rintro ((h | h) | h)
  ·exact .inl (key.1 (.inl h))
  ·cases hi:c.2.2.1 with
   | true=>rw[hi] at h;exact .inr ⟨rfl,bL.1 h⟩
   | false=>rw[hi] at h;cases h
  ·exact .inl (key.1 (.inr h))
 ·rintro (h | ⟨hi,rfl⟩)
  ·rcases key.2 h with h | h
   ·exact .inl (.inl h)
   ·exact .inr h
  ·rw[hi];exact .inl (.inr (bL.2 rfl))
theorem XA {a b:Row} (h:Ty.eq aT a b=true):a=b:=by
 have e:Ty.eq aT a b=(decide (a.1=b.1)&&(decide (a.2.1=b.2.1)&&(decide (a.2.2.1=b.2.2.1)&&(decide (a.2.2.2.1=b.2.2.2.1)&&true)))):=rfl;rw[e] at h;simp only[aD,bF,eF] at h;obtain ⟨a1,a2,a3,a4,⟨⟩⟩:=a;obtain ⟨b1,b2,b3,b4,⟨⟩⟩:=b;obtain ⟨h1,h2,h3,h4⟩:=h;simp only at h1 h2 h3 h4;rw[h1,h2,h3,h4]
end OT
namespace OT
open Go
def eu (ps:ca):a_:=(ps,([]:List rE),())
theorem rN {ps:ca} (h:lP ps):okW (eu ps) 0:=⟨h,aI _,λe he=>by cases he⟩
theorem Vd {ps:ca} (h:lP ps):gp ps:=⟨h.1,λp hp=>(h.2 p hp).len⟩
theorem CG {ps:ca} (h:lP ps):lq.ab (ps,())=some (eu ps,()):=by
 refine ag (k:=0) λk _=>(lq.ae k _).trans ?_;show lq.p _=_;unfold lq.p;rw[xD ps (Vd h)];rfl
theorem P4 {ps:ca} (h:lP ps):si.ab (ps,())=some (eu ps,()):=by
 refine ag (k:=0) λk _=>(si.ae k _).trans ?_;show si.p _=_;unfold si.p;rw[FR ps (Vd h)];rfl
def Fz (k:Int):dO:=(k,([]:List rE),([]:List (List UInt8)),())
def vp (ok:Bool) (w:a_):dO:=if ok then ((0:Int),w.2.1,w.1,()) else Fz 9
theorem DJ (k:Int):fu.ab (k,())=some (Fz k,()):=ag (k:=0) λq _=>(fu.ae q _).trans rfl
theorem CH (w:a_):kR.ab (w,())=some (vp true w,()):=ag (k:=0) λq _=>(kR.ae q _).trans rfl
theorem IF (w:a_):lH.ab (w,())=some (vp true w,()):=ag (k:=0) λq _=>(lH.ae q _).trans rfl
theorem CI (w:a_) (ok:Bool):np.ab (w,ok,())=some (vp ok w,()):=by
 refine ag (k:=0) λk _=>(np.ae k _).trans ?_;show np.p _=_;unfold np.p;rw[IF];cases ok <;> rfl
def uK (w:a_) (r:Row):Option (Nat×Nat)×a_:=nU w (-1) (dx 0 r)
theorem Tg {w:a_} {n:Nat} (h:okW w n) {r:Row} (hr:jb r=0):KY w n 25 (dx 0 r) (uK w r):=
 uW h (ji hr).1 (by grind [ji]) _
theorem Ve {w:a_} {n:Nat} (h:okW w n) (hn:n<=800) {r:Row} (hr:jb r=0):o7.ab (w,r,())=some ((uK w r).1.isSome,(uK w r).2,()):=by
 refine ag (k:=0) λk _=>(o7.ae k _).trans ?_;grind [o7.p,dx,DI,Hd,ji,vo,uK]
theorem Vf {ps:ca} (h:lP ps) {r:Row} (hr:jb r=0):ql.ab (ps,r,())=some (vp (uK (eu ps) r).1.isSome (uK (eu ps) r).2,()):=by
 refine ag (k:=0) λk _=>(ql.ae k _).trans ?_;show ql.p _=_;unfold ql.p;have e:jI.ab ((0:Int),r,())=some (dx 0 r,()):=Ac (f:=0) hr;simp only[e,CG h,aA,CE (rN h) Bys (ji hr).1 (show (dx 0 r).length<=20 by grind [ji]),DJ,CH];unfold vo uK;cases (nU (eu ps) (-1) (dx 0 r)).1 <;> rfl
def qc (w:a_) (P s A B:Nat) (mv:Bool) (r:Row):Bool×a_:=
 if (lz w A B (dx (bif mv then 2 else 0) r)).1=true then (true,(lz w A B (dx (bif mv then 2 else 0) r)).2)
 else match (nU (lz w A B (dx (bif mv then 2 else 0) r)).2 (A:Int) (dx 2 r)).1 with
  | none=>(false,(nU (lz w A B (dx (bif mv then 2 else 0) r)).2 (A:Int) (dx 2 r)).2)
  | some a=>(true,bif mv then lQ (lz (nU (lz w A B (dx (bif mv then 2 else 0) r)).2 (A:Int) (dx 2 r)).2 P s (kN a.1 a.2)).2 A B else (lz (nU (lz w A B (dx (bif mv then 2 else 0) r)).2 (A:Int) (dx 2 r)).2 P s (kN a.1 a.2)).2)
theorem jX {f:Nat} {r:Row}:dx f r≠[]:=by grind [dx]
theorem ri (P t:Nat):(kN P t).length=3:=rfl
theorem uL {w:a_} {n m:Nat} {c:List UInt8} {r:Option (Nat×Nat)×a_} (R:KY w n m c r) {Q t:Nat} (h:bu w.1 Q t≠[]) (hc:c≠[]):bu r.2.1 Q t≠[]:=by
 cases hr:r.1 with
 | none=>rw[(R.no hr).2];exact h
 | some a=>
  rw[(R.yes a.1 a.2 hr).2.2.2];grind
theorem oC {w:a_} {n P s:Nat} {c:List UInt8} {r:Bool×a_} (R:Xu w n P s c r) {Q t:Nat} (h:bu w.1 Q t≠[]) (hc:c≠[]):bu r.2.1 Q t≠[]:=by
 cases hr:r.1 with
 | false=>rw[R.no hr];exact h
 | true=>
  rw[R.yes hr];grind
section
variable {w:a_} {n:Nat} (h:okW w n) (hn:n<=400) {P s A B:Nat} (h1:bu w.1 P s≠[]) (h2:bu w.1 A B≠[]) (mv:Bool) {r:Row} (hr:jb r=0)
include h hn h1 h2 hr
theorem H9:okW (qc w P s A B mv r).2 (n+40):=by
 have R1:=rM h h2 (ji (f:=bif mv then 2 else 0) hr).1;have R2:=uW R1.ok (ji (f:=2) hr).1 (by grind [ji]) (A:Int);unfold qc;split
 ·exact R1.ok.mono Bys
 ·split
  ·exact R2.ok.mono Bys
  ·rename_i a ha;have k1:=uL R2 (oC R1 h1 jX) jX;have k2:=uL R2 (oC R1 h2 jX) jX;have R3:=rM R2.ok k1 (c:=kN a.1 a.2) (by rw[ri];omega)
   cases mv with
   | false=>exact R3.ok.mono Bys
   | true=>
    have k3:=oC R3 k2 (by grind [kN]);exact (sn R3.ok k3).1.mono Bys
theorem K1 (r0:Row):kG.ab (w,(r0,(P:Int),(s:Int),mv,(A:Int),(B:Int),()),r,())=some (if Ty.eq aT r0 r=true then (true,w,()) else ((qc w P s A B mv r).1,(qc w P s A B mv r).2,())):=by
 refine ag (k:=0) λk _=>(kG.ae k _).trans ?_;show kG.p _=_;unfold kG.p;show (bif Ty.eq aT r0 r then _ else _)=_
 cases Ty.eq aT r0 r with
 | true=>rfl
 | false=>
  have Eb:∀ f,(dx f r).length<=20:=λf=>by grind [ji]
  have l1:∀ f,1<=(dx f r).length:=λf=>(ji (f:=f) hr).1
  have main:∀ f:Nat,f=(bif mv then 2 else 0)->((oJ.ab ((f:Int),r,())).bind λnu=>(mi.ab (w,(A:Int),(B:Int),nu.1,())).bind λru=>bif ru.1 then (some (true,ru.2.1,()):Option kG.O) else (oJ.ab ((2:Int),r,())).bind λzs=>(gg.ab (ru.2.1,zs.1,(A:Int),())).bind λuF=>bif !uF.2.2.1 then (some (false,uF.2.2.2.1,())) else (uR.ab (uF.1,uF.2.1,())).bind λxt=>(mi.ab (uF.2.2.2.1,(P:Int),(s:Int),xt.1,())).bind λzr=>bif mv then ((kl.ab (zr.2.1,(A:Int),(B:Int),())).bind λA6=>some (true,A6.1,())) else some (true,zr.2.1,()))=some ((qc w P s A B mv r).1,(qc w P s A B mv r).2,()):=by
   intro f hf;have R1:=rM h h2 (l1 f);have R2:=uW R1.ok (l1 2) (Eb 2) (A:Int);have e2:oJ.ab ((2:Int),r,())=some (dx 2 r,()):=DI (f:=2) hr;unfold qc;rw[<-hf];simp only[DI (f:=f) hr,e2,aA,G_ h Bys h2 (l1 f) (Eb f)]
   cases hb:(lz w A B (dx f r)).1 with
   | true=>grind
   | false=>
    simp only[aE,aF,aS,Hd R1.ok (show n+2<=800 by omega) (l1 2) (Eb 2),aA];unfold vo
    cases hg:(nU (lz w A B (dx f r)).2 (A:Int) (dx 2 r)).1 with
    | none=>rfl
    | some a=>
     have k1:=uL R2 (oC R1 h1 jX) jX;have k2:=uL R2 (oC R1 h2 jX) jX;have l3:1<=(kN a.1 a.2).length:=by rw[ri];omega
     have R3:=rM R2.ok k1 l3;have k3:=oC R3 k2 (by grind);simp only[aR,aE,RA,aA,G_ R2.ok (show n+2+25<=900 by omega) k1 l3 (show (kN a.1 a.2).length<=20 by rw[ri];omega)]
     cases mv with
     | false=>rfl
     | true=>simp only[aO,AY R3.ok (show n+2+25+2<=900 by omega) k3,aA]
  grind
theorem RB (x:ax) (x3:x.2.2.1.2.2.1=(A:Int)) (x4:x.2.2.1.2.2.2.1=(B:Int)) (x1:x.1=(P:Int)) (x2:x.2.1=(s:Int)):sg.ab (w,x,r,())=some ((qc w P s A B true r).1,(qc w P s A B true r).2,()):=by
 refine ag (k:=0) λk _=>(sg.ae k _).trans ?_;show sg.p _=_;unfold sg.p;have Eb:∀ f,(dx f r).length<=20:=λf=>by grind [ji]
 have l1:∀ f,1<=(dx f r).length:=λf=>(ji (f:=f) hr).1;have R1:=rM h h2 (l1 2);have R2:=uW R1.ok (l1 2) (Eb 2) (A:Int);have e2:jI.ab ((2:Int),r,())=some (dx 2 r,()):=Ac (f:=2) hr;unfold qc;simp only[e2,x1,x2,x3,x4,aA,zg h Bys h2 (l1 2) (Eb 2),aO]
 cases hb:(lz w A B (dx 2 r)).1 with
 | true=>grind
 | false=>
  simp only[aE,aF,aS,CE R1.ok (show n+2<=800 by omega) (l1 2) (Eb 2),aA];unfold vo
  cases hg:(nU (lz w A B (dx 2 r)).2 (A:Int) (dx 2 r)).1 with
  | none=>rfl
  | some a=>
   have k1:=uL R2 (oC R1 h1 jX) jX;have k2:=uL R2 (oC R1 h2 jX) jX;have l3:1<=(kN a.1 a.2).length:=by rw[ri];omega
   have R3:=rM R2.ok k1 l3;have k3:=oC R3 k2 (by grind);simp only[aR,aE,IE,aA,zg R2.ok (show n+2+25<=900 by omega) k1 l3 (show (kN a.1 a.2).length<=20 by rw[ri];omega),AW R3.ok (show n+2+25+2<=900 by omega) k3]
end
def DK (ps:ca) (x:ax) (r:Row):dO:=
 if Ty.eq aT (gr x) r=true then vp true (eu ps) else
  vp (qc (eu ps) x.1.toNat x.2.1.toNat (if fe x=1 then pz x else x.1).toNat (if fe x=1 then pA x else x.2.1).toNat (decide (fe x=1)) r).1 (qc (eu ps) x.1.toNat x.2.1.toNat (if fe x=1 then pz x else x.1).toNat (if fe x=1 then pA x else x.2.1).toNat (decide (fe x=1)) r).2
theorem Vg {ps:ca} (h:wV ps) {x:ax} (hx:x ∈ jH ps) {r:Row} (hr:jb r=0):qn.ab (ps,x,r,())=some (DK ps x r,()):=by
 obtain ⟨P,s,x1,x2,c1,c2,c3⟩:=Jx h hx;have ho:=rN h.right;refine ag (k:=0) λk _=>(qn.ae k _).trans ?_;show qn.p _=_;unfold qn.p DK;simp only[CG h.right,CH,DJ,aA];show (bif Ty.eq aT (gr x) r then _ else _)=_
 cases Ty.eq aT (gr x) r with
 | true=>rfl
 | false=>
  simp only[aE,aF,aS];show (bif decide (fe x=1) then _ else _)=_;by_cases hf:fe x=1
  ·obtain ⟨Q,t,x3,x4,c4,c5⟩:=c2 hf;rw[aX hf,aO,RB ho Bys c1 c4 hr x x3 x4 x1 x2];simp only[aM hf,x1,x2,x3,x4,aC,aA];cases (qc (eu ps) P s Q t true r).1 <;> rfl
  ·rw[bA hf,aE];simp only[aV hf,x1,x2,aC];have Eb:∀ f,(dx f r).length<=20:=λf=>by grind [ji]
   have l1:∀ f,1<=(dx f r).length:=λf=>(ji (f:=f) hr).1;have R1:=rM ho c1 (l1 0);have R2:=uW R1.ok (l1 2) (Eb 2) (P:Int);have e0:jI.ab ((0:Int),r,())=some (dx 0 r,()):=Ac (f:=0) hr;have e2:jI.ab ((2:Int),r,())=some (dx 2 r,()):=Ac (f:=2) hr;unfold qc;simp only[e0,e2,aA,zg ho Bys c1 (l1 0) (Eb 0),aE]
   cases hb:(lz (eu ps) P s (dx 0 r)).1 with
   | true=>rfl
   | false=>
    simp only[aE,aF,aS,CE R1.ok (show 0+2<=800 by omega) (l1 2) (Eb 2),aA];unfold vo
    cases hg:(nU (lz (eu ps) P s (dx 0 r)).2 (P:Int) (dx 2 r)).1 with
    | none=>rfl
    | some a=>
     have k1:=uL R2 (oC R1 c1 jX) jX;have l3:1<=(kN a.1 a.2).length:=by rw[ri];omega
     simp only[aR,aE,IE,aA,zg R2.ok (show 0+2+25<=900 by omega) k1 l3 (show (kN a.1 a.2).length<=20 by rw[ri];omega)]
theorem RD {ps:ca} (h:wV ps) {x:ax} (hx:x ∈ jH ps) {r:Row} (hr:jb r=0):((kG.ab (eu ps,qx x,r,())).bind λru=>np.ab (ru.2.1,ru.1,()))=some (DK ps x r,()):=by
 obtain ⟨P,s,x1,x2,c1,c2,c3⟩:=Jx h hx;have ho:=rN h.right;unfold DK;by_cases hf:fe x=1
 ·obtain ⟨Q,t,x3,x4,c4,c5⟩:=c2 hf;have hc:qx x=(gr x,(P:Int),(s:Int),true,(Q:Int),(t:Int),()):=by grind [qx]
  rw[hc,K1 ho Bys c1 c4 true hr (gr x),aX hf];grind [Int.toNat_natCast,CI]
 ·have hc:qx x=(gr x,(P:Int),(s:Int),false,(P:Int),(s:Int),()):=by grind [qx]
  rw[hc,K1 ho Bys c1 c1 false hr (gr x),bA hf];grind [CI]
def Hj (ps:ca) (x:ax):dO:=vp true (if fe x=1 then lQ (lQ (eu ps) x.1.toNat x.2.1.toNat) (pz x).toNat (pA x).toNat else lQ (eu ps) x.1.toNat x.2.1.toNat)
theorem XB {ps:ca} (h:wV ps) {x:ax} (hx:x ∈ jH ps):∃ P s:Nat,x.1=(P:Int)/\x.2.1=(s:Int)/\bu ps P s≠[]/\(fe x=1->∃ Q t:Nat,pz x=(Q:Int)/\pA x=(t:Int)/\bu (lQ (eu ps) P s).1 Q t≠[]):=by
 obtain ⟨P,s,x1,x2,c1,c2,c3⟩:=Jx h hx;refine ⟨P,s,x1,x2,c1,λhf=>?_⟩
 obtain ⟨Q,t,x3,x4,c4,c5⟩:=c2 hf;refine ⟨Q,t,x3,x4,?_⟩
 rw[(sn (rN h.right) c1).2.2,aV]
 ·exact c4
 grind
theorem Vh {ps:ca} (h:wV ps) {x:ax} (hx:x ∈ jH ps):qm.ab (ps,x,())=some (Hj ps x,()):=by
 obtain ⟨P,s,x1,x2,c1,c2⟩:=XB h hx;have ho:=rN h.right;have hd:=(sn ho c1).1;refine ag (k:=0) λk _=>(qm.ae k _).trans ?_;show qm.p _=_;unfold qm.p Hj;simp only[CG h.right,CH,aA,x1,x2,AW ho Bys c1,aC];show (bif decide (fe x=1) then _ else _)=_;by_cases hf:fe x=1
 ·obtain ⟨Q,t,x3,x4,c4⟩:=c2 hf;rw[aX hf,aO,aM hf];have e3:x.2.2.1.2.2.1=(Q:Int):=x3;have e4:x.2.2.1.2.2.2.1=(t:Int):=x4;grind [AW]
 grind
theorem Vi {ps:ca} (h:wV ps) {x:ax} (hx:x ∈ jH ps):((lI.ab (eu ps,qx x,())).bind λr28=>lH.ab (r28.1,()))=some (Hj ps x,()):=by
 obtain ⟨P,s,x1,x2,c1,c2⟩:=XB h hx;have ho:=rN h.right;have hd:=(sn ho c1).1
 have e:lI.ab (eu ps,qx x,())=some (if fe x=1 then lQ (lQ (eu ps) x.1.toNat x.2.1.toNat) (pz x).toNat (pA x).toNat else lQ (eu ps) x.1.toNat x.2.1.toNat,()):=by
  refine ag (k:=0) λk _=>(lI.ae k _).trans ?_;show lI.p _=_;unfold lI.p qx;simp only[x1,x2,aC];rw[AY ho Bys c1];grind [AY]
 rw[e,aA,IF];rfl
end OT
namespace OT
open Go
def sP (f:pq) (P s:Nat):pq:=if gm (f P s)=1 then ml (ml f P s []) (oz (f P s)) (oA (f P s)) [] else ml f P s []
theorem P5 {f:pq} (S:uJ f) {P s:Nat} (h0:f P s≠[]) (h2:gm (f P s)≠2):uJ (sP f P s)/\(∀ r,qP (sP f P s) r↔qP f r/\rk r≠rk (rowAt f P s)):=by
 obtain ⟨S1,r1,l1⟩:=Xz S h0 h2;unfold sP;split
 ·rename_i hf;obtain ⟨a1,a2⟩:=S.stub P s h0 hf;grind [U_,ko]
 grind
theorem XC (f:pq) (P s:Nat):sP f P s P s=[]:=by
 unfold sP;grind [ml]
theorem drop_nil {f:pq} {P s Q t:Nat} (h:f Q t=[]):sP f P s Q t=[]:=by
 have one:∀ (g:pq) (A B:Nat),g Q t=[]->ml g A B [] Q t=[]:=λg A B hg=>by
  grind [sL,ko]
 unfold sP;grind
theorem M7 {n:Nat} (hn:n=0\/n=2) {r:Row} (hr:jb r=0):(ee (dx n r)).2=true/\gm (dx n r)=n/\He (dx n r)=r:=by
 grind [gm,He,Va]
theorem P6 {h:pq} (S:uJ h) {P s:Nat} (h0:h P s=[]) {r:Row} (hr:jb r=0) (hk:∀ r',qP h r'->rk r'≠rk r):uJ (ml h P s (dx 0 r))/\(∀ r',qP (ml h P s (dx 0 r)) r'↔qP h r'\/r'=r):=by
 simp_all [M7,M6,jX]
theorem abd {h:pq} (S:uJ h) {P s X Y:Nat} (h0:h P s=[]) (h1:h X Y=[]) (lU:¬ (X=P/\Y=s)) (hX:X<=11) (hY:Y<=15) {r:Row} (hr:jb r=0) (hk:∀ r',qP h r'->rk r'≠rk r):uJ (ml (ml h X Y (dx 2 r)) P s (kN X Y))/\(∀ r',qP (ml (ml h X Y (dx 2 r)) P s (kN X Y)) r'↔qP h r'\/r'=r):=by
 obtain ⟨c1,c2,c3⟩:=M7 (n:=2) (.inr rfl) hr;obtain ⟨S1,r1,l1⟩:=Xy S h1 c1 c2;have hs:=Vb hX hY;have e1:gm (kN X Y)=1:=by grind [gm]
 have e2:oz (kN X Y)=X:=by grind [oz]
 have e3:oA (kN X Y)=Y:=by grind [oA]
 have:=M6 S1 (P:=P) (s:=s) (c:=kN X Y) (r:=r) (by grind [ko]) (by rw[hs]) (by grind [kN])
  (.inr ⟨e1,by grind [sL,jX],by grind [sL],by grind,by grind [sL]⟩) (λr' hr'=>hk r' ((r1 r').1 hr'))
 grind
theorem yd {ps:ca} {g:pq} (h:∀ Q t,bu ps Q t=g Q t):bu ps=g:=funext λQ=>funext λt=>h Q t
theorem Mc {ps:ca} (hv:ip ps=0) {x:ax} (hx:x ∈ jH ps):∃ P s:Nat,bu ps P s≠[]/\gm (bu ps P s)≠2/\x.1=(P:Int)/\x.2.1=(s:Int)/\fe x=gm (bu ps P s)/\pz x=(oz (bu ps P s):Int)/\pA x=(oA (bu ps P s):Int)/\gr x=rowAt (bu ps) P s:=by
 have V:=qH hv;have S:=(o9.1 hv).2;unfold jH at hx;obtain ⟨y,hy,uO⟩:=dF.1 hx;obtain ⟨P,s,c1,rfl⟩:=(qI V.right).1 hy;unfold sO at uO;split at uO
 ·cases uO
 ·rename_i f1;have Ar:=bL.1 uO;have e:=wB V.right P s λhf=>(S.stub P s c1 hf).1;obtain ⟨t1,t2⟩:=Hf (bu ps P s);refine ⟨P,s,c1,f1,?_⟩
  rw[Ar];refine ⟨?_,?_,?_,?_,?_,e⟩
  all_goals (unfold wU;split)
  all_goals first | rfl | exact t1 | exact t2
theorem Zq {w:a_} {n P s:Nat} (h:okW w n) (jt:bu w.1 P s≠[]) {c:List UInt8} (hc:c.length<=(bu w.1 P s).length):(lz w P s c).1=true:=by
 obtain ⟨hP,hs,hz⟩:=vG h.jy jt;have hp:=pp h.jy hP;grind [bu,cellOf,po,sK,lz]
theorem XD {d:List UInt8} (h:(ee d).2=true):3<=d.length:=by
 grind [ee]
theorem Zr {ps:ca} (hv:ip ps=0) {r:Row} (hr:jb r=0) (hk:∀ r' ∈ bm ps,rk r'≠rk r) {a:Nat×Nat} (ha:(uK (eu ps) r).1=some a):ip (uK (eu ps) r).2.1=0/\∀ r',r' ∈ bm (uK (eu ps) r).2.1↔r' ∈ bm ps\/r'=r:=by
 obtain ⟨hR,S⟩:=o9.1 hv;have R:=Tg (rN hR) hr;obtain ⟨y1,y2,y3,y4⟩:=R.yes a.1 a.2 ha;have e:bu (uK (eu ps) r).2.1=ml (bu ps) a.1 a.2 (dx 0 r):=yd y4;obtain ⟨S1,r1⟩:=P6 S y3 hr λr' h'=>hk r' ((zN hv r').2 h');have hv':ip (uK (eu ps) r).2.1=0:=o9.2 ⟨R.ok.jy,by grind⟩;grind [zN]
section
variable {ps:ca} (hv:ip ps=0) {P s:Nat} (c1:bu ps P s≠[]) (c2:gm (bu ps P s)≠2)
include hv c1 c2
theorem XE {r:Row} (hr:jb r=0) (mv:Bool) {A B:Nat} (hm:if mv then gm (bu ps P s)=1/\A=oz (bu ps P s)/\B=oA (bu ps P s) else gm (bu ps P s)≠1/\A=P/\B=s) (Vj:(qc (eu ps) P s A B mv r).1=true) :
  ∃ g:pq,bu (qc (eu ps) P s A B mv r).2.1=g/\(g=ml (sP (bu ps) P s) P s (dx 0 r)\/∃ X Y,sP (bu ps) P s X Y=[]/\¬ (X=P/\Y=s)/\X<=11/\Y<=15/\g=ml (ml (sP (bu ps) P s) X Y (dx 2 r)) P s (kN X Y)):=by
 obtain ⟨hR,S⟩:=o9.1 hv;have ho:=rN hR;have Eb:∀ f,(dx f r).length<=20:=λf=>by grind [ji]
 have l1:∀ f,1<=(dx f r).length:=λf=>(ji (f:=f) hr).1
 have hAB:bu ps A B≠[]/\(mv=true->gm (bu ps A B)=2/\¬ (A=P/\B=s)/\bu ps P s=kN A B/\A<=11/\B<=15):=by
  cases mv with
  | false=>grind
  | true=>
   obtain ⟨m1,m2,m3⟩:=hm;obtain ⟨a1,a2⟩:=S.stub P s c1 m1;obtain ⟨b1,b2,b3⟩:=Vc (S.read P s c1) m1;grind
 obtain ⟨cAB,hmv⟩:=hAB
 have hd:∀ Q t,sP (bu ps) P s Q t=if (Q=P/\t=s)\/(mv=true/\Q=A/\t=B) then [] else bu ps Q t:=by
  intro Q t;unfold sP ml
  cases mv with
  | false=>
   simp_all
  | true=>
   obtain ⟨m1,m2,m3⟩:=hm;rw[aM m1,<- m2,<- m3];grind
 have R1:=rM ho (P:=A) (s:=B) cAB (l1 (bif mv then 2 else 0));have R2:=uW R1.ok (l1 2) (Eb 2) (A:Int);refine ⟨_,rfl,?_⟩
 unfold qc at Vj ⊢;split at Vj
 ·rename_i hb;rw[aM hb];have e:=R1.yes hb
  cases mv with
  | false=>
   left;obtain ⟨m1,m2,m3⟩:=hm;refine yd λQ t=>?_;rw[e Q t];unfold ml;rw[m2,m3,hd];by_cases h:Q=P/\t=s
   ·grind
   ·rw[aV h,aV h,aV (λhh=>by grind)];rfl
  | true=>
   right;obtain ⟨m4,m5,m6,m7,m8⟩:=hmv rfl;refine ⟨A,B,by grind,m5,m7,m8,yd λQ t=>?_⟩
   rw[e Q t];unfold ml;rw[hd];by_cases h:Q=P/\t=s
   ·rw[aM h,aV (λhh=>m5 ⟨hh.1.symm.trans h.1,hh.2.symm.trans h.2⟩),h.1,h.2];exact m6
   ·rw[aV h];by_cases h2:Q=A/\t=B
    ·grind
    ·rw[aV h2,aV h2,aV (λhh=>by grind)];rfl
 ·rename_i hb;rw[aV hb];have hbf:(lz (eu ps) A B (dx (bif mv then 2 else 0) r)).1=false:=by simpa using hb
  have e:=R1.no hbf
  cases hg:(nU (lz (eu ps) A B (dx (bif mv then 2 else 0) r)).2 (A:Int) (dx 2 r)).1 with
  | none=>grind
  | some a=>
   obtain ⟨y1,y2,y3,y4⟩:=R2.yes a.1 a.2 hg;rw[e] at y3;have y3':bu ps a.1 a.2=[]:=y3;have k1:=uL R2 (oC R1 (Q:=P) (t:=s) c1 jX) jX;have k2:=uL R2 (oC R1 (Q:=A) (t:=B) cAB jX) jX;have n1:¬ (a.1=P/\a.2=s):=λhe=>c1 (by grind);have n2:¬ (a.1=A/\a.2=B):=λhe=>cAB (by grind);have R3:=rM R2.ok k1 (c:=kN a.1 a.2) (by rw[ri];omega)
   have to:bu (nU (lz (eu ps) A B (dx (bif mv then 2 else 0) r)).2 (A:Int) (dx 2 r)).2.1 P s=bu ps P s:=by
    rw[y4,aV (λhe=>n1 ⟨he.1.symm,he.2.symm⟩),e];rfl
   have dt:=Zq R2.ok k1 (c:=kN a.1 a.2) (by rw[to,ri];exact XD (S.read P s c1));have e3:=R3.yes dt;right;refine ⟨a.1,a.2,drop_nil y3',n1,by omega,by omega,yd λQ t=>?_⟩
   have base:∀ Q t,bu (lz (nU (lz (eu ps) A B (dx (bif mv then 2 else 0) r)).2 (A:Int) (dx 2 r)).2 P s (kN a.1 a.2)).2.1 Q t=if Q=P/\t=s then kN a.1 a.2 else if Q=a.1/\t=a.2 then dx 2 r else bu ps Q t:=λQ t=>by
    rw[e3,y4,e];rfl
   simp only;unfold ml;rw[hd]
   cases mv with
   | false=>
    grind
   | true=>
    obtain ⟨m4,m5,m6,m7,m8⟩:=hmv rfl;have k3:=oC R3 k2 (by grind [kN]);show bu (lQ (lz _ P s (kN a.1 a.2)).2 A B).1 Q t=_;rw[(sn R3.ok k3).2.2,base];grind
theorem P7 {r:Row} (hr:jb r=0) (hk:rk (rowAt (bu ps) P s)=rk r) (mv:Bool) {A B:Nat} (hm:if mv then gm (bu ps P s)=1/\A=oz (bu ps P s)/\B=oA (bu ps P s) else gm (bu ps P s)≠1/\A=P/\B=s) (bd:lP (qc (eu ps) P s A B mv r).2.1) (Vj:(qc (eu ps) P s A B mv r).1=true) :
  ip (qc (eu ps) P s A B mv r).2.1=0/\∀ r',r' ∈ bm (qc (eu ps) P s A B mv r).2.1↔(r' ∈ bm ps/\rk r'≠rk r)\/r'=r:=by
 obtain ⟨hR,S⟩:=o9.1 hv;obtain ⟨S1,r1⟩:=P5 S c1 c2;rw[hk] at r1;have rP:∀ r',qP (sP (bu ps) P s) r'->rk r'≠rk r:=λr' h'=>((r1 r').1 h').2;obtain ⟨g,hg,aeI⟩:=XE hv c1 c2 hr mv hm Vj
 have fin:uJ g/\∀ r',qP g r'↔qP (sP (bu ps) P s) r'\/r'=r:=by
  grind [P6,XC,abd]
 have hv':ip (qc (eu ps) P s A B mv r).2.1=0:=o9.2 ⟨bd,by grind⟩;grind [zN]
end
theorem P8 {xs:List Row} (h:(xs.map rk).Nodup):xs.Nodup:=List.Pairwise.of_map rk (λa b h he=>h (cN rk he)) h
theorem Zs {ps:ca} (hv:ip ps=0) {x:ax} (hx:x ∈ jH ps):∃ w:a_,Hj ps x=vp true w/\okW w 2/\ip w.1=0/\∀ r',r' ∈ bm w.1↔r' ∈ bm ps/\rk r'≠rk (gr x):=by
 obtain ⟨hR,S⟩:=o9.1 hv;obtain ⟨P,s,c1,c2,x1,x2,x3,x4,x5,x6⟩:=Mc hv hx;have ho:=rN hR;obtain ⟨d1,d2,d3⟩:=sn ho c1;obtain ⟨S1,r1⟩:=P5 S c1 c2;unfold Hj;rw[x1,x2,x4,x5,aC,aC,aC,aC,x3,x6];by_cases hf:gm (bu ps P s)=1
 ·rw[aM hf];obtain ⟨a1,a2⟩:=S.stub P s c1 hf
  have ne:¬ (oz (bu ps P s)=P/\oA (bu ps P s)=s):=λhe=>by
   grind
  have k1:bu (lQ (eu ps) P s).1 (oz (bu ps P s)) (oA (bu ps P s))≠[]:=by rw[d3,aV ne];exact a1
  obtain ⟨e1,e2,e3⟩:=sn d1 k1
  have e:bu (lQ (lQ (eu ps) P s) (oz (bu ps P s)) (oA (bu ps P s))).1=sP (bu ps) P s:=yd λQ t=>by
   rw[e3,d3];unfold sP;rw[aM hf];rfl
  have hv':=o9.2 ⟨e1.jy,by grind⟩;grind [zN]
 ·rw[aV hf]
  have e:bu (lQ (eu ps) P s).1=sP (bu ps) P s:=yd λQ t=>by
   rw[d3];unfold sP;rw[aV hf];rfl
  have hv':=o9.2 ⟨d1.jy,by grind⟩;exact ⟨_,rfl,d1.mono Bys,hv',λr'=>by grind [zN]⟩
theorem XF {ps:ca} (hv:ip ps=0) {x:ax} (hx:x ∈ jH ps) {r:Row} (hr:jb r=0) (hk:rk (gr x)=rk r):DK ps x r=Fz 9\/∃ w:a_,DK ps x r=vp true w/\okW w 40/\ip w.1=0/\∀ r',r' ∈ bm w.1↔(r' ∈ bm ps/\rk r'≠rk r)\/r'=r:=by
 obtain ⟨hR,S⟩:=o9.1 hv;obtain ⟨P,s,c1,c2,x1,x2,x3,x4,x5,x6⟩:=Mc hv hx;have ho:=rN hR;have V:=qH hv;unfold DK;by_cases he:Ty.eq aT (gr x) r=true
 ·rw[aM he];right
  have SF:gr x=r:=by
   exact XA he
  refine ⟨eu ps,rfl,ho.mono Bys,hv,λr'=>?_⟩
  have gw:r ∈ bm ps:=by
   grind [zL,Bo]
  constructor
  ·intro h;by_cases nB:rk r'=rk r
   ·right;have hn:=Fo (xO V);exact Di hn h gw nB
   ·exact .inl ⟨h,nB⟩
  ·rintro (h | rfl)
   ·exact h.1
   ·exact gw
 ·rw[aV he];by_cases hf:gm (bu ps P s)=1
  ·obtain ⟨a1,a2⟩:=S.stub P s c1 hf
   have hm:if (true:Bool) then gm (bu ps P s)=1/\oz (bu ps P s)=oz (bu ps P s)/\oA (bu ps P s)=oA (bu ps P s) else gm (bu ps P s)≠1/\oz (bu ps P s)=P/\oA (bu ps P s)=s:=⟨hf,rfl,rfl⟩
   rw[x3,aM hf,aM hf,x1,x2,x4,x5,aX hf,aC,aC,aC,aC];have bd:=H9 ho Bys c1 a1 true hr
   cases hy:(qc (eu ps) P s (oz (bu ps P s)) (oA (bu ps P s)) true r).1 with
   | false=>exact .inl rfl
   | true=>
    right;obtain ⟨v1,v2⟩:=P7 hv c1 c2 hr (by grind) true hm bd.jy hy;grind
  ·have hm:if (false:Bool) then gm (bu ps P s)=1/\P=oz (bu ps P s)/\s=oA (bu ps P s) else gm (bu ps P s)≠1/\P=P/\s=s:=⟨hf,rfl,rfl⟩
   rw[x3,aV hf,aV hf,x1,x2,bA hf,aC,aC];have bd:=H9 ho Bys c1 c1 false hr
   cases hy:(qc (eu ps) P s P s false r).1 with
   | false=>exact .inl rfl
   | true=>
    right;obtain ⟨v1,v2⟩:=P7 hv c1 c2 hr (by grind) false hm bd.jy hy;grind
theorem abe {xs ys:List Row} (hx:up xs) (hy:up ys) (h:∀ r,r ∈ xs↔r ∈ ys):xs=ys:=by
 have n1:xs.Nodup:=P8 (Fo hx);have n2:ys.Nodup:=P8 (Fo hy);exact Xm ((List.perm_ext_iff_of_nodup n1 n2).2 h) hx hy
end OT
namespace OT
open Go
def kW (ps:ca) (c:Change):dO:=
 if ip ps=0 then
  if nC c=0 then
   match vn ps (ck c).1 (ck c).2 with
   | some x=>if c.1&&Ty.eq aT (gr x) c.2.1 then (if c.2.2.1 then DK ps x c.2.2.2.1 else Hj ps x) else Fz 8
   | none=>if c.1 then Fz 8 else vp (uK (eu ps) c.2.2.2.1).1.isSome (uK (eu ps) c.2.2.2.1).2
  else Fz (nC c)
 else Fz (ip ps)
section
variable {ps:ca} (hp:∀ p ∈ ps,p.length<=maxLen)
include hp
theorem H_ {c:Change} (h:nC c=0) (hw:c.1=false):c.2.2.1=true:=by
 grind [nC]
theorem P9 {c:Change} (hv:ip ps=0) (hf:nC c=0):rY.ab (ps,c,())=some (match vn ps (ck c).1 (ck c).2 with
  | some x=>if c.1&&Ty.eq aT (gr x) c.2.1 then (if c.2.2.1 then DK ps x c.2.2.2.1 else Hj ps x) else Fz 8
  | none=>if c.1 then Fz 8 else vp (uK (eu ps) c.2.2.2.1).1.isSome (uK (eu ps) c.2.2.2.1).2,()):=by
 have hV:=qH hv;refine ag (k:=0) λk _=>(rY.ae k _).trans ?_;show rY.p _=_;unfold rY.p;rw[yX];simp only[aA,Ry ps hV.right,DJ]
 cases hx:vn ps (ck c).1 (ck c).2 with
 | none=>
  simp only
  cases hw:c.1 with
  | true=>rfl
  | false=>
   have hi:=(td hf).2 (H_ hp hf hw);rw[Vf hV.right hi];rfl
 | some x=>
  have hm:=cT hx;grind [gr,Vh,Vg,td]
theorem RF {c:Change} (hc:cl c):qq.ab (ps,c,())=some (kW ps c,()):=by
 refine ag (k:=0) λk _=>(qq.ae k _).trans ?_;show qq.p _=_;unfold qq.p kW;rw[DG ps hp];simp only[aA,AT c hc,wT];by_cases hv:ip ps=0
 ·rw[aM hv,aX hv,aO];by_cases hf:nC c=0
  ·have hV:=qH hv;have hl:=Dg hV;have ho:=rN hV.right;rw[aM hf,aX hf,aR,aE,DH _ Bys,P4 hV.right];simp only[aA];have xW:(bm ps).length<=2000000:=by grind [bm]
   rw[show (ze ps).map (·.1)=bm ps from rfl,MW c (bm ps) (xO hV) xW];have MA:(Av c).1=(ck c).1:=by rw[<-yc c]
   have nB:(Av c).2.1=(ck c).2:=by rw[<-yc c]
   simp only[aA,MA,nB,Rz _ (show (ze ps).length<=1000 by omega),Xx hV];have oh:=Hc hV (ck c).1 (ck c).2
   cases hx:vn ps (ck c).1 (ck c).2 with
   | none=>
    rw[hx] at oh;simp only at oh
    have e:uw (bm ps) c=!c.1:=by
     grind [uw]
    rw[e]
    cases hw:c.1 with
    | true=>rfl
    | false=>
     have hi:=(td hf).2 (H_ hp hf hw);grind [Ve,CI]
   | some x=>
    have hm:=cT hx;rw[hx] at oh;obtain ⟨f1,f2,f3,f4⟩:=oh
    have e:uw (bm ps) c=(c.1&&Ty.eq aT (gr x) c.2.1):=by
     grind [uw]
    rw[e];dsimp only
    cases hw:c.1 with
    | false=>rfl
    | true=>
     cases Ty.eq aT (gr x) c.2.1 with
     | false=>rfl
     | true=>
      simp only[bN,gQ,aR,aE,aH]
      cases hi:c.2.2.1 with
      | true=>
       have e:=RD hV hm ((td hf).2 hi);simp only[aO,aH];cases hu:kG.ab (eu ps,qx x,c.2.2.2.1,()) <;> grind
      | false=>
       have e:=Vi hV hm;simp only[aE,aF,aS];cases hu:lI.ab (eu ps,qx x,()) <;> grind
  ·rw[aV hf,bA hf,bW,aO];rfl
 ·rw[aV hv,bA hv,aE,bW,aO];rfl
end
end OT
namespace OT
open Go
theorem Bs {ok:Bool} {w:a_} (h:(vp ok w).1=0):ok=true/\vp ok w=((0:Int),w.2.1,w.1,()):=by
 unfold vp at h ⊢
 cases ok with
 | true=>exact ⟨rfl,rfl⟩
 | false=>exact absurd h (show ¬ (9:Int)=0 by decide)
theorem XG {ps:ca} (hv:ip ps=0) {r:Row} (hr:jb r=0) (hn:vn ps r.1 r.2.1=none) (h0:(vp (uK (eu ps) r).1.isSome (uK (eu ps) r).2).1=0):ip (uK (eu ps) r).2.1=0/\∀ r',r' ∈ bm (uK (eu ps) r).2.1↔r' ∈ bm ps\/r'=r:=by
 have V:=qH hv;obtain ⟨ha,_⟩:=Bs h0;obtain ⟨a,ha⟩:=dZ.1 ha;refine Zr hv hr (λr' hr' he=>?_) ha;have hf:=Hc V r.1 r.2.1;rw[hn] at hf;simp only at hf;obtain ⟨i,hi,hx⟩:=cX hr';have:=(Ea (xO V) hi (k:=(r.1,r.2.1)) (by rw[hx];exact he)).1;rw[hf] at this;cases this
theorem Th {d:List UInt8} (h:(ee d).2=true) (h1:gm d≠1):jb (He d)=0:=by
 unfold gm at h1;unfold He;unfold ee at h h1 ⊢;split at h
 ·rename_i hc;rw[aM hc] at h1;exact absurd rfl h1
 ·rename_i hc;rw[aV hc];split at h
  ·cases h
  ·rename_i Gu;rw[aV Gu]
   simpa using h
theorem XH {ps:ca} (hv:ip ps=0):Good (bm ps):=by
 refine ⟨xO (qH hv),λr hr=>?_⟩
 have S:=(o9.1 hv).2;obtain ⟨P,s,c1,f1,rfl⟩:=(zN hv r).1 hr;unfold rowAt;split
 ·rename_i hf;obtain ⟨a1,a2⟩:=S.stub P s c1 hf;exact Th (S.read _ _ a1) (by rw[a2];decide)
 ·rename_i hf;exact Th (S.read _ _ c1) hf
theorem XI {ps:ca} (hv:ip ps=0) {c:Change} (hc:nC c=0) (h0:(kW ps c).1=0):ip (kW ps c).2.2.1=0/\bm (kW ps c).2.2.1=ry (bm ps) c:=by
 have V:=qH hv;have hu:=xO V;have hdu:up (ry (bm ps) c):=(Az (XH hv) hc).up
 have fin:∀ {w:a_},ip w.1=0->(∀ r',r' ∈ bm w.1↔(r' ∈ bm ps/\rk r'≠ck c)\/(c.2.2.1=true/\r'=c.2.2.2.1))->ip w.1=0/\bm w.1=ry (bm ps) c:=λ{w} h1 h2=>
  ⟨h1,abe (xO (qH h1)) hdu λr'=>by rw[h2,Zp hu]⟩
 unfold kW at h0 ⊢;rw[aM hv,aM hc] at h0 ⊢;have oh:=Hc V (ck c).1 (ck c).2
 cases hx:vn ps (ck c).1 (ck c).2 with
 | none=>
  rw[hx] at oh h0;simp only at oh h0 ⊢
  cases hw:c.1 with
  | true=>rw[hw] at h0;exact absurd h0 (show ¬ (8:Int)=0 by decide)
  | false=>
   rw[hw] at h0;simp only[aF,aS] at h0 ⊢;have hi:=H_ (ps:=[]) (λp hp=>by cases hp) hc hw;have hr:=(td hc).2 hi;have hk:=(td hc).1 hi
   have hn:vn ps c.2.2.2.1.1 c.2.2.2.1.2.1=none:=by
    have:rk c.2.2.2.1=((ck c).1,(ck c).2):=hk;unfold rk at this;injection this with e1 e2;rw[e1,e2];exact hx
   obtain ⟨v1,v2⟩:=XG hv hr hn h0;rw[(Bs h0).2];refine fin v1 λr'=>?_;rw[v2];constructor
   ·rintro (h | h)
    ·refine .inl ⟨h,λhe=>?_⟩;obtain ⟨i,hi2,OP⟩:=cX h;have:=(Ea hu hi2 (k:=ck c) (by rw[OP];exact he)).1;rw[show ck c=((ck c).1,(ck c).2) from rfl,oh] at this;cases this
    ·exact .inr ⟨hi,h⟩
   ·rintro (h | h)
    ·exact .inl h.1
    ·exact .inr h.2
 | some x=>
  have hm:=cT hx;rw[hx] at oh h0;obtain ⟨f1,f2,f3,f4⟩:=oh;simp only at h0 ⊢;have f4':rk (gr x)=ck c:=f4
  cases hb:(c.1&&Ty.eq aT (gr x) c.2.1) with
  | false=>rw[hb] at h0;exact absurd h0 (show ¬ (8:Int)=0 by decide)
  | true=>
   rw[hb] at h0;simp only[aH] at h0 ⊢
   cases hi:c.2.2.1 with
   | true=>
    rw[hi] at h0;simp only[aH] at h0 ⊢;have hr:=(td hc).2 hi;have hk:=(td hc).1 hi
    rcases XF hv hm hr (by rw[f4',hk]) with e | ⟨w,e,ok,v1,v2⟩
    ·rw[e] at h0;exact absurd h0 (show ¬ (9:Int)=0 by decide)
    ·rw[e];refine fin v1 λr'=>?_;rw[v2,hk];simp only[hi,dN]
   | false=>
    rw[hi] at h0;simp only[aF,aS] at h0 ⊢;obtain ⟨w,e,ok,v1,v2⟩:=Zs hv hm;rw[e];refine fin v1 λr'=>?_;rw[v2,f4'];simp only[hi,aF,iH,or_false]
end OT
namespace OT
open Go
def nV (ps:ca) (e:rE):ca:=if e.1.toNat=ps.length then ps++[e.2.1] else ps.set e.1.toNat e.2.1
def IG (ps:ca) (es:List rE):ca:=es.foldl nV ps
theorem abf (ps:ca) (es:List rE) (e:rE):IG ps (es++[e])=nV (IG ps es) e:=by
 grind [IG]
def Me (ps:ca) (e:rE):Prop:=List.length e.2.1=64/\0<=e.1/\e.1<=(ps.length:Int)/\e.1 < 12
def Bt:ca->List rE->Prop
 | _,[]=>True
 | ps,e::es=>Me ps e/\Bt (nV ps e) es
theorem M8 {ps:ca}:∀ {es:List rE} {e:rE},Bt ps es->Me (IG ps es) e->Bt ps (es++[e])
 | [],e,_,h=>⟨h,trivial⟩
 | x::es,e,h,h2=>⟨h.1,M8 (ps:=nV ps x) h.2 h2⟩
theorem abg {ps:ca} {P:Nat} {b:List UInt8} (h:lP (nV ps ((P:Int),b,()))) (hP:P<=ps.length):Me ps ((P:Int),b,()):=by
 have hm:b ∈ nV ps ((P:Int),b,())/\P < (nV ps ((P:Int),b,())).length:=by
  grind [nV,List.mem_set]
 have zt:=h.1;exact ⟨(h.2 b hm.1).len,by grind,by grind,by grind⟩
def acw (ps:ca) (es:List rE) (B:Nat->List Row):Prop:=∀ j,j<=es.length->ip (IG ps (es.take j))=0/\bm (IG ps (es.take j))=B j
structure aex (ps:ca) (w:a_) (B0:List Row):Prop where
 at_:IG ps w.2.1=w.1
 ed:Bt ps w.2.1
 way:acw ps w.2.1 λ_=>B0
structure aet (ps:ca) (w:a_) (B0 B1:List Row):Prop where
 at_:IG ps w.2.1=w.1
 ed:Bt ps w.2.1
 way:∃ m,m<=List.length w.2.1/\acw ps w.2.1 λj=>if j < m then B0 else B1
theorem Vk {w:a_} {P:Nat} (hP:P<=List.length w.1) (b:List UInt8):ov w P b=w\/((ov w P b).2.1=w.2.1++[((P:Int),b,())]/\(ov w P b).1=nV w.1 ((P:Int),b,())):=by
 grind [ov,nV]
end OT
namespace OT
open Go
structure Lk (ps:ca) (w:a_):Prop where
 at_:IG ps w.2.1=w.1
 ed:Bt ps w.2.1
section
variable {ps:ca} {w:a_} {n:Nat}
theorem Lk.AM (h:Lk ps w) {P:Nat} {b:List UInt8} {m:Nat} (ho:okW (ov w P b) m) (hP:P<=List.length w.1):Lk ps (ov w P b):=by
 rcases Vk hP b with e | ⟨e1,e2⟩
 ·rw[e];exact h
 ·refine ⟨by rw[e1,abf,h.at_,e2],?_⟩
  rw[e1];exact M8 h.ed (by rw[h.at_];exact abg (by rw[<-e2];exact ho.jy) hP)
theorem Lk.comp (h:Lk ps w) (ho:okW w n) {P:Nat} (hP:P < List.length w.1):Lk ps (oL w P):=h.AM (xP ho hP) (eO hP)
theorem Lk.tP (h:Lk ps w) (ho:okW w n) {P:Nat} (hP:P < List.length w.1) {c:List UInt8} (hc:1<=c.length):Lk ps (tP w P c).2:=by
 have R:=(CD ho hP hc).ok;have hk:=h.comp ho hP;unfold OT.tP at R ⊢;by_cases h8:mR (ii w.1 P) c=8
 ·rw[aM h8] at R ⊢;by_cases h0:mR (mS (ii w.1 P)) c=0
  ·rw[aM h0] at R ⊢;exact hk.AM R (by rw[uV hP];omega)
  ·rw[aV h0];exact hk
 ·rw[aV h8] at R ⊢;by_cases h0:mR (ii w.1 P) c=0
  ·rw[aM h0] at R ⊢;exact h.AM R (eO hP)
  ·rw[aV h0];exact h
theorem Lk.lz (h:Lk ps w) (ho:okW w n) {P s:Nat} (jt:bu w.1 P s≠[]) {c:List UInt8} (hc:1<=c.length):Lk ps (lz w P s c).2:=by
 have R:=(rM ho jt hc).ok;have hP:=(vG ho.jy jt).1;have hk:=h.comp ho hP;unfold OT.lz at R ⊢;by_cases h8:sK (ii w.1 P) s c=8
 ·rw[aM h8] at R ⊢;by_cases h0:sK (mS (ii w.1 P)) s c=0
  ·rw[aM h0] at R ⊢;exact hk.AM R (by rw[uV hP];omega)
  ·rw[aV h0];exact hk
 ·rw[aV h8] at R ⊢;by_cases h0:sK (ii w.1 P) s c=0
  ·rw[aM h0] at R ⊢;exact h.AM R (eO hP)
  ·rw[aV h0];exact h
theorem Lk.lQ (h:Lk ps w) (ho:okW w n) {P s:Nat} (jt:bu w.1 P s≠[]):Lk ps (lQ w P s):=h.AM (sn ho jt).1 (eO (vG ho.jy jt).1)
end
theorem Lk.k_ {ps:ca} {c:List UInt8} (hc:1<=c.length) (no:Int):∀ (l:List Nat) (w:a_) (n:Nat),Lk ps w->okW w n->(∀ P ∈ l,P < List.length w.1)->Lk ps (k_ c no l w).2
 | [],w,n,h,_,_=>h
 | P::l,w,n,h,ho,hl=>by
  unfold OT.k_;split
  ·exact Lk.k_ hc no l w n h ho λQ hQ=>hl Q (bD _ hQ)
  ·have hP:=hl P bV;have R:=CD ho hP hc;have hk:=h.tP ho hP hc;split
   ·exact hk
   ·exact Lk.k_ hc no l _ _ hk R.ok λQ hQ=>by rw[R.len];exact hl Q (bD _ hQ)
section
variable {ps:ca} {w:a_} {n:Nat}
theorem Lk.nU (h:Lk ps w) (ho:okW w n) {c:List UInt8} (lY:1<=c.length) (hc:c.length<=20) (no:Int):Lk ps (nU w no c).2:=by
 have R:=(uW ho lY hc no).ok;have G:=wX lY no (List.range (List.length w.1)) w n ho λP hP=>cD.1 hP;have hk:=Lk.k_ lY no (List.range (List.length w.1)) w n h ho λP hP=>cD.1 hP;unfold OT.nU at R ⊢
 cases hr:(OT.k_ c no (List.range (List.length w.1)) w).1 with
 | some a=>exact hk
 | none=>
  rw[hr] at R;simp only at R ⊢;by_cases zt:12<=List.length w.1
  ·rw[aM zt];exact hk
  ·rw[aV zt] at R ⊢;exact hk.AM R (by rw[(G.no hr).1];omega)
theorem Lk.qc (h:Lk ps w) (ho:okW w n) {P s A B:Nat} (h1:bu w.1 P s≠[]) (h2:bu w.1 A B≠[]) (mv:Bool) {r:Row} (hr:jb r=0):Lk ps (qc w P s A B mv r).2:=by
 have R1:=rM ho h2 (ji (f:=bif mv then 2 else 0) hr).1;have L1:=h.lz ho h2 (ji (f:=bif mv then 2 else 0) hr).1;have R2:=uW R1.ok (ji (f:=2) hr).1 (by have:=(ji (f:=2) hr).2;omega) (A:Int);have L2:=L1.nU R1.ok (ji (f:=2) hr).1 (by have:=(ji (f:=2) hr).2;omega) (A:Int);unfold OT.qc;split
 ·exact L1
 ·split
  ·exact L2
  ·rename_i a ha;have k1:=uL R2 (oC R1 h1 jX) jX;have k2:=uL R2 (oC R1 h2 jX) jX;have R3:=rM R2.ok k1 (c:=kN a.1 a.2) (by rw[ri];omega);have L3:=L2.lz R2.ok k1 (c:=kN a.1 a.2) (by rw[ri];omega)
   cases mv with
   | false=>exact L3
   | true=>exact L3.lQ R3.ok (oC R3 k2 (by unfold kN;simp))
end
theorem Lk.start {ps:ca}:Lk ps (eu ps):=⟨rfl,trivial⟩
theorem Mf {ps:ca} (hv:ip ps=0) {c:Change} (hc:nC c=0) (h0:(kW ps c).1=0):∃ w:a_,kW ps c=((0:Int),w.2.1,w.1,())/\okW w 40/\Lk ps w:=by
 obtain ⟨hR,S⟩:=o9.1 hv;have ho:=rN hR;have hL:Lk ps (eu ps):=Lk.start;unfold kW at h0 ⊢;rw[aM hv,aM hc] at h0 ⊢
 cases hx:vn ps (ck c).1 (ck c).2 with
 | none=>
  rw[hx] at h0;simp only at h0 ⊢
  cases hw:c.1 with
  | true=>rw[hw] at h0;exact absurd h0 (show ¬ (8:Int)=0 by decide)
  | false=>
   rw[hw] at h0;simp only[aF,aS] at h0 ⊢;have hr:=(td hc).2 (H_ (ps:=[]) (λp hp=>by cases hp) hc hw);have hk:=hL.nU ho (ji (f:=0) hr).1 (by have:=(ji (f:=0) hr).2;omega) (-1);rw[(Bs h0).2];exact ⟨_,rfl,(Tg ho hr).ok.mono Bys,hk⟩
 | some x=>
  have hm:=cT hx;obtain ⟨P,s,c1,c2,x1,x2,x3,x4,x5,x6⟩:=Mc hv hm;rw[hx] at h0;simp only at h0 ⊢
  cases hb:(c.1&&Ty.eq aT (gr x) c.2.1) with
  | false=>rw[hb] at h0;exact absurd h0 (show ¬ (8:Int)=0 by decide)
  | true=>
   rw[hb] at h0;simp only[aH] at h0 ⊢
   cases hi:c.2.2.1 with
   | true=>
    rw[hi] at h0;simp only[aH] at h0 ⊢;have hr:=(td hc).2 hi;unfold DK at h0 ⊢;by_cases he:Ty.eq aT (gr x) c.2.2.2.1=true
    ·rw[aM he];exact ⟨_,rfl,ho.mono Bys,hL⟩
    ·rw[aV he] at h0 ⊢;rw[(Bs h0).2];by_cases hf:gm (bu ps P s)=1
     ·obtain ⟨a1,a2⟩:=S.stub P s c1 hf;rw[x3,aM hf,aM hf,x1,x2,x4,x5,aX hf,aC,aC,aC,aC];exact ⟨_,rfl,(H9 ho Bys c1 a1 true hr).mono Bys,hL.qc ho c1 a1 true hr⟩
     ·rw[x3,aV hf,aV hf,x1,x2,bA hf,aC,aC];exact ⟨_,rfl,(H9 ho Bys c1 c1 false hr).mono Bys,hL.qc ho c1 c1 false hr⟩
   | false=>
    simp only[aF,aS];obtain ⟨d1,d2,d3⟩:=sn ho c1;have L1:=hL.lQ ho c1;unfold Hj;rw[x1,x2,x4,x5,aC,aC,aC,aC,x3];by_cases hf:gm (bu ps P s)=1
    ·rw[aM hf];obtain ⟨a1,a2⟩:=S.stub P s c1 hf
     have ne:¬ (oz (bu ps P s)=P/\oA (bu ps P s)=s):=λhe=>by
      rw[he.1,he.2] at a2;exact c2 a2
     have k1:bu (lQ (eu ps) P s).1 (oz (bu ps P s)) (oA (bu ps P s))≠[]:=by rw[d3,aV ne];exact a1
     exact ⟨_,rfl,(sn d1 k1).1.mono Bys,L1.lQ d1 k1⟩
    ·rw[aV hf];exact ⟨_,rfl,d1.mono Bys,L1⟩
end OT
namespace OT
open Go
def ux (x:cr):List UInt8:=UInt8.ofInt x.1::UInt8.ofInt (List.length x.2.1:Int)::x.2.1
def kV (xs:List cr):List UInt8:=xs.flatMap ux
def vq (r:bk):List UInt8:=[(0:UInt8),UInt8.ofInt r.1,UInt8.ofInt r.2.1,UInt8.ofInt r.2.2.1,UInt8.ofInt (List.length r.2.2.2.1:Int)]
def xQ (s:Int) (l:List UInt8):Int:=l.foldl (λs c=>(s*31+(c.toNat:Int)) % 65521) s
def P_ (r:bk):List UInt8:=(vq r++kV r.2.2.2.1).set 0 (UInt8.ofInt (af (((vq r++kV r.2.2.2.1).length:Int)+2)))
def tR (r:bk):List UInt8:=P_ r++[UInt8.ofInt ((xQ 1 (P_ r)) / 256),UInt8.ofInt (xQ 1 (P_ r))]
def wC (r:bk):Prop:=List.length r.2.2.2.1<=64/\∀ x ∈ r.2.2.2.1,List.length x.2.1<=64
theorem Qa {r:bk} (h:wx r=0):wC r:=by
 have:=x_ h;refine ⟨this.2.2.2.2.2.2.1,λx hx=>?_⟩
 have h2:=this.2.2.2.2.2.2.2 x hx;unfold bl at h2;omega
theorem Hk (xs ys:List cr):kV (xs++ys)=kV xs++kV ys:=eP
theorem zh (x:cr) (xs:List cr):kV (x::xs)=ux x++kV xs:=eN
theorem Hl {xs:List cr} (h:∀ x ∈ xs,List.length x.2.1<=64):(kV xs).length<=66*xs.length:=by
 induction xs with
 | nil=>simp[kV]
 | cons x xs ih=>
  have h1:=ih λy hy=>h y (by simp[hy]);have h2:=h x (by simp);rw[zh];simp only[cB,bE,ux];omega
theorem abh (r:bk):(P_ r).length=5+(kV r.2.2.2.1).length:=by simp[P_,vq];omega
theorem M9 (r:bk):(tR r).length=7+(kV r.2.2.2.1).length:=by
 simp only[tR,cB,abh,bE,cA];omega
theorem DL {r:bk} (h:wC r):(tR r).length<=5000:=by
 rw[M9];have:=Hl h.2;have:=h.1;omega
theorem Ti:∀ (l:List UInt8) (s:Int),0<=s/\s < 65521->0<=xQ s l/\xQ s l < 65521
 | [],s,h=>h
 | c::l,s,h=>Ti l ((s*31+(c.toNat:Int)) % 65521) ⟨Int.emod_nonneg _ Bys,Int.emod_lt_of_pos _ Bys⟩
theorem XJ {s:Int} (h:0<=s):UInt8.ofInt (s.tmod 256)=UInt8.ofInt s:=by
 rw[gK h];apply UInt8.toBitVec_inj.1;apply BitVec.eq_of_toNat_eq;simp[UInt8.ofInt,fM]
theorem Hm:∀ (xs:List cr) (s:List UInt8),xs.foldl (λs x=>s++ux x) s=s++kV xs
 | [],s=>by simp[kV]
 | x::xs,s=>by rw[eW,Hm,zh,bK]
theorem Qb {s:Int} {c:UInt8} (h:0<=s/\s < 65521):((af ((af (s*(31:Int)))+(af (c.toNat:Int)))).tmod (65521:Int))=(s*31+(c.toNat:Int)) % 65521:=by
 have hc:=c.toNat_lt;have e1:af (s*31)=s*31:=be Bys;have e2:af (c.toNat:Int)=(c.toNat:Int):=be Bys;have e3:af (s*31+(c.toNat:Int))=s*31+(c.toNat:Int):=be Bys;rw[e1,e2,e3,gK Bys]
theorem Vl (l:List UInt8) (h:l.length<=100000):ns.ab (l,())=some (xQ 1 l,()):=by
 refine ag (k:=100001) λk hk=>(ns.ae k _).trans ?_
 have:=cz (B:=λself v=>ns.b0 self (λz=>ns.q0 (l,()) z) (l,()) v) l (λ(s:Int) (i:Int)=>(s,i)) (λ_ s c=>.inr ((s*31+(c.toNat:Int)) % 65521)) (λs=>(s,())) (λ_ s=>0<=s/\s < 65521) (by rw[an];omega)
  (λi hi s self hI=>by
   show ns.b0 _ _ _ _=_;unfold ns.b0;have a8:(i:Int) < (l.length:Int):=by omega
   simp only[a8,aJ,aO,aK,aH,aC,aB hi,aA,Qb hI])
  (λi hi s s' hI hs=>by injection hs with hs;omega) (λs self _=>by
   show ns.b0 _ _ _ _=_;unfold ns.b0
   simp[ns.q0,ns.q0]) 1 Bys k Bys
 rw[iv] at this;exact this
theorem IH (r:bk) (h:wC r):jZ.ab (r,())=some (tR r,()):=by
 obtain ⟨K,T,P,xs,⟨⟩⟩:=r;obtain ⟨h1,h2⟩:=h;simp only at h1 h2;refine ag (k:=100) λk hk=>(jZ.ae k _).trans ?_
 have hlen:∀ i,(kV (xs.take i)).length<=66*64:=λi=>by
  have:=Hl (xs:=xs.take i) (λx hx=>h2 x (dG hx));have:(xs.take i).length<=xs.length:=by simp;omega
  omega
 have:=cz (B:=λself v=>jZ.b0 self (λz=>jZ.q0 ((K,T,P,xs,()),()) z) ((K,T,P,xs,()),()) v) xs (λ(s:List UInt8) (i:Int)=>(s,i)) (λ_ s x=>.inr (s++ux x)) (λs=>(let q:=s.set 0 (UInt8.ofInt (af ((s.length:Int)+2)));(q++[UInt8.ofInt ((xQ 1 q) / 256),UInt8.ofInt (xQ 1 q)],())))
  (λi s=>s=vq (K,T,P,xs,())++kV (xs.take i)) (by rw[an];omega)
  (λi hi s self hI=>by
   show jZ.b0 _ _ _ _=_;unfold jZ.b0;have a8:(i:Int) < (xs.length:Int):=by omega
   have hs:s.length<=5000:=by rw[hI];have:=hlen i;simp only[cB,vq,bE,cA];omega
   have hx:=h2 xs[i] (aN hi);simp only[a8,aJ,aO,aK,aH,aC,aB hi,aA];generalize xs[i]=x at hx;have c1:s.length+[UInt8.ofInt x.1,UInt8.ofInt (List.length x.2.1:Int)].length<=ct:=dc (by simp only[bE,cA];omega);have c2:(s++[UInt8.ofInt x.1,UInt8.ofInt (List.length x.2.1:Int)]).length+List.length x.2.1<=ct:=dc (by simp only[cB,bE,cA];omega)
   simp only[c1,c2,aH,ux,bK,dA,cG])
  (λi hi s s' hI hs=>by
   injection hs with hs;rw[<-hs,hI,dV hi,Hk,bK]
   simp[kV]) (λs self hI=>by
   show jZ.b0 _ _ _ _=_;unfold jZ.b0;have hs:5<=s.length/\s.length<=5000:=by rw[hI];have:=hlen xs.length;simp only[cB,vq,bE,cA];omega
   simp only[aU,aG,aE,jZ.q0,jZ.q0]
   have c0:(0:Int)<=0/\(0:Int) < (s.length:Int):=⟨by omega,by omega⟩
   rw[aM c0,aB (by omega:0 < s.length)];simp only[aA];generalize hq:s.set 0 (UInt8.ofInt (af ((s.length:Int)+2)))=q;have hql:q.length=s.length:=by rw[<-hq];simp
   rw[Vl q Bys];simp only[aA];have hb:=Ti q 1 Bys;have c1:q.length+[UInt8.ofInt (af ((xQ 1 q).tdiv 256)),UInt8.ofInt ((xQ 1 q).tmod 256)].length<=ct:=dc (by simp only[bE,cA];omega)
   rw[aM c1,XJ hb.1,Int.tdiv_eq_ediv_of_nonneg hb.1,be Bys]) (vq (K,T,P,xs,())) (by simp[kV]) k Bys
 rw[iv,Hm] at this;exact this
theorem II (r:bk) (h:wC r):f5.ab (r,())=some (tR r,()):=by
 obtain ⟨K,T,P,xs,⟨⟩⟩:=r;obtain ⟨h1,h2⟩:=h;simp only at h1 h2;refine ag (k:=6000) λk hk=>(f5.ae k _).trans ?_
 have hlen:∀ i,(kV (xs.take i)).length<=66*64:=λi=>by
  have:=Hl (xs:=xs.take i) (λx hx=>h2 x (dG hx));have:(xs.take i).length<=xs.length:=by simp;omega
  omega
 have aen:∀ q:List UInt8,q.length<=5000->f5.r1 k ((K,T,P,xs,()),()) q (q.length:Int) (1,0)=some (q++[UInt8.ofInt ((xQ 1 q) / 256),UInt8.ofInt (xQ 1 q)],()):=λq hq=>by
  have:=cz (B:=λself v=>f5.b1 self (λz=>f5.q1 ((K,T,P,xs,()),()) q (q.length:Int) z) ((K,T,P,xs,()),()) q (q.length:Int) v) q (λ(s:Int) (i:Int)=>(s,i)) (λ_ s c=>.inr ((s*31+(c.toNat:Int)) % 65521)) (λs=>(q++[UInt8.ofInt (s / 256),UInt8.ofInt s],())) (λ_ s=>0<=s/\s < 65521) (by rw[an];omega)
   (λi hi s self hI=>by
    show f5.b1 _ _ _ _ _ _=_;unfold f5.b1;have a8:(i:Int) < (q.length:Int):=by omega
    have O9:(0:Int)<=(i:Int)/\(i:Int) < (q.length:Int):=by omega
    simp only[a8,O9,bS,aJ,aO,aK,aH,aC,aB hi,aA,Qb hI])
   (λi hi s s' hI hs=>by injection hs with hs;omega) (λs self hI=>by
    show f5.b1 _ _ _ _ _ _=_;unfold f5.b1;simp only[aU,aG,aE,f5.q1,f5.q1];have c1:q.length+[UInt8.ofInt (s.fdiv (2 ^ 8)),UInt8.ofInt s].length<=ct:=dc (by simp only[bE,cA];omega);rw[aM c1,gI s (by omega:(0:Int)<=2 ^ 8)]
    rfl) 1 Bys k Bys
  rw[iv] at this;exact this
 have:=cz (B:=λself v=>f5.b0 self (λz=>f5.Q0 k ((K,T,P,xs,()),()) z) ((K,T,P,xs,()),()) v) xs (λ(s:List UInt8) (i:Int)=>(s,i)) (λ_ s x=>.inr (s++ux x)) (λs=>(let q:=s.set 0 (UInt8.ofInt (af ((s.length:Int)+2)));(q++[UInt8.ofInt ((xQ 1 q) / 256),UInt8.ofInt (xQ 1 q)],())))
  (λi s=>s=vq (K,T,P,xs,())++kV (xs.take i)) (by rw[an];omega)
  (λi hi s self hI=>by
   show f5.b0 _ _ _ _=_;unfold f5.b0;have a8:(i:Int) < (xs.length:Int):=by omega
   have hs:s.length<=5000:=by rw[hI];have:=hlen i;simp only[cB,vq,bE,cA];omega
   have hx:=h2 xs[i] (aN hi);simp only[a8,aJ,aO,aK,aH,aC,aB hi,aA];generalize xs[i]=x at hx;have c1:s.length+[UInt8.ofInt x.1,UInt8.ofInt (List.length x.2.1:Int)].length<=ct:=dc (by simp only[bE,cA];omega);have c2:(s++[UInt8.ofInt x.1,UInt8.ofInt (List.length x.2.1:Int)]).length+List.length x.2.1<=ct:=dc (by simp only[cB,bE,cA];omega)
   simp only[c1,c2,aH,ux,bK,dA,cG])
  (λi hi s s' hI hs=>by
   injection hs with hs;rw[<-hs,hI,dV hi,Hk,bK]
   simp[kV]) (λs self hI=>by
   show f5.b0 _ _ _ _=_;unfold f5.b0;have hs:5<=s.length/\s.length<=5000:=by rw[hI];have:=hlen xs.length;simp only[cB,vq,bE,cA];omega
   simp only[aU,aG,aE,f5.Q0,f5.q0]
   have c0:(0:Int)<=0/\(0:Int) < (s.length:Int):=⟨by omega,by omega⟩
   rw[aM c0,aB (by omega:0 < s.length)];simp only[aA];generalize hq:s.set 0 (UInt8.ofInt (af ((s.length:Int)+2)))=q;have hql:q.length=s.length:=by rw[<-hq];simp
   exact aen q Bys) (vq (K,T,P,xs,())) (by simp[kV]) k Bys
 rw[iv,Hm] at this;exact this
end OT
namespace OT
open Go
def c9 (D:List UInt8) (i:Nat):Nat:=(D.getD i 0).toNat
theorem rQ (D:List UInt8) (i:Nat):c9 D i < 256:=iA _
theorem rB {D:List UInt8} {i:Nat} (h:i < D.length):D[i]?=some D[i]/\(D[i]).toNat=c9 D i:=⟨aB h,by simp[c9,h]⟩
def piece (D:List UInt8) (at' n:Nat):cr:=((c9 D at':Int),(D.take (at'+2+n)).drop (at'+2),())
def pI (D:List UInt8) (e:Nat):Nat->Nat->List cr->Option (List cr×Nat)
 | 0,a,rs=>some (rs,a)
 | c+1,a,rs=>if e < a+2 then none else if e < a+2+c9 D (a+1) then none else pI D e c (a+2+c9 D (a+1)) (rs++[piece D a (c9 D (a+1))])
def pS (D:List UInt8):Nat->Nat->List cr->List cr
 | 0,_,rs=>rs
 | c+1,a,rs=>if a+2<=D.length then (if D.length < a+2+c9 D (a+1) then rs else pS D c (a+2+c9 D (a+1)) (rs++[piece D a (c9 D (a+1))])) else rs
theorem Vm {D:List UInt8} {e:Nat} (he:e<=D.length):∀ (c a:Nat) (rs M_:List cr) (a':Nat),pI D e c a rs=some (M_,a')->pS D c a rs=M_
 | 0,a,rs,M_,a',h=>by injection h with h;injection h
 | c+1,a,rs,M_,a',h=>by
  simp only[pI] at h;split at h
  ·cases h
  ·split at h
   ·cases h
   ·simp only[pS];rw[aM Bys,aV Bys];exact Vm he c _ _ _ _ h
theorem Tj {e:Nat}:∀ (ys:List cr) (pre Dk:List UInt8) (rs:List cr),(∀ y ∈ ys,0<=y.1/\y.1<=63/\1<=bl y/\bl y<=64)->pre.length+(kV ys).length<=e ->
  pI (pre++kV ys++Dk) e ys.length pre.length rs=some (rs++ys,pre.length+(kV ys).length)
 | [],pre,Dk,rs,_,_=>by simp[pI,kV]
 | y::ys,pre,Dk,rs,h,he=>by
  obtain ⟨b1,b2,b3,b4⟩:=h y (by simp);unfold bl at b3 b4;have hD:pre++kV (y::ys)++Dk=(pre++ux y)++kV ys++Dk:=by grind [zh]
  have hf1:(ux y).length=2+List.length y.2.1:=by grind [ux]
  have DY:(kV (y::ys)).length=2+List.length y.2.1+(kV ys).length:=by grind [List.length_append]
  have h8:∀ n:Int,0<=n->n<=64->((UInt8.ofInt n).toNat:Int)=n:=λn h1 h2=>by
   simp[UInt8.ofInt,fM];omega
  have g0:(c9 (pre++kV (y::ys)++Dk) pre.length:Int)=y.1:=by
   grind [c9,ux]
  have g1:c9 (pre++kV (y::ys)++Dk) (pre.length+1)=List.length y.2.1:=by
   unfold c9;grind [zh,ux,Nat.add_sub_cancel_left]
  have g2:piece (pre++kV (y::ys)++Dk) pre.length (List.length y.2.1)=y:=by
   obtain ⟨yi,yb,⟨⟩⟩:=y;unfold piece;have g0:(c9 (pre++kV ((yi,yb,())::ys)++Dk) pre.length:Int)=yi:=g0;rw[g0]
   have:((pre++kV ((yi,yb,())::ys)++Dk).take (pre.length+2+yb.length)).drop (pre.length+2)=yb:=by
    rw[zh];simp only[ux,bK,dA];rw[List.take_append,List.drop_append];have e1:List.take (pre.length+2+yb.length) pre=pre:=List.take_of_length_le Bys;have e2:pre.length+2+yb.length - pre.length=yb.length+1+1:=by omega
    simp_all
   grind
  simp only[bE,pI];rw[aV Bys,g1,aV Bys,g2,hD];have hl:(pre++ux y).length=pre.length+2+List.length y.2.1:=by grind
  have:=Tj (e:=e) ys (pre++ux y) Dk (rs++[y]) (λz hz=>h z (by simp[hz])) (by rw[hl];omega);grind
def uy (d:List UInt8):Option (bk×Nat):=
 if d.length < 7\/c9 d 0 < 7\/d.length < c9 d 0 then none else
 match pI (d.take (c9 d 0)) (c9 d 0 - 2) (c9 d 4) 5 [] with
 | none=>none
 | some (rs,a)=>if a=c9 d 0 - 2/\wx ((c9 d 1:Int),(c9 d 2:Int),(c9 d 3:Int),rs,())=0/\tR ((c9 d 1:Int),(c9 d 2:Int),(c9 d 3:Int),rs,())=d.take (c9 d 0) then
   some (((c9 d 1:Int),(c9 d 2:Int),(c9 d 3:Int),rs,()),c9 d 0) else none
theorem Qc {d:List UInt8} {n i:Nat} (h:i < n) (hn:n<=d.length):c9 (d.take n) i=c9 d i:=by
 grind [c9]
theorem adz {D:List UInt8} (hl:7<=D.length) {rs:List cr} (Qd:pS D (c9 D 4) 5 []=rs) {k t p:Int} (hr:wx (k,t,p,rs,())=0) (hp:tR (k,t,p,rs,())=D):pI D (D.length - 2) (c9 D 4) 5 []=some (rs,D.length - 2):=by
 have hg:=x_ hr;have h1:=hg.2.2.2.2.2.2.1;have h2:=hg.2.2.2.2.2.2.2;simp only at h1 h2;have hlen:=M9 (k,t,p,rs,());rw[hp] at hlen;simp only at hlen
 have acx:∃ (pre Dk:List UInt8),pre.length=5/\D=pre++kV rs++Dk/\pre[4]?=some (UInt8.ofInt (List.length rs:Int)):=by
  refine ⟨(vq (k,t,p,rs,())).set 0 (UInt8.ofInt (af (((vq (k,t,p,rs,())++kV rs).length:Int)+2))),[UInt8.ofInt ((xQ 1 (P_ (k,t,p,rs,()))) / 256),UInt8.ofInt (xQ 1 (P_ (k,t,p,rs,())))],by simp[vq],?_,by simp[vq]⟩
  rw[<-hp];rfl
 obtain ⟨pre,Dk,s1,s2,s3⟩:=acx
 have h4:c9 D 4=List.length rs:=by
  unfold c9;rw[s2];simp only[cI,bK];rw[cS Bys,s3];simp[UInt8.ofInt,fM];omega
 grind [Tj]
theorem qJ {n:Nat} (h:n<=4000000000):af (n:Int)=(n:Int):=be Bys
theorem Qe (a b:List UInt8) (h:a.length<=100000):fl.ab (a,b,())=some (decide (a=b),()):=by
 refine ag (k:=100001) λk hk=>(fl.ae k _).trans ?_;unfold fl.p;by_cases hl:a.length=b.length;rotate_left
 ·have h1:¬ ((a.length:Int)=(b.length:Int)):=by omega
  have h2:¬ a=b:=λe=>hl (by rw[e]);grind
 have xZ:(a.length:Int)=(b.length:Int):=by omega
 simp only[xZ,aJ,aR,aE]
 have key:∀ (m i:Nat),a.length - i=m->i<=a.length->∀ j,m < j->am (λself v=>fl.B0 k self (λz=>fl.Q0 k (a,b,()) z) (a,b,()) v) j (i:Int)=some (decide (a.drop i=b.drop i),()):=by
  intro m
  induction m with
  | zero=>
   intro i hm hi j hj;have:i=a.length:=by omega
   subst this
   cases j with
   | zero=>omega
   | succ j=>
    show fl.b0 _ _ _ _=_;grind [fl.b0,fl.q0]
  | succ m ih=>
   intro i hm hi j hj;have a8:i < a.length:=by omega
   cases j with
   | zero=>omega
   | succ j=>
    show fl.b0 _ _ _ _=_;unfold fl.b0;have aeo:(i:Int) < (a.length:Int):=by omega
    have hlb:i < b.length:=by omega
    have hw:af ((i:Int)+1)=((i+1:Nat):Int):=by grind [be]
    simp only[aeo,aJ,aO,aK,aH,aC,aB a8,aB hlb,aA,hw];rw[cE a8,cE hlb];by_cases he:a[i]=b[i]
    ·grind [List.cons.injEq]
    ·have:¬ (((a[i]).toNat:Int)=((b[i]).toNat:Int)):=λe=>he (fI.1 Bys);have h2:¬ (a[i]::a.drop (i+1)=b[i]::b.drop (i+1)):=λe=>he (by injection e);grind
 have:=key a.length 0 Bys Bys k Bys;simp only[dM] at this;exact this
def Vn:bk:=((0:Int),(0:Int),(0:Int),([]:List cr),())
theorem XK {D:List UInt8} (hD:7<=D.length) (hD2:D.length<=255) {a1:mH.A} {e0:(bk×Int)->Option mH.O} {K T P N:Int} (hN:0<=N/\N<=255) {k:Nat} :
  ∀ (c a i:Nat) (rs:List cr),(i:Int)+c=N->a<=D.length - 2->rs.length<=i->∀ j,c < j ->
   am (λself v=>mH.B0 k self e0 a1 D ((D.length - 2:Nat):Int) N v) j ((K,T,P,rs,()),(a:Int),(i:Int))=match pI D (D.length - 2) c a rs with
    | none=>some (Vn,(0:Int),())
    | some (M_,a')=>e0 ((K,T,P,M_,()),(a':Int)):=by
 intro c
 induction c with
 | zero=>
  intro a i rs hi ha Qd j hj
  cases j with
  | zero=>omega
  | succ j=>
   show mH.b0 _ _ a1 _ _ _ _=_;grind [mH.b0,pI]
 | succ c ih=>
  intro a i rs hi ha Qd j hj
  cases j with
  | zero=>omega
  | succ j=>
   show mH.b0 _ _ a1 _ _ _ _=_;unfold mH.b0;have h1:(i:Int) < N:=by omega
   have e1:af ((a:Int)+2)=((a+2:Nat):Int):=by grind [be]
   have e2:af ((a:Int)+1)=((a+1:Nat):Int):=by grind [be]
   have e3:af ((i:Int)+1)=((i+1:Nat):Int):=by grind [be]
   simp only[h1,aJ,aO,e1,e2,e3,pI];by_cases h2:D.length - 2 < a+2
   ·have:((D.length - 2:Nat):Int) < ((a+2:Nat):Int):=by omega
    simp only[this,aJ,aO,aM h2];rfl
   have h2':¬ ((D.length - 2:Nat):Int) < ((a+2:Nat):Int):=by omega
   obtain ⟨g1,g2⟩:=rB (show a+1 < D.length by omega);obtain ⟨g3,g4⟩:=rB (show a < D.length by omega);have hb:=rQ D (a+1);have hb2:=rQ D a;simp only[h2',aG,aE,aV h2,aK,aH,aC,g1,g3,aA,g2,g4,qJ (show c9 D (a+1)<=4000000000 by omega),qJ (show c9 D a<=4000000000 by omega)];have e4:af (((a+2:Nat):Int)+(c9 D (a+1):Int))=((a+2+c9 D (a+1):Nat):Int):=by rw[be Bys];omega
   have e5:af ((2:Int)+(c9 D (a+1):Int))=((2+c9 D (a+1):Nat):Int):=by grind [be]
   have e6:af ((a:Int)+((2+c9 D (a+1):Nat):Int))=((a+2+c9 D (a+1):Nat):Int):=by grind
   simp only[e4,e5,e6];by_cases h3:D.length - 2 < a+2+c9 D (a+1)
   ·have:((D.length - 2:Nat):Int) < ((a+2+c9 D (a+1):Nat):Int):=by omega
    simp only[this,aJ,aO,aM h3];rfl
   have Sy:¬ ((D.length - 2:Nat):Int) < ((a+2+c9 D (a+1):Nat):Int):=by omega
   have h4:((a+2:Nat):Int)<=((a+2+c9 D (a+1):Nat):Int)/\((a+2+c9 D (a+1):Nat):Int)<=(D.length:Int):=by omega
   simp only[Sy,aG,aE,aV h3,h4,bS,aH,aC];rw[l9 _ (by simp only[bX,dQ];omega)];have hc:rs.length+[(((c9 D a:Nat):Int),((D.take (a+2+c9 D (a+1))).drop (a+2)),())].length<=ct:=dc (by grind [List.length_nil]);simp only[aA,hc,aH];exact ih (a+2+c9 D (a+1)) (i+1) _ Bys Bys (by simp;omega) j Bys
theorem XL {D:List UInt8} (hD:7<=D.length) (hD2:D.length<=255) {e0:bk->Option mp.O} {K T P:Int} {k:Nat} :
  ∀ (c a i:Nat) (rs:List cr),i+c=c9 D 4->a<=600->rs.length<=i->∀ j,c < j ->
   am (λself v=>mp.B0 k self e0 (D,()) v) j ((K,T,P,rs,()),(a:Int),(i:Int))=e0 (K,T,P,pS D c a rs,()):=by
 intro c
 induction c with
 | zero=>
  intro a i rs hi ha Qd j hj
  cases j with
  | zero=>omega
  | succ j=>
   show mp.b0 _ _ (D,()) _=_;grind [mp.b0,rQ,qJ,c9,pS]
 | succ c ih=>
  intro a i rs hi ha Qd j hj
  cases j with
  | zero=>omega
  | succ j=>
   show mp.b0 _ _ (D,()) _=_;unfold mp.b0;obtain ⟨g1,g2⟩:=rB (show 4 < D.length by omega);have hb4:=rQ D 4;have h1:(i:Int) < (c9 D 4:Int):=by omega
   have e1:af ((a:Int)+2)=((a+2:Nat):Int):=by grind [be]
   have e2:af ((a:Int)+1)=((a+1:Nat):Int):=by grind [be]
   have e3:af ((i:Int)+1)=((i+1:Nat):Int):=by grind [be]
   simp only[g1,aA,g2,qJ (show c9 D 4<=4000000000 by omega),h1,aJ,aO,e1,e2,e3,pS];by_cases h2:a+2<=D.length;rotate_left
   ·grind
   have h2':((a+2:Nat):Int)<=(D.length:Int):=by omega
   obtain ⟨g5,g6⟩:=rB (show a+1 < D.length by omega);obtain ⟨g3,g4⟩:=rB (show a < D.length by omega);have hb:=rQ D (a+1);have hb2:=rQ D a;simp only[h2',aJ,aO,aM h2,aK,aH,aC,g5,g3,aA,g6,g4,qJ (show c9 D (a+1)<=4000000000 by omega),qJ (show c9 D a<=4000000000 by omega)];have e4:af (((a+2:Nat):Int)+(c9 D (a+1):Int))=((a+2+c9 D (a+1):Nat):Int):=by grind [be]
   simp only[e4];by_cases h3:D.length < a+2+c9 D (a+1)
   ·grind
   have Sy:¬ (D.length:Int) < ((a+2+c9 D (a+1):Nat):Int):=by omega
   have h4:((a+2:Nat):Int)<=((a+2+c9 D (a+1):Nat):Int)/\((a+2+c9 D (a+1):Nat):Int)<=(D.length:Int):=by omega
   simp only[Sy,aG,aE,aV h3,h4,bS,aH,aC];rw[my _ (by grind)];have hc:rs.length+[(((c9 D a:Nat):Int),((D.take (a+2+c9 D (a+1))).drop (a+2)),())].length<=ct:=dc (by grind);simp only[aA,hc,aH];exact ih (a+2+c9 D (a+1)) (i+1) _ Bys Bys (by simp;omega) j Bys
theorem RG (d:List UInt8) (hd:d.length<=2000000000):mH.ab (d,())=some (match uy d with | none=>(Vn,(0:Int),()) | some (r,n)=>(r,(n:Int),())):=by
 refine ag (k:=300) λk hk=>(mH.ae k _).trans ?_;unfold mH.p uy;by_cases h7:d.length < 7
 ·have:(d.length:Int) < 7:=by omega
  simp only[this,aJ,aO,h7,true_or,aH];rfl
 have h7':¬ (d.length:Int) < 7:=by omega
 obtain ⟨g1,g2⟩:=rB (show 0 < d.length by omega);have hb:=rQ d 0;simp only[h7',aG,aE,h7,iJ,g1,aA,g2,qJ (show c9 d 0<=4000000000 by omega)];by_cases hl:d.length < c9 d 0
 ·have:(d.length:Int) < (c9 d 0:Int):=by omega
  simp only[this,aJ,aO,hl,or_true,aH];rfl
 have xZ:¬ (d.length:Int) < (c9 d 0:Int):=by omega
 by_cases hm:c9 d 0 < 7
 ·have:(c9 d 0:Int) < 7:=by omega
  simp only[xZ,aG,aE,this,aJ,aO,hm,true_or,aH];rfl
 have SW:¬ (c9 d 0:Int) < 7:=by omega
 have gw:0<=(c9 d 0:Int)/\(c9 d 0:Int)<=(d.length:Int):=by omega
 simp only[xZ,SW,aG,aE,hl,hm,or_self,aS,gw,bS,aH,aC,dM];generalize hDD:d.take (c9 d 0)=D;have hDl:D.length=c9 d 0:=by grind
 have ga:∀ i,i < c9 d 0->c9 D i=c9 d i:=λi hi=>by grind [Qc]
 obtain ⟨q1,q2⟩:=rB (show 1 < D.length by omega);obtain ⟨q3,q4⟩:=rB (show 2 < D.length by omega);obtain ⟨q5,q6⟩:=rB (show 3 < D.length by omega);obtain ⟨q7,q8⟩:=rB (show 4 < D.length by omega);have b1:=rQ d 1;have b2:=rQ d 2;have b3:=rQ d 3;have b4:=rQ d 4;have ew:af ((D.length:Int) - 2)=((D.length - 2:Nat):Int):=by grind [be]
 simp only[q1,q3,q5,q7,aA,q2,q4,q6,q8,ga 1 Bys,ga 2 Bys,ga 3 Bys,ga 4 Bys,ew,qJ (show c9 d 1<=4000000000 by omega),qJ (show c9 d 2<=4000000000 by omega),qJ (show c9 d 3<=4000000000 by omega),qJ (show c9 d 4<=4000000000 by omega)];have hp:=XK (D:=D) Bys Bys (a1:=(d,())) (e0:=λz=>mH.Q0 k (d,()) D ((D.length - 2:Nat):Int) (c9 d 4:Int) z) (K:=(c9 d 1:Int)) (T:=(c9 d 2:Int)) (P:=(c9 d 3:Int)) (N:=(c9 d 4:Int)) Bys (k:=k) (c9 d 4) 5 0 [] Bys Bys (aI _) k Bys;refine aL hp ?_;rw[<-hDl]
 cases Ci:pI D (D.length - 2) (c9 d 4) 5 [] with
 | none=>rfl
 | some q=>
  obtain ⟨rs,a⟩:=q;simp only[mH.Q0,mH.q0];by_cases ha:a=D.length - 2;rotate_left
  ·have:¬ ((a:Int)=((D.length - 2:Nat):Int)):=by omega
   simp only[this,aG,bW,aO,ha,iH,aS];rfl
  subst ha;simp only[aJ,aR,aE,KA,aA,dN];by_cases hr:wx ((c9 d 1:Int),(c9 d 2:Int),(c9 d 3:Int),rs,())=0;rotate_left
  ·simp only[hr,aG,bW,aO,iH,aS];rfl
  have hs:=Qa hr;have i7:=DL hs;simp only[hr,aJ,aR,aE,II _ hs,aA,dN];rw[Qe _ _ Bys];by_cases he:tR ((c9 d 1:Int),(c9 d 2:Int),(c9 d 3:Int),rs,())=D
  ·grind
  ·simp only[he,aG,aA,bW,aO,aS];rfl
theorem RH (d:List UInt8) (hd:d.length<=2000000000):oF.ab (d,())=some (match uy d with | none=>(((5:Int),(0:Int),Vn,()),()) | some (r,n)=>(((0:Int),(n:Int),r,()),())):=by
 refine ag (k:=300) λk hk=>(oF.ae k _).trans ?_;show oF.p _=_;unfold oF.p uy;by_cases h7:d.length < 7
 ·have:(d.length:Int) < 7:=by omega
  simp only[this,aJ,aO,h7,true_or,aH];rfl
 have h7':¬ (d.length:Int) < 7:=by omega
 obtain ⟨g1,g2⟩:=rB (show 0 < d.length by omega);have hb:=rQ d 0;simp only[h7',aG,aE,h7,iJ,g1,aA,g2,qJ (show c9 d 0<=4000000000 by omega)];by_cases hm:c9 d 0 < 7
 ·have:(c9 d 0:Int) < 7:=by omega
  simp only[this,aJ,aO,hm,true_or,aH];rfl
 have SW:¬ (c9 d 0:Int) < 7:=by omega
 by_cases hl:d.length < c9 d 0
 ·have:(d.length:Int) < (c9 d 0:Int):=by omega
  simp only[SW,aG,aE,this,aJ,aO,hl,or_true,aH];rfl
 have xZ:¬ (d.length:Int) < (c9 d 0:Int):=by omega
 have gw:0<=(c9 d 0:Int)/\(c9 d 0:Int)<=(d.length:Int):=by omega
 simp only[xZ,SW,aG,aE,hl,hm,or_self,aS,gw,bS,aH,aC,dM];generalize hDD:d.take (c9 d 0)=D;have hDl:D.length=c9 d 0:=by grind
 have ga:∀ i,i < c9 d 0->c9 D i=c9 d i:=λi hi=>by grind [Qc]
 have NZ:mp.ab (D,())=some (((c9 d 1:Int),(c9 d 2:Int),(c9 d 3:Int),pS D (c9 d 4) 5 [],()),()):=by
  refine ag (k:=300) λk hk=>(mp.ae k _).trans ?_;unfold mp.p;obtain ⟨q1,q2⟩:=rB (show 1 < D.length by omega);obtain ⟨q3,q4⟩:=rB (show 2 < D.length by omega);obtain ⟨q5,q6⟩:=rB (show 3 < D.length by omega);have b1:=rQ d 1;have b2:=rQ d 2;have b3:=rQ d 3;have b4:=rQ d 4;simp only[q1,q3,q5,aA,q2,q4,q6,ga 1 Bys,ga 2 Bys,ga 3 Bys,qJ (show c9 d 1<=4000000000 by omega),qJ (show c9 d 2<=4000000000 by omega),qJ (show c9 d 3<=4000000000 by omega)];have hp:=XL (D:=D) Bys Bys (e0:=λz=>mp.Q0 k (D,()) z) (K:=(c9 d 1:Int)) (T:=(c9 d 2:Int)) (P:=(c9 d 3:Int)) (k:=k) (c9 D 4) 5 0 [] Bys Bys (aI _) k (by grind);refine aL hp ?_;rw[ga 4 Bys];rfl
 rw[NZ];simp only[aA,Kz];rw[<-hDl];generalize Qd:pS D (c9 d 4) 5 []=rs;by_cases hr:wx ((c9 d 1:Int),(c9 d 2:Int),(c9 d 3:Int),rs,())=0
 ·have hs:=Qa hr;simp only[hr,aJ,aR,aE,IH _ hs,aA];by_cases he:tR ((c9 d 1:Int),(c9 d 2:Int),(c9 d 3:Int),rs,())=D
  ·have h4:c9 D 4=c9 d 4:=ga 4 Bys;have Ci:=adz (D:=D) Bys (by grind) hr he;grind
  ·simp only[he,aG,bW,aO]
   cases Ci:pI D (D.length - 2) (c9 d 4) 5 [] with
   | none=>rfl
   | some q=>
    obtain ⟨M_,a'⟩:=q;have:=Vm Bys _ _ _ _ _ Ci;rw[Qd] at this;subst this;simp only[he,and_false,aS];rfl
 ·simp only[hr,aG,bW,aO]
  cases Ci:pI D (D.length - 2) (c9 d 4) 5 [] with
  | none=>rfl
  | some q=>
   obtain ⟨M_,a'⟩:=q;have:=Vm Bys _ _ _ _ _ Ci;rw[Qd] at this;subst this;simp only[hr,iH,and_false,aS];rfl
end OT
namespace OT
open Go
theorem Ec {d:List UInt8} {r:bk} {n:Nat} (h:uy d=some (r,n)):7<=n/\n<=d.length/\wx r=0:=by
 grind [uy]
theorem XM:uy []=none:=rfl
def kX:Nat->List UInt8->List bk×Nat
 | 0,_=>([],0)
 | k+1,d=>match uy d with
  | none=>([],0)
  | some (r,n)=>(r::(kX k (d.drop n)).1,n+(kX k (d.drop n)).2)
theorem xF:∀ (k k':Nat) (d:List UInt8),d.length < k->d.length < k'->kX k d=kX k' d
 | 0,_,_,h,_=>by omega
 | _+1,0,_,_,h=>by omega
 | k+1,k'+1,d,h,h'=>by
  simp only[kX]
  cases hr:uy d with
  | none=>rfl
  | some q=>
   obtain ⟨r,n⟩:=q;have hn:=Ec hr;have:(d.drop n).length=d.length - n:=bX;simp only;rw[xF k k' (d.drop n) Bys Bys]
def xf (d:List UInt8):List bk×Nat:=kX (d.length+1) d
theorem K3 (d:List UInt8) (hd:d.length<=1048576):mf.ab (d,())=some ((xf d).1,((xf d).2:Int),()):=by
 refine ag (k:=1048578) λk hk=>(mf.ae k _).trans ?_
 have key:∀ (m a:Nat) (acc:List bk),d.length - a=m->a<=d.length->acc.length<=a->∀ j,m < j ->
   am (λself v=>mf.B0 k self (d,()) v) j (acc,(a:Int))=some (acc++(kX (m+1) (d.drop a)).1,((a+(kX (m+1) (d.drop a)).2:Nat):Int),()):=by
  intro m
  induction m using Nat.strongRecOn with
  | ind m ih=>
  intro a acc hm ha aep j hj
  cases j with
  | zero=>omega
  | succ j=>
   show mf.b0 _ _ _=_;unfold mf.b0;have gw:(0:Int)<=(a:Int)/\(a:Int)<=(d.length:Int):=by omega
   simp only[gw,bS,aH,aC,dW];rw[RG _ (by simp;omega)];simp only[aA,kX]
   cases hr:uy (d.drop a) with
   | none=>grind
   | some q=>
    obtain ⟨r,n⟩:=q;have hn:=Ec hr;have hl:(d.drop a).length=d.length - a:=bX;have h0:¬ ((n:Int)=0):=by omega
    have hc:acc.length+[r].length<=ct:=dc (by grind);have ew:af ((a:Int)+(n:Int))=((a+n:Nat):Int):=by grind [be]
    simp only[h0,aG,aE,hc,aH,ew];have:=ih (d.length - (a+n)) Bys (a+n) (acc++[r]) rfl Bys (by simp;omega) j Bys;grind [List.drop_drop,xF]
 have:=key d.length 0 [] rfl Bys (aI _) k Bys;simp only[dM,cG,bQ] at this;exact this
theorem K4 (d:List UInt8) (hd:d.length<=1048576):kP.ab (d,())=some ((xf d).1,((xf d).2:Int),()):=by
 refine ag (k:=1048578) λk hk=>(kP.ae k _).trans ?_
 have key:∀ (m a:Nat) (acc:List bk),d.length - a=m->a<=d.length->acc.length<=a->∀ j,m < j ->
   am (λself v=>kP.B0 k self (λz=>kP.Q0 k (d,()) z) (d,()) v) j (acc,(a:Int))=some (acc++(kX (m+1) (d.drop a)).1,((a+(kX (m+1) (d.drop a)).2:Nat):Int),()):=by
  intro m
  induction m using Nat.strongRecOn with
  | ind m ih=>
  intro a acc hm ha aep j hj
  cases j with
  | zero=>omega
  | succ j=>
   show kP.b0 _ _ (d,()) _=_;unfold kP.b0;by_cases a8:a < d.length;rotate_left
   ·grind [kP.q0,kX,XM]
   have BS:(a:Int) < (d.length:Int):=by omega
   have gw:(0:Int)<=(a:Int)/\(a:Int)<=(d.length:Int):=by omega
   simp only[BS,aJ,aO,gw,bS,aH,aC,dW];rw[RH _ (by simp;omega)];simp only[aA,kX]
   cases hr:uy (d.drop a) with
   | none=>
    grind [kP.q0]
   | some q=>
    obtain ⟨r,n⟩:=q;have hn:=Ec hr;have hl:(d.drop a).length=d.length - a:=bX;have hc:acc.length+[r].length<=ct:=dc (by grind);have ew:af ((a:Int)+(n:Int))=((a+n:Nat):Int):=by grind [be]
    simp only[aJ,aR,aE,hc,aH,ew];have:=ih (d.length - (a+n)) Bys (a+n) (acc++[r]) rfl Bys (by simp;omega) j Bys;grind [List.drop_drop,xF]
 have:=key d.length 0 [] rfl Bys (aI _) k Bys;simp only[dM,cG,bQ] at this;exact this
def Qf (l:Log):Prop:=List.length l.1<=1048576/\List.length l.2.1<=1048576
def zi (d:List UInt8):Bool:=decide ((xf d).2=d.length)
def zj (l:Log):Int:=if 16000 < List.length l.1+List.length l.2.1 then 2 else if zi l.1&&zi l.2.1 then 0 else 5
theorem Vo (l:Log) (h:Qf l):qU.ab (l,())=some (zj l,()):=by
 refine ag (k:=0) λk _=>(qU.ae k _).trans ?_;show qU.p _=_;unfold qU.p zj;obtain ⟨h1,h2⟩:=h;grind [be,K4,zi]
theorem size_eq (l:Log) (h:Qf l):jM.ab (l,())=some (((List.length l.1+List.length l.2.1:Nat):Int),()):=by
 refine ag (k:=0) λk _=>(jM.ae k _).trans ?_;show jM.p _=_;unfold jM.p;obtain ⟨h1,h2⟩:=h;grind [be]
theorem Vp (l:Log) (h:Qf l):kZ.ab (l,())=some (zj l,()):=by
 refine ag (k:=5) λk hk=>(kZ.ae k _).trans ?_;unfold kZ.p zj;rw[size_eq l h]
 have hl:∀ x ∈ [l.1,l.2.1],List.length x<=1048576:=by
  intro x hx;simp only[aY,List.not_mem_nil,or_false] at hx;rcases hx with e | e <;> subst e
  ·exact h.1
  ·exact h.2
 have:=cz (B:=λself v=>kZ.b0 self (λz=>kZ.q0 (l,()) z) (l,()) v) [l.1,l.2.1] (λ(_:Unit) (i:Int)=>i) (λ_ _ x=>if zi x then .inr () else .inl (5,())) (λ_=>(0,())) (λ_ _=>True) (by rw[an];simp)
  (λi hi s self hI=>by
   grind [kZ.b0,K3,zi])
  (λ_ _ _ _ _ _=>trivial) (λs self _=>by
   grind [kZ.b0,kZ.q0]) () trivial k (by grind)
 rw[tr zi (5,()) (λ_=>(0,()))] at this;have this:kZ.r0 k (l,()) 0=_:=this;grind
theorem K5 (l:Log) (r:bk) (h:Qf l) (hs:wC r):m_.ab (l,r,())=some (if 16000 < List.length l.1+List.length l.2.1+(tR r).length then (l,false,()) else ((l.1,l.2.1++tR r,()),true,())):=by
 have i7:=DL hs;obtain ⟨o1,o2⟩:=h;refine ag (k:=0) λk _=>(m_.ae k _).trans ?_;show m_.p _=_;unfold m_.p
 have hcp:nh.ab (l,())=some (l,()):=by
  refine ag (k:=0) λk _=>(nh.ae k _).trans ?_;grind [nh.p,my]
 grind [be,dc,IH]
theorem K6 (l:Log) (r:bk) (h:Qf l) (hs:wC r):kS.ab (l,r,())=some (if 16000 < List.length l.1+List.length l.2.1+(tR r).length then (l,false,()) else ((l.1,l.2.1++tR r,()),true,())):=by
 have i7:=DL hs;have bd:=h;obtain ⟨o1,o2⟩:=h;refine ag (k:=0) λk _=>(kS.ae k _).trans ?_;grind [kS.p,be,dc,II,size_eq,l9]
theorem abi (l:Log) (g1:List.length l.1<=2000000) (g2:List.length l.2.1<=2000000):sG.ab (l,())=some (l,()):=by
 refine ag (k:=0) λk _=>(sG.ae k _).trans ?_;grind [sG.p,l9]
end OT
namespace OT
open Go
def AB (x:Tx):Int:=if E4 x=0 then vE x else E4 x
theorem Na {α:Type} (c:Nat->α->Int):∀ (xs:List α) (i:Nat),ci (λi (_:Unit) y=>if c i y=0 then .inr () else .inl (c i y,())) (λ_=>((0:Int),())) i xs ()=(ci (λi (_:Unit) y=>if c i y=0 then .inr () else .inl (c i y)) (λ_=>(0:Int)) i xs (),())
 | [],_=>rfl
 | y::ys,i=>by simp only[ci];by_cases h0:c i y=0 <;> simp[h0,Na c ys (i+1)]
theorem Bu {α:Type} (c:Nat->α->Int) (E:Option (Int×Unit)):∀ (xs:List α) (i:Nat),ci (λi (_:Unit) y=>if c i y=0 then .inr () else .inl (some (c i y,()))) (λ_=>E) i xs () =
  if ci (λi (_:Unit) y=>if c i y=0 then .inr () else .inl (c i y)) (λ_=>(0:Int)) i xs ()=0 then E else some (ci (λi (_:Unit) y=>if c i y=0 then .inr () else .inl (c i y)) (λ_=>(0:Int)) i xs (),())
 | [],_=>rfl
 | y::ys,i=>by simp only[ci];by_cases h0:c i y=0 <;> simp[h0,Bu c E ys (i+1)]
theorem IJ {α:Type} (c:α->Int):∀ (xs:List α) (i:Nat),ci (λ_ (_:Unit) y=>if c y=0 then .inr () else .inl (c y)) (λ_=>(0:Int)) i xs ()=nI c xs
 | [],_=>rfl
 | y::ys,i=>by simp only[ci,nI];by_cases h0:c y=0 <;> simp[h0,IJ c ys (i+1)]
theorem Vq (x:Tx) (h:tl x):ep.ab (x,())=some (AB x,()):=by
 obtain ⟨h1,h2,h3,h4⟩:=h;refine ag (k:=1048577) λk hk=>(ep.ae k _).trans ?_
 have Vr:List.length x.2.2.2.1<=12->ep.r2 k (x,()) (0:Int)=some (yY x.2.2.2.1,()):=λhl=>by
  have:=cz (B:=λself v=>ep.b2 self (λz=>ep.q2 (x,()) z) (x,()) v) x.2.2.2.1 (λ(_:Unit) (i:Int)=>i) (λi _ y=>if tL x.2.2.2.1 i y=0 then .inr () else .inl (tL x.2.2.2.1 i y,())) (λ_=>(0,())) (λ_ _=>True) (by rw[an];omega)
   (λi hi s self _=>by
    grind [ep.b2,tL,Y8,contains_eq,an])
   (λ_ _ _ _ _ _=>trivial) (λs self _=>by
    show ep.b2 _ _ _ _=_;unfold ep.b2;simp only[aU,aG,aE]
    rfl) () trivial k Bys
  rw[Na (tL x.2.2.2.1)] at this;exact this
 have second:List.length x.2.2.1<=8->List.length x.2.2.2.1<=12->ep.r1 k (x,()) ((0:Int),(0:Int))=some (if KH (List.length x.2.1:Int) 0 x.2.2.1 then yY x.2.2.2.1 else 3,()):=λhm hl=>by
  have:=dj (B:=λself v=>ep.b1 self (λz=>ep.Q1 k (x,()) z) (x,()) v) x.2.2.1 (λ(last:Int) (i:Int)=>(last,i)) (λ_ last m=>if gj m last (List.length x.2.1:Int) then .inr m else .inl (some ((3:Int),()))) (λ_=>some (yY x.2.2.2.1,())) (λ_ _=>True) (by rw[an];omega)
   (λi hi last self _=>by
    grind [ep.b1,sj,gj])
   (λ_ _ _ _ _ _=>trivial) (λlast self _=>by
    show ep.b1 _ _ _ _=_;unfold ep.b1;simp only[aU,aG,aE]
    exact Vr hl) 0 trivial k Bys
  rw[Px] at this;refine aL this ?_;grind [KH]
 have after:ep.Q0 k (x,()) ()=some (vE x,()):=by
  show ep.q0 _ _ _=_;grind [ep.q0,vE]
 have:=dj (B:=λself v=>ep.b0 self (λz=>ep.Q0 k (x,()) z) (x,()) v) x.2.1 (λ(_:Unit) (i:Int)=>i) (λ_ _ c=>if z7 x.2.2.2.1 c=0 then .inr () else .inl (some (z7 x.2.2.2.1 c,()))) (λ_=>some (vE x,())) (λ_ _=>True) (by rw[an];omega)
  (λi hi s self _=>by
   show ep.b0 _ _ _ _=_;unfold ep.b0;have a8:(i:Int) < (List.length x.2.1:Int):=by omega
   simp only[a8,aJ,aO,aK,aH,aC,aB hi,aA,MS _ (h4 _ (aN hi)),L5]
   grind [contains_eq,an,z7])
  (λ_ _ _ _ _ _=>trivial) (λs self _=>by
   grind [ep.b0]) () trivial k Bys
 rw[Bu (λ_=>z7 x.2.2.2.1),IJ] at this;refine aL this ?_;grind [AB,E4]
def px (xs:List Tx) (k:Key):Int:=match xs with
 | []=>0
 | x::xs=>if jO x.2.2.2.1 k then x.1 else px xs k
def pr (xs:List Tx):Prop:=xs.length<=1048576/\∀ x ∈ xs,tl x
theorem Hn (k:Key):∀ (xs:List Tx) (i:Nat),ci (λ_ (_:Unit) x=>if jO x.2.2.2.1 k then .inl (x.1,()) else .inr ()) (λ_=>((0:Int),())) i xs ()=(px xs k,())
 | [],_=>rfl
 | x::xs,i=>by simp only[ci,px];cases jO x.2.2.2.1 k <;> simp[Hn k xs (i+1)]
theorem Qg {x:Tx} (h:tl x):List.length x.2.2.2.1<=maxLen:=by rw[an];have:=h.2.2.1;omega
theorem RI (xs:List Tx) (k0:Key) (h:pr xs):nL.ab (xs,k0,())=some (px xs k0,()):=by
 obtain ⟨h1,h2⟩:=h;refine ag (k:=xs.length+1) λk hk=>(nL.ae k _).trans ?_
 have:=cz (B:=λself v=>nL.b0 self (λz=>nL.q0 (xs,k0,()) z) (xs,k0,()) v) xs (λ(_:Unit) (i:Int)=>i) (λ_ _ x=>if jO x.2.2.2.1 k0 then .inl (x.1,()) else .inr ()) (λ_=>(0,())) (λ_ _=>True) (by rw[an];omega)
  (λi hi s self _=>by
   grind [nL.b0,Jl,Qg])
  (λ_ _ _ _ _ _=>trivial) (λs self _=>by
   show nL.b0 _ _ _ _=_;unfold nL.b0;simp only[aU,aG,aE]
   rfl) () trivial k Bys
 rw[Hn] at this;exact this
def zk (xs:List Tx):Int:=xs.foldl (λn x=>n+(List.length x.2.1:Int)) 0
theorem Ho (xs:List Tx) (h:pr xs):jK.ab (xs,())=some (zk xs,()):=by
 obtain ⟨h1,h2⟩:=h;refine ag (k:=xs.length+1) λk hk=>(jK.ae k _).trans ?_
 have:=cz (B:=λself v=>jK.b0 self (λz=>jK.q0 (xs,()) z) (xs,()) v) xs (λ(n:Int) (i:Int)=>(n,i)) (λ_ n x=>.inr (n+(List.length x.2.1:Int))) (λn=>(n,())) (λi n=>0<=n/\n<=1048576*(i:Int)) (by rw[an];omega)
  (λi hi n self hI=>by
   show jK.b0 _ _ _ _=_;unfold jK.b0;have a8:(i:Int) < (xs.length:Int):=by omega
   have hx:=(h2 _ (aN hi)).1
   grind [be])
  (λi hi n n' hI hs=>by
   injection hs with hs;have hx:=(h2 _ (aN hi)).1
   omega) (λs self _=>by
   show jK.b0 _ _ _ _=_;unfold jK.b0;simp only[aU,aG,aE]
   rfl) 0 Bys k Bys
 rw[iv] at this;exact this
theorem CJ (xs:List Tx) (h:pr xs):jp.ab (xs,())=some (zk xs,()):=by
 obtain ⟨h1,h2⟩:=h;refine ag (k:=xs.length+1) λk hk=>(jp.ae k _).trans ?_
 have:=cz (B:=λself v=>jp.b0 self (λz=>jp.q0 (xs,()) z) (xs,()) v) xs (λ(n:Int) (i:Int)=>(n,i)) (λ_ n x=>.inr (n+(List.length x.2.1:Int))) (λn=>(n,())) (λi n=>0<=n/\n<=1048576*(i:Int)) (by rw[an];omega)
  (λi hi n self hI=>by
   show jp.b0 _ _ _ _=_;unfold jp.b0;have a8:(i:Int) < (xs.length:Int):=by omega
   have hx:=(h2 _ (aN hi)).1
   grind [be])
  (λi hi n n' hI hs=>by
   injection hs with hs;have hx:=(h2 _ (aN hi)).1
   omega) (λs self _=>by
   show jp.b0 _ _ _ _=_;unfold jp.b0;simp only[aU,aG,aE]
   rfl) 0 Bys k Bys
 rw[iv] at this;exact this
def wD (xs:List Tx) (i:Nat) (x:Tx):Int:=if gj x.1 1 99 then (if 0 < i then (match xs[i - 1]? with
    | some y=>if x.1<=y.1 then 1 else AB x
    | none=>1) else AB x) else 3
def Bv (xs:List Tx):Int:=ci (λi (_:Unit) x=>if wD xs i x=0 then .inr () else .inl (wD xs i x)) (λ_=>(0:Int)) 0 xs ()
def flatK (xs:List Tx):List Key:=xs.flatMap λx=>x.2.2.2.1
def Ed (xs:List Tx):Bool:=decide (flatK xs).Nodup
def ny (xs:List Tx):Int:=if 4 < xs.length then 2 else if Bv xs=0 then (if Ed xs then (if 12 < zk xs then 2 else 0) else 7) else Bv xs
theorem AC (xs:List Tx) (h:Bv xs=0):∀ i (hi:i < xs.length),wD xs i xs[i]=0:=by
 have main:∀ (ys:List Tx) (j:Nat),(ci (λi (_:Unit) x=>if wD xs i x=0 then .inr () else .inl (wD xs i x)) (λ_=>(0:Int)) j ys ())=0->∀ i (hi:i < ys.length),wD xs (j+i) ys[i]=0:=by
  intro ys
  induction ys with
  | nil=>grind
  | cons y ys ih=>
   intro j hf i hi;simp only[ci] at hf;by_cases h0:wD xs j y=0
   ·rw[aM h0] at hf
    cases i with
    | zero=>simpa using h0
    | succ i=>
     have:=ih (j+1) hf i (by simpa using hi);grind
   grind
 intro i hi;have:=main xs 0 h i hi;grind
theorem CK {xs:List Tx} {i:Nat} {x:Tx} (h:wD xs i x=0):1<=x.1/\AB x=0/\∀ y,0 < i->xs[i - 1]?=some y->y.1 < x.1:=by
 grind [wD,gj]
theorem XN {xs:List Tx} (h:Bv xs=0):xs.Pairwise λx y=>x.1 < y.1:=by
 rw[dD];intro i j hi hj sw
 have key:∀ d (hd:i+d+1 < xs.length),(xs[i]).1 < (xs[i+d+1]).1:=by
  intro d
  induction d with
  | zero=>
   intro hd;exact (CK (AC xs h (i+1) hd)).2.2 xs[i] Bys (by simp[hi])
  | succ d ih=>
   intro hd;have h1:=ih Bys;have h2:=(CK (AC xs h (i+d+1+1) hd)).2.2 xs[i+d+1] Bys (by grind);grind
 have:=key (j - i - 1) Bys;grind
theorem RJ {ks:List Key} (h:yY ks=0):ks.Nodup:=by
 have main:∀ (ys:List Key) (j:Nat),(ci (λi (_:Unit) k=>if tL ks i k=0 then .inr () else .inl (tL ks i k)) (λ_=>(0:Int)) j ys ())=0->∀ i (hi:i < ys.length),tL ks (j+i) ys[i]=0:=by
  intro ys
  induction ys with
  | nil=>grind
  | cons y ys ih=>
   intro j hf i hi;simp only[ci] at hf;by_cases h0:tL ks j y=0
   ·rw[aM h0] at hf
    cases i with
    | zero=>simpa using h0
    | succ i=>
     have:=ih (j+1) hf i (by simpa using hi);grind
   grind
 rw[gL,dD];intro i j hi hj sw e;have h1:=main ks 0 h j hj;rw[bQ] at h1;unfold tL at h1;split at h1
 ·split at h1
  ·cases h1
  ·rename_i hn;refine hn (xL.2 ?_);rw[<-e];exact gN.2 ⟨i,by omega,rfl⟩
 ·cases h1
theorem Zt {x:Tx} (h:AB x=0):(x.2.2.2.1:List Key).Nodup:=by
 grind [AB,vE,RJ]
end OT
namespace OT
open Go
def Ee (xs:List Tx):Bool:=xs.all λx=>x.2.2.2.1.all λk=>decide (px xs k=x.1)
theorem Zu {xs:List Tx} (hr:xs.Pairwise λx y=>x.1 < y.1) (hn:∀ x ∈ xs,(x.2.2.2.1:List Key).Nodup):Ee xs=Ed xs:=by
 have main:∀ (xs:List Tx),(xs.Pairwise λx y=>x.1 < y.1)->(∀ x ∈ xs,(x.2.2.2.1:List Key).Nodup)->((∀ x ∈ xs,∀ k ∈ (x.2.2.2.1:List Key),px xs k=x.1)↔(flatK xs).Nodup):=by
  intro xs
  induction xs with
  | nil=>grind [flatK]
  | cons x xs ih=>
   intro hr hn;obtain ⟨h1,h2⟩:=dP.1 hr;have ih:=ih h2 (λy hy=>hn y (by simp[hy]));have DY:flatK (x::xs)=x.2.2.2.1++flatK xs:=by simp[flatK]
   rw[DY,eE];constructor
   ·intro tV
    have hd:∀ y ∈ xs,∀ k ∈ (y.2.2.2.1:List Key),k ∉ (x.2.2.2.1:List Key):=λy hy k hk hx=>by
     grind
    refine ⟨hn x (by simp),ih.1 λy hy k hk=>?_,λa ha b hb e=>?_⟩
    ·grind [px]
    ·subst e;obtain ⟨y,hy,hk⟩:=dF.1 hb;grind
   ·rintro ⟨g1,g2,g3⟩ y hy k hk;grind [px,flatK,jO]
 have hm:=main xs hr hn;unfold Ee Ed;rw[fH];simp_all
theorem Qh (xs:List Tx) (h:pr xs):gd.ab (xs,())=some (Ee xs,()):=by
 have ht:=h;obtain ⟨h1,h2⟩:=h;refine ag (k:=1048577) λk hk=>(gd.ae k _).trans ?_
 have inner:∀ (self:((List Tx)×Int)->Option gd.O) (e0:Unit->Option gd.O) (i:Nat) (hi:i < xs.length),gd.r1 k self e0 (xs,()) xs (i:Int) (0:Int)=if (xs[i]).2.2.2.1.any (λy=>!decide (px xs y=(xs[i]).1)) then some (false,()) else self (xs,af ((i:Int)+1)):=λself e0 i hi=>by
  have htx:=h2 _ (aN hi);have Tl:=htx.2.2.1
  have:=dj (B:=λfx v=>gd.b1 fx (λz=>gd.q0 self e0 (xs,()) xs (i:Int) z) (xs,()) xs (i:Int) v) (xs[i]).2.2.2.1 (λ(_:Unit) (j:Int)=>j) (λ_ _ y=>if !decide (px xs y=(xs[i]).1) then .inl (some (false,())) else .inr ()) (λ_=>self (xs,af ((i:Int)+1))) (λ_ _=>True) (by rw[an];omega)
   (λj hj s fx _=>by
    show gd.b1 _ _ _ _ _ _=_;unfold gd.b1
    grind [RI])
   (λ_ _ _ _ _ _=>trivial) (λs fx _=>by
    show gd.b1 _ _ _ _ _ _=_;unfold gd.b1;simp only[aK,aH,aC,aB hi,aA,aU,aG,aE]
    rfl) () trivial k Bys
  rw[rK] at this;exact this
 have:=cz (B:=λself v=>gd.B0 k self (λz=>gd.q1 (xs,()) z) (xs,()) v) xs (λ(_:Unit) (i:Int)=>(xs,i)) (λ_ _ x=>if x.2.2.2.1.all (λy=>decide (px xs y=x.1)) then .inr () else .inl (false,())) (λ_=>(true,())) (λ_ _=>True) (by rw[an];omega)
  (λi hi s self _=>by
   show gd.b0 _ _ _ _ _=_
   grind [gd.b0])
  (λ_ _ _ _ _ _=>trivial) (λs self _=>by
   show gd.b0 _ _ _ _ _=_;unfold gd.b0;simp only[aU,aG,aE]
   rfl) () trivial k Bys
 rw[tr (λ(x:Tx)=>x.2.2.2.1.all (λy=>decide (px xs y=x.1))) (false,()) (λ_=>(true,()))] at this;refine aL this ?_;grind [Ee]
def jP (S:List Key):List (Key×Bool):=S.map λk=>(k,true)
theorem RK {α:Type} (k:Ty) (e:k.den×α) (m:List (k.den×α)) (x:k.den):jY k (e::m) x=if k.eq x e.1 then some e.2 else jY k m x:=by
 grind [jY]
theorem Vs {α:Type} (k:Ty) (m:List (k.den×α)) (x:k.den) (y:α) (h:∀ e ∈ m,k.eq x e.1=false):nG k m x y=m++[(x,y)]:=by
 grind [nG]
theorem IK (S:List Key) (k:Key):jY bc (jP S) k=if jO S k then some true else none:=by
 induction S with
 | nil=>rfl
 | cons s S ih=>
  refine (RK bc (s,true) (jP S) k).trans ?_;grind [z6,jO]
theorem Zv (S:List Key) (k:Key):CQ (jY bc (jP S) k) false=jO S k:=by
 grind [CQ,IK]
theorem Qi {S:List Key} {k:Key} (h:jO S k=false):nG bc (jP S) k true=jP (S++[k]):=by
 refine (Vs bc (jP S) k true λe he=>?_).trans ?_
 ·obtain ⟨s,hs,rfl⟩:=eV.1 he;grind [z6,jO]
 ·simp only[jP,fJ,dR,gW];rfl
def getM (m:List (Key×Bool)) (k:Key):Bool:=CQ (jY bc m k) false
def ue (m:List (Key×Bool)) (k:Key):List (Key×Bool):=nG bc m k true
def vt:List (Key×Bool)->List Key->Option (List (Key×Bool))
 | m,[]=>some m
 | m,k::ks=>if getM m k then none else vt (ue m k) ks
theorem IL:∀ (m:List (Key×Bool)) (a b:List Key),vt m (a++b)=(vt m a).bind λm'=>vt m' b
 | m,[],b=>rfl
 | m,k::a,b=>by
  simp only[dA,vt];split
  ·rfl
  ·exact IL _ a b
theorem Nb:∀ (ks S:List Key),S.Nodup->vt (jP S) ks=if (S++ks).Nodup then some (jP (S++ks)) else none
 | [],S,h=>by simp[vt,h]
 | k::ks,S,h=>by
  have hg:getM (jP S) k=jO S k:=Zv S k;simp only[vt,hg]
  cases hh:jO S k with
  | true=>
   have:¬ (S++k::ks).Nodup:=λhn=>by
    rw[eE] at hn;exact hn.2.2 k (xL.1 hh) k (by simp) rfl
   simp[this]
  | false=>
   have hk:k ∉ S:=λhm=>by rw[xL.2 hm] at hh;cases hh
   simp only[aF,aS];have hp:ue (jP S) k=jP (S++[k]):=Qi hh;rw[hp,Nb ks (S++[k]) (by grind)];grind
theorem Nc {O:Type} (bad:Option O) (E:List (Key×Bool)->Option O):∀ (ks:List Key) (i:Nat) (m:List (Key×Bool)),ci (λ_ m k=>if getM m k then .inl bad else .inr (ue m k)) E i ks m=match vt m ks with | none=>bad | some m'=>E m'
 | [],_,_=>rfl
 | k::ks,i,m=>by
  simp only[ci,vt];by_cases h:getM m k=true
  ·simp[h]
  ·simp only[h,aS];exact Nc bad E ks _ _
theorem K7 {O:Type} (bad:Option O) (E:Option O):∀ (xs:List Tx) (i:Nat) (m:List (Key×Bool)),ci (λ_ m x=>match vt m x.2.2.2.1 with | none=>.inl bad | some m'=>.inr m') (λ_=>E) i xs m=match vt m (flatK xs) with | none=>bad | some _=>E
 | [],_,_=>rfl
 | x::xs,i,m=>by
  have DY:flatK (x::xs)=x.2.2.2.1++flatK xs:=by simp[flatK]
  rw[DY,IL];simp only[ci]
  cases h:vt m x.2.2.2.1 with
  | none=>rfl
  | some m'=>
   simp only[aA];exact K7 bad E xs _ _
theorem FA (xs:List Tx) (h:pr xs):cu.ab (xs,())=some (ny xs,()):=by
 have ht:=h;obtain ⟨h1,h2⟩:=h;refine ag (k:=1048577) λk hk=>(cu.ae k _).trans ?_;unfold cu.p ny;by_cases h4:4 < xs.length
 ·grind
 have h4':¬ (4:Int) < (xs.length:Int):=by omega
 simp only[h4,h4',aG,aE,aS]
 have last:cu.q2 (xs,()) xs=some (if 12 < zk xs then 2 else 0,()):=by
  grind [cu.q2,CJ]
 have inner:∀ (self:((List Tx)×(List (Key×Bool))×(List Tx)×Int×Int)->Option cu.O) (e2:List Tx->Option cu.O) (i:Nat) (hi:i < xs.length) (m:List (Key×Bool)),cu.r2 k self e2 (xs,()) xs xs (xs.length:Int) (i:Int) (xs[i]).2.2.2.1 (List.length (xs[i]).2.2.2.1:Int) (m,(0:Int))=match vt m (xs[i]).2.2.2.1 with | none=>some ((7:Int),()) | some m'=>self (xs,m',xs,(xs.length:Int),af ((i:Int)+1)):=λself e2 i hi m=>by
  have Tl:=(h2 _ (aN hi)).2.2.1
  have:=dj (B:=λfx v=>cu.b2 fx (λz=>cu.q1 self e2 (xs,()) xs xs (xs.length:Int) (i:Int) (xs[i]).2.2.2.1 (List.length (xs[i]).2.2.2.1:Int) z) (xs,()) xs xs (xs.length:Int) (i:Int) (xs[i]).2.2.2.1 (List.length (xs[i]).2.2.2.1:Int) v) (xs[i]).2.2.2.1 (λ(m:List (Key×Bool)) (j:Int)=>(m,j)) (λ_ m y=>if getM m y then .inl (some ((7:Int),())) else .inr (ue m y)) (λm=>self (xs,m,xs,(xs.length:Int),af ((i:Int)+1))) (λ_ _=>True) (by rw[an];omega)
   (λj hj s fx _=>by
    grind [cu.b2,getM,ue])
   (λ_ _ _ _ _ _=>trivial) (λs fx _=>by
    show cu.b2 _ _ _ _ _ _ _ _ _ _=_;unfold cu.b2;simp only[aU,aG,aE]
    rfl) m trivial k Bys
  rw[Nc] at this;exact this
 have apart:cu.Q0 k (xs,()) ()=some (if Ed xs then (if 12 < zk xs then 2 else 0) else 7,()):=by
  have:=dj (B:=λself v=>cu.B1 k self (λz=>cu.q2 (xs,()) z) (xs,()) v) xs (λ(m:List (Key×Bool)) (i:Int)=>(xs,m,xs,(xs.length:Int),i)) (λ_ m x=>match vt m x.2.2.2.1 with | none=>.inl (some ((7:Int),())) | some m'=>.inr m') (λ_=>some (if 12 < zk xs then 2 else 0,())) (λ_ _=>True) (by rw[an];omega)
   (λi hi m self _=>by
    show cu.b1 _ _ _ _ _=_
    grind [cu.b1])
   (λ_ _ _ _ _ _=>trivial) (λs self _=>by
    show cu.b1 _ _ _ _ _=_
    grind [cu.b1]) (jP []) trivial k Bys
  rw[K7,Nb _ _ fP] at this;refine aL this ?_;grind [Ed]
 have:=dj (B:=λself v=>cu.b0 self (λz=>cu.Q0 k (xs,()) z) (xs,()) v) xs (λ(_:Unit) (i:Int)=>i) (λi _ x=>if wD xs i x=0 then .inr () else .inl (some (wD xs i x,()))) (λ_=>some (if Ed xs then (if 12 < zk xs then 2 else 0) else 7,())) (λ_ _=>True) (by rw[an];omega)
  (λi hi s self _=>by
   show cu.b0 _ _ _ _=_;unfold cu.b0 wD;have a8:(i:Int) < (xs.length:Int):=by omega
   simp only[a8,aJ,aO,aK,aH,aC,aB hi,aA,LX,Vq _ (h2 _ (aN hi))]
   grind [gj,KG,an,Int.toNat_natCast])
  (λ_ _ _ _ _ _=>trivial) (λs self _=>by
   grind [cu.b0]) () trivial k Bys
 rw[Bu (wD xs)] at this;refine aL this ?_;grind [Bv]
theorem K8 (xs:List Tx) (h:pr xs):i_.ab (xs,())=some (ny xs,()):=by
 have ht:=h;obtain ⟨h1,h2⟩:=h;refine ag (k:=1048577) λk hk=>(i_.ae k _).trans ?_;unfold i_.p ny;by_cases h4:4 < xs.length
 ·grind
 have h4':¬ (4:Int) < (xs.length:Int):=by omega
 simp only[h4,h4',aG,aE,aS]
 have last:i_.q0 (xs,()) ()=some (if Ee xs then (if 12 < zk xs then 2 else 0) else 7,()):=by
  grind [i_.q0,Qh,Ho]
 have:=dj (B:=λself v=>i_.b0 self (λz=>i_.q0 (xs,()) z) (xs,()) v) xs (λ(_:Unit) (i:Int)=>i) (λi _ x=>if wD xs i x=0 then .inr () else .inl (some (wD xs i x,()))) (λ_=>some (if Ee xs then (if 12 < zk xs then 2 else 0) else 7,())) (λ_ _=>True) (by rw[an];omega)
  (λi hi s self _=>by
   show i_.b0 _ _ _ _=_;unfold i_.b0 wD;have a8:(i:Int) < (xs.length:Int):=by omega
   simp only[a8,aJ,aO,aK,aH,aC,aB hi,aA,mL,Rr _ (h2 _ (aN hi)),Py _ (h2 _ (aN hi))]
   have hj:(bif !decide (E4 xs[i]=0) then some (E4 xs[i],()) else bif !decide (vE xs[i]=0) then some (vE xs[i],()) else self (af ((i:Int)+1)))=match (generalizing:=false) (if AB xs[i]=0 then .inr () else .inl (some (AB xs[i],())):Sum (Option (Int×Unit)) Unit) with | .inl o=>o | .inr _=>self (af ((i:Int)+1)):=by
    grind [AB]
   grind [gj,KG,an,Int.toNat_natCast])
  (λ_ _ _ _ _ _=>trivial) (λs self _=>by
   grind [i_.b0]) () trivial k Bys
 rw[Bu (wD xs)] at this;refine aL this ?_;show (if Bv xs=0 then _ else some (Bv xs,()))=_;by_cases he:Bv xs=0
 ·rw[aM he,aM he,Zu (XN he) (λx hx=>by
   obtain ⟨i,hi,rfl⟩:=cV.1 hx
   exact Zt (CK (AC xs he i hi)).2.1)]
 grind
end OT
namespace OT
open Go
def dd (S:List Key) (ks:List Key):List Key:=ks.foldl (λS k=>if jO S k then S else S++[k]) S
def wY (rows:List Row):List Key:=rows.map λr=>(r.1,r.2.1,())
def vu (rows:List Row) (xs:List Tx):List Key:=wY rows++flatK xs
theorem RL {α:Type} (k:Ty) (m:List (k.den×α)) (x:k.den) (y:α) {i:Nat} (h:m.findIdx? (λe=>k.eq x e.1)=some i):nG k m x y=m.set i (x,y):=by
 grind [nG]
theorem XO {S:List Key} {k:Key} (h:jO S k=true):ue (jP S) k=jP S:=by
 have key:∀ (S:List Key) (i:Nat),(jP S).findIdx? (λe=>Ty.eq bc k e.1)=some i->(jP S)[i]?=some (k,true):=by
  intro S i hi;have h1:=eG.1 hi;grind [jP,z6]
 show nG bc (jP S) k true=jP S
 cases hf:(jP S).findIdx? (λe=>Ty.eq bc k e.1) with
 | none=>
  exfalso
  have h1:jY bc (jP S) k=none:=by
   unfold jY;have h2:=List.findIdx?_eq_none_iff.1 hf;have:(jP S).find? (λe=>Ty.eq bc k e.1)=none:=eJ.2 λe he=>by grind
   exact cN _ this
  grind [IK]
 | some i=>
  have h1:=key S i hf;have a8:=(aP.1 h1).1;refine (RL bc (jP S) k true hf).trans ?_;show (jP S).set i (k,true)=jP S;grind [List.set_getElem_self]
theorem Qj (S:List Key) (k:Key):ue (jP S) k=jP (if jO S k then S else S++[k]):=by
 cases h:jO S k with
 | true=>grind [XO]
 | false=>simp only[aF,aS];exact Qi h
theorem Tm:∀ (ks S:List Key),ks.foldl ue (jP S)=jP (dd S ks)
 | [],S=>rfl
 | k::ks,S=>by
  rw[eW,Qj,Tm ks];rfl
theorem Nd (S a b:List Key):dd S (a++b)=dd (dd S a) b:=List.foldl_append
theorem XP:∀ (ks S:List Key) (k:Key),k ∈ dd S ks↔k ∈ S\/k ∈ ks
 | [],S,k=>by simp[dd]
 | x::ks,S,k=>by
  show k ∈ dd (if jO S x then S else S++[x]) ks↔_;rw[XP ks];grind [jO]
theorem XQ:∀ (ks S:List Key),S.length<=(dd S ks).length
 | [],S=>aI _
 | x::ks,S=>by
  refine bH ?_ (XQ ks (if jO S x then S else S++[x]));grind
theorem Qk:∀ (ks S:List Key),(S++ks).Nodup->dd S ks=S++ks
 | [],S,_=>by simp[dd]
 | x::ks,S,h=>by
  have hx:jO S x=false:=by
   grind [jO]
  show dd (if jO S x then S else S++[x]) ks=_;rw[hx];simp only[aF,aS];rw[Qk ks (S++[x]) (by simpa using h)];simp
theorem RM {rows:List Row} (h:up rows):(wY rows).Nodup:=by
 unfold wY;rw[gL,gP];refine h.imp λ{a b} hab e=>?_;grind [rk,vl]
theorem Hq {rows:List Row} {xs:List Tx} (h:up rows):rows.length<=(dd [] (vu rows xs)).length:=by
 unfold vu;rw[Nd,Qk (wY rows) [] (by simpa using RM h)];refine bH ?_ (XQ _ _);simp[wY]
def Hr:List Key->List Key->Nat
 | _,[]=>0
 | S,k::ks=>(if jO S k then 0 else 1)+Hr (S++[k]) ks
theorem Mg:∀ (ks S T:List Key),(∀ k,k ∈ S↔k ∈ T)->(dd S ks).length=S.length+Hr T ks
 | [],S,T,_=>rfl
 | x::ks,S,T,h=>by
  have hx:jO S x=jO T x:=by grind [xL]
  show (dd (if jO S x then S else S++[x]) ks).length=_;simp only[Hr,<- hx]
  cases hh:jO S x with
  | true=>
   simp only[aH];rw[Mg ks S (T++[x]) λk=>?_]
   ·omega
   ·simp only[bO,bL,<- h k];constructor
    ·exact .inl
    ·rintro (h1 | h1)
     ·exact h1
     ·subst h1;exact xL.1 hh
  | false=>
   simp only[aF,aS];rw[Mg ks (S++[x]) (T++[x]) λk=>by grind];grind
def xG (rows:List Row) (xs:List Tx):Nat:=(dd [] (vu rows xs)).length
theorem Nf (rows:List Row) (xs:List Tx) (hr:rows.length<=1048576) (h:pr xs):d0.ab (rows,xs,())=some (jP (dd [] (vu rows xs)),()):=by
 obtain ⟨h1,h2⟩:=h;refine ag (k:=1048577) λk hk=>(d0.ae k _).trans ?_
 have inner:∀ (self:((List (Key×Bool))×(List Tx)×Int×Int)->Option d0.O) (e2:(List (Key×Bool))->Option d0.O) (i:Nat) (hi:i < xs.length) (m:List (Key×Bool)),d0.r2 k self e2 (rows,xs,()) xs (xs.length:Int) (i:Int) (xs[i]).2.2.2.1 (List.length (xs[i]).2.2.2.1:Int) (m,(0:Int))=self ((xs[i]).2.2.2.1.foldl ue m,xs,(xs.length:Int),af ((i:Int)+1)):=λself e2 i hi m=>by
  have Tl:=(h2 _ (aN hi)).2.2.1
  have:=dj (B:=λfx v=>d0.b2 fx (λz=>d0.q1 self e2 (rows,xs,()) xs (xs.length:Int) (i:Int) (xs[i]).2.2.2.1 (List.length (xs[i]).2.2.2.1:Int) z) (rows,xs,()) xs (xs.length:Int) (i:Int) (xs[i]).2.2.2.1 (List.length (xs[i]).2.2.2.1:Int) v) (xs[i]).2.2.2.1 (λ(m:List (Key×Bool)) (j:Int)=>(m,j)) (λ_ m y=>.inr (ue m y)) (λm=>self (m,xs,(xs.length:Int),af ((i:Int)+1))) (λ_ _=>True) (by rw[an];omega)
   (λj hj s fx _=>by
    show d0.b2 _ _ _ _ _ _ _ _ _=_;unfold d0.b2;have a8:(j:Int) < (List.length (xs[i]).2.2.2.1:Int):=by omega
    simp only[a8,aJ,aO,aK,aH,aC,aB hj,aA]
    rfl)
   (λ_ _ _ _ _ _=>trivial) (λs fx _=>by
    show d0.b2 _ _ _ _ _ _ _ _ _=_;unfold d0.b2;simp only[aU,aG,aE]
    rfl) m trivial k Bys
  rw[iv (g:=ue)] at this;exact this
 have second:∀ m,d0.r1 k (rows,xs,()) (m,xs,(xs.length:Int),(0:Int))=some ((flatK xs).foldl ue m,()):=λm=>by
  have:=cz (B:=λself v=>d0.B1 k self (λz=>d0.q2 (rows,xs,()) z) (rows,xs,()) v) xs (λ(m:List (Key×Bool)) (i:Int)=>(m,xs,(xs.length:Int),i)) (λ_ m x=>.inr (x.2.2.2.1.foldl ue m)) (λm=>(m,())) (λ_ _=>True) (by rw[an];omega)
   (λi hi m self _=>by
    show d0.b1 _ _ _ _ _=_
    grind [d0.b1])
   (λ_ _ _ _ _ _=>trivial) (λs self _=>by
    show d0.b1 _ _ _ _ _=_;unfold d0.b1;simp only[aU,aG,aE]
    rfl) m trivial k Bys
  rw[iv (g:=λm (x:Tx)=>x.2.2.2.1.foldl ue m)] at this;refine aL this ?_
  have:∀ (xs:List Tx) (m:List (Key×Bool)),xs.foldl (λm (x:Tx)=>x.2.2.2.1.foldl ue m) m=(flatK xs).foldl ue m:=by
   intro xs
   induction xs <;> grind [flatK]
  rw[this]
 have:=dj (B:=λself v=>d0.b0 self (λz=>d0.Q0 k (rows,xs,()) z) (rows,xs,()) v) rows (λ(m:List (Key×Bool)) (i:Int)=>(m,i)) (λ_ m r=>.inr (ue m (r.1,r.2.1,()))) (λm=>some ((flatK xs).foldl ue m,())) (λ_ _=>True) (by rw[an];omega)
  (λi hi m self _=>by
   show d0.b0 _ _ _ _=_;unfold d0.b0;have a8:(i:Int) < (rows.length:Int):=by omega
   simp only[a8,aJ,aO,aK,aH,aC,aB hi,aA]
   rfl)
  (λ_ _ _ _ _ _=>trivial) (λs self _=>by
   show d0.b0 _ _ _ _=_;unfold d0.b0;simp only[aU,aG,aE]
   exact second s) (jP []) trivial k Bys
 rw[iv (g:=λm (r:Row)=>ue m (r.1,r.2.1,()))] at this;refine aL this ?_;have e1:rows.foldl (λm (r:Row)=>ue m (r.1,r.2.1,())) (jP [])=(wY rows).foldl ue (jP []):=by unfold wY;rw[List.foldl_map]
 grind [Tm,vu]
theorem IM {O:Type} (x:Key) (E:Bool->Option O):∀ (ys:List Key) (j:Nat) (b:Bool),ci (λ_ b y=>if b then .inr (!decide (y=x)) else .inl (E false)) E j ys b=if b then E (!jO ys x) else E false
 | [],_,b=>by cases b <;> rfl
 | y::ys,j,b=>by
  cases b with
  | false=>simp[ci]
  | true=>
   simp only[ci,aH];rw[IM x E ys];grind [jO]
theorem Ql {O:Type} (all:List Key) (E:Int->O):∀ (ys pre:List Key) (n:Int),all=pre++ys->ci (λi n x=>.inr (if jO (all.take i) x then n else n+1)) E pre.length ys n=E (n+(Hr pre ys:Int))
 | [],pre,n,_=>by simp[ci,Hr]
 | y::ys,pre,n,h=>by
  simp only[ci];have ht:all.take pre.length=pre:=by rw[h];simp
  rw[ht];have:=Ql all E ys (pre++[y]) (if jO pre y then n else n+1) (by rw[h];simp);grind [Hr]
def Hs (k:Key):List Key:=if k.2.1=0 then [] else [k]
def Bw (rows:List Row) (xs:List Tx) (k:Key):Nat:=(dd [] (vu rows xs++Hs k)).length
theorem Ht (rows:List Row) (xs:List Tx) (kk:Key) (hr:rows.length<=1048576) (hx:xs.length<=1000) (h:∀ x ∈ xs,List.length x.2.2.2.1<=1000):cj.ab (rows,xs,kk,())=some ((Bw rows xs kk:Int),()):=by
 refine ag (k:=3000000) λk hk=>(cj.ae k _).trans ?_
 have DY:(flatK xs).length<=1000*xs.length:=by
  clear hx
  induction xs <;> grind [flatK]
 have Vr:∀ all:List Key,all.length<=2100000->cj.r2 k (rows,xs,kk,()) (all,(0:Int),(0:Int))=some ((Hr [] all:Int),()):=λall tV=>by
  have inner:∀ (self:((List Key)×Int×Int)->Option cj.O) (e4:Int->Option cj.O) (i:Nat) (hi:i < all.length) (n:Int),cj.r3 k self e4 (rows,xs,kk,()) all n (i:Int) (true,(0:Int))=if jO (all.take i) all[i] then self (all,n,af ((i:Int)+1)) else self (all,af (n+1),af ((i:Int)+1)):=λself e4 i hi n=>by
   have kY:(all.take i).length=i:=by simp;omega
   have:=dj (B:=λfx v=>cj.b3 fx (λz=>cj.q2 self e4 (rows,xs,kk,()) all n (i:Int) z) (rows,xs,kk,()) all n (i:Int) v) (all.take i) (λ(b:Bool) (j:Int)=>(b,j)) (λ_ b y=>if b then .inr (!decide (y=all[i])) else .inl (if false then self (all,af (n+1),af ((i:Int)+1)) else self (all,n,af ((i:Int)+1)))) (λb=>if b then self (all,af (n+1),af ((i:Int)+1)) else self (all,n,af ((i:Int)+1))) (λ_ _=>True) (by rw[an];omega)
    (λj hj b fx _=>by
     show cj.b3 _ _ _ _ _ _ _=_;unfold cj.b3;rw[kY] at hj;have a8:(j:Int) < (i:Int):=by omega
     have hjl:j < all.length:=by omega
     have c1:(0:Int)<=(j:Int)/\(j:Int) < (all.length:Int):=by omega
     have c2:(0:Int)<=(i:Int)/\(i:Int) < (all.length:Int):=by omega
     simp only[a8,c1,c2,bS,aJ,aO,aH,aC,aB hjl,aB hi,aA,z6,List.getElem_take]
     cases b <;> rfl)
    (λ_ _ _ _ _ _=>trivial) (λb fx _=>by
     show cj.b3 _ _ _ _ _ _ _=_;unfold cj.b3;simp only[kY,aU,aG,aE]
     cases b <;> rfl) true trivial k Bys
   have e:=IM all[i] (λb=>if b then self (all,af (n+1),af ((i:Int)+1)) else self (all,n,af ((i:Int)+1))) (all.take i) 0 true;refine (aL this e).trans ?_;grind
  have:=cz (B:=λself v=>cj.B2 k self (λz=>cj.q3 (rows,xs,kk,()) z) (rows,xs,kk,()) v) all (λ(n:Int) (i:Int)=>(all,n,i)) (λi n x=>.inr (if jO (all.take i) x then n else n+1)) (λn=>(n,())) (λi n=>0<=n/\n<=(i:Int)) (by rw[an];omega)
   (λi hi n self hI=>by
    show cj.b2 _ _ _ _ _=_
    grind [cj.b2,be])
   (λi hi n n' hI hs=>by
    grind) (λs self _=>by
    show cj.b2 _ _ _ _ _=_;unfold cj.b2;simp only[aU,aG,aE]
    rfl) 0 Bys k Bys
  have e:=Ql all (λn=>(n,())) all [] 0 rfl;refine (aL this (cN some e)).trans ?_;rw[Int.zero_add]
 have second:cj.r1 k (rows,xs,kk,()) (wY rows,(0:Int))=some ((Hr [] (vu rows xs++Hs kk):Int),()):=by
  have xW:(wY rows).length=rows.length:=by simp[wY]
  have:=dj (B:=λself v=>cj.b1 self (λz=>cj.Q1 k (rows,xs,kk,()) z) (rows,xs,kk,()) v) xs (λ(s:List Key) (i:Int)=>(s,i)) (λ_ s x=>.inr (s++x.2.2.2.1)) (λs=>cj.r2 k (rows,xs,kk,()) (s++Hs kk,(0:Int),(0:Int))) (λi s=>s.length<=1048576+1000*i) (by rw[an];omega)
   (λi hi s self hI=>by
    grind [cj.b1,dc,Int.natCast_nonneg])
   (λi hi s s' hI hs=>by
    grind) (λs self hI=>by
    show cj.b1 _ _ _ _=_;unfold cj.b1;simp only[aU,aG,aE];show cj.q1 _ _ _=_
    grind [cj.q1,Hs,dc]) (wY rows) Bys k Bys
  rw[iv (g:=λs (x:Tx)=>s++x.2.2.2.1)] at this;refine aL this ?_
  have e:∀ (xs:List Tx) (s:List Key),xs.foldl (λs (x:Tx)=>s++x.2.2.2.1) s=s++flatK xs:=by
   intro xs
   induction xs <;> grind [flatK]
  rw[e];have hex:(Hs kk).length<=1:=by grind [Hs]
  exact Vr _ (by grind)
 have:=dj (B:=λself v=>cj.b0 self (λz=>cj.Q0 k (rows,xs,kk,()) z) (rows,xs,kk,()) v) rows (λ(s:List Key) (i:Int)=>(s,i)) (λ_ s r=>.inr (s++[(r.1,r.2.1,())])) (λs=>cj.r1 k (rows,xs,kk,()) (s,(0:Int))) (λi s=>s.length=i) (by rw[an];omega)
  (λi hi s self hI=>by
   grind [cj.b0,dc,Int.natCast_nonneg])
  (λi hi s s' hI hs=>by grind) (λs self _=>by
   show cj.b0 _ _ _ _=_;unfold cj.b0;simp only[aU,aG,aE]
   rfl) [] rfl k Bys
 rw[iv (g:=λs (r:Row)=>s++[(r.1,r.2.1,())])] at this
 have e:∀ (rows:List Row) (s:List Key),rows.foldl (λs (r:Row)=>s++[(r.1,r.2.1,())]) s=s++wY rows:=by
  intro rows
  induction rows <;> grind [wY]
 rw[e,cG,second] at this;refine aL this ?_;have:=Mg (vu rows xs++Hs kk) [] [] (λ_=>iG);grind [Bw]
theorem RN (rows:List Row) (xs:List Tx) (hr:rows.length<=1048576) (hx:xs.length<=1000) (h:∀ x ∈ xs,List.length x.2.2.2.1<=1000):cj.ab (rows,xs,((0:Int),(0:Int),()),())=some ((xG rows xs:Int),()):=by
 rw[Ht rows xs _ hr hx h];unfold Bw Hs;simp only[aH,cY];rfl
theorem XR {ks:List Key} (h:yY ks=0):∀ k ∈ ks,Bm k=true:=by
 have main:∀ (ys:List Key) (j:Nat),(ci (λi (_:Unit) k=>if tL ks i k=0 then .inr () else .inl (tL ks i k)) (λ_=>(0:Int)) j ys ())=0->∀ y ∈ ys,Bm y=true:=by
  intro ys
  induction ys <;> grind [ci,tL]
 exact main ks 0 h
structure Bx (xs:List Tx):Prop where
 len:xs.length<=4
 ch:∀ x ∈ xs,∀ c ∈ (x.2.1:List Change),nC c=0
 Vt:∀ x ∈ xs,List.length x.2.2.2.1<=12
 vv:∀ x ∈ xs,List.length x.2.1<=12
 keys:∀ x ∈ xs,∀ k ∈ (x.2.2.2.1:List Key),Bm k=true
theorem IN {α:Type} {c:α->Int}:∀ {xs:List α},nI c xs=0->∀ x ∈ xs,c x=0
 | [],_,_,h=>by cases h
 | y::ys,h,x,hx=>by
  simp only[nI] at h;split at h
  ·rcases aY.1 hx with e | e
   ·subst e;assumption
   ·exact IN h x e
  grind
theorem Tn:∀ (xs:List Tx) (n:Int),0<=n->n<=xs.foldl (λn x=>n+(List.length x.2.1:Int)) n/\∀ x ∈ xs,(List.length x.2.1:Int)<=xs.foldl (λn x=>n+(List.length x.2.1:Int)) n
 | [],n,h=>⟨gB _,λx hx=>by cases hx⟩
 | y::ys,n,h=>by
  obtain ⟨h1,h2⟩:=Tn ys (n+(List.length y.2.1:Int)) Bys;grind
theorem CL {xs:List Tx} (h:ny xs=0):Bx xs:=by
 unfold ny at h;split at h
 ·cases h
 ·rename_i hl;split at h
  ·rename_i he;split at h
   ·split at h
    ·cases h
    ·rename_i hc
     have each:∀ x ∈ xs,AB x=0:=λx hx=>by
      obtain ⟨i,hi,rfl⟩:=cV.1 hx;exact (CK (AC xs he i hi)).2.1
     refine ⟨by omega,λx hx c hcm=>?_,λx hx=>?_,λx hx=>?_,λx hx=>?_⟩
     ·have h1:=each x hx;unfold AB at h1;split at h1
      ·rename_i hu;have h2:=IN hu c hcm;grind [z7,FT]
      grind
     ·grind [AB,vE]
     ·have:=(Tn xs 0 (gB _)).2 x hx;grind [zk]
     grind [AB,vE,XR]
   ·cases h
  grind
end OT
namespace OT
open Go
def Hu (c:Change):Change:=(c.2.2.1,c.2.2.2.1,c.1,c.2.1,())
def lK (cs:List Change):List Change:=cs.reverse.map Hu
theorem zO (cs:List Change):(lK cs).length=cs.length:=by simp[lK]
theorem To {cs:List Change} {c:Change} (h:c ∈ lK cs):∃ d ∈ cs,c=Hu d:=by
 grind [lK]
theorem abj {c:Change} (h:nC c=0):nC (Hu c)=0:=by
 grind [nC,Hu,sameKey]
theorem Hv (cs:List Change) (hl:cs.length<=1048576) {O:Type} {B:((List Change×Int)->Option O)->(List Change×Int)->Option O} {E:List Change->Option O}
  (gw:∀ (m:Nat) (hm:m < cs.length) acc self,acc.length<=1048576->B self (acc,(m:Int))=self (acc++[Hu cs[m]],af ((m:Int) - 1))) (pL:∀ acc self,B self (acc,(-1:Int))=E acc) :
  ∀ k,cs.length < k->am B k ([],af ((cs.length:Int) - 1))=E (lK cs):=by
 have main:∀ (m:Nat) (acc:List Change),m<=cs.length->acc.length+m<=cs.length->∀ k,m < k->am B k (acc,(m:Int) - 1)=E (acc++(cs.take m).reverse.map Hu):=by
  intro m
  induction m with
  | zero=>
   intro acc _ _ k hk;cases k <;> grind [am]
  | succ m ih=>
   intro acc hm ha k hk
   cases k with
   | zero=>omega
   | succ k=>
    show B (am B k) _=_;have e:((m+1:Nat):Int) - 1=(m:Int):=by omega
    rw[e,gw m Bys acc _ Bys,be Bys,ih _ Bys (by simp;omega) k Bys,dV Bys,List.reverse_append,fJ,bK];rfl
 grind [be,lK]
theorem K9 (cs:List Change) (hl:cs.length<=1048576):jh.ab (cs,())=some (lK cs,()):=by
 refine ag (k:=cs.length+1) λk hk=>(jh.ae k _).trans ?_;refine Hv cs hl (B:=λself v=>jh.b0 self (λz=>jh.q0 (cs,()) z) (cs,()) v) (E:=λz=>some (z,())) (λm hm acc self ha=>?_) (λacc self=>?_) k Bys
 ·grind [jh.b0,Hu,dc]
 ·show jh.b0 _ _ _ _=_;unfold jh.b0;rfl
theorem FB (cs:List Change) (hl:cs.length<=1048576):kE.ab (cs,())=some (lK cs,()):=by
 refine ag (k:=cs.length+1) λk hk=>(kE.ae k _).trans ?_;refine Hv cs hl (B:=λself v=>kE.b0 self (λz=>kE.q0 (cs,()) z) (cs,()) v) (E:=λz=>some (z,())) (λm hm acc self ha=>?_) (λacc self=>?_) k Bys
 ·grind [kE.b0,Hu,dc]
 ·show kE.b0 _ _ _ _=_;unfold kE.b0;rfl
def oX:List Row->List Change->Option (List Row)
 | s,[]=>some s
 | s,c::cs=>if uw s c then oX (ry s c) cs else none
theorem back_append:∀ (a b:List Change) (s:List Row),oX s (a++b)=(oX s a).bind λt=>oX t b
 | [],b,s=>rfl
 | c::a,b,s=>by
  simp only[dA,oX];split
  ·exact back_append a b _
  ·rfl
theorem Ng {O:Type} (bad:O) (fin:List Row->O):∀ (cs:List Change) (i:Nat) (s:List Row),ci (λ_ s c=>if uw s c then .inr (ry s c) else .inl bad) fin i cs s=match oX s cs with | some t=>fin t | none=>bad
 | [],_,_=>rfl
 | c::cs,i,s=>by
  simp only[ci,oX];by_cases h:uw s c=true
  ·simp only[h,aH];exact Ng bad fin cs _ _
  ·simp[h]
theorem Hw:∀ (cs:List Change) (s t:List Row),Good s->(∀ c ∈ cs,nC c=0)->oX s cs=some t->Good t/\t.length<=s.length+cs.length
 | [],s,t,h,_,hb=>by injection hb with hb;grind
 | c::cs,s,t,h,hc,hb=>by
  simp only[oX] at hb;split at hb
  ·have h1:=Hw cs (ry s c) t (Az h (hc c (by simp))) (λd hd=>hc d (by simp[hd])) hb;grind [Fm]
  ·cases hb
theorem Qm {O α:Type} {f:Nat->Unit->α->Sum O Unit} {fin:Unit->O}:∀ (xs:List α) (j:Nat),(∀ i (hi:i < xs.length),f (j+i) () xs[i]=.inr ())->ci f fin j xs ()=fin ()
 | [],_,_=>rfl
 | x::xs,j,h=>by
  have h0:=h 0 (by simp);simp only[eM,List.getElem_cons_zero] at h0;simp only[ci,h0]
  exact Qm xs (j+1) λi hi=>by
   have:=h (i+1) (by simp;omega);grind
theorem K_ {xs:List Row} (h:Good xs) (hl:xs.length<=60):l8 xs=0:=by
 unfold l8;rw[aV Bys,Qm xs 0 λi hi=>?_];unfold ua;rw[aM (h.ok _ (aN hi)),bQ];by_cases h0:0 < i
 ·rw[aM h0,aB (show i - 1 < xs.length by omega)];have hu:=h.up;grind [up,List.pairwise_iff_getElem]
 ·rw[aV h0]
theorem Vu {s:List Row} {cs:List Change} (h:Good s) (hc:∀ c ∈ cs,nC c=0) (hl:s.length+cs.length<=60):KM s cs=match oX s cs with | some t=>((0:Int),t,()) | none=>((8:Int),([]:List Row),()):=by
 unfold KM;rw[aM (K_ h Bys)]
 have main:∀ (cs:List Change) (s:List Row) (i:Nat),Good s->(∀ c ∈ cs,nC c=0)->s.length+cs.length<=60->(ci wA Cz i cs s).1=match oX s cs with | some t=>((0:Int),t,()) | none=>((8:Int),([]:List Row),()):=by
  intro cs
  induction cs <;> grind [ci,Cz,oX,wA,Fm,Az]
 grind
def By (xs:List Tx):List Change:=xs.flatMap λx=>lK x.2.1
theorem FC {O:Type} (bad:O) (fin:List Row->O):∀ (xs:List Tx) (i:Nat) (s:List Row),ci (λ_ s x=>match oX s (lK x.2.1) with | some t=>.inr t | none=>.inl bad) fin i xs s=match oX s (By xs) with | some t=>fin t | none=>bad
 | [],_,_=>rfl
 | x::xs,i,s=>by
  have hb:By (x::xs)=lK x.2.1++By xs:=by simp[By]
  rw[hb,back_append];simp only[ci]
  cases oX s (lK x.2.1) with
  | none=>rfl
  | some t=>simp only[aA];exact FC bad fin xs _ _
theorem CM {cs:List Change} (h:∀ c ∈ cs,nC c=0):∀ c ∈ lK cs,nC c=0:=λc hc=>by
 grind [To,abj]
theorem Qn {cs:List Change} (h:∀ c ∈ cs,cl c):∀ c ∈ lK cs,cl c:=λc hc=>by
 obtain ⟨d,h1,rfl⟩:=To hc;exact ⟨(h d h1).2,(h d h1).1⟩
theorem abk {s:List Row} (h:Good s):∀ x ∈ s,rl x:=λx hx=>by
 have:=Ay (h.ok x hx);grind [rl,an]
theorem Qo (s:List Row) (cs:List Change) (h:Good s) (hc:∀ c ∈ cs,nC c=0) (hl:s.length+cs.length<=1000):ma.ab (s,cs,())=some (match oX s (lK cs) with | some t=>(t,true,()) | none=>(([]:List Row),false,())):=by
 refine ag (k:=1001) λk hk=>(ma.ae k _).trans ?_;unfold ma.p;rw[K9 cs Bys];simp only[aA];have hlen:=zO cs;have AD:=CM hc
 have:=cz (B:=λself v=>ma.b0 self (λz=>ma.q0 (s,cs,()) (lK cs) z) (s,cs,()) (lK cs) v) (lK cs) (λ(s:List Row) (i:Int)=>(s,i)) (λ_ s c=>if uw s c then .inr (ry s c) else .inl (([]:List Row),false,())) (λs=>(s,true,())) (λi t=>Good t/\t.length<=s.length+i) (by rw[an];omega)
  (λi hi t self hI=>by
   show ma.b0 _ _ _ _ _=_;unfold ma.b0;have a8:(i:Int) < ((lK cs).length:Int):=by omega
   have gw:(0:Int)<=(i:Int)/\(i:Int) < ((lK cs).length:Int):=by omega
   simp only[a8,gw,bS,aJ,aO,aH,aC,aB hi,aA];rw[Xj t _ hI.1.up Bys (td (AD _ (aN hi))).1]
   grind)
  (λi hi t t' hI hs=>by
   grind [Fm,Az]) (λt self _=>by
   show ma.b0 _ _ _ _ _=_;unfold ma.b0;simp only[aU,aG,aE]
   rfl) s ⟨h,by omega⟩ k Bys
 rw[Ng] at this;refine aL this ?_;grind
theorem RP (rows:List Row) (xs:List Tx) (h:Good rows) (hl:rows.length<=12) (hx:Bx xs):mc.ab (rows,xs,())=some (match oX rows (By xs) with | some t=>(t,true,()) | none=>(([]:List Row),false,())):=by
 refine ag (k:=10) λk hk=>(mc.ae k _).trans ?_;unfold mc.p;have hc:([]:List Row).length+rows.length<=ct:=dc (by grind);rw[aM hc,cG];have hx4:=hx.len
 have:=cz (B:=λself v=>mc.b0 self (λz=>mc.q0 (rows,xs,()) z) (rows,xs,()) v) xs (λ(s:List Row) (i:Int)=>(s,i)) (λ_ s x=>match oX s (lK x.2.1) with | some t=>.inr t | none=>.inl (([]:List Row),false,())) (λs=>(s,true,())) (λi t=>Good t/\t.length<=12+12*i) (by rw[an];omega)
  (λi hi t self hI=>by
   show mc.b0 _ _ _ _=_;unfold mc.b0;have a8:(i:Int) < (xs.length:Int):=by omega
   have hu:=hx.vv _ (aN hi);simp only[a8,aJ,aO,aK,aH,aC,aB hi,aA];rw[Qo t _ hI.1 (hx.ch _ (aN hi)) Bys]
   grind)
  (λi hi t t' hI hs=>by
   have hu:=hx.vv _ (aN hi)
   cases hb:oX t (lK (xs[i]).2.1) with
   | none=>grind
   | some q=>
    rw[hb] at hs;injection hs with hs;subst hs;have:=Hw _ _ _ hI.1 (CM (hx.ch _ (aN hi))) hb
    grind [zO]) (λt self _=>by
   show mc.b0 _ _ _ _=_;unfold mc.b0;simp only[aU,aG,aE]
   rfl) rows ⟨h,by omega⟩ k Bys
 rw[FC] at this;refine aL this ?_;grind
theorem Qp (rows:List Row) (xs:List Tx) (h:Good rows) (hl:rows.length<=12) (hx:Bx xs) (ht:pr xs):kj.ab (rows,xs,())=some (match oX rows (By xs) with | some t=>(t,(0:Int),()) | none=>(([]:List Row),(8:Int),())):=by
 refine ag (k:=10) λk hk=>(kj.ae k _).trans ?_;unfold kj.p;have hx4:=hx.len
 have:=cz (B:=λself v=>kj.b0 self (λz=>kj.q0 (rows,xs,()) z) (rows,xs,()) v) xs (λ(s:List Row) (i:Int)=>(s,i)) (λ_ s x=>match oX s (lK x.2.1) with | some t=>.inr t | none=>.inl (([]:List Row),(8:Int),())) (λs=>(s,(0:Int),())) (λi t=>Good t/\t.length<=12+12*i) (by rw[an];omega)
  (λi hi t self hI=>by
   show kj.b0 _ _ _ _=_;unfold kj.b0;have a8:(i:Int) < (xs.length:Int):=by omega
   have hu:=hx.vv _ (aN hi);have AD:=CM (hx.ch _ (aN hi));have htl:=ht.2 _ (aN hi);simp only[a8,aJ,aO,aK,aH,aC,aB hi,aA];rw[FB _ htl.1];simp only[aA];have Wi:=zO (xs[i]).2.1;rw[PC t _ (by rw[an];omega) (abk hI.1) Bys (Qn htl.2.2.2),Vu hI.1 AD Bys]
   grind)
  (λi hi t t' hI hs=>by
   have hu:=hx.vv _ (aN hi)
   cases hb:oX t (lK (xs[i]).2.1) with
   | none=>grind
   | some q=>
    rw[hb] at hs;injection hs with hs;subst hs;have:=Hw _ _ _ hI.1 (CM (hx.ch _ (aN hi))) hb
    grind [zO]) (λt self hI=>by
   grind [kj.b0,kj.q0,IA]) rows ⟨h,by omega⟩ k Bys
 rw[FC] at this;refine aL this ?_;grind
def La (n:Int) (xs:List Tx):Bool:=match xs[xs.length - 1]? with
 | some x=>decide (n<=x.1)
 | none=>false
def rR (p:Plain):Int:=
 if l8 p.1=0 then
  if ny p.2.1=0 then
   if gj p.2.2.1 1 100&&!La p.2.2.1 p.2.1 then
    if 12 < xG p.1 p.2.1 then 2 else (match oX p.1 (By p.2.1) with | some _=>0 | none=>8)
   else 3
  else ny p.2.1
 else l8 p.1
def Lb (p:Plain):Prop:=List.length p.1<=1048576/\(∀ x ∈ (p.1:List Row),rl x)/\pr p.2.1
theorem Tp {O:Type} (n:Int) (xs:List Tx) (hl:xs.length<=1048576) (bad j:Option O) :
  (bif decide ((0:Int) < (xs.length:Int)) then (if 0<=af ((xs.length:Int) - (1:Int)) then ((xs[(af ((xs.length:Int) - (1:Int))).toNat]?).bind λx5=>bif decide (n<=x5.1) then bad else j) else none) else j)=if La n xs then bad else j:=by
 grind [La,be,Int.toNat_natCast]
theorem Qq (p:Plain) (h:Lb p):oH.ab (p,())=some (rR p,()):=by
 obtain ⟨rows,xs,n,⟨⟩⟩:=p;obtain ⟨h1,h2,h3⟩:=h;simp only at h1 h2 h3;refine ag (k:=0) λk _=>(oH.ae k _).trans ?_;show oH.p _=_;unfold oH.p rR;simp only[DD rows (by rw[an];omega) h2,FA xs h3,sj,Nf rows xs h1 h3,aA];by_cases hr:l8 rows=0;rotate_left
 ·grind
 by_cases ht:ny xs=0;rotate_left
 ·grind
 obtain ⟨hg,_⟩:=tN hr;have bd:=CL ht;simp only[hr,ht,aJ,aR,aE,aH];have gw:(decide ((1:Int)<=n)&&decide (n<=100))=gj n 1 100:=rfl;rw[gw]
 cases gj n 1 100 with
 | false=>rfl
 | true=>
  simp only[aR,aE,dT];rw[Tp n xs h3.1]
  cases La n xs with
  | true=>rfl
  | false=>
   simp only[bW,aF,aS,aH];have hlen:(jP (dd [] (vu rows xs))).length=xG rows xs:=by simp[jP,xG]
   by_cases Bc:12 < xG rows xs
   ·grind
   ·have:¬ (12:Int) < ((jP (dd [] (vu rows xs))).length:Int):=by grind
    have xW:rows.length<=12:=by
     have:=Hq (xs:=xs) hg.up;grind [xG]
    grind [Qp]
theorem Qr (p:Plain) (h:Lb p):qj.ab (p,())=some (rR p,()):=by
 obtain ⟨rows,xs,n,⟨⟩⟩:=p;obtain ⟨h1,h2,h3⟩:=h;simp only at h1 h2 h3;refine ag (k:=0) λk _=>(qj.ae k _).trans ?_;show qj.p _=_;unfold qj.p rR;simp only[Iz rows (by rw[an];omega) h2,K8 xs h3,mL,aA];by_cases hr:l8 rows=0;rotate_left
 ·grind
 by_cases ht:ny xs=0;rotate_left
 ·grind
 obtain ⟨hg,_⟩:=tN hr;have bd:=CL ht;have acy:=RN rows xs h1 (by have:=bd.len;omega) (λx hx=>by have:=bd.Vt x hx;omega);simp only[hr,ht,aJ,aR,aE,aH,acy,aA];have gw:(decide ((1:Int)<=n)&&decide (n<=100))=gj n 1 100:=rfl;rw[gw]
 cases gj n 1 100 with
 | false=>rfl
 | true=>
  simp only[aR,aE,dT];rw[Tp n xs h3.1]
  cases La n xs with
  | true=>rfl
  | false=>
   simp only[bW,aF,aS,aH];by_cases Bc:12 < xG rows xs
   ·grind
   ·have:¬ (12:Int) < (xG rows xs:Int):=by omega
    have xW:rows.length<=12:=by
     have:=Hq (xs:=xs) hg.up;grind [xG]
    grind [RP]
theorem Zw {p:Plain} (hv:ui D3 p) (hz:zz D3 p<=1048576):Lb p:=by
 obtain ⟨rows,xs,n,⟨⟩⟩:=p;obtain ⟨hr,hx,_⟩:=hv;replace hz:zz (.aa aT) rows+(zz (.aa bh) xs+(0+0))<=1048576:=hz;refine ⟨bH (yG (e:=aT) rows) Bys,λx hm=>NV (hr.2 x hm),bH (yG (e:=bh) xs) Bys,λx hm=>?_⟩
 have h1:zz bh x+1<=zz (.aa bh) xs:=GC (e:=bh) hm;have h2:zz bh x=0+(zz (.aa ao) x.2.1+(zz (.aa i64) x.2.2.1+(zz (.aa bc) x.2.2.2.1+0))):=rfl;have h3:List.length x.2.1<=zz (.aa ao) x.2.1:=yG (e:=ao) x.2.1;have h4:List.length x.2.2.1<=zz (.aa i64) x.2.2.1:=yG (e:=i64) x.2.2.1;have h5:List.length x.2.2.2.1<=zz (.aa bc) x.2.2.2.1:=yG (e:=bc) x.2.2.2.1;exact ⟨by omega,by omega,by omega,λc hc=>adw ((hx.2 x hm).2.1.2 c hc)⟩
end OT
namespace OT
open Go
end OT
namespace OT
open Go
theorem abl {a b:List UInt8} {i:Nat} (h:i < a.length):c9 (a++b) i=c9 a i:=by
 grind [c9]
theorem XS {a b:List UInt8} {q:bk×Nat} (h:uy a=some q):uy (a++b)=some q:=by
 grind [uy,abl]
theorem IP (b:List UInt8):∀ (k:Nat) (a:List UInt8),a.length < k->(kX k a).2=a.length->kX (k+b.length) (a++b)=((kX k a).1++(xf b).1,a.length+(xf b).2)
 | 0,_,h,_=>by omega
 | k+1,a,hk,h=>by
  cases hr:uy a with
  | none=>
   simp only[kX,hr] at h;have:a=[]:=bR h.symm;subst this;grind [xF,kX,xf]
  | some q=>
   obtain ⟨r,n⟩:=q;have hn:=Ec hr;have hd:(a.drop n).length=a.length - n:=bX;simp only[kX,hr] at h;have ih:=IP b k (a.drop n) Bys Bys;have e:k+1+b.length=(k+b.length)+1:=by omega
   rw[e];simp only[kX,hr,XS hr,gA hn.2.1,ih,dA];grind
theorem XT {a b:List UInt8} (h:zi a=true):xf (a++b)=((xf a).1++(xf b).1,a.length+(xf b).2):=by
 have:=IP b (a.length+1) a Bys (fC h);grind [xf]
def wZ (l:Log):List bk:=(xf l.1).1++(xf l.2.1).1
theorem Hx:∀ (k:Nat) (d:List UInt8),(kX k d).1.length<=d.length
 | 0,d=>aW _
 | k+1,d=>by
  simp only[kX]
  cases hr:uy d with
  | none=>exact aW _
  | some q=>
   obtain ⟨r,n⟩:=q;have hn:=Ec hr;have hd:(d.drop n).length=d.length - n:=bX;have:=Hx k (d.drop n);grind
theorem Dl {l:Log} (h:zj l=0):List.length l.1+List.length l.2.1<=16000/\zi l.1=true/\zi l.2.1=true:=by
 grind [zj]
theorem Jy {l:Log} (h:zj l=0):(wZ l).length<=16000:=by
 have h1:=Dl h;grind [wZ,Hx,xf]
theorem RR {l:Log} (h:zj l=0):o6.ab (l,())=some (wZ l,()):=by
 have h1:=Dl h;have h2:=Jy h;refine ag (k:=0) λk _=>(o6.ae k _).trans ?_;grind [o6.p,K3,dc,wZ]
theorem Zx (d:List UInt8) (hd:d.length<=1048576):br.ab (d,())=some (d,()):=my d Bys
theorem RS {l:Log} (h:zj l=0):pM.ab (l,())=some (wZ l,()):=by
 have h1:=Dl h;refine ag (k:=0) λk _=>(pM.ae k _).trans ?_;unfold pM.p;simp only[Zx l.1 Bys,aA];rw[aM (dc Bys),K4 _ (by grind)];rw[XT h1.2.1];rfl
theorem Jz {α:Type} [DecidableEq α]:∀ {a b:List α},a.length=b.length->Ck (λx y=>decide (x=y)) a b=decide (a=b)
 | [],[],_=>by simp[Ck]
 | x::a,y::b,h=>by
  have ih:=Jz (a:=a) (b:=b) (by simpa using h);grind [Ck,List.zip_cons_cons]
 | [],_::_,h=>by cases h
 | _::_,[],h=>by cases h
theorem RU (a b:List (List UInt8)) (hl:a.length<=1000):m9.ab (a,b,())=some (decide (a=b),()):=by
 refine ag (k:=1002) λk hk=>(m9.ae k _).trans ?_;unfold m9.p;by_cases hlen:a.length=b.length;rotate_left
 ·have e1:¬ ((a.length:Int)=(b.length:Int)):=by omega
  have e2:¬ a=b:=λh=>hlen (by rw[h]);grind
 have e1:((a.length:Int)=(b.length:Int)):=by omega
 simp only[e1,aJ,aR,aE]
 have:=Jd (B:=λself v=>m9.b0 self (λz=>m9.q0 (a,b,()) z) (a,b,()) v) (xs:=a) (ys:=b) (λx y=>decide (x=y)) hlen (by rw[an];omega)
  (λi hx hy self=>by
   grind [m9.b0]) (λself=>by
   show m9.b0 _ _ _ _=_;unfold m9.b0;rw[bA (aU _),aE]
   rfl) k Bys
 refine this.trans ?_;rw[Jz hlen]
theorem RV (a b:List (List UInt8)) (hl:a.length<=1000) (ha:∀ x ∈ a,x.length<=100000):qE.ab (a,b,())=some (decide (a=b),()):=by
 refine ag (k:=0) λk _=>(qE.ae k _).trans ?_;unfold qE.p
 have:∀ f:Nat×Int,ge.ab (a,b,f,())=some (decide (a=b),()):=λf=>by
  refine ag (k:=1002) λk hk=>(ge.ae k _).trans ?_;unfold ge.p;by_cases hlen:a.length=b.length;rotate_left
  ·have e1:¬ ((a.length:Int)=(b.length:Int)):=by omega
   have e2:¬ a=b:=λh=>hlen (by rw[h]);grind
  have e1:((a.length:Int)=(b.length:Int)):=by omega
  simp only[e1,aJ,aR,aE]
  have:=Jd (B:=λself v=>ge.b0 self (λz=>ge.q0 (a,b,f,()) z) (a,b,f,()) v) (xs:=a) (ys:=b) (λx y=>decide (x=y)) hlen (by rw[an];omega)
   (λi hx hy self=>by
    grind [ge.b0,Int.toNat_natCast,Qe]) (λself=>by
    show ge.b0 _ _ _ _=_;unfold ge.b0;rw[bA (aU _),aE]
    rfl) k Bys
  refine this.trans ?_;rw[Jz hlen]
 rw[this];rfl
theorem Qs {s:ba} (h:ip s.2.1=0):p_.ab (s,())=some (bm s.2.1,()):=by
 have hr:=Bp h;refine ag (k:=0) λk _=>(p_.ae k _).trans ?_;unfold p_.p;rw[DG s.2.1 (λp hp=>by rw[(hr.1.2 p hp).len,an];omega)];simp only[aA];rw[DH _ (by grind [Dg,qH])];rfl
theorem Qt {d:List UInt8} (h:d.length<=64):List.length (ee d).1.2.2.2.2.1.2.2.2.1<=64:=by
 unfold ee;split
 ·exact aW _
 ·split
  ·exact aW _
  ·show (d.drop 6).length<=64;rw[bX];omega
theorem Qu {p:List UInt8} (s:Nat) (h:p.length<=64):(je p s).length<=64:=by
 grind [je]
theorem Zy {ps:ca} (h:lP ps) (a b:Int):List.length (pw ps a b).1.2.2.2.2.1.2.2.2.1<=64:=by
 unfold pw
 cases hp:ps[a.toNat]? with
 | none=>exact aW _
 | some p=>
  have hm:=h.2 p (bU hp);simp only;split
  ·exact Qt (Qu _ (by rw[hm.len];omega))
  ·exact aW _
theorem abm {ps:ca} (h:ip ps=0):∀ r ∈ bm ps,List.length r.2.2.2.1<=64:=λr hr=>by
 have hv:=Bp h;rw[zL (qH h),(Bo _).mem_iff,eV] at hr;obtain ⟨x,hx,rfl⟩:=hr;unfold jH at hx;rw[dF] at hx;obtain ⟨y,hy,hx⟩:=hx;unfold sO at hx;split at hx
 ·cases hx
 ·rw[bL] at hx;subst hx;unfold wU;split
  ·exact Zy hv.1 _ _
  ·obtain ⟨P,p,t,h1,h2,h3,rfl⟩:=xN.1 hy;exact Qt (Qu _ (by rw[(hv.1.2 p (bU h1)).len];omega))
theorem abn {ps:ca} (h:ip ps=0):∀ r ∈ bm ps,rl r:=λr hr=>by
 grind [abm,rl,an]
theorem Zz {ps:ca} (h:ip ps=0):(bm ps).length<=192:=by
 grind [bm,Dg,qH]
def Qv (s:ba):Prop:=Qf s.2.2.1/\(∀ p ∈ (s.2.1:ca),p.length<=maxLen)/\pr s.2.2.2.1
theorem Qw {s:ba} (h:Qv s) (hv:ip s.2.1=0):Lb (bm s.2.1,s.2.2.2.1,s.2.2.2.2.1,()):=
 ⟨by grind [Zz],abn hv,h.2.2⟩
def Vv (s:ba):Int:=if decide (0 < List.length s.2.1)||(decide (0 < List.length s.2.2.2.1)||decide (0 < List.length s.2.2.1.2.1)) then 1 else if gj s.2.2.2.2.1 1 100 then 0 else 3
def upF (s:ba):Int:=if ip s.2.1=0 then
        if rR (bm s.2.1,s.2.2.2.1,s.2.2.2.2.1,())=0 then
         if (zZ (wZ s.2.2.1)).2.1=0/\(zZ (wZ s.2.2.1)).1=s.2.1 then 0 else 8
        else rR (bm s.2.1,s.2.2.2.1,s.2.2.2.2.1,())
   else ip s.2.1
def xz (s:ba):Int:=if zj s.2.2.1=0 then (bif s.1 then upF s else Vv s) else zj s.2.2.1
theorem Tq (s:ba) (A:Option (Bool×Unit)) (h:A=some (gj s.2.2.2.2.1 1 100,())) :
  (bif decide ((0:Int) < (List.length s.2.1:Int)) then (some ((1:Int),())) else bif decide ((0:Int) < (List.length s.2.2.2.1:Int)) then (some ((1:Int),())) else bif decide ((0:Int) < (List.length s.2.2.1.2.1:Int)) then (some ((1:Int),())) else A.bind λr3=>bif !r3.1 then (some ((3:Int),())) else some ((0:Int),()))=some (Vv s,()):=by
 grind [Vv]
theorem Hy {s:ba} (h:Qv s):p6.ab (s,())=some (xz s,()):=by
 refine ag (k:=0) λk _=>(p6.ae k _).trans ?_;unfold p6.p xz;simp only[Vp _ h.1,aA];by_cases h0:zj s.2.2.1=0;rotate_left
 ·grind
 simp only[h0,aJ,aR,aE,aH]
 cases hu:s.1 with
 | false=>exact Tq s _ (sj _ _ _)
 | true=>
  simp only[aR,aE,aO];unfold upF;rw[DG s.2.1 h.2.1];simp only[aA];by_cases h1:ip s.2.1=0;rotate_left
  ·grind
  simp only[h1,aJ,aR,aE,aH];rw[DH _ (by grind [Dg,qH])];simp only[aA];have hp:=Qq _ (Qw h h1);unfold bm at hp ⊢;rw[hp];simp only[aA];generalize rR ((ze s.2.1).map (·.1),s.2.2.2.1,s.2.2.2.2.1,())=c;by_cases h2:c=0;rotate_left
  ·grind
  simp only[h2,aJ,aR,aE,aH,RR h0,aA,Rl _ (show (wZ s.2.2.1).length<=maxLen by grind [Jy,an])];by_cases h3:(zZ (wZ s.2.2.1)).2.1=0;rotate_left
  ·grind
  have hg:=KE _ h3;simp only[h3,aJ,aR,aE,dN,RV _ s.2.1 (show List.length (zZ (wZ s.2.2.1)).1<=1000 by have:=hg.1;omega) (λx hx=>by have:=hg.2 x hx;omega),aA];grind
theorem Ef {s:ba} (h:Qv s):rG.ab (s,())=some (xz s,()):=by
 refine ag (k:=0) λk _=>(rG.ae k _).trans ?_;unfold rG.p xz;simp only[Vo _ h.1,aA];by_cases h0:zj s.2.2.1=0;rotate_left
 ·grind
 simp only[h0,aJ,aR,aE,aH]
 cases hu:s.1 with
 | false=>exact Tq s _ (mL _ _ _)
 | true=>
  simp only[aR,aE,aO];unfold upF;rw[Rt s.2.1 h.2.1];simp only[aA];by_cases h1:ip s.2.1=0;rotate_left
  ·grind
  simp only[h1,aJ,aR,aE,aH];rw[FX h1];simp only[aA];rw[Qr _ (Qw h h1)];simp only[aA];generalize rR (bm s.2.1,s.2.2.2.1,s.2.2.2.2.1,())=c;by_cases h2:c=0;rotate_left
  ·grind
  simp only[h2,aJ,aR,aE,aH,RS h0,aA,Rk _ (show (wZ s.2.2.1).length<=maxLen by grind [Jy,an])];by_cases h3:(zZ (wZ s.2.2.1)).2.1=0;rotate_left
  ·grind
  have hg:=KE _ h3;simp only[h3,aJ,aR,aE,dN,RU _ s.2.1 (show List.length (zZ (wZ s.2.2.1)).1<=1000 by have:=hg.1;omega),aA];grind
end OT
namespace OT
open Go
def nW (l:Log):Nat:=List.length l.1+List.length l.2.1
theorem Lc {l:Log} (h:nW l<=16000):Qf l:=by unfold nW at h;exact ⟨by omega,by omega⟩
def ox (l:Log) (r:bk):Option Log:=if 16000 < List.length l.1+List.length l.2.1+(tR r).length then none else some (l.1,l.2.1++tR r,())
theorem uf {l l':Log} {r:bk} (h:ox l r=some l'):nW l'<=16000:=by
 grind [ox,nW]
def uM (s:ba) (r:bk):Int×ba×Unit:=match ox s.2.2.1 r with
 | some l=>((0:Int),(s.1,s.2.1,l,s.2.2.2),())
 | none=>((9:Int),s,())
section
variable {s:ba} {r:bk} (hl:nW s.2.2.1<=16000) (hs:wC r)
include hl hs
theorem RW:nQ.ab (s,r,())=some (uM s r):=by
 refine ag (k:=0) λk _=>(nQ.ae k _).trans ?_;grind [nQ.p,uM,ox,K6,Lc]
theorem IQ:lF.ab (s,r,())=some (uM s r):=by
 refine ag (k:=0) λk _=>(lF.ae k _).trans ?_;grind [lF.p,uM,ox,K5,Lc]
end
def zl (ps:ca) (P:Nat):List UInt8:=if P < ps.length then ii ps P else ww
def zm (ps:ca) (kind tx:Int) (e:rE):bk:=(kind,tx,e.1,E1 (zl ps e.1.toNat) e.2.1,())
theorem Qx {ps:ca} (hg:gp ps) (P:Nat):(zl ps P).length=64:=by
 unfold zl;split
 ·rename_i h;exact hg.2 _ (Jv h)
 ·exact zG
theorem Nh {ps:ca} (hg:gp ps) (kind tx:Int) (e:rE):wC (zm ps kind tx e):=Rm (Qx hg _)
def JA (ps:ca) (e:rE):ca:=if e.1.toNat=ps.length then ps++[ww] else ps
def pt (add:Bool) (kind tx:Int):List rE->ca×Log->Sum (ca×Log) (ca×Log)
 | [],q=>.inr q
 | e::es,q=>match ox q.2 (zm q.1 kind tx e) with
  | none=>.inl (if add then JA q.1 e else q.1,q.2)
  | some l=>pt add kind tx es (nV q.1 e,l)
def mT (add:Bool) (kind tx:Int):List Change->ca×Log->Sum (Int×ca×Log) (ca×Log)
 | [],q=>.inr q
 | c :: cs,q=>if (kW q.1 c).1=0 then (match pt add kind tx (kW q.1 c).2.1 q with
     | .inl p=>.inl ((9:Int),p)
     | .inr p=>mT add kind tx cs p) else .inl ((kW q.1 c).1,q)
theorem FE {O:Type} {add:Bool} {kind tx:Int} {K:ca×Log->O} {fin:ca×Log->O}:∀ (es:List rE) (i:Nat) (q:ca×Log),ci (λ_ q e=>match ox q.2 (zm q.1 kind tx e) with
   | none=>.inl (K (if add then JA q.1 e else q.1,q.2))
   | some l=>.inr (nV q.1 e,l)) fin i es q=match pt add kind tx es q with | .inl p=>K p | .inr p=>fin p
 | [],i,q=>rfl
 | e::es,i,q=>by
  simp only[ci,pt]
  cases h:ox q.2 (zm q.1 kind tx e) with
  | none=>rfl
  | some l=>exact FE es (i+1) _
theorem Hz {O:Type} {add:Bool} {kind tx:Int} {K:Int×ca×Log->O} {fin:ca×Log->O}:∀ (cs:List Change) (i:Nat) (q:ca×Log),ci (λ_ q c=>if (kW q.1 c).1=0 then (match pt add kind tx (kW q.1 c).2.1 q with
   | .inl p=>.inl (K ((9:Int),p))
   | .inr p=>.inr p) else .inl (K ((kW q.1 c).1,q))) fin i cs q=match mT add kind tx cs q with | .inl p=>K p | .inr p=>fin p
 | [],i,q=>rfl
 | c::cs,i,q=>by
  simp only[ci,mT];by_cases h0:(kW q.1 c).1=0
  ·rw[aM h0,aM h0]
   cases h:pt add kind tx (kW q.1 c).2.1 q with
   | inl p=>rfl
   | inr p=>exact Hz cs (i+1) _
  grind
theorem Ld (kind tx:Int):∀ (es:List rE) (q:ca×Log),match pt true kind tx es q,pt false kind tx es q with | .inr p,.inr p'=>p=p' | .inl _,.inl _=>True | _,_=>False
 | [],q=>rfl
 | e::es,q=>by
  simp only[pt]
  cases h:ox q.2 (zm q.1 kind tx e) with
  | none=>trivial
  | some l=>exact Ld kind tx es _
theorem Ni (kind tx:Int):∀ (cs:List Change) (q:ca×Log),match mT true kind tx cs q,mT false kind tx cs q with | .inr p,.inr p'=>p=p' | .inl p,.inl p'=>p.1=p'.1 | _,_=>False
 | [],q=>rfl
 | c::cs,q=>by
  simp only[mT];by_cases h0:(kW q.1 c).1=0
  ·rw[aM h0,aM h0];have:=Ld kind tx (kW q.1 c).2.1 q
   cases h1:pt true kind tx (kW q.1 c).2.1 q with
   | inl p=>grind
   | inr p=>cases h2:pt false kind tx (kW q.1 c).2.1 q with
    | inl p'=>grind
    | inr p'=>
     rw[h1,h2] at this;have this:_=_:=this;subst this;exact Ni kind tx cs _
  grind
theorem IR {add:Bool} {kind tx:Int}:∀ (es:List rE) (q p:ca×Log),pt add kind tx es q=.inr p->nW q.2<=16000->p.1=IG q.1 es/\nW p.2<=16000
 | [],q,p,h,hl=>by injection h with h;subst h;exact ⟨rfl,hl⟩
 | e::es,q,p,h,hl=>by
  simp only[pt] at h
  cases ha:ox q.2 (zm q.1 kind tx e) with
  | none=>grind
  | some l=>
   rw[ha] at h;exact IR es _ p h (uf ha)
theorem Qy {ps:ca} (hg:gp ps) {e:rE} (he:Me ps e):gp (nV ps e):=by
 obtain ⟨e1,e2,e3,e4⟩:=he;unfold nV;split
 ·refine ⟨by grind,λp hp=>?_⟩
  rcases bO.1 hp with h | h
  ·exact hg.2 p h
  grind
 ·refine ⟨by rw[bB];exact hg.1,λp hp=>?_⟩
  rcases eK hp with h | h
  ·exact hg.2 p h
  grind
def py (q:ca×Log):Prop:=ip q.1=0/\nW q.2<=16000
theorem FF {add:Bool} {kind tx:Int} {q p:ca×Log} (hq:py q) {c:Change} (hc:nC c=0) (h0:(kW q.1 c).1=0) (h:pt add kind tx (kW q.1 c).2.1 q=.inr p):py p/\p.1=(kW q.1 c).2.2.1:=by
 obtain ⟨e1,e2⟩:=IR _ q p h hq.2;obtain ⟨w,f1,f2,f3⟩:=Mf hq.1 hc h0;have e3:p.1=(kW q.1 c).2.2.1:=by rw[e1,f1];exact f3.at_
 exact ⟨⟨by rw[e3];exact (XI hq.1 hc h0).1,e2⟩,e3⟩
theorem Qz {ps:ca} (hv:ip ps=0):∀ p ∈ ps,p.length<=maxLen:=λp hp=>by
 have:=((o9.1 hv).1.2 p hp).len;grind [an]
theorem BE {ps:ca} (hv:ip ps=0):gp ps:=Vd (o9.1 hv).1
section
variable {s0:ba} {kind tx:Int}
theorem QA {a:dh.A} {cs:List Change} {n i0:Int} {es:List rE} {fin:ba->Option dh.O} {q:ca×Log} (hg:gp q.1) (hl:nW q.2<=16000) (he:Bt q.1 es) (xo:es.length<=40) {k:Nat} (hk:50<=k) :
  am (λw v=>dh.b1 w fin a kind tx cs n i0 es (es.length:Int) v) k ((s0.1,q.1,q.2,s0.2.2.2),(0:Int))=match pt true kind tx es q with
   | .inl p=>some ((9:Int),(s0.1,p.1,p.2,s0.2.2.2),())
   | .inr p=>fin (s0.1,p.1,p.2,s0.2.2.2):=by
 have:=dj (B:=λw v=>dh.b1 w fin a kind tx cs n i0 es (es.length:Int) v) es (λ(q:ca×Log) (i:Int)=>((s0.1,q.1,q.2,s0.2.2.2),i))
  (λ_ q e=>match ox q.2 (zm q.1 kind tx e) with
   | none=>.inl (some ((9:Int),(s0.1,(if true=true then JA q.1 e else q.1),q.2,s0.2.2.2),()))
   | some l=>.inr (nV q.1 e,l)) (λp=>fin (s0.1,p.1,p.2,s0.2.2.2))
  (λi q=>gp q.1/\nW q.2<=16000/\Bt q.1 (es.drop i)) (by rw[an];omega)
  (λi hi q self hI=>by
   obtain ⟨hg,hl,he⟩:=hI;rw[cE hi] at he;obtain ⟨⟨e1,e2,e3,e4⟩,_⟩:=he;unfold dh.b1;have a8:(i:Int) < (es.length:Int):=by omega
   simp only[a8,aJ,aO,aK,aH,aC,aB hi,aA];generalize es[i]=e at e1 e2 e3 e4;obtain ⟨P,b,⟨⟩⟩:=e;simp only at e1 e2 e3 e4
   obtain ⟨P,rfl⟩:∃ Q:Nat,P=(Q:Int):=⟨P.toNat,by omega⟩
   have J:∀ qs:ca,gp qs->P < qs.length->ii qs P=zl q.1 P->nV q.1 ((P:Int),b,())=qs.set P b->(if 0<=(P:Int)/\(P:Int) < (qs.length:Int) then ((qs[P]?).bind λadm=>(qs[P]?).bind λUQ=>(jw.ab (UQ,b,())).bind λUR=>(nQ.ab ((s0.1,qs,q.2,s0.2.2.2),(kind,tx,(P:Int),UR.1,()),())).bind λtI=>bif !decide (tI.1=(0:Int)) then (some (tI.1,tI.2.1,())) else (cd.ab (b,())).bind λUS=>if 0<=(P:Int)/\(P:Int) < (tI.2.1.2.1.length:Int) then ((tI.2.1.2.1[P]?).bind λadn=>self ((tI.2.1.1,tI.2.1.2.1.set P US.1,tI.2.1.2.2),af ((i:Int)+(1:Int)))) else none) else none) =
     match ox q.2 (zm q.1 kind tx ((P:Int),b,())) with
     | none=>some ((9:Int),(s0.1,qs,q.2,s0.2.2.2),())
     | some l=>self ((s0.1,nV q.1 ((P:Int),b,()),l,s0.2.2.2),af ((i:Int)+1)):=λqs hqs hP hb ha=>by
    have gw:0<=(P:Int)/\(P:Int) < (qs.length:Int):=by omega
    have hx:(qs[P]).length=64:=hqs.2 _ (aN hP);have hpg:qs[P]=zl q.1 P:=by rw[<-hb];have:=nT hP;grind
    have ae0:(kind,tx,(P:Int),E1 qs[P] b,())=zm q.1 kind tx ((P:Int),b,()):=by rw[hpg];rfl
    have hsm:=Nh hg kind tx ((P:Int),b,());rw[aM gw,aB hP];grind [Rn,RW,uM,l9]
   simp only[aC];by_cases hP:P=q.1.length
   ·subst hP;have pK:q.1.length+[ww].length<=ct:=dc (by grind);rw[aX rfl,aO,EY];simp only[aA,pK,aH];have hlen:(q.1++[ww]).length=q.1.length+1:=by simp
    have hj:=J (q.1++[ww]) ⟨by grind,λp hp=>by
     rcases bO.1 hp with h | h
     ·exact hg.2 p h
     grind [zG]⟩ (by grind) (by
      grind [zl,PY]) (by
      grind [nV])
    rw[hj];have ha:JA q.1 ((q.1.length:Int),b,())=q.1++[ww]:=by grind [JA]
    grind
   grind [zl,nV,Int.toNat_natCast,JA])
  (λi hi q q' hI hf=>by
   obtain ⟨hg,hl,he⟩:=hI;rw[cE hi] at he
   cases Gw:ox q.2 (zm q.1 kind tx es[i]) with
   | none=>grind
   | some l=>
    rw[Gw] at hf;injection hf with hf;subst hf
    exact ⟨Qy hg he.1,uf Gw,he.2⟩) (λq self hI=>by
   grind [dh.b1]) q ⟨hg,hl,he⟩ k Bys
 rw[this,FE (add:=true) (K:=λp:ca×Log=>(some ((9:Int),(s0.1,p.1,p.2,s0.2.2.2),()):Option dh.O))]
end
def mB (s:ba) (r:Sum (Int×ca×Log) (ca×Log)):Int×ba×Unit:=match r with
 | .inl p=>(p.1,(s.1,p.2.1,p.2.2,s.2.2.2),())
 | .inr p=>((0:Int),(s.1,p.1,p.2,s.2.2.2),())
section
variable {s:ba} {kind tx:Int}
theorem DM {cs:List Change} (hq:py (s.2.1,s.2.2.1)) (hc:∀ c ∈ cs,nC c=0) (xm:∀ c ∈ cs,cl c) (hn:cs.length<=1000):dh.ab (s,cs,kind,tx,())=some (mB s (mT true kind tx cs (s.2.1,s.2.2.1))):=by
 refine ag (k:=1100) λk hk=>(dh.ae k _).trans ?_
 have:=dj (B:=λself v=>dh.B0 k self (dh.q1 (s,cs,kind,tx,())) (s,cs,kind,tx,()) v) cs (λ(q:ca×Log) (i:Int)=>((s.1,q.1,q.2,s.2.2.2),kind,tx,cs,(cs.length:Int),i))
  (λ_ q c=>if (kW q.1 c).1=0 then (match pt true kind tx (kW q.1 c).2.1 q with
   | .inl p=>.inl (some (mB s (.inl ((9:Int),p))))
   | .inr p=>.inr p) else .inl (some (mB s (.inl ((kW q.1 c).1,q))))) (λp=>some (mB s (.inr p))) (λ_ q=>py q) (by rw[an];omega)
  (λi hi q self hI=>by
   show dh.b0 _ _ _ _ _=_;unfold dh.b0;have a8:(i:Int) < (cs.length:Int):=by omega
   have hm:=aN hi;simp only[a8,aJ,aO,aK,aH,aC,aB hi,aA];rw[RF (Qz hI.1) (xm _ hm)];simp only[aA];by_cases h0:(kW q.1 cs[i]).1=0
   ·obtain ⟨w,f1,f2,f3⟩:=Mf hI.1 (hc _ hm) h0;have he:(kW q.1 cs[i]).2.1=w.2.1:=by rw[f1]
    rw[aM h0,aX h0,aR,aE]
    have:=QA (s0:=s) (kind:=kind) (tx:=tx) (a:=(s,cs,kind,tx,())) (cs:=cs) (n:=(cs.length:Int)) (i0:=(i:Int)) (es:=(kW q.1 cs[i]).2.1)
     (fin:=dh.q0 self (dh.q1 (s,cs,kind,tx,())) (s,cs,kind,tx,()) kind tx cs (cs.length:Int) (i:Int) (kW q.1 cs[i]).2.1 ((kW q.1 cs[i]).2.1.length:Int)) (q:=q) (BE hI.1) hI.2 (by rw[he];exact f3.ed) (by rw[he];exact f2.el) (k:=k) Bys
    refine aL this ?_
    cases pt true kind tx (kW q.1 cs[i]).2.1 q with
    | inl p=>rfl
    | inr p=>rfl
   ·rw[aV h0,bA h0,bW,aO]
    rfl)
  (λi hi q q' hI hf=>by
   grind [FF]) (λq self hI=>by
   show dh.b0 _ _ _ _ _=_;unfold dh.b0;rw[bA (aU _),aE]
   rfl) (s.2.1,s.2.2.1) hq k Bys
 refine aL this ?_;rw[Hz (add:=true) (K:=λp=>some (mB s (.inl p)))];grind
theorem RX {ps:ca} (hg:gp ps) {e:rE} (he:Me ps e):t6.ab (ps,e,kind,tx,())=some (zm ps kind tx e,()):=by
 obtain ⟨P,b,⟨⟩⟩:=e;obtain ⟨e1,e2,e3,e4⟩:=he;simp only at e1 e2 e3 e4
 obtain ⟨P,rfl⟩:∃ Q:Nat,P=(Q:Int):=⟨P.toNat,by omega⟩
 refine ag (k:=0) λk _=>(t6.ae k _).trans ?_;unfold t6.p;rw[EZ];simp only[aA];by_cases h:P < ps.length
 ·have h1:(P:Int) < (ps.length:Int):=by omega
  have hb:zl ps P=ps[P]:=by
   unfold zl;rw[aM h];have:=nT h;grind
  have hl:=Qx hg P;rw[hb] at hl;simp only[h1,aJ,aO,aK,aH,aC,aB h,aA];rw[Iu hl e1,<- hb];rfl
 ·have h1:¬ (P:Int) < (ps.length:Int):=by omega
  have hb:zl ps P=ww:=by grind [zl]
  simp only[h1,aG,aE];rw[Iu zG e1,<- hb];rfl
theorem NC {ps:ca} (hg:gp ps) {e:rE} (he:Me ps e):lr.ab (ps,[e],())=some (((0:Int),[e],nV ps e,()),()):=by
 obtain ⟨P,b,⟨⟩⟩:=e;obtain ⟨e1,e2,e3,e4⟩:=he;simp only at e1 e2 e3 e4
 obtain ⟨P,rfl⟩:∃ Q:Nat,P=(Q:Int):=⟨P.toNat,by omega⟩
 refine ag (k:=5) λk hk=>(lr.ae k _).trans ?_;unfold lr.p;have zt:¬ (12:Int) < (ps.length:Int):=by have:=hg.1;omega
 simp only[zt,aG,aE,xD ps hg,aA]
 have:=cz (B:=λself v=>lr.b0 self (lr.q0 (ps,[((P:Int),b,())],())) (ps,[((P:Int),b,())],()) v) [((P:Int),b,())] (λ(r:dO) (i:Int)=>(r,i))
  (λ_ r x=>.inr ((0:Int),[x],nV ps x,())) (λr=>(r,())) (λi r=>i=0->r=((0:Int),[],ps,())) (by rw[an];simp)
  (λi hi r self hI=>by
   have SO:i=0:=by grind
   subst SO;rw[hI rfl];unfold lr.b0;have Pt:(b.length:Int)=64:=by omega
   have aeq:¬ (P:Int)=12:=by omega
   have A5:((0:Nat):Int) < (([((P:Int),b,())]:List rE).length:Int):=by simp
   simp only[A5,aJ,aO,aK,aH,aC,eS,aA,Pt,aR,aE,mL,e3,dN,gQ,aeq,aG]
   grind [nV,my,dc])
  (λi hi r r' hI hf h=>by omega) (λr self hI=>by
   unfold lr.b0;rw[bA (aU _),aE]
   rfl) ((0:Int),[],ps,()) (λ_=>rfl) k (by grind)
 exact this
theorem take_one {α:Type} {es:List α} {i:Nat} (h:i < es.length):(es.take (i+1)).drop i=[es[i]]:=by
 grind [List.drop_eq_getElem_cons]
theorem XU {ps:ca} (hv:ip ps=0) {c:Change} (hc:nC c=0):rY.ab (ps,c,())=some (kW ps c,()):=by
 grind [P9,Qz,kW]
theorem HA {c:Change} (hq:py (s.2.1,s.2.2.1)) (hc:nC c=0):jj.ab (s,c,kind,tx,())=some (mB s (mT false kind tx [c] (s.2.1,s.2.2.1))):=by
 refine ag (k:=100) λk hk=>(jj.ae k _).trans ?_;unfold jj.p;rw[XU hq.1 hc];simp only[aA,mT];by_cases h0:(kW s.2.1 c).1=0;rotate_left
 ·simp only[h0,aG,bW,aO,aS];rfl
 simp only[h0,aJ,aR,aE,aH];obtain ⟨w,f1,f2,f3⟩:=Mf hq.1 hc h0
 obtain ⟨E,hE⟩:∃ E,E=kW s.2.1 c:=⟨_,rfl⟩
 have he:E.2.1=w.2.1:=by rw[hE,f1]
 rw[<-hE];have hlen:List.length E.2.1<=40:=by rw[he];exact f2.el
 have:=dj (B:=λself v=>jj.b0 self (jj.q0 (s,c,kind,tx,()) E) (s,c,kind,tx,()) E v) E.2.1 (λ(q:ca×Log) (i:Int)=>((s.1,q.1,q.2,s.2.2.2),i))
  (λ_ q e=>match ox q.2 (zm q.1 kind tx e) with
   | none=>.inl (some (mB s (.inl ((9:Int),(if false=true then JA q.1 e else q.1),q.2))))
   | some l=>.inr (nV q.1 e,l)) (λp=>some (mB s (.inr p))) (λi q=>gp q.1/\nW q.2<=16000/\Bt q.1 (E.2.1.drop i)) (by rw[an];omega)
  (λi hi q self hI=>by
   obtain ⟨hg,hl,he⟩:=hI;rw[cE hi] at he;unfold jj.b0;have a8:(i:Int) < (List.length E.2.1:Int):=by omega
   have hw:af ((i:Int)+1)=((i+1:Nat):Int):=by grind [be]
   have gw:0<=(i:Int)/\(i:Int) < (List.length E.2.1:Int):=by omega
   have TR:0<=(i:Int)/\(i:Int)<=((i+1:Nat):Int)/\((i+1:Nat):Int)<=(List.length E.2.1:Int):=by omega
   simp only[hw];rw[aX a8,aO,aM gw];simp only[aC,aB hi,aA];rw[RX hg he.1];simp only[aA];rw[IQ (s:=(s.1,q.1,q.2,s.2.2.2)) hl (Nh hg kind tx _)];unfold uM;simp only
   cases Gw:ox q.2 (zm q.1 kind tx E.2.1[i]) with
   | none=>rfl
   | some l=>
    simp only[aA,aJ,aR,aE];rw[aM TR,take_one hi,NC hg he.1]
    rfl)
  (λi hi q q' hI hf=>by
   obtain ⟨hg,hl,he⟩:=hI;rw[cE hi] at he
   cases Gw:ox q.2 (zm q.1 kind tx E.2.1[i]) with
   | none=>grind
   | some l=>
    rw[Gw] at hf;injection hf with hf;subst hf
    exact ⟨Qy hg he.1,uf Gw,he.2⟩) (λq self hI=>by
   unfold jj.b0;rw[bA (aU _),aE]
   rfl) (s.2.1,s.2.2.1) ⟨BE hq.1,hq.2,by rw[he];exact f3.ed⟩ k Bys
 refine aL this ?_;rw[FE (add:=false) (K:=λp=>some (mB s (.inl ((9:Int),p))))];grind
end
theorem Tr {add:Bool} {kind tx:Int}:∀ (cs:List Change) (q:ca×Log) (p:Int×ca×Log),mT add kind tx cs q=.inl p->p.1≠0
 | [],q,p,h=>by cases h
 | c::cs,q,p,h=>by
  simp only[mT] at h;by_cases h0:(kW q.1 c).1=0
  ·rw[aM h0] at h
   cases he:pt add kind tx (kW q.1 c).2.1 q with
   | inl p'=>grind
   | inr p'=>rw[he] at h;exact Tr cs p' p h
  grind
theorem AE {add:Bool} {kind tx:Int}:∀ (cs:List Change) (q p:ca×Log),py q->(∀ c ∈ cs,nC c=0)->mT add kind tx cs q=.inr p->py p
 | [],q,p,hq,hc,h=>by injection h with h;grind
 | c::cs,q,p,hq,hc,h=>by
  simp only[mT] at h;by_cases h0:(kW q.1 c).1=0
  ·rw[aM h0] at h
   cases he:pt add kind tx (kW q.1 c).2.1 q with
   | inl p=>grind
   | inr p'=>
    rw[he] at h;exact AE cs p' p (FF hq (hc _ bV) h0 he).1 (λd hd=>hc d (bD _ hd)) h
  grind
section
variable {s:ba} {tx:Int}
theorem HB {vv:List Change} (hq:py (s.2.1,s.2.2.1)) (hc:∀ c ∈ vv,nC c=0) (hn:vv.length<=1000):jB.ab (s,vv,tx,())=some (mB s (mT false 3 tx (lK vv) (s.2.1,s.2.2.1))):=by
 refine ag (k:=1100) λk hk=>(jB.ae k _).trans ?_;unfold jB.p;rw[K9 vv Bys];simp only[aA];have hci:=CM hc;have hln:(lK vv).length=vv.length:=zO vv
 obtain ⟨cs,sS⟩:∃ cs,cs=lK vv:=⟨_,rfl⟩
 rw[<-sS] at hci hln ⊢
 have:=dj (B:=λself v=>jB.b0 self (jB.q0 (s,vv,tx,()) cs) (s,vv,tx,()) cs v) cs (λ(q:ca×Log) (i:Int)=>((s.1,q.1,q.2,s.2.2.2),i))
  (λ_ q c=>if (kW q.1 c).1=0 then (match pt false 3 tx (kW q.1 c).2.1 q with
   | .inl p=>.inl (some (mB s (.inl ((9:Int),p))))
   | .inr p=>.inr p) else .inl (some (mB s (.inl ((kW q.1 c).1,q))))) (λp=>some (mB s (.inr p))) (λ_ q=>py q) (by rw[an];omega)
  (λi hi q self hI=>by
   grind [jB.b0,Int.natCast_nonneg,Int.toNat_natCast,HA,mT,mB])
  (λi hi q q' hI hf=>by
   grind [FF]) (λq self hI=>by
   unfold jB.b0;rw[bA (aU _),aE]
   rfl) (s.2.1,s.2.2.1) hq k Bys
 refine aL this ?_;rw[Hz (add:=false) (K:=λp=>some (mB s (.inl p)))];grind
end
end OT
namespace OT
open Go
theorem ZA {s:ba} (hv:ui bv s) (hz:zz bv s<=1048576):Qv s:=by
 obtain ⟨u,ps,l,xs,n,⟨⟩⟩:=s;obtain ⟨h1,h2,h3,h4,h5,_⟩:=hv;replace hz:0+(zz (.aa (.aa u8)) ps+(zz ey l+(zz (.aa bh) xs+(0+0))))<=1048576:=hz;have hzl:zz ey l=zz (.aa u8) l.1+(zz (.aa u8) l.2.1+0):=rfl;have A5:List.length l.1<=zz (.aa u8) l.1:=yG (e:=u8) l.1;have zp:List.length l.2.1<=zz (.aa u8) l.2.1:=yG (e:=u8) l.2.1;refine ⟨⟨?_,?_⟩,λp hp=>?_,?_⟩
 ·grind
 ·grind
 ·have a1:zz (.aa u8) p+1<=zz (.aa (.aa u8)) ps:=GC (e:=.aa u8) hp;grind [zz,an]
 ·have a3:zz D3 (([]:List Row),xs,n,())<=1048576:=by
   show (0+0)+(zz (.aa bh) xs+(0+0))<=1048576;omega
  exact (Zw (p:=(([]:List Row),xs,n,())) ⟨⟨aW _,λx hx=>by cases hx⟩,h4,h5,trivial⟩ a3).2.2
abbrev aer:Log:=(([]:List UInt8),([]:List UInt8),())
abbrev FH (c:Int):mn:=(c,(0:Int),(false,([]:List (List UInt8)),aer,([]:List Tx),(0:Int),()),())
theorem Ia (c:Int):nZ.ab (c,())=some (FH c,()):=by
 refine ag (k:=0) λj _=>(nZ.ae j _).trans ?_;rfl
end OT
namespace OT
open Go
end OT
namespace OT
open Go
def uj (xs:List Tx) (t:Int):Int:=vD (λx=>decide (x.1=t)) 0 xs
theorem mC (xs:List Tx) (t:Int) (h:xs.length<=1048576):mO.ab (xs,t,())=some (uj xs t,()):=by
 refine ag (k:=xs.length+1) λk hk=>(mO.ae k _).trans ?_
 have:=cz (B:=λself v=>mO.b0 self (λz=>mO.q0 (xs,t,()) z) (xs,t,()) v) xs (λ(_:Unit) (i:Int)=>i) (λi _ x=>if decide (x.1=t) then .inl ((i:Int),()) else .inr ()) (λ_=>((-1:Int),())) (λ_ _=>True) (by rw[an];omega)
  (λi hi s self _=>by
   show mO.b0 _ _ _ _=_;unfold mO.b0;have a8:(i:Int) < (xs.length:Int):=by omega
   simp only[a8,aJ,aO,aK,aH,aC,aB hi,aA]
   cases decide ((xs[i]).1=t) <;> rfl)
  (λ_ _ _ _ _ _=>trivial) (λs self _=>by
   show mO.b0 _ _ _ _=_;unfold mO.b0;simp only[aU,aG,aE]
   rfl) () trivial k Bys
 rw[Bl] at this;exact this
theorem AF (xs:List Tx) (t:Int) (h:xs.length<=1048576):mJ.ab (xs,t,())=some (uj xs t,()):=by
 have h1:∀ x:Tx,vO.ab (x,t,())=some (decide (x.1=t),()):=λx=>by
  refine ag (k:=0) λk _=>(vO.ae k _).trans ?_;rfl
 have h2:∀ m:Nat,iz.ab (xs,((m,t):Nat×Int),())=some (uj xs t,()):=λm=>by
  refine ag (k:=xs.length+1) λk hk=>(iz.ae k _).trans ?_
  have:=cz (B:=λself v=>iz.b0 self (λz=>iz.q0 (xs,((m,t):Nat×Int),()) z) (xs,((m,t):Nat×Int),()) v) xs (λ(_:Unit) (i:Int)=>i) (λi _ x=>if decide (x.1=t) then .inl ((i:Int),()) else .inr ()) (λ_=>((-1:Int),())) (λ_ _=>True) (by rw[an];omega)
   (λi hi s self _=>by
    show iz.b0 _ _ _ _=_;unfold iz.b0;have a8:(i:Int) < (xs.length:Int):=by omega
    simp only[a8,aJ,aO,aK,aH,aC,aB hi,aA,h1]
    cases decide ((xs[i]).1=t) <;> rfl)
   (λ_ _ _ _ _ _=>trivial) (λs self _=>by
    show iz.b0 _ _ _ _=_;unfold iz.b0;simp only[aU,aG,aE]
    rfl) () trivial k Bys
  rw[Bl] at this;exact this
 refine ag (k:=0) λk _=>(mJ.ae k _).trans ?_;show mJ.p _=_;unfold mJ.p;rw[h2];rfl
end OT
