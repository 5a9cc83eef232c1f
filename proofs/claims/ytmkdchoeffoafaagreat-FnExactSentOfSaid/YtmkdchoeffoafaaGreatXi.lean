/- The proof's parts, merged: CrashConnector and SaveConnector  the laws.. No conditions but those that each states. -/
import Derived.Test.YtmkdchoeffoafaaGreatXh
set_option linter.unusedVariables false
set_option linter.unusedSimpArgs false
namespace OT
open Go
theorem NX (m:dg) (h:Q_ m):km.aa (m,())=some (m,()):=by
 refine ah (k:=1048577) λk hk=>(km.ae k _).trans ?_;unfold km.p;rw[Db m.1 h.Kh];simp only[aA]
 have mN:∀ b:Buffer,List.length b.2.1<=1048576->oy.aa (b,())=some (b,()):=λb hb=>by
  refine ah (k:=0) λk hk=>(oy.ae k _).trans ?_;show oy.p _=_;unfold oy.p;rw[BD _ hb];rfl
 have hb:=h.bl
 have:=co (B:=λself v=>km.b0 self (λz=>km.q0 (m,()) z) (m,()) v) m.2.1 (λ(s:List Buffer) (i:Int)=>(((m.1,s,()):dg),i)) (λ_ s b=>.inr (s++[b])) (λs=>(((m.1,s,()):dg),())) (λi s=>s.length<=i) (by rw[aq];omega)
  (λi hi s self hI=>by
   show km.b0 _ _ _ _=_;unfold km.b0;have am:(i:Int) < (List.length m.2.1:Int):=by omega
   simp only[am,aD,aJ,aK,aI,aH,aB hi,aA,mN _ (h.buf _ (aS hi))]
   rw[aV (dh (by simp only[aO,bA];omega))])
  (λi hi s s' hI hf=>by
   injection hf with hf;subst hf
   rw[aR,aO,bA];omega) (λs self _=>by
   show km.b0 _ _ _ _=_;unfold km.b0;simp only[bC,aC,aG]
   rfl) [] (by simp) k (by omega)
 rw[ic,ym] at this;exact this
end OT
set_option linter.unusedSectionVars false
namespace OT
open Go
theorem vd:∀ p:Path,qg p p=true
 | []=>rfl
 | .fst::p=>vd p
 | .snd::p=>vd p
 | .idx i::p=>by simp[qg,vd p]
 | .o4 i::p=>by simp[qg,vd p]
theorem HS {α:Type} (p:α->Bool):∀ (xs:List α) (i:Nat),vC p i xs=-1\/∃ (j:Nat) (hj:j < xs.length),vC p i xs=((i+j:Nat):Int)/\p xs[j]=true
 | [],i=>.inl rfl
 | x::xs,i=>by
  simp only[vC];by_cases hx:p x=true
  ·rw[aV hx];exact .inr ⟨0,by simp,by simp,hx⟩
  ·rw[bB hx]
   rcases HS p xs (i+1) with h | ⟨j,hj,h1,h2⟩
   ·exact .inl h
   ·exact .inr ⟨j+1,by simpa using hj,by rw[h1];congr 1;omega,h2⟩
theorem CU (xs:List Buffer) (t:Int):qf xs t=-1\/∃ (j:Nat) (hj:j < xs.length),qf xs t=(j:Int)/\(xs[j]).1=t:=by
 rcases HS (λb:Buffer=>decide (b.1=t)) xs 0 with h | ⟨j,hj,h1,h2⟩
 ·exact .inl h
 ·exact .inr ⟨j,hj,by rw[qf,h1,bE],by simpa using h2⟩
abbrev xk (k:Int):mI:=(k,false,false,(0:Int),([]:List Change),HR,())
def HT (T:Nat) (c:Change):Prop:=List.length c.2.1.2.2.2.1<=T/\List.length c.2.2.2.1.2.2.2.1<=T
abbrev xl (T:Nat) (b:Buffer):Prop:=List.length b.2.1<=61/\∀ c ∈ (b.2.1:List Change),HT T c
theorem HU {T:Nat} {c:Change} (hT:T<=1048576) (h:HT T c):cl c:=⟨by unfold rl;rw[aq];have:=h.1;omega,by unfold rl;rw[aq];have:=h.2;omega⟩
structure tC (T:Nat) (m:dg):Prop where
 lo:64<=T
 hi:T<=1048576
 view:mH m.1=0
 bl:List.length m.2.1<=8
 buf:∀ b ∈ (m.2.1:List Buffer),xl T b
theorem tC.gp {T:Nat} {m:dg} (h:tC T m):gp m.1:=Vy (va h.view).right
theorem tC.Et {T:Nat} {m:dg} (h:tC T m):Q_ m:=⟨h.gp,by have:=h.bl;omega,λb hb=>by have:=(h.buf b hb).1;omega⟩
theorem MW {ps:k9} (h:gp ps):∀ p ∈ ps,p.length<=maxLen:=λp hp=>by rw[h.2 p hp,aq];omega
def Br (j:Nat) (s:List Buffer) (c:Change):Sum (mI×Unit) (List Buffer):=match s[j]? with
 | some b=>if (w5 b.2.1 c).1=0 then .inr (s.set j (b.1,(w5 b.2.1 c).2.1,b.2.2)) else .inl (xk (w5 b.2.1 c).1,())
 | none=>.inl (xk 4,())
def Ra (ps:k9) (s:List Buffer):mI×Unit:=(((0:Int),false,false,(0:Int),([]:List Change),(ps,s,()),()),())
def aa2 (j:Nat) (ps:k9) (s:List Buffer) (list:List Change):mI:=(bz (λ_ s c=>Br j s c) (Ra ps) 0 list s).1
def Eu (T n:Nat) (s:List Buffer):Prop:=s.length=n/\∀ b ∈ s,xl T b
theorem Vz {T:Nat} {xs:List Change} {c:Change} (hx:∀ x ∈ xs,HT T x) (hc:HT T c):xl T ((0:Int),(w5 xs c).2.1,()):=by
 unfold w5;split
 ·rename_i hf;have h60:=(CD hf).2.2;split
  ·cases h:pR xs c with
   | none=>exact ⟨aY _,λx hx=>by cases hx⟩
   | some r=>
    have:=S6 h;exact ⟨by simp only;omega,S7 h hx hc λx Gs=>⟨(hx x Gs).1,hc.2⟩⟩
  ·exact ⟨aY _,λx hx=>by cases hx⟩
 ·exact ⟨aY _,λx hx=>by cases hx⟩
theorem IW {T j n:Nat} {s s':List Buffer} {c:Change} (h:Eu T n s) (hc:HT T c) (he:Br j s c=.inr s'):Eu T n s':=by
 unfold Br at he;split at he
 ·rename_i b hb;split at he
  ·injection he with he;subst he;have hbm:=h.2 b (cA hb);have hf:=Vz (c:=c) hbm.2 hc;refine ⟨by rw[cX];exact h.1,λy hy=>?_⟩
   rcases hJ hy with hy | rfl
   ·exact h.2 y hy
   ·exact hf
  ·cases he
 ·cases he
def IX (m:dg) (r:bg):mI:=match m.2.1[(qf m.2.1 r.2.1).toNat]? with
 | some b=>((0:Int),true,decide (r.1=5),r.2.1,b.2.1,(m.1,m.2.1.take (qf m.2.1 r.2.1).toNat++m.2.1.drop ((qf m.2.1 r.2.1).toNat+1),()),())
 | none=>xk 4
def HV (m:dg) (r:bg):mI:=match nD m.1 r with
 | .inl c=>xk c
 | .inr ps=>if mH ps=0 then (if r.1=4 then (if pj (jz m.1) (jz ps)=[] then ((0:Int),false,false,(0:Int),([]:List Change),(ps,m.2.1,()),()) else xk 8) else
   if qf m.2.1 r.2.1 < 0 then xk 4 else aa2 (qf m.2.1 r.2.1).toNat ps m.2.1 (pj (jz m.1) (jz ps))) else xk (mH ps)
def rA (m:dg) (r:bg):mI:=if qs r=0 then
    (if r.1=1 then (if 0<=qf m.2.1 r.2.1 then xk 6 else if 8<=(List.length m.2.1:Int) then xk 2 else ((0:Int),false,false,(0:Int),([]:List Change),(m.1,m.2.1++[(r.2.1,([]:List Change),())],()),()))
     else if r.1=5\/r.1=6 then (if qf m.2.1 r.2.1 < 0 then xk 4 else IX m r) else HV m r)
 else xk (qs r)
theorem MX {ps so:k9} {r:bg} (hp:gp ps) (h:nD ps r=.inr so):gp so:=zh hp h
theorem MY {T:Nat} (hT:64<=T) {B A:k9} (hB:mH B=0) (hA:mH A=0):∀ c ∈ pj (jz B) (jz A),HT T c:=λc hc=>by
 have:=vT (q:=λr=>List.length r.2.2.2.1<=64) (aY _) _ _ _ (IT hB) (IT hA) c hc;exact ⟨by have:=this.1;omega,by have:=this.2;omega⟩
theorem JN {B A:k9} (hB:mH B=0) (hA:mH A=0):(pj (jz B) (jz A)).length<=384:=by
 have h1:=vW hB;have h2:=vW hA
 have:=xG ((jz B).length+(jz A).length) (jz B) (jz A);unfold pj;omega
theorem XQ (xs:List Buffer) (i:Nat) (hi:i < xs.length) (hl:xs.length<=1000):mp.aa (xs,(i:Int),af ((i:Int)+1),())=some (xs.take i++xs.drop (i+1),()):=by
 rw[bf (by omega)]
 have h1:(0:Int)<=(i:Int)/\(i:Int)<=(i:Int)+1/\(i:Int)+1<=(xs.length:Int):=⟨by omega,by omega,by omega⟩
 show (if (0:Int)<=(i:Int)/\(i:Int)<=(i:Int)+1/\(i:Int)+1<=(xs.length:Int) then some (xs.take (i:Int).toNat++xs.drop ((i:Int)+1).toNat,()) else none)=_;rw[aV h1];rfl
theorem TD (j:Nat) (h:j<=1000):Cm (j:Int) (af ((j:Int)+1)) j=true:=by
 rw[bf (by omega)];simp only[Cm,aE,bM];omega
theorem kinds {r:bg} (h:qs r=0) (h1:¬ r.1=1) (h5:¬ r.1=5) (h6:¬ r.1=6):r.1=2\/r.1=3\/r.1=4:=by
 have:=uL h;omega
theorem NY {T:Nat} {m:dg} (r:bg) (h:tC T m):jm.aa (m,r,())=some (rA m r,()):=by
 have yO:=h.bl;refine ah (k:=3000) λk hk=>(jm.ae k _).trans ?_;unfold jm.p rA;simp only[CP,aA];by_cases hr:qs r=0;rotate_left
 ·simp only[hr,aC,aZ,aJ,aL]
 simp only[hr,aD,aQ,aG,aI,Q8 m _ (show List.length m.2.1<=1048576 by omega),NX m h.Et,aA]
 have yA:∀ b:Bool,¬ qf m.2.1 r.2.1 < 0->b=decide (r.1=5)->(if 0<=qf m.2.1 r.2.1/\qf m.2.1 r.2.1 < (List.length m.2.1:Int) then ((m.2.1[(qf m.2.1 r.2.1).toNat]?).bind λx6=>(m.2.1[(qf m.2.1 r.2.1).toNat]?).bind λx7=>(m.2.1[(qf m.2.1 r.2.1).toNat]?).bind λx8=>bif Cm (qf m.2.1 r.2.1) (af (qf m.2.1 r.2.1+(1:Int))) (qf m.2.1 r.2.1).toNat then ((mp.aa (m.2.1.set (qf m.2.1 r.2.1).toNat x8,qf m.2.1 r.2.1,af (qf m.2.1 r.2.1+(1:Int)),())).bind λr9=>some (((0:Int),true,b,x7.1,x7.2.1,(m.1,r9.1,m.2.2),()),())) else none) else none)=some (IX m r,()):=λb h0 hb=>by
  rcases CU m.2.1 r.2.1 with e | ⟨j,hj,e,ht⟩
  ·rw[e] at h0;exact absurd (by decide) h0
  ·unfold IX;rw[e];simp only[aH,aB hj,aA,TD j (by omega),aJ,List.set_getElem_self,XQ m.2.1 j hj (by omega),ht,hb];rw[aV ⟨by omega,by omega⟩]
 by_cases h1:r.1=1
 ·simp only[h1,aD,aJ,aI];by_cases h2:0<=qf m.2.1 r.2.1
  ·simp only[h2,aD,aJ,aI]
  ·simp only[h2,aC,aG,aL]
   by_cases h3:8<=(List.length m.2.1:Int)
   ·simp only[h3,aD,aJ,aI]
   ·simp only[h3,aC,aG,aL];rw[aV (dh (by simp only[aO,bA];omega))]
 simp only[h1,aC,aG,aL];by_cases h5:r.1=5
 ·simp only[h5,aD,aJ,jR,aI];by_cases h2:qf m.2.1 r.2.1 < 0
  ·simp only[h2,aD,aJ,aI]
  ·simp only[h2,aC,aG,aL];exact yA true h2 (by rw[h5];rfl)
 simp only[h5,aC,aG,jO];by_cases h6:r.1=6
 ·simp only[h6,aD,aJ,aI];by_cases h2:qf m.2.1 r.2.1 < 0
  ·simp only[h2,aD,aJ,aI]
  ·simp only[h2,aC,aG,aL];exact yA _ h2 (by rw[h6];rfl)
 simp only[h6,aC,aG,aL];unfold HV;simp only[A6 m.1 r h.gp hr,aA]
 cases hs:nD m.1 r with
 | inl c=>
  have:=wr hs;simp only[this,aC,aZ,aJ]
 | inr ps=>
  have WX:=MX h.gp hs;simp only[aD,aQ,aG,Bo ps (MW WX),aA];by_cases hv:mH ps=0;rotate_left
  ·simp only[hv,aC,aZ,aJ,aL]
  have uz:=A4 (va h.view);have tH:=A4 (va hv)
  simp only[hv,aD,aQ,aG,aI,Bo m.1 (MW h.gp),Bp _ (show (vN m.1).length<=1000 by omega),Bp _ (show (vN ps).length<=1000 by omega),aA];have hbt:eb.aa ((vN m.1).map (·.1),(vN ps).map (·.1),())=some (pj (jz m.1) (jz ps),()):=IJ (jz m.1) (jz ps) (by have:=vW h.view;omega) (by have:=vW hv;omega);simp only[hbt,Db ps WX,aA];by_cases h4:r.1=4
  ·simp only[h4,aD,aQ,aJ,aG,aI]
   cases hm:pj (jz m.1) (jz ps) with
   | nil=>rfl
   | cons x xs=>
    have:(0:Int) < ((x::xs).length:Int):=by simp only[aO];omega
    simp only[this,aD,aJ,reduceCtorEq,aL]
  simp only[h4,aC,aZ,aJ,aG,aL];by_cases h2:qf m.2.1 r.2.1 < 0
  ·simp only[h2,aD,aJ,aI]
  simp only[h2,aC,aG,aL]
  rcases CU m.2.1 r.2.1 with e | ⟨j,hj,e,ht⟩
  ·rw[e] at h2;exact absurd (by decide) h2
  rw[e];simp only[aH];have wb:=MY h.lo h.view hv;have Sn:=JN h.view hv;generalize pj (jz m.1) (jz ps)=list at wb Sn
  have:=co (B:=λself v=>jm.b0 self (λz=>jm.q0 (m,r,()) (j:Int) list (list.length:Int) z) (m,r,()) (j:Int) list (list.length:Int) v) list (λ(s:List Buffer) (i:Int)=>(((ps,s,()):dg),i)) (λ_ s c=>Br j s c) (Ra ps) (λi s=>Eu T (List.length m.2.1) s) (by rw[aq];omega)
   (λi hi s self hI=>by
    show jm.b0 _ _ _ _ _ _ _=_;unfold jm.b0 Br;have am:(i:Int) < (list.length:Int):=by omega
    have KV:j < s.length:=by rw[hI.1];exact hj
    have VA:(j:Int) < (s.length:Int):=by omega
    have hb:=hI.2 _ (aS KV);simp only[am,VA,aD,aJ,aK,dZ,aI,aH,aB hi,aB KV,aA,vd,gA,Nv _ _ (show List.length (s[j]).2.1<=1048576 by have:=hb.1;omega) (λx hx=>HU h.hi (hb.2 x hx)) (HU h.hi (wb _ (aS hi)))];by_cases hf:(w5 (s[j]).2.1 list[i]).1=0
    ·simp only[hf,aD,aQ,aG,aI]
    ·simp only[hf,aC,aZ,aJ,aL])
   (λi hi s s' hI hf=>IW hI (wb _ (aS hi)) hf) (λs self _=>by
    show jm.b0 _ _ _ _ _ _ _=_;unfold jm.b0;simp only[bC,aC,aG]
    rfl) m.2.1 ⟨rfl,h.buf⟩ k (by omega)
  exact this
theorem xU (c:Int):j9.aa (c,())=some (xk c,()):=by
 refine ah (k:=0) λk hk=>(j9.ae k _).trans ?_;rfl
theorem Rb {T:Nat} {m:dg} (r:bg) (h:tC T m):qB.aa (m,r,())=some (if qf m.2.1 r.2.1 < 0 then xk 4 else IX m r,()):=by
 have yO:=h.bl;refine ah (k:=0) λk hk=>(qB.ae k _).trans ?_;show qB.p _=_;unfold qB.p IX;simp only[zj m _ (show List.length m.2.1<=1048576 by omega),xU,aA];by_cases h2:qf m.2.1 r.2.1 < 0
 ·simp only[h2,aD,aJ,aI]
 simp only[h2,aC,aG,aL,sO m h.Et,aA]
 rcases CU m.2.1 r.2.1 with e | ⟨j,hj,e,ht⟩
 ·rw[e] at h2;exact absurd (by decide) h2
 rw[e,bf (by omega)];have ke:∀ l:List Buffer,l.length<=1000->([]:List Buffer).length+l.length<=cc:=λl hl=>dh (by simp only[bA];omega);rw[aV ⟨by omega,by omega⟩];simp only[aH,show ((j:Int)+1).toNat=j+1 from by omega,eF,bT,dX];rw[aV (ke _ (by rw[bP];omega)),aV (by omega),aB hj];simp only[aA];rw[aV ⟨by omega,by omega⟩,aV (dh (by rw[bP,bI];omega))]
theorem NZ {T:Nat} {m:dg} (r:bg) (h:tC T m) (hr:qs r=0):l_.aa (m,r,())=some (HV m r,()):=by
 have yO:=h.bl;refine ah (k:=3000) λk hk=>(l_.ae k _).trans ?_;unfold l_.p HV;simp only[Dj m.1 r h.gp,xU,aA]
 cases hs:nD m.1 r with
 | inl c=>
  have:=wr hs;simp only[this,aC,aZ,aJ]
 | inr ps=>
  have WX:=MX h.gp hs;simp only[aD,aQ,aG,Bm ps (MW WX),aA];by_cases hv:mH ps=0;rotate_left
  ·simp only[hv,aC,aZ,aJ,aL]
  simp only[hv,aD,aQ,aG,aI,yH h.view,yH hv,IM (jz m.1) (jz ps) (Mx (va h.view)) (Mx (va hv)) (by have:=vW h.view;omega) (by have:=vW hv;omega),sO m h.Et,zj m _ (show List.length m.2.1<=1048576 by omega),aA];by_cases h4:r.1=4
  ·simp only[h4,aD,aJ,aI]
   cases hm:pj (jz m.1) (jz ps) with
   | nil=>rfl
   | cons x xs=>
    have:(0:Int) < ((x::xs).length:Int):=by simp only[aO];omega
    simp only[this,aD,aJ,reduceCtorEq,aL]
  simp only[h4,aC,aG,aL];by_cases h2:qf m.2.1 r.2.1 < 0
  ·simp only[h2,aD,aJ,aI]
  simp only[h2,aC,aG,aL]
  rcases CU m.2.1 r.2.1 with e | ⟨j,hj,e,ht⟩
  ·rw[e] at h2;exact absurd (by decide) h2
  rw[e];simp only[aH];have wb:=MY h.lo h.view hv;have Sn:=JN h.view hv;generalize pj (jz m.1) (jz ps)=list at wb Sn
  have:=co (B:=λself v=>l_.b0 self (λz=>l_.q0 (m,r,()) list (j:Int) z) (m,r,()) list (j:Int) v) list (λ(s:List Buffer) (i:Int)=>(((ps,s,()):dg),i)) (λ_ s c=>Br j s c) (Ra ps) (λi s=>Eu T (List.length m.2.1) s) (by rw[aq];omega)
   (λi hi s self hI=>by
    show l_.b0 _ _ _ _ _ _=_;unfold l_.b0 Br;have am:(i:Int) < (list.length:Int):=by omega
    have KV:j < s.length:=by rw[hI.1];exact hj
    have VA:(j:Int) < (s.length:Int):=by omega
    have hb:=hI.2 _ (aS KV);simp only[am,VA,aD,aJ,aK,dZ,aI,aH,aB hi,aB KV,aA,vd,gA,Nw _ _ (show List.length (s[j]).2.1<=1048576 by have:=hb.1;omega) (λx hx=>HU h.hi (hb.2 x hx)) (HU h.hi (wb _ (aS hi))),xU];by_cases hf:(w5 (s[j]).2.1 list[i]).1=0
    ·simp only[hf,aD,aQ,aG,aI]
    ·simp only[hf,aC,aZ,aJ,aL])
   (λi hi s s' hI hf=>IW hI (wb _ (aS hi)) hf) (λs self _=>by
    show l_.b0 _ _ _ _ _ _=_;unfold l_.b0;simp only[bC,aC,aG]
    rfl) m.2.1 ⟨rfl,h.buf⟩ k (by omega)
  exact this
theorem N0 {T:Nat} {m:dg} (r:bg) (h:tC T m) (hr:qs r=0):qS.aa (m,r,())=some (rA m r,()):=by
 have yO:=h.bl;refine ah (k:=0) λk hk=>(qS.ae k _).trans ?_;show qS.p _=_;unfold qS.p rA;simp only[hr,aI,Rb r h,NZ r h hr,zj m _ (show List.length m.2.1<=1048576 by omega),sO m h.Et,xU,aA];have ke:List.length m.2.1+[((r.2.1,([]:List Change),()):Buffer)].length<=cc:=dh (by simp only[aO,bA];omega);by_cases h5:r.1=5
 ·simp only[h5,aD,aJ,jR,aI,show ¬ ((5:Int)=1) from by decide,aL]
 by_cases h6:r.1=6
 ·simp only[h6,aD,aC,aJ,aG,or_true,aI,show ¬ ((6:Int)=1) from by decide,show ¬ ((6:Int)=5) from by decide,aL]
 by_cases h1:r.1=1
 ·simp only[h1,aD,aJ,aI,show ¬ ((1:Int)=5) from by decide,show ¬ ((1:Int)=6) from by decide,aC,aG];by_cases h2:0<=qf m.2.1 r.2.1
  ·simp only[h2,aD,aJ,aI]
  ·simp only[h2,aC,aG,aL]
   by_cases h3:8<=(List.length m.2.1:Int)
   ·simp only[h3,aD,aJ,aI]
   ·simp only[h3,aC,aG,aL,aV ke]
 simp only[h1,h5,h6,aC,aG,or_self,aL]
end OT
namespace OT
open Go
def Ki (T:Nat) (R:mI):Prop:=(R.1=0->tC T R.2.2.2.2.2.1)/\xl T ((0:Int),R.2.2.2.2.1,())/\zz ei R.2.2.2.2.2.1<=2000*T
theorem TE {T:Nat} {c:Change} (h:HT T c):zz ai c<=2*T:=by
 have h1:zz ai c=0+((0+(0+(0+(List.length c.2.1.2.2.2.1+0))))+(0+((0+(0+(0+(List.length c.2.2.2.1.2.2.2.1+0))))+0))):=rfl;have:=h.1;have:=h.2
 omega
theorem HW {T:Nat}:∀ {xs:List Change},(∀ c ∈ xs,HT T c)->zz (.U ai) xs<=(2*T+1)*xs.length
 | [],_=>aY _
 | c::xs,h=>by
  have h1:zz (.U ai) (c::xs)=zz ai c+1+zz (.U ai) xs:=EG (e:=ai) c xs;have h2:=TE (h c bG);have h3:=HW (xs:=xs) λx hx=>h x (aW _ hx);refine bO (jF h1) ?_;rw[aO,Nat.mul_succ];omega
theorem JO {T:Nat} {b:Buffer} (h:xl T b):zz bj b<=61*(2*T+1):=by
 have h1:zz bj b=0+(zz (.U ai) b.2.1+0):=rfl;have h2:=HW h.2;have h3:(2*T+1)*List.length b.2.1<=(2*T+1)*61:=jA _ h.1;omega
theorem HX {T:Nat}:∀ {xs:List Buffer},(∀ b ∈ xs,xl T b)->zz (.U bj) xs<=(61*(2*T+1)+1)*xs.length
 | [],_=>aY _
 | b::xs,h=>by
  have h1:zz (.U bj) (b::xs)=zz bj b+1+zz (.U bj) xs:=EG (e:=bj) b xs;have h2:=JO (h b bG);have h3:=HX (xs:=xs) λx hx=>h x (aW _ hx);refine bO (jF h1) ?_;rw[aO,Nat.mul_succ];omega
theorem VB {T:Nat} {m:dg} (h:tC T m):zz ei m<=2000*T:=by
 have h1:zz ei m=zz (.U (.U u8)) m.1+(zz (.U bj) m.2.1+0):=rfl;have h2:=Vq m.1 h.gp;have h3:=HX h.buf;have h4:(61*(2*T+1)+1)*List.length m.2.1<=(61*(2*T+1)+1)*8:=jA _ h.bl;have:=h.lo;omega
theorem rt {T:Nat} {k:Int} (hk:k≠0):Ki T (xk k):=⟨λh=>absurd h hk,⟨aY _,λ_ h=>by cases h⟩,aY _⟩
theorem ES {T:Nat} {m:dg} {a b:Bool} {t:Int} {l:List Change} (h:tC T m) (hl:xl T ((0:Int),l,())):Ki T ((0:Int),a,b,t,l,m,()):=⟨λ_=>h,hl,VB h⟩
theorem JP {T j n:Nat} {ps:k9} (vv:64<=T) (Om:T<=1048576) (hv:mH ps=0) (hn:n<=8):∀ (list:List Change) (i:Nat) (s:List Buffer),(∀ c ∈ list,HT T c)->Eu T n s->Ki T (bz (λ_ s c=>Br j s c) (Ra ps) i list s).1
 | [],i,s,_,h=>ES ⟨vv,Om,hv,by show s.length<=8;rw[h.1];exact hn,h.2⟩ ⟨aY _,λ_ h=>by cases h⟩
 | c::list,i,s,hc,h=>by
  simp only[bz]
  cases hg:Br j s c with
  | inl o=>
   simp only;unfold Br at hg;split at hg
   ·split at hg
    ·cases hg
    ·rename_i hf;injection hg with hg;subst hg;exact rt hf
   ·injection hg with hg;subst hg;exact rt (by decide)
  | inr s'=>exact JP vv Om hv hn list (i+1) s' (λx hx=>hc x (aW _ hx)) (IW h (hc c bG) hg)
theorem Rc {T:Nat} {m:dg} (r:bg) (h:tC T m):Ki T (rA m r):=by
 have rh:xl T ((0:Int),([]:List Change),()):=⟨aY _,λ_ h=>by cases h⟩
 unfold rA;split;rotate_left
 ·rename_i hr;exact rt hr
 rename_i hr;split
 ·split
  ·exact rt (by decide)
  ·split
   ·exact rt (by decide)
   ·rename_i h8;refine ES ⟨h.lo,h.hi,h.view,?_,λb hb=>?_⟩ rh
    ·show (m.2.1++[((r.2.1,([]:List Change),()):Buffer)]).length<=8;rw[aR,aO,bA];omega
    ·rcases cJ.1 hb with hb | hb
     ·exact h.buf b hb
     ·rw[bR] at hb;subst hb;exact rh
 split
 ·split
  ·exact rt (by decide)
  ·unfold IX;split
   ·rename_i b hb;refine ES ⟨h.lo,h.hi,h.view,?_,λy hy=>?_⟩ (h.buf b (cA hb))
    ·have:=h.bl;show (m.2.1.take _++m.2.1.drop _).length<=8;rw[aR,bP,bI];omega
    ·rcases cJ.1 hy with hy | hy
     ·exact h.buf y (eA hy)
     ·exact h.buf y (dH hy)
   ·exact rt (by decide)
 unfold HV
 cases hs:nD m.1 r with
 | inl c=>exact rt (wr hs)
 | inr ps=>
  simp only;split;rotate_left
  ·rename_i hv;exact rt hv
  rename_i hv;split
  ·split
   ·exact ES ⟨h.lo,h.hi,hv,h.bl,h.buf⟩ rh
   ·exact rt (by decide)
  split
  ·exact rt (by decide)
  exact JP h.lo h.hi hv h.bl _ 0 _ (MY h.lo h.view hv) ⟨rfl,h.buf⟩
theorem Fs:tC 64 HR:=⟨aN _,by decide,by decide,aY _,λ_ h=>by cases h⟩
end OT
namespace OT
open Go
structure xV (T:Nat) (c:di):Prop where
 live:tC T c.1
 saved:tC T c.2.2.1
 lo:0<=c.2.1
 hi:c.2.1<=100000
def pU (c:di) (d:List UInt8):ql:=if (d.length:Int)<=c.2.1 then BJ 4 else match pT (d.drop c.2.1.toNat) with
 | none=>BJ 5
 | some (r,n)=>if (rA c.1 r).1=0 then ((0:Int),(rA c.1 r).2.2.1,(if (rA c.1 r).2.2.1 then (c.2.1+(n:Int),(rA c.1 r).2.2.2.1,(rA c.1 r).2.2.2.2.1,()) else WW),((rA c.1 r).2.2.2.2.2.1,c.2.1+(n:Int),c.2.2.1,c.2.2.2.1,()),()) else BJ (rA c.1 r).1
theorem CV (T:Nat) {c:di} {d:List UInt8} (h:xV T c) (hd:d.length<=16000):((pU c d).1≠0/\pU c d=BJ (pU c d).1) \/
  ((pU c d).1=0/\xV T (pU c d).2.2.2.1/\c.2.1+7<=(pU c d).2.2.2.1.2.1/\c.2.1 < (d.length:Int)/\xl T ((0:Int),(pU c d).2.2.1.2.2.1,())/\(pU c d).2.2.2.1.2.1<=(d.length:Int)):=by
 have vv:=h.lo;unfold pU;split
 ·exact .inl ⟨by show (4:Int)≠0;decide,rfl⟩
 rename_i am
 cases hr:pT (d.drop c.2.1.toNat) with
 | none=>exact .inl ⟨by show (5:Int)≠0;decide,rfl⟩
 | some q=>
  obtain ⟨r,n⟩:=q;obtain ⟨n7,nd,ZX⟩:=wo hr;rw[bI] at nd;have hg:=Rc r h.live;simp only;split
  ·rename_i h0;refine .inr ⟨rfl,⟨hg.1 h0,h.saved,by simp only;omega,by simp only;omega⟩,by simp only;omega,by omega,?_,by simp only;omega⟩
   cases hc:(rA c.1 r).2.2.1 with
   | true=>exact hg.2.1
   | false=>exact ⟨aY _,λ_ h=>by cases h⟩
  ·rename_i h0;exact .inl ⟨h0,rfl⟩
theorem N1 {T:Nat} {c:di} {d:List UInt8} (h:xV T c) (hd:d.length<=16000):lI.aa (c,d,())=some (pU c d,()):=by
 have vv:=h.lo;refine ah (k:=0) λk hk=>(lI.ae k _).trans ?_;show lI.p _=_;unfold lI.p pU;by_cases h1:(d.length:Int)<=c.2.1
 ·simp only[h1,aD,aJ,aI];rfl
 simp only[h1,aC,aG,aL,dX];rw[aV ⟨vv,by omega⟩,Fc _ (by rw[bI];omega)];simp only[aA]
 cases hr:pT (d.drop c.2.1.toNat) with
 | none=>rfl
 | some q=>
  obtain ⟨r,n⟩:=q;obtain ⟨n7,nd,ZX⟩:=wo hr;rw[bI] at nd;have hn:¬ ((n:Int)=0):=by omega
  simp only[hn,aC,aG,NY r h.live,aA];rw[bf (by omega)];by_cases h0:(rA c.1 r).1=0
  ·simp only[h0,aD,aQ,aG,aI];cases (rA c.1 r).2.2.1 <;> rfl
  ·simp only[h0,aC,aZ,aJ,aL];rfl
theorem N2 {T:Nat} {c:di} {d:List UInt8} (h:xV T c) (hd:d.length<=16000):p_.aa (c,d,())=some (pU c d,()):=by
 have vv:=h.lo;refine ah (k:=0) λk hk=>(p_.ae k _).trans ?_;show p_.p _=_;unfold p_.p pU;have Gw:¬ ((16000:Int) < (d.length:Int)):=by omega
 simp only[Gw,aC,aG,NW,aA];by_cases h1:(d.length:Int)<=c.2.1
 ·simp only[h1,aD,aJ,aI]
 simp only[h1,aC,aG,aL,dX];rw[aV ⟨vv,by omega⟩,Fe _ (by rw[bI];omega)];simp only[aA]
 cases hr:pT (d.drop c.2.1.toNat) with
 | none=>rfl
 | some q=>
  obtain ⟨r,n⟩:=q;obtain ⟨n7,nd,ZX⟩:=wo hr;rw[bI] at nd;simp only[aD,aQ,aG,N0 r h.live ZX,sO _ h.saved.Et,aA];rw[bf (by omega)];by_cases h0:(rA c.1 r).1=0
  ·simp only[h0,aD,aQ,aG,aI];cases (rA c.1 r).2.2.1 <;> rfl
  ·simp only[h0,aC,aZ,aJ,aL]
theorem TF {T:Nat} {c:di} (h:xV T c):p8.aa (c,())=some (c,()):=by
 refine ah (k:=0) λk hk=>(p8.ae k _).trans ?_;show p8.p _=_;unfold p8.p;simp only[sO _ h.live.Et,sO _ h.saved.Et,aA]
theorem WY (d:List UInt8):decide ((16000:Int) < (d.length:Int))=decide (16000 < d.length):=by
 by_cases h:16000 < d.length
 ·have:(16000:Int) < (d.length:Int):=by omega
  simp[h,this]
 ·have:¬ (16000:Int) < (d.length:Int):=by omega
  simp[h,this]
theorem XR {T:Nat} {s:gk} (h:xl T ((0:Int),s.2.2.1,())):zz gv s<=61*(2*T+1):=by
 have h1:zz gv s=0+(0+(zz (.U ai) s.2.2.1+0)):=rfl;have h2:0+(zz (.U ai) s.2.2.1+0)<=61*(2*T+1):=JO h;omega
abbrev HY (k:Int):ig:=(k,([]:List gk),se,())
def ru:Nat->di->List gk->List UInt8->ig
 | 0,c,s,_=>((0:Int),s,c,())
 | n+1,c,s,d=>if (pU c d).1=0 then (if (pU c d).2.1 then (if 40<=s.length then HY 2 else ru n (pU c d).2.2.2.1 (s++[(pU c d).2.2.1]) d) else ru n (pU c d).2.2.2.1 s d) else ((0:Int),s,c,())
theorem CW {T:Nat} (d:List UInt8) (hd:d.length<=16000):∀ (n:Nat) (c:di) (s:List gk),xV T c->s.length<=40->(∀ x ∈ s,xl T ((0:Int),x.2.2.1,()))->ru n c s d=HY 2\/((ru n c s d).1=0/\xV T (ru n c s d).2.2.1/\(ru n c s d).2.1.length<=40/\∀ x ∈ (ru n c s d).2.1,xl T ((0:Int),x.2.2.1,()))
 | 0,c,s,h,hs,hx=>.inr ⟨rfl,h,hs,hx⟩
 | n+1,c,s,h,hs,hx=>by
  unfold ru
  rcases CV T h hd with ⟨h0,_⟩ | ⟨h0,g,_,_,ZY,_⟩
  ·rw[bB h0];exact .inr ⟨rfl,h,hs,hx⟩
  ·rw[aV h0];split
   ·split
    ·exact .inl rfl
    ·refine CW d hd n _ _ g (by rw[aR,aO,bA];omega) λx hm=>?_;rcases cJ.1 hm with hm | hm
     ·exact hx x hm
     ·rw[bR] at hm;subst hm;exact ZY
   ·exact CW d hd n _ _ g hs hx
theorem Ao {T:Nat} (c0:di) (d:List UInt8) (hd:d.length<=16000) (k0:Nat):∀ (n k:Nat) (c:di) (s:List gk),xV T c->s.length<=40->(d.length:Int) - c.2.1 < (n:Int)->0 < n->n<=k ->
  ak (λw v=>jb.B0 k0 w (c0,d,()) v) k (c,s)=some ((ru n c s d).2.1,(ru n c s d).2.2.1,(ru n c s d).1,())
 | 0,_,_,_,_,_,_,h0,_=>by omega
 | n+1,0,_,_,_,_,_,_,hk=>by omega
 | n+1,k+1,c,s,h,hs,hn,_,hk=>by
  rw[uD];show jb.b0 _ _ _=_;unfold jb.b0 ru;simp only[N1 h hd,aA]
  rcases CV T h hd with ⟨h0,_⟩ | ⟨h0,g,ue,am,ZY,_⟩
  ·simp only[h0,aC,aZ,aJ,aL]
  ·simp only[h0,aD,aQ,aG,aI];have c1:∀ y:gk,s.length+[y].length<=cc:=λy=>dh (by simp only[aO,bA];omega)
   cases hc:(pU c d).2.1 with
   | true=>
    simp only[aJ,aI,c1];by_cases TG:40<=s.length
    ·have CX:(40:Int)<=(s.length:Int):=by omega
     simp only[TG,CX,aD,aJ,aI]
    ·have CX:¬ (40:Int)<=(s.length:Int):=by omega
     simp only[TG,CX,aC,aG,aL];exact Ao c0 d hd k0 n k _ _ g (by rw[aR,aO,bA];omega) (by omega) (by omega) (by omega)
   | false=>
    simp only[aG,aF,aL];exact Ao c0 d hd k0 n k _ _ g hs (by omega) (by omega) (by omega)
theorem Ap {T:Nat} (c0:di) (d:List UInt8) (hd:d.length<=16000) (k0:Nat):∀ (n k:Nat) (c:di) (s:List gk),xV T c->s.length<=40->(d.length:Int) - c.2.1 < (n:Int)->0 < n->n<=k ->
  ak (λw v=>mE.B0 k0 w (c0,d,()) v) k ((0:Int),s,c,())=some (ru n c s d,())
 | 0,_,_,_,_,_,_,h0,_=>by omega
 | n+1,0,_,_,_,_,_,_,hk=>by omega
 | n+1,k+1,c,s,h,hs,hn,_,hk=>by
  rw[uD];show mE.b0 _ _ _=_;unfold mE.b0 ru;simp only[N2 h hd,aA]
  rcases CV T h hd with ⟨h0,_⟩ | ⟨h0,g,ue,am,ZY,_⟩
  ·simp only[h0,aC,aZ,aJ,aL]
  ·simp only[h0,aD,aQ,aG,aI];have c1:∀ y:gk,s.length+[y].length<=cc:=λy=>dh (by simp only[aO,bA];omega)
   cases hc:(pU c d).2.1 with
   | true=>
    simp only[aJ,aI,c1];have hl:((s++[(pU c d).2.2.1]).length:Int)=(s.length:Int)+1:=by rw[aR,aO,bA];omega
    rw[hl];by_cases TG:40<=s.length
    ·have CX:(40:Int) < (s.length:Int)+1:=by omega
     simp only[TG,CX,aD,aJ,aI]
    ·have CX:¬ (40:Int) < (s.length:Int)+1:=by omega
     simp only[TG,CX,aC,aG,aL];exact Ap c0 d hd k0 n k _ _ g (by rw[aR,aO,bA];omega) (by omega) (by omega) (by omega)
   | false=>
    have CX:¬ (40:Int) < (s.length:Int):=by omega
    simp only[CX,aC,aG,aF,aL];exact Ap c0 d hd k0 n k _ _ g hs (by omega) (by omega) (by omega)
theorem MZ {T:Nat}:∀ {s:List gk},(∀ x ∈ s,xl T ((0:Int),x.2.2.1,()))->zz (.U gv) s<=(61*(2*T+1)+1)*s.length
 | [],_=>aY _
 | x::s,h=>by
  have h1:zz (.U gv) (x::s)=zz gv x+1+zz (.U gv) s:=EG (e:=gv) x s;have h2:=XR (h x bG);have h3:=MZ (s:=s) λy hy=>h y (aW _ hy);refine bO (jF h1) ?_;rw[aO,Nat.mul_succ];omega
end OT
namespace OT
open Go
theorem VC {s:kJ} (hv:sH im s) (hz:zz im s<=1048576):MU s:=by
 obtain ⟨u,ps,l,xs,n,⟨⟩⟩:=s;obtain ⟨h1,h2,h3,h4,h5,_⟩:=hv;replace hz:0+(zz (.U (.U u8)) ps+(zz kg l+(zz (.U de) xs+(0+0))))<=1048576:=hz;have hzl:zz kg l=zz (.U u8) l.1+(zz (.U u8) l.2.1+0):=rfl;have uz:List.length l.1<=zz (.U u8) l.1:=vz (e:=u8) l.1;have tH:List.length l.2.1<=zz (.U u8) l.2.1:=vz (e:=u8) l.2.1;refine ⟨⟨?_,?_⟩,λp hp=>?_,?_⟩
 ·show List.length l.1<=1048576;omega
 ·show List.length l.2.1<=1048576;omega
 ·have a1:zz (.U u8) p+1<=zz (.U (.U u8)) ps:=Hc (e:=.U u8) hp;have a2:List.length p<=zz (.U u8) p:=vz (e:=u8) p;rw[aq];omega
 ·have a3:zz BC (([]:List Row),xs,n,())<=1048576:=by
   show (0+0)+(zz (.U de) xs+(0+0))<=1048576;omega
  exact (Vw (p:=(([]:List Row),xs,n,())) ⟨⟨aY _,λx hx=>by cases hx⟩,h4,h5,trivial⟩ a3).2.2
end OT
namespace OT
open Go
end OT
namespace OT
open Go
def sl (x:gk):Prop:=List.length x.2.2.1<=maxLen/\∀ c ∈ x.2.2.1,cl c
end OT
namespace OT
open Go
def Et (s:wQ):Prop:=(s.2.1).length<=maxLen/\(∀ x ∈ s.2.1,rl x)/\zz (.U ba) s.2.1<=1048576
end OT
namespace OT
open Go
end OT
namespace OT
open Go
theorem zk:xV 64 se:=⟨Fs,Fs,fW _,by decide⟩
theorem N3:Q9 se=0:=by decide
def xm (s:kJ):List UInt8:=s.2.2.1.1++s.2.2.1.2.1
def sy (s:kJ):ig:=ru 16001 se [] (xm s)
def wu (s:kJ):ig:=if sN s=0 then ((sy s).1,(sy s).2.1,se,()) else HY (sN s)
theorem Ev {s:kJ} (h:sN s=0):xh s.2.2.1=0:=by
 unfold sN at h;split at h
 ·assumption
 ·rename_i hn;exact absurd h hn
theorem IY {s:kJ} (h:sN s=0):(xm s).length<=16000:=by
 have:=(wt (Ev h)).1;unfold xm;rw[aR];exact this
theorem HZ {s:kJ} (h:sN s=0):sy s=HY 2\/((sy s).1=0/\(sy s).2.1.length<=40/\∀ x ∈ (sy s).2.1,xl 64 ((0:Int),x.2.2.1,())):=by
 rcases CW (T:=64) (xm s) (IY h) 16001 se [] zk (aY _) (λ_ h=>by cases h) with e | ⟨h0,_,hl,hx⟩
 ·exact .inl e
 ·exact .inr ⟨h0,hl,hx⟩
theorem N4 {s:kJ} (h:sN s=0):nL.aa (s,())=some ((sy s).2.1,(sy s).1,()):=by
 have hl:=IY h;have tH:List.length s.2.2.1.1+List.length s.2.2.1.2.1<=16000:=(wt (Ev h)).1;refine ah (k:=0) λk hk=>(nL.ae k _).trans ?_;show nL.p _=_;unfold nL.p
 have ha:qc.aa (s.2.2.1,())=some (xm s,()):=by
  refine ah (k:=0) λk hk=>(qc.ae k _).trans ?_;show qc.p _=_;unfold qc.p;rw[vK s.2.2.1.1 (by omega)];simp only[aA];rw[aV (dh (by omega))];rfl
 have hd:jb.aa (se,xm s,())=some ((sy s).2.1,(sy s).2.2.1,(sy s).1,()):=by
  refine ah (k:=16001) λk hk=>(jb.ae k _).trans ?_;unfold jb.p;have Gw:¬ 16000 < (xm s).length:=by omega
  simp only[WY,Gw,aC,aG];exact Ao (T:=64) se (xm s) hl k 16001 k se [] zk (aY _) (by show ((xm s).length:Int) - 0 < _;omega) (by omega) hk
 simp only[ha,hd,aA]
theorem J0 {s:kJ} (h:MU s):pP.aa (s,())=some (wu s,()):=by
 refine ah (k:=0) λk hk=>(pP.ae k _).trans ?_;show pP.p _=_;unfold pP.p wu;simp only[MV h,aA];by_cases h0:sN s=0
 ·simp only[h0,aD,aQ,aG,aI,N4 h0,aA]
 ·simp only[h0,aC,aZ,aJ,aL]
theorem J1 {s:kJ} (h:MU s):qT.aa (s,())=some (wu s,()):=by
 refine ah (k:=0) λk hk=>(qT.ae k _).trans ?_;show qT.p _=_;unfold qT.p wu;simp only[IU h,aA];by_cases h0:sN s=0
 ·have hl:=IY h0;have tH:List.length s.2.2.1.1+List.length s.2.2.1.2.1<=16000:=(wt (Ev h0)).1
  have hd:mE.aa (se,xm s,())=some (sy s,()):=by
   refine ah (k:=16001) λk hk=>(mE.ae k _).trans ?_;unfold mE.p;have Gw:¬ 16000 < (xm s).length:=by omega
   have hc:nS.aa (se,())=some (0,()):=by
    have:=NV se ⟨aY _,λ_ h=>(by cases h),aY _,λ_ h=>by cases h⟩ ⟨aY _,λ_ h=>(by cases h),aY _,λ_ h=>by cases h⟩;rw[N3] at this;exact this
   simp only[hc,WY,Gw,aD,aC,aQ,aG,TF zk,aA];exact Ap (T:=64) se (xm s) hl k 16001 k se [] zk (aY _) (by show ((xm s).length:Int) - 0 < _;omega) (by omega) hk
  simp only[h0,aD,aQ,aG,aI,MR s.2.2.1.1 (by omega),aA];rw[aV (dh (by omega))];show (mE.aa (se,xm s,())).bind _=_;rw[hd];simp only[aA]
  rcases HZ h0 with e | ⟨e,_⟩
  ·rw[e];rfl
  ·simp only[e,aD,aQ,aG]
 ·simp only[h0,aC,aZ,aJ,aL]
theorem M0 {s:kJ}:zz gq (wu s)<=10000000:=by
 have ZZ:∀ k:Int,zz gq (HY k)<=10000000:=λk=>aY _;unfold wu;split
 ·rename_i h0
  rcases HZ h0 with e | ⟨_,hl,hx⟩
  ·rw[e];exact ZZ 2
  ·have h3:zz gq ((sy s).1,(sy s).2.1,se,())=0+(zz (.U gv) (sy s).2.1+(0+0)):=rfl;have b:=MZ hx;have e:(61*(2*64+1)+1)*(sy s).2.1.length<=(61*(2*64+1)+1)*40:=jA _ hl;refine bO (jF h3) ?_;omega
 ·exact ZZ _
theorem N5 (v:f0.Arg) (hv:Sl f0.ps v):f0.aa v=some (true,()):=by
 obtain ⟨s,⟨⟩⟩:=v;obtain ⟨Z0,_⟩:=hv;refine ah (k:=0) λk _=>(f0.ae k _).trans ?_;show f0.p _=_;unfold f0.p;simp only[Qo s 1048576 Z0 (show (0:Int)<=1048576 by omega) (by omega),aA];by_cases wJ:((zz im s:Nat):Int)<=1048576;rotate_left
 ·have:il (1048576) (zz im s)=-1:=bB wJ;simp only[this];rfl
 have e1:il (1048576) (zz im s)=1048576 - ((zz im s:Nat):Int):=aV wJ;have n1:¬ (1048576 - ((zz im s:Nat):Int) < 0):=by omega
 have h1:MU s:=VC Z0 (by omega);have hR:=M0 (s:=s);have hB:mL=4611686018427387904:=rfl;obtain ⟨k',y,a1,a2,a3,a4⟩:=L5 (wu s) 1 (by omega) (by omega);obtain ⟨l1,w1,b1,c1,d1⟩:=Xz s 1 (by omega) (by omega);simp only[e1,n1,aC,aG,Qp s (by omega),J1 h1,J0 h1,ET (wu s) (by omega),a1,a2,show ¬ k' < 0 by omega,L4 s (by omega),b1,show ¬ l1 < 0 by omega,aA,aQ,aD,aJ]
end OT
