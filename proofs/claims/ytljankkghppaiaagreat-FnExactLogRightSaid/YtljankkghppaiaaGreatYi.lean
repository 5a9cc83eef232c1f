/- The proof's parts, merged: CrashConnector and SaveConnector  the laws.. No conditions but those that each states. -/
import Derived.Test.YtljankkghppaiaaGreatYh
set_option linter.unusedVariables false
set_option linter.unusedSimpArgs false
namespace OT
open Go
theorem Nh (m:dw) (h:Qo m):kq.aa (m,())=some (m,()):=by
 refine ah (k:=1048577) fun k hk=>(kq.ae k _).trans ?_;unfold kq.p;rw[CH m.1 h.JJ];simp only[aB]
 have mQ:∀ b:Buffer,List.length b.2.1<=1048576->oy.aa (b,())=some (b,()):=fun b hb=>by
  refine ah (k:=0) fun k hk=>(oy.ae k _).trans ?_;show oy.p _=_;unfold oy.p;rw[A8 _ hb];rfl
 have hb:=h.bl
 have:=b9 (B:=fun self v=>kq.b0 self (fun z=>kq.q0 (m,()) z) (m,()) v) m.2.1 (fun (s:List Buffer) (i:Int)=>(((m.1,s,()):dw),i)) (fun _ s b=>.inr (s++[b])) (fun s=>(((m.1,s,()):dw),())) (fun i s=>s.length<=i) (by rw[ai];omega)
  (fun i hi s self hI=>by
   show kq.b0 _ _ _ _=_;unfold kq.b0;have aj:(i:Int) < (List.length m.2.1:Int):=by omega
   simp only[aj,aC,aJ,aK,aI,aH,aA hi,aB,mQ _ (h.buf _ (aQ hi))]
   rw[aU (da (by simp only[aP,bB];omega))])
  (fun i hi s s' hI hf=>by
   injection hf with hf;subst hf
   rw[aS,aP,bB];omega) (fun s self _=>by
   show kq.b0 _ _ _ _=_;unfold kq.b0;simp only[bC,aD,aE]
   rfl) [] (by simp) k (by omega)
 rw[h_,xJ] at this;exact this
end OT
set_option linter.unusedSectionVars false
namespace OT
open Go
theorem uQ:∀ p:Path,qj p p=true
 | []=>rfl
 | .fst::p=>uQ p
 | .snd::p=>uQ p
 | .idx i::p=>by simp[qj,uQ p]
 | .o4 i::p=>by simp[qj,uQ p]
theorem Hu {α:Type} (p:α->Bool):∀ (xs:List α) (i:Nat),vm p i xs=-1\/∃ (j:Nat) (hj:j < xs.length),vm p i xs=((i+j:Nat):Int)/\p xs[j]=true
 | [],i=>.inl rfl
 | x::xs,i=>by
  simp only[vm];by_cases hx:p x=true
  ·rw[aU hx];exact .inr ⟨0,by simp,by simp,hx⟩
  ·rw[bA hx]
   rcases Hu p xs (i+1) with h | ⟨j,hj,h1,h2⟩
   ·exact .inl h
   ·exact .inr ⟨j+1,by simpa using hj,by rw[h1];congr 1;omega,h2⟩
theorem Cp (xs:List Buffer) (t:Int):qh xs t=-1\/∃ (j:Nat) (hj:j < xs.length),qh xs t=(j:Int)/\(xs[j]).1=t:=by
 rcases Hu (fun b:Buffer=>decide (b.1=t)) xs 0 with h | ⟨j,hj,h1,h2⟩
 ·exact .inl h
 ·exact .inr ⟨j,hj,by rw[qh,h1,bE],by simpa using h2⟩
abbrev wR (k:Int):mO:=(k,false,false,(0:Int),([]:List Change),Ht,())
def Hv (T:Nat) (c:Change):Prop:=List.length c.2.1.2.2.2.1<=T/\List.length c.2.2.2.1.2.2.2.1<=T
abbrev yc (T:Nat) (b:Buffer):Prop:=List.length b.2.1<=61/\∀ c ∈ (b.2.1:List Change),Hv T c
theorem D5 {T:Nat} {c:Change} (hT:T<=1048576) (h:Hv T c):cl c:=⟨by unfold rl;rw[ai];have:=h.1;omega,by unfold rl;rw[ai];have:=h.2;omega⟩
structure tg (T:Nat) (m:dw):Prop where
 lo:64<=T
 hi:T<=1048576
 view:mN m.1=0
 bl:List.length m.2.1<=8
 buf:∀ b ∈ (m.2.1:List Buffer),yc T b
theorem tg.gp {T:Nat} {m:dw} (h:tg T m):gp m.1:=Uz (uP h.view).right
theorem tg.th {T:Nat} {m:dw} (h:tg T m):Qo m:=⟨h.gp,by have:=h.bl;omega,fun b hb=>by have:=(h.buf b hb).1;omega⟩
theorem Mh {ps:kX} (h:gp ps):∀ p ∈ ps,p.length<=maxLen:=fun p hp=>by rw[h.2 p hp,ai];omega
def AQ (j:Nat) (s:List Buffer) (c:Change):Sum (mO×Unit) (List Buffer):=match s[j]? with
 | some b=>if (wF b.2.1 c).1=0 then .inr (s.set j (b.1,(wF b.2.1 c).2.1,b.2.2)) else .inl (wR (wF b.2.1 c).1,())
 | none=>.inl (wR 4,())
def Qp (ps:kX) (s:List Buffer):mO×Unit:=(((0:Int),false,false,(0:Int),([]:List Change),(ps,s,()),()),())
def ZQ (j:Nat) (ps:kX) (s:List Buffer) (list:List Change):mO:=(bn (fun _ s c=>AQ j s c) (Qp ps) 0 list s).1
def D6 (T n:Nat) (s:List Buffer):Prop:=s.length=n/\∀ b ∈ s,yc T b
theorem UA {T:Nat} {xs:List Change} {c:Change} (hx:∀ x ∈ xs,Hv T x) (hc:Hv T c):yc T ((0:Int),(wF xs c).2.1,()):=by
 unfold wF;split
 ·rename_i hf;have h60:=(B9 hf).2.2;split
  ·cases h:pR xs c with
   | none=>exact ⟨aW _,fun x hx=>by cases hx⟩
   | some r=>
    have:=Sg h;exact ⟨by simp only;omega,Sh h hx hc fun x F7=>⟨(hx x F7).1,hc.2⟩⟩
  ·exact ⟨aW _,fun x hx=>by cases hx⟩
 ·exact ⟨aW _,fun x hx=>by cases hx⟩
theorem Ip {T j n:Nat} {s s':List Buffer} {c:Change} (h:D6 T n s) (hc:Hv T c) (he:AQ j s c=.inr s'):D6 T n s':=by
 unfold AQ at he;split at he
 ·rename_i b hb;split at he
  ·injection he with he;subst he;have hbm:=h.2 b (cB hb);have hf:=UA (c:=c) hbm.2 hc;refine ⟨by rw[fM];exact h.1,fun y hy=>?_⟩
   rcases gX hy with hy | rfl
   ·exact h.2 y hy
   ·exact hf
  ·cases he
 ·cases he
def Iq (m:dw) (r:bf):mO:=match m.2.1[(qh m.2.1 r.2.1).toNat]? with
 | some b=>((0:Int),true,decide (r.1=5),r.2.1,b.2.1,(m.1,m.2.1.take (qh m.2.1 r.2.1).toNat++m.2.1.drop ((qh m.2.1 r.2.1).toNat+1),()),())
 | none=>wR 4
def Hw (m:dw) (r:bf):mO:=match nB m.1 r with
 | .inl c=>wR c
 | .inr ps=>if mN ps=0 then (if r.1=4 then (if pt (jY m.1) (jY ps)=[] then ((0:Int),false,false,(0:Int),([]:List Change),(ps,m.2.1,()),()) else wR 8) else
   if qh m.2.1 r.2.1 < 0 then wR 4 else ZQ (qh m.2.1 r.2.1).toNat ps m.2.1 (pt (jY m.1) (jY ps))) else wR (mN ps)
def rp (m:dw) (r:bf):mO:=if qs r=0 then
    (if r.1=1 then (if 0<=qh m.2.1 r.2.1 then wR 6 else if 8<=(List.length m.2.1:Int) then wR 2 else ((0:Int),false,false,(0:Int),([]:List Change),(m.1,m.2.1++[(r.2.1,([]:List Change),())],()),()))
     else if r.1=5\/r.1=6 then (if qh m.2.1 r.2.1 < 0 then wR 4 else Iq m r) else Hw m r)
 else wR (qs r)
theorem Mi {ps se:kX} {r:bf} (hp:gp ps) (h:nB ps r=.inr se):gp se:=yI hp h
theorem Mj {T:Nat} (hT:64<=T) {B A:kX} (hB:mN B=0) (hA:mN A=0):∀ c ∈ pt (jY B) (jY A),Hv T c:=fun c hc=>by
 have:=vD (q:=fun r=>List.length r.2.2.2.1<=64) (aW _) _ _ _ (Im hB) (Im hA) c hc;exact ⟨by have:=this.1;omega,by have:=this.2;omega⟩
theorem Jf {B A:kX} (hB:mN B=0) (hA:mN A=0):(pt (jY B) (jY A)).length<=384:=by
 have h1:=vG hB;have h2:=vG hA
 have:=xg ((jY B).length+(jY A).length) (jY B) (jY A);unfold pt;omega
theorem WE (xs:List Buffer) (i:Nat) (hi:i < xs.length) (hl:xs.length<=1000):mu.aa (xs,(i:Int),af ((i:Int)+1),())=some (xs.take i++xs.drop (i+1),()):=by
 rw[bt (by omega)]
 have h1:(0:Int)<=(i:Int)/\(i:Int)<=(i:Int)+1/\(i:Int)+1<=(xs.length:Int):=⟨by omega,by omega,by omega⟩
 show (if (0:Int)<=(i:Int)/\(i:Int)<=(i:Int)+1/\(i:Int)+1<=(xs.length:Int) then some (xs.take (i:Int).toNat++xs.drop ((i:Int)+1).toNat,()) else none)=_;rw[aU h1];rfl
theorem SM (j:Nat) (h:j<=1000):BM (j:Int) (af ((j:Int)+1)) j=true:=by
 rw[bt (by omega)];simp only[BM,aF,bO];omega
theorem kinds {r:bf} (h:qs r=0) (h1:¬ r.1=1) (h5:¬ r.1=5) (h6:¬ r.1=6):r.1=2\/r.1=3\/r.1=4:=by
 have:=ux h;omega
theorem Ni {T:Nat} {m:dw} (r:bf) (h:tg T m):jp.aa (m,r,())=some (rp m r,()):=by
 have yk:=h.bl;refine ah (k:=3000) fun k hk=>(jp.ae k _).trans ?_;unfold jp.p rp;simp only[Ck,aB];by_cases hr:qs r=0;rotate_left
 ·simp only[hr,aD,aV,aJ,aL]
 simp only[hr,aC,aO,aE,aI,Qm m _ (show List.length m.2.1<=1048576 by omega),Nh m h.th,aB]
 have xU:∀ b:Bool,¬ qh m.2.1 r.2.1 < 0->b=decide (r.1=5)->(if 0<=qh m.2.1 r.2.1/\qh m.2.1 r.2.1 < (List.length m.2.1:Int) then ((m.2.1[(qh m.2.1 r.2.1).toNat]?).bind fun x6=>(m.2.1[(qh m.2.1 r.2.1).toNat]?).bind fun x7=>(m.2.1[(qh m.2.1 r.2.1).toNat]?).bind fun x8=>bif BM (qh m.2.1 r.2.1) (af (qh m.2.1 r.2.1+(1:Int))) (qh m.2.1 r.2.1).toNat then ((mu.aa (m.2.1.set (qh m.2.1 r.2.1).toNat x8,qh m.2.1 r.2.1,af (qh m.2.1 r.2.1+(1:Int)),())).bind fun r9=>some (((0:Int),true,b,x7.1,x7.2.1,(m.1,r9.1,m.2.2),()),())) else none) else none)=some (Iq m r,()):=fun b h0 hb=>by
  rcases Cp m.2.1 r.2.1 with e | ⟨j,hj,e,ht⟩
  ·rw[e] at h0;exact absurd (by decide) h0
  ·unfold Iq;rw[e];simp only[aH,aA hj,aB,SM j (by omega),aJ,List.set_getElem_self,WE m.2.1 j hj (by omega),ht,hb];rw[aU ⟨by omega,by omega⟩]
 by_cases h1:r.1=1
 ·simp only[h1,aC,aJ,aI];by_cases h2:0<=qh m.2.1 r.2.1
  ·simp only[h2,aC,aJ,aI]
  ·simp only[h2,aD,aE,aL]
   by_cases h3:8<=(List.length m.2.1:Int)
   ·simp only[h3,aC,aJ,aI]
   ·simp only[h3,aD,aE,aL];rw[aU (da (by simp only[aP,bB];omega))]
 simp only[h1,aD,aE,aL];by_cases h5:r.1=5
 ·simp only[h5,aC,aJ,jO,aI];by_cases h2:qh m.2.1 r.2.1 < 0
  ·simp only[h2,aC,aJ,aI]
  ·simp only[h2,aD,aE,aL];exact xU true h2 (by rw[h5];rfl)
 simp only[h5,aD,aE,jK];by_cases h6:r.1=6
 ·simp only[h6,aC,aJ,aI];by_cases h2:qh m.2.1 r.2.1 < 0
  ·simp only[h2,aC,aJ,aI]
  ·simp only[h2,aD,aE,aL];exact xU _ h2 (by rw[h6];rfl)
 simp only[h6,aD,aE,aL];unfold Hw;simp only[Aq m.1 r h.gp hr,aB]
 cases hs:nB m.1 r with
 | inl c=>
  have:=vY hs;simp only[this,aD,aV,aJ]
 | inr ps=>
  have VV:=Mi h.gp hs;simp only[aC,aO,aE,AN ps (Mh VV),aB];by_cases hv:mN ps=0;rotate_left
  ·simp only[hv,aD,aV,aJ,aL]
  have uj:=Ao (uP h.view);have to:=Ao (uP hv)
  simp only[hv,aC,aO,aE,aI,AN m.1 (Mh h.gp),AP _ (show (vx m.1).length<=1000 by omega),AP _ (show (vx ps).length<=1000 by omega),aB];have hbt:ec.aa ((vx m.1).map (·.1),(vx ps).map (·.1),())=some (pt (jY m.1) (jY ps),()):=Ic (jY m.1) (jY ps) (by have:=vG h.view;omega) (by have:=vG hv;omega);simp only[hbt,CH ps VV,aB];by_cases h4:r.1=4
  ·simp only[h4,aC,aO,aJ,aE,aI]
   cases hm:pt (jY m.1) (jY ps) with
   | nil=>rfl
   | cons x xs=>
    have:(0:Int) < ((x::xs).length:Int):=by simp only[aP];omega
    simp only[this,aC,aJ,reduceCtorEq,aL]
  simp only[h4,aD,aV,aJ,aE,aL];by_cases h2:qh m.2.1 r.2.1 < 0
  ·simp only[h2,aC,aJ,aI]
  simp only[h2,aD,aE,aL]
  rcases Cp m.2.1 r.2.1 with e | ⟨j,hj,e,ht⟩
  ·rw[e] at h2;exact absurd (by decide) h2
  rw[e];simp only[aH];have vh:=Mj h.lo h.view hv;have RH:=Jf h.view hv;generalize pt (jY m.1) (jY ps)=list at vh RH
  have:=b9 (B:=fun self v=>jp.b0 self (fun z=>jp.q0 (m,r,()) (j:Int) list (list.length:Int) z) (m,r,()) (j:Int) list (list.length:Int) v) list (fun (s:List Buffer) (i:Int)=>(((ps,s,()):dw),i)) (fun _ s c=>AQ j s c) (Qp ps) (fun i s=>D6 T (List.length m.2.1) s) (by rw[ai];omega)
   (fun i hi s self hI=>by
    show jp.b0 _ _ _ _ _ _ _=_;unfold jp.b0 AQ;have aj:(i:Int) < (list.length:Int):=by omega
    have Kn:j < s.length:=by rw[hI.1];exact hj
    have UB:(j:Int) < (s.length:Int):=by omega
    have hb:=hI.2 _ (aQ Kn);simp only[aj,UB,aC,aJ,aK,dY,aI,aH,aA hi,aA Kn,aB,uQ,fX,MR _ _ (show List.length (s[j]).2.1<=1048576 by have:=hb.1;omega) (fun x hx=>D5 h.hi (hb.2 x hx)) (D5 h.hi (vh _ (aQ hi)))];by_cases hf:(wF (s[j]).2.1 list[i]).1=0
    ·simp only[hf,aC,aO,aE,aI]
    ·simp only[hf,aD,aV,aJ,aL])
   (fun i hi s s' hI hf=>Ip hI (vh _ (aQ hi)) hf) (fun s self _=>by
    show jp.b0 _ _ _ _ _ _ _=_;unfold jp.b0;simp only[bC,aD,aE]
    rfl) m.2.1 ⟨rfl,h.buf⟩ k (by omega)
  exact this
theorem xu (c:Int):kd.aa (c,())=some (wR c,()):=by
 refine ah (k:=0) fun k hk=>(kd.ae k _).trans ?_;rfl
theorem Qq {T:Nat} {m:dw} (r:bf) (h:tg T m):qA.aa (m,r,())=some (if qh m.2.1 r.2.1 < 0 then wR 4 else Iq m r,()):=by
 have yk:=h.bl;refine ah (k:=0) fun k hk=>(qA.ae k _).trans ?_;show qA.p _=_;unfold qA.p Iq;simp only[yK m _ (show List.length m.2.1<=1048576 by omega),xu,aB];by_cases h2:qh m.2.1 r.2.1 < 0
 ·simp only[h2,aC,aJ,aI]
 simp only[h2,aD,aE,aL,sA m h.th,aB]
 rcases Cp m.2.1 r.2.1 with e | ⟨j,hj,e,ht⟩
 ·rw[e] at h2;exact absurd (by decide) h2
 rw[e,bt (by omega)];have k_:∀ l:List Buffer,l.length<=1000->([]:List Buffer).length+l.length<=bz:=fun l hl=>da (by simp only[bB];omega);rw[aU ⟨by omega,by omega⟩];simp only[aH,show ((j:Int)+1).toNat=j+1 from by omega,eD,bP,dV];rw[aU (k_ _ (by rw[bQ];omega)),aU (by omega),aA hj];simp only[aB];rw[aU ⟨by omega,by omega⟩,aU (da (by rw[bQ,bI];omega))]
theorem Nj {T:Nat} {m:dw} (r:bf) (h:tg T m) (hr:qs r=0):mj.aa (m,r,())=some (Hw m r,()):=by
 have yk:=h.bl;refine ah (k:=3000) fun k hk=>(mj.ae k _).trans ?_;unfold mj.p Hw;simp only[CQ m.1 r h.gp,xu,aB]
 cases hs:nB m.1 r with
 | inl c=>
  have:=vY hs;simp only[this,aD,aV,aJ]
 | inr ps=>
  have VV:=Mi h.gp hs;simp only[aC,aO,aE,AL ps (Mh VV),aB];by_cases hv:mN ps=0;rotate_left
  ·simp only[hv,aD,aV,aJ,aL]
  simp only[hv,aC,aO,aE,aI,x9 h.view,x9 hv,If (jY m.1) (jY ps) (LT (uP h.view)) (LT (uP hv)) (by have:=vG h.view;omega) (by have:=vG hv;omega),sA m h.th,yK m _ (show List.length m.2.1<=1048576 by omega),aB];by_cases h4:r.1=4
  ·simp only[h4,aC,aJ,aI]
   cases hm:pt (jY m.1) (jY ps) with
   | nil=>rfl
   | cons x xs=>
    have:(0:Int) < ((x::xs).length:Int):=by simp only[aP];omega
    simp only[this,aC,aJ,reduceCtorEq,aL]
  simp only[h4,aD,aE,aL];by_cases h2:qh m.2.1 r.2.1 < 0
  ·simp only[h2,aC,aJ,aI]
  simp only[h2,aD,aE,aL]
  rcases Cp m.2.1 r.2.1 with e | ⟨j,hj,e,ht⟩
  ·rw[e] at h2;exact absurd (by decide) h2
  rw[e];simp only[aH];have vh:=Mj h.lo h.view hv;have RH:=Jf h.view hv;generalize pt (jY m.1) (jY ps)=list at vh RH
  have:=b9 (B:=fun self v=>mj.b0 self (fun z=>mj.q0 (m,r,()) list (j:Int) z) (m,r,()) list (j:Int) v) list (fun (s:List Buffer) (i:Int)=>(((ps,s,()):dw),i)) (fun _ s c=>AQ j s c) (Qp ps) (fun i s=>D6 T (List.length m.2.1) s) (by rw[ai];omega)
   (fun i hi s self hI=>by
    show mj.b0 _ _ _ _ _ _=_;unfold mj.b0 AQ;have aj:(i:Int) < (list.length:Int):=by omega
    have Kn:j < s.length:=by rw[hI.1];exact hj
    have UB:(j:Int) < (s.length:Int):=by omega
    have hb:=hI.2 _ (aQ Kn);simp only[aj,UB,aC,aJ,aK,dY,aI,aH,aA hi,aA Kn,aB,uQ,fX,MS _ _ (show List.length (s[j]).2.1<=1048576 by have:=hb.1;omega) (fun x hx=>D5 h.hi (hb.2 x hx)) (D5 h.hi (vh _ (aQ hi))),xu];by_cases hf:(wF (s[j]).2.1 list[i]).1=0
    ·simp only[hf,aC,aO,aE,aI]
    ·simp only[hf,aD,aV,aJ,aL])
   (fun i hi s s' hI hf=>Ip hI (vh _ (aQ hi)) hf) (fun s self _=>by
    show mj.b0 _ _ _ _ _ _=_;unfold mj.b0;simp only[bC,aD,aE]
    rfl) m.2.1 ⟨rfl,h.buf⟩ k (by omega)
  exact this
theorem Nk {T:Nat} {m:dw} (r:bf) (h:tg T m) (hr:qs r=0):qP.aa (m,r,())=some (rp m r,()):=by
 have yk:=h.bl;refine ah (k:=0) fun k hk=>(qP.ae k _).trans ?_;show qP.p _=_;unfold qP.p rp;simp only[hr,aI,Qq r h,Nj r h hr,yK m _ (show List.length m.2.1<=1048576 by omega),sA m h.th,xu,aB];have k_:List.length m.2.1+[((r.2.1,([]:List Change),()):Buffer)].length<=bz:=da (by simp only[aP,bB];omega);by_cases h5:r.1=5
 ·simp only[h5,aC,aJ,jO,aI,show ¬ ((5:Int)=1) from by decide,aL]
 by_cases h6:r.1=6
 ·simp only[h6,aC,aD,aJ,aE,or_true,aI,show ¬ ((6:Int)=1) from by decide,show ¬ ((6:Int)=5) from by decide,aL]
 by_cases h1:r.1=1
 ·simp only[h1,aC,aJ,aI,show ¬ ((1:Int)=5) from by decide,show ¬ ((1:Int)=6) from by decide,aD,aE];by_cases h2:0<=qh m.2.1 r.2.1
  ·simp only[h2,aC,aJ,aI]
  ·simp only[h2,aD,aE,aL]
   by_cases h3:8<=(List.length m.2.1:Int)
   ·simp only[h3,aC,aJ,aI]
   ·simp only[h3,aD,aE,aL,aU k_]
 simp only[h1,h5,h6,aD,aE,or_self,aL]
end OT
namespace OT
open Go
def JK (T:Nat) (R:mO):Prop:=(R.1=0->tg T R.2.2.2.2.2.1)/\yc T ((0:Int),R.2.2.2.2.1,())/\zz jf R.2.2.2.2.2.1<=2000*T
theorem SN {T:Nat} {c:Change} (h:Hv T c):zz ap c<=2*T:=by
 have h1:zz ap c=0+((0+(0+(0+(List.length c.2.1.2.2.2.1+0))))+(0+((0+(0+(0+(List.length c.2.2.2.1.2.2.2.1+0))))+0))):=rfl;have:=h.1;have:=h.2
 omega
theorem Hx {T:Nat}:∀ {xs:List Change},(∀ c ∈ xs,Hv T c)->zz (.U ap) xs<=(2*T+1)*xs.length
 | [],_=>aW _
 | c::xs,h=>by
  have h1:zz (.U ap) (c::xs)=zz ap c+1+zz (.U ap) xs:=Ei (e:=ap) c xs;have h2:=SN (h c bG);have h3:=Hx (xs:=xs) fun x hx=>h x (aZ _ hx);refine bJ (Nat.le_of_eq h1) ?_;rw[aP,Nat.mul_succ];omega
theorem SO {T:Nat} {b:Buffer} (h:yc T b):zz et b<=61*(2*T+1):=by
 have h1:zz et b=0+(zz (.U ap) b.2.1+0):=rfl;have h2:=Hx h.2;have h3:(2*T+1)*List.length b.2.1<=(2*T+1)*61:=Nat.mul_le_mul_left _ h.1;omega
theorem Hy {T:Nat}:∀ {xs:List Buffer},(∀ b ∈ xs,yc T b)->zz (.U et) xs<=(61*(2*T+1)+1)*xs.length
 | [],_=>aW _
 | b::xs,h=>by
  have h1:zz (.U et) (b::xs)=zz et b+1+zz (.U et) xs:=Ei (e:=et) b xs;have h2:=SO (h b bG);have h3:=Hy (xs:=xs) fun x hx=>h x (aZ _ hx);refine bJ (Nat.le_of_eq h1) ?_;rw[aP,Nat.mul_succ];omega
theorem UC {T:Nat} {m:dw} (h:tg T m):zz jf m<=2000*T:=by
 have h1:zz jf m=zz (.U (.U u8)) m.1+(zz (.U et) m.2.1+0):=rfl;have h2:=Us m.1 h.gp;have h3:=Hy h.buf;have h4:(61*(2*T+1)+1)*List.length m.2.1<=(61*(2*T+1)+1)*8:=Nat.mul_le_mul_left _ h.bl;have:=h.lo;omega
theorem rh {T:Nat} {k:Int} (hk:k≠0):JK T (wR k):=⟨fun h=>absurd h hk,⟨aW _,fun _ h=>by cases h⟩,aW _⟩
theorem Ew {T:Nat} {m:dw} {a b:Bool} {t:Int} {l:List Change} (h:tg T m) (hl:yc T ((0:Int),l,())):JK T ((0:Int),a,b,t,l,m,()):=⟨fun _=>h,hl,UC h⟩
theorem Jg {T j n:Nat} {ps:kX} (vf:64<=T) (NJ:T<=1048576) (hv:mN ps=0) (hn:n<=8):∀ (list:List Change) (i:Nat) (s:List Buffer),(∀ c ∈ list,Hv T c)->D6 T n s->JK T (bn (fun _ s c=>AQ j s c) (Qp ps) i list s).1
 | [],i,s,_,h=>Ew ⟨vf,NJ,hv,by show s.length<=8;rw[h.1];exact hn,h.2⟩ ⟨aW _,fun _ h=>by cases h⟩
 | c::list,i,s,hc,h=>by
  simp only[bn]
  cases hg:AQ j s c with
  | inl o=>
   simp only;unfold AQ at hg;split at hg
   ·split at hg
    ·cases hg
    ·rename_i hf;injection hg with hg;subst hg;exact rh hf
   ·injection hg with hg;subst hg;exact rh (by decide)
  | inr s'=>exact Jg vf NJ hv hn list (i+1) s' (fun x hx=>hc x (aZ _ hx)) (Ip h (hc c bG) hg)
theorem Qr {T:Nat} {m:dw} (r:bf) (h:tg T m):JK T (rp m r):=by
 have qW:yc T ((0:Int),([]:List Change),()):=⟨aW _,fun _ h=>by cases h⟩
 unfold rp;split;rotate_left
 ·rename_i hr;exact rh hr
 rename_i hr;split
 ·split
  ·exact rh (by decide)
  ·split
   ·exact rh (by decide)
   ·rename_i h8;refine Ew ⟨h.lo,h.hi,h.view,?_,fun b hb=>?_⟩ qW
    ·show (m.2.1++[((r.2.1,([]:List Change),()):Buffer)]).length<=8;rw[aS,aP,bB];omega
    ·rcases cJ.1 hb with hb | hb
     ·exact h.buf b hb
     ·rw[bU] at hb;subst hb;exact qW
 split
 ·split
  ·exact rh (by decide)
  ·unfold Iq;split
   ·rename_i b hb;refine Ew ⟨h.lo,h.hi,h.view,?_,fun y hy=>?_⟩ (h.buf b (cB hb))
    ·have:=h.bl;show (m.2.1.take _++m.2.1.drop _).length<=8;rw[aS,bQ,bI];omega
    ·rcases cJ.1 hy with hy | hy
     ·exact h.buf y (dZ hy)
     ·exact h.buf y (dG hy)
   ·exact rh (by decide)
 unfold Hw
 cases hs:nB m.1 r with
 | inl c=>exact rh (vY hs)
 | inr ps=>
  simp only;split;rotate_left
  ·rename_i hv;exact rh hv
  rename_i hv;split
  ·split
   ·exact Ew ⟨h.lo,h.hi,hv,h.bl,h.buf⟩ qW
   ·exact rh (by decide)
  split
  ·exact rh (by decide)
  exact Jg h.lo h.hi hv h.bl _ 0 _ (Mj h.lo h.view hv) ⟨rfl,h.buf⟩
theorem EY:tg 64 Ht:=⟨aN _,by decide,by decide,aW _,fun _ h=>by cases h⟩
end OT
namespace OT
open Go
structure xv (T:Nat) (c:ep):Prop where
 live:tg T c.1
 saved:tg T c.2.2.1
 lo:0<=c.2.1
 hi:c.2.1<=100000
def pU (c:ep) (d:List UInt8):qn:=if (d.length:Int)<=c.2.1 then Be 4 else match pT (d.drop c.2.1.toNat) with
 | none=>Be 5
 | some (r,n)=>if (rp c.1 r).1=0 then ((0:Int),(rp c.1 r).2.2.1,(if (rp c.1 r).2.2.1 then (c.2.1+(n:Int),(rp c.1 r).2.2.2.1,(rp c.1 r).2.2.2.2.1,()) else VU),((rp c.1 r).2.2.2.2.2.1,c.2.1+(n:Int),c.2.2.1,c.2.2.2.1,()),()) else Be (rp c.1 r).1
theorem Cq (T:Nat) {c:ep} {d:List UInt8} (h:xv T c) (hd:d.length<=16000):((pU c d).1≠0/\pU c d=Be (pU c d).1) \/
  ((pU c d).1=0/\xv T (pU c d).2.2.2.1/\c.2.1+7<=(pU c d).2.2.2.1.2.1/\c.2.1 < (d.length:Int)/\yc T ((0:Int),(pU c d).2.2.1.2.2.1,())/\(pU c d).2.2.2.1.2.1<=(d.length:Int)):=by
 have vf:=h.lo;unfold pU;split
 ·exact .inl ⟨by show (4:Int)≠0;decide,rfl⟩
 rename_i aj
 cases hr:pT (d.drop c.2.1.toNat) with
 | none=>exact .inl ⟨by show (5:Int)≠0;decide,rfl⟩
 | some q=>
  obtain ⟨r,n⟩:=q;obtain ⟨n7,nd,YI⟩:=vX hr;rw[bI] at nd;have hg:=Qr r h.live;simp only;split
  ·rename_i h0;refine .inr ⟨rfl,⟨hg.1 h0,h.saved,by simp only;omega,by simp only;omega⟩,by simp only;omega,by omega,?_,by simp only;omega⟩
   cases hc:(rp c.1 r).2.2.1 with
   | true=>exact hg.2.1
   | false=>exact ⟨aW _,fun _ h=>by cases h⟩
  ·rename_i h0;exact .inl ⟨h0,rfl⟩
theorem Nl {T:Nat} {c:ep} {d:List UInt8} (h:xv T c) (hd:d.length<=16000):lS.aa (c,d,())=some (pU c d,()):=by
 have vf:=h.lo;refine ah (k:=0) fun k hk=>(lS.ae k _).trans ?_;show lS.p _=_;unfold lS.p pU;by_cases h1:(d.length:Int)<=c.2.1
 ·simp only[h1,aC,aJ,aI];rfl
 simp only[h1,aD,aE,aL,dV];rw[aU ⟨vf,by omega⟩,EO _ (by rw[bI];omega)];simp only[aB]
 cases hr:pT (d.drop c.2.1.toNat) with
 | none=>rfl
 | some q=>
  obtain ⟨r,n⟩:=q;obtain ⟨n7,nd,YI⟩:=vX hr;rw[bI] at nd;have hn:¬ ((n:Int)=0):=by omega
  simp only[hn,aD,aE,Ni r h.live,aB];rw[bt (by omega)];by_cases h0:(rp c.1 r).1=0
  ·simp only[h0,aC,aO,aE,aI];cases (rp c.1 r).2.2.1 <;> rfl
  ·simp only[h0,aD,aV,aJ,aL];rfl
theorem Nm {T:Nat} {c:ep} {d:List UInt8} (h:xv T c) (hd:d.length<=16000):p_.aa (c,d,())=some (pU c d,()):=by
 have vf:=h.lo;refine ah (k:=0) fun k hk=>(p_.ae k _).trans ?_;show p_.p _=_;unfold p_.p pU;have Ga:¬ ((16000:Int) < (d.length:Int)):=by omega
 simp only[Ga,aD,aE,Ng,aB];by_cases h1:(d.length:Int)<=c.2.1
 ·simp only[h1,aC,aJ,aI]
 simp only[h1,aD,aE,aL,dV];rw[aU ⟨vf,by omega⟩,EP _ (by rw[bI];omega)];simp only[aB]
 cases hr:pT (d.drop c.2.1.toNat) with
 | none=>rfl
 | some q=>
  obtain ⟨r,n⟩:=q;obtain ⟨n7,nd,YI⟩:=vX hr;rw[bI] at nd;simp only[aC,aO,aE,Nk r h.live YI,sA _ h.saved.th,aB];rw[bt (by omega)];by_cases h0:(rp c.1 r).1=0
  ·simp only[h0,aC,aO,aE,aI];cases (rp c.1 r).2.2.1 <;> rfl
  ·simp only[h0,aD,aV,aJ,aL]
theorem SP {T:Nat} {c:ep} (h:xv T c):qa.aa (c,())=some (c,()):=by
 refine ah (k:=0) fun k hk=>(qa.ae k _).trans ?_;show qa.p _=_;unfold qa.p;simp only[sA _ h.live.th,sA _ h.saved.th,aB]
theorem VW (d:List UInt8):decide ((16000:Int) < (d.length:Int))=decide (16000 < d.length):=by
 by_cases h:16000 < d.length
 ·have:(16000:Int) < (d.length:Int):=by omega
  simp[h,this]
 ·have:¬ (16000:Int) < (d.length:Int):=by omega
  simp[h,this]
abbrev JL (k:Int):nx:=(k,([]:List lg),rU,())
def ri:Nat->ep->List lg->List UInt8->nx
 | 0,c,s,_=>((0:Int),s,c,())
 | n+1,c,s,d=>if (pU c d).1=0 then (if (pU c d).2.1 then (if 40<=s.length then JL 2 else ri n (pU c d).2.2.2.1 (s++[(pU c d).2.2.1]) d) else ri n (pU c d).2.2.2.1 s d) else ((0:Int),s,c,())
theorem Cr {T:Nat} (d:List UInt8) (hd:d.length<=16000):∀ (n:Nat) (c:ep) (s:List lg),xv T c->s.length<=40->(∀ x ∈ s,yc T ((0:Int),x.2.2.1,()))->ri n c s d=JL 2\/((ri n c s d).1=0/\xv T (ri n c s d).2.2.1/\(ri n c s d).2.1.length<=40/\∀ x ∈ (ri n c s d).2.1,yc T ((0:Int),x.2.2.1,()))
 | 0,c,s,h,hs,hx=>.inr ⟨rfl,h,hs,hx⟩
 | n+1,c,s,h,hs,hx=>by
  unfold ri
  rcases Cq T h hd with ⟨h0,_⟩ | ⟨h0,g,_,_,YJ,_⟩
  ·rw[bA h0];exact .inr ⟨rfl,h,hs,hx⟩
  ·rw[aU h0];split
   ·split
    ·exact .inl rfl
    ·refine Cr d hd n _ _ g (by rw[aS,aP,bB];omega) fun x hm=>?_;rcases cJ.1 hm with hm | hm
     ·exact hx x hm
     ·rw[bU] at hm;subst hm;exact YJ
   ·exact Cr d hd n _ _ g hs hx
theorem zO {T:Nat} (c0:ep) (d:List UInt8) (hd:d.length<=16000) (k0:Nat):∀ (n k:Nat) (c:ep) (s:List lg),xv T c->s.length<=40->(d.length:Int) - c.2.1 < (n:Int)->0 < n->n<=k ->
  aq (fun w v=>jb.B0 k0 w (c0,d,()) v) k (c,s)=some ((ri n c s d).2.1,(ri n c s d).2.2.1,(ri n c s d).1,())
 | 0,_,_,_,_,_,_,h0,_=>by omega
 | n+1,0,_,_,_,_,_,_,hk=>by omega
 | n+1,k+1,c,s,h,hs,hn,_,hk=>by
  rw[Dr];show jb.b0 _ _ _=_;unfold jb.b0 ri;simp only[Nl h hd,aB]
  rcases Cq T h hd with ⟨h0,_⟩ | ⟨h0,g,uX,aj,YJ,_⟩
  ·simp only[h0,aD,aV,aJ,aL]
  ·simp only[h0,aC,aO,aE,aI];have c1:∀ y:lg,s.length+[y].length<=bz:=fun y=>da (by simp only[aP,bB];omega)
   cases hc:(pU c d).2.1 with
   | true=>
    simp only[aJ,aI,c1];by_cases SQ:40<=s.length
    ·have Cs:(40:Int)<=(s.length:Int):=by omega
     simp only[SQ,Cs,aC,aJ,aI]
    ·have Cs:¬ (40:Int)<=(s.length:Int):=by omega
     simp only[SQ,Cs,aD,aE,aL];exact zO c0 d hd k0 n k _ _ g (by rw[aS,aP,bB];omega) (by omega) (by omega) (by omega)
   | false=>
    simp only[aE,aG,aL];exact zO c0 d hd k0 n k _ _ g hs (by omega) (by omega) (by omega)
theorem zP {T:Nat} (c0:ep) (d:List UInt8) (hd:d.length<=16000) (k0:Nat):∀ (n k:Nat) (c:ep) (s:List lg),xv T c->s.length<=40->(d.length:Int) - c.2.1 < (n:Int)->0 < n->n<=k ->
  aq (fun w v=>mK.B0 k0 w (c0,d,()) v) k ((0:Int),s,c,())=some (ri n c s d,())
 | 0,_,_,_,_,_,_,h0,_=>by omega
 | n+1,0,_,_,_,_,_,_,hk=>by omega
 | n+1,k+1,c,s,h,hs,hn,_,hk=>by
  rw[Dr];show mK.b0 _ _ _=_;unfold mK.b0 ri;simp only[Nm h hd,aB]
  rcases Cq T h hd with ⟨h0,_⟩ | ⟨h0,g,uX,aj,YJ,_⟩
  ·simp only[h0,aD,aV,aJ,aL]
  ·simp only[h0,aC,aO,aE,aI];have c1:∀ y:lg,s.length+[y].length<=bz:=fun y=>da (by simp only[aP,bB];omega)
   cases hc:(pU c d).2.1 with
   | true=>
    simp only[aJ,aI,c1];have hl:((s++[(pU c d).2.2.1]).length:Int)=(s.length:Int)+1:=by rw[aS,aP,bB];omega
    rw[hl];by_cases SQ:40<=s.length
    ·have Cs:(40:Int) < (s.length:Int)+1:=by omega
     simp only[SQ,Cs,aC,aJ,aI]
    ·have Cs:¬ (40:Int) < (s.length:Int)+1:=by omega
     simp only[SQ,Cs,aD,aE,aL];exact zP c0 d hd k0 n k _ _ g (by rw[aS,aP,bB];omega) (by omega) (by omega) (by omega)
   | false=>
    have Cs:¬ (40:Int) < (s.length:Int):=by omega
    simp only[Cs,aD,aE,aG,aL];exact zP c0 d hd k0 n k _ _ g hs (by omega) (by omega) (by omega)
end OT
namespace OT
open Go
theorem UD {s:kT} (hv:sG gq s) (hz:zz gq s<=1048576):Je s:=by
 obtain ⟨u,ps,l,xs,n,⟨⟩⟩:=s;obtain ⟨h1,h2,h3,h4,h5,_⟩:=hv;replace hz:0+(zz (.U (.U u8)) ps+(zz lN l+(zz (.U ct) xs+(0+0))))<=1048576:=hz;have hzl:zz lN l=zz (.U u8) l.1+(zz (.U u8) l.2.1+0):=rfl;have uj:List.length l.1<=zz (.U u8) l.1:=mp (e:=u8) l.1;have to:List.length l.2.1<=zz (.U u8) l.2.1:=mp (e:=u8) l.2.1;refine ⟨⟨?_,?_⟩,fun p hp=>?_,?_⟩
 ·show List.length l.1<=1048576;omega
 ·show List.length l.2.1<=1048576;omega
 ·have a1:zz (.U u8) p+1<=zz (.U (.U u8)) ps:=tr (e:=.U u8) hp;have a2:List.length p<=zz (.U u8) p:=mp (e:=u8) p;rw[ai];omega
 ·have a3:zz jZ (([]:List Row),xs,n,())<=1048576:=by
   show (0+0)+(zz (.U ct) xs+(0+0))<=1048576;omega
  exact (Mb (p:=(([]:List Row),xs,n,())) ⟨⟨aW _,fun x hx=>by cases hx⟩,h4,h5,trivial⟩ a3).2.2
end OT
namespace OT
open Go
def SR {α:Type} (e:α->α->Bool) (xs ys:List α):Bool:=decide (xs.length=ys.length)&&qz e xs ys
def Ct (x y:Row):Bool:=Ty.eq au x y
theorem Qs (xs ys:List Row) (hx:xs.length<=maxLen):iy.aa (xs,ys,())=some (SR Ct xs ys,()):=by
 refine ah (k:=xs.length+1) fun k hk=>(iy.ae k _).trans ?_;unfold iy.p SR;by_cases hl:xs.length=ys.length;rotate_left
 ·have h2:¬ ((xs.length:Int)=(ys.length:Int)):=by omega
  simp only[hl,h2,aD,aV,aJ,iI]
 have h2:((xs.length:Int)=(ys.length:Int)):=by omega
 simp only[hl,h2,aC,aO,aE,eG]
 exact qX (B:=fun self v=>iy.b0 self (fun z=>iy.q0 (xs,ys,()) z) (xs,ys,()) v) Ct hl hx (fun i hi hj self=>by
   show iy.b0 _ _ _ _=_;unfold iy.b0;have aj:(i:Int) < (xs.length:Int):=by omega
   simp only[aj,aC,aJ,aK,aI,aH,aA hi,aA hj,aB];show (bif !Ct xs[i] ys[i] then _ else _)=_
   cases h:Ct xs[i] ys[i] <;> simp) (fun self=>by
   show iy.b0 _ _ _ _=_;unfold iy.b0;rw[cA (bC _),aE]
   rfl) k (by omega)
theorem Nn (xs ys:List Row) (hx:xs.length<=maxLen):mc.aa (xs,ys,())=some (SR Ct xs ys,()):=by
 refine ah (k:=xs.length+1) fun k hk=>(mc.ae k _).trans ?_;unfold mc.p SR;by_cases hl:xs.length=ys.length;rotate_left
 ·have h2:¬ ((xs.length:Int)=(ys.length:Int)):=by omega
  simp only[hl,h2,aD,aV,aJ,iI]
 have h2:((xs.length:Int)=(ys.length:Int)):=by omega
 simp only[hl,h2,aC,aO,aE,eG]
 exact qX (B:=fun self v=>mc.b0 self (fun z=>mc.q0 (xs,ys,()) z) (xs,ys,()) v) Ct hl hx (fun i hi hj self=>by
   show mc.b0 _ _ _ _=_;unfold mc.b0;have aj:(i:Int) < (xs.length:Int):=by omega
   simp only[aj,aC,aJ,aK,aI,aH,aA hi,aA hj,aB];show (bif !Ct xs[i] ys[i] then _ else _)=_
   cases h:Ct xs[i] ys[i] <;> simp) (fun self=>by
   show mc.b0 _ _ _ _=_;unfold mc.b0;rw[cA (bC _),aE]
   rfl) k (by omega)
end OT
namespace OT
open Go
def sl (x:lg):Prop:=List.length x.2.2.1<=maxLen/\∀ c ∈ x.2.2.1,cl c
def sm (x:lg):Int:=if fi x.1 0 16000&&fi x.2.1 1 99 then tU x.2.2.1 else 3
theorem No (x:lg) (h:sl x):qf.aa (x,())=some (sm x,()):=by
 refine ah (k:=0) fun k _=>(qf.ae k _).trans ?_;show qf.p _=_;unfold qf.p sm fi;simp only[nq,AI _ h.1 h.2,aB];cases decide ((0:Int)<=x.1) <;> cases decide (x.1<=16000) <;> cases decide ((1:Int)<=x.2.1) <;> cases decide (x.2.1<=99) <;> rfl
theorem Np (x:lg) (h:sl x):oz.aa (x,())=some (sm x,()):=by
 refine ah (k:=0) fun k _=>(oz.ae k _).trans ?_;show oz.p _=_;unfold oz.p sm fi;simp only[rO,Ib,IX _ h.1 h.2,aB];cases decide ((0:Int)<=x.1) <;> cases decide (x.1<=16000) <;> cases decide ((1:Int)<=x.2.1) <;> cases decide (x.2.1<=99) <;> rfl
end OT
namespace OT
open Go
theorem Mk (xs:List Row) (cs:List Change) (hl:xs.length<=maxLen) (h:∀ x ∈ xs,rl x) (vh:cs.length<=1048576) (hc:∀ c ∈ cs,cl c):fe.aa (xs,cs,())=some (qg xs cs,()):=by
 refine ah (k:=cs.length+1) fun k hk=>(fe.ae k _).trans ?_;unfold fe.p qg;simp only[AF xs hl h,aB];by_cases h0:pQ xs=0
 ·obtain ⟨hg,hn⟩:=rP h0;have c1:([]:List Row).length+xs.length<=bz:=da (by simp only[bB];omega);simp only[h0,aC,aO,aE,aI,c1,bP]
  exact b9 (B:=fun self v=>fe.b0 self (fun z=>fe.q0 (xs,cs,()) z) (xs,cs,()) v) cs (fun (s:List Row) (i:Int)=>(s,i)) pk sb (fun i s=>Good s/\s.length<=60+i) (by rw[ai];omega)
   (fun i hi s self hI=>by
    show fe.b0 _ _ _ _=_;unfold fe.b0 pk;have aj:(i:Int) < (cs.length:Int):=by omega
    simp only[aj,aC,aJ,aK,aI,aH,aA hi,aB,CJ _ (hc _ (aQ hi))];by_cases h1:tw cs[i]=0
    ·simp only[h1,aC,aO,aE,aI,IV s cs[i] hI.1.up (by omega) (Ig h1).1,aB];cases uO s cs[i] <;> rfl
    ·simp[h1]) (fun i hi s s' hI hf=>FE _ i s s' _ hI hf) (fun s self hI=>by
    show fe.b0 _ _ _ _=_;unfold fe.b0 sb;have aj:¬ (cs.length:Int) < (cs.length:Int):=by omega
    simp only[aj,aD,aE,fe.q0,fe.q0];rw[show (60:Int)=((60:Nat):Int) from rfl,Eo]
    by_cases h1:60 < s.length <;> simp[h1]) xs ⟨hg,by omega⟩ k (by omega)
 ·simp[h0]
def nC (i:Nat) (s:dv) (x:lg):Sum (dv×Unit) dv:=if (qg s.2.1 x.2.2.1).1=0 then .inr (qg s.2.1 x.2.2.1) else .inl (qg s.2.1 x.2.2.1,())
def o3 (xs:List Row) (ss:List lg):dv:=if pQ xs=0 then (if mU sm ss=0 then (bn nC (fun s=>(s,())) 0 ss (0,xs,())).1 else (mU sm ss,[],())) else (pQ xs,[],())
def th (s:dv):Prop:=(s.2.1).length<=maxLen/\(∀ x ∈ s.2.1,rl x)/\zz (.U au) s.2.1<=1048576
theorem Hz (xs:List Row) (cs:List Change):th (qg xs cs):=by
 obtain ⟨h1,h2⟩:=MQ xs cs;have h3:List.length (qg xs cs).2.1<=zz (.U au) (qg xs cs).2.1:=mp (e:=au) _;refine ⟨by rw[ai];omega,fun x hx=>?_,by omega⟩
 have:=DF (h1 x hx);unfold rl;rw[ai];omega
theorem Cu (n:Nat) (s s':dv) (x:lg) (h:th s) (hf:nC n s x=.inr s'):th s':=by
 unfold nC at hf;split at hf
 ·injection hf with hf;subst hf;exact Hz _ _
 ·cases hf
theorem Jq (xs:List Row) (ss:List lg) (hf:th (0,xs,())) (hl:ss.length<=maxLen) (h:∀ x ∈ ss,sl x/\List.length x.2.2.1<=1048576):cz.aa (xs,ss,())=some (o3 xs ss,()):=by
 refine ah (k:=ss.length+1) fun k hk=>(cz.ae k _).trans ?_
 have h2:=b9 (B:=fun self v=>cz.b1 self (fun z=>cz.q1 (xs,ss,()) z) (xs,ss,()) v) ss (fun (s:dv) (i:Int)=>(s,i)) nC (fun s=>(s,())) (fun _ s=>th s) hl
  (fun i hi s self hI=>by
   show cz.b1 _ _ _ _=_;unfold cz.b1 nC;have aj:(i:Int) < (ss.length:Int):=by omega
   obtain ⟨q1,q2⟩:=h _ (aQ hi);simp only[aj,aC,aJ,aK,aI,aH,aA hi,aB,DG s.2.1 _ hI.1 hI.2.1 q2 q1.2]
   by_cases h1:(qg s.2.1 ss[i].2.2.1).1=0 <;> simp[h1]) (fun i hi s s' hI hf=>Cu _ s s' _ hI hf) (fun s self hI=>by
   show cz.b1 _ _ _ _=_;unfold cz.b1
   simp[cz.q1,cz.q1]) (0,xs,()) hf k (by omega)
 have h2:cz.r1 k (xs,ss,()) ((0,xs,()),0)=_:=h2;have RB:List.length xs<=1048576:=bJ (mp (e:=au) xs) hf.2.2
 have h3:=b9 (B:=fun self v=>cz.b0 self (fun z=>cz.Q0 k (xs,ss,()) z) (xs,ss,()) v) ss (fun (_:Unit) (i:Int)=>i) (fun _ _ x=>if sm x=0 then .inr () else .inl ((sm x,[],()),())) (fun _=>((bn nC (fun s=>(s,())) 0 ss (0,xs,())).1,())) (fun _ _=>True) hl
  (fun i hi _ self _=>by
   show cz.b0 _ _ _ _=_;unfold cz.b0;have aj:(i:Int) < (ss.length:Int):=by omega
   simp only[aj,aC,aJ,aK,aI,aH,aA hi,aB,Np _ (h _ (aQ hi)).1]
   by_cases h1:sm ss[i]=0 <;> simp[h1]) (fun _ _ _ _ _ _=>trivial) (fun _ self _=>by
   show cz.b0 _ _ _ _=_;unfold cz.b0;have aj:¬ (ss.length:Int) < (ss.length:Int):=by omega
   simp only[aj,aD,aE,cz.Q0,cz.q0,AH xs RB,aB,h2]) () trivial k (by omega)
 rw[uH sm (fun c=>((c,[],()),())) (fun _=>((bn nC (fun s=>(s,())) 0 ss (0,xs,())).1,()))] at h3;have h3:cz.r0 k (xs,ss,()) 0=_:=h3;unfold cz.p o3;simp only[AG xs hf.1 hf.2.1,aB,h3];by_cases h0:pQ xs=0
 ·by_cases h1:mU sm ss=0 <;> simp[h0,h1] <;> rfl
 ·simp[h0]
theorem Jr (xs:List Row) (ss:List lg) (hf:th (0,xs,())) (hl:ss.length<=maxLen) (h:∀ x ∈ ss,sl x/\List.length x.2.2.1<=1048576):cy.aa (xs,ss,())=some (o3 xs ss,()):=by
 refine ah (k:=ss.length+1) fun k hk=>(cy.ae k _).trans ?_
 have h2:=b9 (B:=fun self v=>cy.b1 self (fun z=>cy.q1 (xs,ss,()) z) (xs,ss,()) v) ss (fun (s:dv) (i:Int)=>(s,i)) nC (fun s=>(s,())) (fun _ s=>th s) hl
  (fun i hi s self hI=>by
   show cy.b1 _ _ _ _=_;unfold cy.b1 nC;have aj:(i:Int) < (ss.length:Int):=by omega
   obtain ⟨q1,q2⟩:=h _ (aQ hi);simp only[aj,aC,aJ,aK,aI,aH,aA hi,aB,Mk s.2.1 _ hI.1 hI.2.1 q2 q1.2]
   by_cases h1:(qg s.2.1 ss[i].2.2.1).1=0 <;> simp[h1]) (fun i hi s s' hI hf=>Cu _ s s' _ hI hf) (fun s self hI=>by
   show cy.b1 _ _ _ _=_;unfold cy.b1
   simp[cy.q1,cy.q1]) (0,xs,()) hf k (by omega)
 have h2:cy.r1 k (xs,ss,()) ((0,xs,()),0)=_:=h2;have RB:List.length xs<=1048576:=bJ (mp (e:=au) xs) hf.2.2;have c1:([]:List Row).length+xs.length<=bz:=da (by simp only[bB];omega)
 have h3:=b9 (B:=fun self v=>cy.b0 self (fun z=>cy.Q0 k (xs,ss,()) z) (xs,ss,()) v) ss (fun (_:Unit) (i:Int)=>i) (fun _ _ x=>if sm x=0 then .inr () else .inl ((sm x,[],()),())) (fun _=>((bn nC (fun s=>(s,())) 0 ss (0,xs,())).1,())) (fun _ _=>True) hl
  (fun i hi _ self _=>by
   show cy.b0 _ _ _ _=_;unfold cy.b0;have aj:(i:Int) < (ss.length:Int):=by omega
   simp only[aj,aC,aJ,aK,aI,aH,aA hi,aB,No _ (h _ (aQ hi)).1]
   by_cases h1:sm ss[i]=0 <;> simp[h1]) (fun _ _ _ _ _ _=>trivial) (fun _ self _=>by
   show cy.b0 _ _ _ _=_;unfold cy.b0;have aj:¬ (ss.length:Int) < (ss.length:Int):=by omega
   simp only[aj,aD,aE,cy.Q0,cy.q0,c1,aI,bP,h2]) () trivial k (by omega)
 rw[uH sm (fun c=>((c,[],()),())) (fun _=>((bn nC (fun s=>(s,())) 0 ss (0,xs,())).1,()))] at h3;have h3:cy.r0 k (xs,ss,()) 0=_:=h3;unfold cy.p o3;simp only[AF xs hf.1 hf.2.1,aB,h3];by_cases h0:pQ xs=0
 ·by_cases h1:mU sm ss=0 <;> simp[h0,h1] <;> rfl
 ·simp[h0]
theorem Ml (xs:List Row) (ss:List lg) (hf:th (0,xs,())):zz dg (o3 xs ss)<=1048576:=by
 have main:∀ (ss:List lg) (j:Nat) (s:dv),th s->th (bn nC (fun s=>(s,())) j ss s).1:=by
  intro ss
  induction ss with
  | nil=>intro j s h;exact h
  | cons x ss ih=>
   intro j s h;simp only[bn];split
   ·rename_i o ho;unfold nC at ho;split at ho
    ·cases ho
    ·injection ho with ho;rw[<-ho];exact Hz _ _
   ·rename_i s' hs;exact ih (j+1) s' (Cu _ s s' x h hs)
 have hz:zz dg (o3 xs ss)=0+(zz (.U au) (o3 xs ss).2.1+0):=rfl;rw[hz];unfold o3;split
 ·split
  ·have:=(main ss 0 _ hf).2.2;omega
  ·exact aW _
 ·exact aW _
end OT
namespace OT
open Go
theorem EZ {p:Plain} (h:sy p=0):∃ t,pQ p.1=0/\List.length p.1<=12/\zL p.2.1=0/\lI p.1 (tW p.2.1)=some t:=by
 unfold sy at h;split at h
 ·rename_i hr;split at h
  ·rename_i ht;split at h
   ·split at h
    ·cases h
    ·rename_i oI
     have uS:List.length p.1<=12:=by
      have:=DW (xs:=p.2.1) (rP hr).1.up;unfold wQ at oI;omega
     cases hb:lI p.1 (tW p.2.1) with
     | none=>rw[hb] at h;cases h
     | some t=>exact ⟨t,hr,uS,ht,rfl⟩
   ·cases h
  ·rename_i hn;exact absurd h hn
 ·rename_i hn;exact absurd h hn
end OT
namespace OT
open Go
theorem yL:xv 64 rU:=⟨EY,EY,gE _,by decide⟩
theorem Nq:Qn rU=0:=by decide
def wS (s:kT):List UInt8:=s.2.2.1.1++s.2.2.1.2.1
def oC (s:kT):nx:=ri 16001 rU [] (wS s)
def Ey (s:kT):nx:=if qv s=0 then ((oC s).1,(oC s).2.1,rU,()) else JL (qv s)
theorem D7 {s:kT} (h:qv s=0):wO s.2.2.1=0:=by
 unfold qv at h;split at h
 ·assumption
 ·rename_i hn;exact absurd h hn
theorem Ir {s:kT} (h:qv s=0):(wS s).length<=16000:=by
 have:=(vZ (D7 h)).1;unfold wS;rw[aS];exact this
theorem HA {s:kT} (h:qv s=0):oC s=JL 2\/((oC s).1=0/\(oC s).2.1.length<=40/\∀ x ∈ (oC s).2.1,yc 64 ((0:Int),x.2.2.1,())):=by
 rcases Cr (T:=64) (wS s) (Ir h) 16001 rU [] yL (aW _) (fun _ h=>by cases h) with e | ⟨h0,_,hl,hx⟩
 ·exact .inl e
 ·exact .inr ⟨h0,hl,hx⟩
theorem Nr {s:kT} (h:qv s=0):nN.aa (s,())=some ((oC s).2.1,(oC s).1,()):=by
 have hl:=Ir h;have to:List.length s.2.2.1.1+List.length s.2.2.1.2.1<=16000:=(vZ (D7 h)).1;refine ah (k:=0) fun k hk=>(nN.ae k _).trans ?_;show nN.p _=_;unfold nN.p
 have ha:qd.aa (s.2.2.1,())=some (wS s,()):=by
  refine ah (k:=0) fun k hk=>(qd.ae k _).trans ?_;show qd.p _=_;unfold qd.p;rw[vv s.2.2.1.1 (by omega)];simp only[aB];rw[aU (da (by omega))];rfl
 have hd:jb.aa (rU,wS s,())=some ((oC s).2.1,(oC s).2.2.1,(oC s).1,()):=by
  refine ah (k:=16001) fun k hk=>(jb.ae k _).trans ?_;unfold jb.p;have Ga:¬ 16000 < (wS s).length:=by omega
  simp only[VW,Ga,aD,aE];exact zO (T:=64) rU (wS s) hl k 16001 k rU [] yL (aW _) (by show ((wS s).length:Int) - 0 < _;omega) (by omega) hk
 simp only[ha,hd,aB]
theorem Js {s:kT} (h:Je s):qQ.aa (s,())=some (Ey s,()):=by
 refine ah (k:=0) fun k hk=>(qQ.ae k _).trans ?_;show qQ.p _=_;unfold qQ.p Ey;simp only[Bd h,aB];by_cases h0:qv s=0
 ·have hl:=Ir h0;have to:List.length s.2.2.1.1+List.length s.2.2.1.2.1<=16000:=(vZ (D7 h0)).1
  have hd:mK.aa (rU,wS s,())=some (oC s,()):=by
   refine ah (k:=16001) fun k hk=>(mK.ae k _).trans ?_;unfold mK.p;have Ga:¬ 16000 < (wS s).length:=by omega
   have hc:n9.aa (rU,())=some (0,()):=by
    have:=Nf rU ⟨aW _,fun _ h=>(by cases h),aW _,fun _ h=>by cases h⟩ ⟨aW _,fun _ h=>(by cases h),aW _,fun _ h=>by cases h⟩;rw[Nq] at this;exact this
   simp only[hc,VW,Ga,aC,aD,aO,aE,SP yL,aB];exact zP (T:=64) rU (wS s) hl k 16001 k rU [] yL (aW _) (by show ((wS s).length:Int) - 0 < _;omega) (by omega) hk
  simp only[h0,aC,aO,aE,aI,Mc s.2.2.1.1 (by omega),aB];rw[aU (da (by omega))];show (mK.aa (rU,wS s,())).bind _=_;rw[hd];simp only[aB]
  rcases HA h0 with e | ⟨e,_⟩
  ·rw[e];rfl
  ·simp only[e,aC,aO,aE]
 ·simp only[h0,aD,aV,aJ,aL]
def D8 (s:kT) (p:Plain):Bool:=if qv s=0 then (if sy p=0 then (if (o3 [] (oC s).2.1).1=0 then SR Ct (o3 [] (oC s).2.1).2.1 ((lI p.1 (tW p.2.1)).getD []) else false) else false) else false
theorem Om {s:kT} (h:qv s=0):(oC s).2.1.length<=maxLen/\∀ x ∈ (oC s).2.1,sl x/\List.length x.2.2.1<=1048576:=by
 rcases HA h with e | ⟨_,hl,hx⟩
 ·rw[e];exact ⟨aW _,fun _ h=>by cases h⟩
 ·refine ⟨by rw[ai];omega,fun x hm=>?_⟩
  have:=hx x hm;have h1:List.length x.2.2.1<=61:=this.1;exact ⟨⟨by rw[ai];omega,fun c hc=>D5 (by decide) (this.2 c hc)⟩,by omega⟩
theorem Qt:th ((0:Int),([]:List Row),()):=⟨aW _,fun _ h=>(by cases h),aW _⟩
theorem E0 (ss:List lg):List.length (o3 [] ss).2.1<=maxLen:=by
 have h:=Ml [] ss Qt;have hz:zz dg (o3 [] ss)=0+(zz (.U au) (o3 [] ss).2.1+0):=rfl;exact bJ (mp (e:=au) (o3 [] ss).2.1) (by rw[ai];omega)
theorem Mm {s:kT} {p:Plain} (h:Je s) (hp:Ma p):pj.aa (s,p,())=some (D8 s p,()):=by
 refine ah (k:=0) fun k hk=>(pj.ae k _).trans ?_;show pj.p _=_;unfold pj.p D8;simp only[Mg h,D2 p hp,aB];by_cases h0:qv s=0;rotate_left
 ·simp only[h0,aD,aV,aJ,aL]
 by_cases h1:sy p=0;rotate_left
 ·simp only[h0,h1,aC,aO,aE,aD,aV,aJ,aI,aL]
 obtain ⟨t,g1,g2,g3,g4⟩:=EZ h1;obtain ⟨l1,l2⟩:=Om h0;simp only[h0,h1,aC,aO,aE,aI,Nr h0,Jq [] (oC s).2.1 Qt l1 l2,D1 p.1 p.2.1 (rP g1).1 g2 (Hq g3) hp.2.2,g4,aB,Qs _ _ (E0 (oC s).2.1),jM];by_cases h2:(o3 [] (oC s).2.1).1=0
 ·simp only[h2,aC,aJ,aI]
 ·simp only[h2,aD,aE,aL]
theorem Mn {s:kT} {p:Plain} (h:Je s) (hp:Ma p):pi.aa (s,p,())=some (D8 s p,()):=by
 refine ah (k:=0) fun k hk=>(pi.ae k _).trans ?_;show pi.p _=_;unfold pi.p D8;simp only[Bd h,D3 p hp,aB];by_cases h0:qv s=0;rotate_left
 ·simp only[h0,aD,aV,aJ,aL]
 by_cases h1:sy p=0;rotate_left
 ·simp only[h0,h1,aC,aO,aE,aD,aV,aJ,aI,aL]
 obtain ⟨t,g1,g2,g3,g4⟩:=EZ h1;obtain ⟨l1,l2⟩:=Om h0;have hs:Ey s=((oC s).1,(oC s).2.1,rU,()):=by rw[Ey,aU h0]
 simp only[h0,h1,aC,aO,aE,aI,Js h,hs,Jr [] (oC s).2.1 Qt l1 l2,EW p.1 p.2.1 (rP g1).1 g2 (Hq g3),g4,aB,Nn _ _ (E0 (oC s).2.1),jM];by_cases h2:(o3 [] (oC s).2.1).1=0
 ·simp only[h2,aC,aJ,aI]
 ·simp only[h2,aD,aE,aL]
theorem Jt (v:e_.Arg) (hv:RF e_.ps v):e_.aa v=some (true,()):=by
 obtain ⟨s,p,⟨⟩⟩:=v;obtain ⟨YK,YL,_⟩:=hv;refine ah (k:=0) fun k _=>(e_.ae k _).trans ?_;show e_.p _=_;unfold e_.p;simp only[PI s 1048576 YK (show (0:Int)<=1048576 by omega) (by omega),aB];by_cases wT:((zz gq s:Nat):Int)<=1048576;rotate_left
 ·have:ef (1048576) (zz gq s)=-1:=bA wT;simp only[this];rfl
 have e1:ef (1048576) (zz gq s)=1048576 - ((zz gq s:Nat):Int):=aU wT;have n1:¬ (1048576 - ((zz gq s:Nat):Int) < 0):=by omega
 simp only[e1,n1,aD,aE,PE p _ YL (show (0:Int)<=1048576 - ((zz gq s:Nat):Int) by omega) (by omega),aB];by_cases A5:((zz jZ p:Nat):Int)<=1048576 - ((zz gq s:Nat):Int);rotate_left
 ·have:ef (1048576 - ((zz gq s:Nat):Int)) (zz jZ p)=-1:=bA A5;simp only[this];rfl
 have e2:ef (1048576 - ((zz gq s:Nat):Int)) (zz jZ p)=1048576 - ((zz gq s:Nat):Int) - ((zz jZ p:Nat):Int):=aU A5;have n2:¬ (1048576 - ((zz gq s:Nat):Int) - ((zz jZ p:Nat):Int) < 0):=by omega
 have h1:Je s:=UD YK (by omega);have h2:Ma p:=Mb YL (by omega);simp only[e2,n2,aD,aE,PJ s (by omega),PG p (by omega),Mn h1 h2,Mm h1 h2,Lp s (by omega),Lo p (by omega),aB,aO,aC,aJ];cases D8 s p <;> rfl
end OT
