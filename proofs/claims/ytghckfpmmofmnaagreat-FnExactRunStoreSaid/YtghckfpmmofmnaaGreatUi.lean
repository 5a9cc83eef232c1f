/- The proof's parts, merged: DoStore  each kind of op.. No conditions but those that each states. -/
import Derived.Test.YtghckfpmmofmnaaGreatUh
set_option linter.unusedVariables false
set_option linter.unusedSimpArgs false
set_option linter.unusedSectionVars false
namespace OT
open Go
def vE (E:Sum Int (Int×az)) (r:Int×Int×az×Unit):Prop:=match E with
 | .inl c=>r.2.1=c/\c≠0
 | .inr p=>r=(p.1,(0:Int),p.2,())
structure Ends (s:az) (o:Op) (C:br) (E:Sum Int (Int×az)):Prop where
 impl:∃ r,cy.ab (s,o,C,())=some r/\vE E r
 spec:∃ r,jq.ab (s,o,C,())=some r/\vE E r
theorem ta {s:az} {o:Op} {C:br} {E:Sum Int (Int×az)} (hi:∃ r,(∀ l0,cy.p l0 (s,o,C,())=some r)/\vE E r) (hs:∃ r,jq.p (s,o,C,())=some r/\vE E r):Ends s o C E:=by
 obtain ⟨r,h1,h2⟩:=hi;obtain ⟨q,h3,h4⟩:=hs;exact ⟨⟨r,ag (k:=0) λk _=>(cy.ae k _).trans (h1 _),h2⟩,⟨q,ag (k:=0) λk _=>(jq.ae k _).trans h3,h4⟩⟩
theorem HZ (kind tx:Int) (cs:List Change) (q:bk×Log):(∃ p p',kJ true kind tx cs q=.inl p/\kJ false kind tx cs q=.inl p'/\p'.1=p.1/\p.1≠0/\p'.1≠0)\/∃ p,kJ true kind tx cs q=.inr p/\kJ false kind tx cs q=.inr p:=by
 have hf:=N2 kind tx cs q;cases h1:kJ true kind tx cs q <;> grind [Ui]
def D2 (v:Int) (S:az) (r:bq):Sum Int (Int×az):=match ng S.2.2.1 r with
 | none=>.inl 9
 | some l=>.inr (v,(S.1,S.2.1,l,S.2.2.2))
theorem LV (v:Int) (S:az) (r:bq):vE (D2 v S r) (v,(uH S r).1,(uH S r).2.1,()):=by
 unfold D2 uH
 cases ng S.2.2.1 r with
 | none=>exact ⟨rfl,by decide⟩
 | some l=>rfl
theorem aav (S:az) (r:bq):(uH S r).2.1.2.2.2=S.2.2.2:=by
 grind [uH]
def Gt (ps:bk) (l:Log) (kind tx:Int) (cs:List Change) (f:bk×Log->Sum Int (Int×az)):Sum Int (Int×az):=match kJ true kind tx cs (ps,l) with
 | .inl p=>.inl p.1
 | .inr p=>f p
def H6 (S:az) (r:bq):Sum Int (Int×az):=match ng S.2.2.1 r with
 | none=>.inl 9
 | some l=>.inr ((0:Int),(S.1,S.2.1,qe l,S.2.2.2))
def H7 (S:az):Sum Int (Int×az):=match wg 0 S.2.1 S.2.2.1 with
 | .inl _=>.inl 9
 | .inr l=>.inr ((0:Int),(S.1,S.2.1,qe l,S.2.2.2))
abbrev MY (n:Int):Tx:=(n,([]:List Change),([]:List Int),([]:List Key),())
theorem Et {rows:List Row} {ts:List Tx} {o:Op} (hF:jm rows ts o=rO rows ts o) (hk:uN o.1=false):(jm rows ts o).2.1=false:=by
 grind [rO]
theorem LW {u:Bool} {ps:bk} {l:Log} {ts:List Tx} {n:Int} (hl:of l<=16000) (ht:ts.length<=1048576) {j:Nat} (hj:j < ts.length) (k:Int):sg.ab ((u,ps,l,ts,n,()),(j:Int),k,())=some (uH (u,ps,l,ts.take j++ts.drop (j+1),n,()) (k,(ts[j]).1,(0:Int),([]:List ci),())):=by
 refine ag (k:=0) λm _=>(sg.ae m _).trans ?_;grind [sg.p,SP,Jm,HQ]
section
variable {ps:bk} {l:Log} {ts:List Tx} {n:Int} {o:Op} (hq:nI (ps,l)) (hp:NZ (ba ps,ts,n,())) (h:gq (ba ps,ts,n,())=0) (h2:(jm (ba ps) ts o).1=0)
include hq hp h h2
theorem N5 (hk:o.1=1):Ends (true,ps,l,ts,n,()) o (jm (ba ps) ts o) (if n=100 then .inl 9 else D2 n (true,ps,l,ts++[MY n],n+1,()) ((1:Int),n,(0:Int),([]:List ci),())):=by
 have P:=lc h;have hn:dm n 1 100=true:=P.next;unfold dm at hn;simp only[aD,bA] at hn;have hl:ts.length<=1048576:=hp.2.2.1;have Nk:of l<=16000:=hq.2;have pL:ts.length+[MY n].length<=cg:=c9 (by grind);by_cases RD:n=100
 ·rw[aG RD];refine ta ⟨((0:Int),(9:Int),(true,ps,l,ts,n,()),()),λl0=>?_,rfl,by decide⟩ ⟨(n,(9:Int),(true,ps,l,ts,n,()),()),?_,rfl,by decide⟩
  ·grind [cy.p]
  ·unfold jq.p;rw[mG _ _ hl]
   have hb:ol.ab ((true,ps,l,ts,n,()),())=some ((9:Int),(true,ps,l,ts,n,()),()):=by
    refine ag (k:=0) λk _=>(ol.ae k _).trans ?_;grind [ol.p]
   grind
 ·rw[aL RD];have hw:af (n+1)=n+1:=bi Bys;have Ci:af (n+1 - 1)=n:=by grind [bi]
  obtain ⟨S,hS⟩:∃ S:az,S=(true,ps,l,ts++[MY n],n+1,()):=⟨_,rfl⟩
  have hSl:of S.2.2.1<=16000:=by grind
  rw[<-hS];refine ta ⟨_,λl0=>?_,LV n S _⟩ ⟨_,?_,LV n S _⟩
  ·grind [cy.p,Ak,HQ,aav]
  ·unfold jq.p;rw[mG _ _ hl]
   have hb:ol.ab ((true,ps,l,ts,n,()),())=some (uH S ((1:Int),n,(0:Int),([]:List ci),())):=by
    refine ag (k:=0) λk _=>(ol.ae k _).trans ?_;grind [ol.p,Jm,HQ]
   grind
theorem RF (hk:o.1=5) {j:Nat} (hj:j < ts.length) (ii:tJ ts o.2.1=(j:Int)):Ends (true,ps,l,ts,n,()) o (jm (ba ps) ts o) (.inr ((List.length (ts[j]).2.2.1:Int),(true,ps,l,ts.set j (F7 ts[j]),n,())))/\List.length (ts[j]).2.2.1 < 8:=by
 have P:=lc h;have t_:qP o=0/\dm o.1 1 9=true/\jm (ba ps) ts o=rO (ba ps) ts o:=AL P h2;have hl:ts.length<=1048576:=hp.2.2.1;have hF:=h2;rw[t_.2.2] at hF;have vv:=Et t_.2.2 (by grind [uN])
 have Uo:List.length (ts[j]).2.2.1 < 8:=by
  grind [rO,AJ]
 refine ⟨ta ⟨_,λl0=>?_,rfl⟩ ⟨_,?_,rfl⟩,Uo⟩
 ·unfold cy.p;simp only[hk,vv,aO,aS,aF,show ¬ (5:Int)=1 by decide,aI];rw[Ou hp.2.2 hj ii (eB Uo)];rfl
 ·unfold jq.p;rw[mG _ _ hl];have gb:(0:Int)<=(j:Int)/\(j:Int) < (ts.length:Int):=by omega
  have LP:ts.set j ts[j]=ts:=fL hj;have c1:List.length (ts[j]).2.2.1+[(List.length (ts[j]).2.1:Int)].length<=cg:=c9 (by grind);simp only[hk,aO,aS,aF,show ¬ (5:Int)=1 by decide,aI,ii,gb,cM,aK,aC,aB hj,aA,LP,c1];rfl
theorem RG (hk:o.1=6) {j:Nat} (hj:j < ts.length) (ii:tJ ts o.2.1=(j:Int)):∃ m k:Nat,((ts[j]).2.2.1[m]?=some (k:Int)/\k<=List.length (ts[j]).2.1)/\Ends (true,ps,l,ts,n,()) o (jm (ba ps) ts o) (Gt ps l 3 o.2.1 (fy ((ts[j]).2.1.drop k)) λp=>.inr ((0:Int),(true,p.1,p.2,ts.set j (D0 ts[j] k m),n,())))/\∀ p,kJ true 3 o.2.1 (fy ((ts[j]).2.1.drop k)) (ps,l)=.inr p->nI p:=by
 have P:=lc h;have t_:qP o=0/\dm o.1 1 9=true/\jm (ba ps) ts o=rO (ba ps) ts o:=AL P h2;have hl:ts.length<=1048576:=hp.2.2.1;have hF:=h2;rw[t_.2.2] at hF;have vv:=Et t_.2.2 (by grind [uN])
 have hmk:o.2.2.2.1 < (List.length (ts[j]).2.2.1:Int):=by
  unfold rO at hF;grind [AJ]
 have hm0:0<=o.2.2.2.1:=by
  grind [HS,dm]
 have T:wd ts:=rR P.vK;have hm:ts[j] ∈ ts:=aJ hj
 obtain ⟨m,C6⟩:∃ m:Nat,o.2.2.2.1=(m:Int):=⟨o.2.2.2.1.toNat,by omega⟩
 have Um:m < List.length (ts[j]).2.2.1:=by omega
 have hmm:=aas (IC P.vK _ hm).2 _ (aJ Um)
 obtain ⟨k,je⟩:∃ k:Nat,(ts[j]).2.2.1[m]=(k:Int):=⟨((ts[j]).2.2.1[m]).toNat,by omega⟩
 have hn:(ts[j]).2.2.1[m]?=some (k:Int):=by grind
 have yf:k<=List.length (ts[j]).2.1:=by omega
 have hu:=T.s8 _ hm;have Eu:∀ c ∈ (ts[j]).2.1.drop k,kI c=0:=λc hc=>T.ch _ hm c (cN hc);have hc:=qd Eu;have xy:=Rf (λc hc=>(hp.2.2.2 _ hm).2.2.2 c (cN hc:c ∈ (ts[j]).2.1):∀ c ∈ (ts[j]).2.1.drop k,cl c);have Xd:(fy ((ts[j]).2.1.drop k)).length<=12:=by grind [Er]
 refine ⟨m,k,⟨hn,yf⟩,?_,λp hd=>AG _ _ _ hq hc hd⟩
 obtain ⟨zs,hts⟩:∃ t,t=ts.set j (D0 ts[j] k m):=⟨_,rfl⟩
 have d1:cz.ab ((true,ps,l,zs,n,()),fy ((ts[j]).2.1.drop k),(3:Int),o.2.1,())=some (mF (true,ps,l,zs,n,()) (kJ true 3 o.2.1 (fy ((ts[j]).2.1.drop k)) (ps,l))):=DZ (s:=(true,ps,l,zs,n,())) hq hc xy Bys;have d2:jL.ab ((true,ps,l,zs,n,()),(ts[j]).2.1.drop k,o.2.1,())=some (mF (true,ps,l,zs,n,()) (kJ false 3 o.2.1 (fy ((ts[j]).2.1.drop k)) (ps,l))):=HO (s:=(true,ps,l,zs,n,())) hq Eu (by grind);have MZ:=MV hp.2.2 hj ii hk C6 Um hn yf;have afb:=SQ (hp.2.2.2 _ hm) Um hn yf;rw[<-hts] at MZ ⊢;have gb:(0:Int)<=(j:Int)/\(j:Int) < (ts.length:Int):=by omega
 unfold Gt
 rcases HZ 3 o.2.1 (fy ((ts[j]).2.1.drop k)) (ps,l) with ⟨p,p',e1,e2,e3,e4,e5⟩ | ⟨p,e1,e2⟩
 ·rw[e1] at d1 ⊢;rw[e2] at d2;refine ta ⟨_,λl0=>?_,show vE (.inl p.1) ((0:Int),p.1,(true,p.2.1,p.2.2,zs,n,()),()) from ⟨rfl,e4⟩⟩ ⟨_,?_,show vE (.inl p.1) ((0:Int),p'.1,(true,p'.2.1,p'.2.2,zs,n,()),()) from ⟨e3,e4⟩⟩
  ·grind [cy.p,mF]
  ·unfold jq.p;grind [mG,mF]
 ·rw[e1] at d1 ⊢;rw[e2] at d2;refine ta ⟨_,λl0=>?_,rfl⟩ ⟨_,?_,rfl⟩
  ·grind [cy.p,mF]
  ·unfold jq.p;rw[mG _ _ hl];grind [mF]
theorem N6 (hk:o.1=8) {j:Nat} (hj:j < ts.length) (ii:tJ ts o.2.1=(j:Int)) (AK:(ts[j]).1=o.2.1):Ends (true,ps,l,ts,n,()) o (jm (ba ps) ts o) (Gt ps l 3 o.2.1 (fy (ts[j]).2.1) λp=>D2 0 (true,p.1,p.2,ts.take j++ts.drop (j+1),n,()) ((6:Int),o.2.1,(0:Int),([]:List ci),()))/\∀ p,kJ true 3 o.2.1 (fy (ts[j]).2.1) (ps,l)=.inr p->nI p:=by
 have P:=lc h;have t_:qP o=0/\dm o.1 1 9=true/\jm (ba ps) ts o=rO (ba ps) ts o:=AL P h2;have hl:ts.length<=1048576:=hp.2.2.1;have vv:=Et t_.2.2 (by grind [uN]);have T:wd ts:=rR P.vK;have hm:ts[j] ∈ ts:=aJ hj;have hu:=T.s8 _ hm;have Eu:=T.ch _ hm;have hc:=qd Eu;have xy:=Rf (hp.2.2.2 _ hm).2.2.2;have Xd:(fy (ts[j]).2.1).length<=12:=by grind [Er]
 refine ⟨?_,λp hd=>AG _ _ _ hq hc hd⟩
 obtain ⟨g,hg⟩:∃ g,g=ts.take j++ts.drop (j+1):=⟨_,rfl⟩
 have d1:cz.ab ((true,ps,l,g,n,()),fy (ts[j]).2.1,(3:Int),o.2.1,())=some (mF (true,ps,l,g,n,()) (kJ true 3 o.2.1 (fy (ts[j]).2.1) (ps,l))):=DZ (s:=(true,ps,l,g,n,())) hq hc xy Bys;have d2:jL.ab ((true,ps,l,ts,n,()),(ts[j]).2.1,o.2.1,())=some (mF (true,ps,l,ts,n,()) (kJ false 3 o.2.1 (fy (ts[j]).2.1) (ps,l))):=HO (s:=(true,ps,l,ts,n,())) hq Eu Bys;have MZ:=Gs (o:=o) hp.2.2 hj ii Bys;rw[<-hg] at MZ ⊢;have gb:(0:Int)<=(j:Int)/\(j:Int) < (ts.length:Int):=by omega
 unfold Gt
 rcases HZ 3 o.2.1 (fy (ts[j]).2.1) (ps,l) with ⟨p,p',e1,e2,e3,e4,e5⟩ | ⟨p,e1,e2⟩
 ·rw[e1] at d1 ⊢;rw[e2] at d2;refine ta ⟨_,λl0=>?_,show vE (.inl p.1) ((0:Int),p.1,(true,p.2.1,p.2.2,g,n,()),()) from ⟨rfl,e4⟩⟩ ⟨_,?_,show vE (.inl p.1) ((0:Int),p'.1,(true,p'.2.1,p'.2.2,ts,n,()),()) from ⟨e3,e4⟩⟩
  ·grind [cy.p,mF]
  ·unfold jq.p;grind [mG,mF]
 ·have IX:=AG _ _ _ hq hc e1;rw[e1] at d1 ⊢;rw[e2] at d2;refine ta ⟨_,λl0=>?_,LV 0 _ _⟩ ⟨_,?_,LV 0 _ _⟩
  ·unfold cy.p;simp only[hk,vv,aO,aS,aF,show ¬ (8:Int)=1 by decide,show ¬ (8:Int)=5 by decide,show ¬ (8:Int)=6 by decide,aI,MZ,aA,d1,mF];rw[Ak (s:=(true,p.1,p.2,g,n,())) IX.2 (HQ 6 o.2.1)];rfl
  ·unfold jq.p;rw[mG _ _ hl];simp only[hk,aO,aS,aF,show ¬ (8:Int)=1 by decide,show ¬ (8:Int)=5 by decide,show ¬ (8:Int)=6 by decide,show ¬ (8:Int)=7 by decide,aI,ii,gb,cM,aK,aC,aB hj,aA,d2,mF,aU];rw[LW IX.2 hl hj 6,AK,<- hg];rfl
theorem LX (hk:o.1=7) {j:Nat} (hj:j < ts.length) (ii:tJ ts o.2.1=(j:Int)) (AK:(ts[j]).1=o.2.1):Ends (true,ps,l,ts,n,()) o (jm (ba ps) ts o) (H6 (true,ps,l,ts.take j++ts.drop (j+1),n,()) ((5:Int),o.2.1,(0:Int),([]:List ci),())):=by
 have P:=lc h;have t_:qP o=0/\dm o.1 1 9=true/\jm (ba ps) ts o=rO (ba ps) ts o:=AL P h2;have hl:ts.length<=1048576:=hp.2.2.1;have Nk:of l<=16000:=hq.2;have vv:=Et t_.2.2 (by grind [uN])
 obtain ⟨g,hg⟩:∃ g,g=ts.take j++ts.drop (j+1):=⟨_,rfl⟩
 have MZ:=Gs (o:=o) hp.2.2 hj ii Bys;have DM:=LW (u:=true) (ps:=ps) (n:=n) Nk hl hj 5;have Wq:=Ak (s:=(true,ps,l,g,n,())) Nk (HQ 5 o.2.1);rw[AK] at DM;rw[<-hg] at MZ DM ⊢;unfold H6;unfold uH at DM Wq;simp only at DM Wq ⊢
 cases ha:ng l ((5:Int),o.2.1,(0:Int),([]:List ci),()) with
 | none=>
  rw[ha] at DM Wq;have hsy:=MW Nk;have aeW:=D1 Nk;refine ta ⟨_,λl0=>?_,show vE (.inl 9) ((0:Int),(9:Int),(true,ps,qe l,g,n,()),()) from ⟨rfl,by decide⟩⟩ ⟨_,?_,show vE (.inl 9) ((0:Int),(9:Int),(true,ps,qe l,g,n,()),()) from ⟨rfl,by decide⟩⟩
  all_goals grind [cy.p,jq.p,mG]
 | some l'=>
  rw[ha] at DM Wq;have hsy:=MW (tY ha);have aeW:=D1 (tY ha);refine ta ⟨_,λl0=>?_,rfl⟩ ⟨_,?_,rfl⟩
  all_goals grind [cy.p,jq.p,mG]
theorem N7 (hk:o.1=9):Ends (true,ps,l,ts,n,()) o (jm (ba ps) ts o) (H7 (true,ps,l,ts,n,())):=by
 have P:=lc h;have t_:qP o=0/\dm o.1 1 9=true/\jm (ba ps) ts o=rO (ba ps) ts o:=AL P h2;have hl:ts.length<=1048576:=hp.2.2.1;have vv:=Et t_.2.2 (by grind [uN]);have hg:=yn hq.1;have i1:∀ k,100<=k->_:=λk hk=>SR (u:=true) (T:=(ts,n,())) (o:=o) (C:=jm (ba ps) ts o) hg hq.2 hk;have i2:=SS (u:=true) (T:=(ts,n,())) hg hq.2;simp only at i1 i2;unfold H7;simp only
 have two:∀ r1 r2:Int×Int×az×Unit,(∀ k,100<=k->cy.r0 k ((true,ps,l,ts,n,()),o,jm (ba ps) ts o,()) ((true,ps,l,ts,n,()),(0:Int))=some r1)->(jU.ab ((true,ps,l,ts,n,()),())=some (r2.2.1,r2.2.2.1,())/\r2.1=0)->∀ E,vE E r1->vE E r2->Ends (true,ps,l,ts,n,()) o (jm (ba ps) ts o) E:=λr1 r2 a1 a2 E b1 b2=>by
  refine ⟨⟨r1,ag (k:=100) λk mY=>(cy.ae k _).trans ?_,b1⟩,⟨r2,ag (k:=0) λk _=>(jq.ae k _).trans ?_,b2⟩⟩
  ·grind [cy.p]
  grind [jq.p,mG]
 cases hm:wg 0 ps l with
 | inl l'=>
  simp only[hm] at i1 i2;exact two _ ((0:Int),(9:Int),(true,ps,l',ts,n,()),()) i1 ⟨i2,rfl⟩ _ ⟨rfl,by decide⟩ ⟨rfl,by decide⟩
 | inr l'=>
  simp only[hm] at i1 i2;exact two _ ((0:Int),(0:Int),(true,ps,qe l',ts,n,()),()) i1 ⟨i2,rfl⟩ _ rfl rfl
theorem RH (n1:¬ o.1=1) (n5:¬ o.1=5) (n6:¬ o.1=6) (n7:¬ o.1=7) (n8:¬ o.1=8) (n9:¬ o.1=9) (vv:(jm (ba ps) ts o).2.1=false):Ends (true,ps,l,ts,n,()) o (jm (ba ps) ts o) (.inr ((0:Int),(true,ps,l,ts,n,()))):=by
 have hl:ts.length<=1048576:=hp.2.2.1;refine ta ⟨_,λl0=>?_,rfl⟩ ⟨_,?_,rfl⟩
 all_goals grind [cy.p,jq.p,mG]
theorem RI (hk:uN o.1=true) {j:Nat} (hj:j < ts.length) (ii:tJ ts o.2.1=(j:Int)) (AK:(ts[j]).1=o.2.1) (vv:(jm (ba ps) ts o).2.1=true):Ends (true,ps,l,ts,n,()) o (jm (ba ps) ts o) (Gt ps l 2 o.2.1 [(df (ba ps) o).1] λp=>.inr ((0:Int),(true,p.1,p.2,ul ts j (df (ba ps) o).1,n,())))/\(∀ p,kJ true 2 o.2.1 [(df (ba ps) o).1] (ps,l)=.inr p->nI p)/\cl (df (ba ps) o).1:=by
 have P:=lc h;have t_:qP o=0/\dm o.1 1 9=true/\jm (ba ps) ts o=rO (ba ps) ts o:=AL P h2;have hl:ts.length<=1048576:=hp.2.2.1
 have Pg:o.1=2\/o.1=3\/o.1=4:=by
  grind [uN]
 have n1:¬ o.1=1:=by omega
 have n5:¬ o.1=5:=by omega
 have n6:¬ o.1=6:=by omega
 have n7:¬ o.1=7:=by omega
 have n8:¬ o.1=8:=by omega
 have n9:¬ o.1=9:=by omega
 have hF:rO (ba ps) ts o=sK (ba ps) ts o:=by
  grind [rO]
 have CB:i7 o.2.2.1=0:=IA t_.1 hk;have ht:(sK (ba ps) ts o).2.1=true:=by grind
 obtain ⟨r1,r2,r3,r4,r5,r6⟩:=DB ht;obtain ⟨w1,w2,w3,w4⟩:=BB P.tZ CB r2;have hce:jm (ba ps) ts o=(0,true,(df (ba ps) o).1,()):=by grind
 have hN:zQ ts o.2.1 (df (ba ps) o).1=((0:Int),ul ts j (df (ba ps) o).1,()):=YU P CB hj ii AK ht;have hn1:nF.ab (ts,o.2.1,(df (ba ps) o).1,())=some (zQ ts o.2.1 (df (ba ps) o).1,()):=Rs ts o.2.1 _ hp.2.2 w4;have Tm:pS.ab (ts,(j:Int),(df (ba ps) o).1,())=_:=SH ts j _ hp.2.2 hj;simp only at w1 w4;rw[hN] at hn1;rw[hce];generalize (df (ba ps) o).1=c at *;have jX:∀ d ∈ [c],kI d=0:=λd hd=>by grind
 have Dc:∀ d ∈ [c],cl d:=λd hd=>by grind
 refine ⟨?_,λp hd=>AG _ _ _ hq jX hd,w4⟩
 have d1:cz.ab ((true,ps,l,ts,n,()),[c],(2:Int),o.2.1,())=some (mF (true,ps,l,ts,n,()) (kJ true 2 o.2.1 [c] (ps,l))):=DZ (s:=(true,ps,l,ts,n,())) hq jX Dc (by simp);have d2:jn.ab ((true,ps,l,ts,n,()),c,(2:Int),o.2.1,())=some (mF (true,ps,l,ts,n,()) (kJ false 2 o.2.1 [c] (ps,l))):=HN (s:=(true,ps,l,ts,n,())) hq w1;unfold Gt
 rcases HZ 2 o.2.1 [c] (ps,l) with ⟨p,p',e1,e2,e3,e4,e5⟩ | ⟨p,e1,e2⟩
 ·rw[e1] at d1 ⊢;rw[e2] at d2;refine ta ⟨_,λl0=>?_,show vE (.inl p.1) ((0:Int),p.1,(true,p.2.1,p.2.2,ts,n,()),()) from ⟨rfl,e4⟩⟩ ⟨_,?_,show vE (.inl p.1) ((0:Int),p'.1,(true,p'.2.1,p'.2.2,ts,n,()),()) from ⟨e3,e4⟩⟩
  ·grind [cy.p,mF]
  grind [jq.p,mG,mF]
 ·rw[e1] at d1 ⊢;rw[e2] at d2;refine ta ⟨_,λl0=>?_,rfl⟩ ⟨_,?_,rfl⟩
  all_goals grind [cy.p,mF,jq.p,mG]
end
end OT
namespace OT
open Go
theorem ab1 {x:Tx} (h:tl x) (hm:List.length x.2.2.1<=8):tl (F7 x):=⟨h.1,by
 show (x.2.2.1++[(List.length x.2.1:Int)]).length<=_
 grind,h.2.2.1,h.2.2.2⟩
theorem ac6 {x:Tx} (h:tl x) (n m:Nat):tl (D0 x n m):=by
 obtain ⟨h1,h2,h3,h4⟩:=h;refine ⟨?_,?_,h3,λc hc=>h4 c (dI hc)⟩
 ·show (x.2.1.take n).length<=_;grind
 ·show (x.2.2.1.take (m+1)).length<=_;grind
theorem ab2 {x:Tx} (h:tl x) (hu:List.length x.2.1<=12) (hk:List.length x.2.2.2.1<=12) {c:Change} (hc:cl c):tl (vt x c):=by
 obtain ⟨h1,h2,h3,h4⟩:=h;refine ⟨?_,h2,?_,λd hd=>?_⟩
 ·show (x.2.1++[c]).length<=_;grind
 ·show (if jk x.2.2.2.1 (kg c) then x.2.2.2.1 else x.2.2.2.1++[kg c]).length<=_;grind
 ·rcases bG.1 hd with g | g
  all_goals grind
theorem M0 {xs:List Tx} (h:oY xs) (j:Nat) {y:Tx} (hy:tl y):oY (xs.set j y):=⟨by rw[bQ];exact h.1,λx hx=>by
 rcases eE hx with g | g
 ·exact h.2 x g
 grind⟩
theorem RJ {xs:List Tx} (h:oY xs) (j:Nat):oY (xs.take j++xs.drop (j+1)):=⟨by
 have:=h.1
 grind,λx hx=>by
 rcases bG.1 hx with g | g
 ·exact h.2 x (dI g)
 ·exact h.2 x (cN g)⟩
theorem ab3 {xs:List Tx} (h:oY xs) (hl:xs.length<=4) (n:Int):oY (xs++[MY n]):=⟨by grind,λx hx=>by
 rcases bG.1 hx with g | g
 ·exact h.2 x g
 ·rw[bE] at g;rw[g];exact ⟨aW _,aW _,aW _,λc hc=>by cases hc⟩⟩
def N8 (ts:List Tx) (E:Sum Int (Int×az)):Prop:=∀ v s',E=.inr (v,s')->nI (s'.2.1,s'.2.2.1)/\oY s'.2.2.2.1/\zz (.aa bp) s'.2.2.2.1<=zz (.aa bp) ts+3000
section
variable {ts:List Tx} {S:az}
theorem Ev (c:Int):N8 ts (.inl c):=λv s' h=>by cases h
theorem zR {v:Int} (h1:nI (S.2.1,S.2.2.1)) (h2:oY S.2.2.2.1) (h3:zz (.aa bp) S.2.2.2.1<=zz (.aa bp) ts+3000):N8 ts (.inr (v,S)):=λv' s' h=>by
 grind
theorem Up {v:Int} {r:bq} (h1:nI (S.2.1,S.2.2.1)) (h2:oY S.2.2.2.1) (h3:zz (.aa bp) S.2.2.2.1<=zz (.aa bp) ts+3000):N8 ts (D2 v S r):=by
 unfold D2
 cases ha:ng S.2.2.1 r with
 | none=>exact Ev _
 | some l=>exact zR (S:=(S.1,S.2.1,l,S.2.2.2)) ⟨h1.1,tY ha⟩ h2 h3
theorem ab4 {r:bq} (h1:nI (S.2.1,S.2.2.1)) (h2:oY S.2.2.2.1) (h3:zz (.aa bp) S.2.2.2.1<=zz (.aa bp) ts+3000):N8 ts (H6 S r):=by
 unfold H6
 cases ha:ng S.2.2.1 r with
 | none=>exact Ev _
 | some l=>exact zR (S:=(S.1,S.2.1,qe l,S.2.2.2)) ⟨h1.1,by grind [RA,tY]⟩ h2 h3
theorem ab5 (h1:nI (S.2.1,S.2.2.1)) (h2:oY S.2.2.2.1) (h3:zz (.aa bp) S.2.2.2.1<=zz (.aa bp) ts+3000):N8 ts (H7 S):=by
 unfold H7
 cases ha:wg 0 S.2.1 S.2.2.1 with
 | inl _=>exact Ev _
 | inr l=>exact zR (S:=(S.1,S.2.1,qe l,S.2.2.2)) ⟨h1.1,by show of (qe l)<=_;rw[RA];exact RB _ _ _ _ ha h1.2⟩ h2 h3
theorem RK {ps:bk} {l:Log} {kind tx:Int} {cs:List Change} {f:bk×Log->Sum Int (Int×az)} (h:∀ p,kJ true kind tx cs (ps,l)=.inr p->N8 ts (f p)):N8 ts (Gt ps l kind tx cs f):=by
 grind [Gt,Ev]
end
theorem ab6 {rows:List Row} {o:Op} {x:Tx} (CB:i7 o.2.2.1=0) (HU:zz (.aa a8) rows<=1000):zz bp (vt x (df rows o).1)<=zz bp x+1020:=by
 have hw:=Wp rows o;have h2:=AC CB;have h3:zz il o=0+(0+((0+(0+(0+(List.length o.2.2.1.2.2.2.1+0))))+(0+0))):=rfl;have c:zz (.aa aw) (x.2.1++[(df rows o).1])=zz (.aa aw) x.2.1+zz (.aa aw) [(df rows o).1]:=wA (e:=aw) _ _;have c2:zz (.aa aw) [(df rows o).1]=1+(zz aw (df rows o).1+0):=rfl;have d:zz bp (vt x (df rows o).1)=0+(zz (.aa aw) (x.2.1++[(df rows o).1])+(zz (.aa i64) x.2.2.1+(zz (.aa be) (if jk x.2.2.2.1 (kg (df rows o).1) then x.2.2.2.1 else x.2.2.2.1++[kg (df rows o).1])+0))):=rfl;have e:zz bp x=0+(zz (.aa aw) x.2.1+(zz (.aa i64) x.2.2.1+(zz (.aa be) x.2.2.2.1+0))):=rfl
 have f0:∀ (b:Bool) (L:List Key) (q:Key),zz (.aa be) (if b=true then L else L++[q])<=zz (.aa be) L+1:=λb L q=>by
  cases b
  ·exact gY (wA (e:=be) L [q])
  ·exact Nat.le_succ _
 have f:=f0 (jk x.2.2.2.1 (kg (df rows o).1)) x.2.2.2.1 (kg (df rows o).1);omega
section
variable {ps:bk} {l:Log} {ts:List Tx} {n:Int} {o:Op} (hq:nI (ps,l)) (hp:NZ (ba ps,ts,n,())) (h:gq (ba ps,ts,n,())=0) (h2:(jm (ba ps) ts o).1=0)
include hq hp h h2
theorem ab7:∃ E,Ends (true,ps,l,ts,n,()) o (jm (ba ps) ts o) E/\N8 ts E:=by
 have P:=lc h;obtain ⟨c1,c2,c3⟩:qP o=0/\dm o.1 1 9=true/\jm (ba ps) ts o=rO (ba ps) ts o:=AL P h2;have T:wd ts:=rR P.vK;have ht:oY ts:=hp.2.2;by_cases k1:o.1=1
 ·refine ⟨_,N5 hq hp h h2 k1,?_⟩
  split
  ·exact Ev _
  ·have h1:zz (.aa bp) (ts++[MY n])=zz (.aa bp) ts+1:=wA (e:=bp) ts [MY n];exact Up hq (ab3 ht T.len n) (by grind)
 by_cases k9:o.1=9
 ·exact ⟨_,N7 hq hp h h2 k9,ab5 hq ht (gJ _ _)⟩
 have hF:=h2;rw[c3] at hF
 have hna:¬ tJ ts o.2.1 < 0:=λhn=>by
  grind [rO]
 obtain ⟨j,hj,ii,AK⟩:=at_mem hna;have hm:ts[j] ∈ ts:=aJ hj;have afc:zz (.aa bp) (ts.take j++ts.drop (j+1))+(zz bp ts[j]+1)=zz (.aa bp) ts:=abY (e:=bp) ts j hj;have BW:∀ y:Tx,zz (.aa bp) (ts.set j y)+zz bp ts[j]=zz (.aa bp) ts+zz bp y:=λy=>abX (e:=bp) ts j hj y;by_cases k5:o.1=5
 ·obtain ⟨e,Uo⟩:=RF hq hp h h2 k5 hj ii;refine ⟨_,e,zR hq (M0 ht j (ab1 (ht.2 _ hm) (eB Uo))) ?_⟩
  have a:=BW (F7 ts[j]);have c:zz (.aa i64) ((ts[j]).2.2.1++[(List.length (ts[j]).2.1:Int)])=zz (.aa i64) (ts[j]).2.2.1+1:=wA (e:=i64) (ts[j]).2.2.1 [(List.length (ts[j]).2.1:Int)];have d:zz bp (F7 ts[j])=0+(zz (.aa aw) (ts[j]).2.1+(zz (.aa i64) ((ts[j]).2.2.1++[(List.length (ts[j]).2.1:Int)])+(zz (.aa be) (ts[j]).2.2.2.1+0))):=rfl;have e:zz bp ts[j]=0+(zz (.aa aw) (ts[j]).2.1+(zz (.aa i64) (ts[j]).2.2.1+(zz (.aa be) (ts[j]).2.2.2.1+0))):=rfl;grind
 by_cases k6:o.1=6
 ·obtain ⟨m,k,_,e,hg⟩:=RG hq hp h h2 k6 hj ii;refine ⟨_,e,RK λp hd=>zR (S:=(true,p.1,p.2,ts.set j (D0 ts[j] k m),n,())) (hg p hd) (M0 ht j (ac6 (ht.2 _ hm) k m)) ?_⟩
  have a:=BW (D0 ts[j] k m);have c:zz (.aa aw) ((ts[j]).2.1.take k)<=zz (.aa aw) (ts[j]).2.1:=(Un (e:=aw) (ts[j]).2.1 k).1;have c':zz (.aa i64) ((ts[j]).2.2.1.take (m+1))<=zz (.aa i64) (ts[j]).2.2.1:=(Un (e:=i64) (ts[j]).2.2.1 (m+1)).1;have d:zz bp (D0 ts[j] k m)=0+(zz (.aa aw) ((ts[j]).2.1.take k)+(zz (.aa i64) ((ts[j]).2.2.1.take (m+1))+(zz (.aa be) (ts[j]).2.2.2.1+0))):=rfl;have e:zz bp ts[j]=0+(zz (.aa aw) (ts[j]).2.1+(zz (.aa i64) (ts[j]).2.2.1+(zz (.aa be) (ts[j]).2.2.2.1+0))):=rfl;grind
 by_cases k7:o.1=7
 ·grind [LX,ab4,RJ]
 by_cases k8:o.1=8
 ·obtain ⟨e,hg⟩:=N6 hq hp h h2 k8 hj ii AK;grind [RK,Up,RJ]
 have Rx:uN o.1=true:=by
  grind [dm,uN]
 cases vv:(jm (ba ps) ts o).2.1 with
 | false=>exact ⟨_,RH hq hp h h2 k1 k5 k6 k7 k8 k9 vv,zR hq ht (gJ _ _)⟩
 | true=>
  obtain ⟨e,hg,hc⟩:=RI hq hp h h2 Rx hj ii AK vv
  have GQ:∀ c,ul ts j c=ts.set j (vt ts[j] c):=λc=>by
   grind [ul]
  refine ⟨_,e,RK λp hd=>zR (S:=(true,p.1,p.2,ul ts j (df (ba ps) o).1,n,())) (hg p hd) ?_ ?_⟩
  ·show oY (ul ts j _);rw[GQ];exact M0 ht j (ab2 (ht.2 _ hm) (T.s8 _ hm) (T.Iz _ hm) hc)
  ·show zz (.aa bp) (ul ts j _)<=_;rw[GQ];have a:=BW (vt ts[j] (df (ba ps) o).1)
   have HU:zz (.aa a8) (ba ps)<=1000:=by
    have:=TV (xs:=ba ps) P.tZ.2;have hl:=P.len;grind
   grind [ab6,IA]
end
theorem ac7 {O:Type} (z k:Int) (A B:O):(bif decide ((4000:Int) < z) then (bif !decide (k=(6:Int)) then (bif !decide (k=(8:Int)) then A else B) else B) else B)=if 4000 < z/\¬ k=6/\¬ k=8 then A else B:=by
 grind
theorem ac8 {O:Type} (z k:Int) (A B:O):(bif !decide (k=(6:Int)) then (bif !decide (k=(8:Int)) then (bif decide ((4000:Int) < z) then A else B) else B) else B)=if 4000 < z/\¬ k=6/\¬ k=8 then A else B:=by
 grind
def M1 (E:Sum Int (Int×az)):se:=match E with
 | .inl c=>Kd c
 | .inr p=>((0:Int),p.1,p.2,())
def aba (s:az) (o:Op) (R:se):Prop:=R.1=0->s.1=true/\(jm (ba s.2.1) s.2.2.2.1 o).1=0/\Ends s o (jm (ba s.2.1) s.2.2.2.1 o) (.inr (R.2.1,R.2.2.1))/\nI (R.2.2.1.2.1,R.2.2.1.2.2.1)/\oY R.2.2.1.2.2.2.1/\zz (.aa bp) R.2.2.1.2.2.2.1<=zz (.aa bp) s.2.2.2.1+3000
theorem ac9 {s:az} {o:Op} (hs:okS s) (ho:rl o.2.2.1) (h0:xF s=0):∃ R,mq.ab (s,o,())=some (R,())/\oV.ab (s,o,())=some (R,())/\zz nR R<=20000+zz dc s/\aba s o R:=by
 obtain ⟨u,ps,l,ts,n,⟨⟩⟩:=s;have Wr:∀ c,zz nR (Kd c)<=20000+zz dc (u,ps,l,ts,n,()):=λc=>bI (gY (show zz nR (Kd c)=0 from rfl)) (aW _);have L1:∀ R,mq.p ((u,ps,l,ts,n,()),o,())=some (R,())->mq.ab ((u,ps,l,ts,n,()),o,())=some (R,()):=λR hR=>ag (k:=0) λk _=>(mq.ae k _).trans hR;have L2:∀ R,oV.p ((u,ps,l,ts,n,()),o,())=some (R,())->oV.ab ((u,ps,l,ts,n,()),o,())=some (R,()):=λR hR=>ag (k:=0) λk _=>(oV.ae k _).trans hR;have hf:=Rp hs;rw[h0] at hf
 cases u with
 | false=>
  refine ⟨Kd 8,L1 _ ?_,L2 _ ?_,Wr _,λh=>absurd h (show ¬ (8:Int)=0 by decide)⟩
  all_goals grind [mq.p,oV.p,MU]
 | true=>
  obtain ⟨hq,hP⟩:=Kg h0 rfl;simp only at hq hP;have hp:NZ (ba ps,ts,n,()):=Rn hs hq.1;have xv:=Rk (s:=(true,ps,l,ts,n,())) hq.1;have wm:=Oo hq.1;have jX:=Wo (ba ps) ts o hp.1 hp.2.1 hp.2.2 ho;have Dc:=Wn (ba ps) ts o hp.1 hp.2.1 hp.2.2 ho;simp only at xv wm;by_cases h2:(jm (ba ps) ts o).1=0;rotate_left
  ·refine ⟨Kd (jm (ba ps) ts o).1,L1 _ ?_,L2 _ ?_,Wr _,λh=>absurd h h2⟩
   all_goals grind [mq.p,oV.p,MU]
  obtain ⟨E,hEn,hE⟩:=ab7 hq hp hP h2;obtain ⟨⟨r,i1,i2⟩,⟨q,s1,s2⟩⟩:=id hEn;have xz:jV.ab (l,())=some (((List.length l.1+List.length l.2.1:Nat):Int),()):=size_eq l hs.1
  have Ci:af ((List.length l.1:Int)+(List.length l.2.1:Int))=((List.length l.1+List.length l.2.1:Nat):Int):=by
   have a:=hs.1.1;have b:=hs.1.2;grind [bi]
  have ho1:=Uj (s:=(true,ps,l,ts,n,())) hq hp.2.2;have WO:=aan (s:=(true,ps,l,ts,n,())) hq hp.2.2;refine ⟨if 4000 < ((List.length l.1+List.length l.2.1:Nat):Int)/\¬ o.1=6/\¬ o.1=8 then Kd 9 else M1 E,L1 _ ?_,L2 _ ?_,?_,?_⟩
  ·unfold mq.p;simp only[hf,aA,aO,aU,aF,xv,jX,h2,xz,ho1,i1];rw[ac7];split
   ·rfl
   ·cases E with
    | inl c=>
     obtain ⟨a,b⟩:=i2;grind [M1]
    | inr p=>
     have i2:r=_:=i2;subst i2;obtain ⟨g1,g2,g3⟩:=hE p.1 p.2 rfl;grind [Uj,M1]
  ·unfold oV.p;simp only[aU,aF,MU,aA,aO,wm,Dc,h2,WO,s1,Ci];rw[ac8];split
   ·rfl
   ·cases E with
    | inl c=>
     obtain ⟨a,b⟩:=s2;grind [M1]
    | inr p=>
     have s2:q=_:=s2;grind [M1]
  ·split
   ·exact Wr _
   ·cases E with
    | inl c=>exact Wr c
    | inr p=>
     obtain ⟨g1,g2,g3⟩:=hE p.1 p.2 rfl
     have hz:zz nR (M1 (.inr p))=zz dc p.2:=by
      show 0+(0+(zz dc p.2+0))=_;omega
     rw[hz];have h3:=Uk g1
     have h4:zz (.aa bp) ts<=zz dc (true,ps,l,ts,n,()):=by
      rw[Rt];omega
     refine bI ?_ (Nat.add_le_add_left h4 20000);omega
  ·intro hR;split at hR
   ·exact absurd hR (show ¬ (9:Int)=0 by decide)
   ·rename_i hns;rw[aL hns]
    cases E with
    | inl c=>
     obtain ⟨a,b⟩:=i2;exact absurd hR b
    | inr p=>
     obtain ⟨g1,g2,g3⟩:=hE p.1 p.2 rfl;exact ⟨rfl,h2,hEn,g1,g2,g3⟩
end OT
namespace OT
open Go
theorem LY {kind tx:Int} (hk:kind=2\/kind=3) (ht:1<=tx/\tx<=99):∀ (cs:List Change) (q p:bk×Log),nI q->(∀ c ∈ cs,kI c=0)->pu q->kJ true kind tx cs q=.inr p->pu p
 | [],q,p,_,_,h,e=>by injection e with e;rw[<-e];exact h
 | c::cs,q,p,hq,hc,h,e=>by
  simp only[kJ] at e;by_cases h0:(jG q.1 c).1=0
  ·rw[aG h0] at e;have yK:=hc c bF;obtain ⟨w,f1,f2,f3⟩:=ab0 hq.1 yK h0
   cases he:nH true kind tx (jG q.1 c).2.1 q with
   | inl x=>rw[he] at e;cases e
   | inr q1=>
    rw[he] at e;have hg:=(zj hq yK h0 he).1;have wx:(jG q.1 c).2.1=w.2.1:=by rw[f1]
    rw[wx] at he;exact LY hk ht cs q1 p hg (λd hd=>hc d (aX _ hd)) (Jn hk ht _ q q1 (yn hq.1) f3.ed f3.chg h he) e
  ·rw[aL h0] at e;cases e
def AM (E:Sum Int (Int×az)):Prop:=∀ v s',E=.inr (v,s')->s'.1=true/\pu (s'.2.1,s'.2.2.1)
section
variable {S:az} {v:Int}
theorem zo (c:Int):AM (.inl c):=λv s' h=>by cases h
theorem vw (hu:S.1=true) (h:pu (S.2.1,S.2.2.1)):AM (.inr (v,S)):=λv' s' e=>by
 cases e;exact ⟨hu,h⟩
theorem LZ {k t:Int} (hk:k=1\/k=5\/k=6) (ht:1<=t/\t<=99) (hu:S.1=true) (h:pu (S.2.1,S.2.2.1)):AM (D2 v S (k,t,(0:Int),([]:List ci),())):=by
 unfold D2
 cases ha:ng S.2.2.1 (k,t,(0:Int),([]:List ci),()) with
 | none=>exact zo _
 | some l=>exact vw (S:=(S.1,S.2.1,l,S.2.2.2)) hu (DC h (LS hk ht S.2.1) ha)
theorem Ws {k t:Int} (hk:k=1\/k=5\/k=6) (ht:1<=t/\t<=99) (hu:S.1=true) (h:pu (S.2.1,S.2.2.1)):AM (H6 S (k,t,(0:Int),([]:List ci),())):=by
 unfold H6
 cases ha:ng S.2.2.1 (k,t,(0:Int),([]:List ci),()) with
 | none=>exact zo _
 | some l=>exact vw (S:=(S.1,S.2.1,qe l,S.2.2.2)) hu (LR (DC h (LS hk ht S.2.1) ha))
theorem Wt (hg:gp S.2.1) (hu:S.1=true) (h:pu (S.2.1,S.2.2.1)):AM (H7 S):=by
 unfold H7
 cases ha:wg 0 S.2.1 S.2.2.1 with
 | inl _=>exact zo _
 | inr l=>exact vw (S:=(S.1,S.2.1,qe l,S.2.2.2)) hu (LR (LT hg S.2.1 0 S.2.2.1 l rfl h ha))
theorem H8 {ps:bk} {l:Log} {kind tx:Int} {cs:List Change} {f:bk×Log->Sum Int (Int×az)} (hk:kind=2\/kind=3) (ht:1<=tx/\tx<=99) (hq:nI (ps,l)) (hc:∀ c ∈ cs,kI c=0) (h:pu (ps,l)) (hf:∀ p,pu p->AM (f p)):AM (Gt ps l kind tx cs f):=by
 unfold Gt
 cases hd:kJ true kind tx cs (ps,l) with
 | inl p=>exact zo _
 | inr p=>exact hf p (LY hk ht cs (ps,l) p hq hc h hd)
end
theorem ST {s:az} (h:xF s=0) (hu:s.1=true):pu (s.2.1,s.2.2.1):=by
 unfold xF at h;by_cases hl:xr s.2.2.1=0;rotate_left
 ·rw[aL hl] at h;exact absurd h hl
 rw[aG hl,hu,aS] at h;unfold YL at h;by_cases hv:gx s.2.1=0;rotate_left
 ·rw[aL hv] at h;exact absurd h hv
 rw[aG hv] at h;by_cases hp:gq (ba s.2.1,s.2.2.2.1,s.2.2.2.2.1,())=0;rotate_left
 ·rw[aL hp] at h;exact absurd h hp
 rw[aG hp] at h;split at h
 ·rename_i hr;refine ⟨hl,?_⟩
  show z8 (sQ s.2.2.1)=(s.2.1,(0:Int),())
  obtain ⟨a,b⟩:=hr;rw[<-a,<- b]
 ·exact absurd h (by decide)
theorem SV {u:Bool} {ps:bk} {l:Log} {ts:List Tx} {n:Int} (hu:u=true) (hv:gx ps=0) (hp:gq (ba ps,ts,n,())=0) (h:pu (ps,l)):xF (u,ps,l,ts,n,())=0:=by
 obtain ⟨h1,h2⟩:=h;simp only at h1 h2;unfold xF;simp only;rw[aG h1,hu,aS];unfold YL;simp only;rw[aG hv,aG hp,h2,aG ⟨rfl,rfl⟩]
end OT
namespace OT
open Go
def ac_ (cs:List Change) (k:Int×Int):Prop:=∀ c ∈ cs,ck c≠k
theorem RL:∀ (L:List (List Change)) (rows:List Row),Good rows->(∀ cs ∈ L,∀ c ∈ cs,kI c=0)->L.Pairwise (λa b=>∀ d ∈ b,ac_ a (ck d))->(∀ cs ∈ L,∃ t,i_ rows cs=some t)->∃ t,i_ rows L.flatten=some t
 | [],rows,_,_,_,_=>⟨rows,rfl⟩
 | cs::L,rows,hg,hc,hp,hu=>by
  obtain ⟨s,hs⟩:=hu cs bF;rw[dM] at hp;have yK:=hc cs bF;have hgs:=(ym cs rows s hg yK hs).1;have hf:=zl cs rows s hg yK hs;rw[List.flatten_cons,back_append,hs,aA];refine RL L s hgs (λx hx=>hc x (aX _ hx)) hp.2 λx hx=>?_;obtain ⟨t,ht⟩:=hu x (aX _ hx);exact zk (K:=ac_ cs) x rows s t hg hgs (hc x (aX _ hx)) (λc hcx=>hp.1 x hx c hcx) hf ht
theorem Wu (ts:List Tx):qY ts=(ts.map λx=>fy x.2.1).flatten:=by
 unfold qY;rw[List.flatMap_def]
theorem aaw {rows:List Row} (hg:Good rows) {c:Change} (hc:kI c=0) (hf:vg rows c=true):vg (qc rows c) (vq c)=true/\qc (qc rows c) (vq c)=rows:=by
 have IX:=sk hg hc;have hci:=qd (cs:=[c]) (λd hd=>by rw[bE] at hd;rw[hd];exact hc) (vq c) (by simp[fy]);have hk:=HV hc;have Uq:=(CX hg.1 hc).1 hf;have hi1:(vq c).1=c.2.2.1:=rfl;have hi2:(vq c).2.1=c.2.2.2.1:=rfl;have hi3:(vq c).2.2.1=c.1:=rfl;have hi4:(vq c).2.2.2.1=c.2.1:=rfl;constructor
 ·rw[CX IX.1 hci,hi1,hi2,hk];by_cases h:c.2.2.1=true
  ·rw[aG h,vn hg.1];exact .inr ⟨h,rfl⟩
  ·rw[aL h];intro r hr;rw[vn hg.1] at hr;rcases hr with hr | hr
   ·exact hr.2
   ·exact absurd hr.1 h
 ·refine Uc (sk IX hci).1 hg.1 λr=>?_;rw[vn IX.1,vn hg.1,hk,hi3,hi4];by_cases hw:c.1=true
  ·rw[aG hw] at Uq;have hkb:=Dy hc hw;constructor
   ·rintro (⟨h1 | h1,h2⟩ | h1)
    ·exact h1.1
    ·exact absurd (by rw[h1.2];exact (po hc).1 h1.1) h2
    ·rw[h1.2];exact Uq
   ·intro h;by_cases he:rk r=ck c
    ·right;refine ⟨hw,?_⟩
     obtain ⟨i,hi,hx⟩:=bL h;obtain ⟨j,hj,hy⟩:=bL Uq;obtain ⟨_,a2⟩:=AE hg.1 hi (k:=ck c) (by rw[hx];exact he);obtain ⟨_,b2⟩:=AE hg.1 hj (k:=ck c) (by rw[hy];exact hkb);have qN:i=j:=by rw[<-a2,<- b2]
     subst qN;rw[<-hx,<- hy]
    ·exact .inl ⟨.inl ⟨h,he⟩,he⟩
  ·rw[aL hw] at Uq;constructor
   ·rintro (⟨h1 | h1,h2⟩ | h1)
    ·exact h1.1
    ·exact absurd (by rw[h1.2];exact (po hc).1 h1.1) h2
    ·exact absurd h1.1 hw
   ·intro h;exact .inl ⟨.inl ⟨h,Uq r h⟩,Uq r h⟩
theorem F8 {rows:List Row} {ts:List Tx} {n:Int} (hg:Good rows) (hl:rows.length<=12) (ht:lW ts=0) (hn:dm n 1 100=true) (hx:we n ts=false) (hr:sP rows ts<=12) (hu:∀ x ∈ ts,∃ t,i_ rows (fy x.2.1)=some t):gq (rows,ts,n,())=0:=by
 have T:=rR ht
 have hb:∃ t,i_ rows (qY ts)=some t:=by
  rw[Wu];refine RL _ rows hg ?_ ?_ ?_
  ·intro cs pA;obtain ⟨x,hx,rfl⟩:=dQ.1 pA;exact qd (T.ch x hx)
  ·rw[gB,bN];intro i j hi hj qN d hd c hc;exact BA ht hj qN hc hd
  ·intro cs pA;obtain ⟨x,hx,rfl⟩:=dQ.1 pA;exact hu x hx
 obtain ⟨t,hb⟩:=hb;unfold gq;simp only;rw[aG (FX hg Bys),aG ht,hn,hx,hb];rw[aG (by rfl),aL Bys]
theorem IE {p:Plain} (h:gq p=0):we p.2.2.1 p.2.1=false:=by
 unfold gq at h;split at h
 ·split at h
  ·split at h
   ·rename_i h3;rw[aD] at h3
    simpa using h3.2
   ·cases h
  ·rename_i h1;exact absurd h h1
 ·rename_i h1;exact absurd h h1
theorem Ur:∀ (xs ys:List Tx) (j:Nat),(∀ i (hi:i < ys.length),s7 xs (j+i) ys[i]=0)->bt (λi (_:Unit) x=>if s7 xs i x=0 then .inr () else .inl (s7 xs i x)) (λ_=>(0:Int)) j ys ()=0
 | xs,[],j,h=>rfl
 | xs,y::ys,j,h=>by
  have h0:=h 0 (by simp);simp only[List.getElem_cons_zero,dY] at h0;simp only[bt];rw[aG h0];refine Ur xs ys (j+1) λi hi=>?_;have:=h (i+1) (by simp only[aZ];omega);simp only[List.getElem_cons_succ] at this;rw[show j+1+i=j+(i+1) by omega];exact this
structure xW (ts:List Tx):Prop where
 len:ts.length<=4
 each:∀ x ∈ ts,dm x.1 1 99=true/\t8 x=0
 H9:ts.Pairwise λa b=>a.1 < b.1
 apart:(flatK ts).Nodup
 IV:oF ts<=12
theorem L4 {ts:List Tx} (h:xW ts):lW ts=0:=by
 have he:Ai ts=0:=Ur ts ts 0 λi hi=>by
  obtain ⟨h1,h2⟩:=h.each _ (aJ hi);rw[bZ];unfold s7;rw[aG h1];by_cases h0:0 < i
  ·rw[aG h0,aB (show i - 1 < ts.length by omega)];simp only;have:=bN.1 h.H9 (i - 1) i Bys hi Bys;rw[aL Bys];exact h2
  ·rw[aL h0];exact h2
 have hc:=h.IV;have hl:=h.len;unfold lW;rw[aL Bys,aG he];have ha:CV ts=true:=aY h.apart;rw[ha,aG rfl,aL Bys]
theorem DD {ts:List Tx} (h:lW ts=0):xW ts:=by
 have hl:=(rR h).len;have hn:=HW h;unfold lW at h;rw[aL Bys] at h;split at h
 ·rename_i he;have hg:=yk ts he
  have pH:∀ i (hi:i < ts.length),dm (ts[i]).1 1 99=true/\t8 ts[i]=0/\(0 < i->∀ y,ts[i - 1]?=some y->y.1 < (ts[i]).1):=λi hi=>by
   have h1:=hg i hi;unfold s7 at h1;split at h1
   ·rename_i hb;split at h1
    ·rename_i h0;rw[aB (show i - 1 < ts.length by omega)] at h1 ⊢;simp only at h1;split at h1
     ·cases h1
     ·rename_i a7;exact ⟨hb,h1,λ_ y hy=>by injection hy with hy;rw[<-hy];omega⟩
    ·rename_i h0;exact ⟨hb,h1,λhh=>absurd hh h0⟩
   ·cases h1
  refine ⟨hl,λx hx=>?_,?_,hn,?_⟩
  ·obtain ⟨i,hi,rfl⟩:=bL hx;exact ⟨(pH i hi).1,(pH i hi).2.1⟩
  ·rw[bN]
   have main:∀ (d i:Nat) (hi:i < ts.length) (hj:i+(d+1) < ts.length),(ts[i]).1 < (ts[i+(d+1)]).1:=by
    intro d
    induction d with
    | zero=>
     intro i hi hj;exact (pH (i+1) hj).2.2 Bys _ (by rw[show i+1 - 1=i by omega];exact aB hi)
    | succ d ih=>
     intro i hi hj;have h1:=ih i hi Bys;have h2:=(pH (i+(d+1+1)) hj).2.2 Bys (ts[i+(d+1)]'Bys) (by rw[show i+(d+1+1) - 1=i+(d+1) by omega];exact aB Bys);omega
   intro i j hi hj qN;have:=main (j - i - 1) i hi Bys;simp only[show i+(j - i - 1+1)=j by omega] at this;exact this
  ·split at h
   ·split at h
    ·cases h
    ·omega
   ·cases h
 ·rename_i he;exact absurd h he
end OT
namespace OT
open Go
theorem Wv:∀ (ks S:List Key),S.Nodup->(dd S ks).Nodup
 | [],S,h=>h
 | x::ks,S,h=>by
  show (dd (if jk S x then S else S++[x]) ks).Nodup;refine Wv ks _ ?_;split
  ·exact h
  ·rename_i hx;rw[dF];refine ⟨h,by simp,λa ha b hb he=>hx ?_⟩
   rw[bE] at hb;rw[nY,<- hb,<- he];exact ha
theorem AN {rows xi:List Row} {ts zs:List Tx} (h:∀ k ∈ mV xi zs,k ∈ mV rows ts):sP xi zs<=sP rows ts:=by
 unfold sP;refine Es _ _ (Wv _ _ fC) λk hk=>?_;rw[HH] at hk ⊢;rcases hk with hk | hk
 ·cases hk
 ·exact .inr (h k hk)
theorem aax {rows xi:List Row} {ts zs:List Tx} {q:Key} (hq:¬ q.2.1=0) (h:∀ k ∈ mV xi zs,k ∈ mV rows ts\/k=q):sP xi zs<=zi rows ts q:=by
 unfold sP zi;refine Es _ _ (Wv _ _ fC) λk hk=>?_;rw[HH] at hk ⊢;rcases hk with hk | hk
 ·cases hk
 ·right;rw[bG];rcases h k hk with h1 | h1
  ·exact .inl h1
  ·right;unfold Ep;rw[aL hq,h1];exact bE.2 rfl
theorem Kk:∀ (xs:List Tx) (n:Int),xs.foldl (λn x=>n+(List.length x.2.1:Int)) n=n+oF xs
 | [],n=>by unfold oF;simp
 | x::xs,n=>by
  unfold oF;simp only[eD];rw[Kk xs (n+_),Kk xs (0+_)];omega
theorem Kl (x:Tx) (xs:List Tx):oF (x::xs)=(List.length x.2.1:Int)+oF xs:=by
 show (x::xs).foldl _ 0=_;rw[eD,Kk];omega
theorem BC:∀ (a b:List Tx),oF (a++b)=oF a+oF b
 | [],b=>by
  rw[cK];have:oF []=0:=rfl;omega
 | x::a,b=>by
  rw[dA,Kl,Kl,BC a b];omega
theorem H_ {xs:List Tx} {j:Nat} (hj:j < xs.length):oF xs=oF (xs.take j)+(List.length (xs[j]).2.1:Int)+oF (xs.drop (j+1)):=by
 have hx:xs=xs.take j++xs[j]::xs.drop (j+1):=by rw[fG,cE]
 conv=>lhs;rw[hx]
 rw[BC,Kl];omega
theorem zp {xs:List Tx} {j:Nat} (hj:j < xs.length):flatK xs=flatK (xs.take j)++((xs[j]).2.2.2.1++flatK (xs.drop (j+1))):=by
 have hx:xs=xs.take j++xs[j]::xs.drop (j+1):=by rw[fG,cE]
 conv=>lhs;rw[hx]
 unfold flatK;rw[eC,dU]
theorem RM (a b:List Tx):flatK (a++b)=flatK a++flatK b:=by
 unfold flatK;rw[eC]
theorem CZ {ts:List Tx} {j:Nat} {x:Tx} (h:x ∈ ts.take j++ts.drop (j+1)):x ∈ ts:=by
 rcases bG.1 h with g | g
 ·exact dI g
 ·exact cN g
theorem aay (ts:List Tx) (j:Nat):(ts.take j++ts.drop (j+1)).Sublist ts:=by
 rw[<-List.eraseIdx_eq_take_drop_succ];exact List.eraseIdx_sublist ts j
theorem N9 {ts:List Tx} (h:xW ts) {j:Nat} (hj:j < ts.length):xW (ts.take j++ts.drop (j+1)):=by
 have hs:=aay ts j;refine ⟨bI hs.length_le h.len,λx hx=>h.each x (CZ hx),h.H9.sublist hs,?_,?_⟩
 ·have ha:=h.apart;rw[zp hj] at ha;rw[RM];rw[dF] at ha ⊢;obtain ⟨a1,a2,a3⟩:=ha;rw[dF] at a2;exact ⟨a1,a2.2.1,λa ha b hb=>a3 a ha b (cB _ hb)⟩
 ·have hc:=h.IV;rw[H_ hj] at hc;rw[BC];omega
theorem N_ {ts:List Tx} {n:Int} (h:xW ts) (hx:we n ts=false) (j:Nat):we n (ts.take j++ts.drop (j+1))=false:=by
 have sy:∀ x ∈ ts,x.1 < n:=λx xA=>by
  obtain ⟨i,hi,rfl⟩:=bL xA;unfold we at hx;rw[aB (show ts.length - 1 < ts.length by omega)] at hx;simp only[dW] at hx;by_cases he:i=ts.length - 1
  ·subst he;omega
  ·have:=bN.1 h.H9 i (ts.length - 1) hi Bys Bys;omega
 unfold we
 cases hg:(ts.take j++ts.drop (j+1))[(ts.take j++ts.drop (j+1)).length - 1]? with
 | none=>rfl
 | some x=>
  have:=sy x (CZ (bW hg));simp only[dW];omega
theorem Ww {rows:List Row} {ts:List Tx} {n:Int} (h:gq (rows,ts,n,())=0) {j:Nat} (hj:j < ts.length):gq (rows,ts.take j++ts.drop (j+1),n,())=0:=by
 have P:=lc h;have R:=DD P.vK;have Cc:=IE h;simp only at Cc
 have hu:∀ x ∈ ts,∃ t,i_ rows (fy x.2.1)=some t:=λx hx=>by
  obtain ⟨i,hi,rfl⟩:=bL hx;exact vu P hi
 refine F8 P.tZ P.len (L4 (N9 R hj)) P.next (N_ R Cc j) (bI (AN λk hk=>?_) P.room) λx hx=>hu x (CZ hx);unfold mV at hk ⊢;rcases bG.1 hk with g | g
 ·exact dL _ g
 ·refine cB _ ?_;unfold flatK at g ⊢;obtain ⟨x,hx,hm⟩:=cG.1 g;exact cG.2 ⟨x,CZ hx,hm⟩
end OT
namespace OT
open Go
theorem YX {ts:List Tx} {n:Int} (h:xW ts) (hx:we n ts=false):∀ x ∈ ts,x.1 < n:=λx xA=>by
 obtain ⟨i,hi,rfl⟩:=bL xA;unfold we at hx;rw[aB (show ts.length - 1 < ts.length by omega)] at hx;simp only[dW] at hx;by_cases he:i=ts.length - 1
 ·subst he;omega
 ·have:=bN.1 h.H9 i (ts.length - 1) hi Bys Bys;omega
theorem SW {rows:List Row} {ts:List Tx} {n:Int} (h:gq (rows,ts,n,())=0) (RD:¬ n=100) (hl:ts.length < 4):gq (rows,ts++[(n,([]:List Change),([]:List Int),([]:List Key),())],n+1,())=0:=by
 have P:=lc h;have R:xW ts:=DD P.vK;have Cc:=IE h;simp only at Cc;have hb:=YX R Cc;have hn:dm n 1 100=true:=P.next;have IQ:=hn;unfold dm at hn;simp only[aD,bA] at hn
 have hfk:flatK (ts++[(n,([]:List Change),([]:List Int),([]:List Key),())])=flatK ts:=by
  rw[RM];have:flatK [(n,([]:List Change),([]:List Int),([]:List Key),())]=[]:=rfl;rw[this,cV]
 have hR:xW (ts++[(n,([]:List Change),([]:List Int),([]:List Key),())]):=by
  refine ⟨by rw[bK,aZ,bR];omega,λx hx=>?_,?_,by rw[hfk];exact R.apart,?_⟩
  ·rcases bG.1 hx with g | g
   ·exact R.each x g
   ·rw[bE] at g;subst g;refine ⟨?_,rfl⟩
    unfold dm;simp only[aD,bA];omega
  ·rw[gO];refine ⟨R.H9,fY _ _,λa ha b WP=>?_⟩
   rw[bE] at WP;subst WP;exact hb a ha
  ·rw[BC];have:oF [(n,([]:List Change),([]:List Int),([]:List Key),())]=0:=rfl;have:=R.IV;omega
 refine F8 P.tZ P.len (L4 hR) ?_ ?_ ?_ ?_
 ·unfold dm;simp only[aD,bA];omega
 ·unfold we;rw[bK,aZ,bR,show ts.length+(0+1) - 1=ts.length by omega,eV (aH _),Nat.sub_self];simp only[dJ,dW];omega
 ·refine bI (AN λk hk=>?_) P.room;unfold mV at hk ⊢;rw[hfk] at hk;exact hk
 ·intro x hx;rcases bG.1 hx with g | g
  ·obtain ⟨i,hi,rfl⟩:=bL g;exact vu P hi
  ·rw[bE] at g;subst g;exact ⟨rows,rfl⟩
theorem M2 {ts:List Tx} {j:Nat} (hj:j < ts.length) {y:Tx} (hy:y.1=(ts[j]).1) (i:Nat) (hi:i < ts.length):((ts.set j y)[i]'(by rw[bQ];exact hi)).1=(ts[i]).1:=by
 rw[List.getElem_set];split
 ·rename_i he;subst he;exact hy
 ·rfl
theorem Ia {rows xi:List Row} {ts:List Tx} {n:Int} (h:gq (rows,ts,n,())=0) {j:Nat} (hj:j < ts.length) {y:Tx} (hg:Good xi) (Gq:y.1=(ts[j]).1) (hy:t8 y=0) (hk:(flatK (ts.set j y)).Nodup) (hc:(List.length y.2.1:Int)+oF ts<=12+(List.length (ts[j]).2.1:Int)) (hr:sP xi (ts.set j y)<=12)
  (hu:∃ t,i_ xi (fy y.2.1)=some t) (ho:∀ i (hi:i < ts.length),i≠j->agree (λk=>∃ c ∈ fy (ts[i]).2.1,ck c=k) rows xi):gq (xi,ts.set j y,n,())=0:=by
 have P:=lc h;have R:xW ts:=DD P.vK;have T:wd ts:=rR P.vK;have Cc:=IE h;simp only at Cc
 have hR:xW (ts.set j y):=by
  refine ⟨by rw[bQ];exact R.len,λx hx=>?_,?_,hk,?_⟩
  ·rcases eE hx with g | g
   ·exact R.each x g
   ·rw[g,Gq];exact ⟨(R.each _ (aJ hj)).1,hy⟩
  ·rw[bN];intro a b ha hb TK;rw[bQ] at ha hb;rw[M2 hj Gq a ha,M2 hj Gq b hb];exact bN.1 R.H9 a b ha hb TK
  ·have h1:=H_ hj;have h2:=H_ (xs:=ts.set j y) (j:=j) (by rw[bQ];exact hj);rw[gG,gU (aH j),gV Bys] at h2;omega
 have hlen:xi.length<=12:=bI (Dx (xs:=ts.set j y) hg.1) (by unfold sP at hr;exact hr);refine F8 hg hlen (L4 hR) P.next ?_ hr λx hx=>?_
 ·unfold we at Cc ⊢;rw[bQ,aB (show ts.length - 1 < (ts.set j y).length by rw[bQ];omega)];rw[aB (show ts.length - 1 < ts.length by omega)] at Cc;simp only at Cc ⊢;rw[M2 hj Gq _ Bys];exact Cc
 ·obtain ⟨i,hi,rfl⟩:=bL hx;rw[bQ] at hi;rw[List.getElem_set];split
  ·exact hu
  ·rename_i je;obtain ⟨t,ht⟩:=vu P hi;have gb:ts[i] ∈ ts:=aJ hi;exact zk (K:=λk=>∃ c ∈ fy (ts[i]).2.1,ck c=k) _ rows xi t P.tZ hg (qd (T.ch _ gb)) (λc hc=>⟨c,hc,rfl⟩) (ho i hi (λe=>je e.symm)) ht
end OT
namespace OT
open Go
theorem vS {x a b:Int}:dm x a b=true↔a<=x/\x<=b:=by
 unfold dm;simp only[aD,bA]
def Ib (n:Int) (i:Nat) (ms:List Int) (last:Int):Bool:=bt (λ_ last m=>if dm m last n then .inr m else .inl false) (λ_=>true) i ms last
theorem xX {n:Int} {i:Nat} {x:Int} {ms:List Int} {last:Int}:Ib n i (x::ms) last=if dm x last n then Ib n (i+1) ms x else false:=by
 unfold Ib;simp only[bt];cases dm x last n <;> rfl
theorem L5 {n:Int}:∀ (ms:List Int) (i:Nat) (last:Int),last<=n->Ib n i ms last=true->Ib n i (ms++[n]) last=true
 | [],i,last,hl,h=>by
  rw[cK,xX,aG (vS.2 ⟨hl,fD n⟩)];rfl
 | x::ms,i,last,hl,h=>by
  rw[xX] at h;rw[dA,xX];by_cases hx:dm x last n=true
  ·rw[aG hx] at h ⊢;exact L5 ms (i+1) x (vS.1 hx).2 h
  ·rw[aL hx] at h;cases h
theorem Oa {n k:Int}:∀ (ms:List Int) (i m:Nat) (last:Int),Ib n i ms last=true->ms[m]?=some k->last<=k/\Ib k i (ms.take (m+1)) last=true
 | [],i,m,last,h,hk=>by simp at hk
 | x::ms,i,m,last,h,hk=>by
  rw[xX] at h;by_cases hx:dm x last n=true;rotate_left
  ·rw[aL hx] at h;cases h
  rw[aG hx] at h;have xA:=vS.1 hx
  cases m with
  | zero=>
   simp only[dJ,aP] at hk;subst hk;refine ⟨xA.1,?_⟩
   rw[List.take_succ_cons,jA,xX,aG (vS.2 ⟨xA.1,fD x⟩)];rfl
  | succ m=>
   simp only[eO] at hk;obtain ⟨a,b⟩:=Oa ms (i+1) m x h hk;refine ⟨by omega,?_⟩
   rw[List.take_succ_cons,xX,aG (vS.2 ⟨xA.1,a⟩)];exact b
theorem L6 {n n':Int} (hn:n<=n'):∀ (ms:List Int) (i:Nat) (last:Int),Ib n i ms last=true->Ib n' i ms last=true
 | [],i,last,h=>rfl
 | x::ms,i,last,h=>by
  rw[xX] at h ⊢;by_cases hx:dm x last n=true
  ·rw[aG hx] at h;have:=vS.1 hx;rw[aG (vS.2 ⟨this.1,by omega⟩)];exact L6 hn ms (i+1) x h
  ·rw[aL hx] at h;cases h
structure TxR (x:Tx):Prop where
 s8:∀ c ∈ (x.2.1:List Change),wc x.2.2.2.1 c=0
 ml:List.length x.2.2.1<=8
 kl:List.length x.2.2.2.1<=12
 marks:Ib (List.length x.2.1:Int) 0 x.2.2.1 0=true
 Iz:vI x.2.2.2.1=0
theorem aaz {x:Tx} (h:t8 x=0):TxR x:=by
 unfold t8 at h;split at h
 ·rename_i hu;unfold tD at h;split at h
  ·cases h
  ·rename_i hn;simp only[dB,bA,jD] at hn;split at h
   ·rename_i hm;exact ⟨Aj hu,by omega,by omega,hm,h⟩
   ·cases h
 ·rename_i hu;exact absurd h hu
theorem Wx {x:Tx} (h:TxR x):t8 x=0:=by
 have hu:Dq x=0:=CP h.s8;unfold t8;rw[aG hu];unfold tD;have h1:=h.ml;have h2:=h.kl;have hm:Hj (List.length x.2.1:Int) 0 x.2.2.1=true:=h.marks;rw[aL (by simp only[dB,bA,jD];omega),aG hm];exact h.Iz
theorem Km {ts:List Tx} {j:Nat} (hj:j < ts.length) (y:Tx):flatK (ts.set j y)=flatK (ts.take j)++(y.2.2.2.1++flatK (ts.drop (j+1))):=by
 rw[zp (xs:=ts.set j y) (j:=j) (by rw[bQ];exact hj),gG,gU (aH j),gV Bys]
theorem Wy {K:Int×Int->Prop} (s:List Row):agree K s s:=λ_ _=>iG
theorem Wz {rows:List Row} {ts:List Tx} {n:Int} (h:gq (rows,ts,n,())=0) {j:Nat} (hj:j < ts.length) (hm:List.length (ts[j]).2.2.1 < 8):gq (rows,ts.set j (F7 ts[j]),n,())=0:=by
 have P:=lc h;have R:xW ts:=DD P.vK;have X:=aaz (R.each _ (aJ hj)).2;have hk:flatK (ts.set j (F7 ts[j]))=flatK ts:=by rw[Km hj,zp hj];rfl
 have hc:=R.IV;refine Ia h hj P.tZ rfl (Wx ⟨X.s8,?_,X.kl,?_,X.Iz⟩) (by rw[hk];exact R.apart) ?_ ?_ (vu P hj) λi hi je=>Wy rows
 ·show ((ts[j]).2.2.1++[(List.length (ts[j]).2.1:Int)]).length<=8;rw[bK,aZ,bR];omega
 ·exact L5 _ 0 0 Bys X.marks
 ·show (List.length (ts[j]).2.1:Int)+oF ts<=_;omega
 ·refine bI (AN λk mY=>?_) P.room;unfold mV at mY ⊢
  rwa [hk] at mY
theorem Ob {rows t:List Row} {ts:List Tx} (hg:Good rows) {x:Tx} (hx:x ∈ ts) (hxr:t8 x=0) (t_:∀ c ∈ (x.2.1:List Change),kI c=0) {cs:List Change} (hs:∀ c ∈ cs,∃ d ∈ x.2.1,c=vq d) (hb:i_ rows cs=some t):∀ k ∈ tI t,k ∈ mV rows ts:=λk hk=>by
 have hc:∀ c ∈ cs,kI c=0:=λc hc=>by
  obtain ⟨d,hd,rfl⟩:=hs c hc;exact qd (cs:=[d]) (λe he=>by rw[bE] at he;rw[he];exact t_ d hd) _ (by simp[fy])
 have hf:=zl cs rows t hg hc hb;unfold tI at hk;obtain ⟨r,hr,rfl⟩:=dQ.1 hk;unfold mV;rw[bG];by_cases ho:∀ c ∈ cs,ck c≠rk r
 ·left;unfold tI;exact dQ.2 ⟨r,(hf r ho).2 hr,rfl⟩
 ·right;simp only[Classical.not_forall] at ho;obtain ⟨c,pA,he⟩:=ho;have he:ck c=rk r:=Classical.not_not.1 he;obtain ⟨d,hd,rfl⟩:=hs c pA;have hl:=nY.1 (DA hxr d hd);unfold flatK;refine cG.2 ⟨x,hx,?_⟩;unfold kg at hl;rw[<-HV (t_ d hd),he] at hl;exact hl
theorem Jo {rows t:List Row} {ts:List Tx} (hg:Good rows) (ht:lW ts=0) {i j:Nat} (hi:i < ts.length) (hj:j < ts.length) (je:i≠j) {cs:List Change} (hs:∀ c ∈ cs,c ∈ fy (ts[j]).2.1) (hb:i_ rows cs=some t):agree (λk=>∃ c ∈ fy (ts[i]).2.1,ck c=k) rows t:=by
 have T:wd ts:=rR ht;have hc:∀ c ∈ cs,kI c=0:=λc hc=>qd (T.ch _ (aJ hj)) c (hs c hc);have hf:=zl cs rows t hg hc hb;intro r hr;refine hf r λc pA he=>?_;obtain ⟨d,hd,hdk⟩:=hr;have h1:=hs c pA;rcases fV je with h2 | h2
 ·exact BA ht hj h2 hd h1 (by rw[hdk,he])
 ·exact BA ht hi h2 h1 hd (by rw[hdk,he])
theorem YY {rows t:List Row} {ts:List Tx} {n:Int} (h:gq (rows,ts,n,())=0) {j:Nat} (hj:j < ts.length) {k m:Nat} (hm:(ts[j]).2.2.1[m]?=some (k:Int)) (hkl:k<=List.length (ts[j]).2.1) (hb:i_ rows (fy ((ts[j]).2.1.drop k))=some t):gq (t,ts.set j (D0 ts[j] k m),n,())=0:=by
 have P:=lc h;have R:xW ts:=DD P.vK;have T:wd ts:=rR P.vK;have gb:ts[j] ∈ ts:=aJ hj;have hx:=(R.each _ gb).2;have X:=aaz hx;have t_:=T.ch _ gb;have Eu:∀ c ∈ (ts[j]).2.1.drop k,kI c=0:=λc hc=>t_ c (cN hc);have hg:=(ym _ _ _ P.tZ (qd Eu) hb).1;have hk:flatK (ts.set j (D0 ts[j] k m))=flatK ts:=by rw[Km hj,zp hj];rfl
 have hc:=R.IV
 have EH:∀ c ∈ fy ((ts[j]).2.1.drop k),c ∈ fy (ts[j]).2.1:=λc hc=>by
  rw[inv_split _ k];exact dL _ hc
 have a7:List.length ((ts[j]).2.1.take k)=k:=by rw[cO];omega
 refine Ia h hj hg rfl (Wx ⟨λc hc=>X.s8 c (dI hc),?_,X.kl,?_,X.Iz⟩) (by rw[hk];exact R.apart) ?_ ?_ ?_ λi hi je=>Jo P.tZ P.vK hi hj je EH hb
 ·show ((ts[j]).2.2.1.take (m+1)).length<=8;have:=X.ml;rw[cO];omega
 ·show Ib (List.length ((ts[j]).2.1.take k):Int) 0 ((ts[j]).2.2.1.take (m+1)) 0=true;rw[a7];exact (Oa _ 0 m 0 X.marks hm).2
 ·show (List.length ((ts[j]).2.1.take k):Int)+oF ts<=_;rw[a7];omega
 ·refine bI (AN λq hq=>?_) P.room;unfold mV at hq;rw[hk] at hq;rcases bG.1 hq with g | g
  ·refine Ob P.tZ gb hx t_ (λc hc=>?_) hb q g;obtain ⟨d,hd,he⟩:=zP hc;exact ⟨d,cN hd,he⟩
  ·unfold mV;exact cB _ g
 ·obtain ⟨t0,IP⟩:=vu P hj;have IP:i_ rows (fy (ts[j]).2.1)=some t0:=IP;rw[inv_split _ k,back_append,hb,aA] at IP;exact ⟨t0,IP⟩
theorem SX {rows t:List Row} {ts:List Tx} {n:Int} (h:gq (rows,ts,n,())=0) {j:Nat} (hj:j < ts.length) (hb:i_ rows (fy (ts[j]).2.1)=some t):gq (t,ts.take j++ts.drop (j+1),n,())=0:=by
 have P:=lc h;have R:xW ts:=DD P.vK;have T:wd ts:=rR P.vK;have Cc:=IE h;simp only at Cc;have gb:ts[j] ∈ ts:=aJ hj;have hx:=(R.each _ gb).2;have t_:=T.ch _ gb;have hg:=(ym _ _ _ P.tZ (qd t_) hb).1
 have xH:sP t (ts.take j++ts.drop (j+1))<=12:=by
  refine bI (AN λq hq=>?_) P.room;unfold mV at hq;rcases bG.1 hq with g | g
  ·exact Ob P.tZ gb hx t_ (λc hc=>by
    obtain ⟨d,hd,he⟩:=zP hc
    exact ⟨d,hd,he⟩) hb q g
  ·unfold mV;refine cB _ ?_;unfold flatK at g ⊢;obtain ⟨x,hx,hm⟩:=cG.1 g;exact cG.2 ⟨x,CZ hx,hm⟩
 have hlen:t.length<=12:=bI (Dx (xs:=ts.take j++ts.drop (j+1)) hg.1) (by unfold sP at xH;exact xH);refine F8 hg hlen (L4 (N9 R hj)) P.next (N_ R Cc j) xH λx hx=>?_
 have:∃ (i:Nat) (hi:i < ts.length),i≠j/\ts[i]=x:=by
  rcases bG.1 hx with g | g
  ·obtain ⟨i,hi,rfl⟩:=bL g;rw[cO] at hi;exact ⟨i,by omega,by omega,by rw[gD]⟩
  ·obtain ⟨i,hi,rfl⟩:=bL g;rw[bU] at hi;exact ⟨j+1+i,by omega,by omega,by rw[gA]⟩
 obtain ⟨i,hi,je,rfl⟩:=this;obtain ⟨t1,ht1⟩:=vu P hi;exact zk (K:=λk=>∃ c ∈ fy (ts[i]).2.1,ck c=k) _ rows t t1 P.tZ hg (qd (T.ch _ (aJ hi))) (λc hc=>⟨c,hc,rfl⟩) (Jo P.tZ P.vK hi hj je (λc hc=>hc) hb) ht1
end OT
namespace OT
open Go
theorem aaA {ks:List Key} (hk:∀ k ∈ ks,xM k=true) (hn:ks.Nodup):vI ks=0:=by
 have main:∀ (ys pre:List Key),pre++ys=ks->bt (λi (_:Unit) k=>if qU ks i k=0 then .inr () else .inl (qU ks i k)) (λ_=>(0:Int)) pre.length ys ()=0:=by
  intro ys
  induction ys with
  | nil=>intro pre _;rfl
  | cons y ys ih=>
   intro pre hp
   have h1:qU ks pre.length y=0:=by
    unfold qU;have hy:y ∈ ks:=by rw[<-hp];exact cB _ bF
    have ht:ks.take pre.length=pre:=by rw[<-hp,List.take_left]
    have hx:jk pre y=false:=by
     cases hh:jk pre y with
     | false=>rfl
     | true=>
      have hm:=nY.1 hh;rw[<-hp,dF] at hn;exact absurd rfl (hn.2.2 y hm y bF)
    rw[aG (hk y hy),ht,hx];rfl
   simp only[bt];rw[aG h1];have:=ih (pre++[y]) (by rw[bT];exact hp)
   rwa [bK,aZ,bR] at this
 exact main ks [] rfl
theorem WA {rows:List Row} {ts:List Tx} {n:Int} {o:Op} (h:gq (rows,ts,n,())=0) (CB:i7 o.2.2.1=0) {j:Nat} (hj:j < ts.length) (AK:(ts[j]).1=o.2.1) (ht:(sK rows ts o).2.1=true) :
  gq (qc rows (df rows o).1,ts.set j (vt ts[j] (df rows o).1),n,())=0:=by
 have P:=lc h;have R:xW ts:=DD P.vK;have T:wd ts:=rR P.vK;have gb:ts[j] ∈ ts:=aJ hj;have hx:=(R.each _ gb).2;have X:=aaz hx;have t_:=T.ch _ gb;obtain ⟨r1,r2,r3,r4,r5,r6⟩:=DB ht;obtain ⟨w1,w2,w3,w4⟩:=BB P.tZ CB r2;simp only at w1 w2 w3;have hq:kg (df rows o).1=(o.2.2.1.1,o.2.2.1.2.1,()):=by unfold kg;rw[w2];rfl
 have pA:Dp (df rows o).1=0:=by
  unfold Dp;rw[aG w1,Bool.and_assoc,aL (by rw[r5];decide)]
 generalize (df rows o).1=c at *;have PD:¬ (o.2.2.1.2.1=0):=by have:=Ry CB;omega
 have hkb:xM (o.2.2.1.1,o.2.2.1.2.1,())=true:=by
  grind [i7,xM]
 obtain ⟨q,hqe⟩:∃ q:Key,q=(o.2.2.1.1,o.2.2.1.2.1,()):=⟨_,rfl⟩
 have LL:∀ x ∈ ts,x.1≠o.2.1->q ∉ (x.2.2.2.1:List Key):=λx xA je hm=>by
  have:Bz ts o.2.1 (o.2.2.1.1,o.2.2.1.2.1,())=true:=by
   unfold Bz;rw[eG];refine ⟨x,xA,?_⟩
   rw[bD je,cI,eJ,eG];exact ⟨q,hm,by rw[hqe];unfold zn;rw[aY rfl,iP]⟩
  rw[this] at r1;cases r1
 have Tr:∀ i (hi:i < ts.length),i≠j->(ts[i]).1≠o.2.1:=λi hi je=>by
  rw[<-AK];rcases fV je with h1 | h1
  ·have:=bN.1 R.H9 i j hi hj h1;omega
  ·have:=bN.1 R.H9 j i hj hi h1;omega
 rw[<-hqe] at hq hkb r3;have hq0:¬ q.2.1=0:=by rw[hqe];exact PD
 have ada:((ck c).1,(ck c).2,())=q:=hq
 obtain ⟨L,hL⟩:∃ L,L=(if jk (ts[j]).2.2.2.1 (kg c) then (ts[j]).2.2.2.1 else (ts[j]).2.2.2.1++[kg c]):=⟨_,rfl⟩
 have YZ:∀ k,k ∈ L↔k ∈ (ts[j]).2.2.2.1\/k=q:=λk=>by
  rw[hL,hq];split
  ·rename_i hh;have:=nY.1 hh;constructor
   ·exact .inl
   ·rintro (h1 | h1)
    ·exact h1
    ·rw[h1];exact this
  ·rw[bG,bE]
 have EP:=zp hj;have ut:=R.apart
 have Bd:flatK (ts.set j (vt ts[j] c))=flatK (ts.take j)++(L++flatK (ts.drop (j+1))):=by
  rw[Km hj,hL];rfl
 have adb:q ∉ flatK (ts.take j)/\q ∉ flatK (ts.drop (j+1)):=by
  unfold flatK;constructor
  ·intro hm;obtain ⟨x,xA,hm⟩:=cG.1 hm;obtain ⟨i,hi,rfl⟩:=bL xA;rw[cO] at hi;rw[gD] at hm;exact LL _ (aJ Bys) (Tr i Bys Bys) hm
  ·intro hm;obtain ⟨x,xA,hm⟩:=cG.1 hm;obtain ⟨i,hi,rfl⟩:=bL xA;rw[bU] at hi;rw[gA] at hm;exact LL _ (aJ Bys) (Tr (j+1+i) Bys Bys) hm
 have aaB:(flatK (ts.take j)++(L++flatK (ts.drop (j+1)))).Nodup:=by
  rw[hL,hq];rw[EP] at ut;split
  ·exact ut
  ·rename_i hh;have Tm:q ∉ (ts[j]).2.2.2.1:=λhm=>hh (nY.2 hm)
   have hp:(flatK (ts.take j)++((ts[j]).2.2.2.1++[q]++flatK (ts.drop (j+1)))).Perm (q::(flatK (ts.take j)++((ts[j]).2.2.2.1++flatK (ts.drop (j+1))))):=by
    rw[show flatK (ts.take j)++((ts[j]).2.2.2.1++[q]++flatK (ts.drop (j+1)))=(flatK (ts.take j)++(ts[j]).2.2.2.1)++q::flatK (ts.drop (j+1)) by simp,<- bT];exact gK
   rw[hp.nodup_iff,cL];refine ⟨λhm=>?_,ut⟩
   rcases bG.1 hm with g | g
   ·exact adb.1 g
   ·rcases bG.1 g with g | g
    ·exact Tm g
    ·exact adb.2 g
 have hLn:L.Nodup:=by
  rw[dF] at aaB;exact (dF.1 aaB.2.1).1
 have aeX:L.length<=12:=by
  refine bI (Es L (dd [] (mV rows ts++Ep q)) hLn λk hk=>?_) (by unfold zi at r3;exact_mod_cast r3);rw[HH];right;rw[bG];rcases (YZ k).1 hk with g | g
  ·left;unfold mV;refine cB _ ?_;rw[EP];exact cB _ (dL _ g)
  ·right;unfold Ep;rw[aL hq0,g];exact bE.2 rfl
 have adc:vI L=0:=aaA (λk hk=>by
  rcases (YZ k).1 hk with g | g
  ·exact T.keys _ gb k g
  ·rw[g];exact hkb) hLn
 have hqL:q ∈ L:=(YZ q).2 (.inr rfl)
 have hy:t8 (vt ts[j] c)=0:=by
  have e:vt ts[j] c=((ts[j]).1,(ts[j]).2.1++[c],(ts[j]).2.2.1,L,()):=by unfold vt;rw[hL]
  rw[e];refine Wx ⟨λd hd=>?_,X.ml,aeX,?_,adc⟩
  ·rcases bG.1 hd with g | g
   ·have h1:=X.s8 d g;unfold wc at h1 ⊢;split at h1
    ·rename_i h2;split at h1
     ·rename_i h3;rw[aG h2,aG (nY.2 ((YZ _).2 (.inl (nY.1 h3))))]
     ·cases h1
    ·rename_i h2;exact absurd h1 h2
   ·rw[bE] at g;subst g;unfold wc;rw[aG pA,hq,aG (nY.2 hqL)]
  ·exact L6 (by rw[bK];omega) _ 0 0 X.marks
 have IX:=sk P.tZ w1;have hdm:=λr=>vn (xs:=rows) P.tZ.1 c r;obtain ⟨i1,i2⟩:=aaw P.tZ w1 w3;have hnk:c.2.2.1=true->rk c.2.2.2.1=ck c:=(po w1).1;have afw:oF ts < 12:=r4;refine Ia h hj IX rfl hy (by rw[Bd];exact aaB) ?_ ?_ ?_ λi hi je=>?_
 ·show (((ts[j]).2.1++[c]).length:Int)+oF ts<=_;rw[bK,aZ,bR];omega
 ·refine bI (aax (q:=q) hq0 λk hk=>?_) (by exact_mod_cast r3);unfold mV at hk ⊢;rw[Bd] at hk;rcases bG.1 hk with g | g
  ·unfold tI at g;obtain ⟨r,hr,rfl⟩:=dQ.1 g;rcases (hdm r).1 hr with g1 | g1
   ·exact .inl (dL _ (dQ.2 ⟨r,g1.1,rfl⟩))
   ·right;have:=hnk g1.1;rw[<-ada,<- this,g1.2];rfl
  ·rcases bG.1 g with g | g
   ·left;rw[EP];exact cB _ (dL _ g)
   ·rcases bG.1 g with g | g
    ·rcases (YZ k).1 g with g | g
     ·left;rw[EP];exact cB _ (cB _ (dL _ g))
     ·exact .inr g
    ·left;rw[EP];exact cB _ (cB _ (cB _ g))
 ·obtain ⟨t0,IP⟩:=vu P hj
  have e:fy (vt ts[j] c).2.1=vq c::fy (ts[j]).2.1:=by
   show fy ((ts[j]).2.1++[c])=_;unfold fy;rw[gT];rfl
  rw[e];refine ⟨t0,?_⟩
  simp only[i_];rw[aG i1,i2];exact IP
 ·intro r hr;obtain ⟨d,hd,hdk⟩:=hr
  have ade:rk r≠ck c:=λhe=>by
   obtain ⟨d0,YT,rfl⟩:=zP hd;have aaC:ts[i] ∈ ts:=aJ hi;have hl:=nY.1 (DA (R.each _ aaC).2 d0 YT);have hk0:=HV (T.ch _ aaC d0 YT);refine LL _ aaC (Tr i hi je) ?_;have:kg d0=q:=by unfold kg;rw[<-hk0,hdk,he];exact ada
   rw[<-this];exact hl
  rw[hdm];constructor
  ·exact λh1=>.inl ⟨h1,ade⟩
  ·rintro (h1 | h1)
   ·exact h1.1
   ·exact absurd (by rw[h1.2];exact hnk h1.1) ade
end OT
namespace OT
open Go
theorem DE {add:Bool} {kind tx:Int}:∀ (cs:List Change) (q p:bk×Log),nI q->(∀ c ∈ cs,kI c=0)->kJ add kind tx cs q=.inr p->ba p.1=cs.foldl qc (ba q.1)
 | [],q,p,_,_,e=>by injection e with e;rw[<-e];rfl
 | c::cs,q,p,hq,hc,e=>by
  simp only[kJ] at e;by_cases h0:(jG q.1 c).1=0
  ·rw[aG h0] at e;have yK:=hc c bF
   cases he:nH add kind tx (jG q.1 c).2.1 q with
   | inl x=>rw[he] at e;cases e
   | inr q1=>
    rw[he] at e;obtain ⟨hg,h1⟩:=zj hq yK h0 he;rw[DE cs q1 p hg (λd hd=>hc d (aX _ hd)) e,h1,(NT hq.1 yK h0).2];rfl
  ·rw[aL h0] at e;cases e
theorem Ic:∀ (cs:List Change) (s t:List Row),i_ s cs=some t->t=cs.foldl qc s
 | [],s,t,h=>by injection h with h;rw[<-h];rfl
 | c::cs,s,t,h=>by
  simp only[i_] at h;split at h
  ·exact Ic cs _ t h
  ·cases h
def AP (E:Sum Int (Int×az)):Prop:=∀ v s',E=.inr (v,s')->gq (ba s'.2.1,s'.2.2.2.1,s'.2.2.2.2.1,())=0
section
variable {S:az} {v:Int}
theorem zq (c:Int):AP (.inl c):=λv s' h=>by cases h
theorem vx (h:gq (ba S.2.1,S.2.2.2.1,S.2.2.2.2.1,())=0):AP (.inr (v,S)):=λv' s' e=>by
 cases e;exact h
theorem L7 {r:bq} (h:gq (ba S.2.1,S.2.2.2.1,S.2.2.2.2.1,())=0):AP (D2 v S r):=by
 unfold D2
 cases ha:ng S.2.2.1 r with
 | none=>exact zq _
 | some l=>exact vx (S:=(S.1,S.2.1,l,S.2.2.2)) h
theorem WB {r:bq} (h:gq (ba S.2.1,S.2.2.2.1,S.2.2.2.2.1,())=0):AP (H6 S r):=by
 unfold H6
 cases ha:ng S.2.2.1 r with
 | none=>exact zq _
 | some l=>exact vx (S:=(S.1,S.2.1,qe l,S.2.2.2)) h
theorem WC (h:gq (ba S.2.1,S.2.2.2.1,S.2.2.2.2.1,())=0):AP (H7 S):=by
 unfold H7
 cases ha:wg 0 S.2.1 S.2.2.1 with
 | inl _=>exact zq _
 | inr l=>exact vx (S:=(S.1,S.2.1,qe l,S.2.2.2)) h
theorem Id {ps:bk} {l:Log} {kind tx:Int} {cs:List Change} {f:bk×Log->Sum Int (Int×az)} (h:∀ p,kJ true kind tx cs (ps,l)=.inr p->AP (f p)):AP (Gt ps l kind tx cs f):=by
 unfold Gt
 cases hd:kJ true kind tx cs (ps,l) with
 | inl p=>exact zq _
 | inr p=>exact h p hd
end
section
variable {ps:bk} {l:Log} {ts:List Tx} {n:Int} {o:Op} (hq:nI (ps,l)) (hp:NZ (ba ps,ts,n,())) (h:gq (ba ps,ts,n,())=0) (h2:(jm (ba ps) ts o).1=0) (hW:pu (ps,l))
include hq hp h h2 hW
theorem Y0:∃ E,Ends (true,ps,l,ts,n,()) o (jm (ba ps) ts o) E/\AM E/\AP E:=by
 have P:=lc h;obtain ⟨c1,c2,c3⟩:qP o=0/\dm o.1 1 9=true/\jm (ba ps) ts o=rO (ba ps) ts o:=AL P h2;have R:xW ts:=DD P.vK;have T:wd ts:=rR P.vK;have hF:=h2;rw[c3] at hF;have hn:dm n 1 100=true:=P.next;rw[vS] at hn;by_cases k1:o.1=1
 ·refine ⟨_,N5 hq hp h h2 k1,?_,?_⟩
  ·split
   ·exact zo _
   ·exact LZ (.inl rfl) Bys rfl hW
  ·split
   ·exact zq _
   ·rename_i RD;refine L7 (SW h RD ?_);unfold rO at hF;rw[aG k1] at hF;split at hF
    ·cases hF
    ·rename_i hl
     simpa using hl
 by_cases k9:o.1=9
 ·exact ⟨_,N7 hq hp h h2 k9,Wt (yn hq.1) rfl hW,WC h⟩
 have hna:¬ tJ ts o.2.1 < 0:=λhn=>by
  unfold rO at hF;rw[aL k1,aL k9,aG hn] at hF;cases hF
 obtain ⟨j,hj,ii,AK⟩:=at_mem hna;have hm:ts[j] ∈ ts:=aJ hj;have Q9:1<=o.2.1/\o.2.1<=99:=by rw[<-AK];exact vS.1 (R.each _ hm).1
 by_cases k5:o.1=5
 ·obtain ⟨e,Uo⟩:=RF hq hp h h2 k5 hj ii;exact ⟨_,e,vw rfl hW,vx (Wz h hj Uo)⟩
 by_cases k6:o.1=6
 ·obtain ⟨m,k,⟨hmk,hkl⟩,e,hg⟩:=RG hq hp h h2 k6 hj ii;have Eu:∀ c ∈ (ts[j]).2.1.drop k,kI c=0:=λc hc=>T.ch _ hm c (cN hc);obtain ⟨t0,IP⟩:=vu P hj;obtain ⟨t,ht⟩:=YR IP k;refine ⟨_,e,H8 (.inr rfl) Q9 hq (qd Eu) hW λp Y1=>vw rfl Y1,Id λp hd=>vx ?_⟩
  have hr:=DE _ _ p hq (qd Eu) hd;have hb:=Ic _ _ _ ht;show gq (ba p.1,_,_,())=0;rw[hr,<- hb];exact YY h hj hmk hkl ht
 by_cases k7:o.1=7
 ·exact ⟨_,LX hq hp h h2 k7 hj ii AK,Ws (.inr (.inl rfl)) Q9 rfl hW,WB (Ww h hj)⟩
 by_cases k8:o.1=8
 ·obtain ⟨e,hg⟩:=N6 hq hp h h2 k8 hj ii AK;have Eu:=T.ch _ hm;obtain ⟨t,ht⟩:=vu P hj;refine ⟨_,e,H8 (.inr rfl) Q9 hq (qd Eu) hW λp Y1=>LZ (.inr (.inr rfl)) Q9 rfl Y1,Id λp hd=>L7 ?_⟩
  have hr:=DE _ _ p hq (qd Eu) hd;have hb:=Ic _ _ _ ht;show gq (ba p.1,_,_,())=0;rw[hr,<- hb];exact SX h hj ht
 have Rx:uN o.1=true:=by
  rw[vS] at c2;have:o.1=2\/o.1=3\/o.1=4:=by omega
  unfold uN
  simpa using this
 cases vv:(jm (ba ps) ts o).2.1 with
 | false=>exact ⟨_,RH hq hp h h2 k1 k5 k6 k7 k8 k9 vv,vw rfl hW,vx h⟩
 | true=>
  obtain ⟨e,hg,hc⟩:=RI hq hp h h2 Rx hj ii AK vv;have CB:=IA c1 Rx
  have HU:(sK (ba ps) ts o).2.1=true:=by
   have hFF:rO (ba ps) ts o=sK (ba ps) ts o:=by
    unfold rO;rw[aL k1,aL k9,aL hna,aL k5,aL k6,aG Rx]
   rw[<-hFF,<- c3];exact vv
  obtain ⟨r1,r2,_⟩:=DB HU;obtain ⟨w1,_⟩:=BB P.tZ CB r2;have jX:∀ d ∈ [(df (ba ps) o).1],kI d=0:=λd hd=>by rw[bE] at hd;rw[hd];exact w1
  have GQ:ul ts j (df (ba ps) o).1=ts.set j (vt ts[j] (df (ba ps) o).1):=by
   unfold ul;rw[aB hj]
  refine ⟨_,e,H8 (.inl rfl) Q9 hq jX hW λp Y1=>vw rfl Y1,Id λp hd=>vx ?_⟩
  have hr:=DE _ _ p hq jX hd;show gq (ba p.1,ul ts j _,_,())=0;rw[hr,GQ];exact WA h CB hj AK HU
end
end OT
namespace OT
open Go
theorem Y2 {s:az} {o:Op} {C:br} {v:Int} {s':az} {E:Sum Int (Int×az)} (h1:Ends s o C (.inr (v,s'))) (h2:Ends s o C E):E=.inr (v,s'):=by
 obtain ⟨r,a1,a2⟩:=h1.impl;obtain ⟨r',b1,b2⟩:=h2.impl;rw[a1] at b1;injection b1 with b1;subst b1;have a2:r=(v,(0:Int),s',()):=a2;subst a2
 cases E with
 | inl c=>
  obtain ⟨e,je⟩:=b2;exact absurd e.symm je
 | inr p=>
  have b2:(v,(0:Int),s',())=(p.1,(0:Int),p.2,()):=b2;injection b2 with e1 e2;injection e2 with _ e2;injection e2 with e2 _;rw[e1,e2]
def M3 (s:eu) (R:se):eu:=if R.1=0 then (s.1,s.2.1++[R.1],s.2.2.1++[R.2.1],R.2.2.1,s.2.2.2.2) else (s.1,s.2.1++[R.1],s.2.2.1++[R.2.1],s.2.2.2)
noncomputable def zS (s:eu) (o:Op):eu:=match mq.ab (s.2.2.2.1,o,()) with
 | some R=>M3 s R.1
 | none=>s
abbrev st0:az:=(true,([]:List (List UInt8)),(([]:List UInt8),([]:List UInt8),()),([]:List Tx),(1:Int),())
abbrev OS:eu:=((0:Int),([]:List Int),([]:List Int),st0,())
noncomputable def wu (xs:List Op):eu:=if 60 < xs.length then ((2:Int),([]:List Int),([]:List Int),(false,([]:List (List UInt8)),(([]:List UInt8),([]:List UInt8),()),([]:List Tx),(0:Int),()),()) else xs.foldl zS OS
structure OU (i:Nat) (s:az):Prop where
 ok:okS s
 up:s.1=true
 right:xF s=0
 small:zz (.aa bp) s.2.2.2.1<=3000*i
def F9 (i:Nat) (s:eu):Prop:=List.length s.2.1=i/\List.length s.2.2.1=i/\OU i s.2.2.2.1
theorem aaD {i:Nat} {s:az} {o:Op} {R:se} (h:OU i s) (ho:rl o.2.2.1) (hd:aba s o R) (h0:R.1=0):OU (i+1) R.2.2.1:=by
 obtain ⟨d1,d2,d3,d4,d5,d6⟩:=hd h0;obtain ⟨hq,hP⟩:=Kg h.right h.up;have hW:=ST h.right h.up;have hsm:=h.small;have bd:=h.ok;obtain ⟨c,v,s',⟨⟩⟩:=R;obtain ⟨u,ps,l,ts,n,⟨⟩⟩:=s;simp only at d1 d2 d3 d4 d5 d6 hq hP hW hsm;subst d1;obtain ⟨E,e1,e2,e3⟩:=Y0 hq (Rn bd hq.1) hP d2 hW;have hE:=Y2 d3 e1;subst hE;obtain ⟨w1,w2⟩:=e2 v s' rfl;have w3:=e3 v s' rfl;obtain ⟨u',vG,l',zs,n',⟨⟩⟩:=s';simp only at w1 w2 w3 d4 d5 d6;refine ⟨⟨?_,?_,d5⟩,w1,SV w1 d4.1 w3 w2,?_⟩
 ·exact HL d4.2
 ·exact λp hp=>Kc d4.1 p hp
 ·show zz (.aa bp) zs<=_;omega
theorem AQ {i:Nat} {s:eu} {o:Op} (h:F9 i s) (ho:rl o.2.2.1):∃ R,mq.ab (s.2.2.2.1,o,())=some (R,())/\oV.ab (s.2.2.2.1,o,())=some (R,())/\zS s o=M3 s R/\F9 (i+1) (M3 s R):=by
 obtain ⟨h1,h2,h3⟩:=h;obtain ⟨R,r1,r2,_,r4⟩:=ac9 h3.ok ho h3.right;refine ⟨R,r1,r2,?_,?_⟩
 ·unfold zS;rw[r1]
 ·unfold M3 F9;split
  ·rename_i h0;simp only[bK,aZ,bR];exact ⟨by omega,by omega,aaD h3 ho r4 h0⟩
  ·simp only[bK,aZ,bR];exact ⟨by omega,by omega,h3.ok,h3.up,h3.right,by have:=h3.small;omega⟩
theorem M4:OU 0 st0:=by
 refine ⟨⟨⟨aW _,aW _⟩,λp hp=>(by cases hp),aW _,λx hx=>(by cases hx)⟩,rfl,?_,aH _⟩
 decide +kernel
theorem SY (xs:List Op) (hx:xs.length<=1048576) (h:∀ o ∈ xs,rl o.2.2.1):kH.ab (xs,())=some (wu xs,()):=by
 refine ag (k:=100) λk hk=>(kH.ae k _).trans ?_;unfold kH.p wu;rw[show (60:Int)=((60:Nat):Int) from rfl];simp only[aa4];by_cases hl:60 < xs.length
 ·simp[hl]
 simp only[hl,aI,aF,aR]
 have:=c8 (B:=λself v=>kH.b0 self (λz=>kH.q0 (xs,()) z) (xs,()) v) xs (λ(s:eu) (i:Int)=>(s,i)) (λ_ s o=>.inr (zS s o)) (λs=>(s,())) F9 (by rw[ao];omega)
  (λi hi s self hI=>by
   show kH.b0 _ _ _ _=_;obtain ⟨R,r1,r2,he,hn⟩:=AQ hI (h _ (aJ hi));unfold kH.b0;have a7:(i:Int) < (xs.length:Int):=by omega
   have c1:∀ y:Int,s.2.1.length+[y].length<=cg:=λy=>c9 (by have:=hI.1;simp only[aZ,bR];omega);have c2:∀ y:Int,s.2.2.1.length+[y].length<=cg:=λy=>c9 (by have:=hI.2.1;simp only[aZ,bR];omega);simp only[a7,aO,aS,aN,aK,aC,aB hi,aA,r1,he,c1,c2];unfold M3;by_cases hR:R.1=0
   ·simp only[hR,aO,aS,aK]
   ·simp only[hR,aI,aF,aR])
  (λi hi s s' hI hf=>by
   injection hf with hf;subst hf;obtain ⟨R,r1,r2,he,hn⟩:=AQ hI (h _ (aJ hi))
   rw[he];exact hn) (λs self _=>by
   show kH.b0 _ _ _ _=_;unfold kH.b0;simp only[aV,aI,aF]
   rfl) OS ⟨rfl,rfl,M4⟩ k Bys
 rw[ic] at this;exact this
theorem SZ (xs:List Op) (hx:xs.length<=1048576) (h:∀ o ∈ xs,rl o.2.2.1):lj.ab (xs,())=some (wu xs,()):=by
 refine ag (k:=100) λk hk=>(lj.ae k _).trans ?_;unfold lj.p wu;rw[show (60:Int)=((60:Nat):Int) from rfl];simp only[aa4];by_cases hl:60 < xs.length
 ·simp[hl]
 simp only[hl,aI,aF,aR]
 have:=c8 (B:=λself v=>lj.b0 self (λz=>lj.q0 (xs,()) z) (xs,()) v) xs (λ(s:eu) (i:Int)=>(s,i)) (λ_ s o=>.inr (zS s o)) (λs=>(s,())) F9 (by rw[ao];omega)
  (λi hi s self hI=>by
   show lj.b0 _ _ _ _=_;obtain ⟨R,r1,r2,he,hn⟩:=AQ hI (h _ (aJ hi));unfold lj.b0;have a7:(i:Int) < (xs.length:Int):=by omega
   have c1:∀ y:Int,s.2.1.length+[y].length<=cg:=λy=>c9 (by have:=hI.1;simp only[aZ,bR];omega);have c2:∀ y:Int,s.2.2.1.length+[y].length<=cg:=λy=>c9 (by have:=hI.2.1;simp only[aZ,bR];omega);simp only[a7,aO,aS,aN,aK,aC,aB hi,aA,r2,he,c1,c2];unfold M3;by_cases hR:R.1=0
   ·simp only[hR,aO,aS,aK]
   ·simp only[hR,aI,aF,aR])
  (λi hi s s' hI hf=>by
   injection hf with hf;subst hf;obtain ⟨R,r1,r2,he,hn⟩:=AQ hI (h _ (aJ hi))
   rw[he];exact hn) (λs self _=>by
   show lj.b0 _ _ _ _=_;unfold lj.b0;simp only[aV,aI,aF]
   rfl) OS ⟨rfl,rfl,M4⟩ k Bys
 rw[ic] at this;exact this
theorem Oc:∀ (xs:List Op) (i:Nat) (s:eu),(∀ o ∈ xs,rl o.2.2.1)->F9 i s->F9 (i+xs.length) (xs.foldl zS s)
 | [],_,_,_,h=>h
 | o::xs,i,s,hr,h=>by
  obtain ⟨R,_,_,he,hn⟩:=AQ h (hr o bF);rw[eD,he];have:=Oc xs (i+1) _ (λo ho=>hr o (aX _ ho)) hn;rw[aZ,show i+(xs.length+1)=i+1+xs.length by omega];exact this
theorem WD (xs:List Op) (h:∀ o ∈ xs,rl o.2.2.1):zz jy (wu xs)<=1000000:=by
 have hz:∀ s:eu,zz jy s=0+(zz (.aa i64) s.2.1+(zz (.aa i64) s.2.2.1+(zz dc s.2.2.2.1+0))):=λ_=>rfl
 have hi:∀ l:List Int,zz (.aa i64) l=l.length:=λl=>by
  induction l with
  | nil=>rfl
  | cons x l ih=>rw[Mx (e:=i64),ih,aZ];show 0+1+_=_;omega
 unfold wu;split
 ·exact aW _
 ·obtain ⟨h1,h2,h3⟩:=Oc xs 0 OS h ⟨rfl,rfl,M4⟩;have h4:=Uk (Kg h3.right h3.up).1;have h5:=h3.small;rw[hz,hi,hi];omega
theorem Ov (v:f_.A) (hv:XB f_.ps v):f_.ab v=some (true,()):=by
 obtain ⟨ops,⟨⟩⟩:=v;obtain ⟨Y3,_⟩:=hv;refine ag (k:=0) λk _=>(f_.ae k _).trans ?_;show f_.p _=_;unfold f_.p;simp only[ZQ ops 1048576 Y3 (show (0:Int)<=1048576 by omega) Bys,aA];by_cases GP:((zz (.aa il) ops:Nat):Int)<=1048576;rotate_left
 ·have:wB (1048576) (zz (.aa il) ops)=-1:=aL GP;simp only[this];rfl
 have e1:wB (1048576) (zz (.aa il) ops)=1048576 - ((zz (.aa il) ops:Nat):Int):=aG GP;have n1:¬ (1048576 - ((zz (.aa il) ops:Nat):Int) < 0):=by omega
 have hl:ops.length<=1048576:=bI (P7 (e:=il) ops) Bys;have hr:∀ o ∈ ops,rl o.2.2.1:=λo ho=>ad8 (Y3.2 o ho).2.2.1;have hR:=WD ops hr;have hB:qj=4611686018427387904:=rfl;obtain ⟨k',y,a1,a2,a3,a4⟩:=VH (wu ops) 1 Bys Bys;obtain ⟨l1,w1,b1,c1,d1⟩:=ad7 ops 1 Bys Bys;simp only[e1,n1,aI,aF,ZR ops Bys,SZ ops hl hr,SY ops hl hr,Lc (wu ops) Bys,a1,a2,show ¬ k' < 0 by omega,VG ops Bys,b1,show ¬ l1 < 0 by omega,aA,aU,aO,aS]
end OT
