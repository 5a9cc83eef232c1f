/- FnExactWorldFault: the row; no conditions. -/
import Derived.Test.YtachfnbfagcplaaGreatSg
import Derived.Test.YtachfnbfagcplaaGreatRows
set_option linter.unusedVariables false
set_option linter.unusedSimpArgs false
namespace OT
open Go Go.Sort
theorem K6 (z:List Seen) (hl:z.length<=1000):∃ r:List Seen,(∀ f:Nat×Int,iM.ab (z,f,())=some (r,()))/\r.Perm z/\r.Pairwise fun x y=>qK y x=false:=by
 have hs:SWO (Go.Proofs.ltOf FU):=by rw[JD];exact RD
 have h1:=Dc (e:=cY) (cs:=iB.ab) (cf:=FU) (fun x y=>K4 x y) hs z (cQ (Nat.le_trans hl (by omega)))
 have Y:=Dd (α:=cY.den) (lt:=Go.Proofs.ltOf FU) hs z
 refine ⟨_,fun f=>?_,Y.1,?_⟩
 ·show (p_ cY iB.ab z).map (fun r=>(r,()))=_
  rw[h1]
  rfl
 ·exact Y.2.imp fun {x y} (h:Go.Proofs.ltOf (α:=Seen) FU y x=false)=>by rw[JD] at h;exact h
theorem DF {O:Type} (r:List Seen) (bad e:O):∀ (l pre:List Seen) (x:Seen),r=pre++x::l->aV (fun i (_:Unit) y=>if (match r[i]? with | some z=>qK z y | none=>true) then .inr () else .inl bad) (fun _=>e) pre.length l ()=if s_ (x::l) then e else bad
 | [],pre,x,_=>by simp[aV,s_]
 | y::l,pre,x,h=>by
  have hx:r[pre.length]?=some x:=by rw[h,List.getElem?_append_right (Nat.le_refl _)];simp
  simp only[aV,hx,s_]
  by_cases hc:qK x y=true
  rotate_left
  ·have o8:qK x y=false:=by simpa using hc
   simp only[o8,Bool.false_eq_true,if_false,Bool.false_and]
  ·simp only[hc,if_true,Bool.true_and]
   have:=DF r bad e l (pre++[x]) y (by rw[h];simp)
   rw[List.length_append] at this
   exact this
theorem K7 (ps:fL) (k:Nat) (hk:300<=k) (r:List Seen) (hl:r.length<=192):al (fun self v=>aJ.B4 k self (fun z=>aJ.Q4 k (ps,()) r z) (ps,()) r v) k 1=if s_ r then some (r,(0:Int),()) else some (([]:List Seen),(8:Int),()):=by
 have:=bL (B:=fun self v=>aJ.B4 k self (fun z=>aJ.Q4 k (ps,()) r z) (ps,()) r v) (r.drop 1) (fun (_:Unit) (i:Int)=>i+1) (fun i _ y=>if (match r[i]? with | some z=>qK z y | none=>true) then .inr () else .inl (some (([]:List Seen),(8:Int),()))) (fun _=>some (r,(0:Int),())) (fun _ _=>True) (by rw[ah,List.length_drop];omega)
  (fun i hi s self _=>by
   rw[List.length_drop] at hi
   show aJ.b4 _ _ _ _ _=_
   unfold aJ.b4
   have aj:(i:Int)+1 < (r.length:Int):=by omega
   have lR:(i:Int) < (r.length:Int):=by omega
   have wo:(0:Int)<=(i:Int)+1:=by omega
   have qn:ae ((i:Int)+1 - 1)=(i:Int):=by rw[aR (by omega)];omega
   have pj:ae ((i:Int)+1+1)=ae ((i:Int)+1)+1:=by rw[aR (by omega),aR (by omega)]
   have OE:((i:Int)+1).toNat=i+1:=by omega
   have hg:(r.drop 1)[i]'(by rw[List.length_drop];omega)=r[i+1]'(by omega):=by rw[List.getElem_drop];congr 1;omega
   rw[hg]
   simp only[aj,lR,wo,qn,pj,OE,decide_true,cond_true,Int.natCast_nonneg,and_self,if_true,Int.toNat_natCast,List.getElem?_eq_getElem (show i < r.length by omega),List.getElem?_eq_getElem (show i+1 < r.length by omega),Option.bind_some,qc]
   show (bif !qK r[i] (r[i+1]'(by omega)) then _ else _)=_
   cases qK r[i] (r[i+1]'(by omega)) <;> rfl)
  (fun _ _ _ _ _ _=>trivial) (fun s self _=>by
   rw[List.length_drop]
   show aJ.b4 _ _ _ _ _=_
   unfold aJ.b4
   have aj:¬ (((r.length - 1:Nat):Int)+1 < (r.length:Int)):=by omega
   simp only[aj,decide_false,cond_false]
   rfl) () trivial k (by rw[List.length_drop];omega)
 refine Eq.trans this ?_
 cases r with
 | nil=>rfl
 | cons x l=>
  exact DF (x::l) _ _ l [] x rfl
def sM (ps:fL):List Seen:=if jp ps=0 then uS ((jo ps).map pB) else []
def Mk (ps:fL):List Seen:=if uO ps=0 then uS ((jo ps).map pB) else []
def BN (y:Seen):Option (Int×Int):=some (y.2.2.2.2.1,y.2.2.2.2.2.1)
def sN (y:Seen):List Int×Bool:=([y.2.2.2.2.1,y.2.2.2.2.2.1],true)
theorem DG (T:List Seen) (a b:Int):rA (dA pA (T.map sN) [a,b]) false=T.any fun y=>decide (a=y.2.2.2.2.1)&&decide (b=y.2.2.2.2.2.1):=by
 induction T with
 | nil=>rfl
 | cons y T ih=>
  have hk:Ty.eq pA [a,b] (sN y).1=(decide (a=y.2.2.2.2.1)&&decide (b=y.2.2.2.2.2.1)):=tG _ _ _ _
  unfold dA at ih ⊢
  rw[List.map_cons,List.find?_cons,List.any_cons,hk]
  cases (decide (a=y.2.2.2.2.1)&&decide (b=y.2.2.2.2.2.1)) with
  | true=>rfl
  | false=>simpa using ih
theorem K8 (S:List ax):(S.flatMap bZ).filterMap BN=S.filterMap py:=by
 induction S with
 | nil=>rfl
 | cons x S ih=>
  rw[List.flatMap_cons,List.filterMap_append,ih]
  unfold bZ
  by_cases h:c_ x=1
  ·rw[if_pos h]
   have:py x=some (ju x,jv x):=by unfold py;rw[if_pos h]
   simp[List.filterMap_cons,this,BN]
  ·rw[if_neg h]
   have:py x=none:=by unfold py;rw[if_neg h]
   simp[List.filterMap_cons,this]
theorem EH (ps:fL) (h:rr ps):aJ.ab (ps,())=some (Mk ps,uO ps,()):=by
 obtain ⟨hl,hp⟩:=h.1
 have ir:=sL h.1
 refine ag (k:=300) fun k hk=>(aJ.aa k _).trans ?_
 have inner:∀ (self:(List Seen×List Seen×List (List Int×Row)×fL×Int×Int)->Option aJ.Out) (e0:(List Seen×List Seen×List (List Int×Row))->Option aJ.Out) (i:Nat) (hi:i < ps.length) (S:List ax),S.length<=16*i->(∀ x ∈ S,x.1 < (i:Int)) ->
   aJ.r1 k self e0 (ps,()) (i:Int) ps[i] ps (ps.length:Int) (pn ps[i]:Int) (S.flatMap cV,S.flatMap bZ,S.flatMap eN,(0:Int))=self ((S++mX i ps[i]).flatMap cV,(S++mX i ps[i]).flatMap bZ,(S++mX i ps[i]).flatMap eN,ps,(ps.length:Int),ae ((i:Int)+1)):=fun self e0 i hi S0 Uo ig=>by
  have aA:=hp _ (List.getElem_mem hi)
  have hn:=aA.n
  have hlen:=aA.len
  have lU:=h.2 _ (List.getElem_mem hi)
  have:=rf (B:=fun cw v=>aJ.B1 k cw (fun z=>aJ.Q0 k self e0 (ps,()) (i:Int) ps[i] ps (ps.length:Int) (pn ps[i]:Int) z) (ps,()) (i:Int) ps[i] ps (ps.length:Int) (pn ps[i]:Int) v) (pn ps[i]) (fun (S:List ax) (j:Int)=>(S.flatMap cV,S.flatMap bZ,S.flatMap eN,j)) (fun j S=>.inr (S++lh i ps[i] j)) (fun S=>self (S.flatMap cV,S.flatMap bZ,S.flatMap eN,ps,(ps.length:Int),ae ((i:Int)+1))) (fun j S=>S.length<=16*i+j/\∀ x ∈ S,x.1 < (i:Int)\/(x.1=(i:Int)/\x.2.1 < (j:Int))) (by omega)
   (fun j hj S cw ⟨Ml,DH⟩=>by
    show aJ.b1 _ _ _ _ _ _ _ _ _=_
    unfold aJ.b1 lh
    have aj:(j:Int) < (pn ps[i]:Int):=by omega
    simp only[aj,decide_true,cond_true,zq aA,hj,Bool.true_and,Option.bind_some]
    by_cases hz:aP ps[i] j=0
    ·simp only[hz,decide_true,Bool.not_true,Bool.not_false,cond_true,if_true,List.append_nil]
    ·have vX:=lU j hj hz
     obtain ⟨f1,f2⟩:=uR _ vX
     obtain ⟨l1,l2⟩:=zy S
     have kZ:∀ (T:List Seen) (y:Seen),T.length<=S.length->T.length+[y].length<=bk:=fun T y hT=>cQ (by simp only[List.length_cons,List.length_nil];omega)
     simp only[hz,decide_false,Bool.not_false,Bool.not_true,cond_false,vk aA hj,vj _ (Nat.le_trans (oq aA hj) (by omega)),vX,if_true,if_false,Option.bind_some,f1,decide_true,kZ _ _ l1,kZ _ _ l2,yf]
     obtain ⟨x,hx⟩:∃ x:ax,x=((i:Int),(j:Int),(c9 (ey ps[i] j)).1,()):=⟨_,rfl⟩
     have OI:c_ x=(c9 (ey ps[i] j)).1.2.1:=by rw[hx];rfl
     rw[<-hx]
     simp only[List.flatMap_append,List.flatMap_cons,List.flatMap_nil,List.append_nil]
     rcases f2 with g | g | g
     ·have e1:cV x=[((c9 (ey ps[i] j)).1.2.2.2.2.1,(i:Int),(j:Int),false,(i:Int),(j:Int),())]:=by unfold cV;rw[if_pos (OI.trans g),hx];rfl
      have e2:bZ x=[]:=by unfold bZ;rw[if_neg (by omega)]
      have e3:eN x=[]:=by unfold eN;rw[if_neg (by omega)]
      rw[e1,e2,e3]
      simp only[g,decide_true,cond_true,List.append_nil,List.length_cons,List.length_nil,Nat.zero_lt_succ,List.length_replicate,List.length_set,if_true]
     ·have e1:cV x=[]:=by unfold cV;rw[if_neg (by omega)]
      have e2:bZ x=[(s8,(i:Int),(j:Int),true,(c9 (ey ps[i] j)).1.2.2.1,(c9 (ey ps[i] j)).1.2.2.2.1,())]:=by unfold bZ;rw[if_pos (OI.trans g),hx];rfl
      have e3:eN x=[]:=by unfold eN;rw[if_neg (by omega)]
      rw[e1,e2,e3]
      have n1:¬ ((1:Int)=0):=by decide
      have n2:¬ ((1:Int)=2):=by decide
      simp only[g,n1,n2,decide_false,cond_false,List.append_nil,List.length_cons,List.length_nil,Nat.zero_lt_succ,List.length_replicate,List.length_set,if_true]
     ·have e1:cV x=[]:=by unfold cV;rw[if_neg (by omega)]
      have e2:bZ x=[]:=by unfold bZ;rw[if_neg (by omega)]
      have e3:eN x=[([(i:Int),(j:Int)],(c9 (ey ps[i] j)).1.2.2.2.2.1)]:=by unfold eN;rw[if_pos (OI.trans g),hx];rfl
      rw[e1,e2,e3]
      have n1:¬ ((2:Int)=0):=by decide
      have oE:gZ pA (S.flatMap eN) [(i:Int),(j:Int)] (c9 (ey ps[i] j)).1.2.2.2.2.1=S.flatMap eN++[([(i:Int),(j:Int)],(c9 (ey ps[i] j)).1.2.2.2.2.1)]:=wx pA _ _ _ fun e he=>by
       obtain ⟨y,hy,JI⟩:=List.mem_flatMap.1 he
       unfold eN at JI
       split at JI
       ·rw[List.mem_singleton] at JI
        subst JI
        rw[tG]
        rcases DH y hy with c | ⟨c,d⟩
        ·rw[decide_eq_false (show ¬ (i:Int)=y.1 by omega)];rfl
        ·rw[decide_eq_false (show ¬ (j:Int)=y.2.1 by omega),Bool.and_false]
       ·cases JI
      simp only[g,n1,decide_false,decide_true,cond_false,cond_true,oE,List.append_nil,List.length_cons,List.length_nil,Nat.zero_lt_succ,List.length_replicate,List.length_set,if_true]
      rfl)
   (fun j hj S S' ⟨Ml,DH⟩ hf=>by
    injection hf with hf
    subst hf
    have:(lh i ps[i] j).length<=1:=by unfold lh;split <;> simp
    refine ⟨by rw[List.length_append];omega,fun x hx=>?_⟩
    rcases List.mem_append.1 hx with hx | hx
    ·rcases DH x hx with c | ⟨c,d⟩
     ·exact .inl c
     ·exact .inr ⟨c,by omega⟩
    ·unfold lh at hx
     split at hx
     ·cases hx
     ·rw[List.mem_singleton] at hx
      subst hx
      exact .inr ⟨rfl,by show (j:Int) < ((j+1:Nat):Int);omega⟩) (fun S cw hI=>by
    show aJ.b1 _ _ _ _ _ _ _ _ _=_
    unfold aJ.b1
    simp only[Int.lt_irrefl,decide_false,cond_false]
    rfl) S0 ⟨by omega,fun x hx=>.inl (ig x hx)⟩ k (by omega)
  rw[uI (lh i ps[i])] at this
  exact this
 have outer:aJ.r0 k (ps,()) (([]:List Seen),([]:List Seen),([]:List (List Int×Row)),ps,(ps.length:Int),(0:Int))=aJ.Q1 k (ps,()) ((aT ps).flatMap cV,(aT ps).flatMap bZ,(aT ps).flatMap eN):=by
  have:=bL (B:=fun self v=>aJ.B0 k self (fun z=>aJ.Q1 k (ps,()) z) (ps,()) v) ps (fun (S:List ax) (i:Int)=>(S.flatMap cV,S.flatMap bZ,S.flatMap eN,ps,(ps.length:Int),i)) (fun i S p=>.inr (S++mX i p)) (fun S=>aJ.Q1 k (ps,()) (S.flatMap cV,S.flatMap bZ,S.flatMap eN)) (fun i S=>S.length<=16*i/\∀ x ∈ S,x.1 < (i:Int)) (by rw[ah];omega)
   (fun i hi S self ⟨Ml,DH⟩=>by
    show aJ.b0 _ _ _ _ _=_
    unfold aJ.b0
    have aj:(i:Int) < (ps.length:Int):=by omega
    have hlen:=(hp _ (List.getElem_mem hi)).len
    simp only[aj,decide_true,cond_true,Int.natCast_nonneg,if_true,Int.toNat_natCast,List.getElem?_eq_getElem hi,Option.bind_some,sI hlen,inner self _ i hi S Ml DH])
   (fun i hi S S' ⟨Ml,DH⟩ hf=>by
    injection hf with hf
    subst hf
    have:=s9 (hp _ (List.getElem_mem hi)) i
    refine ⟨by rw[List.length_append];omega,fun x hx=>?_⟩
    rcases List.mem_append.1 hx with hx | hx
    ·have:=DH x hx;omega
    ·obtain ⟨s,_,hs⟩:=List.mem_flatMap.1 hx
     unfold lh at hs
     split at hs
     ·cases hs
     ·rw[List.mem_singleton] at hs
      subst hs
      show (i:Int) < ((i+1:Nat):Int)
      omega) (fun S self hI=>by
    show aJ.b0 _ _ _ _ _=_
    unfold aJ.b0
    simp only[Int.lt_irrefl,decide_false,cond_false]) [] ⟨by simp,fun x hx=>by cases hx⟩ k (by omega)
  rw[wu] at this
  exact this
 show aJ.r0 k (ps,()) (([]:List Seen),([]:List Seen),([]:List (List Int×Row)),ps,(ps.length:Int),(0:Int))=_
 rw[outer]
 show aJ.q1 _ _ _=_
 unfold aJ.q1
 obtain ⟨Up,Uq⟩:=zy (aT ps)
 have hT:∀ y ∈ (aT ps).flatMap bZ,∃ x ∈ aT ps,c_ x=1/\y=(s8,x.1,x.2.1,true,ju x,jv x,()):=fun y hy=>by
  obtain ⟨x,hx,qF⟩:=List.mem_flatMap.1 hy
  unfold bZ at qF
  split at qF
  ·rename_i hf
   exact ⟨x,hx,hf,List.mem_singleton.1 qF⟩
  ·cases qF
 have TF:aJ.r2 k (ps,()) ((aT ps).flatMap cV) ((aT ps).flatMap bZ) ((aT ps).flatMap eN) (((aT ps).flatMap bZ).length:Int) (0:Int)=if (aT ps).all (lc ps) then aJ.Q2 k (ps,()) ((aT ps).flatMap cV) ((aT ps).flatMap bZ) ((aT ps).flatMap eN) (((aT ps).flatMap bZ).length:Int) () else some (([]:List Seen),(4:Int),()):=by
  obtain ⟨T,A8⟩:∃ T,T=(aT ps).flatMap bZ:=⟨_,rfl⟩
  obtain ⟨M,hM⟩:∃ M,M=(aT ps).flatMap eN:=⟨_,rfl⟩
  rw[<-A8,<- hM]
  have TG:T.length<=192:=by rw[A8];omega
  have:=bL (B:=fun self v=>aJ.B2 k self (fun z=>aJ.Q2 k (ps,()) ((aT ps).flatMap cV) T M (T.length:Int) z) (ps,()) ((aT ps).flatMap cV) T M (T.length:Int) v) T (fun (_:Unit) (i:Int)=>i) (fun i _ y=>if (dA pA M [y.2.2.2.2.1,y.2.2.2.2.2.1]).isSome then .inr () else .inl (some (([]:List Seen),(4:Int),()))) (fun _=>aJ.Q2 k (ps,()) ((aT ps).flatMap cV) T M (T.length:Int) ()) (fun _ _=>True) (by rw[ah];omega)
   (fun i hi s self _=>by
    show aJ.b2 _ _ _ _ _ _ _ _=_
    unfold aJ.b2
    have aj:(i:Int) < (T.length:Int):=by omega
    simp only[aj,decide_true,cond_true,Int.natCast_nonneg,and_self,if_true,Int.toNat_natCast,List.getElem?_eq_getElem hi,Option.bind_some,yf,List.length_replicate,List.length_set,show (0:Nat) < 2 by omega,show (1:Nat) < 2 by omega]
    cases (dA pA M [(T[i]).2.2.2.2.1,(T[i]).2.2.2.2.2.1]).isSome <;> rfl)
   (fun _ _ _ _ _ _=>trivial) (fun s self _=>by
    show aJ.b2 _ _ _ _ _ _ _ _=_
    unfold aJ.b2
    simp only[Int.lt_irrefl,decide_false,cond_false]) () trivial k (by omega)
  rw[ls (fun y:Seen=>(dA pA M [y.2.2.2.2.1,y.2.2.2.2.2.1]).isSome) (some (([]:List Seen),(4:Int),())) (fun _=>aJ.Q2 k (ps,()) ((aT ps).flatMap cV) T M (T.length:Int) ())] at this
  refine Eq.trans this ?_
  have hb:T.all (fun y:Seen=>(dA pA M [y.2.2.2.2.1,y.2.2.2.2.2.1]).isSome)=(aT ps).all (lc ps):=by
   have gO:∀ x ∈ aT ps,c_ x=1->(dA pA M [ju x,jv x]).isSome=lc ps x:=fun x hx hf=>by
    obtain ⟨g1,g2⟩:=qf hx
    rw[hM,FT h _ _ g1 g2]
    unfold lc
    rw[decide_eq_true hf]
    cases ((iS ps (ju x) (jv x)).2&&decide ((iS ps (ju x) (jv x)).1.2.1=2)) <;> rfl
   rw[Bool.eq_iff_iff,List.all_eq_true,List.all_eq_true]
   constructor
   ·intro jy x hx
    by_cases hf:c_ x=1
    ·rw[<-gO x hx hf]
     have hy:(s8,x.1,x.2.1,true,ju x,jv x,()) ∈ T:=by
      rw[A8]
      exact List.mem_flatMap.2 ⟨x,hx,by unfold bZ;rw[if_pos hf];exact List.mem_singleton.2 rfl⟩
     exact jy _ hy
    ·unfold lc;rw[decide_eq_false hf];rfl
   ·intro jy y hy
    obtain ⟨x,hx,hf,e⟩:=hT y (A8 ▸ hy)
    subst e
    exact (gO x hx hf).trans (jy x hx)
  rw[hb]
 rw[TF]
 unfold Mk uO
 by_cases bf:(aT ps).all (lc ps)=true
 rotate_left
 ·simp only[bf,Bool.false_eq_true,if_false]
  rfl
 simp only[bf,if_true]
 show aJ.q2 _ _ _ _ _ _ _=_
 unfold aJ.q2
 have TH:aJ.r3 k (ps,()) ((aT ps).flatMap cV) ((aT ps).flatMap bZ) ((aT ps).flatMap eN) (((aT ps).flatMap bZ).length:Int) ((aT ps).flatMap bZ) ((aT ps).flatMap eN) (((aT ps).flatMap bZ).length:Int) ((aT ps).flatMap cV,([]:List (List Int×Bool)),(0:Int))=if ((aT ps).filterMap py).Nodup then aJ.Q3 k (ps,()) ((aT ps).flatMap bZ) ((aT ps).flatMap eN) (((aT ps).flatMap bZ).length:Int) (w_ ps) else some (([]:List Seen),(6:Int),()):=by
  have Mm:=K8 (aT ps)
  unfold w_
  obtain ⟨T,A8⟩:∃ T,T=(aT ps).flatMap bZ:=⟨_,rfl⟩
  obtain ⟨M,hM⟩:∃ M,M=(aT ps).flatMap eN:=⟨_,rfl⟩
  obtain ⟨L,hL⟩:∃ L,L=(aT ps).flatMap cV:=⟨_,rfl⟩
  have PC:∀ y:Seen,pC ps y=(rA (dA pA M [y.2.2.2.2.1,y.2.2.2.2.2.1]) s8,y.2):=fun y=>by unfold pC;rw[hM]
  rw[<-A8,<- hM,<- hL]
  rw[<-A8] at Mm
  have TG:T.length<=192:=by rw[A8];omega
  have Ur:L.length<=192:=by rw[hL];omega
  have:=bL (B:=fun self v=>aJ.B3 k self (fun z=>aJ.Q3 k (ps,()) T M (T.length:Int) z) (ps,()) T M (T.length:Int) v) T (fun (_:Unit) (i:Int)=>(L++(T.take i.toNat).map (pC ps),(T.take i.toNat).map sN,i)) (fun i _ y=>if (T.take i).any (fun z=>decide (y.2.2.2.2.1=z.2.2.2.2.1)&&decide (y.2.2.2.2.2.1=z.2.2.2.2.2.1)) then .inl (some (([]:List Seen),(6:Int),())) else .inr ()) (fun _=>aJ.Q3 k (ps,()) T M (T.length:Int) (L++T.map (pC ps))) (fun _ _=>True) (by rw[ah];omega)
   (fun i hi s self _=>by
    show aJ.b3 _ _ _ _ _ _ _=_
    unfold aJ.b3
    have aj:(i:Int) < (T.length:Int):=by omega
    have kZ:∀ y:Seen,(L++(T.take i).map (pC ps)).length+[y].length<=bk:=fun y=>cQ (by simp only[List.length_append,List.length_map,List.length_take,List.length_cons,List.length_nil];omega)
    have hw:(ae ((i:Int)+1)).toNat=i+1:=by rw[aR (by omega)];omega
    have gL:T.take (i+1)=T.take i++[T[i]]:=List.take_succ_eq_append_getElem hi
    simp only[aj,decide_true,cond_true,Int.natCast_nonneg,and_self,if_true,Int.toNat_natCast,List.getElem?_eq_getElem hi,Option.bind_some,yf,List.length_replicate,List.length_set,show (0:Nat) < 2 by omega,show (1:Nat) < 2 by omega,DG,kZ,hw,gL,List.map_append,List.map_cons,List.map_nil]
    have TJ:=DG (T.take i) (T[i]).2.2.2.2.1 (T[i]).2.2.2.2.2.1
    refine Eq.trans (congrArg (fun b:Bool=>bif b then (some (([]:List Seen),(6:Int),()):Option aJ.Out) else self (L++(T.take i).map (pC ps)++[(rA (dA pA M [(T[i]).2.2.2.2.1,(T[i]).2.2.2.2.2.1]) ((0:Int),(0:Int),(0:Int),([]:List UInt8),()),(T[i]).2)],gZ pA ((T.take i).map sN) [(T[i]).2.2.2.2.1,(T[i]).2.2.2.2.2.1] true,ae ((i:Int)+1))) TJ) ?_
    cases hc:(T.take i).any (fun z=>decide ((T[i]).2.2.2.2.1=z.2.2.2.2.1)&&decide ((T[i]).2.2.2.2.2.1=z.2.2.2.2.2.1)) with
    | true=>rfl
    | false=>
     simp only[cond_false,Bool.false_eq_true,if_false]
     have oE:gZ pA ((T.take i).map sN) [(T[i]).2.2.2.2.1,(T[i]).2.2.2.2.2.1] true=(T.take i).map sN++[sN T[i]]:=wx pA _ _ _ fun e he=>by
      obtain ⟨z,hz,rfl⟩:=List.mem_map.1 he
      have h1:=List.any_eq_false.1 hc z hz
      have:Ty.eq pA [(T[i]).2.2.2.2.1,(T[i]).2.2.2.2.2.1] (sN z).1=_:=tG _ _ _ _
      rw[this]
      simpa using h1
     rw[oE,PC,List.append_assoc])
   (fun _ _ _ _ _ _=>trivial) (fun s self _=>by
    show aJ.b3 _ _ _ _ _ _ _=_
    unfold aJ.b3
    simp only[Int.lt_irrefl,decide_false,cond_false,Int.toNat_natCast,List.take_length]) () trivial k (by omega)
  rw[wr BN (some (([]:List Seen),(6:Int),())) (fun _=>aJ.Q3 k (ps,()) T M (T.length:Int) (L++T.map (pC ps))) (fun y z=>decide (y.2.2.2.2.1=z.2.2.2.2.1)&&decide (y.2.2.2.2.2.1=z.2.2.2.2.2.1)) (fun y z=>?_) T,Mm] at this
  ·simp only[Int.toNat_zero,List.take_zero,List.map_nil,List.append_nil] at this
   exact this
  ·unfold BN
   simp only[Bool.and_eq_true,decide_eq_true_eq]
   constructor
   ·rintro ⟨h1,Y⟩;exact ⟨_,rfl,by rw[h1,Y]⟩
   ·rintro ⟨b,h1,Y⟩
    injection h1 with h1
    injection Y with Y
    rw[<-Y] at h1
    injection h1 with h3 h4
    exact ⟨h3,h4⟩
 rw[TH]
 by_cases gL:((aT ps).filterMap py).Nodup
 rotate_left
 ·simp only[gL,if_false]
  rfl
 simp only[gL,if_true]
 show aJ.q3 _ _ _ _ _ _=_
 unfold aJ.q3
 have Mn:=Hx h bf
 have vH:(w_ ps).length<=192:=by
  have:=Mn.length_eq
  rw[List.length_map] at this
  have:=uQ h.1
  omega
 obtain ⟨r,np,oc,Lt⟩:=K6 (w_ ps) (by omega)
 rw[np]
 simp only[Option.bind_some]
 have oS:r.length<=192:=by have:=oc.length_eq;omega
 have L6:=oc.trans Mn
 have QH:(r.map fun x=>rk x.1).Nodup↔((jo ps).map fun x=>rk (fZ x)).Nodup:=by
  have h1:(r.map fun x=>rk x.1).Perm (((jo ps).map pB).map fun x=>rk x.1):=L6.map _
  rw[h1.nodup_iff,List.map_map]
  exact Iff.rfl
 refine (K7 ps k hk r oS).trans ?_
 by_cases mj:((jo ps).map fun x=>rk (fZ x)).Nodup
 ·have QI:=JH Lt (QH.2 mj)
  have lr:=DE L6 QI (by rw[List.map_map];exact mj)
  simp only[mj,if_true,FW r QI]
  rw[lr]
 ·have:¬ s_ r=true:=fun ha=>mj (QH.1 (JF (JG r ha)))
  simp only[mj,this,if_false]
  rfl
theorem xt (ps:fL) (hp:∀ p ∈ ps,p.length<=maxLen):ca.ab (ps,())=some (sM ps,jp ps,()):=by
 refine ag (k:=300) fun k hk=>(ca.aa k _).trans ?_
 unfold ca.p sM jp
 by_cases hl:12 < ps.length
 ·have:(12:Int) < (ps.length:Int):=by omega
  simp only[this,decide_true,cond_true,hl,if_true]
  rfl
 have gk:¬ ((12:Int) < (ps.length:Int)):=by omega
 simp only[gk,decide_false,cond_false,hl,if_false]
 have inner:∀ (self:(fL×fL×Int×Int)->Option ca.Out) (e0:fL->Option ca.Out) (i:Nat) (hi:i < ps.length),lG ps[i]->ca.r1 k self e0 (ps,()) ps ps[i] ps (ps.length:Int) (i:Int) (pn ps[i]:Int) (0:Int)=if (List.range (pn ps[i])).all (ot ps[i]) then self (ps,ps,(ps.length:Int),ae ((i:Int)+1)) else some (([]:List Seen),(5:Int),()):=fun self e0 i hi aA=>by
  have hn:=aA.n
  have hlen:=aA.len
  have:=rf (B:=fun cw v=>ca.B1 k cw (fun z=>ca.Q0 k self e0 (ps,()) ps ps[i] ps (ps.length:Int) (i:Int) (pn ps[i]:Int) z) (ps,()) ps ps[i] ps (ps.length:Int) (i:Int) (pn ps[i]:Int) v) (pn ps[i]) (fun (_:Unit) (j:Int)=>j) (fun j _=>if ot ps[i] j then .inr () else .inl (some (([]:List Seen),(5:Int),()))) (fun _=>self (ps,ps,(ps.length:Int),ae ((i:Int)+1))) (fun _ _=>True) (by omega)
   (fun j hj s cw hI=>by
    show ca.b1 _ _ _ _ _ _ _ _ _ _=_
    unfold ca.b1 ot
    have aj:(j:Int) < (pn ps[i]:Int):=by omega
    simp only[aj,decide_true,cond_true,zq aA,hj,Bool.true_and,Option.bind_some]
    by_cases hz:aP ps[i] j=0
    ·simp only[hz,decide_true,Bool.not_true,cond_false,Bool.true_or,if_true]
    ·simp only[hz,decide_false,Bool.not_false,cond_true,vk aA hj,vj _ (Nat.le_trans (oq aA hj) (by omega)),Option.bind_some,Bool.false_or]
     cases hc:(c9 (ey ps[i] j)).2 with
     | true=>
      have:=(uR _ hc).1
      simp only[if_true,this,decide_true,Bool.not_true,cond_false]
     | false=>rfl)
   (fun _ _ _ _ _ _=>trivial) (fun s cw hI=>by
    show ca.b1 _ _ _ _ _ _ _ _ _ _=_
    unfold ca.b1
    simp only[Int.lt_irrefl,decide_false,cond_false]
    rfl) () trivial k (by omega)
  rw[mW] at this
  exact this
 have outer:ca.r0 k (ps,()) (ps,ps,(ps.length:Int),(0:Int))=if gM px ps=0 then ca.Q1 k (ps,()) ps else some (([]:List Seen),gM px ps,()):=by
  have:=bL (B:=fun self v=>ca.B0 k self (fun z=>ca.Q1 k (ps,()) z) (ps,()) v) ps (fun (_:Unit) (i:Int)=>(ps,ps,(ps.length:Int),i)) (fun i _ p=>if px p=0 then .inr () else .inl (some (([]:List Seen),px p,()))) (fun _=>ca.Q1 k (ps,()) ps) (fun _ _=>True) (by rw[ah];omega)
   (fun i hi s self hI=>by
    show ca.b0 _ _ _ _ _=_
    unfold ca.b0 px
    have aj:(i:Int) < (ps.length:Int):=by omega
    simp only[aj,decide_true,cond_true,Int.natCast_nonneg,if_true,Int.toNat_natCast,List.getElem?_eq_getElem hi,Option.bind_some,EE _ (hp _ (List.getElem_mem hi))]
    by_cases h0:pw ps[i]=0
    ·have aA:=wl.1 h0
     rw[decide_eq_true h0]
     simp only[Bool.not_true,cond_false,sI aA.len,Option.bind_some,inner self _ i hi aA,h0,if_true]
     by_cases hc:(List.range (pn ps[i])).all (ot ps[i])=true
     ·simp only[hc,if_true]
     ·simp only[hc,Bool.false_eq_true,if_false]
      rfl
    ·rw[decide_eq_false h0]
     simp only[Bool.not_false,cond_true,h0,if_false])
   (fun _ _ _ _ _ _=>trivial) (fun s self _=>by
    show ca.b0 _ _ _ _ _=_
    unfold ca.b0
    simp only[Int.lt_irrefl,decide_false,cond_false]) () trivial k (by omega)
  rw[nM px (fun c=>some (([]:List Seen),c,())) (fun _=>ca.Q1 k (ps,()) ps)] at this
  exact this
 rw[outer]
 by_cases hc:gM px ps=0
 ·simp only[hc,if_true]
  show ca.q1 _ _=_
  unfold ca.q1
  rw[EH ps (DD (by omega) hc)]
  rfl
 ·simp only[hc,if_false]
theorem DI (ps:fL) (hp:∀ p ∈ ps,p.length<=maxLen):gW.ab (ps,())=some (jp ps,()):=by
 refine ag (k:=0) fun k hk=>(gW.aa k _).trans ?_
 show gW.p _=_
 unfold gW.p
 rw[xt ps hp]
 rfl
end OT
set_option linter.unusedVariables false
set_option linter.unusedSimpArgs false
set_option linter.unusedSectionVars false
namespace OT
open Go
structure BO (ps:fL):Prop where
 right:nE ps
 cells:rr ps
 TZ:(aT ps).all (lc ps)=true
 T9:((aT ps).filterMap py).Nodup
 keys:((jo ps).map fun x=>rk (fZ x)).Nodup
 list:sM ps=uS ((jo ps).map pB)
theorem xd {ps:fL} (h:jp ps=0):BO ps:=by
 obtain ⟨h1,Y,h3⟩:=uP h
 have hc:=DD h1.1 Y
 unfold uO at h3
 split at h3
 ·rename_i a1
  split at h3
  ·rename_i a2
   split at h3
   ·rename_i a3
    exact ⟨h1,hc,a1,a2,a3,by unfold sM;rw[if_pos h]⟩
   ·cases h3
  ·cases h3
 ·cases h3
theorem Hy {ps:fL} (h:BO ps):(sM ps).Perm ((jo ps).map pB):=by rw[h.list];exact zA _
theorem A9 {ps:fL} (h:BO ps):(sM ps).length<=192:=by
 have:=(Hy h).length_eq
 rw[List.length_map] at this
 have:=uQ h.right
 omega
def nS (ps:fL):List Row:=(sM ps).map (·.1)
theorem DJ {ps:fL} (h:BO ps):nS ps=zu ((jo ps).map fZ):=by
 unfold nS
 rw[h.list,A6,List.map_map]
 rfl
theorem EI (l:List Seen) (hl:l.length<=1000):h_.ab (l,())=some (l.map (·.1),()):=by
 refine ag (k:=1100) fun q hq=>(h_.aa q _).trans ?_
 have:=bc (B:=fun self v=>h_.B0 q self (fun z=>h_.Q0 q (l,()) z) (l,()) v) l (fun (s:List Row) (i:Int)=>(s,i)) (fun _ s x=>.inr (s++[x.1])) (fun s=>(s,())) (fun i s=>s.length=i) (by rw[ah];omega)
  (fun i hi s self hs=>by
   show h_.b0 _ _ _ _=_
   unfold h_.b0
   have aj:(i:Int) < (l.length:Int):=by omega
   rw[decide_eq_true aj,cond_true,if_pos (Int.natCast_nonneg i)]
   simp only[Int.toNat_natCast,List.getElem?_eq_getElem hi,Option.bind_some]
   rw[if_pos (cQ (by simp only[List.length_cons,List.length_nil];omega))])
  (fun i hi s s' hs hf=>by injection hf with hf;subst hf;simp[hs]) (fun s self _=>by
   show h_.b0 _ _ _ _=_
   unfold h_.b0
   rw[decide_eq_false (Int.lt_irrefl _),cond_false]
   rfl) [] rfl q (by omega)
 rw[en (g:=fun (s:List Row) (x:Seen)=>s++[x.1])] at this
 refine this.trans ?_
 have hm:∀ (xs:List Seen) (s:List Row),xs.foldl (fun s x=>s++[x.1]) s=s++xs.map (·.1):=by
  intro xs
  induction xs with
  | nil=>intro s;simp
  | cons x xs ih=>intro s;rw[List.foldl_cons,ih];simp
 rw[hm,List.nil_append]
theorem Bx {ps:fL} (h:jp ps=0):eD.ab (ps,())=some (nS ps,()):=by
 have hr:=uP h
 have hl:=uQ hr.1
 refine ag (k:=300) fun k hk=>(eD.aa k _).trans ?_
 unfold eD.p
 rw[xq ps hr.1]
 simp only[Option.bind_some]
 have:=bc (B:=fun self v=>eD.B0 k self (fun z=>eD.Q0 k (ps,()) (jo ps) z) (ps,()) (jo ps) v) (jo ps) (fun (s:List Row) (i:Int)=>(s,i)) (fun _ s x=>.inr (ko s (fZ x))) (fun s=>(s,())) (fun i s=>s.length<=i) (by rw[ah];omega)
  (fun i hi s self hs=>by
   show eD.b0 _ _ _ _ _=_
   unfold eD.b0
   have aj:(i:Int) < ((jo ps).length:Int):=by omega
   rw[decide_eq_true aj,cond_true,if_pos ⟨Int.natCast_nonneg i,aj⟩]
   simp only[Int.toNat_natCast,List.getElem?_eq_getElem hi,Option.bind_some]
   rw[zr _ _ (by omega)]
   rfl)
  (fun i hi s s' hs hf=>by
   injection hf with hf
   subst hf
   unfold ko
   simp only[List.length_append,List.length_take,List.length_drop,List.length_cons,List.length_nil]
   omega) (fun s self _=>by
   show eD.b0 _ _ _ _ _=_
   unfold eD.b0
   rw[decide_eq_false (Int.lt_irrefl _),cond_false]
   rfl) [] (Nat.le_refl 0) k (by omega)
 rw[en (g:=fun (s:List Row) (x:ax)=>ko s (fZ x))] at this
 refine this.trans ?_
 rw[DJ (xd h)]
 unfold zu
 rw[List.foldl_map]
end OT
set_option linter.unusedVariables false
set_option linter.unusedSimpArgs false
namespace OT
open Go
def bl (x:cR):Int:=(List.length x.2.1:Int)
def kd (s:Int) (x:cR):Sum (Int×Unit) Int:=
 if ci x.1 0 63 then (if ci (bl x) 1 64 then (if 64 < x.1+bl x then .inl (3,()) else if x.1 < s then .inl (1,()) else .inr (x.1+bl x+1)) else .inl (3,())) else .inl (3,())
def zB (s:Int) (xs:List cR):Int:=(aV (fun _ s x=>kd s x) (fun _=>((0:Int),())) 0 xs s).1
def mF (xs:List cR):Int:=if 64 < xs.length then 2 else zB 0 xs
theorem sO {s s':Int} {x:cR} (h:kd s x=.inr s'):0<=x.1/\x.1<=63/\1<=bl x/\bl x<=64/\x.1+bl x<=64/\s<=x.1/\s'=x.1+bl x+1:=by
 unfold kd at h
 split at h
 ·rename_i h1
  split at h
  ·rename_i Y
   split at h
   ·cases h
   ·split at h
    ·cases h
    ·injection h with h
     simp only[ci,Bool.and_eq_true,decide_eq_true_eq] at h1 Y
     omega
  ·cases h
 ·cases h
theorem yg {s:Int} {x:cR} {o:Int×Unit} (h:kd s x=.inl o):o.1≠0:=by
 unfold kd at h
 split at h
 ·split at h
  ·split at h
   ·injection h with h;subst h;decide
   ·split at h
    ·injection h with h;subst h;decide
    ·cases h
  ·injection h with h;subst h;decide
 ·injection h with h;subst h;decide
theorem FX {S O α:Type} {f:S->α->Sum O S} {fin:S->O}:∀ (xs:List α) (i j:Nat) (s:S),aV (fun _ s x=>f s x) fin i xs s=aV (fun _ s x=>f s x) fin j xs s
 | [],_,_,_=>rfl
 | x::xs,i,j,s=>by
  simp only[aV]
  split
  ·rfl
  ·exact FX xs _ _ _
theorem uT (s:Int) (x:cR) (xs:List cR):zB s (x::xs)=match kd s x with | .inl o=>o.1 | .inr s'=>zB s' xs:=by
 unfold zB
 simp only[aV]
 cases h:kd s x with
 | inl o=>rfl
 | inr s'=>simp only;rw[FX xs 1 0]
theorem zC:∀ (xs:List cR) (s:Int),zB s xs=0->∀ x ∈ xs,0<=x.1/\x.1<=63/\1<=bl x/\bl x<=64
 | [],_,_,_,hx=>by cases hx
 | y::ys,s,h,x,hx=>by
  rw[uT] at h
  cases hs:kd s y with
  | inl o=>rw[hs] at h;exact absurd h (yg hs)
  | inr s'=>
   rw[hs] at h
   have:=sO hs
   rcases List.mem_cons.1 hx with e | e
   ·subst e;omega
   ·exact zC ys s' h x e
theorem Hz {xs:List cR} (h:mF xs=0):List.length xs<=64/\∀ x ∈ xs,0<=x.1/\x.1<=63/\1<=bl x/\bl x<=64:=by
 unfold mF at h
 split at h
 ·cases h
 ·exact ⟨by omega,zC xs 0 h⟩
theorem JJ {y z:cR} {ys:List cR} (h:mF (y::z::ys)=0):List.length y.2.1≠64:=by
 unfold mF at h
 split at h
 ·cases h
 ·rw[uT] at h
  cases hs:kd 0 y with
  | inl o=>rw[hs] at h;exact absurd h (yg hs)
  | inr s'=>
   rw[hs] at h
   have h1:=sO hs
   simp only[uT] at h
   cases nW:kd s' z with
   | inl o=>rw[nW] at h;exact absurd h (yg nW)
   | inr s2=>
    have Y:=sO nW
    have:bl y=(List.length y.2.1:Int):=rfl
    omega
theorem EJ (xs:List cR):db.ab (xs,())=some (mF xs,()):=by
 refine ag (k:=66) fun k hk=>(db.aa k _).trans ?_
 unfold db.p mF
 by_cases hl:64 < xs.length
 ·have:(64:Int) < (xs.length:Int):=by omega
  simp only[hl,this,decide_true,cond_true,if_true]
 have gk:¬ (64:Int) < (xs.length:Int):=by omega
 have:=bc (B:=fun self v=>db.B0 0 self (fun z=>db.Q0 0 (xs,()) z) (xs,()) v) xs (fun (s:Int) (i:Int)=>(s,i)) (fun _ s x=>kd s x) (fun _=>(0,())) (fun _ _=>True) (by rw[ah];omega)
  (fun i hi s self _=>by
   show db.b0 _ _ _ _=_
   unfold db.b0
   have aj:(i:Int) < (xs.length:Int):=by omega
   simp only[aj,decide_true,cond_true,Int.natCast_nonneg,if_true,Int.toNat_natCast,List.getElem?_eq_getElem hi,Option.bind_some,kT]
   generalize xs[i]=x
   unfold kd bl ci
   by_cases a1:(0:Int)<=x.1
   rotate_left
   ·simp[a1]
   by_cases a2:x.1<=63
   rotate_left
   ·simp[a2]
   by_cases a3:(1:Int)<=(List.length x.2.1:Int)
   rotate_left
   ·simp[a1,a2,a3]
   by_cases a4:(List.length x.2.1:Int)<=64
   rotate_left
   ·simp[a1,a2,a4]
   have e1:ae (x.1+(List.length x.2.1:Int))=x.1+(List.length x.2.1:Int):=aR (by omega)
   have e2:ae (x.1+(List.length x.2.1:Int)+1)=x.1+(List.length x.2.1:Int)+1:=aR (by omega)
   simp only[a1,a2,a3,a4,e1,e2,decide_true,Bool.and_self,Bool.not_true,cond_false,if_true]
   by_cases a5:64 < x.1+(List.length x.2.1:Int)
   ·simp[a5]
   by_cases a6:x.1 < s
   ·simp[a5,a6]
   simp[a5,a6]) (fun _ _ _ _ _ _=>trivial) (fun s self _=>by
   show db.b0 _ _ _ _=_
   unfold db.b0
   simp[db.Q0,db.q0]) 0 trivial k (by omega)
 simp only[hl,if_false,gk,decide_false,cond_false]
 exact this
theorem xu (xs:List cR):dL.ab (xs,())=some (mF xs,()):=by
 refine ag (k:=66) fun k hk=>(dL.aa k _).trans ?_
 unfold dL.p mF
 by_cases hl:64 < xs.length
 ·have:(64:Int) < (xs.length:Int):=by omega
  simp only[hl,this,decide_true,cond_true,if_true]
 have gk:¬ (64:Int) < (xs.length:Int):=by omega
 have:=bc (B:=fun self v=>dL.B0 0 self (fun z=>dL.Q0 0 (xs,()) z) (xs,()) v) xs (fun (s:Int) (i:Int)=>i) (fun _ s x=>kd s x) (fun _=>(0,()))
  (fun i s=>(i=0->s=0)/\∀ y,0 < i->xs[i - 1]?=some y->0<=y.1/\y.1<=63/\bl y<=64/\s=y.1+bl y+1) (by rw[ah];omega)
  (fun i hi s self hI=>by
   show dL.b0 _ _ _ _=_
   unfold dL.b0
   have aj:(i:Int) < (xs.length:Int):=by omega
   simp only[aj,decide_true,cond_true,Int.natCast_nonneg,if_true,Int.toNat_natCast,List.getElem?_eq_getElem hi,Option.bind_some,gC]
   generalize xs[i]=x
   unfold kd bl ci
   by_cases a1:(0:Int)<=x.1
   rotate_left
   ·simp[a1]
   by_cases a2:x.1<=63
   rotate_left
   ·simp[a2]
   by_cases a3:(1:Int)<=(List.length x.2.1:Int)
   rotate_left
   ·simp[a1,a2,a3]
   by_cases a4:(List.length x.2.1:Int)<=64
   rotate_left
   ·simp[a1,a2,a4]
   have e1:ae (x.1+(List.length x.2.1:Int))=x.1+(List.length x.2.1:Int):=aR (by omega)
   simp only[a1,a2,a3,a4,e1,decide_true,Bool.and_self,Bool.not_true,cond_false,if_true]
   by_cases a5:64 < x.1+(List.length x.2.1:Int)
   ·simp[a5]
   by_cases h0:i=0
   ·subst h0
    have:=hI.1 rfl
    subst this
    have a6:¬ x.1 < 0:=by omega
    simp[a5,a6]
   ·have zp:i - 1 < xs.length:=by omega
    obtain ⟨y0,y1,y2,y3⟩:=hI.2 xs[i - 1] (by omega) (List.getElem?_eq_getElem zp)
    have hp:(0:Int) < (i:Int):=by omega
    have ew:ae ((i:Int) - 1)=((i - 1:Nat):Int):=by rw[aR (by omega)];omega
    unfold bl at y2 y3
    have e2:ae ((xs[i - 1]).1+(List.length (xs[i - 1]).2.1:Int))=(xs[i - 1]).1+(List.length (xs[i - 1]).2.1:Int):=aR (by omega)
    simp only[a5,hp,ew,e2,decide_true,decide_false,cond_true,cond_false,Int.natCast_nonneg,if_true,if_false,Int.toNat_natCast,List.getElem?_eq_getElem zp,Option.bind_some]
    by_cases a6:x.1 < s
    ·have:x.1<=(xs[i - 1]).1+(List.length (xs[i - 1]).2.1:Int):=by omega
     simp[a6,this]
    ·have:¬ x.1<=(xs[i - 1]).1+(List.length (xs[i - 1]).2.1:Int):=by omega
     simp[a6,this])
  (fun i hi s s' _ hs=>⟨fun e=>by omega,fun y _ hy=>by
   rw[Nat.add_sub_cancel,List.getElem?_eq_getElem hi] at hy
   injection hy with hy;subst hy
   have:=sO hs
   omega⟩) (fun s self _=>by
   show dL.b0 _ _ _ _=_
   unfold dL.b0
   simp[dL.Q0,dL.q0]) 0 ⟨fun _=>rfl,fun y h=>by omega⟩ k (by omega)
 simp only[hl,if_false,gk,decide_false,cond_false]
 exact this
def zD (k:Int) (xs:List cR):Int:=match xs with
 | []=>1
 | y::_=>if decide (k=4)&&!decide (List.length y.2.1=64) then 1 else 0
def mG (r:aO):Int:=
 if !ci r.1 1 6||(!ci r.1 2 4&&(!decide (r.2.2.1=0)||decide (0 < List.length r.2.2.2.1)))||(decide (r.1=4)&&!decide (r.2.1=0)) then 1
 else if (!decide (r.1=4)&&!ci r.2.1 1 99)||!ci r.2.2.1 0 11 then 3
 else if !ci r.1 2 4 then 0
 else if mF r.2.2.2.1=0 then zD r.1 r.2.2.2.1 else mF r.2.2.2.1
theorem wz (k:Int):gE.ab (k,())=some (ci k 2 4,()):=by
 refine ag (k:=0) fun n _=>(gE.aa n _).trans ?_
 show gE.p _=_
 unfold gE.p
 simp[gC,ci]
theorem DK (k:Int):hY.ab (k,())=some (ci k 2 4,()):=by
 refine ag (k:=0) fun n _=>(hY.aa n _).trans ?_
 show hY.p _=_
 unfold hY.p ci
 by_cases h1:k=2
 ·subst h1;rfl
 by_cases Y:k=3
 ·subst Y;rfl
 by_cases h3:k=4
 ·subst h3;rfl
 have:(decide ((2:Int)<=k)&&decide (k<=4))=false:=by
  by_cases h4:(2:Int)<=k
  ·have:¬ k<=4:=by omega
   simp[this]
  ·simp[h4]
 simp[h1,Y,h3,this]
theorem zE (r:aO):gw.ab (r,())=some (mG r,()):=by
 obtain ⟨k,t,p,xs,⟨⟩⟩:=r
 refine ag (k:=0) fun n _=>(gw.aa n _).trans ?_
 show gw.p _=_
 unfold gw.p mG
 simp only[gC,wz,xu,Option.bind_some,show ∀ a b c:Int,(decide (b<=a)&&decide (a<=c))=ci a b c from fun _ _ _=>rfl]
 have h0:decide ((0:Int) < (xs.length:Int))=decide (0 < xs.length):=by simp
 have hj:(dL.ab (xs,()))=some (mF xs,()):=xu xs
 rw[h0]
 have hh:(bif decide ((List.length xs:Int)=0) then some ((1:Int),()) else bif decide (k=4) then (xs[0]?).bind fun Dg=>bif !decide ((List.length Dg.2.1:Int)=64) then some ((1:Int),()) else some (0,()) else some (0,()))=some (zD k xs,()):=by
  cases xs with
  | nil=>rfl
  | cons y ys=>
   have:¬ ((List.length (y::ys):Int)=0):=by simp only[List.length_cons];omega
   simp only[this,decide_false,cond_false,zD,List.getElem?_cons_zero,Option.bind_some]
   have OJ:decide ((List.length y.2.1:Int)=64)=decide (List.length y.2.1=64):=by
    by_cases h:List.length y.2.1=64
    ·simp[h]
    ·have:¬ ((List.length y.2.1:Int)=64):=by omega
     simp[h,this]
   rw[OJ]
   cases decide (k=4) <;> cases decide (List.length y.2.1=64) <;> rfl
 rw[hh]
 by_cases hr:mF xs=0
 ·simp only[hr,decide_true,Bool.not_true,cond_false,if_true]
  cases ci k 1 6 <;> cases ci k 2 4 <;> cases decide (p=0) <;> cases decide (0 < xs.length) <;> cases decide (k=4) <;> cases decide (t=0) <;> cases ci t 1 99 <;> cases ci p 0 11 <;> rfl
 ·simp only[hr,decide_false,Bool.not_false,cond_true,if_false]
  cases ci k 1 6 <;> cases ci k 2 4 <;> cases decide (p=0) <;> cases decide (0 < xs.length) <;> cases decide (k=4) <;> cases decide (t=0) <;> cases ci t 1 99 <;> cases ci p 0 11 <;> rfl
theorem zF (r:aO):d8.ab (r,())=some (mG r,()):=by
 obtain ⟨k,t,p,xs,⟨⟩⟩:=r
 refine ag (k:=0) fun n _=>(d8.aa n _).trans ?_
 show d8.p _=_
 unfold d8.p mG
 simp only[kT,DK,w5,EJ,Option.bind_some,show ∀ a b c:Int,(decide (b<=a)&&decide (a<=c))=ci a b c from fun _ _ _=>rfl]
 have h0:decide ((0:Int) < (xs.length:Int))=decide (0 < xs.length):=by simp
 rw[h0]
 have hk:ci k 2 4=false->decide (k=4)=false:=by
  intro h
  by_cases e:k=4
  ·subst e;cases h
  ·simp[e]
 have OJ:∀ y:cR,decide ((List.length y.2.1:Int)=64)=decide (List.length y.2.1=64):=fun y=>by
  by_cases h:List.length y.2.1=64
  ·simp[h]
  ·have:¬ ((List.length y.2.1:Int)=64):=by omega
   simp[h,this]
 have hz:decide (0 < xs.length)=false->xs=[]:=by
  intro h
  cases xs with
  | nil=>rfl
  | cons _ _=>simp at h
 have hh:mF xs=0->(bif decide ((List.length xs:Int)=0) then some ((1:Int),()) else bif decide (k=4) then bif !decide ((List.length xs:Int)=1) then some ((1:Int),()) else (xs[0]?).bind fun Dg=>bif !decide ((List.length Dg.2.1:Int)=64) then some ((1:Int),()) else some (0,()) else some (0,()))=some (zD k xs,()):=by
  intro hr
  cases xs with
  | nil=>rfl
  | cons y ys=>
   have:¬ ((List.length (y::ys):Int)=0):=by simp only[List.length_cons];omega
   simp only[this,decide_false,cond_false,zD,List.getElem?_cons_zero,Option.bind_some,OJ]
   cases ys with
   | nil=>cases decide (k=4) <;> cases decide (List.length y.2.1=64) <;> rfl
   | cons z ys=>
    have h1:=JJ hr
    have Y:¬ ((List.length (y::z::ys):Int)=1):=by simp only[List.length_cons];omega
    simp only[h1,Y,decide_false]
    cases decide (k=4) <;> rfl
 cases gH:ci k 2 4 with
 | false=>
  have TK:=hk gH
  have Us:mF ([]:List cR)=0:=rfl
  simp only[TK]
  by_cases hx:xs=[]
  ·subst hx
   cases ci k 1 6 <;> cases decide (p=0) <;> cases ci t 1 99 <;> cases ci p 0 11 <;> rfl
  ·have Cb:decide (0 < xs.length)=true:=by
    cases xs with
    | nil=>exact absurd rfl hx
    | cons _ _=>simp
   simp only[Cb]
   cases ci k 1 6 <;> cases decide (p=0) <;> rfl
 | true=>
  by_cases hr:mF xs=0
  ·have hh:=hh hr
   simp only[hr,decide_true,Bool.not_true,cond_false,cond_true,if_true,hh]
   cases ci k 1 6 <;> cases decide (k=4) <;> cases decide (t=0) <;> cases ci t 1 99 <;> cases ci p 0 11 <;> rfl
  ·simp only[hr,decide_false,Bool.not_false,cond_true,if_false]
   cases ci k 1 6 <;> cases decide (k=4) <;> cases decide (t=0) <;> cases ci t 1 99 <;> cases ci p 0 11 <;> rfl
theorem o3 {r:aO} (h:mG r=0):1<=r.1/\r.1<=6/\0<=r.2.1/\r.2.1<=99/\0<=r.2.2.1/\r.2.2.1<=11/\List.length r.2.2.2.1<=64/\∀ x ∈ r.2.2.2.1,0<=x.1/\x.1<=63/\1<=bl x/\bl x<=64:=by
 obtain ⟨k,t,p,xs,⟨⟩⟩:=r
 unfold mG at h
 split at h
 ·cases h
 rename_i h1
 split at h
 ·cases h
 rename_i Y
 have hx:List.length xs<=64/\∀ x ∈ xs,0<=x.1/\x.1<=63/\1<=bl x/\bl x<=64:=by
  split at h
  ·rename_i h3
   simp only[Bool.or_eq_true,Bool.and_eq_true,not_or,not_and,h3,forall_const] at h1
   cases xs with
   | nil=>exact ⟨by simp,fun x hx=>by cases hx⟩
   | cons y ys=>exact absurd (by simp) h1.1.2.2
  ·split at h
   ·rename_i h4;exact Hz h4
   ·rename_i h4;exact absurd h h4
 simp only[Bool.or_eq_true,Bool.and_eq_true,not_or,not_and,ci,Bool.not_eq_true',Bool.and_eq_false_iff,decide_eq_false_iff_not,decide_eq_true_eq] at h1 Y
 refine ⟨?_,?_,?_,?_,?_,?_,hx⟩ <;> by_cases hk:k=4 <;> simp_all <;> omega
end OT
set_option linter.unusedVariables false
set_option linter.unusedSimpArgs false
namespace OT
open Go
def lZ (x:cR):List UInt8:=UInt8.ofInt x.1::UInt8.ofInt (List.length x.2.1:Int)::x.2.1
def ei (xs:List cR):List UInt8:=xs.flatMap lZ
def mH (r:aO):List UInt8:=[(0:UInt8),UInt8.ofInt r.1,UInt8.ofInt r.2.1,UInt8.ofInt r.2.2.1,UInt8.ofInt (List.length r.2.2.2.1:Int)]
def oK (s:Int) (l:List UInt8):Int:=l.foldl (fun s c=>(s*31+(c.toNat:Int)) % 65521) s
def DL (r:aO):List UInt8:=(mH r++ei r.2.2.2.1).set 0 (UInt8.ofInt (ae (((mH r++ei r.2.2.2.1).length:Int)+2)))
def rh (r:aO):List UInt8:=DL r++[UInt8.ofInt ((oK 1 (DL r)) / 256),UInt8.ofInt (oK 1 (DL r))]
def zG (r:aO):Prop:=List.length r.2.2.2.1<=64/\∀ x ∈ r.2.2.2.1,List.length x.2.1<=64
theorem DM {r:aO} (h:mG r=0):zG r:=by
 have:=o3 h
 refine ⟨this.2.2.2.2.2.2.1,fun x hx=>?_⟩
 have Y:=this.2.2.2.2.2.2.2 x hx
 unfold bl at Y
 omega
theorem wA (xs ys:List cR):ei (xs++ys)=ei xs++ei ys:=List.flatMap_append
theorem mI (x:cR) (xs:List cR):ei (x::xs)=lZ x++ei xs:=List.flatMap_cons
theorem wB {xs:List cR} (h:∀ x ∈ xs,List.length x.2.1<=64):(ei xs).length<=66*xs.length:=by
 induction xs with
 | nil=>simp[ei]
 | cons x xs ih=>
  have h1:=ih fun y hy=>h y (by simp[hy])
  have Y:=h x (by simp)
  rw[mI]
  simp only[List.length_append,List.length_cons,lZ]
  omega
theorem M2 (r:aO):(DL r).length=5+(ei r.2.2.2.1).length:=by simp[DL,mH];omega
theorem A_ (r:aO):(rh r).length=7+(ei r.2.2.2.1).length:=by
 simp only[rh,List.length_append,M2,List.length_cons,List.length_nil];omega
theorem EK {r:aO} (h:zG r):(rh r).length<=5000:=by
 rw[A_]
 have:=wB h.2
 have:=h.1
 omega
theorem FY:∀ (l:List UInt8) (s:Int),0<=s/\s < 65521->0<=oK s l/\oK s l < 65521
 | [],s,h=>h
 | c::l,s,h=>FY l ((s*31+(c.toNat:Int)) % 65521) ⟨Int.emod_nonneg _ (by omega),Int.emod_lt_of_pos _ (by omega)⟩
theorem JK {s:Int} (h:0<=s):UInt8.ofInt (s.tmod 256)=UInt8.ofInt s:=by
 rw[Int.tmod_eq_emod_of_nonneg h]
 apply UInt8.toBitVec_inj.1
 apply BitVec.eq_of_toNat_eq
 simp[UInt8.ofInt,BitVec.toNat_ofInt]
theorem wC:∀ (xs:List cR) (s:List UInt8),xs.foldl (fun s x=>s++lZ x) s=s++ei xs
 | [],s=>by simp[ei]
 | x::xs,s=>by rw[List.foldl_cons,wC,mI,List.append_assoc]
theorem DN {s:Int} {c:UInt8} (h:0<=s/\s < 65521):((ae ((ae (s*(31:Int)))+(ae (c.toNat:Int)))).tmod (65521:Int))=(s*31+(c.toNat:Int)) % 65521:=by
 have hc:=c.toNat_lt
 have e1:ae (s*31)=s*31:=aR (by omega)
 have e2:ae (c.toNat:Int)=(c.toNat:Int):=aR (by omega)
 have e3:ae (s*31+(c.toNat:Int))=s*31+(c.toNat:Int):=aR (by omega)
 rw[e1,e2,e3,Int.tmod_eq_emod_of_nonneg (by omega)]
theorem HA (l:List UInt8) (h:l.length<=100000):gb.ab (l,())=some (oK 1 l,()):=by
 refine ag (k:=100001) fun k hk=>(gb.aa k _).trans ?_
 have:=bc (B:=fun self v=>gb.B0 0 self (fun z=>gb.Q0 0 (l,()) z) (l,()) v) l (fun (s:Int) (i:Int)=>(s,i)) (fun _ s c=>.inr ((s*31+(c.toNat:Int)) % 65521)) (fun s=>(s,())) (fun _ s=>0<=s/\s < 65521) (by rw[ah];omega)
  (fun i hi s self hI=>by
   show gb.b0 _ _ _ _=_
   unfold gb.b0
   have aj:(i:Int) < (l.length:Int):=by omega
   simp only[aj,decide_true,cond_true,Int.natCast_nonneg,if_true,Int.toNat_natCast,List.getElem?_eq_getElem hi,Option.bind_some,DN hI])
  (fun i hi s s' hI hs=>by injection hs with hs;omega) (fun s self _=>by
   show gb.b0 _ _ _ _=_
   unfold gb.b0
   simp[gb.Q0,gb.q0]) 1 (by omega) k (by omega)
 rw[en] at this
 exact this
theorem EL (r:aO) (h:zG r):fu.ab (r,())=some (rh r,()):=by
 obtain ⟨K,T,P,xs,⟨⟩⟩:=r
 obtain ⟨h1,Y⟩:=h
 simp only at h1 Y
 refine ag (k:=100) fun k hk=>(fu.aa k _).trans ?_
 have hlen:∀ i,(ei (xs.take i)).length<=66*64:=fun i=>by
  have:=wB (xs:=xs.take i) (fun x hx=>Y x (List.mem_of_mem_take hx))
  have:(xs.take i).length<=xs.length:=by simp;omega
  omega
 have:=bc (B:=fun self v=>fu.B0 0 self (fun z=>fu.Q0 0 ((K,T,P,xs,()),()) z) ((K,T,P,xs,()),()) v) xs (fun (s:List UInt8) (i:Int)=>(s,i)) (fun _ s x=>.inr (s++lZ x)) (fun s=>(let q:=s.set 0 (UInt8.ofInt (ae ((s.length:Int)+2)));(q++[UInt8.ofInt ((oK 1 q) / 256),UInt8.ofInt (oK 1 q)],())))
  (fun i s=>s=mH (K,T,P,xs,())++ei (xs.take i)) (by rw[ah];omega)
  (fun i hi s self hI=>by
   show fu.b0 _ _ _ _=_
   unfold fu.b0
   have aj:(i:Int) < (xs.length:Int):=by omega
   have hs:s.length<=5000:=by rw[hI];have:=hlen i;simp only[List.length_append,mH,List.length_cons,List.length_nil];omega
   have hx:=Y xs[i] (List.getElem_mem hi)
   simp only[aj,decide_true,cond_true,Int.natCast_nonneg,if_true,Int.toNat_natCast,List.getElem?_eq_getElem hi,Option.bind_some]
   generalize xs[i]=x at hx
   have c1:s.length+[UInt8.ofInt x.1,UInt8.ofInt (List.length x.2.1:Int)].length<=bk:=cQ (by simp only[List.length_cons,List.length_nil];omega)
   have c2:(s++[UInt8.ofInt x.1,UInt8.ofInt (List.length x.2.1:Int)]).length+List.length x.2.1<=bk:=cQ (by simp only[List.length_append,List.length_cons,List.length_nil];omega)
   simp only[c1,c2,if_true,lZ,List.append_assoc,List.cons_append,List.nil_append])
  (fun i hi s s' hI hs=>by
   injection hs with hs
   rw[<-hs,hI,List.take_succ_eq_append_getElem hi,wA,List.append_assoc]
   simp[ei]) (fun s self hI=>by
   show fu.b0 _ _ _ _=_
   unfold fu.b0
   have hs:5<=s.length/\s.length<=5000:=by rw[hI];have:=hlen xs.length;simp only[List.length_append,mH,List.length_cons,List.length_nil];omega
   simp only[Int.lt_irrefl,decide_false,cond_false,fu.Q0,fu.q0]
   have c0:(0:Int)<=0/\(0:Int) < (s.length:Int):=⟨by omega,by omega⟩
   rw[if_pos c0,List.getElem?_eq_getElem (by omega:0 < s.length)]
   simp only[Option.bind_some]
   generalize hq:s.set 0 (UInt8.ofInt (ae ((s.length:Int)+2)))=q
   have TM:q.length=s.length:=by rw[<-hq];simp
   rw[HA q (by omega)]
   simp only[Option.bind_some]
   have hb:=FY q 1 (by omega)
   have c1:q.length+[UInt8.ofInt (ae ((oK 1 q).tdiv 256)),UInt8.ofInt ((oK 1 q).tmod 256)].length<=bk:=cQ (by simp only[List.length_cons,List.length_nil];omega)
   rw[if_pos c1,JK hb.1,Int.tdiv_eq_ediv_of_nonneg hb.1,aR (by omega)]) (mH (K,T,P,xs,())) (by simp[ei]) k (by omega)
 rw[en,wC] at this
 exact this
theorem EM (r:aO) (h:zG r):cy.ab (r,())=some (rh r,()):=by
 obtain ⟨K,T,P,xs,⟨⟩⟩:=r
 obtain ⟨h1,Y⟩:=h
 simp only at h1 Y
 refine ag (k:=6000) fun k hk=>(cy.aa k _).trans ?_
 have hlen:∀ i,(ei (xs.take i)).length<=66*64:=fun i=>by
  have:=wB (xs:=xs.take i) (fun x hx=>Y x (List.mem_of_mem_take hx))
  have:(xs.take i).length<=xs.length:=by simp;omega
  omega
 have RF:∀ q:List UInt8,q.length<=5000->cy.r1 k ((K,T,P,xs,()),()) q (q.length:Int) (1,0)=some (q++[UInt8.ofInt ((oK 1 q) / 256),UInt8.ofInt (oK 1 q)],()):=fun q hq=>by
  have:=bc (B:=fun self v=>cy.B1 0 self (fun z=>cy.Q1 0 ((K,T,P,xs,()),()) q (q.length:Int) z) ((K,T,P,xs,()),()) q (q.length:Int) v) q (fun (s:Int) (i:Int)=>(s,i)) (fun _ s c=>.inr ((s*31+(c.toNat:Int)) % 65521)) (fun s=>(q++[UInt8.ofInt (s / 256),UInt8.ofInt s],())) (fun _ s=>0<=s/\s < 65521) (by rw[ah];omega)
   (fun i hi s self hI=>by
    show cy.b1 _ _ _ _ _ _=_
    unfold cy.b1
    have aj:(i:Int) < (q.length:Int):=by omega
    have lR:(0:Int)<=(i:Int)/\(i:Int) < (q.length:Int):=by omega
    simp only[aj,lR,and_self,decide_true,cond_true,Int.natCast_nonneg,if_true,Int.toNat_natCast,List.getElem?_eq_getElem hi,Option.bind_some,DN hI])
   (fun i hi s s' hI hs=>by injection hs with hs;omega) (fun s self hI=>by
    show cy.b1 _ _ _ _ _ _=_
    unfold cy.b1
    simp only[Int.lt_irrefl,decide_false,cond_false,cy.Q1,cy.q1]
    have c1:q.length+[UInt8.ofInt (s.fdiv (2 ^ 8)),UInt8.ofInt s].length<=bk:=cQ (by simp only[List.length_cons,List.length_nil];omega)
    rw[if_pos c1,Int.fdiv_eq_ediv_of_nonneg s (by omega:(0:Int)<=2 ^ 8)]
    rfl) 1 (by omega) k (by omega)
  rw[en] at this
  exact this
 have:=bc (B:=fun self v=>cy.B0 k self (fun z=>cy.Q0 k ((K,T,P,xs,()),()) z) ((K,T,P,xs,()),()) v) xs (fun (s:List UInt8) (i:Int)=>(s,i)) (fun _ s x=>.inr (s++lZ x)) (fun s=>(let q:=s.set 0 (UInt8.ofInt (ae ((s.length:Int)+2)));(q++[UInt8.ofInt ((oK 1 q) / 256),UInt8.ofInt (oK 1 q)],())))
  (fun i s=>s=mH (K,T,P,xs,())++ei (xs.take i)) (by rw[ah];omega)
  (fun i hi s self hI=>by
   show cy.b0 _ _ _ _=_
   unfold cy.b0
   have aj:(i:Int) < (xs.length:Int):=by omega
   have hs:s.length<=5000:=by rw[hI];have:=hlen i;simp only[List.length_append,mH,List.length_cons,List.length_nil];omega
   have hx:=Y xs[i] (List.getElem_mem hi)
   simp only[aj,decide_true,cond_true,Int.natCast_nonneg,if_true,Int.toNat_natCast,List.getElem?_eq_getElem hi,Option.bind_some]
   generalize xs[i]=x at hx
   have c1:s.length+[UInt8.ofInt x.1,UInt8.ofInt (List.length x.2.1:Int)].length<=bk:=cQ (by simp only[List.length_cons,List.length_nil];omega)
   have c2:(s++[UInt8.ofInt x.1,UInt8.ofInt (List.length x.2.1:Int)]).length+List.length x.2.1<=bk:=cQ (by simp only[List.length_append,List.length_cons,List.length_nil];omega)
   simp only[c1,c2,if_true,lZ,List.append_assoc,List.cons_append,List.nil_append])
  (fun i hi s s' hI hs=>by
   injection hs with hs
   rw[<-hs,hI,List.take_succ_eq_append_getElem hi,wA,List.append_assoc]
   simp[ei]) (fun s self hI=>by
   show cy.b0 _ _ _ _=_
   unfold cy.b0
   have hs:5<=s.length/\s.length<=5000:=by rw[hI];have:=hlen xs.length;simp only[List.length_append,mH,List.length_cons,List.length_nil];omega
   simp only[Int.lt_irrefl,decide_false,cond_false,cy.Q0,cy.q0]
   have c0:(0:Int)<=0/\(0:Int) < (s.length:Int):=⟨by omega,by omega⟩
   rw[if_pos c0,List.getElem?_eq_getElem (by omega:0 < s.length)]
   simp only[Option.bind_some]
   generalize hq:s.set 0 (UInt8.ofInt (ae ((s.length:Int)+2)))=q
   have TM:q.length=s.length:=by rw[<-hq];simp
   exact RF q (by omega)) (mH (K,T,P,xs,())) (by simp[ei]) k (by omega)
 rw[en,wC] at this
 exact this
end OT
set_option linter.unusedVariables false
set_option linter.unusedSimpArgs false
namespace OT
open Go
def aU (D:List UInt8) (i:Nat):Nat:=(D.getD i 0).toNat
theorem kt (D:List UInt8) (i:Nat):aU D i < 256:=UInt8.toNat_lt _
theorem jB {D:List UInt8} {i:Nat} (h:i < D.length):D[i]?=some D[i]/\(D[i]).toNat=aU D i:=⟨List.getElem?_eq_getElem h,by simp[aU,h]⟩
def piece (D:List UInt8) (OK n:Nat):cR:=((aU D OK:Int),(D.take (OK+2+n)).drop (OK+2),())
def pI (D:List UInt8) (e:Nat):Nat->Nat->List cR->Option (List cR×Nat)
 | 0,a,rs=>some (rs,a)
 | c+1,a,rs=>if e < a+2 then none else if e < a+2+aU D (a+1) then none else pI D e c (a+2+aU D (a+1)) (rs++[piece D a (aU D (a+1))])
def pS (D:List UInt8):Nat->Nat->List cR->List cR
 | 0,_,rs=>rs
 | c+1,a,rs=>if a+2<=D.length then (if D.length < a+2+aU D (a+1) then rs else pS D c (a+2+aU D (a+1)) (rs++[piece D a (aU D (a+1))])) else rs
theorem HB {D:List UInt8} {e:Nat} (he:e<=D.length):∀ (c a:Nat) (rs Ba:List cR) (a':Nat),pI D e c a rs=some (Ba,a')->pS D c a rs=Ba
 | 0,a,rs,Ba,a',h=>by injection h with h;injection h
 | c+1,a,rs,Ba,a',h=>by
  simp only[pI] at h
  split at h
  ·cases h
  ·split at h
   ·cases h
   ·simp only[pS]
    rw[if_pos (by omega),if_neg (by omega)]
    exact HB he c _ _ _ _ h
theorem FZ {e:Nat}:∀ (ys:List cR) (pre qL:List UInt8) (rs:List cR),(∀ y ∈ ys,0<=y.1/\y.1<=63/\1<=bl y/\bl y<=64)->pre.length+(ei ys).length<=e ->
  pI (pre++ei ys++qL) e ys.length pre.length rs=some (rs++ys,pre.length+(ei ys).length)
 | [],pre,qL,rs,_,_=>by simp[pI,ei]
 | y::ys,pre,qL,rs,h,he=>by
  obtain ⟨b1,b2,b3,b4⟩:=h y (by simp)
  unfold bl at b3 b4
  have hD:pre++ei (y::ys)++qL=(pre++lZ y)++ei ys++qL:=by rw[mI];simp only[List.append_assoc]
  have QJ:(lZ y).length=2+List.length y.2.1:=by simp only[lZ,List.length_cons];omega
  have A5:(ei (y::ys)).length=2+List.length y.2.1+(ei ys).length:=by rw[mI,List.length_append,QJ]
  have h8:∀ n:Int,0<=n->n<=64->((UInt8.ofInt n).toNat:Int)=n:=fun n h1 Y=>by
   simp[UInt8.ofInt,BitVec.toNat_ofInt];omega
  have g0:(aU (pre++ei (y::ys)++qL) pre.length:Int)=y.1:=by
   unfold aU
   rw[mI]
   simp only[lZ,List.append_assoc,List.getD_eq_getElem?_getD]
   rw[List.getElem?_append_right (Nat.le_refl _)]
   simpa using h8 y.1 b1 (by omega)
  have g1:aU (pre++ei (y::ys)++qL) (pre.length+1)=List.length y.2.1:=by
   unfold aU
   rw[mI]
   simp only[lZ,List.append_assoc,List.getD_eq_getElem?_getD]
   rw[List.getElem?_append_right (by omega)]
   have:=h8 (List.length y.2.1:Int) (by omega) b4
   simp only[Nat.add_sub_cancel_left,List.cons_append,List.getElem?_cons_succ,List.getElem?_cons_zero,Option.getD_some]
   omega
  have g2:piece (pre++ei (y::ys)++qL) pre.length (List.length y.2.1)=y:=by
   obtain ⟨yi,yb,⟨⟩⟩:=y
   unfold piece
   have g0:(aU (pre++ei ((yi,yb,())::ys)++qL) pre.length:Int)=yi:=g0
   rw[g0]
   have:((pre++ei ((yi,yb,())::ys)++qL).take (pre.length+2+yb.length)).drop (pre.length+2)=yb:=by
    rw[mI]
    simp only[lZ,List.append_assoc,List.cons_append]
    rw[List.take_append,List.drop_append]
    have e1:List.take (pre.length+2+yb.length) pre=pre:=List.take_of_length_le (by omega)
    have e2:pre.length+2+yb.length - pre.length=yb.length+1+1:=by omega
    rw[e1,e2]
    have e3:List.drop (pre.length+2) pre=[]:=List.drop_of_length_le (by omega)
    have e4:pre.length+2 - pre.length=1+1:=by omega
    rw[e3,e4]
    simp
   show (yi,((pre++ei ((yi,yb,())::ys)++qL).take (pre.length+2+yb.length)).drop (pre.length+2),())=(yi,yb,())
   rw[this]
  simp only[List.length_cons,pI]
  rw[if_neg (by omega),g1,if_neg (by omega),g2,hD]
  have hl:(pre++lZ y).length=pre.length+2+List.length y.2.1:=by rw[List.length_append,QJ];omega
  have:=FZ (e:=e) ys (pre++lZ y) qL (rs++[y]) (fun z hz=>h z (by simp[hz])) (by rw[hl];omega)
  rw[hl] at this
  rw[this,A5]
  simp only[List.append_assoc,List.cons_append,List.nil_append]
  congr 2
  omega
def lJ (d:List UInt8):Option (aO×Nat):=
 if d.length < 7\/aU d 0 < 7\/d.length < aU d 0 then none else
 match pI (d.take (aU d 0)) (aU d 0 - 2) (aU d 4) 5 [] with
 | none=>none
 | some (rs,a)=>if a=aU d 0 - 2/\mG ((aU d 1:Int),(aU d 2:Int),(aU d 3:Int),rs,())=0/\rh ((aU d 1:Int),(aU d 2:Int),(aU d 3:Int),rs,())=d.take (aU d 0) then
   some (((aU d 1:Int),(aU d 2:Int),(aU d 3:Int),rs,()),aU d 0) else none
theorem DO {d:List UInt8} {n i:Nat} (h:i < n) (hn:n<=d.length):aU (d.take n) i=aU d i:=by
 unfold aU
 simp only[List.getD_eq_getElem?_getD]
 rw[List.getElem?_take,if_pos h]
theorem PD {D:List UInt8} (hl:7<=D.length) {rs:List cR} (Bb:pS D (aU D 4) 5 []=rs) {k t p:Int} (hr:mG (k,t,p,rs,())=0) (hp:rh (k,t,p,rs,())=D):pI D (D.length - 2) (aU D 4) 5 []=some (rs,D.length - 2):=by
 have hg:=o3 hr
 have h1:=hg.2.2.2.2.2.2.1
 have Y:=hg.2.2.2.2.2.2.2
 simp only at h1 Y
 have hlen:=A_ (k,t,p,rs,())
 rw[hp] at hlen
 simp only at hlen
 have OL:∃ (pre qL:List UInt8),pre.length=5/\D=pre++ei rs++qL/\pre[4]?=some (UInt8.ofInt (List.length rs:Int)):=by
  refine ⟨(mH (k,t,p,rs,())).set 0 (UInt8.ofInt (ae (((mH (k,t,p,rs,())++ei rs).length:Int)+2))),[UInt8.ofInt ((oK 1 (DL (k,t,p,rs,()))) / 256),UInt8.ofInt (oK 1 (DL (k,t,p,rs,())))],by simp[mH],?_,by simp[mH]⟩
  rw[<-hp]
  rfl
 obtain ⟨pre,qL,s1,s2,s3⟩:=OL
 have h4:aU D 4=List.length rs:=by
  unfold aU
  rw[s2]
  simp only[List.getD_eq_getElem?_getD,List.append_assoc]
  rw[List.getElem?_append_left (by omega),s3]
  simp[UInt8.ofInt,BitVec.toNat_ofInt]
  omega
 rw[h4]
 have:=FZ (e:=D.length - 2) rs pre qL [] Y (by omega)
 rw[<-s2,s1] at this
 rw[this]
 simp only[List.nil_append]
 congr 2
 omega
theorem jC {n:Nat} (h:n<=4000000000):ae (n:Int)=(n:Int):=aR (by omega)
theorem DP (a b:List UInt8) (h:a.length<=100000):bG.ab (a,b,())=some (decide (a=b),()):=by
 refine ag (k:=100001) fun k hk=>(bG.aa k _).trans ?_
 unfold bG.p
 by_cases hl:a.length=b.length
 rotate_left
 ·have h1:¬ ((a.length:Int)=(b.length:Int)):=by omega
  have Y:¬ a=b:=fun e=>hl (by rw[e])
  simp only[h1,Y,decide_false,Bool.not_false,cond_true]
 have gk:(a.length:Int)=(b.length:Int):=by omega
 simp only[gk,decide_true,Bool.not_true,cond_false]
 have key:∀ (m i:Nat),a.length - i=m->i<=a.length->∀ j,m < j->al (fun self v=>bG.B0 k self (fun z=>bG.Q0 k (a,b,()) z) (a,b,()) v) j (i:Int)=some (decide (a.drop i=b.drop i),()):=by
  intro m
  induction m with
  | zero=>
   intro i hm hi j hj
   have:i=a.length:=by omega
   subst this
   cases j with
   | zero=>omega
   | succ j=>
    show bG.b0 _ _ _ _=_
    unfold bG.b0
    simp only[Int.lt_irrefl,decide_false,cond_false,bG.Q0,bG.q0]
    rw[List.drop_length,hl,List.drop_length]
    simp
  | succ m ih=>
   intro i hm hi j hj
   have aj:i < a.length:=by omega
   cases j with
   | zero=>omega
   | succ j=>
    show bG.b0 _ _ _ _=_
    unfold bG.b0
    have RG:(i:Int) < (a.length:Int):=by omega
    have QL:i < b.length:=by omega
    have hw:ae ((i:Int)+1)=((i+1:Nat):Int):=by rw[aR (by omega)];omega
    simp only[RG,decide_true,cond_true,Int.natCast_nonneg,if_true,Int.toNat_natCast,List.getElem?_eq_getElem aj,List.getElem?_eq_getElem QL,Option.bind_some,hw]
    rw[List.drop_eq_getElem_cons aj,List.drop_eq_getElem_cons QL]
    by_cases he:a[i]=b[i]
    ·simp only[he,decide_true,Bool.not_true,cond_false,List.cons.injEq,true_and]
     exact ih (i+1) (by omega) (by omega) j (by omega)
    ·have:¬ (((a[i]).toNat:Int)=((b[i]).toNat:Int)):=fun e=>he (UInt8.toNat_inj.1 (by omega))
     have Y:¬ (a[i]::a.drop (i+1)=b[i]::b.drop (i+1)):=fun e=>he (by injection e)
     simp only[this,Y,decide_false,Bool.not_false,cond_true]
 have:=key a.length 0 (by omega) (by omega) k (by omega)
 simp only[List.drop_zero] at this
 exact this
def HC:aO:=((0:Int),(0:Int),(0:Int),([]:List cR),())
theorem JL {D:List UInt8} (hD:7<=D.length) (TN:D.length<=255) {a1:fD.Arg} {e0:(aO×Int)->Option fD.Out} {K T P N:Int} (hN:0<=N/\N<=255) {k:Nat} :
  ∀ (c a i:Nat) (rs:List cR),(i:Int)+c=N->a<=D.length - 2->rs.length<=i->∀ j,c < j ->
   al (fun self v=>fD.B0 k self e0 a1 D ((D.length - 2:Nat):Int) N v) j ((K,T,P,rs,()),(a:Int),(i:Int))=match pI D (D.length - 2) c a rs with
    | none=>some (HC,(0:Int),())
    | some (Ba,a')=>e0 ((K,T,P,Ba,()),(a':Int)):=by
 intro c
 induction c with
 | zero=>
  intro a i rs hi ha Bb j hj
  cases j with
  | zero=>omega
  | succ j=>
   show fD.b0 _ _ a1 _ _ _ _=_
   unfold fD.b0
   have:¬ (i:Int) < N:=by omega
   simp only[this,decide_false,cond_false,pI]
 | succ c ih=>
  intro a i rs hi ha Bb j hj
  cases j with
  | zero=>omega
  | succ j=>
   show fD.b0 _ _ a1 _ _ _ _=_
   unfold fD.b0
   have h1:(i:Int) < N:=by omega
   have e1:ae ((a:Int)+2)=((a+2:Nat):Int):=by rw[aR (by omega)];omega
   have e2:ae ((a:Int)+1)=((a+1:Nat):Int):=by rw[aR (by omega)];omega
   have e3:ae ((i:Int)+1)=((i+1:Nat):Int):=by rw[aR (by omega)];omega
   simp only[h1,decide_true,cond_true,e1,e2,e3,pI]
   by_cases Y:D.length - 2 < a+2
   ·have:((D.length - 2:Nat):Int) < ((a+2:Nat):Int):=by omega
    simp only[this,decide_true,cond_true,if_pos Y]
    rfl
   have IN:¬ ((D.length - 2:Nat):Int) < ((a+2:Nat):Int):=by omega
   obtain ⟨g1,g2⟩:=jB (show a+1 < D.length by omega)
   obtain ⟨g3,g4⟩:=jB (show a < D.length by omega)
   have hb:=kt D (a+1)
   have Nj:=kt D a
   simp only[IN,decide_false,cond_false,if_neg Y,Int.natCast_nonneg,if_true,Int.toNat_natCast,g1,g3,Option.bind_some,g2,g4,jC (show aU D (a+1)<=4000000000 by omega),jC (show aU D a<=4000000000 by omega)]
   have e4:ae (((a+2:Nat):Int)+(aU D (a+1):Int))=((a+2+aU D (a+1):Nat):Int):=by rw[aR (by omega)];omega
   have e5:ae ((2:Int)+(aU D (a+1):Int))=((2+aU D (a+1):Nat):Int):=by rw[aR (by omega)];omega
   have e6:ae ((a:Int)+((2+aU D (a+1):Nat):Int))=((a+2+aU D (a+1):Nat):Int):=by rw[aR (by omega)];omega
   simp only[e4,e5,e6]
   by_cases h3:D.length - 2 < a+2+aU D (a+1)
   ·have:((D.length - 2:Nat):Int) < ((a+2+aU D (a+1):Nat):Int):=by omega
    simp only[this,decide_true,cond_true,if_pos h3]
    rfl
   have CG:¬ ((D.length - 2:Nat):Int) < ((a+2+aU D (a+1):Nat):Int):=by omega
   have h4:((a+2:Nat):Int)<=((a+2+aU D (a+1):Nat):Int)/\((a+2+aU D (a+1):Nat):Int)<=(D.length:Int):=by omega
   simp only[CG,decide_false,cond_false,if_neg h3,h4,and_self,if_true,Int.toNat_natCast]
   rw[vf _ (by simp only[List.length_drop,List.length_take];omega)]
   have hc:rs.length+[(((aU D a:Nat):Int),((D.take (a+2+aU D (a+1))).drop (a+2)),())].length<=bk:=cQ (by simp only[List.length_cons,List.length_nil];omega)
   simp only[Option.bind_some,hc,if_true]
   exact ih (a+2+aU D (a+1)) (i+1) _ (by omega) (by omega) (by simp;omega) j (by omega)
theorem JM {D:List UInt8} (hD:7<=D.length) (TN:D.length<=255) {e0:aO->Option ft.Out} {K T P:Int} {k:Nat} :
  ∀ (c a i:Nat) (rs:List cR),i+c=aU D 4->a<=600->rs.length<=i->∀ j,c < j ->
   al (fun self v=>ft.B0 k self e0 (D,()) v) j ((K,T,P,rs,()),(a:Int),(i:Int))=e0 (K,T,P,pS D c a rs,()):=by
 intro c
 induction c with
 | zero=>
  intro a i rs hi ha Bb j hj
  cases j with
  | zero=>omega
  | succ j=>
   show ft.b0 _ _ (D,()) _=_
   unfold ft.b0
   obtain ⟨g1,g2⟩:=jB (show 4 < D.length by omega)
   have hb:=kt D 4
   simp only[g1,Option.bind_some,g2,jC (show aU D 4<=4000000000 by omega)]
   have:¬ (i:Int) < (aU D 4:Int):=by omega
   simp only[this,decide_false,cond_false,pS]
 | succ c ih=>
  intro a i rs hi ha Bb j hj
  cases j with
  | zero=>omega
  | succ j=>
   show ft.b0 _ _ (D,()) _=_
   unfold ft.b0
   obtain ⟨g1,g2⟩:=jB (show 4 < D.length by omega)
   have Ut:=kt D 4
   have h1:(i:Int) < (aU D 4:Int):=by omega
   have e1:ae ((a:Int)+2)=((a+2:Nat):Int):=by rw[aR (by omega)];omega
   have e2:ae ((a:Int)+1)=((a+1:Nat):Int):=by rw[aR (by omega)];omega
   have e3:ae ((i:Int)+1)=((i+1:Nat):Int):=by rw[aR (by omega)];omega
   simp only[g1,Option.bind_some,g2,jC (show aU D 4<=4000000000 by omega),h1,decide_true,cond_true,e1,e2,e3,pS]
   by_cases Y:a+2<=D.length
   rotate_left
   ·have:¬ ((a+2:Nat):Int)<=(D.length:Int):=by omega
    simp only[this,decide_false,cond_false,if_neg Y]
   have IN:((a+2:Nat):Int)<=(D.length:Int):=by omega
   obtain ⟨g5,g6⟩:=jB (show a+1 < D.length by omega)
   obtain ⟨g3,g4⟩:=jB (show a < D.length by omega)
   have hb:=kt D (a+1)
   have Nj:=kt D a
   simp only[IN,decide_true,cond_true,if_pos Y,Int.natCast_nonneg,if_true,Int.toNat_natCast,g5,g3,Option.bind_some,g6,g4,jC (show aU D (a+1)<=4000000000 by omega),jC (show aU D a<=4000000000 by omega)]
   have e4:ae (((a+2:Nat):Int)+(aU D (a+1):Int))=((a+2+aU D (a+1):Nat):Int):=by rw[aR (by omega)];omega
   simp only[e4]
   by_cases h3:D.length < a+2+aU D (a+1)
   ·have:(D.length:Int) < ((a+2+aU D (a+1):Nat):Int):=by omega
    simp only[this,decide_true,cond_true,if_pos h3]
   have CG:¬ (D.length:Int) < ((a+2+aU D (a+1):Nat):Int):=by omega
   have h4:((a+2:Nat):Int)<=((a+2+aU D (a+1):Nat):Int)/\((a+2+aU D (a+1):Nat):Int)<=(D.length:Int):=by omega
   simp only[CG,decide_false,cond_false,if_neg h3,h4,and_self,if_true,Int.toNat_natCast]
   rw[qb _ (by simp only[List.length_drop,List.length_take];omega)]
   have hc:rs.length+[(((aU D a:Nat):Int),((D.take (a+2+aU D (a+1))).drop (a+2)),())].length<=bk:=cQ (by simp only[List.length_cons,List.length_nil];omega)
   simp only[Option.bind_some,hc,if_true]
   exact ih (a+2+aU D (a+1)) (i+1) _ (by omega) (by omega) (by simp;omega) j (by omega)
theorem EN (d:List UInt8) (hd:d.length<=2000000000):fD.ab (d,())=some (match lJ d with | none=>(HC,(0:Int),()) | some (r,n)=>(r,(n:Int),())):=by
 refine ag (k:=300) fun k hk=>(fD.aa k _).trans ?_
 unfold fD.p lJ
 by_cases h7:d.length < 7
 ·have:(d.length:Int) < 7:=by omega
  simp only[this,decide_true,cond_true,h7,true_or,if_true]
  rfl
 have OM:¬ (d.length:Int) < 7:=by omega
 obtain ⟨g1,g2⟩:=jB (show 0 < d.length by omega)
 have hb:=kt d 0
 simp only[OM,decide_false,cond_false,h7,false_or,g1,Option.bind_some,g2,jC (show aU d 0<=4000000000 by omega)]
 by_cases hl:d.length < aU d 0
 ·have:(d.length:Int) < (aU d 0:Int):=by omega
  simp only[this,decide_true,cond_true,hl,or_true,if_true]
  rfl
 have gk:¬ (d.length:Int) < (aU d 0:Int):=by omega
 by_cases hm:aU d 0 < 7
 ·have:(aU d 0:Int) < 7:=by omega
  simp only[gk,decide_false,cond_false,this,decide_true,cond_true,hm,true_or,if_true]
  rfl
 have xn:¬ (aU d 0:Int) < 7:=by omega
 have et:0<=(aU d 0:Int)/\(aU d 0:Int)<=(d.length:Int):=by omega
 simp only[gk,xn,decide_false,cond_false,hl,hm,or_self,if_false,et,and_self,if_true,Int.toNat_natCast,List.drop_zero]
 generalize JN:d.take (aU d 0)=D
 have ON:D.length=aU d 0:=by rw[<-JN];simp;omega
 have ga:∀ i,i < aU d 0->aU D i=aU d i:=fun i hi=>by rw[<-JN];exact DO hi (by omega)
 obtain ⟨q1,q2⟩:=jB (show 1 < D.length by omega)
 obtain ⟨q3,q4⟩:=jB (show 2 < D.length by omega)
 obtain ⟨q5,q6⟩:=jB (show 3 < D.length by omega)
 obtain ⟨q7,q8⟩:=jB (show 4 < D.length by omega)
 have b1:=kt d 1
 have b2:=kt d 2
 have b3:=kt d 3
 have b4:=kt d 4
 have ew:ae ((D.length:Int) - 2)=((D.length - 2:Nat):Int):=by rw[aR (by omega)];omega
 simp only[q1,q3,q5,q7,Option.bind_some,q2,q4,q6,q8,ga 1 (by omega),ga 2 (by omega),ga 3 (by omega),ga 4 (by omega),ew,jC (show aU d 1<=4000000000 by omega),jC (show aU d 2<=4000000000 by omega),jC (show aU d 3<=4000000000 by omega),jC (show aU d 4<=4000000000 by omega)]
 have hp:=JL (D:=D) (by omega) (by omega) (a1:=(d,())) (e0:=fun z=>fD.Q0 k (d,()) D ((D.length - 2:Nat):Int) (aU d 4:Int) z) (K:=(aU d 1:Int)) (T:=(aU d 2:Int)) (P:=(aU d 3:Int)) (N:=(aU d 4:Int)) (by omega) (k:=k) (aU d 4) 5 0 [] (by omega) (by omega) (Nat.le_refl _) k (by omega)
 refine Eq.trans hp ?_
 rw[<-ON]
 cases pp:pI D (D.length - 2) (aU d 4) 5 [] with
 | none=>rfl
 | some q=>
  obtain ⟨rs,a⟩:=q
  simp only[fD.Q0,fD.q0]
  by_cases ha:a=D.length - 2
  rotate_left
  ·have:¬ ((a:Int)=((D.length - 2:Nat):Int)):=by omega
   simp only[this,decide_false,Bool.not_false,cond_true,ha,false_and,if_false]
   rfl
  subst ha
  simp only[decide_true,Bool.not_true,cond_false,zF,Option.bind_some,true_and]
  by_cases hr:mG ((aU d 1:Int),(aU d 2:Int),(aU d 3:Int),rs,())=0
  rotate_left
  ·simp only[hr,decide_false,Bool.not_false,cond_true,false_and,if_false]
   rfl
  have hs:=DM hr
  have dQ:=EK hs
  simp only[hr,decide_true,Bool.not_true,cond_false,EM _ hs,Option.bind_some,true_and]
  rw[DP _ _ (by omega)]
  by_cases he:rh ((aU d 1:Int),(aU d 2:Int),(aU d 3:Int),rs,())=D
  ·simp only[he,decide_true,Option.bind_some,Bool.not_true,cond_false,if_true]
  ·simp only[he,decide_false,Option.bind_some,Bool.not_false,cond_true,if_false]
   rfl
theorem EO (d:List UInt8) (hd:d.length<=2000000000):gU.ab (d,())=some (match lJ d with | none=>(((5:Int),(0:Int),HC,()),()) | some (r,n)=>(((0:Int),(n:Int),r,()),())):=by
 refine ag (k:=300) fun k hk=>(gU.aa k _).trans ?_
 show gU.p _=_
 unfold gU.p lJ
 by_cases h7:d.length < 7
 ·have:(d.length:Int) < 7:=by omega
  simp only[this,decide_true,cond_true,h7,true_or,if_true]
  rfl
 have OM:¬ (d.length:Int) < 7:=by omega
 obtain ⟨g1,g2⟩:=jB (show 0 < d.length by omega)
 have hb:=kt d 0
 simp only[OM,decide_false,cond_false,h7,false_or,g1,Option.bind_some,g2,jC (show aU d 0<=4000000000 by omega)]
 by_cases hm:aU d 0 < 7
 ·have:(aU d 0:Int) < 7:=by omega
  simp only[this,decide_true,cond_true,hm,true_or,if_true]
  rfl
 have xn:¬ (aU d 0:Int) < 7:=by omega
 by_cases hl:d.length < aU d 0
 ·have:(d.length:Int) < (aU d 0:Int):=by omega
  simp only[xn,decide_false,cond_false,this,decide_true,cond_true,hl,or_true,if_true]
  rfl
 have gk:¬ (d.length:Int) < (aU d 0:Int):=by omega
 have et:0<=(aU d 0:Int)/\(aU d 0:Int)<=(d.length:Int):=by omega
 simp only[gk,xn,decide_false,cond_false,hl,hm,or_self,if_false,et,and_self,if_true,Int.toNat_natCast,List.drop_zero]
 generalize JN:d.take (aU d 0)=D
 have ON:D.length=aU d 0:=by rw[<-JN];simp;omega
 have ga:∀ i,i < aU d 0->aU D i=aU d i:=fun i hi=>by rw[<-JN];exact DO hi (by omega)
 have PE:ft.ab (D,())=some (((aU d 1:Int),(aU d 2:Int),(aU d 3:Int),pS D (aU d 4) 5 [],()),()):=by
  refine ag (k:=300) fun k hk=>(ft.aa k _).trans ?_
  unfold ft.p
  obtain ⟨q1,q2⟩:=jB (show 1 < D.length by omega)
  obtain ⟨q3,q4⟩:=jB (show 2 < D.length by omega)
  obtain ⟨q5,q6⟩:=jB (show 3 < D.length by omega)
  have b1:=kt d 1
  have b2:=kt d 2
  have b3:=kt d 3
  have b4:=kt d 4
  simp only[q1,q3,q5,Option.bind_some,q2,q4,q6,ga 1 (by omega),ga 2 (by omega),ga 3 (by omega),jC (show aU d 1<=4000000000 by omega),jC (show aU d 2<=4000000000 by omega),jC (show aU d 3<=4000000000 by omega)]
  have hp:=JM (D:=D) (by omega) (by omega) (e0:=fun z=>ft.Q0 k (D,()) z) (K:=(aU d 1:Int)) (T:=(aU d 2:Int)) (P:=(aU d 3:Int)) (k:=k) (aU D 4) 5 0 [] (by omega) (by omega) (Nat.le_refl _) k (by rw[ga 4 (by omega)];omega)
  refine Eq.trans hp ?_
  rw[ga 4 (by omega)]
  rfl
 rw[PE]
 simp only[Option.bind_some,zE]
 rw[<-ON]
 generalize Bb:pS D (aU d 4) 5 []=rs
 by_cases hr:mG ((aU d 1:Int),(aU d 2:Int),(aU d 3:Int),rs,())=0
 ·have hs:=DM hr
  simp only[hr,decide_true,Bool.not_true,cond_false,EL _ hs,Option.bind_some]
  by_cases he:rh ((aU d 1:Int),(aU d 2:Int),(aU d 3:Int),rs,())=D
  ·have h4:aU D 4=aU d 4:=ga 4 (by omega)
   have pp:=PD (D:=D) (by omega) (by rw[h4];exact Bb) hr he
   rw[h4] at pp
   rw[pp]
   simp[he,hr]
  ·simp only[he,decide_false,Bool.not_false,cond_true]
   cases pp:pI D (D.length - 2) (aU d 4) 5 [] with
   | none=>rfl
   | some q=>
    obtain ⟨Ba,a'⟩:=q
    have:=HB (by omega) _ _ _ _ _ pp
    rw[Bb] at this
    subst this
    simp only[he,and_false,if_false]
    rfl
 ·simp only[hr,decide_false,Bool.not_false,cond_true]
  cases pp:pI D (D.length - 2) (aU d 4) 5 [] with
  | none=>rfl
  | some q=>
   obtain ⟨Ba,a'⟩:=q
   have:=HB (by omega) _ _ _ _ _ pp
   rw[Bb] at this
   subst this
   simp only[hr,false_and,and_false,if_false]
   rfl
end OT
set_option linter.unusedVariables false
set_option linter.unusedSimpArgs false
namespace OT
open Go
theorem tH {d:List UInt8} {r:aO} {n:Nat} (h:lJ d=some (r,n)):7<=n/\n<=d.length/\mG r=0:=by
 unfold lJ at h
 split at h
 ·cases h
 ·rename_i hc
  split at h
  ·cases h
  ·split at h
   ·rename_i hh
    injection h with h
    injection h with h1 Y
    subst h1
    omega
   ·cases h
theorem JO:lJ []=none:=rfl
def eA:Nat->List UInt8->List aO×Nat
 | 0,_=>([],0)
 | k+1,d=>match lJ d with
  | none=>([],0)
  | some (r,n)=>(r::(eA k (d.drop n)).1,n+(eA k (d.drop n)).2)
theorem mR:∀ (k k':Nat) (d:List UInt8),d.length < k->d.length < k'->eA k d=eA k' d
 | 0,_,_,h,_=>by omega
 | _+1,0,_,_,h=>by omega
 | k+1,k'+1,d,h,h'=>by
  simp only[eA]
  cases hr:lJ d with
  | none=>rfl
  | some q=>
   obtain ⟨r,n⟩:=q
   have hn:=tH hr
   have:(d.drop n).length=d.length - n:=List.length_drop
   simp only
   rw[mR k k' (d.drop n) (by omega) (by omega)]
def mJ (d:List UInt8):List aO×Nat:=eA (d.length+1) d
theorem uU (d:List UInt8) (hd:d.length<=1048576):fl.ab (d,())=some ((mJ d).1,((mJ d).2:Int),()):=by
 refine ag (k:=1048578) fun k hk=>(fl.aa k _).trans ?_
 have key:∀ (m a:Nat) (acc:List aO),d.length - a=m->a<=d.length->acc.length<=a->∀ j,m < j ->
   al (fun self v=>fl.B0 k self (d,()) v) j (acc,(a:Int))=some (acc++(eA (m+1) (d.drop a)).1,((a+(eA (m+1) (d.drop a)).2:Nat):Int),()):=by
  intro m
  induction m using Nat.strongRecOn with
  | ind m ih=>
  intro a acc hm ha RH j hj
  cases j with
  | zero=>omega
  | succ j=>
   show fl.b0 _ _ _=_
   unfold fl.b0
   have et:(0:Int)<=(a:Int)/\(a:Int)<=(d.length:Int):=by omega
   simp only[et,and_self,if_true,Int.toNat_natCast,List.take_length]
   rw[EN _ (by simp;omega)]
   simp only[Option.bind_some,eA]
   cases hr:lJ (d.drop a) with
   | none=>simp only[decide_true,cond_true,List.append_nil,Nat.add_zero];try rfl
   | some q=>
    obtain ⟨r,n⟩:=q
    have hn:=tH hr
    have hl:(d.drop a).length=d.length - a:=List.length_drop
    have h0:¬ ((n:Int)=0):=by omega
    have hc:acc.length+[r].length<=bk:=cQ (by simp only[List.length_cons,List.length_nil];omega)
    have ew:ae ((a:Int)+(n:Int))=((a+n:Nat):Int):=by rw[aR (by omega)];omega
    simp only[h0,decide_false,cond_false,hc,if_true,ew]
    have:=ih (d.length - (a+n)) (by omega) (a+n) (acc++[r]) rfl (by omega) (by simp;omega) j (by omega)
    refine Eq.trans this ?_
    have sy:(d.drop a).drop n=d.drop (a+n):=by rw[List.drop_drop]
    have oR:(d.drop (a+n)).length=d.length - (a+n):=List.length_drop
    rw[sy,mR m (d.length - (a+n)+1) (d.drop (a+n)) (by omega) (by omega)]
    simp only[List.append_assoc,List.cons_append,List.nil_append,Nat.add_assoc]
 have:=key d.length 0 [] rfl (by omega) (Nat.le_refl _) k (by omega)
 simp only[List.drop_zero,List.nil_append,Nat.zero_add] at this
 exact this
theorem uV (d:List UInt8) (hd:d.length<=1048576):dD.ab (d,())=some ((mJ d).1,((mJ d).2:Int),()):=by
 refine ag (k:=1048578) fun k hk=>(dD.aa k _).trans ?_
 have key:∀ (m a:Nat) (acc:List aO),d.length - a=m->a<=d.length->acc.length<=a->∀ j,m < j ->
   al (fun self v=>dD.B0 k self (fun z=>dD.Q0 k (d,()) z) (d,()) v) j (acc,(a:Int))=some (acc++(eA (m+1) (d.drop a)).1,((a+(eA (m+1) (d.drop a)).2:Nat):Int),()):=by
  intro m
  induction m using Nat.strongRecOn with
  | ind m ih=>
  intro a acc hm ha RH j hj
  cases j with
  | zero=>omega
  | succ j=>
   show dD.b0 _ _ (d,()) _=_
   unfold dD.b0
   by_cases aj:a < d.length
   rotate_left
   ·have h1:¬ (a:Int) < (d.length:Int):=by omega
    have Y:d.drop a=[]:=List.drop_of_length_le (by omega)
    simp only[h1,decide_false,cond_false,dD.Q0,dD.q0,Y,eA,JO,List.append_nil,Nat.add_zero]
    try rfl
   have oD:(a:Int) < (d.length:Int):=by omega
   have et:(0:Int)<=(a:Int)/\(a:Int)<=(d.length:Int):=by omega
   simp only[oD,decide_true,cond_true,et,and_self,if_true,Int.toNat_natCast,List.take_length]
   rw[EO _ (by simp;omega)]
   simp only[Option.bind_some,eA]
   cases hr:lJ (d.drop a) with
   | none=>
    have h5:¬ ((5:Int)=0):=by omega
    simp only[h5,decide_false,Bool.not_false,cond_true,List.append_nil,Nat.add_zero,dD.Q0,dD.q0];try rfl
   | some q=>
    obtain ⟨r,n⟩:=q
    have hn:=tH hr
    have hl:(d.drop a).length=d.length - a:=List.length_drop
    have hc:acc.length+[r].length<=bk:=cQ (by simp only[List.length_cons,List.length_nil];omega)
    have ew:ae ((a:Int)+(n:Int))=((a+n:Nat):Int):=by rw[aR (by omega)];omega
    simp only[decide_true,Bool.not_true,cond_false,hc,if_true,ew]
    have:=ih (d.length - (a+n)) (by omega) (a+n) (acc++[r]) rfl (by omega) (by simp;omega) j (by omega)
    refine Eq.trans this ?_
    have sy:(d.drop a).drop n=d.drop (a+n):=by rw[List.drop_drop]
    have oR:(d.drop (a+n)).length=d.length - (a+n):=List.length_drop
    rw[sy,mR m (d.length - (a+n)+1) (d.drop (a+n)) (by omega) (by omega)]
    simp only[List.append_assoc,List.cons_append,List.nil_append,Nat.add_assoc]
 have:=key d.length 0 [] rfl (by omega) (Nat.le_refl _) k (by omega)
 simp only[List.drop_zero,List.nil_append,Nat.zero_add] at this
 exact this
def Mo (l:Log):Prop:=List.length l.1<=1048576/\List.length l.2.1<=1048576
def lK (d:List UInt8):Bool:=decide ((mJ d).2=d.length)
def pV (l:Log):Int:=if 16000 < List.length l.1+List.length l.2.1 then 2 else if lK l.1&&lK l.2.1 then 0 else 5
theorem Bc (d:List UInt8):decide (((mJ d).2:Int)=(d.length:Int))=lK d:=by
 unfold lK
 by_cases h:(mJ d).2=d.length
 ·simp[h]
 ·have:¬ ((mJ d).2:Int)=(d.length:Int):=by omega
  simp[h,this]
theorem HD (l:Log) (h:Mo l):jO.ab (l,())=some (pV l,()):=by
 refine ag (k:=0) fun k _=>(jO.aa k _).trans ?_
 show jO.p _=_
 unfold jO.p pV
 obtain ⟨h1,Y⟩:=h
 have ew:ae ((List.length l.1:Int)+(List.length l.2.1:Int))=((List.length l.1+List.length l.2.1:Nat):Int):=by rw[aR (by omega)];omega
 simp only[ew,uV _ h1,uV _ Y,Option.bind_some,Bc]
 by_cases hc:16000 < List.length l.1+List.length l.2.1
 ·have:(16000:Int) < ((List.length l.1+List.length l.2.1:Nat):Int):=by omega
  simp only[this,hc,decide_true,cond_true,if_true]
  try rfl
 ·have:¬ (16000:Int) < ((List.length l.1+List.length l.2.1:Nat):Int):=by omega
  simp only[this,hc,decide_false,cond_false,if_false]
  cases lK l.1 <;> cases lK l.2.1 <;> rfl
theorem size_eq (l:Log) (h:Mo l):je.ab (l,())=some (((List.length l.1+List.length l.2.1:Nat):Int),()):=by
 refine ag (k:=0) fun k _=>(je.aa k _).trans ?_
 show je.p _=_
 unfold je.p
 obtain ⟨h1,Y⟩:=h
 have ew:ae ((List.length l.1:Int)+(List.length l.2.1:Int))=((List.length l.1+List.length l.2.1:Nat):Int):=by rw[aR (by omega)];omega
 rw[ew]
 try rfl
theorem HE (l:Log) (h:Mo l):dg.ab (l,())=some (pV l,()):=by
 refine ag (k:=5) fun k hk=>(dg.aa k _).trans ?_
 unfold dg.p pV
 rw[size_eq l h]
 have hl:∀ x ∈ [l.1,l.2.1],List.length x<=1048576:=by
  intro x hx
  simp only[List.mem_cons,List.not_mem_nil,or_false] at hx
  rcases hx with e | e <;> subst e
  ·exact h.1
  ·exact h.2
 have:=bc (B:=fun self v=>dg.B0 0 self (fun z=>dg.Q0 0 (l,()) z) (l,()) v) [l.1,l.2.1] (fun (_:Unit) (i:Int)=>i) (fun _ _ x=>if lK x then .inr () else .inl (5,())) (fun _=>(0,())) (fun _ _=>True) (by rw[ah];simp)
  (fun i hi s self hI=>by
   show dg.b0 _ _ _ _=_
   unfold dg.b0
   have aj:(i:Int) < ([l.1,l.2.1].length:Int):=by omega
   have et:(0:Int)<=(i:Int)/\(i:Int) < ([l.1,l.2.1].length:Int):=by omega
   simp only[aj,et,and_self,decide_true,cond_true,if_true,Int.toNat_natCast,List.getElem?_eq_getElem hi,Option.bind_some]
   have hx:=hl [l.1,l.2.1][i] (List.getElem_mem hi)
   generalize [l.1,l.2.1][i]=x at hx
   rw[uU x hx]
   simp only[Option.bind_some,Bc]
   cases lK x <;> rfl)
  (fun _ _ _ _ _ _=>trivial) (fun s self _=>by
   show dg.b0 _ _ _ _=_
   unfold dg.b0
   simp[dg.Q0,dg.q0]) () trivial k (by simp only[List.length_cons,List.length_nil];omega)
 rw[ls lK (5,()) (fun _=>(0,()))] at this
 have this:dg.r0 k (l,()) 0=_:=this
 simp only[Option.bind_some,this]
 by_cases hc:16000 < List.length l.1+List.length l.2.1
 ·have:(16000:Int) < ((List.length l.1+List.length l.2.1:Nat):Int):=by omega
  simp only[this,hc,decide_true,cond_true,if_true]
 ·have:¬ (16000:Int) < ((List.length l.1+List.length l.2.1:Nat):Int):=by omega
  simp only[this,hc,decide_false,cond_false,if_false,List.all_cons,List.all_nil,Bool.and_true]
  cases lK l.1 <;> cases lK l.2.1 <;> rfl
end OT
set_option linter.unusedVariables false
set_option linter.unusedSimpArgs false
namespace OT
open Go
theorem HF:fm.ab ((0:UInt8),())=some (uB,()):=by
 refine ag (k:=66) fun k hk=>(fm.aa k _).trans ?_
 unfold fm.p
 have:=bc (B:=fun self v=>fm.B0 0 self (fun z=>fm.Q0 0 ((0:UInt8),()) z) ((0:UInt8),()) v) (List.replicate 64 (0:UInt8)) (fun (s:List UInt8) (i:Int)=>(s,i)) (fun _ s _=>.inr s) (fun s=>(uB,())) (fun _ s=>s=List.replicate 64 (0:UInt8)) (by rw[ah];simp)
  (fun i hi s self hI=>by
   show fm.b0 _ _ _ _=_
   unfold fm.b0
   subst hI
   simp only[List.length_replicate] at hi ⊢
   have aj:(i:Int) < ((64:Nat):Int):=by omega
   have et:(0:Int)<=(i:Int)/\(i:Int) < ((64:Nat):Int):=by omega
   have hg:(List.replicate 64 (0:UInt8))[i]?=some 0:=(List.getElem?_replicate (n:=64) (i:=i) (a:=(0:UInt8))).trans (if_pos hi)
   have hs:(List.replicate 64 (0:UInt8)).set i 0=List.replicate 64 (0:UInt8):=List.set_replicate_self
   simp only[aj,et,and_self,decide_true,cond_true,if_true,Int.toNat_natCast,hg,Option.bind_some,hs])
  (fun i hi s s' hI hs=>by injection hs with hs;rw[<-hs,hI]) (fun s self hI=>by
   show fm.b0 _ _ _ _=_
   unfold fm.b0
   subst hI
   simp only[List.length_replicate,Int.lt_irrefl,decide_false,cond_false]
   rfl) (List.replicate 64 (0:UInt8)) rfl k (by simp;omega)
 rw[en (g:=fun s _=>s)] at this
 have hc:(0:Int)<=64/\(64:Int)<=64/\(64:Int)<=(bk:Int):=⟨by omega,by omega,by simp only[bk];omega⟩
 rw[if_pos hc]
 exact this
theorem HG:gJ.ab ((0:UInt8),())=some (uB,()):=by
 refine ag (k:=66) fun k hk=>(gJ.aa k _).trans ?_
 unfold gJ.p
 have:=bc (B:=fun self v=>gJ.B0 0 self (fun z=>gJ.Q0 0 ((0:UInt8),()) z) ((0:UInt8),()) v) (List.replicate 64 (0:UInt8)) (fun (s:List UInt8) (i:Int)=>(s,i)) (fun _ s _=>.inr s) (fun s=>(uB,())) (fun _ s=>s=List.replicate 64 (0:UInt8)) (by rw[ah];simp)
  (fun i hi s self hI=>by
   show gJ.b0 _ _ _ _=_
   unfold gJ.b0
   subst hI
   simp only[List.length_replicate] at hi ⊢
   have aj:(i:Int) < (64:Int):=by omega
   have et:(0:Int)<=(i:Int)/\(i:Int) < ((64:Nat):Int):=by omega
   have hg:(List.replicate 64 (0:UInt8))[i]?=some 0:=(List.getElem?_replicate (n:=64) (i:=i) (a:=(0:UInt8))).trans (if_pos hi)
   have hs:(List.replicate 64 (0:UInt8)).set i 0=List.replicate 64 (0:UInt8):=List.set_replicate_self
   simp only[aj,et,and_self,decide_true,cond_true,if_true,Int.toNat_natCast,hg,Option.bind_some,hs])
  (fun i hi s s' hI hs=>by injection hs with hs;rw[<-hs,hI]) (fun s self hI=>by
   show gJ.b0 _ _ _ _=_
   unfold gJ.b0
   subst hI
   have:¬ (((64:Nat):Int) < 64):=by omega
   simp only[List.length_replicate,this,decide_false,cond_false]
   rfl) (List.replicate 64 (0:UInt8)) rfl k (by simp;omega)
 rw[en (g:=fun s _=>s)] at this
 have hc:(0:Int)<=64/\(64:Int)<=64/\(64:Int)<=(bk:Int):=⟨by omega,by omega,by simp only[bk];omega⟩
 rw[if_pos hc]
 exact this
end OT
set_option linter.unusedVariables false
set_option linter.unusedSimpArgs false
namespace OT
open Go
def HH (p:List UInt8) (r:cR):List UInt8:=lN p r.1.toNat (min (List.length r.2.1) (p.length - r.1.toNat)) r.2.1
def zH (p:List UInt8) (rs:List cR):List UInt8:=rs.foldl HH p
theorem yj {p:List UInt8} {r:cR} (h:r.1.toNat<=p.length):(HH p r).length=p.length:=xh _ _ (by omega) (by omega)
theorem zI:∀ (rs:List cR) (p:List UInt8),p.length=64->(∀ r ∈ rs,0<=r.1/\r.1<=63)->(zH p rs).length=64
 | [],p,h,_=>h
 | r::rs,p,h,hr=>by
  have:=hr r (by simp)
  exact zI rs _ (by rw[yj (by omega)];exact h) (fun x hx=>hr x (by simp[hx]))
theorem Ar (p:List UInt8) (rs:List cR) (hp:p.length=64) (hl:rs.length<=64) (hr:∀ r ∈ rs,0<=r.1/\r.1<=63):eM.ab (p,rs,())=some (zH p rs,()):=by
 refine ag (k:=66) fun k hk=>(eM.aa k _).trans ?_
 unfold eM.p
 rw[vf _ (by show p.length<=_;omega)]
 have:=bc (B:=fun self v=>eM.B0 0 self (fun z=>eM.Q0 0 (p,rs,()) z) (p,rs,()) v) rs (fun (s:List UInt8) (i:Int)=>(s,i)) (fun _ s r=>.inr (HH s r)) (fun s=>(s,())) (fun _ s=>s.length=64) (by rw[ah];omega)
  (fun i hi s self hI=>by
   show eM.b0 _ _ _ _=_
   unfold eM.b0
   have aj:(i:Int) < (rs.length:Int):=by omega
   have hx:=hr rs[i] (List.getElem_mem hi)
   have et:(0:Int)<=(rs[i]).1/\(rs[i]).1<=(s.length:Int):=by omega
   simp only[aj,decide_true,cond_true,Int.natCast_nonneg,if_true,Int.toNat_natCast,List.getElem?_eq_getElem hi,Option.bind_some,et,and_self]
   rfl)
  (fun i hi s s' hI hs=>by
   injection hs with hs
   have hx:=hr rs[i] (List.getElem_mem hi)
   rw[<-hs,yj (by omega)];exact hI) (fun s self hI=>by
   show eM.b0 _ _ _ _=_
   unfold eM.b0
   simp only[Int.lt_irrefl,decide_false,cond_false]
   rfl) p hp k (by omega)
 rw[en] at this
 exact this
theorem As (p:List UInt8) (rs:List cR) (hp:p.length=64) (hl:rs.length<=64) (hr:∀ r ∈ rs,0<=r.1/\r.1<=63):eI.ab (p,rs,())=some (zH p rs,()):=by
 refine ag (k:=66) fun k hk=>(eI.aa k _).trans ?_
 unfold eI.p
 rw[qb _ (by show p.length<=_;omega)]
 have:=bc (B:=fun self v=>eI.B0 0 self (fun z=>eI.Q0 0 (p,rs,()) z) (p,rs,()) v) rs (fun (s:List UInt8) (i:Int)=>(s,i)) (fun _ s r=>.inr (HH s r)) (fun s=>(s,())) (fun _ s=>s.length=64) (by rw[ah];omega)
  (fun i hi s self hI=>by
   show eI.b0 _ _ _ _=_
   unfold eI.b0
   have aj:(i:Int) < (rs.length:Int):=by omega
   have hx:=hr rs[i] (List.getElem_mem hi)
   have et:(0:Int)<=(rs[i]).1/\(rs[i]).1<=(s.length:Int):=by omega
   simp only[aj,decide_true,cond_true,Int.natCast_nonneg,if_true,Int.toNat_natCast,List.getElem?_eq_getElem hi,Option.bind_some,et,and_self]
   rfl)
  (fun i hi s s' hI hs=>by
   injection hs with hs
   have hx:=hr rs[i] (List.getElem_mem hi)
   rw[<-hs,yj (by omega)];exact hI) (fun s self hI=>by
   show eI.b0 _ _ _ _=_
   unfold eI.b0
   simp only[Int.lt_irrefl,decide_false,cond_false]
   rfl) p hp k (by omega)
 rw[en] at this
 exact this
theorem K9 (ps:gq) (h:ps.length<=12):fF.ab (ps,())=some (ps,()):=by
 refine ag (k:=0) fun k _=>(fF.aa k _).trans ?_
 show fF.p _=_
 unfold fF.p
 refine FJ (fun e=>by rw[show ps=[] from e]) ?_
 have:([]:List (List UInt8)).length+ps.length<=bk:=cQ (by simp only[List.length_nil];omega)
 rw[if_pos this,List.nil_append]
def yk (q:gq) (r:aO):gq:=q.set r.2.2.1.toNat (zH (q.getD r.2.2.1.toNat []) r.2.2.2.1)
def jq (ps:gq) (r:aO):Sum Int gq:=
 if mG r=0 then (if ci r.1 2 4 then (if (ps.length:Int) < r.2.2.1 then .inl 1 else .inr (yk (if r.2.2.1=(ps.length:Int) then ps++[uB] else ps) r)) else .inr ps) else .inl (mG r)
theorem wD {ps:gq} {r:aO} {c:Int} (h:jq ps r=.inl c):c≠0:=by
 unfold jq at h
 split at h
 ·split at h
  ·split at h
   ·injection h with h;subst h;decide
   ·cases h
  ·cases h
 ·rename_i hr
  injection h with h;subst h;exact hr
theorem Bd {q:gq} {r:aO} (hq:gp q) (hr:mG r=0) (hp:r.2.2.1.toNat < q.length):gp (yk q r):=by
 have hg:=o3 hr
 refine ⟨by simp[yk];exact hq.1,fun p hm=>?_⟩
 rcases List.mem_or_eq_of_mem_set hm with h | h
 ·exact hq.2 p h
 ·subst h
  have hx:q.getD r.2.2.1.toNat []=q[r.2.2.1.toNat]:=by simp[hp]
  rw[hx]
  exact zI _ _ (hq.2 _ (List.getElem_mem hp)) (fun x hx=>by have:=hg.2.2.2.2.2.2.2 x hx;omega)
theorem uW {ps mS:gq} {r:aO} (hp:gp ps) (h:jq ps r=.inr mS):gp mS:=by
 unfold jq at h
 split at h
 ·rename_i hr
  have hg:=o3 hr
  split at h
  ·split at h
   ·cases h
   ·rename_i hl
    injection h with h
    subst h
    split
    ·rename_i he
     refine Bd ⟨by simp;omega,fun p hm=>?_⟩ hr (by simp;omega)
     rcases List.mem_append.1 hm with hm | hm
     ·exact hp.2 p hm
     ·simp only[List.mem_singleton] at hm;subst hm;exact x9
    ·rename_i he
     exact Bd hp hr (by omega)
  ·injection h with h;subst h;exact hp
 ·cases h
theorem zJ (ps:gq) (r:aO) (hp:gp ps) (hr:mG r=0):ic.ab (ps,r,())=some (match jq ps r with | .inl c=>(([]:gq),c,()) | .inr mS=>(mS,(0:Int),())):=by
 refine ag (k:=0) fun k _=>(ic.aa k _).trans ?_
 show ic.p _=_
 have hg:=o3 hr
 unfold ic.p jq
 simp only[DK,hr,if_true,Option.bind_some]
 cases ht:ci r.1 2 4 with
 | false=>rfl
 | true=>
  simp only[Bool.not_true,cond_false,if_true]
  by_cases hl:(ps.length:Int) < r.2.2.1
  ·simp only[hl,decide_true,cond_true,if_true]
  have Cf:¬ r.2.2.1=12:=by omega
  simp only[hl,Cf,decide_false,cond_false,if_false,K9 ps hp.1,Option.bind_some]
  have key:∀ q:gq,gp q->r.2.2.1.toNat < q.length->(if 0<=r.2.2.1/\r.2.2.1 < (q.length:Int) then ((q[r.2.2.1.toNat]?).bind fun Ox=>(eM.ab (Ox,r.2.2.2.1,())).bind fun Oy=>if 0<=r.2.2.1/\r.2.2.1 < (q.length:Int) then ((q[r.2.2.1.toNat]?).bind fun Tv=>some (q.set r.2.2.1.toNat Oy.1,(0:Int),())) else none) else none:Option ic.Out)=some (yk q r,(0:Int),()):=fun q hq aj=>by
   have hc:0<=r.2.2.1/\r.2.2.1 < (q.length:Int):=by omega
   simp only[hc,and_self,if_true,List.getElem?_eq_getElem aj,Option.bind_some]
   rw[Ar _ _ (hq.2 _ (List.getElem_mem aj)) hg.2.2.2.2.2.2.1 (fun x hx=>by have:=hg.2.2.2.2.2.2.2 x hx;omega)]
   have hx:q.getD r.2.2.1.toNat []=q[r.2.2.1.toNat]:=by simp[aj]
   unfold yk
   rw[hx]
   rfl
  by_cases he:r.2.2.1=(ps.length:Int)
  ·have zd:ps.length+[uB].length<=bk:=cQ (by have:=hp.1;simp only[List.length_cons,List.length_nil];omega)
   rw[if_pos he]
   simp only[he,decide_true,cond_true,HF,Option.bind_some,zd,if_true]
   rw[<-he]
   refine key _ ⟨by simp;omega,fun p hm=>?_⟩ (by simp;omega)
   rcases List.mem_append.1 hm with hm | hm
   ·exact hp.2 p hm
   ·simp only[List.mem_singleton] at hm;subst hm;exact x9
  ·rw[if_neg he]
   simp only[he,decide_false,cond_false]
   exact key ps hp (by omega)
theorem EP (c:Int):jI.ab (c,())=some ((c,([]:List cR),([]:List (List UInt8)),()),()):=by
 refine ag (k:=0) fun k _=>(jI.aa k _).trans ?_
 rfl
theorem By (ps:gq) (r:aO) (hp:gp ps):b_.ab (ps,r,())=some (match jq ps r with | .inl c=>((c,([]:List cR),([]:gq),()),()) | .inr mS=>(((0:Int),([]:List cR),mS,()),())):=by
 refine ag (k:=14) fun k hk=>(b_.aa k _).trans ?_
 unfold b_.p
 have Cf:¬ (12:Int) < (ps.length:Int):=by have:=hp.1;omega
 simp only[Cf,decide_false,cond_false]
 have main:b_.Q0 0 (ps,r,()) ()=some (match jq ps r with | .inl c=>((c,([]:List cR),([]:gq),()),()) | .inr mS=>(((0:Int),([]:List cR),mS,()),())):=by
  show b_.q0 _ _=_
  unfold b_.q0 jq
  simp only[zE,EP,Bv ps hp,wz,Option.bind_some]
  by_cases hr:mG r=0
  rotate_left
  ·simp only[hr,decide_false,Bool.not_false,cond_true,if_false]
  have hg:=o3 hr
  simp only[hr,decide_true,Bool.not_true,cond_false,if_true]
  cases ht:ci r.1 2 4 with
  | false=>rfl
  | true=>
   simp only[Bool.not_true,cond_false,if_true]
   by_cases hl:(ps.length:Int) < r.2.2.1
   ·simp only[hl,decide_true,cond_true,if_true]
   have Cf:¬ r.2.2.1=12:=by omega
   simp only[hl,Cf,decide_false,cond_false,if_false]
   have key:∀ q:gq,gp q->r.2.2.1.toNat < q.length->(if 0<=r.2.2.1/\r.2.2.1 < (q.length:Int) then ((q[r.2.2.1.toNat]?).bind fun Rq=>(q[r.2.2.1.toNat]?).bind fun KF=>(eI.ab (KF,r.2.2.2.1,())).bind fun KG=>if 0<=r.2.2.1/\r.2.2.1 < (q.length:Int) then ((q[r.2.2.1.toNat]?).bind fun Rr=>some (((0:Int),([]:List cR),q.set r.2.2.1.toNat KG.1,()),())) else none) else none:Option b_.Out)=some (((0:Int),([]:List cR),yk q r,()),()):=fun q hq aj=>by
    have hc:0<=r.2.2.1/\r.2.2.1 < (q.length:Int):=by omega
    simp only[hc,and_self,if_true,List.getElem?_eq_getElem aj,Option.bind_some]
    rw[As _ _ (hq.2 _ (List.getElem_mem aj)) hg.2.2.2.2.2.2.1 (fun x hx=>by have:=hg.2.2.2.2.2.2.2 x hx;omega)]
    have hx:q.getD r.2.2.1.toNat []=q[r.2.2.1.toNat]:=by simp[aj]
    unfold yk
    rw[hx]
    rfl
   by_cases he:r.2.2.1=(ps.length:Int)
   ·have zd:ps.length+[uB].length<=bk:=cQ (by have:=hp.1;simp only[List.length_cons,List.length_nil];omega)
    rw[if_pos he]
    simp only[he,decide_true,cond_true,HG,Option.bind_some,zd,if_true]
    rw[<-he]
    refine key _ ⟨by simp;omega,fun p hm=>?_⟩ (by simp;omega)
    rcases List.mem_append.1 hm with hm | hm
    ·exact hp.2 p hm
    ·simp only[List.mem_singleton] at hm;subst hm;exact x9
   ·rw[if_neg he]
    simp only[he,decide_false,cond_false]
    exact key ps hp (by omega)
 have:=bc (B:=fun self v=>b_.B0 0 self (fun z=>b_.Q0 0 (ps,r,()) z) (ps,r,()) v) ps (fun (s:Unit) (i:Int)=>i) (fun _ s x=>.inr s) (fun s=>(match jq ps r with | .inl c=>((c,([]:List cR),([]:gq),()),()) | .inr mS=>(((0:Int),([]:List cR),mS,()),()))) (fun i s=>True) (by have:=hp.1;rw[ah];omega)
  (fun i hi s self hI=>by
   show b_.b0 _ _ _ _=_
   unfold b_.b0
   have aj:(i:Int) < (ps.length:Int):=by omega
   have hx:((ps[i].length:Nat):Int)=64:=by have:=hp.2 ps[i] (List.getElem_mem hi);omega
   simp only[aj,decide_true,cond_true,Int.natCast_nonneg,if_true,Int.toNat_natCast,List.getElem?_eq_getElem hi,Option.bind_some,hx,Bool.not_true,cond_false])
  (fun _ _ _ _ _ _=>trivial) (fun s self hI=>by
   show b_.b0 _ _ _ _=_
   unfold b_.b0
   simp only[Int.lt_irrefl,decide_false,cond_false]
   exact main) () trivial k (by have:=hp.1;omega)
 rw[en (g:=fun s _=>s)] at this
 exact this
def oA (xs:List aO):gq×Int×Unit:=aV (fun _ ps r=>match jq ps r with | .inl c=>.inl (([]:gq),c,()) | .inr mS=>.inr mS) (fun ps=>(ps,(0:Int),())) 0 xs []
theorem zK (xs:List aO):(oA xs).2.1=0->gp (oA xs).1:=by
 have main:∀ (xs:List aO) (i:Nat) (ps:gq),gp ps->(aV (fun _ ps r=>match jq ps r with | .inl c=>.inl (([]:gq),c,()) | .inr mS=>.inr mS) (fun ps=>(ps,(0:Int),())) i xs ps).2.1=0->gp (aV (fun _ ps r=>match jq ps r with | .inl c=>.inl (([]:gq),c,()) | .inr mS=>.inr mS) (fun ps=>(ps,(0:Int),())) i xs ps).1:=by
  intro xs
  induction xs with
  | nil=>intro i ps h _;exact h
  | cons x xs ih=>
   intro i ps h
   simp only[aV]
   cases hs:jq ps x with
   | inl c=>intro h0;exact absurd h0 (wD hs)
   | inr mS=>exact ih _ _ (uW h hs)
 exact main xs 0 [] ⟨by simp,fun _ h=>by cases h⟩
theorem EQ (xs:List aO) (hx:xs.length<=maxLen):fS.ab (xs,())=some (oA xs):=by
 refine ag (k:=xs.length+1) fun k hk=>(fS.aa k _).trans ?_
 exact bc (B:=fun self v=>fS.B0 0 self (fun z=>fS.Q0 0 (xs,()) z) (xs,()) v) xs (fun (s:gq) (i:Int)=>(s,i)) (fun _ ps r=>match jq ps r with | .inl c=>.inl (([]:gq),c,()) | .inr mS=>.inr mS) (fun ps=>(ps,(0:Int),())) (fun _ s=>gp s) hx
  (fun i hi s self hI=>by
   show fS.b0 _ _ _ _=_
   unfold fS.b0
   have aj:(i:Int) < (xs.length:Int):=by omega
   simp only[aj,decide_true,cond_true,Int.natCast_nonneg,if_true,Int.toNat_natCast,List.getElem?_eq_getElem hi,Option.bind_some,By s _ hI]
   cases hs:jq s xs[i] with
   | inl c=>
    have:=wD hs
    simp only[this,decide_false,Bool.not_false,cond_true]
   | inr mS=>simp only[decide_true,Bool.not_true,cond_false])
  (fun i hi s s' hI hs=>by
   cases h:jq s xs[i] with
   | inl c=>rw[h] at hs;cases hs
   | inr mS=>rw[h] at hs;injection hs with hs;subst hs;exact uW hI h) (fun s self hI=>by
   show fS.b0 _ _ _ _=_
   unfold fS.b0
   simp only[Int.lt_irrefl,decide_false,cond_false]
   rfl) [] ⟨by simp,fun _ h=>by cases h⟩ k (by omega)
theorem ER (xs:List aO) (hx:xs.length<=maxLen):jg.ab (xs,())=some (oA xs):=by
 refine ag (k:=xs.length+1) fun k hk=>(jg.aa k _).trans ?_
 exact bc (B:=fun self v=>jg.B0 0 self (fun z=>jg.Q0 0 (xs,()) z) (xs,()) v) xs (fun (s:gq) (i:Int)=>(s,i)) (fun _ ps r=>match jq ps r with | .inl c=>.inl (([]:gq),c,()) | .inr mS=>.inr mS) (fun ps=>(ps,(0:Int),())) (fun _ s=>gp s) hx
  (fun i hi s self hI=>by
   show jg.b0 _ _ _ _=_
   unfold jg.b0
   have aj:(i:Int) < (xs.length:Int):=by omega
   simp only[aj,decide_true,cond_true,Int.natCast_nonneg,if_true,Int.toNat_natCast,List.getElem?_eq_getElem hi,Option.bind_some,zF]
   by_cases hr:mG xs[i]=0
   ·simp only[hr,decide_true,Bool.not_true,cond_false,zJ s _ hI hr,Option.bind_some]
    cases hs:jq s xs[i] with
    | inl c=>
     have:=wD hs
     simp only[this,decide_false,Bool.not_false,cond_true]
    | inr mS=>simp only[decide_true,Bool.not_true,cond_false]
   ·have hs:jq s xs[i]=.inl (mG xs[i]):=by unfold jq;rw[if_neg hr]
    simp only[hr,decide_false,Bool.not_false,cond_true,hs])
  (fun i hi s s' hI hs=>by
   cases h:jq s xs[i] with
   | inl c=>rw[h] at hs;cases hs
   | inr mS=>rw[h] at hs;injection hs with hs;subst hs;exact uW hI h) (fun s self hI=>by
   show jg.b0 _ _ _ _=_
   unfold jg.b0
   simp only[Int.lt_irrefl,decide_false,cond_false]
   rfl) [] ⟨by simp,fun _ h=>by cases h⟩ k (by omega)
end OT
set_option linter.unusedVariables false
set_option linter.unusedSimpArgs false
namespace OT
open Go
def pG (x:Tx):Int:=if sG x=0 then mQ x else sG x
theorem Be {α:Type} (c:Nat->α->Int):∀ (xs:List α) (i:Nat),aV (fun i (_:Unit) y=>if c i y=0 then .inr () else .inl (c i y,())) (fun _=>((0:Int),())) i xs ()=(aV (fun i (_:Unit) y=>if c i y=0 then .inr () else .inl (c i y)) (fun _=>(0:Int)) i xs (),())
 | [],_=>rfl
 | y::ys,i=>by simp only[aV];by_cases h0:c i y=0 <;> simp[h0,Be c ys (i+1)]
theorem ri {α:Type} (c:Nat->α->Int) (E:Option (Int×Unit)):∀ (xs:List α) (i:Nat),aV (fun i (_:Unit) y=>if c i y=0 then .inr () else .inl (some (c i y,()))) (fun _=>E) i xs () =
  if aV (fun i (_:Unit) y=>if c i y=0 then .inr () else .inl (c i y)) (fun _=>(0:Int)) i xs ()=0 then E else some (aV (fun i (_:Unit) y=>if c i y=0 then .inr () else .inl (c i y)) (fun _=>(0:Int)) i xs (),())
 | [],_=>rfl
 | y::ys,i=>by simp only[aV];by_cases h0:c i y=0 <;> simp[h0,ri c E ys (i+1)]
theorem xv {α:Type} (c:α->Int):∀ (xs:List α) (i:Nat),aV (fun _ (_:Unit) y=>if c y=0 then .inr () else .inl (c y)) (fun _=>(0:Int)) i xs ()=gM c xs
 | [],_=>rfl
 | y::ys,i=>by simp only[aV,gM];by_cases h0:c y=0 <;> simp[h0,xv c ys (i+1)]
theorem HI (x:Tx) (h:tl x):bh.ab (x,())=some (pG x,()):=by
 obtain ⟨h1,Y,h3,h4⟩:=h
 refine ag (k:=1048577) fun k hk=>(bh.aa k _).trans ?_
 have HJ:List.length x.2.2.2.1<=12->bh.r2 k (x,()) (0:Int)=some (pv x.2.2.2.1,()):=fun hl=>by
  have:=bc (B:=fun self v=>bh.B2 k self (fun z=>bh.Q2 k (x,()) z) (x,()) v) x.2.2.2.1 (fun (_:Unit) (i:Int)=>i) (fun i _ y=>if kE x.2.2.2.1 i y=0 then .inr () else .inl (kE x.2.2.2.1 i y,())) (fun _=>(0,())) (fun _ _=>True) (by rw[ah];omega)
   (fun i hi s self _=>by
    show bh.b2 _ _ _ _=_
    unfold bh.b2 kE
    have aj:(i:Int) < (List.length x.2.2.2.1:Int):=by omega
    have et:(0:Int)<=(i:Int)/\(i:Int)<=(List.length x.2.2.2.1:Int):=by omega
    simp only[aj,et,and_self,decide_true,cond_true,Int.natCast_nonneg,if_true,Int.toNat_natCast,List.getElem?_eq_getElem hi,Option.bind_some,KM,List.drop_zero]
    rw[contains_eq _ _ (by rw[ah];simp;omega)]
    cases qd (x.2.2.2.1)[i] <;> cases dm (x.2.2.2.1.take i) (x.2.2.2.1)[i] <;> rfl)
   (fun _ _ _ _ _ _=>trivial) (fun s self _=>by
    show bh.b2 _ _ _ _=_
    unfold bh.b2
    simp only[Int.lt_irrefl,decide_false,cond_false]
    rfl) () trivial k (by omega)
  rw[Be (kE x.2.2.2.1)] at this
  exact this
 have second:List.length x.2.2.1<=8->List.length x.2.2.2.1<=12->bh.r1 k (x,()) ((0:Int),(0:Int))=some (if zo (List.length x.2.1:Int) 0 x.2.2.1 then pv x.2.2.2.1 else 3,()):=fun hm hl=>by
  have:=bL (B:=fun self v=>bh.B1 k self (fun z=>bh.Q1 k (x,()) z) (x,()) v) x.2.2.1 (fun (last:Int) (i:Int)=>(last,i)) (fun _ last m=>if ci m last (List.length x.2.1:Int) then .inr m else .inl (some ((3:Int),()))) (fun _=>some (pv x.2.2.2.1,())) (fun _ _=>True) (by rw[ah];omega)
   (fun i hi last self _=>by
    show bh.b1 _ _ _ _=_
    unfold bh.b1
    have aj:(i:Int) < (List.length x.2.2.1:Int):=by omega
    simp only[aj,decide_true,cond_true,Int.natCast_nonneg,if_true,Int.toNat_natCast,List.getElem?_eq_getElem hi,Option.bind_some,kT]
    show (bif !ci (x.2.2.1)[i] last (List.length x.2.1:Int) then _ else _)=_
    cases ci (x.2.2.1)[i] last (List.length x.2.1:Int) <;> rfl)
   (fun _ _ _ _ _ _=>trivial) (fun last self _=>by
    show bh.b1 _ _ _ _=_
    unfold bh.b1
    simp only[Int.lt_irrefl,decide_false,cond_false]
    exact HJ hl) 0 trivial k (by omega)
  rw[Dr] at this
  refine Eq.trans this ?_
  unfold zo
  cases aV (fun _ last m=>if ci m last (List.length x.2.1:Int) then .inr m else .inl false) (fun _=>true) 0 x.2.2.1 0 <;> rfl
 have after:bh.Q0 k (x,()) ()=some (mQ x,()):=by
  show bh.q0 _ _ _=_
  unfold bh.q0 mQ
  by_cases hm:8 < List.length x.2.2.1
  ·have:(8:Int) < (List.length x.2.2.1:Int):=by omega
   simp only[this,hm,decide_true,cond_true,Bool.true_or,if_true]
   try rfl
  have xn:¬ (8:Int) < (List.length x.2.2.1:Int):=by omega
  by_cases gH:12 < List.length x.2.2.2.1
  ·have:(12:Int) < (List.length x.2.2.2.1:Int):=by omega
   simp only[this,hm,xn,gH,decide_true,decide_false,cond_true,cond_false,Bool.false_or,if_true]
   try rfl
  have tn:¬ (12:Int) < (List.length x.2.2.2.1:Int):=by omega
  simp only[hm,xn,tn,gH,decide_false,cond_false,Bool.or_self,Bool.false_eq_true,if_false]
  exact second (by omega) (by omega)
 have:=bL (B:=fun self v=>bh.B0 k self (fun z=>bh.Q0 k (x,()) z) (x,()) v) x.2.1 (fun (_:Unit) (i:Int)=>i) (fun _ _ c=>if qe x.2.2.2.1 c=0 then .inr () else .inl (some (qe x.2.2.2.1 c,()))) (fun _=>some (mQ x,())) (fun _ _=>True) (by rw[ah];omega)
  (fun i hi s self _=>by
   show bh.b0 _ _ _ _=_
   unfold bh.b0
   have aj:(i:Int) < (List.length x.2.1:Int):=by omega
   simp only[aj,decide_true,cond_true,Int.natCast_nonneg,if_true,Int.toNat_natCast,List.getElem?_eq_getElem hi,Option.bind_some,AV _ (h4 _ (List.getElem_mem hi)),MY]
   rw[contains_eq _ _ (by rw[ah];omega)]
   unfold qe
   by_cases hc:tw (x.2.1)[i]=0
   ·simp only[hc,decide_true,Bool.not_true,cond_false,if_true,Option.bind_some]
    cases dm x.2.2.2.1 (tB (x.2.1)[i]) <;> rfl
   ·simp only[hc,decide_false,Bool.not_false,cond_true,if_false])
  (fun _ _ _ _ _ _=>trivial) (fun s self _=>by
   show bh.b0 _ _ _ _=_
   unfold bh.b0
   simp only[Int.lt_irrefl,decide_false,cond_false]
   exact after) () trivial k (by omega)
 rw[ri (fun _=>qe x.2.2.2.1),xv] at this
 refine Eq.trans this ?_
 unfold pG sG
 split <;> rfl
def kF (xs:List Tx) (k:Key):Int:=match xs with
 | []=>0
 | x::xs=>if dm x.2.2.2.1 k then x.1 else kF xs k
def xw (xs:List Tx):Prop:=xs.length<=1048576/\∀ x ∈ xs,tl x
theorem Bf (k:Key):∀ (xs:List Tx) (i:Nat),aV (fun _ (_:Unit) x=>if dm x.2.2.2.1 k then .inl (x.1,()) else .inr ()) (fun _=>((0:Int),())) i xs ()=(kF xs k,())
 | [],_=>rfl
 | x::xs,i=>by simp only[aV,kF];cases dm x.2.2.2.1 k <;> simp[Bf k xs (i+1)]
theorem K_ {x:Tx} (h:tl x):List.length x.2.2.2.1<=maxLen:=by rw[ah];have:=h.2.2.1;omega
theorem ES (xs:List Tx) (k0:Key) (h:xw xs):fR.ab (xs,k0,())=some (kF xs k0,()):=by
 obtain ⟨h1,Y⟩:=h
 refine ag (k:=xs.length+1) fun k hk=>(fR.aa k _).trans ?_
 have:=bc (B:=fun self v=>fR.B0 0 self (fun z=>fR.Q0 0 (xs,k0,()) z) (xs,k0,()) v) xs (fun (_:Unit) (i:Int)=>i) (fun _ _ x=>if dm x.2.2.2.1 k0 then .inl (x.1,()) else .inr ()) (fun _=>(0,())) (fun _ _=>True) (by rw[ah];omega)
  (fun i hi s self _=>by
   show fR.b0 _ _ _ _=_
   unfold fR.b0
   have aj:(i:Int) < (xs.length:Int):=by omega
   simp only[aj,decide_true,cond_true,Int.natCast_nonneg,if_true,Int.toNat_natCast,List.getElem?_eq_getElem hi,Option.bind_some,Dq _ _ (K_ (Y _ (List.getElem_mem hi)))]
   cases dm (xs[i]).2.2.2.1 k0 <;> rfl)
  (fun _ _ _ _ _ _=>trivial) (fun s self _=>by
   show fR.b0 _ _ _ _=_
   unfold fR.b0
   simp only[Int.lt_irrefl,decide_false,cond_false]
   rfl) () trivial k (by omega)
 rw[Bf] at this
 exact this
def qE (xs:List Tx):Int:=xs.foldl (fun n x=>n+(List.length x.2.1:Int)) 0
theorem DQ (xs:List Tx) (h:xw xs):fa.ab (xs,())=some (qE xs,()):=by
 obtain ⟨h1,Y⟩:=h
 refine ag (k:=xs.length+1) fun k hk=>(fa.aa k _).trans ?_
 have:=bc (B:=fun self v=>fa.B0 0 self (fun z=>fa.Q0 0 (xs,()) z) (xs,()) v) xs (fun (n:Int) (i:Int)=>(n,i)) (fun _ n x=>.inr (n+(List.length x.2.1:Int))) (fun n=>(n,())) (fun i n=>0<=n/\n<=1048576*(i:Int)) (by rw[ah];omega)
  (fun i hi n self hI=>by
   show fa.b0 _ _ _ _=_
   unfold fa.b0
   have aj:(i:Int) < (xs.length:Int):=by omega
   have hx:=(Y _ (List.getElem_mem hi)).1
   simp only[aj,decide_true,cond_true,Int.natCast_nonneg,if_true,Int.toNat_natCast,List.getElem?_eq_getElem hi,Option.bind_some]
   rw[aR (n:=n+_) (by omega)])
  (fun i hi n n' hI hs=>by
   injection hs with hs
   have hx:=(Y _ (List.getElem_mem hi)).1
   omega) (fun s self _=>by
   show fa.b0 _ _ _ _=_
   unfold fa.b0
   simp only[Int.lt_irrefl,decide_false,cond_false]
   rfl) 0 (by omega) k (by omega)
 rw[en] at this
 exact this
theorem DR (xs:List Tx) (h:xw xs):gG.ab (xs,())=some (qE xs,()):=by
 obtain ⟨h1,Y⟩:=h
 refine ag (k:=xs.length+1) fun k hk=>(gG.aa k _).trans ?_
 have:=bc (B:=fun self v=>gG.B0 0 self (fun z=>gG.Q0 0 (xs,()) z) (xs,()) v) xs (fun (n:Int) (i:Int)=>(n,i)) (fun _ n x=>.inr (n+(List.length x.2.1:Int))) (fun n=>(n,())) (fun i n=>0<=n/\n<=1048576*(i:Int)) (by rw[ah];omega)
  (fun i hi n self hI=>by
   show gG.b0 _ _ _ _=_
   unfold gG.b0
   have aj:(i:Int) < (xs.length:Int):=by omega
   have hx:=(Y _ (List.getElem_mem hi)).1
   simp only[aj,decide_true,cond_true,Int.natCast_nonneg,if_true,Int.toNat_natCast,List.getElem?_eq_getElem hi,Option.bind_some]
   rw[aR (n:=n+_) (by omega)])
  (fun i hi n n' hI hs=>by
   injection hs with hs
   have hx:=(Y _ (List.getElem_mem hi)).1
   omega) (fun s self _=>by
   show gG.b0 _ _ _ _=_
   unfold gG.b0
   simp only[Int.lt_irrefl,decide_false,cond_false]
   rfl) 0 (by omega) k (by omega)
 rw[en] at this
 exact this
def nF (xs:List Tx) (i:Nat) (x:Tx):Int:=if ci x.1 1 99 then (if 0 < i then (match xs[i - 1]? with
    | some y=>if x.1<=y.1 then 1 else pG x
    | none=>1) else pG x) else 3
def sP (xs:List Tx):Int:=aV (fun i (_:Unit) x=>if nF xs i x=0 then .inr () else .inl (nF xs i x)) (fun _=>(0:Int)) 0 xs ()
def flatK (xs:List Tx):List Key:=xs.flatMap fun x=>x.2.2.2.1
def tI (xs:List Tx):Bool:=decide (flatK xs).Nodup
def ta (xs:List Tx):Int:=if 4 < xs.length then 2 else if sP xs=0 then (if tI xs then (if 12 < qE xs then 2 else 0) else 7) else sP xs
theorem sQ (xs:List Tx) (h:sP xs=0):∀ i (hi:i < xs.length),nF xs i xs[i]=0:=by
 have main:∀ (ys:List Tx) (j:Nat),(aV (fun i (_:Unit) x=>if nF xs i x=0 then .inr () else .inl (nF xs i x)) (fun _=>(0:Int)) j ys ())=0->∀ i (hi:i < ys.length),nF xs (j+i) ys[i]=0:=by
  intro ys
  induction ys with
  | nil=>intro j _ i hi;simp at hi
  | cons y ys ih=>
   intro j hf i hi
   simp only[aV] at hf
   by_cases h0:nF xs j y=0
   ·rw[if_pos h0] at hf
    cases i with
    | zero=>simpa using h0
    | succ i=>
     have:=ih (j+1) hf i (by simpa using hi)
     rw[show j+(i+1)=j+1+i by omega]
     simpa using this
   ·rw[if_neg h0] at hf
    exact absurd hf h0
 intro i hi
 have:=main xs 0 h i hi
 rwa [Nat.zero_add] at this
theorem uX {xs:List Tx} {i:Nat} {x:Tx} (h:nF xs i x=0):1<=x.1/\pG x=0/\∀ y,0 < i->xs[i - 1]?=some y->y.1 < x.1:=by
 unfold nF at h
 split at h
 ·rename_i hb
  simp only[ci,Bool.and_eq_true,decide_eq_true_eq] at hb
  split at h
  ·rename_i h0
   split at h
   ·rename_i y hy
    split at h
    ·cases h
    ·exact ⟨hb.1,h,fun z _ hz=>by rw[hy] at hz;injection hz with hz;subst hz;omega⟩
   ·cases h
  ·exact ⟨hb.1,h,fun y h0=>by omega⟩
 ·cases h
theorem JP {xs:List Tx} (h:sP xs=0):xs.Pairwise fun x y=>x.1 < y.1:=by
 rw[List.pairwise_iff_getElem]
 intro i j hi hj jt
 have key:∀ d (hd:i+d+1 < xs.length),(xs[i]).1 < (xs[i+d+1]).1:=by
  intro d
  induction d with
  | zero=>
   intro hd
   exact (uX (sQ xs h (i+1) hd)).2.2 xs[i] (by omega) (by simp[hi])
  | succ d ih=>
   intro hd
   have h1:=ih (by omega)
   have Y:=(uX (sQ xs h (i+d+1+1) hd)).2.2 xs[i+d+1] (by omega) (by rw[Nat.add_sub_cancel];exact List.getElem?_eq_getElem (by omega))
   exact Int.lt_trans h1 Y
 have:=key (j - i - 1) (by omega)
 have e:i+(j - i - 1)+1=j:=by omega
 simpa only [e] using this
theorem ET {ks:List Key} (h:pv ks=0):ks.Nodup:=by
 have main:∀ (ys:List Key) (j:Nat),(aV (fun i (_:Unit) k=>if kE ks i k=0 then .inr () else .inl (kE ks i k)) (fun _=>(0:Int)) j ys ())=0->∀ i (hi:i < ys.length),kE ks (j+i) ys[i]=0:=by
  intro ys
  induction ys with
  | nil=>intro j _ i hi;simp at hi
  | cons y ys ih=>
   intro j hf i hi
   simp only[aV] at hf
   by_cases h0:kE ks j y=0
   ·rw[if_pos h0] at hf
    cases i with
    | zero=>simpa using h0
    | succ i=>
     have:=ih (j+1) hf i (by simpa using hi)
     rw[show j+(i+1)=j+1+i by omega]
     simpa using this
   ·rw[if_neg h0] at hf
    exact absurd hf h0
 rw[List.nodup_iff_pairwise_ne,List.pairwise_iff_getElem]
 intro i j hi hj jt e
 have h1:=main ks 0 h j hj
 rw[Nat.zero_add] at h1
 unfold kE at h1
 split at h1
 ·split at h1
  ·cases h1
  ·rename_i hn
   refine hn (k9.2 ?_)
   rw[<-e]
   exact List.mem_take_iff_getElem.2 ⟨i,by omega,rfl⟩
 ·cases h1
theorem La {x:Tx} (h:pG x=0):(x.2.2.2.1:List Key).Nodup:=by
 unfold pG at h
 split at h
 ·unfold mQ at h
  split at h
  ·cases h
  ·split at h
   ·exact ET h
   ·cases h
 ·rename_i hn;exact absurd h hn
end OT
set_option linter.unusedVariables false
set_option linter.unusedSimpArgs false
namespace OT
open Go
def sk (xs:List Tx):Bool:=xs.all fun x=>x.2.2.2.1.all fun k=>decide (kF xs k=x.1)
theorem Lb {xs:List Tx} (hr:xs.Pairwise fun x y=>x.1 < y.1) (hn:∀ x ∈ xs,(x.2.2.2.1:List Key).Nodup):sk xs=tI xs:=by
 have main:∀ (xs:List Tx),(xs.Pairwise fun x y=>x.1 < y.1)->(∀ x ∈ xs,(x.2.2.2.1:List Key).Nodup)->((∀ x ∈ xs,∀ k ∈ (x.2.2.2.1:List Key),kF xs k=x.1)↔(flatK xs).Nodup):=by
  intro xs
  induction xs with
  | nil=>intro _ _;simp[flatK]
  | cons x xs ih=>
   intro hr hn
   obtain ⟨h1,Y⟩:=List.pairwise_cons.1 hr
   have ih:=ih Y (fun y hy=>hn y (by simp[hy]))
   have A5:flatK (x::xs)=x.2.2.2.1++flatK xs:=by simp[flatK]
   rw[A5,List.nodup_append]
   constructor
   ·intro jy
    have hd:∀ y ∈ xs,∀ k ∈ (y.2.2.2.1:List Key),k ∉ (x.2.2.2.1:List Key):=fun y hy k hk hx=>by
     have e1:=jy y (by simp[hy]) k hk
     simp only[kF,k9.2 hx,if_true] at e1
     have:=h1 y hy
     omega
    refine ⟨hn x (by simp),ih.1 fun y hy k hk=>?_,fun a ha b hb e=>?_⟩
    ·have e1:=jy y (by simp[hy]) k hk
     have:dm x.2.2.2.1 k=false:=by
      cases hh:dm x.2.2.2.1 k with
      | false=>rfl
      | true=>exact absurd (k9.1 hh) (hd y hy k hk)
     simp only[kF,this,Bool.false_eq_true,if_false] at e1
     exact e1
    ·subst e
     obtain ⟨y,hy,hk⟩:=List.mem_flatMap.1 hb
     exact hd y hy a hk ha
   ·rintro ⟨g1,g2,g3⟩ y hy k hk
    rcases List.mem_cons.1 hy with e | e
    ·subst e
     simp only[kF,k9.2 hk,if_true]
    ·have TO:k ∈ flatK xs:=List.mem_flatMap.2 ⟨y,e,hk⟩
     have:dm x.2.2.2.1 k=false:=by
      cases hh:dm x.2.2.2.1 k with
      | false=>rfl
      | true=>exact absurd rfl (g3 k (k9.1 hh) k TO)
     simp only[kF,this,Bool.false_eq_true,if_false]
     exact ih.2 g2 y e k hk
 have hm:=main xs hr hn
 unfold sk tI
 rw[Bool.eq_iff_iff]
 simp only[List.all_eq_true,decide_eq_true_eq]
 exact hm
theorem DS (xs:List Tx) (h:xw xs):cc.ab (xs,())=some (sk xs,()):=by
 have ht:=h
 obtain ⟨h1,Y⟩:=h
 refine ag (k:=1048577) fun k hk=>(cc.aa k _).trans ?_
 have inner:∀ (self:((List Tx)×Int)->Option cc.Out) (e0:Unit->Option cc.Out) (i:Nat) (hi:i < xs.length),cc.r1 k self e0 (xs,()) xs (i:Int) (0:Int)=if (xs[i]).2.2.2.1.any (fun y=>!decide (kF xs y=(xs[i]).1)) then some (false,()) else self (xs,ae ((i:Int)+1)):=fun self e0 i hi=>by
  have TP:=Y _ (List.getElem_mem hi)
  have Mp:=TP.2.2.1
  have:=bL (B:=fun cw v=>cc.B1 k cw (fun z=>cc.Q0 k self e0 (xs,()) xs (i:Int) z) (xs,()) xs (i:Int) v) (xs[i]).2.2.2.1 (fun (_:Unit) (j:Int)=>j) (fun _ _ y=>if !decide (kF xs y=(xs[i]).1) then .inl (some (false,())) else .inr ()) (fun _=>self (xs,ae ((i:Int)+1))) (fun _ _=>True) (by rw[ah];omega)
   (fun j hj s cw _=>by
    show cc.b1 _ _ _ _ _ _=_
    unfold cc.b1
    have aj:(j:Int) < (List.length (xs[i]).2.2.2.1:Int):=by omega
    simp only[Int.natCast_nonneg,if_true,Int.toNat_natCast,List.getElem?_eq_getElem hi,Option.bind_some,aj,decide_true,cond_true,List.getElem?_eq_getElem hj,ES xs _ ht]
    cases decide (kF xs ((xs[i]).2.2.2.1)[j]=(xs[i]).1) <;> rfl)
   (fun _ _ _ _ _ _=>trivial) (fun s cw _=>by
    show cc.b1 _ _ _ _ _ _=_
    unfold cc.b1
    simp only[Int.natCast_nonneg,if_true,Int.toNat_natCast,List.getElem?_eq_getElem hi,Option.bind_some,Int.lt_irrefl,decide_false,cond_false]
    rfl) () trivial k (by omega)
  rw[pT] at this
  exact this
 have:=bc (B:=fun self v=>cc.B0 k self (fun z=>cc.Q1 k (xs,()) z) (xs,()) v) xs (fun (_:Unit) (i:Int)=>(xs,i)) (fun _ _ x=>if x.2.2.2.1.all (fun y=>decide (kF xs y=x.1)) then .inr () else .inl (false,())) (fun _=>(true,())) (fun _ _=>True) (by rw[ah];omega)
  (fun i hi s self _=>by
   show cc.b0 _ _ _ _ _=_
   unfold cc.b0
   have aj:(i:Int) < (xs.length:Int):=by omega
   simp only[aj,decide_true,cond_true]
   rw[inner self _ i hi]
   have:(xs[i]).2.2.2.1.any (fun y=>!decide (kF xs y=(xs[i]).1))=!(xs[i]).2.2.2.1.all (fun y=>decide (kF xs y=(xs[i]).1)):=by rw[List.not_all_eq_any_not]
   rw[this]
   cases (xs[i]).2.2.2.1.all (fun y=>decide (kF xs y=(xs[i]).1)) <;> rfl)
  (fun _ _ _ _ _ _=>trivial) (fun s self _=>by
   show cc.b0 _ _ _ _ _=_
   unfold cc.b0
   simp only[Int.lt_irrefl,decide_false,cond_false]
   rfl) () trivial k (by omega)
 rw[ls (fun (x:Tx)=>x.2.2.2.1.all (fun y=>decide (kF xs y=x.1))) (false,()) (fun _=>(true,()))] at this
 refine Eq.trans this ?_
 unfold sk
 cases xs.all fun x=>x.2.2.2.1.all (fun y=>decide (kF xs y=x.1)) <;> rfl
def cJ (S:List Key):List (Key×Bool):=S.map fun k=>(k,true)
theorem EU {α:Type} (k:Ty) (e:k.den×α) (m:List (k.den×α)) (x:k.den):dA k (e::m) x=if k.eq x e.1 then some e.2 else dA k m x:=by
 unfold dA
 rw[List.find?_cons]
 cases k.eq x e.1 <;> rfl
theorem HK {α:Type} (k:Ty) (m:List (k.den×α)) (x:k.den) (y:α) (h:∀ e ∈ m,k.eq x e.1=false):gZ k m x y=m++[(x,y)]:=by
 have:m.findIdx? (fun e=>k.eq x e.1)=none:=by
  rw[List.findIdx?_eq_none_iff]
  intro e he
  exact h e he
 unfold gZ
 rw[this]
theorem xx (S:List Key) (k:Key):dA aL (cJ S) k=if dm S k then some true else none:=by
 induction S with
 | nil=>rfl
 | cons s S ih=>
  refine (EU aL (s,true) (cJ S) k).trans ?_
  have hk:aL.eq k (s,true).1=decide (k=s):=uF k s
  rw[hk]
  have hc:dm (s::S) k=(decide (s=k)||dm S k):=rfl
  rw[hc]
  by_cases h:k=s
  ·have Y:s=k:=h.symm
   simp[Y]
  ·have Y:¬ s=k:=fun e=>h e.symm
   simp only[h,Y,decide_false,Bool.false_or,Bool.false_eq_true,if_false]
   exact ih
theorem Lc (S:List Key) (k:Key):rA (dA aL (cJ S) k) false=dm S k:=by
 refine Eq.trans (congrArg (fun o=>rA o false) (xx S k)) ?_
 cases dm S k <;> rfl
theorem DT {S:List Key} {k:Key} (h:dm S k=false):gZ aL (cJ S) k true=cJ (S++[k]):=by
 refine (HK aL (cJ S) k true fun e he=>?_).trans ?_
 ·obtain ⟨s,hs,rfl⟩:=List.mem_map.1 he
  have hk:aL.eq k (s,true).1=decide (k=s):=uF k s
  rw[hk]
  simp only[dm,List.any_eq_false,decide_eq_true_eq] at h
  have:=h s hs
  simp only[decide_eq_false_iff_not]
  exact fun e=>this e.symm
 ·simp only[cJ,List.map_append,List.map_cons,List.map_nil]
  rfl
def getM (m:List (Key×Bool)) (k:Key):Bool:=rA (dA aL m k) false
def lT (m:List (Key×Bool)) (k:Key):List (Key×Bool):=gZ aL m k true
def l5:List (Key×Bool)->List Key->Option (List (Key×Bool))
 | m,[]=>some m
 | m,k::ks=>if getM m k then none else l5 (lT m k) ks
theorem xy:∀ (m:List (Key×Bool)) (a b:List Key),l5 m (a++b)=(l5 m a).bind fun m'=>l5 m' b
 | m,[],b=>rfl
 | m,k::a,b=>by
  simp only[List.cons_append,l5]
  split
  ·rfl
  ·exact xy _ a b
theorem Bg:∀ (ks S:List Key),S.Nodup->l5 (cJ S) ks=if (S++ks).Nodup then some (cJ (S++ks)) else none
 | [],S,h=>by simp[l5,h]
 | k::ks,S,h=>by
  have hg:getM (cJ S) k=dm S k:=Lc S k
  simp only[l5,hg]
  cases hh:dm S k with
  | true=>
   have:¬ (S++k::ks).Nodup:=fun hn=>by
    rw[List.nodup_append] at hn
    exact hn.2.2 k (k9.1 hh) k (by simp) rfl
   simp[this]
  | false=>
   have hk:k ∉ S:=fun hm=>by rw[k9.2 hm] at hh;cases hh
   simp only[Bool.false_eq_true,if_false]
   have hp:lT (cJ S) k=cJ (S++[k]):=DT hh
   rw[hp,Bg ks (S++[k]) (by rw[List.nodup_append];exact ⟨h,by simp,fun a ha b hb e=>by simp at hb;subst hb;subst e;exact hk ha⟩)]
   simp only[List.append_assoc,List.cons_append,List.nil_append]
theorem Bh {O:Type} (bad:Option O) (E:List (Key×Bool)->Option O):∀ (ks:List Key) (i:Nat) (m:List (Key×Bool)),aV (fun _ m k=>if getM m k then .inl bad else .inr (lT m k)) E i ks m=match l5 m ks with | none=>bad | some m'=>E m'
 | [],_,_=>rfl
 | k::ks,i,m=>by
  simp only[aV,l5]
  by_cases h:getM m k=true
  ·simp[h]
  ·simp only[h,if_false]
   exact Bh bad E ks _ _
theorem zL {O:Type} (bad:Option O) (E:Option O):∀ (xs:List Tx) (i:Nat) (m:List (Key×Bool)),aV (fun _ m x=>match l5 m x.2.2.2.1 with | none=>.inl bad | some m'=>.inr m') (fun _=>E) i xs m=match l5 m (flatK xs) with | none=>bad | some _=>E
 | [],_,_=>rfl
 | x::xs,i,m=>by
  have A5:flatK (x::xs)=x.2.2.2.1++flatK xs:=by simp[flatK]
  rw[A5,xy]
  simp only[aV]
  cases h:l5 m x.2.2.2.1 with
  | none=>rfl
  | some m'=>
   simp only[Option.bind_some]
   exact zL bad E xs _ _
theorem HL (xs:List Tx) (h:xw xs):aY.ab (xs,())=some (ta xs,()):=by
 have ht:=h
 obtain ⟨h1,Y⟩:=h
 refine ag (k:=1048577) fun k hk=>(aY.aa k _).trans ?_
 unfold aY.p ta
 by_cases h4:4 < xs.length
 ·have:(4:Int) < (xs.length:Int):=by omega
  simp only[this,h4,decide_true,cond_true,if_true]
  (try rfl)
 have OO:¬ (4:Int) < (xs.length:Int):=by omega
 simp only[h4,OO,decide_false,cond_false,if_false]
 have last:aY.Q2 k (xs,()) xs=some (if 12 < qE xs then 2 else 0,()):=by
  show aY.q2 _ _=_
  unfold aY.q2
  simp only[DR xs ht,Option.bind_some]
  by_cases hc:12 < qE xs <;> simp[hc]
 have inner:∀ (self:((List Tx)×(List (Key×Bool))×(List Tx)×Int×Int)->Option aY.Out) (e2:List Tx->Option aY.Out) (i:Nat) (hi:i < xs.length) (m:List (Key×Bool)),aY.r2 k self e2 (xs,()) xs xs (xs.length:Int) (i:Int) (xs[i]).2.2.2.1 (List.length (xs[i]).2.2.2.1:Int) (m,(0:Int))=match l5 m (xs[i]).2.2.2.1 with | none=>some ((7:Int),()) | some m'=>self (xs,m',xs,(xs.length:Int),ae ((i:Int)+1)):=fun self e2 i hi m=>by
  have Mp:=(Y _ (List.getElem_mem hi)).2.2.1
  have:=bL (B:=fun cw v=>aY.B2 k cw (fun z=>aY.Q1 k self e2 (xs,()) xs xs (xs.length:Int) (i:Int) (xs[i]).2.2.2.1 (List.length (xs[i]).2.2.2.1:Int) z) (xs,()) xs xs (xs.length:Int) (i:Int) (xs[i]).2.2.2.1 (List.length (xs[i]).2.2.2.1:Int) v) (xs[i]).2.2.2.1 (fun (m:List (Key×Bool)) (j:Int)=>(m,j)) (fun _ m y=>if getM m y then .inl (some ((7:Int),())) else .inr (lT m y)) (fun m=>self (xs,m,xs,(xs.length:Int),ae ((i:Int)+1))) (fun _ _=>True) (by rw[ah];omega)
   (fun j hj s cw _=>by
    show aY.b2 _ _ _ _ _ _ _ _ _ _=_
    unfold aY.b2
    have aj:(j:Int) < (List.length (xs[i]).2.2.2.1:Int):=by omega
    simp only[aj,decide_true,cond_true,Int.natCast_nonneg,if_true,Int.toNat_natCast,List.getElem?_eq_getElem hj,Option.bind_some]
    show (bif getM s ((xs[i]).2.2.2.1)[j] then some ((7:Int),()) else cw (lT s ((xs[i]).2.2.2.1)[j],ae ((j:Int)+1)))=_
    cases getM s ((xs[i]).2.2.2.1)[j] <;> rfl)
   (fun _ _ _ _ _ _=>trivial) (fun s cw _=>by
    show aY.b2 _ _ _ _ _ _ _ _ _ _=_
    unfold aY.b2
    simp only[Int.lt_irrefl,decide_false,cond_false]
    rfl) m trivial k (by omega)
  rw[Bh] at this
  exact this
 have apart:aY.Q0 k (xs,()) ()=some (if tI xs then (if 12 < qE xs then 2 else 0) else 7,()):=by
  have:=bL (B:=fun self v=>aY.B1 k self (fun z=>aY.Q2 k (xs,()) z) (xs,()) v) xs (fun (m:List (Key×Bool)) (i:Int)=>(xs,m,xs,(xs.length:Int),i)) (fun _ m x=>match l5 m x.2.2.2.1 with | none=>.inl (some ((7:Int),())) | some m'=>.inr m') (fun _=>some (if 12 < qE xs then 2 else 0,())) (fun _ _=>True) (by rw[ah];omega)
   (fun i hi m self _=>by
    show aY.b1 _ _ _ _ _=_
    unfold aY.b1
    have aj:(i:Int) < (xs.length:Int):=by omega
    simp only[aj,decide_true,cond_true,Int.natCast_nonneg,if_true,Int.toNat_natCast,List.getElem?_eq_getElem hi,Option.bind_some]
    rw[inner self _ i hi m]
    cases l5 m (xs[i]).2.2.2.1 <;> rfl)
   (fun _ _ _ _ _ _=>trivial) (fun s self _=>by
    show aY.b1 _ _ _ _ _=_
    unfold aY.b1
    simp only[Int.lt_irrefl,decide_false,cond_false]
    exact last) (cJ []) trivial k (by omega)
  rw[zL,Bg _ _ List.nodup_nil] at this
  refine Eq.trans this ?_
  unfold tI
  simp only[List.nil_append]
  by_cases hn:(flatK xs).Nodup <;> simp[hn]
 have:=bL (B:=fun self v=>aY.B0 k self (fun z=>aY.Q0 k (xs,()) z) (xs,()) v) xs (fun (_:Unit) (i:Int)=>i) (fun i _ x=>if nF xs i x=0 then .inr () else .inl (some (nF xs i x,()))) (fun _=>some (if tI xs then (if 12 < qE xs then 2 else 0) else 7,())) (fun _ _=>True) (by rw[ah];omega)
  (fun i hi s self _=>by
   show aY.b0 _ _ _ _=_
   unfold aY.b0 nF
   have aj:(i:Int) < (xs.length:Int):=by omega
   simp only[aj,decide_true,cond_true,Int.natCast_nonneg,if_true,Int.toNat_natCast,List.getElem?_eq_getElem hi,Option.bind_some,w5,HI _ (Y _ (List.getElem_mem hi))]
   show (bif !ci (xs[i]).1 1 99 then _ else _)=_
   cases ci (xs[i]).1 1 99 with
   | false=>rfl
   | true=>
    simp only[Bool.not_true,cond_false,if_true]
    by_cases h0:i=0
    ·subst h0
     have hz:¬ (0:Int) < ((0:Nat):Int):=by omega
     simp only[hz,decide_false,cond_false,Nat.lt_irrefl,if_false]
     by_cases hc:pG xs[0]=0
     ·simp only[hc,decide_true,Bool.not_true,cond_false,if_true]
     ·simp only[hc,decide_false,Bool.not_false,cond_true,if_false]
    ·have zp:i - 1 < xs.length:=by omega
     have hp:(0:Int) < (i:Int):=by omega
     have OP:0 < i:=by omega
     simp only[hp,OP,decide_true,cond_true,uE (show 0 < i by omega) (by rw[ah];omega),Int.natCast_nonneg,if_true,Int.toNat_natCast,List.getElem?_eq_getElem zp,Option.bind_some]
     by_cases hle:(xs[i]).1<=(xs[i - 1]).1
     ·simp only[hle,decide_true,cond_true,if_true]
      rfl
     ·simp only[hle,decide_false,cond_false,if_false]
      by_cases hc:pG xs[i]=0
      ·simp only[hc,decide_true,Bool.not_true,cond_false,if_true]
      ·simp only[hc,decide_false,Bool.not_false,cond_true,if_false])
  (fun _ _ _ _ _ _=>trivial) (fun s self _=>by
   show aY.b0 _ _ _ _=_
   unfold aY.b0
   simp only[Int.lt_irrefl,decide_false,cond_false]
   exact apart) () trivial k (by omega)
 rw[ri (nF xs)] at this
 refine Eq.trans this ?_
 unfold sP
 split <;> rfl
theorem HM (xs:List Tx) (h:xw xs):df.ab (xs,())=some (ta xs,()):=by
 have ht:=h
 obtain ⟨h1,Y⟩:=h
 refine ag (k:=1048577) fun k hk=>(df.aa k _).trans ?_
 unfold df.p ta
 by_cases h4:4 < xs.length
 ·have:(4:Int) < (xs.length:Int):=by omega
  simp only[this,h4,decide_true,cond_true,if_true]
  (try rfl)
 have OO:¬ (4:Int) < (xs.length:Int):=by omega
 simp only[h4,OO,decide_false,cond_false,if_false]
 have last:df.Q0 k (xs,()) ()=some (if sk xs then (if 12 < qE xs then 2 else 0) else 7,()):=by
  show df.q0 _ _=_
  unfold df.q0
  simp only[DS xs ht,DQ xs ht,Option.bind_some]
  cases sk xs with
  | false=>rfl
  | true=>by_cases hc:12 < qE xs <;> simp[hc]
 have:=bL (B:=fun self v=>df.B0 k self (fun z=>df.Q0 k (xs,()) z) (xs,()) v) xs (fun (_:Unit) (i:Int)=>i) (fun i _ x=>if nF xs i x=0 then .inr () else .inl (some (nF xs i x,()))) (fun _=>some (if sk xs then (if 12 < qE xs then 2 else 0) else 7,())) (fun _ _=>True) (by rw[ah];omega)
  (fun i hi s self _=>by
   show df.b0 _ _ _ _=_
   unfold df.b0 nF
   have aj:(i:Int) < (xs.length:Int):=by omega
   simp only[aj,decide_true,cond_true,Int.natCast_nonneg,if_true,Int.toNat_natCast,List.getElem?_eq_getElem hi,Option.bind_some,gC,EC _ (Y _ (List.getElem_mem hi)),Ds _ (Y _ (List.getElem_mem hi))]
   have hj:(bif !decide (sG xs[i]=0) then some (sG xs[i],()) else bif !decide (mQ xs[i]=0) then some (mQ xs[i],()) else self (ae ((i:Int)+1)))=match (generalizing:=false) (if pG xs[i]=0 then .inr () else .inl (some (pG xs[i],())):Sum (Option (Int×Unit)) Unit) with | .inl o=>o | .inr _=>self (ae ((i:Int)+1)):=by
    unfold pG
    by_cases hu:sG xs[i]=0
    ·simp only[hu,decide_true,Bool.not_true,cond_false,if_true]
     by_cases hm:mQ xs[i]=0
     ·simp only[hm,decide_true,Bool.not_true,cond_false,if_true]
     ·simp only[hm,decide_false,Bool.not_false,cond_true,if_false]
    ·simp only[hu,decide_false,Bool.not_false,cond_true,if_false]
   show (bif !ci (xs[i]).1 1 99 then _ else _)=_
   cases ci (xs[i]).1 1 99 with
   | false=>rfl
   | true=>
    simp only[Bool.not_true,cond_false,if_true]
    by_cases h0:i=0
    ·subst h0
     have hz:¬ (0:Int) < ((0:Nat):Int):=by omega
     simp only[hz,decide_false,cond_false,Nat.lt_irrefl,if_false]
     refine hj.trans ?_
     by_cases hc:pG xs[0]=0 <;> simp only[hc,if_true,if_false]
    ·have zp:i - 1 < xs.length:=by omega
     have hp:(0:Int) < (i:Int):=by omega
     have OP:0 < i:=by omega
     simp only[hp,OP,decide_true,cond_true,uE (show 0 < i by omega) (by rw[ah];omega),Int.natCast_nonneg,if_true,Int.toNat_natCast,List.getElem?_eq_getElem zp,Option.bind_some]
     by_cases hle:(xs[i]).1<=(xs[i - 1]).1
     ·simp only[hle,decide_true,cond_true,if_true]
      rfl
     ·simp only[hle,decide_false,cond_false,if_false]
      refine hj.trans ?_
      by_cases hc:pG xs[i]=0 <;> simp only[hc,if_true,if_false])
  (fun _ _ _ _ _ _=>trivial) (fun s self _=>by
   show df.b0 _ _ _ _=_
   unfold df.b0
   simp only[Int.lt_irrefl,decide_false,cond_false]
   exact last) () trivial k (by omega)
 rw[ri (nF xs)] at this
 refine Eq.trans this ?_
 show (if sP xs=0 then _ else some (sP xs,()))=_
 by_cases he:sP xs=0
 ·rw[if_pos he,if_pos he,Lb (JP he) (fun x hx=>by
   obtain ⟨i,hi,rfl⟩:=List.mem_iff_getElem.1 hx
   exact La (uX (sQ xs he i hi)).2.1)]
 ·rw[if_neg he,if_neg he]
end OT
set_option linter.unusedVariables false
set_option linter.unusedSimpArgs false
namespace OT
open Go
def dd (S:List Key) (ks:List Key):List Key:=ks.foldl (fun S k=>if dm S k then S else S++[k]) S
def ne (rows:List Row):List Key:=rows.map fun r=>(r.1,r.2.1,())
def pD (rows:List Row) (xs:List Tx):List Key:=ne rows++flatK xs
theorem EV {α:Type} (k:Ty) (m:List (k.den×α)) (x:k.den) (y:α) {i:Nat} (h:m.findIdx? (fun e=>k.eq x e.1)=some i):gZ k m x y=m.set i (x,y):=by
 unfold gZ
 rw[h]
theorem JQ {S:List Key} {k:Key} (h:dm S k=true):lT (cJ S) k=cJ S:=by
 have key:∀ (S:List Key) (i:Nat),(cJ S).findIdx? (fun e=>Ty.eq aL k e.1)=some i->(cJ S)[i]?=some (k,true):=by
  intro S i hi
  have h1:=List.findIdx?_eq_some_iff_findIdx_eq.1 hi
  have aj:i < (cJ S).length:=h1.1
  have Y:(cJ S).findIdx (fun e=>Ty.eq aL k e.1) < (cJ S).length:=by rw[h1.2];exact aj
  have h3:=List.findIdx_getElem (xs:=cJ S) (p:=fun e=>Ty.eq aL k e.1) (w:=Y)
  simp only[h1.2] at h3
  have h4:Ty.eq aL k (cJ S)[i].1=decide (k=(cJ S)[i].1):=uF k _
  have h3:Ty.eq aL k (cJ S)[i].1=true:=h3
  rw[h4,decide_eq_true_eq] at h3
  rw[List.getElem?_eq_getElem aj]
  have h5:(cJ S)[i]=((cJ S)[i].1,true):=by simp[cJ]
  rw[h5,<- h3]
 show gZ aL (cJ S) k true=cJ S
 cases hf:(cJ S).findIdx? (fun e=>Ty.eq aL k e.1) with
 | none=>
  exfalso
  have h1:dA aL (cJ S) k=none:=by
   unfold dA
   have Y:=List.findIdx?_eq_none_iff.1 hf
   have:(cJ S).find? (fun e=>Ty.eq aL k e.1)=none:=List.find?_eq_none.2 fun e he=>by rw[Y e he];simp
   exact congrArg _ this
  have Y:=xx S k
  rw[h] at Y
  exact absurd (h1.symm.trans Y) (by simp)
 | some i=>
  have h1:=key S i hf
  have aj:=(List.getElem?_eq_some_iff.1 h1).1
  refine (EV aL (cJ S) k true hf).trans ?_
  show (cJ S).set i (k,true)=cJ S
  have:(cJ S)[i]=(k,true):=(List.getElem?_eq_some_iff.1 h1).2
  rw[<-this]
  exact List.set_getElem_self aj
theorem Ld (S:List Key) (k:Key):lT (cJ S) k=cJ (if dm S k then S else S++[k]):=by
 cases h:dm S k with
 | true=>simp only[if_true];exact JQ h
 | false=>simp only[Bool.false_eq_true,if_false];exact DT h
theorem F5:∀ (ks S:List Key),ks.foldl lT (cJ S)=cJ (dd S ks)
 | [],S=>rfl
 | k::ks,S=>by
  rw[List.foldl_cons,Ld,F5 ks]
  rfl
theorem JR (S a b:List Key):dd S (a++b)=dd (dd S a) b:=List.foldl_append
theorem JS:∀ (ks S:List Key),S.length<=(dd S ks).length
 | [],S=>Nat.le_refl _
 | x::ks,S=>by
  refine Nat.le_trans ?_ (JS ks (if dm S x then S else S++[x]))
  split
  ·exact Nat.le_refl _
  ·simp
theorem DU:∀ (ks S:List Key),(S++ks).Nodup->dd S ks=S++ks
 | [],S,_=>by simp[dd]
 | x::ks,S,h=>by
  have hx:dm S x=false:=by
   cases hh:dm S x with
   | false=>rfl
   | true=>
    rw[List.nodup_append] at h
    exact absurd rfl (h.2.2 x (k9.1 hh) x (by simp))
  show dd (if dm S x then S else S++[x]) ks=_
  rw[hx]
  simp only[Bool.false_eq_true,if_false]
  rw[DU ks (S++[x]) (by simpa using h)]
  simp
theorem EW {rows:List Row} (h:up rows):(ne rows).Nodup:=by
 unfold ne
 rw[List.nodup_iff_pairwise_ne,List.pairwise_map]
 refine h.imp fun {a b} QM e=>?_
 have:rk a=rk b:=by
  simp only[Prod.mk.injEq,and_true] at e
  exact Prod.ext e.1 e.2
 rw[this,nC] at QM
 cases QM
theorem Bi {rows:List Row} {xs:List Tx} (h:up rows):rows.length<=(dd [] (pD rows xs)).length:=by
 unfold pD
 rw[JR,DU (ne rows) [] (by simpa using EW h)]
 refine Nat.le_trans ?_ (JS _ _)
 simp[ne]
def wE:List Key->List Key->Nat
 | _,[]=>0
 | S,k::ks=>(if dm S k then 0 else 1)+wE (S++[k]) ks
theorem Au:∀ (ks S T:List Key),(∀ k,k ∈ S↔k ∈ T)->(dd S ks).length=S.length+wE T ks
 | [],S,T,_=>rfl
 | x::ks,S,T,h=>by
  have hx:dm S x=dm T x:=by rw[Bool.eq_iff_iff,k9,k9];exact h x
  show (dd (if dm S x then S else S++[x]) ks).length=_
  simp only[wE,<- hx]
  cases hh:dm S x with
  | true=>
   simp only[if_true]
   rw[Au ks S (T++[x]) fun k=>?_]
   ·omega
   ·simp only[List.mem_append,List.mem_singleton,<- h k]
    constructor
    ·exact .inl
    ·rintro (h1 | h1)
     ·exact h1
     ·subst h1;exact k9.1 hh
  | false=>
   simp only[Bool.false_eq_true,if_false]
   rw[Au ks (S++[x]) (T++[x]) fun k=>by simp only[List.mem_append,h k]]
   simp only[List.length_append,List.length_cons,List.length_nil]
   omega
def qg (rows:List Row) (xs:List Tx):Nat:=(dd [] (pD rows xs)).length
theorem JT (rows:List Row) (xs:List Tx) (hr:rows.length<=1048576) (h:xw xs):bJ.ab (rows,xs,())=some (cJ (dd [] (pD rows xs)),()):=by
 obtain ⟨h1,Y⟩:=h
 refine ag (k:=1048577) fun k hk=>(bJ.aa k _).trans ?_
 have inner:∀ (self:((List (Key×Bool))×(List Tx)×Int×Int)->Option bJ.Out) (e2:(List (Key×Bool))->Option bJ.Out) (i:Nat) (hi:i < xs.length) (m:List (Key×Bool)),bJ.r2 k self e2 (rows,xs,()) xs (xs.length:Int) (i:Int) (xs[i]).2.2.2.1 (List.length (xs[i]).2.2.2.1:Int) (m,(0:Int))=self ((xs[i]).2.2.2.1.foldl lT m,xs,(xs.length:Int),ae ((i:Int)+1)):=fun self e2 i hi m=>by
  have Mp:=(Y _ (List.getElem_mem hi)).2.2.1
  have:=bL (B:=fun cw v=>bJ.B2 k cw (fun z=>bJ.Q1 k self e2 (rows,xs,()) xs (xs.length:Int) (i:Int) (xs[i]).2.2.2.1 (List.length (xs[i]).2.2.2.1:Int) z) (rows,xs,()) xs (xs.length:Int) (i:Int) (xs[i]).2.2.2.1 (List.length (xs[i]).2.2.2.1:Int) v) (xs[i]).2.2.2.1 (fun (m:List (Key×Bool)) (j:Int)=>(m,j)) (fun _ m y=>.inr (lT m y)) (fun m=>self (m,xs,(xs.length:Int),ae ((i:Int)+1))) (fun _ _=>True) (by rw[ah];omega)
   (fun j hj s cw _=>by
    show bJ.b2 _ _ _ _ _ _ _ _ _=_
    unfold bJ.b2
    have aj:(j:Int) < (List.length (xs[i]).2.2.2.1:Int):=by omega
    simp only[aj,decide_true,cond_true,Int.natCast_nonneg,if_true,Int.toNat_natCast,List.getElem?_eq_getElem hj,Option.bind_some]
    rfl)
   (fun _ _ _ _ _ _=>trivial) (fun s cw _=>by
    show bJ.b2 _ _ _ _ _ _ _ _ _=_
    unfold bJ.b2
    simp only[Int.lt_irrefl,decide_false,cond_false]
    rfl) m trivial k (by omega)
  rw[en (g:=lT)] at this
  exact this
 have second:∀ m,bJ.r1 k (rows,xs,()) (m,xs,(xs.length:Int),(0:Int))=some ((flatK xs).foldl lT m,()):=fun m=>by
  have:=bc (B:=fun self v=>bJ.B1 k self (fun z=>bJ.Q2 k (rows,xs,()) z) (rows,xs,()) v) xs (fun (m:List (Key×Bool)) (i:Int)=>(m,xs,(xs.length:Int),i)) (fun _ m x=>.inr (x.2.2.2.1.foldl lT m)) (fun m=>(m,())) (fun _ _=>True) (by rw[ah];omega)
   (fun i hi m self _=>by
    show bJ.b1 _ _ _ _ _=_
    unfold bJ.b1
    have aj:(i:Int) < (xs.length:Int):=by omega
    simp only[aj,decide_true,cond_true,Int.natCast_nonneg,if_true,Int.toNat_natCast,List.getElem?_eq_getElem hi,Option.bind_some]
    exact inner self _ i hi m)
   (fun _ _ _ _ _ _=>trivial) (fun s self _=>by
    show bJ.b1 _ _ _ _ _=_
    unfold bJ.b1
    simp only[Int.lt_irrefl,decide_false,cond_false]
    rfl) m trivial k (by omega)
  rw[en (g:=fun m (x:Tx)=>x.2.2.2.1.foldl lT m)] at this
  refine Eq.trans this ?_
  have:∀ (xs:List Tx) (m:List (Key×Bool)),xs.foldl (fun m (x:Tx)=>x.2.2.2.1.foldl lT m) m=(flatK xs).foldl lT m:=by
   intro xs
   induction xs with
   | nil=>intro m;rfl
   | cons x xs ih=>intro m;rw[List.foldl_cons,ih];simp[flatK,List.foldl_append]
  rw[this]
 have:=bL (B:=fun self v=>bJ.B0 k self (fun z=>bJ.Q0 k (rows,xs,()) z) (rows,xs,()) v) rows (fun (m:List (Key×Bool)) (i:Int)=>(m,i)) (fun _ m r=>.inr (lT m (r.1,r.2.1,()))) (fun m=>some ((flatK xs).foldl lT m,())) (fun _ _=>True) (by rw[ah];omega)
  (fun i hi m self _=>by
   show bJ.b0 _ _ _ _=_
   unfold bJ.b0
   have aj:(i:Int) < (rows.length:Int):=by omega
   simp only[aj,decide_true,cond_true,Int.natCast_nonneg,if_true,Int.toNat_natCast,List.getElem?_eq_getElem hi,Option.bind_some]
   rfl)
  (fun _ _ _ _ _ _=>trivial) (fun s self _=>by
   show bJ.b0 _ _ _ _=_
   unfold bJ.b0
   simp only[Int.lt_irrefl,decide_false,cond_false]
   exact second s) (cJ []) trivial k (by omega)
 rw[en (g:=fun m (r:Row)=>lT m (r.1,r.2.1,()))] at this
 refine Eq.trans this ?_
 have e1:rows.foldl (fun m (r:Row)=>lT m (r.1,r.2.1,())) (cJ [])=(ne rows).foldl lT (cJ []):=by unfold ne;rw[List.foldl_map]
 rw[e1,<- List.foldl_append]
 exact congrArg (fun m=>some (m,())) (F5 (pD rows xs) [])
theorem xz {O:Type} (x:Key) (E:Bool->Option O):∀ (ys:List Key) (j:Nat) (b:Bool),aV (fun _ b y=>if b then .inr (!decide (y=x)) else .inl (E false)) E j ys b=if b then E (!dm ys x) else E false
 | [],_,b=>by cases b <;> rfl
 | y::ys,j,b=>by
  cases b with
  | false=>simp[aV]
  | true=>
   simp only[aV,if_true]
   rw[xz x E ys]
   have:dm (y::ys) x=(decide (y=x)||dm ys x):=rfl
   rw[this]
   cases decide (y=x) <;> simp
theorem DV {O:Type} (all:List Key) (E:Int->O):∀ (ys pre:List Key) (n:Int),all=pre++ys->aV (fun i n x=>.inr (if dm (all.take i) x then n else n+1)) E pre.length ys n=E (n+(wE pre ys:Int))
 | [],pre,n,_=>by simp[aV,wE]
 | y::ys,pre,n,h=>by
  simp only[aV]
  have ht:all.take pre.length=pre:=by rw[h];simp
  rw[ht]
  have:=DV all E ys (pre++[y]) (if dm pre y then n else n+1) (by rw[h];simp)
  rw[List.length_append] at this
  refine Eq.trans this ?_
  congr 1
  simp only[wE]
  cases dm pre y <;> simp <;> omega
def Bj (k:Key):List Key:=if k.2.1=0 then [] else [k]
def HN (rows:List Row) (xs:List Tx) (k:Key):Nat:=(dd [] (pD rows xs++Bj k)).length
theorem DW (rows:List Row) (xs:List Tx) (kk:Key) (hr:rows.length<=1048576) (hx:xs.length<=1000) (h:∀ x ∈ xs,List.length x.2.2.2.1<=1000):aQ.ab (rows,xs,kk,())=some ((HN rows xs kk:Int),()):=by
 refine ag (k:=3000000) fun k hk=>(aQ.aa k _).trans ?_
 have A5:(flatK xs).length<=1000*xs.length:=by
  clear hx
  induction xs with
  | nil=>simp[flatK]
  | cons x xs ih=>
   have h1:=h x (by simp)
   have Y:=ih fun y hy=>h y (by simp[hy])
   have:flatK (x::xs)=x.2.2.2.1++flatK xs:=by simp[flatK]
   rw[this,List.length_append,List.length_cons]
   omega
 have HJ:∀ all:List Key,all.length<=2100000->aQ.r2 k (rows,xs,kk,()) (all,(0:Int),(0:Int))=some ((wE [] all:Int),()):=fun all jy=>by
  have inner:∀ (self:((List Key)×Int×Int)->Option aQ.Out) (e4:Int->Option aQ.Out) (i:Nat) (hi:i < all.length) (n:Int),aQ.r3 k self e4 (rows,xs,kk,()) all n (i:Int) (true,(0:Int))=if dm (all.take i) all[i] then self (all,n,ae ((i:Int)+1)) else self (all,ae (n+1),ae ((i:Int)+1)):=fun self e4 i hi n=>by
   have eu:(all.take i).length=i:=by simp;omega
   have:=bL (B:=fun cw v=>aQ.B3 k cw (fun z=>aQ.Q2 k self e4 (rows,xs,kk,()) all n (i:Int) z) (rows,xs,kk,()) all n (i:Int) v) (all.take i) (fun (b:Bool) (j:Int)=>(b,j)) (fun _ b y=>if b then .inr (!decide (y=all[i])) else .inl (if false then self (all,ae (n+1),ae ((i:Int)+1)) else self (all,n,ae ((i:Int)+1)))) (fun b=>if b then self (all,ae (n+1),ae ((i:Int)+1)) else self (all,n,ae ((i:Int)+1))) (fun _ _=>True) (by rw[ah];omega)
    (fun j hj b cw _=>by
     show aQ.b3 _ _ _ _ _ _ _=_
     unfold aQ.b3
     rw[eu] at hj
     have aj:(j:Int) < (i:Int):=by omega
     have FG:j < all.length:=by omega
     have c1:(0:Int)<=(j:Int)/\(j:Int) < (all.length:Int):=by omega
     have c2:(0:Int)<=(i:Int)/\(i:Int) < (all.length:Int):=by omega
     simp only[aj,c1,c2,and_self,decide_true,cond_true,if_true,Int.toNat_natCast,List.getElem?_eq_getElem FG,List.getElem?_eq_getElem hi,Option.bind_some,uF,List.getElem_take]
     cases b <;> rfl)
    (fun _ _ _ _ _ _=>trivial) (fun b cw _=>by
     show aQ.b3 _ _ _ _ _ _ _=_
     unfold aQ.b3
     simp only[eu,Int.lt_irrefl,decide_false,cond_false]
     cases b <;> rfl) true trivial k (by omega)
   have e:=xz all[i] (fun b=>if b then self (all,ae (n+1),ae ((i:Int)+1)) else self (all,n,ae ((i:Int)+1))) (all.take i) 0 true
   refine (Eq.trans this e).trans ?_
   cases dm (all.take i) all[i] <;> rfl
  have:=bc (B:=fun self v=>aQ.B2 k self (fun z=>aQ.Q3 k (rows,xs,kk,()) z) (rows,xs,kk,()) v) all (fun (n:Int) (i:Int)=>(all,n,i)) (fun i n x=>.inr (if dm (all.take i) x then n else n+1)) (fun n=>(n,())) (fun i n=>0<=n/\n<=(i:Int)) (by rw[ah];omega)
   (fun i hi n self hI=>by
    show aQ.b2 _ _ _ _ _=_
    unfold aQ.b2
    have aj:(i:Int) < (all.length:Int):=by omega
    simp only[aj,decide_true,cond_true]
    rw[inner self _ i hi n,aR (n:=n+1) (by omega)]
    cases dm (all.take i) all[i] <;> rfl)
   (fun i hi n n' hI hs=>by
    injection hs with hs
    rw[<-hs]
    split <;> omega) (fun s self _=>by
    show aQ.b2 _ _ _ _ _=_
    unfold aQ.b2
    simp only[Int.lt_irrefl,decide_false,cond_false]
    rfl) 0 (by omega) k (by omega)
  have e:=DV all (fun n=>(n,())) all [] 0 rfl
  refine (Eq.trans this (congrArg some e)).trans ?_
  rw[Int.zero_add]
 have second:aQ.r1 k (rows,xs,kk,()) (ne rows,(0:Int))=some ((wE [] (pD rows xs++Bj kk):Int),()):=by
  have oS:(ne rows).length=rows.length:=by simp[ne]
  have:=bL (B:=fun self v=>aQ.B1 k self (fun z=>aQ.Q1 k (rows,xs,kk,()) z) (rows,xs,kk,()) v) xs (fun (s:List Key) (i:Int)=>(s,i)) (fun _ s x=>.inr (s++x.2.2.2.1)) (fun s=>aQ.r2 k (rows,xs,kk,()) (s++Bj kk,(0:Int),(0:Int))) (fun i s=>s.length<=1048576+1000*i) (by rw[ah];omega)
   (fun i hi s self hI=>by
    show aQ.b1 _ _ _ _=_
    unfold aQ.b1
    have aj:(i:Int) < (xs.length:Int):=by omega
    have Mp:=h _ (List.getElem_mem hi)
    have hc:s.length+List.length (xs[i]).2.2.2.1<=bk:=cQ (by omega)
    simp only[aj,decide_true,cond_true,Int.natCast_nonneg,if_true,Int.toNat_natCast,List.getElem?_eq_getElem hi,Option.bind_some,hc])
   (fun i hi s s' hI hs=>by
    injection hs with hs
    have Mp:=h _ (List.getElem_mem hi)
    rw[<-hs,List.length_append];omega) (fun s self hI=>by
    show aQ.b1 _ _ _ _=_
    unfold aQ.b1
    simp only[Int.lt_irrefl,decide_false,cond_false]
    show aQ.q1 _ _ _=_
    unfold aQ.q1 Bj
    have hc:s.length+[kk].length<=bk:=cQ (by simp only[List.length_cons,List.length_nil];omega)
    by_cases h0:kk.2.1=0
    ·simp only[h0,decide_true,Bool.not_true,cond_false,if_true,List.append_nil]
    ·simp only[h0,decide_false,Bool.not_false,cond_true,if_false,hc,if_true]) (ne rows) (by omega) k (by omega)
  rw[en (g:=fun s (x:Tx)=>s++x.2.2.2.1)] at this
  refine Eq.trans this ?_
  have e:∀ (xs:List Tx) (s:List Key),xs.foldl (fun s (x:Tx)=>s++x.2.2.2.1) s=s++flatK xs:=by
   intro xs
   induction xs with
   | nil=>intro s;simp[flatK]
   | cons x xs ih=>intro s;rw[List.foldl_cons,ih];simp[flatK]
  rw[e]
  have hex:(Bj kk).length<=1:=by unfold Bj;split <;> simp
  exact HJ _ (by rw[List.length_append,List.length_append,oS];omega)
 have:=bL (B:=fun self v=>aQ.B0 k self (fun z=>aQ.Q0 k (rows,xs,kk,()) z) (rows,xs,kk,()) v) rows (fun (s:List Key) (i:Int)=>(s,i)) (fun _ s r=>.inr (s++[(r.1,r.2.1,())])) (fun s=>aQ.r1 k (rows,xs,kk,()) (s,(0:Int))) (fun i s=>s.length=i) (by rw[ah];omega)
  (fun i hi s self hI=>by
   show aQ.b0 _ _ _ _=_
   unfold aQ.b0
   have aj:(i:Int) < (rows.length:Int):=by omega
   have hc:s.length+[((rows[i]).1,(rows[i]).2.1,())].length<=bk:=cQ (by simp only[List.length_cons,List.length_nil];omega)
   simp only[aj,decide_true,cond_true,Int.natCast_nonneg,if_true,Int.toNat_natCast,List.getElem?_eq_getElem hi,Option.bind_some]
   rw[if_pos hc])
  (fun i hi s s' hI hs=>by injection hs with hs;rw[<-hs];simp[hI]) (fun s self _=>by
   show aQ.b0 _ _ _ _=_
   unfold aQ.b0
   simp only[Int.lt_irrefl,decide_false,cond_false]
   rfl) [] rfl k (by omega)
 rw[en (g:=fun s (r:Row)=>s++[(r.1,r.2.1,())])] at this
 have e:∀ (rows:List Row) (s:List Key),rows.foldl (fun s (r:Row)=>s++[(r.1,r.2.1,())]) s=s++ne rows:=by
  intro rows
  induction rows with
  | nil=>intro s;simp[ne]
  | cons r rows ih=>intro s;rw[List.foldl_cons,ih];simp[ne]
 rw[e,List.nil_append,second] at this
 refine Eq.trans this ?_
 have:=Au (pD rows xs++Bj kk) [] [] (fun _=>Iff.rfl)
 simp only[List.length_nil,Nat.zero_add] at this
 unfold HN
 rw[this]
theorem EX (rows:List Row) (xs:List Tx) (hr:rows.length<=1048576) (hx:xs.length<=1000) (h:∀ x ∈ xs,List.length x.2.2.2.1<=1000):aQ.ab (rows,xs,((0:Int),(0:Int),()),())=some ((qg rows xs:Int),()):=by
 rw[DW rows xs _ hr hx h]
 unfold HN Bj
 simp only[if_true,List.append_nil]
 rfl
theorem JU {ks:List Key} (h:pv ks=0):∀ k ∈ ks,qd k=true:=by
 have main:∀ (ys:List Key) (j:Nat),(aV (fun i (_:Unit) k=>if kE ks i k=0 then .inr () else .inl (kE ks i k)) (fun _=>(0:Int)) j ys ())=0->∀ y ∈ ys,qd y=true:=by
  intro ys
  induction ys with
  | nil=>intro j _ y hy;cases hy
  | cons y ys ih=>
   intro j hf z hz
   simp only[aV] at hf
   by_cases h0:kE ks j y=0
   ·rw[if_pos h0] at hf
    rcases List.mem_cons.1 hz with rfl | hz
    ·unfold kE at h0
     split at h0
     ·assumption
     ·cases h0
    ·exact ih (j+1) hf z hz
   ·rw[if_neg h0] at hf
    exact absurd hf h0
 exact main ks 0 h
structure HO (xs:List Tx):Prop where
 len:xs.length<=4
 ch:∀ x ∈ xs,∀ c ∈ (x.2.1:List Change),nc c=0
 PG:∀ x ∈ xs,List.length x.2.2.2.1<=12
 HP:∀ x ∈ xs,List.length x.2.1<=12
 keys:∀ x ∈ xs,∀ k ∈ (x.2.2.2.1:List Key),qd k=true
theorem xA {α:Type} {c:α->Int}:∀ {xs:List α},gM c xs=0->∀ x ∈ xs,c x=0
 | [],_,_,h=>by cases h
 | y::ys,h,x,hx=>by
  simp only[gM] at h
  split at h
  ·rcases List.mem_cons.1 hx with e | e
   ·subst e;assumption
   ·exact xA h x e
  ·rename_i hn;exact absurd h hn
theorem F6:∀ (xs:List Tx) (n:Int),0<=n->n<=xs.foldl (fun n x=>n+(List.length x.2.1:Int)) n/\∀ x ∈ xs,(List.length x.2.1:Int)<=xs.foldl (fun n x=>n+(List.length x.2.1:Int)) n
 | [],n,h=>⟨Int.le_refl _,fun x hx=>by cases hx⟩
 | y::ys,n,h=>by
  obtain ⟨h1,Y⟩:=F6 ys (n+(List.length y.2.1:Int)) (by omega)
  simp only[List.foldl_cons]
  refine ⟨by omega,fun x hx=>?_⟩
  rcases List.mem_cons.1 hx with e | e
  ·subst e;omega
  ·exact Y x e
theorem JV {xs:List Tx} (h:ta xs=0):HO xs:=by
 unfold ta at h
 split at h
 ·cases h
 ·rename_i hl
  split at h
  ·rename_i he
   split at h
   ·split at h
    ·cases h
    ·rename_i hc
     have each:∀ x ∈ xs,pG x=0:=fun x hx=>by
      obtain ⟨i,hi,rfl⟩:=List.mem_iff_getElem.1 hx
      exact (uX (sQ xs he i hi)).2.1
     refine ⟨by omega,fun x hx c Qo=>?_,fun x hx=>?_,fun x hx=>?_,fun x hx=>?_⟩
     ·have h1:=each x hx
      unfold pG at h1
      split at h1
      ·rename_i hu
       have Y:=xA hu c Qo
       unfold qe at Y
       split at Y
       ·rename_i hs
        unfold tw at hs
        split at hs
        ·assumption
        ·rename_i hn;exact absurd hs hn
       ·rename_i hn;exact absurd Y hn
      ·rename_i hn;exact absurd h1 hn
     ·have h1:=each x hx
      unfold pG at h1
      split at h1
      ·unfold mQ at h1
       split at h1
       ·cases h1
       ·rename_i hm
        simp only[Bool.or_eq_true,decide_eq_true_eq,not_or] at hm
        omega
      ·rename_i hn;exact absurd h1 hn
     ·have:=(F6 xs 0 (Int.le_refl _)).2 x hx
      unfold qE at hc
      omega
     ·have h1:=each x hx
      unfold pG at h1
      split at h1
      ·unfold mQ at h1
       split at h1
       ·cases h1
       ·split at h1
        ·exact JU h1
        ·cases h1
      ·rename_i hn;exact absurd h1 hn
   ·cases h
  ·rename_i hn;exact absurd h hn
end OT
set_option linter.unusedVariables false
set_option linter.unusedSimpArgs false
namespace OT
open Go
def wF (c:Change):Change:=(c.2.2.1,c.2.2.2.1,c.1,c.2.1,())
def iT (cs:List Change):List Change:=cs.reverse.map wF
theorem xe (cs:List Change):(iT cs).length=cs.length:=by simp[iT]
theorem F7 {cs:List Change} {c:Change} (h:c ∈ iT cs):∃ d ∈ cs,c=wF d:=by
 unfold iT at h
 obtain ⟨d,h1,Y⟩:=List.mem_map.1 h
 exact ⟨d,List.mem_reverse.1 h1,Y.symm⟩
theorem DX (a b:Row):sameKey a b=sameKey b a:=by
 rw[uK,uK]
 by_cases h:rk a=rk b
 ·simp[h]
 ·have:¬ rk b=rk a:=fun e=>h e.symm
  simp[h,this]
theorem M3 {c:Change} (h:nc c=0):nc (wF c)=0:=by
 obtain ⟨a,ra,b,rb,⟨⟩⟩:=c
 unfold nc at h ⊢
 simp only[wF]
 have hk:=DX ra rb
 cases a <;> cases b
 ·exact h
 ·simp at h ⊢
  by_cases hr:ip rb=0
  ·exact fun _=>hr
  ·simp[hr] at h
 ·simp at h ⊢
  by_cases hr:ip ra=0
  ·exact hr
  ·simp[hr] at h
 ·simp only[hk] at h
  by_cases hs:sameKey rb ra=true
  ·by_cases hr:ip ra=0
   ·by_cases hb:ip rb=0
    ·simp[hs,hr,hb] at h ⊢
     try omega
    ·simp[hs,hr,hb] at h ⊢
   ·by_cases hb:ip rb=0
    ·simp[hs,hr,hb] at h ⊢
    ·simp[hs,hr,hb] at h ⊢
  ·simp[hs] at h
theorem wG (cs:List Change) (hl:cs.length<=1048576) {O:Type} {B:((List Change×Int)->Option O)->(List Change×Int)->Option O} {E:List Change->Option O}
  (et:∀ (m:Nat) (hm:m < cs.length) acc self,acc.length<=1048576->B self (acc,(m:Int))=self (acc++[wF cs[m]],ae ((m:Int) - 1))) (kA:∀ acc self,B self (acc,(-1:Int))=E acc) :
  ∀ k,cs.length < k->al B k ([],ae ((cs.length:Int) - 1))=E (iT cs):=by
 have main:∀ (m:Nat) (acc:List Change),m<=cs.length->acc.length+m<=cs.length->∀ k,m < k->al B k (acc,(m:Int) - 1)=E (acc++(cs.take m).reverse.map wF):=by
  intro m
  induction m with
  | zero=>
   intro acc _ _ k hk
   cases k with
   | zero=>omega
   | succ k=>
    show B (al B k) _=_
    have:((0:Nat):Int) - 1=-1:=by omega
    rw[this,kA]
    simp
  | succ m ih=>
   intro acc hm ha k hk
   cases k with
   | zero=>omega
   | succ k=>
    show B (al B k) _=_
    have e:((m+1:Nat):Int) - 1=(m:Int):=by omega
    rw[e,et m (by omega) acc _ (by omega),aR (by omega),ih _ (by omega) (by simp;omega) k (by omega),List.take_succ_eq_append_getElem (by omega),List.reverse_append,List.map_append,List.append_assoc]
    rfl
 intro k hk
 have:=main cs.length [] (Nat.le_refl _) (by simp) k hk
 rw[aR (by omega)]
 simpa [iT] using this
theorem HQ (cs:List Change) (hl:cs.length<=1048576):dW.ab (cs,())=some (iT cs,()):=by
 refine ag (k:=cs.length+1) fun k hk=>(dW.aa k _).trans ?_
 refine wG cs hl (B:=fun self v=>dW.B0 0 self (fun z=>dW.Q0 0 (cs,()) z) (cs,()) v) (E:=fun z=>some (z,())) (fun m hm acc self ha=>?_) (fun acc self=>?_) k (by omega)
 ·show dW.b0 _ _ _ _=_
  unfold dW.b0
  have hc:acc.length+[wF cs[m]].length<=bk:=cQ (by simp only[List.length_cons,List.length_nil];omega)
  simp only[Int.natCast_nonneg,decide_true,cond_true,if_true,Int.toNat_natCast,List.getElem?_eq_getElem hm,Option.bind_some]
  exact if_pos hc
 ·show dW.b0 _ _ _ _=_
  unfold dW.b0
  rfl
theorem HR (cs:List Change) (hl:cs.length<=1048576):fT.ab (cs,())=some (iT cs,()):=by
 refine ag (k:=cs.length+1) fun k hk=>(fT.aa k _).trans ?_
 refine wG cs hl (B:=fun self v=>fT.B0 0 self (fun z=>fT.Q0 0 (cs,()) z) (cs,()) v) (E:=fun z=>some (z,())) (fun m hm acc self ha=>?_) (fun acc self=>?_) k (by omega)
 ·show fT.b0 _ _ _ _=_
  unfold fT.b0
  have hc:acc.length+[wF cs[m]].length<=bk:=cQ (by simp only[List.length_cons,List.length_nil];omega)
  simp only[Int.natCast_nonneg,decide_true,cond_true,if_true,Int.toNat_natCast,List.getElem?_eq_getElem hm,Option.bind_some]
  exact if_pos hc
 ·show fT.b0 _ _ _ _=_
  unfold fT.b0
  rfl
def fJ:List Row->List Change->Option (List Row)
 | s,[]=>some s
 | s,c::cs=>if oz s c then fJ (mD s c) cs else none
theorem back_append:∀ (a b:List Change) (s:List Row),fJ s (a++b)=(fJ s a).bind fun t=>fJ t b
 | [],b,s=>rfl
 | c::a,b,s=>by
  simp only[List.cons_append,fJ]
  split
  ·exact back_append a b _
  ·rfl
theorem Bk {O:Type} (bad:O) (fin:List Row->O):∀ (cs:List Change) (i:Nat) (s:List Row),aV (fun _ s c=>if oz s c then .inr (mD s c) else .inl bad) fin i cs s=match fJ s cs with | some t=>fin t | none=>bad
 | [],_,_=>rfl
 | c::cs,i,s=>by
  simp only[aV,fJ]
  by_cases h:oz s c=true
  ·simp only[h,if_true];exact Bk bad fin cs _ _
  ·simp[h]
theorem wH:∀ (cs:List Change) (s t:List Row),Good s->(∀ c ∈ cs,nc c=0)->fJ s cs=some t->Good t/\t.length<=s.length+cs.length
 | [],s,t,h,_,hb=>by injection hb with hb;subst hb;exact ⟨h,by simp⟩
 | c::cs,s,t,h,hc,hb=>by
  simp only[fJ] at hb
  split at hb
  ·have h1:=wH cs (mD s c) t (sK h (hc c (by simp))) (fun d hd=>hc d (by simp[hd])) hb
   have Y:=uN s c
   exact ⟨h1.1,by simp only[List.length_cons];omega⟩
  ·cases hb
theorem DY {O α:Type} {f:Nat->Unit->α->Sum O Unit} {fin:Unit->O}:∀ (xs:List α) (j:Nat),(∀ i (hi:i < xs.length),f (j+i) () xs[i]=.inr ())->aV f fin j xs ()=fin ()
 | [],_,_=>rfl
 | x::xs,j,h=>by
  have h0:=h 0 (by simp)
  simp only[Nat.add_zero,List.getElem_cons_zero] at h0
  simp only[aV,h0]
  exact DY xs (j+1) fun i hi=>by
   have:=h (i+1) (by simp;omega)
   rw[show j+1+i=j+(i+1) by omega]
   simpa using this
theorem HS {xs:List Row} (h:Good xs) (hl:xs.length<=60):mE xs=0:=by
 unfold mE
 rw[if_neg (by omega),DY xs 0 fun i hi=>?_]
 unfold lS
 rw[if_pos (h.ok _ (List.getElem_mem hi)),Nat.zero_add]
 by_cases h0:0 < i
 ·rw[if_pos h0,List.getElem?_eq_getElem (show i - 1 < xs.length by omega)]
  have hu:=h.up
  unfold up at hu
  rw[List.pairwise_iff_getElem] at hu
  have:=hu (i - 1) i (by omega) hi (by omega)
  simp only[this,if_true]
 ·rw[if_neg h0]
theorem HT {s:List Row} {cs:List Change} (h:Good s) (hc:∀ c ∈ cs,nc c=0) (hl:s.length+cs.length<=60):zt s cs=match fJ s cs with | some t=>((0:Int),t,()) | none=>((8:Int),([]:List Row),()):=by
 unfold zt
 rw[if_pos (HS h (by omega))]
 have main:∀ (cs:List Change) (s:List Row) (i:Nat),Good s->(∀ c ∈ cs,nc c=0)->s.length+cs.length<=60->(aV nD si i cs s).1=match fJ s cs with | some t=>((0:Int),t,()) | none=>((8:Int),([]:List Row),()):=by
  intro cs
  induction cs with
  | nil=>
   intro s i h _ hl
   simp only[aV,si,fJ]
   rw[if_neg (by simp at hl;omega)]
  | cons c cs ih=>
   intro s i h hc hl
   simp only[aV,nD,fJ,hc c (by simp),if_true]
   by_cases hf:oz s c=true
   ·simp only[hf,if_true]
    have:=uN s c
    exact ih _ _ (sK h (hc c (by simp))) (fun d hd=>hc d (by simp[hd])) (by simp at hl;omega)
   ·simp[hf]
 exact main cs s 0 h hc hl
def pE (xs:List Tx):List Change:=xs.flatMap fun x=>iT x.2.1
theorem uY {O:Type} (bad:O) (fin:List Row->O):∀ (xs:List Tx) (i:Nat) (s:List Row),aV (fun _ s x=>match fJ s (iT x.2.1) with | some t=>.inr t | none=>.inl bad) fin i xs s=match fJ s (pE xs) with | some t=>fin t | none=>bad
 | [],_,_=>rfl
 | x::xs,i,s=>by
  have hb:pE (x::xs)=iT x.2.1++pE xs:=by simp[pE]
  rw[hb,back_append]
  simp only[aV]
  cases fJ s (iT x.2.1) with
  | none=>rfl
  | some t=>simp only[Option.bind_some];exact uY bad fin xs _ _
theorem zM {cs:List Change} (h:∀ c ∈ cs,nc c=0):∀ c ∈ iT cs,nc c=0:=fun c hc=>by
 obtain ⟨d,h1,rfl⟩:=F7 hc
 exact M3 (h d h1)
theorem OQ {cs:List Change} (h:∀ c ∈ cs,cl c):∀ c ∈ iT cs,cl c:=fun c hc=>by
 obtain ⟨d,h1,rfl⟩:=F7 hc
 exact ⟨(h d h1).2,(h d h1).1⟩
theorem M4 {s:List Row} (h:Good s):∀ x ∈ s,rl x:=fun x hx=>by
 have:=Jz (h.ok x hx)
 unfold rl
 rw[ah]
 omega
theorem DZ (s:List Row) (cs:List Change) (h:Good s) (hc:∀ c ∈ cs,nc c=0) (hl:s.length+cs.length<=1000):fh.ab (s,cs,())=some (match fJ s (iT cs) with | some t=>(t,true,()) | none=>(([]:List Row),false,())):=by
 refine ag (k:=1001) fun k hk=>(fh.aa k _).trans ?_
 unfold fh.p
 rw[HQ cs (by omega)]
 simp only[Option.bind_some]
 have hlen:=xe cs
 have Mq:=zM hc
 have:=bc (B:=fun self v=>fh.B0 0 self (fun z=>fh.Q0 0 (s,cs,()) (iT cs) z) (s,cs,()) (iT cs) v) (iT cs) (fun (s:List Row) (i:Int)=>(s,i)) (fun _ s c=>if oz s c then .inr (mD s c) else .inl (([]:List Row),false,())) (fun s=>(s,true,())) (fun i t=>Good t/\t.length<=s.length+i) (by rw[ah];omega)
  (fun i hi t self hI=>by
   show fh.b0 _ _ _ _ _=_
   unfold fh.b0
   have aj:(i:Int) < ((iT cs).length:Int):=by omega
   have et:(0:Int)<=(i:Int)/\(i:Int) < ((iT cs).length:Int):=by omega
   simp only[aj,et,and_self,decide_true,cond_true,if_true,Int.toNat_natCast,List.getElem?_eq_getElem hi,Option.bind_some]
   rw[Ju t _ hI.1.up (by omega) (FN (Mq _ (List.getElem_mem hi))).1]
   cases oz t (iT cs)[i] <;> rfl)
  (fun i hi t t' hI hs=>by
   split at hs
   ·injection hs with hs
    subst hs
    have:=uN t (iT cs)[i]
    exact ⟨sK hI.1 (Mq _ (List.getElem_mem hi)),by omega⟩
   ·cases hs) (fun t self _=>by
   show fh.b0 _ _ _ _ _=_
   unfold fh.b0
   simp only[Int.lt_irrefl,decide_false,cond_false]
   rfl) s ⟨h,by omega⟩ k (by omega)
 rw[Bk] at this
 refine Eq.trans this ?_
 cases fJ s (iT cs) <;> rfl
theorem EY (rows:List Row) (xs:List Tx) (h:Good rows) (hl:rows.length<=12) (hx:HO xs):fi.ab (rows,xs,())=some (match fJ rows (pE xs) with | some t=>(t,true,()) | none=>(([]:List Row),false,())):=by
 refine ag (k:=10) fun k hk=>(fi.aa k _).trans ?_
 unfold fi.p
 have hc:([]:List Row).length+rows.length<=bk:=cQ (by simp only[List.length_nil];omega)
 rw[if_pos hc,List.nil_append]
 have TQ:=hx.len
 have:=bc (B:=fun self v=>fi.B0 0 self (fun z=>fi.Q0 0 (rows,xs,()) z) (rows,xs,()) v) xs (fun (s:List Row) (i:Int)=>(s,i)) (fun _ s x=>match fJ s (iT x.2.1) with | some t=>.inr t | none=>.inl (([]:List Row),false,())) (fun s=>(s,true,())) (fun i t=>Good t/\t.length<=12+12*i) (by rw[ah];omega)
  (fun i hi t self hI=>by
   show fi.b0 _ _ _ _=_
   unfold fi.b0
   have aj:(i:Int) < (xs.length:Int):=by omega
   have hu:=hx.HP _ (List.getElem_mem hi)
   simp only[aj,decide_true,cond_true,Int.natCast_nonneg,if_true,Int.toNat_natCast,List.getElem?_eq_getElem hi,Option.bind_some]
   rw[DZ t _ hI.1 (hx.ch _ (List.getElem_mem hi)) (by omega)]
   cases fJ t (iT (xs[i]).2.1) <;> rfl)
  (fun i hi t t' hI hs=>by
   have hu:=hx.HP _ (List.getElem_mem hi)
   cases hb:fJ t (iT (xs[i]).2.1) with
   | none=>rw[hb] at hs;cases hs
   | some q=>
    rw[hb] at hs
    injection hs with hs
    subst hs
    have:=wH _ _ _ hI.1 (zM (hx.ch _ (List.getElem_mem hi))) hb
    rw[xe] at this
    exact ⟨this.1,by omega⟩) (fun t self _=>by
   show fi.b0 _ _ _ _=_
   unfold fi.b0
   simp only[Int.lt_irrefl,decide_false,cond_false]
   rfl) rows ⟨h,by omega⟩ k (by omega)
 rw[uY] at this
 refine Eq.trans this ?_
 cases fJ rows (pE xs) <;> rfl
theorem D0 (rows:List Row) (xs:List Tx) (h:Good rows) (hl:rows.length<=12) (hx:HO xs) (ht:xw xs):dc.ab (rows,xs,())=some (match fJ rows (pE xs) with | some t=>(t,(0:Int),()) | none=>(([]:List Row),(8:Int),())):=by
 refine ag (k:=10) fun k hk=>(dc.aa k _).trans ?_
 unfold dc.p
 have TQ:=hx.len
 have:=bc (B:=fun self v=>dc.B0 0 self (fun z=>dc.Q0 0 (rows,xs,()) z) (rows,xs,()) v) xs (fun (s:List Row) (i:Int)=>(s,i)) (fun _ s x=>match fJ s (iT x.2.1) with | some t=>.inr t | none=>.inl (([]:List Row),(8:Int),())) (fun s=>(s,(0:Int),())) (fun i t=>Good t/\t.length<=12+12*i) (by rw[ah];omega)
  (fun i hi t self hI=>by
   show dc.b0 _ _ _ _=_
   unfold dc.b0
   have aj:(i:Int) < (xs.length:Int):=by omega
   have hu:=hx.HP _ (List.getElem_mem hi)
   have Mq:=zM (hx.ch _ (List.getElem_mem hi))
   have QN:=ht.2 _ (List.getElem_mem hi)
   simp only[aj,decide_true,cond_true,Int.natCast_nonneg,if_true,Int.toNat_natCast,List.getElem?_eq_getElem hi,Option.bind_some]
   rw[HR _ QN.1]
   simp only[Option.bind_some]
   have LN:=xe (xs[i]).2.1
   rw[Dx t _ (by rw[ah];omega) (M4 hI.1) (by omega) (OQ QN.2.2.2),HT hI.1 Mq (by omega)]
   cases fJ t (iT (xs[i]).2.1) <;> rfl)
  (fun i hi t t' hI hs=>by
   have hu:=hx.HP _ (List.getElem_mem hi)
   cases hb:fJ t (iT (xs[i]).2.1) with
   | none=>rw[hb] at hs;cases hs
   | some q=>
    rw[hb] at hs
    injection hs with hs
    subst hs
    have:=wH _ _ _ hI.1 (zM (hx.ch _ (List.getElem_mem hi))) hb
    rw[xe] at this
    exact ⟨this.1,by omega⟩) (fun t self hI=>by
   show dc.b0 _ _ _ _=_
   unfold dc.b0
   simp only[Int.lt_irrefl,decide_false,cond_false,dc.Q0,dc.q0]
   rw[xp t (by omega)]
   rfl) rows ⟨h,by omega⟩ k (by omega)
 rw[uY] at this
 refine Eq.trans this ?_
 cases fJ rows (pE xs) <;> rfl
def zN (n:Int) (xs:List Tx):Bool:=match xs[xs.length - 1]? with
 | some x=>decide (n<=x.1)
 | none=>false
def qt (p:Plain):Int:=
 if mE p.1=0 then
  if ta p.2.1=0 then
   if ci p.2.2.1 1 100&&!zN p.2.2.1 p.2.1 then
    if 12 < qg p.1 p.2.1 then 2 else (match fJ p.1 (pE p.2.1) with | some _=>0 | none=>8)
   else 3
  else ta p.2.1
 else mE p.1
def Mr (p:Plain):Prop:=List.length p.1<=1048576/\(∀ x ∈ (p.1:List Row),rl x)/\xw p.2.1
theorem F8 {O:Type} (n:Int) (xs:List Tx) (hl:xs.length<=1048576) (bad j:Option O) :
  (bif decide ((0:Int) < (xs.length:Int)) then (if 0<=ae ((xs.length:Int) - (1:Int)) then ((xs[(ae ((xs.length:Int) - (1:Int))).toNat]?).bind fun x5=>bif decide (n<=x5.1) then bad else j) else none) else j)=if zN n xs then bad else j:=by
 unfold zN
 by_cases h:0 < xs.length
 ·have h1:(0:Int) < (xs.length:Int):=by omega
  have Y:ae ((xs.length:Int) - 1)=((xs.length - 1:Nat):Int):=by rw[aR (by omega)];omega
  have h3:xs.length - 1 < xs.length:=by omega
  simp only[h1,Y,decide_true,cond_true,Int.natCast_nonneg,if_true,Int.toNat_natCast,List.getElem?_eq_getElem h3,Option.bind_some]
  cases decide (n<=(xs[xs.length - 1]).1) <;> rfl
 ·have h0:xs=[]:=List.eq_nil_of_length_eq_zero (by omega)
  subst h0
  rfl
theorem D1 (p:Plain) (h:Mr p):gV.ab (p,())=some (qt p,()):=by
 obtain ⟨rows,xs,n,⟨⟩⟩:=p
 obtain ⟨h1,Y,h3⟩:=h
 simp only at h1 Y h3
 refine ag (k:=0) fun k _=>(gV.aa k _).trans ?_
 show gV.p _=_
 unfold gV.p qt
 simp only[xo rows (by rw[ah];omega) Y,HL xs h3,kT,JT rows xs h1 h3,Option.bind_some]
 by_cases hr:mE rows=0
 rotate_left
 ·simp only[hr,decide_false,Bool.not_false,cond_true,if_false]
 by_cases ht:ta xs=0
 rotate_left
 ·simp only[hr,ht,decide_true,decide_false,Bool.not_true,Bool.not_false,cond_true,cond_false,if_true,if_false]
 obtain ⟨hg,_⟩:=uM hr
 have aA:=JV ht
 simp only[hr,ht,decide_true,Bool.not_true,cond_false,if_true]
 have et:(decide ((1:Int)<=n)&&decide (n<=100))=ci n 1 100:=rfl
 rw[et]
 cases ci n 1 100 with
 | false=>rfl
 | true=>
  simp only[Bool.not_true,cond_false,Bool.true_and]
  rw[F8 n xs h3.1]
  cases zN n xs with
  | true=>rfl
  | false=>
   simp only[Bool.not_false,Bool.false_eq_true,if_false,if_true]
   have hlen:(cJ (dd [] (pD rows xs))).length=qg rows xs:=by simp[cJ,qg]
   by_cases p6:12 < qg rows xs
   ·have:(12:Int) < ((cJ (dd [] (pD rows xs))).length:Int):=by rw[hlen];omega
    simp only[this,p6,decide_true,cond_true,if_true]
   ·have:¬ (12:Int) < ((cJ (dd [] (pD rows xs))).length:Int):=by rw[hlen];omega
    have oS:rows.length<=12:=by
     have:=Bi (xs:=xs) hg.up
     unfold qg at p6
     omega
    simp only[this,p6,decide_false,cond_false,if_false,D0 rows xs hg oS aA h3,Option.bind_some]
    cases fJ rows (pE xs) <;> rfl
theorem D2 (p:Plain) (h:Mr p):i_.ab (p,())=some (qt p,()):=by
 obtain ⟨rows,xs,n,⟨⟩⟩:=p
 obtain ⟨h1,Y,h3⟩:=h
 simp only at h1 Y h3
 refine ag (k:=0) fun k _=>(i_.aa k _).trans ?_
 show i_.p _=_
 unfold i_.p qt
 simp only[EG rows (by rw[ah];omega) Y,HM xs h3,gC,Option.bind_some]
 by_cases hr:mE rows=0
 rotate_left
 ·simp only[hr,decide_false,Bool.not_false,cond_true,if_false]
 by_cases ht:ta xs=0
 rotate_left
 ·simp only[hr,ht,decide_true,decide_false,Bool.not_true,Bool.not_false,cond_true,cond_false,if_true,if_false]
 obtain ⟨hg,_⟩:=uM hr
 have aA:=JV ht
 have OR:=EX rows xs h1 (by have:=aA.len;omega) (fun x hx=>by have:=aA.PG x hx;omega)
 simp only[hr,ht,decide_true,Bool.not_true,cond_false,if_true,OR,Option.bind_some]
 have et:(decide ((1:Int)<=n)&&decide (n<=100))=ci n 1 100:=rfl
 rw[et]
 cases ci n 1 100 with
 | false=>rfl
 | true=>
  simp only[Bool.not_true,cond_false,Bool.true_and]
  rw[F8 n xs h3.1]
  cases zN n xs with
  | true=>rfl
  | false=>
   simp only[Bool.not_false,Bool.false_eq_true,if_false,if_true]
   by_cases p6:12 < qg rows xs
   ·have:(12:Int) < (qg rows xs:Int):=by omega
    simp only[this,p6,decide_true,cond_true,if_true]
   ·have:¬ (12:Int) < (qg rows xs:Int):=by omega
    have oS:rows.length<=12:=by
     have:=Bi (xs:=xs) hg.up
     unfold qg at p6
     omega
    simp only[this,p6,decide_false,cond_false,if_false,EY rows xs hg oS aA,Option.bind_some]
    cases fJ rows (pE xs) <;> rfl
theorem Le {p:Plain} (hv:ka tu p) (hz:zz tu p<=1048576):Mr p:=by
 obtain ⟨rows,xs,n,⟨⟩⟩:=p
 obtain ⟨hr,hx,_⟩:=hv
 replace hz:zz (.U aF) rows+(zz (.U bd) xs+(0+0))<=1048576:=hz
 refine ⟨Nat.le_trans (eW (e:=aF) rows) (by omega),fun x hm=>Hn (hr.2 x hm),Nat.le_trans (eW (e:=bd) xs) (by omega),fun x hm=>?_⟩
 have h1:zz bd x+1<=zz (.U bd) xs:=kq (e:=bd) hm
 have Y:zz bd x=0+(zz (.U an) x.2.1+(zz (.U i64) x.2.2.1+(zz (.U aL) x.2.2.2.1+0))):=rfl
 have h3:List.length x.2.1<=zz (.U an) x.2.1:=eW (e:=an) x.2.1
 have h4:List.length x.2.2.1<=zz (.U i64) x.2.2.1:=eW (e:=i64) x.2.2.1
 have h5:List.length x.2.2.2.1<=zz (.U aL) x.2.2.2.1:=eW (e:=aL) x.2.2.2.1
 exact ⟨by omega,by omega,by omega,fun c hc=>Ho ((hx.2 x hm).2.1.2 c hc)⟩
end OT
set_option linter.unusedVariables false
set_option linter.unusedSimpArgs false
namespace OT
open Go
end OT
set_option linter.unusedVariables false
set_option linter.unusedSimpArgs false
set_option linter.unusedSectionVars false
namespace OT
open Go
theorem tJ {a b:List UInt8} {i:Nat} (h:i < a.length):aU (a++b) i=aU a i:=by
 unfold aU
 simp only[List.getD_eq_getElem?_getD]
 rw[List.getElem?_append_left h]
theorem JW {a b:List UInt8} {q:aO×Nat} (h:lJ a=some q):lJ (a++b)=some q:=by
 have h0:=h
 unfold lJ at h
 split at h
 ·cases h
 ·rename_i hc
  have l0:7<=a.length:=by omega
  have l1:aU a 0<=a.length:=by omega
  unfold lJ
  have e0:aU (a++b) 0=aU a 0:=tJ (by omega)
  have e1:aU (a++b) 1=aU a 1:=tJ (by omega)
  have e2:aU (a++b) 2=aU a 2:=tJ (by omega)
  have e3:aU (a++b) 3=aU a 3:=tJ (by omega)
  have e4:aU (a++b) 4=aU a 4:=tJ (by omega)
  rw[e0,e1,e2,e3,e4,List.take_append_of_le_length l1,if_neg (by rw[List.length_append];omega)]
  exact h
theorem xB (b:List UInt8):∀ (k:Nat) (a:List UInt8),a.length < k->(eA k a).2=a.length->eA (k+b.length) (a++b)=((eA k a).1++(mJ b).1,a.length+(mJ b).2)
 | 0,_,h,_=>by omega
 | k+1,a,hk,h=>by
  cases hr:lJ a with
  | none=>
   simp only[eA,hr] at h
   have:a=[]:=List.eq_nil_of_length_eq_zero h.symm
   subst this
   rw[List.nil_append,mR (k+1+b.length) (b.length+1) b (by omega) (by omega)]
   simp[eA,hr,mJ]
  | some q=>
   obtain ⟨r,n⟩:=q
   have hn:=tH hr
   have hd:(a.drop n).length=a.length - n:=List.length_drop
   simp only[eA,hr] at h
   have ih:=xB b k (a.drop n) (by omega) (by omega)
   have e:k+1+b.length=(k+b.length)+1:=by omega
   rw[e]
   simp only[eA,hr,JW hr,List.drop_append_of_le_length hn.2.1,ih,List.cons_append]
   rw[hd]
   congr 1
   omega
theorem JX {a b:List UInt8} (h:lK a=true):mJ (a++b)=((mJ a).1++(mJ b).1,a.length+(mJ b).2):=by
 have:=xB b (a.length+1) a (by omega) (of_decide_eq_true h)
 unfold mJ
 rw[List.length_append,mR (a.length+b.length+1) (a.length+1+b.length) _ (by rw[List.length_append];omega) (by rw[List.length_append];omega)]
 exact this
def mK (l:Log):List aO:=(mJ l.1).1++(mJ l.2.1).1
theorem sm:∀ (k:Nat) (d:List UInt8),(eA k d).1.length<=d.length
 | 0,d=>Nat.zero_le _
 | k+1,d=>by
  simp only[eA]
  cases hr:lJ d with
  | none=>exact Nat.zero_le _
  | some q=>
   obtain ⟨r,n⟩:=q
   have hn:=tH hr
   have hd:(d.drop n).length=d.length - n:=List.length_drop
   have:=sm k (d.drop n)
   simp only[List.length_cons]
   omega
theorem wI {l:Log} (h:pV l=0):List.length l.1+List.length l.2.1<=16000/\lK l.1=true/\lK l.2.1=true:=by
 unfold pV at h
 split at h
 ·cases h
 ·split at h
  ·rename_i a b
   rw[Bool.and_eq_true] at b
   exact ⟨by omega,b.1,b.2⟩
  ·cases h
theorem ym {l:Log} (h:pV l=0):(mK l).length<=16000:=by
 have h1:=wI h
 unfold mK
 rw[List.length_append]
 have a:=sm (List.length l.1+1) l.1
 have b:=sm (List.length l.2.1+1) l.2.1
 unfold mJ
 omega
theorem EZ {l:Log} (h:pV l=0):im.ab (l,())=some (mK l,()):=by
 have h1:=wI h
 have Y:=ym h
 refine ag (k:=0) fun k _=>(im.aa k _).trans ?_
 unfold im.p
 simp only[uU l.1 (by omega),uU l.2.1 (by omega),Option.bind_some]
 rw[if_pos (cQ (by unfold mK at Y;rw[List.length_append] at Y;omega))]
 rfl
theorem Lf (d:List UInt8) (hd:d.length<=1048576):dC.ab (d,())=some (d,()):=qb d (by omega)
theorem E0 {l:Log} (h:pV l=0):iF.ab (l,())=some (mK l,()):=by
 have h1:=wI h
 refine ag (k:=0) fun k _=>(iF.aa k _).trans ?_
 unfold iF.p
 simp only[Lf l.1 (by omega),Option.bind_some]
 rw[if_pos (cQ (by omega)),uV _ (by rw[List.length_append];omega)]
 rw[JX h1.2.1]
 rfl
theorem yn {α:Type} [DecidableEq α]:∀ {a b:List α},a.length=b.length->kg (fun x y=>decide (x=y)) a b=decide (a=b)
 | [],[],_=>by simp[kg]
 | x::a,y::b,h=>by
  have ih:=yn (a:=a) (b:=b) (by simpa using h)
  unfold kg at ih ⊢
  simp only[List.zip_cons_cons,List.all_cons,ih]
  by_cases h1:x=y <;> by_cases Y:a=b <;> simp[h1,Y]
 | [],_::_,h=>by cases h
 | _::_,[],h=>by cases h
theorem E1 (a b:List (List UInt8)) (hl:a.length<=1000):fj.ab (a,b,())=some (decide (a=b),()):=by
 refine ag (k:=1002) fun k hk=>(fj.aa k _).trans ?_
 unfold fj.p
 by_cases hlen:a.length=b.length
 rotate_left
 ·have e1:¬ ((a.length:Int)=(b.length:Int)):=by omega
  have e2:¬ a=b:=fun h=>hlen (by rw[h])
  simp only[e1,e2,decide_false,Bool.not_false,cond_true]
 have e1:((a.length:Int)=(b.length:Int)):=by omega
 simp only[e1,decide_true,Bool.not_true,cond_false]
 have:=lQ (B:=fun self v=>fj.B0 k self (fun z=>fj.Q0 k (a,b,()) z) (a,b,()) v) (xs:=a) (ys:=b) (fun x y=>decide (x=y)) hlen (by rw[ah];omega)
  (fun i hx hy self=>by
   show fj.b0 _ _ _ _=_
   unfold fj.b0
   have aj:(i:Int) < (a.length:Int):=by omega
   simp only[aj,decide_true,cond_true,Int.natCast_nonneg,if_true,Int.toNat_natCast,List.getElem?_eq_getElem hx,List.getElem?_eq_getElem hy,Option.bind_some]
   by_cases h:a[i]=b[i] <;> simp[h]) (fun self=>by
   show fj.b0 _ _ _ _=_
   unfold fj.b0
   rw[decide_eq_false (Int.lt_irrefl _),cond_false]
   rfl) k (by omega)
 refine this.trans ?_
 rw[yn hlen]
theorem E2 (a b:List (List UInt8)) (hl:a.length<=1000) (ha:∀ x ∈ a,x.length<=100000):jA.ab (a,b,())=some (decide (a=b),()):=by
 refine ag (k:=0) fun k _=>(jA.aa k _).trans ?_
 unfold jA.p
 have:∀ f:Nat×Int,bP.ab (a,b,f,())=some (decide (a=b),()):=fun f=>by
  refine ag (k:=1002) fun k hk=>(bP.aa k _).trans ?_
  unfold bP.p
  by_cases hlen:a.length=b.length
  rotate_left
  ·have e1:¬ ((a.length:Int)=(b.length:Int)):=by omega
   have e2:¬ a=b:=fun h=>hlen (by rw[h])
   simp only[e1,e2,decide_false,Bool.not_false,cond_true]
  have e1:((a.length:Int)=(b.length:Int)):=by omega
  simp only[e1,decide_true,Bool.not_true,cond_false]
  have:=lQ (B:=fun self v=>bP.B0 k self (fun z=>bP.Q0 k (a,b,f,()) z) (a,b,f,()) v) (xs:=a) (ys:=b) (fun x y=>decide (x=y)) hlen (by rw[ah];omega)
   (fun i hx hy self=>by
    show bP.b0 _ _ _ _=_
    unfold bP.b0
    have aj:(i:Int) < (a.length:Int):=by omega
    simp only[aj,decide_true,cond_true,Int.natCast_nonneg,if_true,Int.toNat_natCast,List.getElem?_eq_getElem hx,List.getElem?_eq_getElem hy,Option.bind_some,DP _ _ (ha _ (List.getElem_mem hx))]
    by_cases h:a[i]=b[i] <;> simp[h]) (fun self=>by
    show bP.b0 _ _ _ _=_
    unfold bP.b0
    rw[decide_eq_false (Int.lt_irrefl _),cond_false]
    rfl) k (by omega)
  refine this.trans ?_
  rw[yn hlen]
 rw[this]
 rfl
theorem D3 {d:List UInt8} (h:d.length<=64):List.length (c9 d).1.2.2.2.2.1.2.2.2.1<=64:=by
 unfold c9
 split
 ·exact Nat.zero_le _
 ·split
  ·exact Nat.zero_le _
  ·show (d.drop 6).length<=64
   rw[List.length_drop]
   omega
theorem D4 {p:List UInt8} (s:Nat) (h:p.length<=64):(ey p s).length<=64:=by
 unfold ey
 rw[List.length_take,List.length_drop]
 omega
theorem Lg {ps:fL} (h:nE ps) (a b:Int):List.length (iS ps a b).1.2.2.2.2.1.2.2.2.1<=64:=by
 unfold iS
 cases hp:ps[a.toNat]? with
 | none=>exact Nat.zero_le _
 | some p=>
  have hm:=h.2 p (List.mem_of_getElem? hp)
  simp only
  split
  ·exact D3 (D4 _ (by rw[hm.len];omega))
  ·exact Nat.zero_le _
theorem M5 {ps:fL} (h:jp ps=0):∀ r ∈ nS ps,List.length r.2.2.2.1<=64:=fun r hr=>by
 have hv:=uP h
 rw[DJ (xd h),(Hv _).mem_iff,List.mem_map] at hr
 obtain ⟨x,hx,rfl⟩:=hr
 unfold jo at hx
 rw[List.mem_flatMap] at hx
 obtain ⟨y,hy,hx⟩:=hx
 unfold lI at hx
 split at hx
 ·cases hx
 ·rw[List.mem_singleton] at hx
  subst hx
  unfold rg
  split
  ·exact Lg hv.1 _ _
  ·obtain ⟨P,p,t,h1,Y,h3,rfl⟩:=sj.1 hy
   exact D3 (D4 _ (by rw[(hv.1.2 p (List.mem_of_getElem? h1)).len];omega))
theorem M6 {ps:fL} (h:jp ps=0):∀ r ∈ nS ps,rl r:=fun r hr=>by
 have:=M5 h r hr
 unfold rl
 rw[ah]
 omega
theorem Lh {ps:fL} (h:jp ps=0):(nS ps).length<=192:=by
 unfold nS
 rw[List.length_map]
 exact A9 (xd h)
def JY (s:kb):Prop:=Mo s.2.2.1/\(∀ p ∈ (s.2.1:fL),p.length<=maxLen)/\xw s.2.2.2.1
theorem JZ {s:kb} (h:JY s) (hv:jp s.2.1=0):Mr (nS s.2.1,s.2.2.2.1,s.2.2.2.2.1,()):=
 ⟨by have:=Lh hv;show (nS s.2.1).length<=1048576;omega,M6 hv,h.2.2⟩
def HU (s:kb):Int:=if decide (0 < List.length s.2.1)||(decide (0 < List.length s.2.2.2.1)||decide (0 < List.length s.2.2.1.2.1)) then 1 else if ci s.2.2.2.2.1 1 100 then 0 else 3
def OS (s:kb):Int:=if jp s.2.1=0 then
        if qt (nS s.2.1,s.2.2.2.1,s.2.2.2.2.1,())=0 then
         if (oA (mK s.2.2.1)).2.1=0/\(oA (mK s.2.2.1)).1=s.2.1 then 0 else 8
        else qt (nS s.2.1,s.2.2.2.1,s.2.2.2.2.1,())
   else jp s.2.1
def qu (s:kb):Int:=if pV s.2.2.1=0 then (bif s.1 then OS s else HU s) else pV s.2.2.1
theorem F9 (s:kb) (A:Option (Bool×Unit)) (h:A=some (ci s.2.2.2.2.1 1 100,())) :
  (bif decide ((0:Int) < (List.length s.2.1:Int)) then (some ((1:Int),())) else bif decide ((0:Int) < (List.length s.2.2.2.1:Int)) then (some ((1:Int),())) else bif decide ((0:Int) < (List.length s.2.2.1.2.1:Int)) then (some ((1:Int),())) else A.bind fun r3=>bif !r3.1 then (some ((3:Int),())) else some ((0:Int),()))=some (HU s,()):=by
 have e:∀ n:Nat,decide ((0:Int) < (n:Int))=decide (0 < n):=fun n=>by rw[decide_eq_decide];omega
 rw[h,e,e,e]
 unfold HU
 cases decide (0 < List.length s.2.1) <;> cases decide (0 < List.length s.2.2.2.1) <;> cases decide (0 < List.length s.2.2.1.2.1) <;> try rfl
 simp only[Option.bind_some]
 cases ci s.2.2.2.2.1 1 100 <;> rfl
theorem D5 {s:kb} (h:JY s):iP.ab (s,())=some (qu s,()):=by
 refine ag (k:=0) fun k _=>(iP.aa k _).trans ?_
 unfold iP.p qu
 simp only[HE _ h.1,Option.bind_some]
 by_cases h0:pV s.2.2.1=0
 rotate_left
 ·simp only[h0,decide_false,Bool.not_false,cond_true,if_false]
 simp only[h0,decide_true,Bool.not_true,cond_false,if_true]
 cases hu:s.1 with
 | false=>exact F9 s _ (kT _ _ _)
 | true=>
  simp only[Bool.not_true,cond_false,cond_true]
  unfold OS
  rw[xt s.2.1 h.2.1]
  simp only[Option.bind_some]
  by_cases h1:jp s.2.1=0
  rotate_left
  ·simp only[h1,decide_false,Bool.not_false,cond_true,if_false]
  simp only[h1,decide_true,Bool.not_true,cond_false,if_true]
  rw[EI _ (by have:=A9 (xd h1);omega)]
  simp only[Option.bind_some]
  have hp:=D1 _ (JZ h h1)
  unfold nS at hp ⊢
  rw[hp]
  simp only[Option.bind_some]
  generalize qt ((sM s.2.1).map (·.1),s.2.2.2.1,s.2.2.2.2.1,())=c
  by_cases Y:c=0
  rotate_left
  ·simp only[Y,decide_false,Bool.not_false,cond_true,if_false]
  simp only[Y,decide_true,Bool.not_true,cond_false,if_true,EZ h0,Option.bind_some,ER _ (show (mK s.2.2.1).length<=maxLen by have:=ym h0;rw[ah];omega)]
  by_cases h3:(oA (mK s.2.2.1)).2.1=0
  rotate_left
  ·simp only[h3,decide_false,Bool.not_false,cond_true,false_and,if_false]
  have hg:=zK _ h3
  simp only[h3,decide_true,Bool.not_true,cond_false,true_and,E2 _ s.2.1 (show List.length (oA (mK s.2.2.1)).1<=1000 by have:=hg.1;omega) (fun x hx=>by have:=hg.2 x hx;omega),Option.bind_some]
  by_cases h4:(oA (mK s.2.2.1)).1=s.2.1
  ·simp only[h4,decide_true,Bool.not_true,cond_false,if_true]
  ·simp only[h4,decide_false,Bool.not_false,cond_true,if_false]
theorem Av {s:kb} (h:JY s):km.ab (s,())=some (qu s,()):=by
 refine ag (k:=0) fun k _=>(km.aa k _).trans ?_
 unfold km.p qu
 simp only[HD _ h.1,Option.bind_some]
 by_cases h0:pV s.2.2.1=0
 rotate_left
 ·simp only[h0,decide_false,Bool.not_false,cond_true,if_false]
 simp only[h0,decide_true,Bool.not_true,cond_false,if_true]
 cases hu:s.1 with
 | false=>exact F9 s _ (gC _ _ _)
 | true=>
  simp only[Bool.not_true,cond_false,cond_true]
  unfold OS
  rw[xr s.2.1 h.2.1]
  simp only[Option.bind_some]
  by_cases h1:jp s.2.1=0
  rotate_left
  ·simp only[h1,decide_false,Bool.not_false,cond_true,if_false]
  simp only[h1,decide_true,Bool.not_true,cond_false,if_true]
  rw[Bx h1]
  simp only[Option.bind_some]
  rw[D2 _ (JZ h h1)]
  simp only[Option.bind_some]
  generalize qt (nS s.2.1,s.2.2.2.1,s.2.2.2.2.1,())=c
  by_cases Y:c=0
  rotate_left
  ·simp only[Y,decide_false,Bool.not_false,cond_true,if_false]
  simp only[Y,decide_true,Bool.not_true,cond_false,if_true,E0 h0,Option.bind_some,EQ _ (show (mK s.2.2.1).length<=maxLen by have:=ym h0;rw[ah];omega)]
  by_cases h3:(oA (mK s.2.2.1)).2.1=0
  rotate_left
  ·simp only[h3,decide_false,Bool.not_false,cond_true,false_and,if_false]
  have hg:=zK _ h3
  simp only[h3,decide_true,Bool.not_true,cond_false,true_and,E1 _ s.2.1 (show List.length (oA (mK s.2.2.1)).1<=1000 by have:=hg.1;omega),Option.bind_some]
  by_cases h4:(oA (mK s.2.2.1)).1=s.2.1
  ·simp only[h4,decide_true,Bool.not_true,cond_false,if_true]
  ·simp only[h4,decide_false,Bool.not_false,cond_true,if_false]
end OT
set_option linter.unusedVariables false
set_option linter.unusedSimpArgs false
set_option linter.unusedSectionVars false
namespace OT
open Go
theorem Li {s:kb} (hv:ka cd s) (hz:zz cd s<=1048576):JY s:=by
 obtain ⟨u,ps,l,xs,n,⟨⟩⟩:=s
 obtain ⟨h1,Y,h3,h4,h5,_⟩:=hv
 replace hz:0+(zz (.U (.U u8)) ps+(zz fe l+(zz (.U bd) xs+(0+0))))<=1048576:=hz
 have Sh:zz fe l=zz (.U u8) l.1+(zz (.U u8) l.2.1+0):=rfl
 have CA:List.length l.1<=zz (.U u8) l.1:=eW (e:=u8) l.1
 have oR:List.length l.2.1<=zz (.U u8) l.2.1:=eW (e:=u8) l.2.1
 refine ⟨⟨?_,?_⟩,fun p hp=>?_,?_⟩
 ·show List.length l.1<=1048576;omega
 ·show List.length l.2.1<=1048576;omega
 ·have a1:zz (.U u8) p+1<=zz (.U (.U u8)) ps:=kq (e:=.U u8) hp
  have a2:List.length p<=zz (.U u8) p:=eW (e:=u8) p
  rw[ah];omega
 ·have a3:zz tu (([]:List Row),xs,n,())<=1048576:=by
   show (0+0)+(zz (.U bd) xs+(0+0))<=1048576
   omega
  exact (Le (p:=(([]:List Row),xs,n,())) ⟨⟨Nat.zero_le _,fun x hx=>by cases hx⟩,h4,h5,trivial⟩ a3).2.2
end OT
set_option linter.unusedVariables false
set_option linter.unusedSimpArgs false
namespace OT
open Go
theorem Lk (c d:Change):jR.ab (c,d,())=some (bS (ck c) (ck d),()):=by
 refine ag (k:=0) fun k _=>(jR.aa k _).trans ?_
 show jR.p _=_
 unfold jR.p bS
 simp only[uD,Option.bind_some]
 by_cases h1:(ck c).1 < (ck d).1 <;> by_cases Y:(ck c).1=(ck d).1 <;> simp[h1,Y]
def sn (xs:List Change) (i:Nat) (x:Change):Sum (Int×Unit) Unit:=
 if tw x=0 then (if 0 < i then (match xs[i - 1]? with | some y=>if bS (ck y) (ck x) then .inr () else .inl (1,()) | none=>.inl (1,())) else .inr ()) else .inl (tw x,())
def rj (xs:List Change):Int:=if 60 < xs.length then 2 else (aV (fun i (_:Unit) x=>sn xs i x) (fun _=>((0:Int),())) 0 xs ()).1
theorem xC (xs:List Change) (hl:xs.length<=maxLen) (h:∀ c ∈ xs,cl c):dj.ab (xs,())=some (rj xs,()):=by
 refine ag (k:=xs.length+1) fun k hk=>(dj.aa k _).trans ?_
 have:=bc (B:=fun self v=>dj.B0 0 self (fun z=>dj.Q0 0 (xs,()) z) (xs,()) v) xs (fun (_:Unit) (i:Int)=>i) (fun i _ x=>sn xs i x) (fun _=>(0,())) (fun _ _=>True) hl
  (fun i hi _ self _=>by
   show dj.b0 _ _ _ _=_
   unfold dj.b0 sn
   have aj:(i:Int) < (xs.length:Int):=by omega
   simp only[aj,decide_true,cond_true,Int.natCast_nonneg,if_true,Int.toNat_natCast,List.getElem?_eq_getElem hi,Option.bind_some,tz _ (h _ (List.getElem_mem hi))]
   by_cases h1:tw xs[i]=0
   ·simp only[h1,decide_true,Bool.not_true,cond_false,if_true]
    by_cases h0:0 < i
    ·have mg:(0:Int) < (i:Int):=by omega
     have eF:i - 1 < xs.length:=by omega
     simp only[h0,mg,decide_true,cond_true,if_true,uE h0 (by omega),Int.natCast_nonneg,Int.toNat_natCast,List.getElem?_eq_getElem eF,Option.bind_some,Lk]
     cases bS (ck xs[i - 1]) (ck xs[i]) <;> rfl
    ·have mg:¬ (0:Int) < (i:Int):=by omega
     simp[h0,mg]
   ·simp[h1]) (fun _ _ _ _ _ _=>trivial) (fun _ self _=>by
   show dj.b0 _ _ _ _=_
   unfold dj.b0
   simp[dj.Q0,dj.q0]) () trivial k (by omega)
 have this:dj.r0 k (xs,()) 0=_:=this
 unfold dj.p rj
 rw[this,show (60:Int)=((60:Nat):Int) from rfl]
 simp only[w8]
 by_cases h1:60 < xs.length <;> simp[h1] <;> rfl
theorem Bl (xs:List Change) (hl:xs.length<=maxLen) (h:∀ c ∈ xs,cl c):bI.ab (xs,())=some (rj xs,()):=by
 refine ag (k:=xs.length+1) fun k hk=>(bI.aa k _).trans ?_
 have:=bc (B:=fun self v=>bI.B0 0 self (fun z=>bI.Q0 0 (xs,()) z) (xs,()) v) xs (fun (_:Unit) (i:Int)=>i) (fun i _ x=>sn xs i x) (fun _=>(0,())) (fun _ _=>True) hl
  (fun i hi _ self _=>by
   show bI.b0 _ _ _ _=_
   unfold bI.b0 sn
   have aj:(i:Int) < (xs.length:Int):=by omega
   simp only[aj,decide_true,cond_true,Int.natCast_nonneg,if_true,Int.toNat_natCast,List.getElem?_eq_getElem hi,Option.bind_some,AV _ (h _ (List.getElem_mem hi))]
   by_cases h1:tw xs[i]=0
   ·simp only[h1,decide_true,Bool.not_true,cond_false,if_true]
    by_cases h0:0 < i
    ·have mg:(0:Int) < (i:Int):=by omega
     have eF:i - 1 < xs.length:=by omega
     simp only[h0,mg,decide_true,cond_true,if_true,uE h0 (by omega),Int.natCast_nonneg,Int.toNat_natCast,List.getElem?_eq_getElem eF,Option.bind_some,qZ,qc,wj]
     cases bS (ck xs[i - 1]) (ck xs[i]) <;> rfl
    ·have mg:¬ (0:Int) < (i:Int):=by omega
     simp[h0,mg]
   ·simp[h1]) (fun _ _ _ _ _ _=>trivial) (fun _ self _=>by
   show bI.b0 _ _ _ _=_
   unfold bI.b0
   simp[bI.Q0,bI.q0]) () trivial k (by omega)
 have this:bI.r0 k (xs,()) 0=_:=this
 unfold bI.p rj
 rw[this,show (60:Int)=((60:Nat):Int) from rfl]
 simp only[w8]
 by_cases h1:60 < xs.length <;> simp[h1] <;> rfl
end OT
set_option linter.unusedVariables false
set_option linter.unusedSimpArgs false
namespace OT
open Go
def xD (xs:List Buffer) (t:Int):Int:=oo (fun b=>decide (b.1=t)) 0 xs
theorem D6 {α:Type} (p:α->Bool):∀ (xs:List α) (i j:Nat) (hj:j < xs.length),p xs[j]=true->(i:Int)<=oo p i xs/\oo p i xs<=((i+j:Nat):Int)
 | x::xs,i,j,hj,h=>by
  simp only[oo]
  by_cases hx:p x=true
  ·rw[if_pos hx];omega
  ·rw[if_neg hx]
   cases j with
   | zero=>exact absurd h hx
   | succ j=>
    have:=D6 p xs (i+1) j (by simpa using hj) (by simpa using h)
    omega
def so (xs:List Buffer) (i:Nat) (b:Buffer):Sum (Int×Unit) Unit:=
 if ci b.1 1 99 then (if rj b.2.1=0 then (if xD xs b.1=(i:Int) then .inr () else .inl (6,())) else .inl (rj b.2.1,())) else .inl (3,())
def mT (m:jm):Int:=if jp m.1=0 then (if 8 < List.length m.2.1 then 2 else (aV (fun i (_:Unit) b=>so m.2.1 i b) (fun _=>((0:Int),())) 0 m.2.1 ()).1) else jp m.1
structure zO (m:jm):Prop where
 pl:List.length m.1<=1048576
 HV:∀ p ∈ (m.1:fL),p.length<=maxLen
 bl:List.length m.2.1<=1048576
 buf:∀ b ∈ (m.2.1:List Buffer),List.length b.2.1<=1048576/\∀ c ∈ (b.2.1:List Change),cl c
theorem HW (m:jm) (t:Int) (h:List.length m.2.1<=1048576):ja.ab (m,t,())=some (xD m.2.1 t,()):=by
 refine ag (k:=1048577) fun k hk=>(ja.aa k _).trans ?_
 have:=bc (B:=fun self v=>ja.B0 k self (fun z=>ja.Q0 k (m,t,()) z) (m,t,()) v) m.2.1 (fun (_:Unit) (i:Int)=>i) (fun i _ b=>if decide (b.1=t) then .inl ((i:Int),()) else .inr ()) (fun _=>((-1:Int),())) (fun _ _=>True) (by rw[ah];omega)
  (fun i hi s self _=>by
   show ja.b0 _ _ _ _=_
   unfold ja.b0
   have aj:(i:Int) < (List.length m.2.1:Int):=by omega
   simp only[aj,decide_true,cond_true,Int.natCast_nonneg,if_true,Int.toNat_natCast,List.getElem?_eq_getElem hi,Option.bind_some]
   cases decide ((m.2.1[i]).1=t) <;> rfl)
  (fun _ _ _ _ _ _=>trivial) (fun s self _=>by
   show ja.b0 _ _ _ _=_
   unfold ja.b0
   simp only[Int.lt_irrefl,decide_false,cond_false]
   rfl) () trivial k (by omega)
 rw[q9 (fun b:Buffer=>decide (b.1=t))] at this
 exact this
theorem HX (m:jm) (t:Int) (h:List.length m.2.1<=1048576):gX.ab (m,t,())=some (xD m.2.1 t,()):=by
 have gO:∀ b:Buffer,iV.ab (b,t,())=some (decide (b.1=t),()):=fun b=>by
  refine ag (k:=0) fun k hk=>(iV.aa k _).trans ?_
  rfl
 have Kr:∀ f:Nat,bX.ab (m.2.1,((f,t):Nat×Int),())=some (xD m.2.1 t,()):=fun f=>by
  refine ag (k:=1048577) fun k hk=>(bX.aa k _).trans ?_
  have:=bc (B:=fun self v=>bX.B0 k self (fun z=>bX.Q0 k (m.2.1,(f,t),()) z) (m.2.1,(f,t),()) v) m.2.1 (fun (_:Unit) (i:Int)=>i) (fun i _ b=>if decide (b.1=t) then .inl ((i:Int),()) else .inr ()) (fun _=>((-1:Int),())) (fun _ _=>True) (by rw[ah];omega)
   (fun i hi s self _=>by
    show bX.b0 _ _ _ _=_
    unfold bX.b0
    have aj:(i:Int) < (List.length m.2.1:Int):=by omega
    simp only[aj,decide_true,cond_true,Int.natCast_nonneg,if_true,Int.toNat_natCast,List.getElem?_eq_getElem hi,Option.bind_some,gO]
    cases decide ((m.2.1[i]).1=t) <;> rfl)
   (fun _ _ _ _ _ _=>trivial) (fun s self _=>by
    show bX.b0 _ _ _ _=_
    unfold bX.b0
    simp only[Int.lt_irrefl,decide_false,cond_false]
    rfl) () trivial k (by omega)
  rw[q9 (fun b:Buffer=>decide (b.1=t))] at this
  exact this
 refine ag (k:=0) fun k hk=>(gX.aa k _).trans ?_
 show gX.p _=_
 unfold gX.p
 rw[Kr]
 rfl
theorem wJ (m:jm) (h:zO m):eJ.ab (m,())=some (mT m,()):=by
 refine ag (k:=1048577) fun k hk=>(eJ.aa k _).trans ?_
 unfold eJ.p mT
 rw[xr m.1 h.HV]
 simp only[Option.bind_some]
 by_cases hv:jp m.1=0
 rotate_left
 ·simp only[hv,decide_false,Bool.not_false,cond_true,if_false]
 simp only[hv,decide_true,Bool.not_true,cond_false,if_true]
 by_cases h8:8 < List.length m.2.1
 ·have:(8:Int) < (List.length m.2.1:Int):=by omega
  simp only[this,h8,decide_true,cond_true,if_true]
 have OU:¬ ((8:Int) < (List.length m.2.1:Int)):=by omega
 simp only[h8,OU,decide_false,cond_false,if_false]
 have hb:=h.bl
 exact bc (B:=fun self v=>eJ.B0 k self (fun z=>eJ.Q0 k (m,()) z) (m,()) v) m.2.1 (fun (_:Unit) (i:Int)=>i) (fun i _ b=>so m.2.1 i b) (fun _=>((0:Int),())) (fun _ _=>True) (by rw[ah];omega)
  (fun i hi s self _=>by
   show eJ.b0 _ _ _ _=_
   unfold eJ.b0 so
   have aj:(i:Int) < (List.length m.2.1:Int):=by omega
   obtain ⟨g1,g2⟩:=h.buf _ (List.getElem_mem hi)
   simp only[aj,decide_true,cond_true,Int.natCast_nonneg,if_true,Int.toNat_natCast,List.getElem?_eq_getElem hi,Option.bind_some,gC,xC _ (show List.length (m.2.1[i]).2.1<=maxLen by rw[ah];omega) g2,HW m _ hb]
   unfold ci
   cases (decide ((1:Int)<=(m.2.1[i]).1)&&decide ((m.2.1[i]).1<=99)) with
   | false=>rfl
   | true=>
    simp only[Bool.not_true,cond_false,if_true]
    by_cases hf:rj (m.2.1[i]).2.1=0
    ·simp only[hf,decide_true,Bool.not_true,cond_false,if_true]
     by_cases ht:xD m.2.1 (m.2.1[i]).1=(i:Int)
     ·simp only[ht,decide_true,Bool.not_true,cond_false,if_true]
     ·simp only[ht,decide_false,Bool.not_false,cond_true,if_false]
    ·simp only[hf,decide_false,Bool.not_false,cond_true,if_false])
  (fun _ _ _ _ _ _=>trivial) (fun s self _=>by
   show eJ.b0 _ _ _ _=_
   unfold eJ.b0
   simp only[Int.lt_irrefl,decide_false,cond_false]
   rfl) () trivial k (by omega)
theorem wK (m:jm) (h:zO m):c8.ab (m,())=some (mT m,()):=by
 refine ag (k:=1048577) fun k hk=>(c8.aa k _).trans ?_
 unfold c8.p mT
 rw[DI m.1 h.HV]
 simp only[Option.bind_some]
 by_cases hv:jp m.1=0
 rotate_left
 ·simp only[hv,decide_false,Bool.not_false,cond_true,if_false]
 simp only[hv,decide_true,Bool.not_true,cond_false,if_true]
 by_cases h8:8 < List.length m.2.1
 ·have:(8:Int) < (List.length m.2.1:Int):=by omega
  simp only[this,h8,decide_true,cond_true,if_true]
 have OU:¬ ((8:Int) < (List.length m.2.1:Int)):=by omega
 simp only[h8,OU,decide_false,cond_false,if_false]
 have hb:=h.bl
 exact bc (B:=fun self v=>c8.B0 k self (fun z=>c8.Q0 k (m,()) z) (m,()) v) m.2.1 (fun (_:Unit) (i:Int)=>i) (fun i _ b=>so m.2.1 i b) (fun _=>((0:Int),())) (fun _ _=>True) (by rw[ah];omega)
  (fun i hi s self _=>by
   show c8.b0 _ _ _ _=_
   unfold c8.b0 so
   have aj:(i:Int) < (List.length m.2.1:Int):=by omega
   obtain ⟨g1,g2⟩:=h.buf _ (List.getElem_mem hi)
   simp only[aj,decide_true,cond_true,Int.natCast_nonneg,if_true,Int.toNat_natCast,List.getElem?_eq_getElem hi,Option.bind_some,w5,Bl _ (show List.length (m.2.1[i]).2.1<=maxLen by rw[ah];omega) g2,HX m _ hb]
   unfold ci
   cases (decide ((1:Int)<=(m.2.1[i]).1)&&decide ((m.2.1[i]).1<=99)) with
   | false=>rfl
   | true=>
    simp only[Bool.not_true,cond_false,if_true]
    by_cases hf:rj (m.2.1[i]).2.1=0
    ·simp only[hf,decide_true,Bool.not_true,cond_false,if_true]
     have hle:=D6 (fun b:Buffer=>decide (b.1=(m.2.1[i]).1)) m.2.1 0 i hi (by simp)
     have z8:xD m.2.1 (m.2.1[i]).1<=(i:Int):=by unfold xD;omega
     by_cases ht:xD m.2.1 (m.2.1[i]).1=(i:Int)
     ·have:¬ (xD m.2.1 (m.2.1[i]).1 < (i:Int)):=by omega
      rw[decide_eq_false this,if_pos ht]
      rfl
     ·have:xD m.2.1 (m.2.1[i]).1 < (i:Int):=by omega
      rw[decide_eq_true this,if_neg ht]
      rfl
    ·simp only[hf,decide_false,Bool.not_false,cond_true,if_false])
  (fun _ _ _ _ _ _=>trivial) (fun s self _=>by
   show c8.b0 _ _ _ _=_
   unfold c8.b0
   simp only[Int.lt_irrefl,decide_false,cond_false]
   rfl) () trivial k (by omega)
def sR (c:gT):Int:=if mT c.1=0 then (if mT c.2.2.1=0 then (if ci c.2.1 0 16000&&ci c.2.2.2.1 0 c.2.1 then 0 else 3) else mT c.2.2.1) else mT c.1
theorem E3 (c:gT) (h1:zO c.1) (Y:zO c.2.2.1):jb.ab (c,())=some (sR c,()):=by
 refine ag (k:=0) fun k hk=>(jb.aa k _).trans ?_
 show jb.p _=_
 unfold jb.p sR
 simp only[wJ _ h1,wJ _ Y,gC,Option.bind_some]
 by_cases c1:mT c.1=0
 rotate_left
 ·simp only[c1,decide_false,Bool.not_false,cond_true,if_false]
 by_cases c2:mT c.2.2.1=0
 rotate_left
 ·simp only[c1,c2,decide_true,decide_false,Bool.not_true,Bool.not_false,cond_true,cond_false,if_true,if_false]
 simp only[c1,c2,decide_true,Bool.not_true,cond_false,if_true]
 unfold ci
 cases (decide ((0:Int)<=c.2.1)&&decide (c.2.1<=16000)) <;> cases (decide ((0:Int)<=c.2.2.2.1)&&decide (c.2.2.2.1<=c.2.1)) <;> rfl
theorem E4 (c:gT) (h1:zO c.1) (Y:zO c.2.2.1):eZ.ab (c,())=some (sR c,()):=by
 refine ag (k:=0) fun k hk=>(eZ.aa k _).trans ?_
 show eZ.p _=_
 unfold eZ.p sR
 simp only[wK _ h1,wK _ Y,kT,Option.bind_some]
 by_cases c1:mT c.1=0
 rotate_left
 ·simp only[c1,decide_false,Bool.not_false,cond_true,if_false]
 by_cases c2:mT c.2.2.1=0
 rotate_left
 ·simp only[c1,c2,decide_true,decide_false,Bool.not_true,Bool.not_false,cond_true,cond_false,if_true,if_false]
 simp only[c1,c2,decide_true,Bool.not_true,cond_false,if_true]
 unfold ci
 cases (decide ((0:Int)<=c.2.1)&&decide (c.2.1<=16000)) <;> cases (decide ((0:Int)<=c.2.2.2.1)&&decide (c.2.2.2.1<=c.2.1)) <;> rfl
structure T5 (m:jm):Prop where
 HV:gp m.1
 bl:List.length m.2.1<=1048576
 buf:∀ b ∈ (m.2.1:List Buffer),List.length b.2.1<=1048576
theorem J0 {m:jm} (hv:ka br m) (hz:zz br m<=1048576):zO m:=by
 have h0:zz br m=zz (.U (.U u8)) m.1+(zz (.U aC) m.2.1+0):=rfl
 have h1:List.length m.1<=zz (.U (.U u8)) m.1:=eW (e:=.U u8) m.1
 have Y:List.length m.2.1<=zz (.U aC) m.2.1:=eW (e:=aC) m.2.1
 refine ⟨by omega,fun p hp=>?_,by omega,fun b hb=>⟨?_,fun c hc=>?_⟩⟩
 ·have h3:=kq (e:=.U u8) hp
  have h4:List.length p<=zz (.U u8) p:=eW (e:=u8) p
  rw[ah];omega
 ·have h3:=kq (e:=aC) hb
  have h4:zz aC b=0+(zz (.U an) b.2.1+0):=rfl
  have h5:List.length b.2.1<=zz (.U an) b.2.1:=eW (e:=an) b.2.1
  omega
 ·exact Ho ((hv.2.1.2 b hb).2.1.2 c hc)
end OT
set_option linter.unusedVariables false
set_option linter.unusedSimpArgs false
namespace OT
open Go
def sl (x:gg):Prop:=List.length x.2.2.1<=maxLen/\∀ c ∈ x.2.2.1,cl c
def nf (x:gg):Int:=if ci x.1 0 16000&&ci x.2.1 1 99 then rj x.2.2.1 else 3
theorem E5 (x:gg) (h:sl x):jS.ab (x,())=some (nf x,()):=by
 refine ag (k:=0) fun k _=>(jS.aa k _).trans ?_
 show jS.p _=_
 unfold jS.p nf ci
 simp only[gC,xC _ h.1 h.2,Option.bind_some]
 cases decide ((0:Int)<=x.1) <;> cases decide (x.1<=16000) <;> cases decide ((1:Int)<=x.2.1) <;> cases decide (x.2.1<=99) <;> rfl
theorem E6 (x:gg) (h:sl x):iy.ab (x,())=some (nf x,()):=by
 refine ag (k:=0) fun k _=>(iy.aa k _).trans ?_
 show iy.p _=_
 unfold iy.p nf ci
 simp only[kT,w5,Bl _ h.1 h.2,Option.bind_some]
 cases decide ((0:Int)<=x.1) <;> cases decide (x.1<=16000) <;> cases decide ((1:Int)<=x.2.1) <;> cases decide (x.2.1<=99) <;> rfl
theorem PH {x:gg} (h:ka bK x):sl x:=⟨h.2.2.1.1,fun c hc=>Ho (h.2.2.1.2 c hc)⟩
end OT
set_option linter.unusedVariables false
set_option linter.unusedSimpArgs false
namespace OT
open Go
def zP (xs:List gg):Int:=if 200 < xs.length then 2 else gM nf xs
theorem OV (n:Nat):decide ((200:Int) < (n:Int))=decide (200 < n):=w8 n 200
theorem D7 (xs:List gg) (hl:xs.length<=maxLen) (h:∀ x ∈ xs,sl x):cA.ab (xs,())=some (zP xs,()):=by
 refine ag (k:=xs.length+1) fun k hk=>(cA.aa k _).trans ?_
 have:=bc (B:=fun self v=>cA.B0 0 self (fun z=>cA.Q0 0 (xs,()) z) (xs,()) v) xs (fun (_:Unit) (i:Int)=>i) (fun _ _ x=>if nf x=0 then .inr () else .inl (nf x,())) (fun _=>(0,())) (fun _ _=>True) hl
  (fun i hi _ self _=>by
   show cA.b0 _ _ _ _=_
   unfold cA.b0
   have aj:(i:Int) < (xs.length:Int):=by omega
   simp only[aj,decide_true,cond_true,Int.natCast_nonneg,if_true,Int.toNat_natCast,List.getElem?_eq_getElem hi,Option.bind_some,E6 _ (h _ (List.getElem_mem hi))]
   by_cases h1:nf xs[i]=0 <;> simp[h1]) (fun _ _ _ _ _ _=>trivial) (fun _ self _=>by
   show cA.b0 _ _ _ _=_
   unfold cA.b0
   simp[cA.Q0,cA.q0]) () trivial k (by omega)
 rw[nM nf (fun c=>(c,())) (fun _=>(0,()))] at this
 have this:cA.r0 k (xs,()) 0=_:=this
 unfold cA.p zP
 rw[this]
 simp only[OV]
 by_cases h1:200 < xs.length
 ·simp[h1]
 ·by_cases Y:gM nf xs=0 <;> simp[h1,Y] <;> rfl
end OT
set_option linter.unusedVariables false
set_option linter.unusedSimpArgs false
set_option linter.unusedSectionVars false
namespace OT
open Go
structure HY (w:World):Prop where
 store:JY w.1
 one:zO w.2.1.1
 two:zO w.2.1.2.2.1
 len:List.length w.2.2.1<=maxLen
 all:∀ x ∈ (w.2.2.1:List gg),sl x
def wL (w:World):Int:=if qu w.1=0 then (if sR w.2.1=0 then zP w.2.2.1 else sR w.2.1) else qu w.1
theorem D8 {w:World} (h:HY w):iQ.ab (w,())=some (wL w,()):=by
 refine ag (k:=0) fun k hk=>(iQ.aa k _).trans ?_
 unfold iQ.p wL
 rw[D5 h.store]
 simp only[Option.bind_some]
 by_cases h0:qu w.1=0
 rotate_left
 ·simp only[h0,decide_false,Bool.not_false,cond_true,if_false]
 simp only[h0,decide_true,Bool.not_true,cond_false,if_true]
 rw[E4 _ h.one h.two]
 simp only[Option.bind_some]
 by_cases h1:sR w.2.1=0
 rotate_left
 ·simp only[h1,decide_false,Bool.not_false,cond_true,if_false]
 simp only[h1,decide_true,Bool.not_true,cond_false,if_true]
 rw[D7 _ h.len h.all]
 rfl
theorem D9 {w:World} (h:HY w):iG.ab (w,())=some (wL w,()):=by
 refine ag (k:=0) fun k hk=>(iG.aa k _).trans ?_
 unfold iG.p
 have:eE.ab (w,())=some (wL w,()):=by
  refine ag (k:=List.length w.2.2.1+1) fun k hk=>(eE.aa k _).trans ?_
  unfold eE.p wL
  rw[Av h.store]
  simp only[Option.bind_some]
  by_cases h0:qu w.1=0
  rotate_left
  ·simp only[h0,decide_false,Bool.not_false,cond_true,if_false]
  simp only[h0,decide_true,Bool.not_true,cond_false,if_true]
  rw[E3 _ h.one h.two]
  simp only[Option.bind_some]
  by_cases h1:sR w.2.1=0
  rotate_left
  ·simp only[h1,decide_false,Bool.not_false,cond_true,if_false]
  simp only[h1,decide_true,Bool.not_true,cond_false,if_true]
  unfold zP
  by_cases Y:200 < List.length w.2.2.1
  ·have h3:(200:Int) < (List.length w.2.2.1:Int):=by omega
   simp only[Y,h3,decide_true,cond_true,if_true]
  have h3:¬ (200:Int) < (List.length w.2.2.1:Int):=by omega
  simp only[Y,h3,decide_false,cond_false,if_false]
  have:=bc (B:=fun self v=>eE.B0 0 self (fun z=>eE.Q0 0 (w,()) z) (w,()) v) w.2.2.1 (fun (_:Unit) (i:Int)=>i) (fun _ _ x=>if nf x=0 then .inr () else .inl (nf x,())) (fun _=>(0,())) (fun _ _=>True) h.len
   (fun i hi _ self _=>by
    show eE.b0 _ _ _ _=_
    unfold eE.b0
    have aj:(i:Int) < (List.length w.2.2.1:Int):=by omega
    simp only[aj,decide_true,cond_true,Int.natCast_nonneg,if_true,Int.toNat_natCast,List.getElem?_eq_getElem hi,Option.bind_some,E5 _ (h.all _ (List.getElem_mem hi))]
    by_cases h1:nf w.2.2.1[i]=0 <;> simp[h1]) (fun _ _ _ _ _ _=>trivial) (fun _ self _=>by
    show eE.b0 _ _ _ _=_
    unfold eE.b0
    rw[decide_eq_false (Int.lt_irrefl _),cond_false]
    rfl) () trivial k (by omega)
  rw[nM nf (fun c=>(c,())) (fun _=>(0,()))] at this
  refine Eq.trans this ?_
  split <;> simp_all
 rw[this]
 rfl
theorem Ll {w:World} (hv:ka dR w) (hz:zz dR w<=1048576):HY w:=by
 have FK:zz dR w=zz cd w.1+(zz ba w.2.1+(zz (.U bK) w.2.2.1+0)):=rfl
 have qJ:zz ba w.2.1=zz br w.2.1.1+(0+(zz br w.2.1.2.2.1+(0+0))):=rfl
 exact ⟨Li hv.1 (by omega),J0 hv.2.1.1 (by omega),J0 hv.2.1.2.2.1 (by omega),hv.2.2.1.1,fun x hx=>PH (hv.2.2.1.2 x hx)⟩
theorem zQ (v:bR.Arg) (hv:I8 bR.ps v):bR.ab v=some (true,()):=by
 obtain ⟨w,⟨⟩⟩:=v
 obtain ⟨OW,_⟩:=hv
 refine ag (k:=0) fun k _=>(bR.aa k _).trans ?_
 show bR.p _=_
 unfold bR.p
 simp only[Hf w 1048576 OW (show (0:Int)<=1048576 by omega) (by omega),Option.bind_some]
 by_cases qJ:((zz dR w:Nat):Int)<=1048576
 rotate_left
 ·have:aZ (1048576) (zz dR w)=-1:=if_neg qJ
  simp only[this]
  rfl
 have e1:aZ (1048576) (zz dR w)=1048576 - ((zz dR w:Nat):Int):=if_pos qJ
 have n1:¬ (1048576 - ((zz dR w:Nat):Int) < 0):=by omega
 have h1:HY w:=Ll OW (by omega)
 simp only[e1,n1,decide_false,cond_false,Hj w (by omega),D9 h1,D8 h1,Do w (by omega),Option.bind_some,Bool.not_true,decide_true,cond_true]
end OT
namespace Go.Proofs.YtachfnbfagcplaaGreat.worldFault
open Go Go.ChangeShapes Go.WideShapes Go.ChangeAt Go.RowKit
theorem own:ownKnob Tryz.prog.godebug=none:=by kernel_rfl
theorem laidOut:laidOutB Tryz.prog=true:=by kernel_rfl
theorem GO:∀ v,OT.I8 OT.bR.ps v->∃ u,OT.bR.ab v=some (true,u):=fun v hv=>⟨(),OT.zQ v hv⟩
theorem D_ {H:Type} {enc:TypeId×Value->H} {P:Program} {w:World} {base:Nat} {sp:Nat->Bool} {held:Bool}:∀ (ts:List TypeId) (vs:List Value) (ds:List (DataW H)) (ps:List MemPlace),DataW.TrodAll enc P w base sp held ts vs ds ps->ds.length=ts.length
 | [],[],[],_,_=>rfl
 | _::ts,_::vs,_::ds,_,⟨_,q,_,h,_⟩=>congrArg (·+1) (D_ ts vs ds q h)
 | [],_::_,_,_,h=>h.elim
 | [],[],_::_,_,h=>h.elim
 | _::_,[],_,_,h=>h.elim
 | _::_,_::_,[],_,h=>h.elim
set_option maxRecDepth 100000 in
theorem lifted (os:Os) (started:os.Started) (H:Type) (enc:TypeId×Value->H) :
  ReturnsInHanded {} Tryz.checked os 3 .any (Rows.fnExactWorldFaultSpec.pre6 enc Tryz.prog Tryz.f3 Rows.fnExactWorldFaultRow.domain false) (Rows.fnExactWorldFaultSpec.post enc Tryz.prog Tryz.f3 false true false false):=by
 refine returnsInHanded_of_change (C:=Tryz.checked) own started (by kernel_rfl) Tryz.func3
  (ChangeSpec.witness6 (enc:=enc) (C:=Tryz.checked) false ⟨#[],#[.agg #[.bool false,.slice none 0 0,.slice none 0 0,.slice none 0 0,.slice none 0 0,.int .i64 0,.slice none 0 0,.slice none 0 0,.int .i64 0,.slice none 0 0,.slice none 0 0,.int .i64 0,.slice none 0 0]],[]⟩ 8 (by kernel_rfl) (by kernel_rfl) (by kernel_rfl) (by kernel_rfl)) ?_
 intro W base args ds gs before PI hW T_ _
 have Cs:∀ (j:Nat) t v,Tryz.f3.params[j]?=some t->args[j]?=some v->Value.okWide Tryz.prog W .any base t v:=PI
 have QO:=hW
 obtain ⟨p,q,AJ,hV,rfl,Uu,mj⟩:=hW
 have hA:DataW.TrodAll enc Tryz.prog W 0 (fun _=>true) true Tryz.f3.params.toList args.toList ds p:=AJ
 obtain ⟨rfl,rfl⟩:=trodVars_none hV
 simp only[List.append_nil] at QO
 have hl:OT.sC Tryz.prog OT.bR.ps Tryz.f3.params.toList=true:=by kernel_rfl
 have hc:=OT.I_ (enc:=enc) (cap:=false) (ps:=OT.bR.ps) (Fn:=OT.bR.ab) OT.bR.ok.1 GO hl hA (b0:=base) (fun j t v ht hv=>Cs j t v (by simpa using ht) (by simpa using hv))
 simp only[Array.toArray_toList] at hc
 refine hc.mono fun e W' ⟨he,hb⟩=>?_
 refine ⟨_,he,OT.Kx (C:=Tryz.checked) laidOut rfl hl (by kernel_rfl) Tryz.underlying4 rfl QO hA ?_ hb⟩
 have hlen:ds.length=1:=D_ _ _ _ _ hA
 match ds,hlen with
 | [d1],_=>rfl
set_option maxHeartbeats 8000000 in
theorem closed:joinedFacts Tryz.prog 3 Tryz.f3 Rows.fnExactWorldFaultSpec Rows.fnExactWorldFaultRow=true:=by
 unfold joinedFacts
 simp only[Bool.and_eq_true]
 repeat' apply And.intro
 all_goals (as_aux_lemma=>kernel_rfl)
theorem lN:Rows.fnExactWorldFaultRow.holds Tryz.pinned (OpenSpec.ofChange Rows.fnExactWorldFaultSpec):=
 OpenClaim.holds_of_wide 3 Tryz.f3 rfl rfl rfl rfl rfl rfl rfl ⟨rfl,rfl,rfl,rfl,rfl⟩ rfl rfl rfl rfl rfl (by kernel_rfl) Tryz.func3 closed
  (of_decide_eq_true (by kernel_rfl)) (by unfold Func.isWrapper;first | (rw[if_pos (by decide +kernel)];kernel_rfl) | (rw[if_neg (by decide +kernel)];exact ⟨rfl,rfl⟩))
  (fun os started H enc _=>lifted os started H enc)
theorem proved:Rows.FnExactWorldFaultSaid:=lN
#print axioms proved
end Go.Proofs.YtachfnbfagcplaaGreat.worldFault
