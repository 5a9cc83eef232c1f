/- FnExactCrashStore: the row; no conditions. -/
import Derived.Test.YtledflocbohofaaGreatSg
import Derived.Test.YtledflocbohofaaGreatRows
set_option linter.unusedVariables false
set_option linter.unusedSimpArgs false
namespace OT
open Go Go.Sort
theorem KV (z:List Seen) (hl:z.length<=1000):∃ r:List Seen,(∀ f:Nat×Int,iH.ab (z,f,())=some (r,()))/\r.Perm z/\r.Pairwise fun x y=>qA y x=false:=by
 have hs:SWO (Go.Proofs.ltOf FC):=by rw[Ji];exact RX
 have h1:=CY (e:=c7) (cs:=iy.ab) (cf:=FC) (fun x y=>KS x y) hs z (cA (Nat.le_trans hl (by omega)))
 have Y:=CZ (α:=c7.den) (lt:=Go.Proofs.ltOf FC) hs z
 refine ⟨_,fun f=>?_,Y.1,?_⟩
 ·show (pQ c7 iy.ab z).map (fun r=>(r,()))=_
  rw[h1]
  rfl
 ·exact Y.2.imp fun {x y} (h:Go.Proofs.ltOf (α:=Seen) FC y x=false)=>by rw[Ji] at h;exact h
theorem Dv {O:Type} (r:List Seen) (bad e:O):∀ (l pre:List Seen) (x:Seen),r=pre++x::l->aW (fun i (_:Unit) y=>if (match r[i]? with | some z=>qA z y | none=>true) then .inr () else .inl bad) (fun _=>e) pre.length l ()=if sR (x::l) then e else bad
 | [],pre,x,_=>by simp[aW,sR]
 | y::l,pre,x,h=>by
  have hx:r[pre.length]?=some x:=by rw[h,List.getElem?_append_right (Nat.le_refl _)];simp
  simp only[aW,hx,sR]
  by_cases hc:qA x y=true
  rotate_left
  ·have oR:qA x y=false:=by simpa using hc
   simp only[oR,Bool.false_eq_true,if_false,Bool.false_and]
  ·simp only[hc,if_true,Bool.true_and]
   have:=Dv r bad e l (pre++[x]) y (by rw[h];simp)
   rw[List.length_append] at this
   exact this
theorem KW (ps:f0) (k:Nat) (hk:300<=k) (r:List Seen) (hl:r.length<=192):ak (fun self v=>aI.B4 k self (fun z=>aI.Q4 k (ps,()) r z) (ps,()) r v) k 1=if sR r then some (r,(0:Int),()) else some (([]:List Seen),(8:Int),()):=by
 have:=bK (B:=fun self v=>aI.B4 k self (fun z=>aI.Q4 k (ps,()) r z) (ps,()) r v) (r.drop 1) (fun (_:Unit) (i:Int)=>i+1) (fun i _ y=>if (match r[i]? with | some z=>qA z y | none=>true) then .inr () else .inl (some (([]:List Seen),(8:Int),()))) (fun _=>some (r,(0:Int),())) (fun _ _=>True) (by rw[ah,List.length_drop];omega)
  (fun i hi s self _=>by
   rw[List.length_drop] at hi
   show aI.b4 _ _ _ _ _=_
   unfold aI.b4
   have ai:(i:Int)+1 < (r.length:Int):=by omega
   have ng:(i:Int) < (r.length:Int):=by omega
   have vU:(0:Int)<=(i:Int)+1:=by omega
   have qa:ae ((i:Int)+1 - 1)=(i:Int):=by rw[aE (by omega)];omega
   have o3:ae ((i:Int)+1+1)=ae ((i:Int)+1)+1:=by rw[aE (by omega),aE (by omega)]
   have OM:((i:Int)+1).toNat=i+1:=by omega
   have hg:(r.drop 1)[i]'(by rw[List.length_drop];omega)=r[i+1]'(by omega):=by rw[List.getElem_drop];congr 1;omega
   rw[hg]
   simp only[ai,ng,vU,qa,o3,OM,decide_true,cond_true,Int.natCast_nonneg,and_self,if_true,Int.toNat_natCast,List.getElem?_eq_getElem (show i < r.length by omega),List.getElem?_eq_getElem (show i+1 < r.length by omega),Option.bind_some,sO]
   show (bif !qA r[i] (r[i+1]'(by omega)) then _ else _)=_
   cases qA r[i] (r[i+1]'(by omega)) <;> rfl)
  (fun _ _ _ _ _ _=>trivial) (fun s self _=>by
   rw[List.length_drop]
   show aI.b4 _ _ _ _ _=_
   unfold aI.b4
   have ai:¬ (((r.length - 1:Nat):Int)+1 < (r.length:Int)):=by omega
   simp only[ai,decide_false,cond_false]
   rfl) () trivial k (by rw[List.length_drop];omega)
 refine Eq.trans this ?_
 cases r with
 | nil=>rfl
 | cons x l=>
  exact Dv (x::l) _ _ l [] x rfl
def sB (ps:f0):List Seen:=if lp ps=0 then uC ((jc ps).map po) else []
def Mb (ps:f0):List Seen:=if uy ps=0 then uC ((jc ps).map po) else []
def Bz (y:Seen):Option (Int×Int):=some (y.2.2.2.2.1,y.2.2.2.2.2.1)
def sC (y:Seen):List Int×Bool:=([y.2.2.2.2.1,y.2.2.2.2.2.1],true)
theorem Dw (T:List Seen) (a b:Int):rn (dB pk (T.map sC) [a,b]) false=T.any fun y=>decide (a=y.2.2.2.2.1)&&decide (b=y.2.2.2.2.2.1):=by
 induction T with
 | nil=>rfl
 | cons y T ih=>
  have hk:Ty.eq pk [a,b] (sC y).1=(decide (a=y.2.2.2.2.1)&&decide (b=y.2.2.2.2.2.1)):=tn _ _ _ _
  unfold dB at ih ⊢
  rw[List.map_cons,List.find?_cons,List.any_cons,hk]
  cases (decide (a=y.2.2.2.2.1)&&decide (b=y.2.2.2.2.2.1)) with
  | true=>rfl
  | false=>simpa using ih
theorem KX (S:List aw):(S.flatMap bR).filterMap Bz=S.filterMap pi:=by
 induction S with
 | nil=>rfl
 | cons x S ih=>
  rw[List.flatMap_cons,List.filterMap_append,ih]
  unfold bR
  by_cases h:dc x=1
  ·rw[if_pos h]
   have:pi x=some (jg x,jh x):=by unfold pi;rw[if_pos h]
   simp[List.filterMap_cons,this,Bz]
  ·rw[if_neg h]
   have:pi x=none:=by unfold pi;rw[if_neg h]
   simp[List.filterMap_cons,this]
theorem Et (ps:f0) (h:q_ ps):aI.ab (ps,())=some (Mb ps,uy ps,()):=by
 obtain ⟨hl,hp⟩:=h.1
 have ig:=sA h.1
 refine ag (k:=300) fun k hk=>(aI.aa k _).trans ?_
 have inner:∀ (self:(List Seen×List Seen×List (List Int×Row)×f0×Int×Int)->Option aI.Out) (e0:(List Seen×List Seen×List (List Int×Row))->Option aI.Out) (i:Nat) (hi:i < ps.length) (S:List aw),S.length<=16*i->(∀ x ∈ S,x.1 < (i:Int)) ->
   aI.r1 k self e0 (ps,()) (i:Int) ps[i] ps (ps.length:Int) (pn ps[i]:Int) (S.flatMap cW,S.flatMap bR,S.flatMap eR,(0:Int))=self ((S++mE i ps[i]).flatMap cW,(S++mE i ps[i]).flatMap bR,(S++mE i ps[i]).flatMap eR,ps,(ps.length:Int),ae ((i:Int)+1)):=fun self e0 i hi S0 UE gX=>by
  have az:=hp _ (List.getElem_mem hi)
  have hn:=az.n
  have hlen:=az.len
  have lC:=h.2 _ (List.getElem_mem hi)
  have:=qR (B:=fun cn v=>aI.B1 k cn (fun z=>aI.Q0 k self e0 (ps,()) (i:Int) ps[i] ps (ps.length:Int) (pn ps[i]:Int) z) (ps,()) (i:Int) ps[i] ps (ps.length:Int) (pn ps[i]:Int) v) (pn ps[i]) (fun (S:List aw) (j:Int)=>(S.flatMap cW,S.flatMap bR,S.flatMap eR,j)) (fun j S=>.inr (S++kM i ps[i] j)) (fun S=>self (S.flatMap cW,S.flatMap bR,S.flatMap eR,ps,(ps.length:Int),ae ((i:Int)+1))) (fun j S=>S.length<=16*i+j/\∀ x ∈ S,x.1 < (i:Int)\/(x.1=(i:Int)/\x.2.1 < (j:Int))) (by omega)
   (fun j hj S cn ⟨Mc,Dx⟩=>by
    show aI.b1 _ _ _ _ _ _ _ _ _=_
    unfold aI.b1 kM
    have ai:(j:Int) < (pn ps[i]:Int):=by omega
    simp only[ai,decide_true,cond_true,yT az,hj,Bool.true_and,Option.bind_some]
    by_cases hz:aN ps[i] j=0
    ·simp only[hz,decide_true,Bool.not_true,Bool.not_false,cond_true,if_true,List.append_nil]
    ·have vD:=lC j hj hz
     obtain ⟨f1,f2⟩:=uB _ vD
     obtain ⟨l1,l2⟩:=y6 S
     have kC:∀ (T:List Seen) (y:Seen),T.length<=S.length->T.length+[y].length<=bf:=fun T y hT=>cA (by simp only[List.length_cons,List.length_nil];omega)
     simp only[hz,decide_false,Bool.not_false,Bool.not_true,cond_false,uS az hj,uR _ (Nat.le_trans (nT az hj) (by omega)),vD,if_true,if_false,Option.bind_some,f1,decide_true,kC _ _ l1,kC _ _ l2,xB]
     obtain ⟨x,hx⟩:∃ x:aw,x=((i:Int),(j:Int),(db (eE ps[i] j)).1,()):=⟨_,rfl⟩
     have OQ:dc x=(db (eE ps[i] j)).1.2.1:=by rw[hx];rfl
     rw[<-hx]
     simp only[List.flatMap_append,List.flatMap_cons,List.flatMap_nil,List.append_nil]
     rcases f2 with g | g | g
     ·have e1:cW x=[((db (eE ps[i] j)).1.2.2.2.2.1,(i:Int),(j:Int),false,(i:Int),(j:Int),())]:=by unfold cW;rw[if_pos (OQ.trans g),hx];rfl
      have e2:bR x=[]:=by unfold bR;rw[if_neg (by omega)]
      have e3:eR x=[]:=by unfold eR;rw[if_neg (by omega)]
      rw[e1,e2,e3]
      simp only[g,decide_true,cond_true,List.append_nil,List.length_cons,List.length_nil,Nat.zero_lt_succ,List.length_replicate,List.length_set,if_true]
     ·have e1:cW x=[]:=by unfold cW;rw[if_neg (by omega)]
      have e2:bR x=[(sP,(i:Int),(j:Int),true,(db (eE ps[i] j)).1.2.2.1,(db (eE ps[i] j)).1.2.2.2.1,())]:=by unfold bR;rw[if_pos (OQ.trans g),hx];rfl
      have e3:eR x=[]:=by unfold eR;rw[if_neg (by omega)]
      rw[e1,e2,e3]
      have n1:¬ ((1:Int)=0):=by decide
      have n2:¬ ((1:Int)=2):=by decide
      simp only[g,n1,n2,decide_false,cond_false,List.append_nil,List.length_cons,List.length_nil,Nat.zero_lt_succ,List.length_replicate,List.length_set,if_true]
     ·have e1:cW x=[]:=by unfold cW;rw[if_neg (by omega)]
      have e2:bR x=[]:=by unfold bR;rw[if_neg (by omega)]
      have e3:eR x=[([(i:Int),(j:Int)],(db (eE ps[i] j)).1.2.2.2.2.1)]:=by unfold eR;rw[if_pos (OQ.trans g),hx];rfl
      rw[e1,e2,e3]
      have n1:¬ ((2:Int)=0):=by decide
      have of:gP pk (S.flatMap eR) [(i:Int),(j:Int)] (db (eE ps[i] j)).1.2.2.2.2.1=S.flatMap eR++[([(i:Int),(j:Int)],(db (eE ps[i] j)).1.2.2.2.2.1)]:=v6 pk _ _ _ fun e he=>by
       obtain ⟨y,hy,Jn⟩:=List.mem_flatMap.1 he
       unfold eR at Jn
       split at Jn
       ·rw[List.mem_singleton] at Jn
        subst Jn
        rw[tn]
        rcases Dx y hy with c | ⟨c,d⟩
        ·rw[decide_eq_false (show ¬ (i:Int)=y.1 by omega)];rfl
        ·rw[decide_eq_false (show ¬ (j:Int)=y.2.1 by omega),Bool.and_false]
       ·cases Jn
      simp only[g,n1,decide_false,decide_true,cond_false,cond_true,of,List.append_nil,List.length_cons,List.length_nil,Nat.zero_lt_succ,List.length_replicate,List.length_set,if_true]
      rfl)
   (fun j hj S S' ⟨Mc,Dx⟩ hf=>by
    injection hf with hf
    subst hf
    have:(kM i ps[i] j).length<=1:=by unfold kM;split <;> simp
    refine ⟨by rw[List.length_append];omega,fun x hx=>?_⟩
    rcases List.mem_append.1 hx with hx | hx
    ·rcases Dx x hx with c | ⟨c,d⟩
     ·exact .inl c
     ·exact .inr ⟨c,by omega⟩
    ·unfold kM at hx
     split at hx
     ·cases hx
     ·rw[List.mem_singleton] at hx
      subst hx
      exact .inr ⟨rfl,by show (j:Int) < ((j+1:Nat):Int);omega⟩) (fun S cn hI=>by
    show aI.b1 _ _ _ _ _ _ _ _ _=_
    unfold aI.b1
    simp only[Int.lt_irrefl,decide_false,cond_false]
    rfl) S0 ⟨by omega,fun x hx=>.inl (gX x hx)⟩ k (by omega)
  rw[uq (kM i ps[i])] at this
  exact this
 have outer:aI.r0 k (ps,()) (([]:List Seen),([]:List Seen),([]:List (List Int×Row)),ps,(ps.length:Int),(0:Int))=aI.Q1 k (ps,()) ((aS ps).flatMap cW,(aS ps).flatMap bR,(aS ps).flatMap eR):=by
  have:=bK (B:=fun self v=>aI.B0 k self (fun z=>aI.Q1 k (ps,()) z) (ps,()) v) ps (fun (S:List aw) (i:Int)=>(S.flatMap cW,S.flatMap bR,S.flatMap eR,ps,(ps.length:Int),i)) (fun i S p=>.inr (S++mE i p)) (fun S=>aI.Q1 k (ps,()) (S.flatMap cW,S.flatMap bR,S.flatMap eR)) (fun i S=>S.length<=16*i/\∀ x ∈ S,x.1 < (i:Int)) (by rw[ah];omega)
   (fun i hi S self ⟨Mc,Dx⟩=>by
    show aI.b0 _ _ _ _ _=_
    unfold aI.b0
    have ai:(i:Int) < (ps.length:Int):=by omega
    have hlen:=(hp _ (List.getElem_mem hi)).len
    simp only[ai,decide_true,cond_true,Int.natCast_nonneg,if_true,Int.toNat_natCast,List.getElem?_eq_getElem hi,Option.bind_some,sw hlen,inner self _ i hi S Mc Dx])
   (fun i hi S S' ⟨Mc,Dx⟩ hf=>by
    injection hf with hf
    subst hf
    have:=sQ (hp _ (List.getElem_mem hi)) i
    refine ⟨by rw[List.length_append];omega,fun x hx=>?_⟩
    rcases List.mem_append.1 hx with hx | hx
    ·have:=Dx x hx;omega
    ·obtain ⟨s,_,hs⟩:=List.mem_flatMap.1 hx
     unfold kM at hs
     split at hs
     ·cases hs
     ·rw[List.mem_singleton] at hs
      subst hs
      show (i:Int) < ((i+1:Nat):Int)
      omega) (fun S self hI=>by
    show aI.b0 _ _ _ _ _=_
    unfold aI.b0
    simp only[Int.lt_irrefl,decide_false,cond_false]) [] ⟨by simp,fun x hx=>by cases hx⟩ k (by omega)
  rw[vX] at this
  exact this
 show aI.r0 k (ps,()) (([]:List Seen),([]:List Seen),([]:List (List Int×Row)),ps,(ps.length:Int),(0:Int))=_
 rw[outer]
 show aI.q1 _ _ _=_
 unfold aI.q1
 obtain ⟨UF,UG⟩:=y6 (aS ps)
 have hT:∀ y ∈ (aS ps).flatMap bR,∃ x ∈ aS ps,dc x=1/\y=(sP,x.1,x.2.1,true,jg x,jh x,()):=fun y hy=>by
  obtain ⟨x,hx,qw⟩:=List.mem_flatMap.1 hy
  unfold bR at qw
  split at qw
  ·rename_i hf
   exact ⟨x,hx,hf,List.mem_singleton.1 qw⟩
  ·cases qw
 have TW:aI.r2 k (ps,()) ((aS ps).flatMap cW) ((aS ps).flatMap bR) ((aS ps).flatMap eR) (((aS ps).flatMap bR).length:Int) (0:Int)=if (aS ps).all (kI ps) then aI.Q2 k (ps,()) ((aS ps).flatMap cW) ((aS ps).flatMap bR) ((aS ps).flatMap eR) (((aS ps).flatMap bR).length:Int) () else some (([]:List Seen),(4:Int),()):=by
  obtain ⟨T,AI⟩:∃ T,T=(aS ps).flatMap bR:=⟨_,rfl⟩
  obtain ⟨M,hM⟩:∃ M,M=(aS ps).flatMap eR:=⟨_,rfl⟩
  rw[<-AI,<- hM]
  have TX:T.length<=192:=by rw[AI];omega
  have:=bK (B:=fun self v=>aI.B2 k self (fun z=>aI.Q2 k (ps,()) ((aS ps).flatMap cW) T M (T.length:Int) z) (ps,()) ((aS ps).flatMap cW) T M (T.length:Int) v) T (fun (_:Unit) (i:Int)=>i) (fun i _ y=>if (dB pk M [y.2.2.2.2.1,y.2.2.2.2.2.1]).isSome then .inr () else .inl (some (([]:List Seen),(4:Int),()))) (fun _=>aI.Q2 k (ps,()) ((aS ps).flatMap cW) T M (T.length:Int) ()) (fun _ _=>True) (by rw[ah];omega)
   (fun i hi s self _=>by
    show aI.b2 _ _ _ _ _ _ _ _=_
    unfold aI.b2
    have ai:(i:Int) < (T.length:Int):=by omega
    simp only[ai,decide_true,cond_true,Int.natCast_nonneg,and_self,if_true,Int.toNat_natCast,List.getElem?_eq_getElem hi,Option.bind_some,xB,List.length_replicate,List.length_set,show (0:Nat) < 2 by omega,show (1:Nat) < 2 by omega]
    cases (dB pk M [(T[i]).2.2.2.2.1,(T[i]).2.2.2.2.2.1]).isSome <;> rfl)
   (fun _ _ _ _ _ _=>trivial) (fun s self _=>by
    show aI.b2 _ _ _ _ _ _ _ _=_
    unfold aI.b2
    simp only[Int.lt_irrefl,decide_false,cond_false]) () trivial k (by omega)
  rw[kY (fun y:Seen=>(dB pk M [y.2.2.2.2.1,y.2.2.2.2.2.1]).isSome) (some (([]:List Seen),(4:Int),())) (fun _=>aI.Q2 k (ps,()) ((aS ps).flatMap cW) T M (T.length:Int) ())] at this
  refine Eq.trans this ?_
  have hb:T.all (fun y:Seen=>(dB pk M [y.2.2.2.2.1,y.2.2.2.2.2.1]).isSome)=(aS ps).all (kI ps):=by
   have hJ:∀ x ∈ aS ps,dc x=1->(dB pk M [jg x,jh x]).isSome=kI ps x:=fun x hx hf=>by
    obtain ⟨g1,g2⟩:=pV hx
    rw[hM,FB h _ _ g1 g2]
    unfold kI
    rw[decide_eq_true hf]
    cases ((iL ps (jg x) (jh x)).2&&decide ((iL ps (jg x) (jh x)).1.2.1=2)) <;> rfl
   rw[Bool.eq_iff_iff,List.all_eq_true,List.all_eq_true]
   constructor
   ·intro jk x hx
    by_cases hf:dc x=1
    ·rw[<-hJ x hx hf]
     have hy:(sP,x.1,x.2.1,true,jg x,jh x,()) ∈ T:=by
      rw[AI]
      exact List.mem_flatMap.2 ⟨x,hx,by unfold bR;rw[if_pos hf];exact List.mem_singleton.2 rfl⟩
     exact jk _ hy
    ·unfold kI;rw[decide_eq_false hf];rfl
   ·intro jk y hy
    obtain ⟨x,hx,hf,e⟩:=hT y (AI ▸ hy)
    subst e
    exact (hJ x hx hf).trans (jk x hx)
  rw[hb]
 rw[TW]
 unfold Mb uy
 by_cases bh:(aS ps).all (kI ps)=true
 rotate_left
 ·simp only[bh,Bool.false_eq_true,if_false]
  rfl
 simp only[bh,if_true]
 show aI.q2 _ _ _ _ _ _ _=_
 unfold aI.q2
 have TY:aI.r3 k (ps,()) ((aS ps).flatMap cW) ((aS ps).flatMap bR) ((aS ps).flatMap eR) (((aS ps).flatMap bR).length:Int) ((aS ps).flatMap bR) ((aS ps).flatMap eR) (((aS ps).flatMap bR).length:Int) ((aS ps).flatMap cW,([]:List (List Int×Bool)),(0:Int))=if ((aS ps).filterMap pi).Nodup then aI.Q3 k (ps,()) ((aS ps).flatMap bR) ((aS ps).flatMap eR) (((aS ps).flatMap bR).length:Int) (wF ps) else some (([]:List Seen),(6:Int),()):=by
  have Me:=KX (aS ps)
  unfold wF
  obtain ⟨T,AI⟩:∃ T,T=(aS ps).flatMap bR:=⟨_,rfl⟩
  obtain ⟨M,hM⟩:∃ M,M=(aS ps).flatMap eR:=⟨_,rfl⟩
  obtain ⟨L,hL⟩:∃ L,L=(aS ps).flatMap cW:=⟨_,rfl⟩
  have PW:∀ y:Seen,pp ps y=(rn (dB pk M [y.2.2.2.2.1,y.2.2.2.2.2.1]) sP,y.2):=fun y=>by unfold pp;rw[hM]
  rw[<-AI,<- hM,<- hL]
  rw[<-AI] at Me
  have TX:T.length<=192:=by rw[AI];omega
  have UH:L.length<=192:=by rw[hL];omega
  have:=bK (B:=fun self v=>aI.B3 k self (fun z=>aI.Q3 k (ps,()) T M (T.length:Int) z) (ps,()) T M (T.length:Int) v) T (fun (_:Unit) (i:Int)=>(L++(T.take i.toNat).map (pp ps),(T.take i.toNat).map sC,i)) (fun i _ y=>if (T.take i).any (fun z=>decide (y.2.2.2.2.1=z.2.2.2.2.1)&&decide (y.2.2.2.2.2.1=z.2.2.2.2.2.1)) then .inl (some (([]:List Seen),(6:Int),())) else .inr ()) (fun _=>aI.Q3 k (ps,()) T M (T.length:Int) (L++T.map (pp ps))) (fun _ _=>True) (by rw[ah];omega)
   (fun i hi s self _=>by
    show aI.b3 _ _ _ _ _ _ _=_
    unfold aI.b3
    have ai:(i:Int) < (T.length:Int):=by omega
    have kC:∀ y:Seen,(L++(T.take i).map (pp ps)).length+[y].length<=bf:=fun y=>cA (by simp only[List.length_append,List.length_map,List.length_take,List.length_cons,List.length_nil];omega)
    have hw:(ae ((i:Int)+1)).toNat=i+1:=by rw[aE (by omega)];omega
    have gH:T.take (i+1)=T.take i++[T[i]]:=List.take_succ_eq_append_getElem hi
    simp only[ai,decide_true,cond_true,Int.natCast_nonneg,and_self,if_true,Int.toNat_natCast,List.getElem?_eq_getElem hi,Option.bind_some,xB,List.length_replicate,List.length_set,show (0:Nat) < 2 by omega,show (1:Nat) < 2 by omega,Dw,kC,hw,gH,List.map_append,List.map_cons,List.map_nil]
    have TZ:=Dw (T.take i) (T[i]).2.2.2.2.1 (T[i]).2.2.2.2.2.1
    refine Eq.trans (congrArg (fun b:Bool=>bif b then (some (([]:List Seen),(6:Int),()):Option aI.Out) else self (L++(T.take i).map (pp ps)++[(rn (dB pk M [(T[i]).2.2.2.2.1,(T[i]).2.2.2.2.2.1]) ((0:Int),(0:Int),(0:Int),([]:List UInt8),()),(T[i]).2)],gP pk ((T.take i).map sC) [(T[i]).2.2.2.2.1,(T[i]).2.2.2.2.2.1] true,ae ((i:Int)+1))) TZ) ?_
    cases hc:(T.take i).any (fun z=>decide ((T[i]).2.2.2.2.1=z.2.2.2.2.1)&&decide ((T[i]).2.2.2.2.2.1=z.2.2.2.2.2.1)) with
    | true=>rfl
    | false=>
     simp only[cond_false,Bool.false_eq_true,if_false]
     have of:gP pk ((T.take i).map sC) [(T[i]).2.2.2.2.1,(T[i]).2.2.2.2.2.1] true=(T.take i).map sC++[sC T[i]]:=v6 pk _ _ _ fun e he=>by
      obtain ⟨z,hz,rfl⟩:=List.mem_map.1 he
      have h1:=List.any_eq_false.1 hc z hz
      have:Ty.eq pk [(T[i]).2.2.2.2.1,(T[i]).2.2.2.2.2.1] (sC z).1=_:=tn _ _ _ _
      rw[this]
      simpa using h1
     rw[of,PW,List.append_assoc])
   (fun _ _ _ _ _ _=>trivial) (fun s self _=>by
    show aI.b3 _ _ _ _ _ _ _=_
    unfold aI.b3
    simp only[Int.lt_irrefl,decide_false,cond_false,Int.toNat_natCast,List.take_length]) () trivial k (by omega)
  rw[vV Bz (some (([]:List Seen),(6:Int),())) (fun _=>aI.Q3 k (ps,()) T M (T.length:Int) (L++T.map (pp ps))) (fun y z=>decide (y.2.2.2.2.1=z.2.2.2.2.1)&&decide (y.2.2.2.2.2.1=z.2.2.2.2.2.1)) (fun y z=>?_) T,Me] at this
  ·simp only[Int.toNat_zero,List.take_zero,List.map_nil,List.append_nil] at this
   exact this
  ·unfold Bz
   simp only[Bool.and_eq_true,decide_eq_true_eq]
   constructor
   ·rintro ⟨h1,Y⟩;exact ⟨_,rfl,by rw[h1,Y]⟩
   ·rintro ⟨b,h1,Y⟩
    injection h1 with h1
    injection Y with Y
    rw[<-Y] at h1
    injection h1 with h3 h4
    exact ⟨h3,h4⟩
 rw[TY]
 by_cases gH:((aS ps).filterMap pi).Nodup
 rotate_left
 ·simp only[gH,if_false]
  rfl
 simp only[gH,if_true]
 show aI.q3 _ _ _ _ _ _=_
 unfold aI.q3
 have Mf:=Hd h bh
 have vl:(wF ps).length<=192:=by
  have:=Mf.length_eq
  rw[List.length_map] at this
  have:=uA h.1
  omega
 obtain ⟨r,mT,nL,Lh⟩:=KV (wF ps) (by omega)
 rw[mT]
 simp only[Option.bind_some]
 have oB:r.length<=192:=by have:=nL.length_eq;omega
 have LU:=nL.trans Mf
 have QY:(r.map fun x=>rk x.1).Nodup↔((jc ps).map fun x=>rk (f5 x)).Nodup:=by
  have h1:(r.map fun x=>rk x.1).Perm (((jc ps).map po).map fun x=>rk x.1):=LU.map _
  rw[h1.nodup_iff,List.map_map]
  exact Iff.rfl
 refine (KW ps k hk r oB).trans ?_
 by_cases lU:((jc ps).map fun x=>rk (f5 x)).Nodup
 ·have QZ:=Jm Lh (QY.2 lU)
  have kX:=Du LU QZ (by rw[List.map_map];exact lU)
  simp only[lU,if_true,FF r QZ]
  rw[kX]
 ·have:¬ sR r=true:=fun ha=>lU (QY.1 (Jk (Jl r ha)))
  simp only[lU,this,if_false]
  rfl
theorem Eu (ps:f0) (hp:∀ p ∈ ps,p.length<=maxLen):cu.ab (ps,())=some (sB ps,lp ps,()):=by
 refine ag (k:=300) fun k hk=>(cu.aa k _).trans ?_
 unfold cu.p sB lp
 by_cases hl:12 < ps.length
 ·have:(12:Int) < (ps.length:Int):=by omega
  simp only[this,decide_true,cond_true,hl,if_true]
  rfl
 have iw:¬ ((12:Int) < (ps.length:Int)):=by omega
 simp only[iw,decide_false,cond_false,hl,if_false]
 have inner:∀ (self:(f0×f0×Int×Int)->Option cu.Out) (e0:f0->Option cu.Out) (i:Nat) (hi:i < ps.length),ll ps[i]->cu.r1 k self e0 (ps,()) ps ps[i] ps (ps.length:Int) (i:Int) (pn ps[i]:Int) (0:Int)=if (List.range (pn ps[i])).all (nU ps[i]) then self (ps,ps,(ps.length:Int),ae ((i:Int)+1)) else some (([]:List Seen),(5:Int),()):=fun self e0 i hi az=>by
  have hn:=az.n
  have hlen:=az.len
  have:=qR (B:=fun cn v=>cu.B1 k cn (fun z=>cu.Q0 k self e0 (ps,()) ps ps[i] ps (ps.length:Int) (i:Int) (pn ps[i]:Int) z) (ps,()) ps ps[i] ps (ps.length:Int) (i:Int) (pn ps[i]:Int) v) (pn ps[i]) (fun (_:Unit) (j:Int)=>j) (fun j _=>if nU ps[i] j then .inr () else .inl (some (([]:List Seen),(5:Int),()))) (fun _=>self (ps,ps,(ps.length:Int),ae ((i:Int)+1))) (fun _ _=>True) (by omega)
   (fun j hj s cn hI=>by
    show cu.b1 _ _ _ _ _ _ _ _ _ _=_
    unfold cu.b1 nU
    have ai:(j:Int) < (pn ps[i]:Int):=by omega
    simp only[ai,decide_true,cond_true,yT az,hj,Bool.true_and,Option.bind_some]
    by_cases hz:aN ps[i] j=0
    ·simp only[hz,decide_true,Bool.not_true,cond_false,Bool.true_or,if_true]
    ·simp only[hz,decide_false,Bool.not_false,cond_true,uS az hj,uR _ (Nat.le_trans (nT az hj) (by omega)),Option.bind_some,Bool.false_or]
     cases hc:(db (eE ps[i] j)).2 with
     | true=>
      have:=(uB _ hc).1
      simp only[if_true,this,decide_true,Bool.not_true,cond_false]
     | false=>rfl)
   (fun _ _ _ _ _ _=>trivial) (fun s cn hI=>by
    show cu.b1 _ _ _ _ _ _ _ _ _ _=_
    unfold cu.b1
    simp only[Int.lt_irrefl,decide_false,cond_false]
    rfl) () trivial k (by omega)
  rw[mD] at this
  exact this
 have outer:cu.r0 k (ps,()) (ps,ps,(ps.length:Int),(0:Int))=if ip ph ps=0 then cu.Q1 k (ps,()) ps else some (([]:List Seen),ip ph ps,()):=by
  have:=bK (B:=fun self v=>cu.B0 k self (fun z=>cu.Q1 k (ps,()) z) (ps,()) v) ps (fun (_:Unit) (i:Int)=>(ps,ps,(ps.length:Int),i)) (fun i _ p=>if ph p=0 then .inr () else .inl (some (([]:List Seen),ph p,()))) (fun _=>cu.Q1 k (ps,()) ps) (fun _ _=>True) (by rw[ah];omega)
   (fun i hi s self hI=>by
    show cu.b0 _ _ _ _ _=_
    unfold cu.b0 ph
    have ai:(i:Int) < (ps.length:Int):=by omega
    simp only[ai,decide_true,cond_true,Int.natCast_nonneg,if_true,Int.toNat_natCast,List.getElem?_eq_getElem hi,Option.bind_some,Eo _ (hp _ (List.getElem_mem hi))]
    by_cases h0:pg ps[i]=0
    ·have az:=vS.1 h0
     rw[decide_eq_true h0]
     simp only[Bool.not_true,cond_false,sw az.len,Option.bind_some,inner self _ i hi az,h0,if_true]
     by_cases hc:(List.range (pn ps[i])).all (nU ps[i])=true
     ·simp only[hc,if_true]
     ·simp only[hc,Bool.false_eq_true,if_false]
      rfl
    ·rw[decide_eq_false h0]
     simp only[Bool.not_false,cond_true,h0,if_false])
   (fun _ _ _ _ _ _=>trivial) (fun s self _=>by
    show cu.b0 _ _ _ _ _=_
    unfold cu.b0
    simp only[Int.lt_irrefl,decide_false,cond_false]) () trivial k (by omega)
  rw[qI ph (fun c=>some (([]:List Seen),c,())) (fun _=>cu.Q1 k (ps,()) ps)] at this
  exact this
 rw[outer]
 by_cases hc:ip ph ps=0
 ·simp only[hc,if_true]
  show cu.q1 _ _=_
  unfold cu.q1
  rw[Et ps (Dt (by omega) hc)]
  rfl
 ·simp only[hc,if_false]
end OT
set_option linter.unusedVariables false
set_option linter.unusedSimpArgs false
set_option linter.unusedSectionVars false
namespace OT
open Go
structure BA (ps:f0):Prop where
 right:nm ps
 cells:q_ ps
 Ui:(aS ps).all (kI ps)=true
 Un:((aS ps).filterMap pi).Nodup
 keys:((jc ps).map fun x=>rk (f5 x)).Nodup
 list:sB ps=uC ((jc ps).map po)
theorem wG {ps:f0} (h:lp ps=0):BA ps:=by
 obtain ⟨h1,Y,h3⟩:=uz h
 have hc:=Dt h1.1 Y
 unfold uy at h3
 split at h3
 ·rename_i a1
  split at h3
  ·rename_i a2
   split at h3
   ·rename_i a3
    exact ⟨h1,hc,a1,a2,a3,by unfold sB;rw[if_pos h]⟩
   ·cases h3
  ·cases h3
 ·cases h3
theorem He {ps:f0} (h:BA ps):(sB ps).Perm ((jc ps).map po):=by rw[h.list];exact y7 _
theorem AJ {ps:f0} (h:BA ps):(sB ps).length<=192:=by
 have:=(He h).length_eq
 rw[List.length_map] at this
 have:=uA h.right
 omega
def nB (ps:f0):List Row:=(sB ps).map (·.1)
theorem Dy {ps:f0} (h:BA ps):nB ps=yX ((jc ps).map f5):=by
 unfold nB
 rw[h.list,AG,List.map_map]
 rfl
theorem Ev (l:List Seen) (hl:l.length<=1000):gV.ab (l,())=some (l.map (·.1),()):=by
 refine ag (k:=1100) fun q hq=>(gV.aa q _).trans ?_
 have:=bH (B:=fun self v=>gV.B0 q self (fun z=>gV.Q0 q (l,()) z) (l,()) v) l (fun (s:List Row) (i:Int)=>(s,i)) (fun _ s x=>.inr (s++[x.1])) (fun s=>(s,())) (fun i s=>s.length=i) (by rw[ah];omega)
  (fun i hi s self hs=>by
   show gV.b0 _ _ _ _=_
   unfold gV.b0
   have ai:(i:Int) < (l.length:Int):=by omega
   rw[decide_eq_true ai,cond_true,if_pos (Int.natCast_nonneg i)]
   simp only[Int.toNat_natCast,List.getElem?_eq_getElem hi,Option.bind_some]
   rw[if_pos (cA (by simp only[List.length_cons,List.length_nil];omega))])
  (fun i hi s s' hs hf=>by injection hf with hf;subst hf;simp[hs]) (fun s self _=>by
   show gV.b0 _ _ _ _=_
   unfold gV.b0
   rw[decide_eq_false (Int.lt_irrefl _),cond_false]
   rfl) [] rfl q (by omega)
 rw[eA (g:=fun (s:List Row) (x:Seen)=>s++[x.1])] at this
 refine this.trans ?_
 have hm:∀ (xs:List Seen) (s:List Row),xs.foldl (fun s x=>s++[x.1]) s=s++xs.map (·.1):=by
  intro xs
  induction xs with
  | nil=>intro s;simp
  | cons x xs ih=>intro s;rw[List.foldl_cons,ih];simp
 rw[hm,List.nil_append]
theorem Bf {ps:f0} (h:lp ps=0):eI.ab (ps,())=some (nB ps,()):=by
 have hr:=uz h
 have hl:=uA hr.1
 refine ag (k:=300) fun k hk=>(eI.aa k _).trans ?_
 unfold eI.p
 rw[wR ps hr.1]
 simp only[Option.bind_some]
 have:=bH (B:=fun self v=>eI.B0 k self (fun z=>eI.Q0 k (ps,()) (jc ps) z) (ps,()) (jc ps) v) (jc ps) (fun (s:List Row) (i:Int)=>(s,i)) (fun _ s x=>.inr (jT s (f5 x))) (fun s=>(s,())) (fun i s=>s.length<=i) (by rw[ah];omega)
  (fun i hi s self hs=>by
   show eI.b0 _ _ _ _ _=_
   unfold eI.b0
   have ai:(i:Int) < ((jc ps).length:Int):=by omega
   rw[decide_eq_true ai,cond_true,if_pos ⟨Int.natCast_nonneg i,ai⟩]
   simp only[Int.toNat_natCast,List.getElem?_eq_getElem hi,Option.bind_some]
   rw[yU _ _ (by omega)]
   rfl)
  (fun i hi s s' hs hf=>by
   injection hf with hf
   subst hf
   unfold jT
   simp only[List.length_append,List.length_take,List.length_drop,List.length_cons,List.length_nil]
   omega) (fun s self _=>by
   show eI.b0 _ _ _ _ _=_
   unfold eI.b0
   rw[decide_eq_false (Int.lt_irrefl _),cond_false]
   rfl) [] (Nat.le_refl 0) k (by omega)
 rw[eA (g:=fun (s:List Row) (x:aw)=>jT s (f5 x))] at this
 refine this.trans ?_
 rw[Dy (wG h)]
 unfold yX
 rw[List.foldl_map]
end OT
set_option linter.unusedVariables false
set_option linter.unusedSimpArgs false
namespace OT
open Go
def bl (x:cP):Int:=(List.length x.2.1:Int)
def jM (s:Int) (x:cP):Sum (Int×Unit) Int:=
 if ct x.1 0 63 then (if ct (bl x) 1 64 then (if 64 < x.1+bl x then .inl (3,()) else if x.1 < s then .inl (1,()) else .inr (x.1+bl x+1)) else .inl (3,())) else .inl (3,())
def y8 (s:Int) (xs:List cP):Int:=(aW (fun _ s x=>jM s x) (fun _=>((0:Int),())) 0 xs s).1
def mj (xs:List cP):Int:=if 64 < xs.length then 2 else y8 0 xs
theorem sD {s s':Int} {x:cP} (h:jM s x=.inr s'):0<=x.1/\x.1<=63/\1<=bl x/\bl x<=64/\x.1+bl x<=64/\s<=x.1/\s'=x.1+bl x+1:=by
 unfold jM at h
 split at h
 ·rename_i h1
  split at h
  ·rename_i Y
   split at h
   ·cases h
   ·split at h
    ·cases h
    ·injection h with h
     simp only[ct,Bool.and_eq_true,decide_eq_true_eq] at h1 Y
     omega
  ·cases h
 ·cases h
theorem xC {s:Int} {x:cP} {o:Int×Unit} (h:jM s x=.inl o):o.1≠0:=by
 unfold jM at h
 split at h
 ·split at h
  ·split at h
   ·injection h with h;subst h;decide
   ·split at h
    ·injection h with h;subst h;decide
    ·cases h
  ·injection h with h;subst h;decide
 ·injection h with h;subst h;decide
theorem FG {S O α:Type} {f:S->α->Sum O S} {fin:S->O}:∀ (xs:List α) (i j:Nat) (s:S),aW (fun _ s x=>f s x) fin i xs s=aW (fun _ s x=>f s x) fin j xs s
 | [],_,_,_=>rfl
 | x::xs,i,j,s=>by
  simp only[aW]
  split
  ·rfl
  ·exact FG xs _ _ _
theorem uD (s:Int) (x:cP) (xs:List cP):y8 s (x::xs)=match jM s x with | .inl o=>o.1 | .inr s'=>y8 s' xs:=by
 unfold y8
 simp only[aW]
 cases h:jM s x with
 | inl o=>rfl
 | inr s'=>simp only;rw[FG xs 1 0]
theorem y9:∀ (xs:List cP) (s:Int),y8 s xs=0->∀ x ∈ xs,0<=x.1/\x.1<=63/\1<=bl x/\bl x<=64
 | [],_,_,_,hx=>by cases hx
 | y::ys,s,h,x,hx=>by
  rw[uD] at h
  cases hs:jM s y with
  | inl o=>rw[hs] at h;exact absurd h (xC hs)
  | inr s'=>
   rw[hs] at h
   have:=sD hs
   rcases List.mem_cons.1 hx with e | e
   ·subst e;omega
   ·exact y9 ys s' h x e
theorem Hf {xs:List cP} (h:mj xs=0):List.length xs<=64/\∀ x ∈ xs,0<=x.1/\x.1<=63/\1<=bl x/\bl x<=64:=by
 unfold mj at h
 split at h
 ·cases h
 ·exact ⟨by omega,y9 xs 0 h⟩
theorem Jo {y z:cP} {ys:List cP} (h:mj (y::z::ys)=0):List.length y.2.1≠64:=by
 unfold mj at h
 split at h
 ·cases h
 ·rw[uD] at h
  cases hs:jM 0 y with
  | inl o=>rw[hs] at h;exact absurd h (xC hs)
  | inr s'=>
   rw[hs] at h
   have h1:=sD hs
   simp only[uD] at h
   cases nE:jM s' z with
   | inl o=>rw[nE] at h;exact absurd h (xC nE)
   | inr s2=>
    have Y:=sD nE
    have:bl y=(List.length y.2.1:Int):=rfl
    omega
theorem Ew (xs:List cP):df.ab (xs,())=some (mj xs,()):=by
 refine ag (k:=66) fun k hk=>(df.aa k _).trans ?_
 unfold df.p mj
 by_cases hl:64 < xs.length
 ·have:(64:Int) < (xs.length:Int):=by omega
  simp only[hl,this,decide_true,cond_true,if_true]
 have iw:¬ (64:Int) < (xs.length:Int):=by omega
 have:=bH (B:=fun self v=>df.B0 0 self (fun z=>df.Q0 0 (xs,()) z) (xs,()) v) xs (fun (s:Int) (i:Int)=>(s,i)) (fun _ s x=>jM s x) (fun _=>(0,())) (fun _ _=>True) (by rw[ah];omega)
  (fun i hi s self _=>by
   show df.b0 _ _ _ _=_
   unfold df.b0
   have ai:(i:Int) < (xs.length:Int):=by omega
   simp only[ai,decide_true,cond_true,Int.natCast_nonneg,if_true,Int.toNat_natCast,List.getElem?_eq_getElem hi,Option.bind_some,lk]
   generalize xs[i]=x
   unfold jM bl ct
   by_cases a1:(0:Int)<=x.1
   rotate_left
   ·simp[a1]
   by_cases a2:x.1<=63
   rotate_left
   ·simp[a2]
   by_cases a3:(1:Int)<=(List.length x.2.1:Int)
   rotate_left
   ·simp[a1,a2,a3]
   by_cases a4:(List.length x.2.1:Int)<=64
   rotate_left
   ·simp[a1,a2,a4]
   have e1:ae (x.1+(List.length x.2.1:Int))=x.1+(List.length x.2.1:Int):=aE (by omega)
   have e2:ae (x.1+(List.length x.2.1:Int)+1)=x.1+(List.length x.2.1:Int)+1:=aE (by omega)
   simp only[a1,a2,a3,a4,e1,e2,decide_true,Bool.and_self,Bool.not_true,cond_false,if_true]
   by_cases a5:64 < x.1+(List.length x.2.1:Int)
   ·simp[a5]
   by_cases a6:x.1 < s
   ·simp[a5,a6]
   simp[a5,a6]) (fun _ _ _ _ _ _=>trivial) (fun s self _=>by
   show df.b0 _ _ _ _=_
   unfold df.b0
   simp[df.Q0,df.q0]) 0 trivial k (by omega)
 simp only[hl,if_false,iw,decide_false,cond_false]
 exact this
theorem wS (xs:List cP):dP.ab (xs,())=some (mj xs,()):=by
 refine ag (k:=66) fun k hk=>(dP.aa k _).trans ?_
 unfold dP.p mj
 by_cases hl:64 < xs.length
 ·have:(64:Int) < (xs.length:Int):=by omega
  simp only[hl,this,decide_true,cond_true,if_true]
 have iw:¬ (64:Int) < (xs.length:Int):=by omega
 have:=bH (B:=fun self v=>dP.B0 0 self (fun z=>dP.Q0 0 (xs,()) z) (xs,()) v) xs (fun (s:Int) (i:Int)=>i) (fun _ s x=>jM s x) (fun _=>(0,()))
  (fun i s=>(i=0->s=0)/\∀ y,0 < i->xs[i - 1]?=some y->0<=y.1/\y.1<=63/\bl y<=64/\s=y.1+bl y+1) (by rw[ah];omega)
  (fun i hi s self hI=>by
   show dP.b0 _ _ _ _=_
   unfold dP.b0
   have ai:(i:Int) < (xs.length:Int):=by omega
   simp only[ai,decide_true,cond_true,Int.natCast_nonneg,if_true,Int.toNat_natCast,List.getElem?_eq_getElem hi,Option.bind_some,ir]
   generalize xs[i]=x
   unfold jM bl ct
   by_cases a1:(0:Int)<=x.1
   rotate_left
   ·simp[a1]
   by_cases a2:x.1<=63
   rotate_left
   ·simp[a2]
   by_cases a3:(1:Int)<=(List.length x.2.1:Int)
   rotate_left
   ·simp[a1,a2,a3]
   by_cases a4:(List.length x.2.1:Int)<=64
   rotate_left
   ·simp[a1,a2,a4]
   have e1:ae (x.1+(List.length x.2.1:Int))=x.1+(List.length x.2.1:Int):=aE (by omega)
   simp only[a1,a2,a3,a4,e1,decide_true,Bool.and_self,Bool.not_true,cond_false,if_true]
   by_cases a5:64 < x.1+(List.length x.2.1:Int)
   ·simp[a5]
   by_cases h0:i=0
   ·subst h0
    have:=hI.1 rfl
    subst this
    have a6:¬ x.1 < 0:=by omega
    simp[a5,a6]
   ·have yS:i - 1 < xs.length:=by omega
    obtain ⟨y0,y1,y2,y3⟩:=hI.2 xs[i - 1] (by omega) (List.getElem?_eq_getElem yS)
    have hp:(0:Int) < (i:Int):=by omega
    have ew:ae ((i:Int) - 1)=((i - 1:Nat):Int):=by rw[aE (by omega)];omega
    unfold bl at y2 y3
    have e2:ae ((xs[i - 1]).1+(List.length (xs[i - 1]).2.1:Int))=(xs[i - 1]).1+(List.length (xs[i - 1]).2.1:Int):=aE (by omega)
    simp only[a5,hp,ew,e2,decide_true,decide_false,cond_true,cond_false,Int.natCast_nonneg,if_true,if_false,Int.toNat_natCast,List.getElem?_eq_getElem yS,Option.bind_some]
    by_cases a6:x.1 < s
    ·have:x.1<=(xs[i - 1]).1+(List.length (xs[i - 1]).2.1:Int):=by omega
     simp[a6,this]
    ·have:¬ x.1<=(xs[i - 1]).1+(List.length (xs[i - 1]).2.1:Int):=by omega
     simp[a6,this])
  (fun i hi s s' _ hs=>⟨fun e=>by omega,fun y _ hy=>by
   rw[Nat.add_sub_cancel,List.getElem?_eq_getElem hi] at hy
   injection hy with hy;subst hy
   have:=sD hs
   omega⟩) (fun s self _=>by
   show dP.b0 _ _ _ _=_
   unfold dP.b0
   simp[dP.Q0,dP.q0]) 0 ⟨fun _=>rfl,fun y h=>by omega⟩ k (by omega)
 simp only[hl,if_false,iw,decide_false,cond_false]
 exact this
def y_ (k:Int) (xs:List cP):Int:=match xs with
 | []=>1
 | y::_=>if decide (k=4)&&!decide (List.length y.2.1=64) then 1 else 0
def ml (r:aM):Int:=
 if !ct r.1 1 6||(!ct r.1 2 4&&(!decide (r.2.2.1=0)||decide (0 < List.length r.2.2.2.1)))||(decide (r.1=4)&&!decide (r.2.1=0)) then 1
 else if (!decide (r.1=4)&&!ct r.2.1 1 99)||!ct r.2.2.1 0 11 then 3
 else if !ct r.1 2 4 then 0
 else if mj r.2.2.2.1=0 then y_ r.1 r.2.2.2.1 else mj r.2.2.2.1
theorem v_ (k:Int):gA.ab (k,())=some (ct k 2 4,()):=by
 refine ag (k:=0) fun n _=>(gA.aa n _).trans ?_
 show gA.p _=_
 unfold gA.p
 simp[ir,ct]
theorem Dz (k:Int):gU.ab (k,())=some (ct k 2 4,()):=by
 refine ag (k:=0) fun n _=>(gU.aa n _).trans ?_
 show gU.p _=_
 unfold gU.p ct
 by_cases h1:k=2
 ·subst h1;rfl
 by_cases Y:k=3
 ·subst Y;rfl
 by_cases h3:k=4
 ·subst h3;rfl
 have:(decide ((2:Int)<=k)&&decide (k<=4))=false:=by
  by_cases h4:(2:Int)<=k
  ·have:¬ k<=4:=by omega
   simp[this]
  ·simp[h4]
 simp[h1,Y,h3,this]
theorem za (r:aM):gr.ab (r,())=some (ml r,()):=by
 obtain ⟨k,t,p,xs,⟨⟩⟩:=r
 refine ag (k:=0) fun n _=>(gr.aa n _).trans ?_
 show gr.p _=_
 unfold gr.p ml
 simp only[ir,v_,wS,Option.bind_some,show ∀ a b c:Int,(decide (b<=a)&&decide (a<=c))=ct a b c from fun _ _ _=>rfl]
 have h0:decide ((0:Int) < (xs.length:Int))=decide (0 < xs.length):=by simp
 have hj:(dP.ab (xs,()))=some (mj xs,()):=wS xs
 rw[h0]
 have hh:(bif decide ((List.length xs:Int)=0) then some ((1:Int),()) else bif decide (k=4) then (xs[0]?).bind fun C7=>bif !decide ((List.length C7.2.1:Int)=64) then some ((1:Int),()) else some (0,()) else some (0,()))=some (y_ k xs,()):=by
  cases xs with
  | nil=>rfl
  | cons y ys=>
   have:¬ ((List.length (y::ys):Int)=0):=by simp only[List.length_cons];omega
   simp only[this,decide_false,cond_false,y_,List.getElem?_cons_zero,Option.bind_some]
   have OR:decide ((List.length y.2.1:Int)=64)=decide (List.length y.2.1=64):=by
    by_cases h:List.length y.2.1=64
    ·simp[h]
    ·have:¬ ((List.length y.2.1:Int)=64):=by omega
     simp[h,this]
   rw[OR]
   cases decide (k=4) <;> cases decide (List.length y.2.1=64) <;> rfl
 rw[hh]
 by_cases hr:mj xs=0
 ·simp only[hr,decide_true,Bool.not_true,cond_false,if_true]
  cases ct k 1 6 <;> cases ct k 2 4 <;> cases decide (p=0) <;> cases decide (0 < xs.length) <;> cases decide (k=4) <;> cases decide (t=0) <;> cases ct t 1 99 <;> cases ct p 0 11 <;> rfl
 ·simp only[hr,decide_false,Bool.not_false,cond_true,if_false]
  cases ct k 1 6 <;> cases ct k 2 4 <;> cases decide (p=0) <;> cases decide (0 < xs.length) <;> cases decide (k=4) <;> cases decide (t=0) <;> cases ct t 1 99 <;> cases ct p 0 11 <;> rfl
theorem zb (r:aM):eh.ab (r,())=some (ml r,()):=by
 obtain ⟨k,t,p,xs,⟨⟩⟩:=r
 refine ag (k:=0) fun n _=>(eh.aa n _).trans ?_
 show eh.p _=_
 unfold eh.p ml
 simp only[lk,Dz,Fq,Ew,Option.bind_some,show ∀ a b c:Int,(decide (b<=a)&&decide (a<=c))=ct a b c from fun _ _ _=>rfl]
 have h0:decide ((0:Int) < (xs.length:Int))=decide (0 < xs.length):=by simp
 rw[h0]
 have hk:ct k 2 4=false->decide (k=4)=false:=by
  intro h
  by_cases e:k=4
  ·subst e;cases h
  ·simp[e]
 have OR:∀ y:cP,decide ((List.length y.2.1:Int)=64)=decide (List.length y.2.1=64):=fun y=>by
  by_cases h:List.length y.2.1=64
  ·simp[h]
  ·have:¬ ((List.length y.2.1:Int)=64):=by omega
   simp[h,this]
 have hz:decide (0 < xs.length)=false->xs=[]:=by
  intro h
  cases xs with
  | nil=>rfl
  | cons _ _=>simp at h
 have hh:mj xs=0->(bif decide ((List.length xs:Int)=0) then some ((1:Int),()) else bif decide (k=4) then bif !decide ((List.length xs:Int)=1) then some ((1:Int),()) else (xs[0]?).bind fun C7=>bif !decide ((List.length C7.2.1:Int)=64) then some ((1:Int),()) else some (0,()) else some (0,()))=some (y_ k xs,()):=by
  intro hr
  cases xs with
  | nil=>rfl
  | cons y ys=>
   have:¬ ((List.length (y::ys):Int)=0):=by simp only[List.length_cons];omega
   simp only[this,decide_false,cond_false,y_,List.getElem?_cons_zero,Option.bind_some,OR]
   cases ys with
   | nil=>cases decide (k=4) <;> cases decide (List.length y.2.1=64) <;> rfl
   | cons z ys=>
    have h1:=Jo hr
    have Y:¬ ((List.length (y::z::ys):Int)=1):=by simp only[List.length_cons];omega
    simp only[h1,Y,decide_false]
    cases decide (k=4) <;> rfl
 cases gD:ct k 2 4 with
 | false=>
  have T5:=hk gD
  have UI:mj ([]:List cP)=0:=rfl
  simp only[T5]
  by_cases hx:xs=[]
  ·subst hx
   cases ct k 1 6 <;> cases decide (p=0) <;> cases ct t 1 99 <;> cases ct p 0 11 <;> rfl
  ·have BT:decide (0 < xs.length)=true:=by
    cases xs with
    | nil=>exact absurd rfl hx
    | cons _ _=>simp
   simp only[BT]
   cases ct k 1 6 <;> cases decide (p=0) <;> rfl
 | true=>
  by_cases hr:mj xs=0
  ·have hh:=hh hr
   simp only[hr,decide_true,Bool.not_true,cond_false,cond_true,if_true,hh]
   cases ct k 1 6 <;> cases decide (k=4) <;> cases decide (t=0) <;> cases ct t 1 99 <;> cases ct p 0 11 <;> rfl
  ·simp only[hr,decide_false,Bool.not_false,cond_true,if_false]
   cases ct k 1 6 <;> cases decide (k=4) <;> cases decide (t=0) <;> cases ct t 1 99 <;> cases ct p 0 11 <;> rfl
theorem oM {r:aM} (h:ml r=0):1<=r.1/\r.1<=6/\0<=r.2.1/\r.2.1<=99/\0<=r.2.2.1/\r.2.2.1<=11/\List.length r.2.2.2.1<=64/\∀ x ∈ r.2.2.2.1,0<=x.1/\x.1<=63/\1<=bl x/\bl x<=64:=by
 obtain ⟨k,t,p,xs,⟨⟩⟩:=r
 unfold ml at h
 split at h
 ·cases h
 rename_i h1
 split at h
 ·cases h
 rename_i Y
 have hx:List.length xs<=64/\∀ x ∈ xs,0<=x.1/\x.1<=63/\1<=bl x/\bl x<=64:=by
  split at h
  ·rename_i h3
   simp only[Bool.or_eq_true,Bool.and_eq_true,not_or,not_and,h3,forall_const] at h1
   cases xs with
   | nil=>exact ⟨by simp,fun x hx=>by cases hx⟩
   | cons y ys=>exact absurd (by simp) h1.1.2.2
  ·split at h
   ·rename_i h4;exact Hf h4
   ·rename_i h4;exact absurd h h4
 simp only[Bool.or_eq_true,Bool.and_eq_true,not_or,not_and,ct,Bool.not_eq_true',Bool.and_eq_false_iff,decide_eq_false_iff_not,decide_eq_true_eq] at h1 Y
 refine ⟨?_,?_,?_,?_,?_,?_,hx⟩ <;> by_cases hk:k=4 <;> simp_all <;> omega
end OT
set_option linter.unusedVariables false
set_option linter.unusedSimpArgs false
namespace OT
open Go
def lH (x:cP):List UInt8:=UInt8.ofInt x.1::UInt8.ofInt (List.length x.2.1:Int)::x.2.1
def eu (xs:List cP):List UInt8:=xs.flatMap lH
def mm (r:aM):List UInt8:=[(0:UInt8),UInt8.ofInt r.1,UInt8.ofInt r.2.1,UInt8.ofInt r.2.2.1,UInt8.ofInt (List.length r.2.2.2.1:Int)]
def oq (s:Int) (l:List UInt8):Int:=l.foldl (fun s c=>(s*31+(c.toNat:Int)) % 65521) s
def DA (r:aM):List UInt8:=(mm r++eu r.2.2.2.1).set 0 (UInt8.ofInt (ae (((mm r++eu r.2.2.2.1).length:Int)+2)))
def qT (r:aM):List UInt8:=DA r++[UInt8.ofInt ((oq 1 (DA r)) / 256),UInt8.ofInt (oq 1 (DA r))]
def zd (r:aM):Prop:=List.length r.2.2.2.1<=64/\∀ x ∈ r.2.2.2.1,List.length x.2.1<=64
theorem DB {r:aM} (h:ml r=0):zd r:=by
 have:=oM h
 refine ⟨this.2.2.2.2.2.2.1,fun x hx=>?_⟩
 have Y:=this.2.2.2.2.2.2.2 x hx
 unfold bl at Y
 omega
theorem wa (xs ys:List cP):eu (xs++ys)=eu xs++eu ys:=List.flatMap_append
theorem mn (x:cP) (xs:List cP):eu (x::xs)=lH x++eu xs:=List.flatMap_cons
theorem wb {xs:List cP} (h:∀ x ∈ xs,List.length x.2.1<=64):(eu xs).length<=66*xs.length:=by
 induction xs with
 | nil=>simp[eu]
 | cons x xs ih=>
  have h1:=ih fun y hy=>h y (by simp[hy])
  have Y:=h x (by simp)
  rw[mn]
  simp only[List.length_append,List.length_cons,lH]
  omega
theorem M0 (r:aM):(DA r).length=5+(eu r.2.2.2.1).length:=by simp[DA,mm];omega
theorem AK (r:aM):(qT r).length=7+(eu r.2.2.2.1).length:=by
 simp only[qT,List.length_append,M0,List.length_cons,List.length_nil];omega
theorem Ey {r:aM} (h:zd r):(qT r).length<=5000:=by
 rw[AK]
 have:=wb h.2
 have:=h.1
 omega
theorem FH:∀ (l:List UInt8) (s:Int),0<=s/\s < 65521->0<=oq s l/\oq s l < 65521
 | [],s,h=>h
 | c::l,s,h=>FH l ((s*31+(c.toNat:Int)) % 65521) ⟨Int.emod_nonneg _ (by omega),Int.emod_lt_of_pos _ (by omega)⟩
theorem Jp {s:Int} (h:0<=s):UInt8.ofInt (s.tmod 256)=UInt8.ofInt s:=by
 rw[Int.tmod_eq_emod_of_nonneg h]
 apply UInt8.toBitVec_inj.1
 apply BitVec.eq_of_toNat_eq
 simp[UInt8.ofInt,BitVec.toNat_ofInt]
theorem wc:∀ (xs:List cP) (s:List UInt8),xs.foldl (fun s x=>s++lH x) s=s++eu xs
 | [],s=>by simp[eu]
 | x::xs,s=>by rw[List.foldl_cons,wc,mn,List.append_assoc]
theorem DC {s:Int} {c:UInt8} (h:0<=s/\s < 65521):((ae ((ae (s*(31:Int)))+(ae (c.toNat:Int)))).tmod (65521:Int))=(s*31+(c.toNat:Int)) % 65521:=by
 have hc:=c.toNat_lt
 have e1:ae (s*31)=s*31:=aE (by omega)
 have e2:ae (c.toNat:Int)=(c.toNat:Int):=aE (by omega)
 have e3:ae (s*31+(c.toNat:Int))=s*31+(c.toNat:Int):=aE (by omega)
 rw[e1,e2,e3,Int.tmod_eq_emod_of_nonneg (by omega)]
theorem Hg (l:List UInt8) (h:l.length<=100000):gc.ab (l,())=some (oq 1 l,()):=by
 refine ag (k:=100001) fun k hk=>(gc.aa k _).trans ?_
 have:=bH (B:=fun self v=>gc.B0 0 self (fun z=>gc.Q0 0 (l,()) z) (l,()) v) l (fun (s:Int) (i:Int)=>(s,i)) (fun _ s c=>.inr ((s*31+(c.toNat:Int)) % 65521)) (fun s=>(s,())) (fun _ s=>0<=s/\s < 65521) (by rw[ah];omega)
  (fun i hi s self hI=>by
   show gc.b0 _ _ _ _=_
   unfold gc.b0
   have ai:(i:Int) < (l.length:Int):=by omega
   simp only[ai,decide_true,cond_true,Int.natCast_nonneg,if_true,Int.toNat_natCast,List.getElem?_eq_getElem hi,Option.bind_some,DC hI])
  (fun i hi s s' hI hs=>by injection hs with hs;omega) (fun s self _=>by
   show gc.b0 _ _ _ _=_
   unfold gc.b0
   simp[gc.Q0,gc.q0]) 1 (by omega) k (by omega)
 rw[eA] at this
 exact this
theorem Ez (r:aM) (h:zd r):fC.ab (r,())=some (qT r,()):=by
 obtain ⟨K,T,P,xs,⟨⟩⟩:=r
 obtain ⟨h1,Y⟩:=h
 simp only at h1 Y
 refine ag (k:=100) fun k hk=>(fC.aa k _).trans ?_
 have hlen:∀ i,(eu (xs.take i)).length<=66*64:=fun i=>by
  have:=wb (xs:=xs.take i) (fun x hx=>Y x (List.mem_of_mem_take hx))
  have:(xs.take i).length<=xs.length:=by simp;omega
  omega
 have:=bH (B:=fun self v=>fC.B0 0 self (fun z=>fC.Q0 0 ((K,T,P,xs,()),()) z) ((K,T,P,xs,()),()) v) xs (fun (s:List UInt8) (i:Int)=>(s,i)) (fun _ s x=>.inr (s++lH x)) (fun s=>(let q:=s.set 0 (UInt8.ofInt (ae ((s.length:Int)+2)));(q++[UInt8.ofInt ((oq 1 q) / 256),UInt8.ofInt (oq 1 q)],())))
  (fun i s=>s=mm (K,T,P,xs,())++eu (xs.take i)) (by rw[ah];omega)
  (fun i hi s self hI=>by
   show fC.b0 _ _ _ _=_
   unfold fC.b0
   have ai:(i:Int) < (xs.length:Int):=by omega
   have hs:s.length<=5000:=by rw[hI];have:=hlen i;simp only[List.length_append,mm,List.length_cons,List.length_nil];omega
   have hx:=Y xs[i] (List.getElem_mem hi)
   simp only[ai,decide_true,cond_true,Int.natCast_nonneg,if_true,Int.toNat_natCast,List.getElem?_eq_getElem hi,Option.bind_some]
   generalize xs[i]=x at hx
   have c1:s.length+[UInt8.ofInt x.1,UInt8.ofInt (List.length x.2.1:Int)].length<=bf:=cA (by simp only[List.length_cons,List.length_nil];omega)
   have c2:(s++[UInt8.ofInt x.1,UInt8.ofInt (List.length x.2.1:Int)]).length+List.length x.2.1<=bf:=cA (by simp only[List.length_append,List.length_cons,List.length_nil];omega)
   simp only[c1,c2,if_true,lH,List.append_assoc,List.cons_append,List.nil_append])
  (fun i hi s s' hI hs=>by
   injection hs with hs
   rw[<-hs,hI,List.take_succ_eq_append_getElem hi,wa,List.append_assoc]
   simp[eu]) (fun s self hI=>by
   show fC.b0 _ _ _ _=_
   unfold fC.b0
   have hs:5<=s.length/\s.length<=5000:=by rw[hI];have:=hlen xs.length;simp only[List.length_append,mm,List.length_cons,List.length_nil];omega
   simp only[Int.lt_irrefl,decide_false,cond_false,fC.Q0,fC.q0]
   have c0:(0:Int)<=0/\(0:Int) < (s.length:Int):=⟨by omega,by omega⟩
   rw[if_pos c0,List.getElem?_eq_getElem (by omega:0 < s.length)]
   simp only[Option.bind_some]
   generalize hq:s.set 0 (UInt8.ofInt (ae ((s.length:Int)+2)))=q
   have T6:q.length=s.length:=by rw[<-hq];simp
   rw[Hg q (by omega)]
   simp only[Option.bind_some]
   have hb:=FH q 1 (by omega)
   have c1:q.length+[UInt8.ofInt (ae ((oq 1 q).tdiv 256)),UInt8.ofInt ((oq 1 q).tmod 256)].length<=bf:=cA (by simp only[List.length_cons,List.length_nil];omega)
   rw[if_pos c1,Jp hb.1,Int.tdiv_eq_ediv_of_nonneg hb.1,aE (by omega)]) (mm (K,T,P,xs,())) (by simp[eu]) k (by omega)
 rw[eA,wc] at this
 exact this
theorem EA (r:aM) (h:zd r):cr.ab (r,())=some (qT r,()):=by
 obtain ⟨K,T,P,xs,⟨⟩⟩:=r
 obtain ⟨h1,Y⟩:=h
 simp only at h1 Y
 refine ag (k:=6000) fun k hk=>(cr.aa k _).trans ?_
 have hlen:∀ i,(eu (xs.take i)).length<=66*64:=fun i=>by
  have:=wb (xs:=xs.take i) (fun x hx=>Y x (List.mem_of_mem_take hx))
  have:(xs.take i).length<=xs.length:=by simp;omega
  omega
 have RY:∀ q:List UInt8,q.length<=5000->cr.r1 k ((K,T,P,xs,()),()) q (q.length:Int) (1,0)=some (q++[UInt8.ofInt ((oq 1 q) / 256),UInt8.ofInt (oq 1 q)],()):=fun q hq=>by
  have:=bH (B:=fun self v=>cr.B1 0 self (fun z=>cr.Q1 0 ((K,T,P,xs,()),()) q (q.length:Int) z) ((K,T,P,xs,()),()) q (q.length:Int) v) q (fun (s:Int) (i:Int)=>(s,i)) (fun _ s c=>.inr ((s*31+(c.toNat:Int)) % 65521)) (fun s=>(q++[UInt8.ofInt (s / 256),UInt8.ofInt s],())) (fun _ s=>0<=s/\s < 65521) (by rw[ah];omega)
   (fun i hi s self hI=>by
    show cr.b1 _ _ _ _ _ _=_
    unfold cr.b1
    have ai:(i:Int) < (q.length:Int):=by omega
    have ng:(0:Int)<=(i:Int)/\(i:Int) < (q.length:Int):=by omega
    simp only[ai,ng,and_self,decide_true,cond_true,Int.natCast_nonneg,if_true,Int.toNat_natCast,List.getElem?_eq_getElem hi,Option.bind_some,DC hI])
   (fun i hi s s' hI hs=>by injection hs with hs;omega) (fun s self hI=>by
    show cr.b1 _ _ _ _ _ _=_
    unfold cr.b1
    simp only[Int.lt_irrefl,decide_false,cond_false,cr.Q1,cr.q1]
    have c1:q.length+[UInt8.ofInt (s.fdiv (2 ^ 8)),UInt8.ofInt s].length<=bf:=cA (by simp only[List.length_cons,List.length_nil];omega)
    rw[if_pos c1,Int.fdiv_eq_ediv_of_nonneg s (by omega:(0:Int)<=2 ^ 8)]
    rfl) 1 (by omega) k (by omega)
  rw[eA] at this
  exact this
 have:=bH (B:=fun self v=>cr.B0 k self (fun z=>cr.Q0 k ((K,T,P,xs,()),()) z) ((K,T,P,xs,()),()) v) xs (fun (s:List UInt8) (i:Int)=>(s,i)) (fun _ s x=>.inr (s++lH x)) (fun s=>(let q:=s.set 0 (UInt8.ofInt (ae ((s.length:Int)+2)));(q++[UInt8.ofInt ((oq 1 q) / 256),UInt8.ofInt (oq 1 q)],())))
  (fun i s=>s=mm (K,T,P,xs,())++eu (xs.take i)) (by rw[ah];omega)
  (fun i hi s self hI=>by
   show cr.b0 _ _ _ _=_
   unfold cr.b0
   have ai:(i:Int) < (xs.length:Int):=by omega
   have hs:s.length<=5000:=by rw[hI];have:=hlen i;simp only[List.length_append,mm,List.length_cons,List.length_nil];omega
   have hx:=Y xs[i] (List.getElem_mem hi)
   simp only[ai,decide_true,cond_true,Int.natCast_nonneg,if_true,Int.toNat_natCast,List.getElem?_eq_getElem hi,Option.bind_some]
   generalize xs[i]=x at hx
   have c1:s.length+[UInt8.ofInt x.1,UInt8.ofInt (List.length x.2.1:Int)].length<=bf:=cA (by simp only[List.length_cons,List.length_nil];omega)
   have c2:(s++[UInt8.ofInt x.1,UInt8.ofInt (List.length x.2.1:Int)]).length+List.length x.2.1<=bf:=cA (by simp only[List.length_append,List.length_cons,List.length_nil];omega)
   simp only[c1,c2,if_true,lH,List.append_assoc,List.cons_append,List.nil_append])
  (fun i hi s s' hI hs=>by
   injection hs with hs
   rw[<-hs,hI,List.take_succ_eq_append_getElem hi,wa,List.append_assoc]
   simp[eu]) (fun s self hI=>by
   show cr.b0 _ _ _ _=_
   unfold cr.b0
   have hs:5<=s.length/\s.length<=5000:=by rw[hI];have:=hlen xs.length;simp only[List.length_append,mm,List.length_cons,List.length_nil];omega
   simp only[Int.lt_irrefl,decide_false,cond_false,cr.Q0,cr.q0]
   have c0:(0:Int)<=0/\(0:Int) < (s.length:Int):=⟨by omega,by omega⟩
   rw[if_pos c0,List.getElem?_eq_getElem (by omega:0 < s.length)]
   simp only[Option.bind_some]
   generalize hq:s.set 0 (UInt8.ofInt (ae ((s.length:Int)+2)))=q
   have T6:q.length=s.length:=by rw[<-hq];simp
   exact RY q (by omega)) (mm (K,T,P,xs,())) (by simp[eu]) k (by omega)
 rw[eA,wc] at this
 exact this
end OT
set_option linter.unusedVariables false
set_option linter.unusedSimpArgs false
namespace OT
open Go
def aT (D:List UInt8) (i:Nat):Nat:=(D.getD i 0).toNat
theorem jU (D:List UInt8) (i:Nat):aT D i < 256:=UInt8.toNat_lt _
theorem jn {D:List UInt8} {i:Nat} (h:i < D.length):D[i]?=some D[i]/\(D[i]).toNat=aT D i:=⟨List.getElem?_eq_getElem h,by simp[aT,h]⟩
def piece (D:List UInt8) (OS n:Nat):cP:=((aT D OS:Int),(D.take (OS+2+n)).drop (OS+2),())
def pI (D:List UInt8) (e:Nat):Nat->Nat->List cP->Option (List cP×Nat)
 | 0,a,rs=>some (rs,a)
 | c+1,a,rs=>if e < a+2 then none else if e < a+2+aT D (a+1) then none else pI D e c (a+2+aT D (a+1)) (rs++[piece D a (aT D (a+1))])
def pS (D:List UInt8):Nat->Nat->List cP->List cP
 | 0,_,rs=>rs
 | c+1,a,rs=>if a+2<=D.length then (if D.length < a+2+aT D (a+1) then rs else pS D c (a+2+aT D (a+1)) (rs++[piece D a (aT D (a+1))])) else rs
theorem Hh {D:List UInt8} {e:Nat} (he:e<=D.length):∀ (c a:Nat) (rs AL:List cP) (a':Nat),pI D e c a rs=some (AL,a')->pS D c a rs=AL
 | 0,a,rs,AL,a',h=>by injection h with h;injection h
 | c+1,a,rs,AL,a',h=>by
  simp only[pI] at h
  split at h
  ·cases h
  ·split at h
   ·cases h
   ·simp only[pS]
    rw[if_pos (by omega),if_neg (by omega)]
    exact Hh he c _ _ _ _ h
theorem FI {e:Nat}:∀ (ys:List cP) (pre qB:List UInt8) (rs:List cP),(∀ y ∈ ys,0<=y.1/\y.1<=63/\1<=bl y/\bl y<=64)->pre.length+(eu ys).length<=e ->
  pI (pre++eu ys++qB) e ys.length pre.length rs=some (rs++ys,pre.length+(eu ys).length)
 | [],pre,qB,rs,_,_=>by simp[pI,eu]
 | y::ys,pre,qB,rs,h,he=>by
  obtain ⟨b1,b2,b3,b4⟩:=h y (by simp)
  unfold bl at b3 b4
  have hD:pre++eu (y::ys)++qB=(pre++lH y)++eu ys++qB:=by rw[mn];simp only[List.append_assoc]
  have Q5:(lH y).length=2+List.length y.2.1:=by simp only[lH,List.length_cons];omega
  have AF:(eu (y::ys)).length=2+List.length y.2.1+(eu ys).length:=by rw[mn,List.length_append,Q5]
  have h8:∀ n:Int,0<=n->n<=64->((UInt8.ofInt n).toNat:Int)=n:=fun n h1 Y=>by
   simp[UInt8.ofInt,BitVec.toNat_ofInt];omega
  have g0:(aT (pre++eu (y::ys)++qB) pre.length:Int)=y.1:=by
   unfold aT
   rw[mn]
   simp only[lH,List.append_assoc,List.getD_eq_getElem?_getD]
   rw[List.getElem?_append_right (Nat.le_refl _)]
   simpa using h8 y.1 b1 (by omega)
  have g1:aT (pre++eu (y::ys)++qB) (pre.length+1)=List.length y.2.1:=by
   unfold aT
   rw[mn]
   simp only[lH,List.append_assoc,List.getD_eq_getElem?_getD]
   rw[List.getElem?_append_right (by omega)]
   have:=h8 (List.length y.2.1:Int) (by omega) b4
   simp only[Nat.add_sub_cancel_left,List.cons_append,List.getElem?_cons_succ,List.getElem?_cons_zero,Option.getD_some]
   omega
  have g2:piece (pre++eu (y::ys)++qB) pre.length (List.length y.2.1)=y:=by
   obtain ⟨yi,yb,⟨⟩⟩:=y
   unfold piece
   have g0:(aT (pre++eu ((yi,yb,())::ys)++qB) pre.length:Int)=yi:=g0
   rw[g0]
   have:((pre++eu ((yi,yb,())::ys)++qB).take (pre.length+2+yb.length)).drop (pre.length+2)=yb:=by
    rw[mn]
    simp only[lH,List.append_assoc,List.cons_append]
    rw[List.take_append,List.drop_append]
    have e1:List.take (pre.length+2+yb.length) pre=pre:=List.take_of_length_le (by omega)
    have e2:pre.length+2+yb.length - pre.length=yb.length+1+1:=by omega
    rw[e1,e2]
    have e3:List.drop (pre.length+2) pre=[]:=List.drop_of_length_le (by omega)
    have e4:pre.length+2 - pre.length=1+1:=by omega
    rw[e3,e4]
    simp
   show (yi,((pre++eu ((yi,yb,())::ys)++qB).take (pre.length+2+yb.length)).drop (pre.length+2),())=(yi,yb,())
   rw[this]
  simp only[List.length_cons,pI]
  rw[if_neg (by omega),g1,if_neg (by omega),g2,hD]
  have hl:(pre++lH y).length=pre.length+2+List.length y.2.1:=by rw[List.length_append,Q5];omega
  have:=FI (e:=e) ys (pre++lH y) qB (rs++[y]) (fun z hz=>h z (by simp[hz])) (by rw[hl];omega)
  rw[hl] at this
  rw[this,AF]
  simp only[List.append_assoc,List.cons_append,List.nil_append]
  congr 2
  omega
def kN (d:List UInt8):Option (aM×Nat):=
 if d.length < 7\/aT d 0 < 7\/d.length < aT d 0 then none else
 match pI (d.take (aT d 0)) (aT d 0 - 2) (aT d 4) 5 [] with
 | none=>none
 | some (rs,a)=>if a=aT d 0 - 2/\ml ((aT d 1:Int),(aT d 2:Int),(aT d 3:Int),rs,())=0/\qT ((aT d 1:Int),(aT d 2:Int),(aT d 3:Int),rs,())=d.take (aT d 0) then
   some (((aT d 1:Int),(aT d 2:Int),(aT d 3:Int),rs,()),aT d 0) else none
theorem DD {d:List UInt8} {n i:Nat} (h:i < n) (hn:n<=d.length):aT (d.take n) i=aT d i:=by
 unfold aT
 simp only[List.getD_eq_getElem?_getD]
 rw[List.getElem?_take,if_pos h]
theorem PX {D:List UInt8} (hl:7<=D.length) {rs:List cP} (AM:pS D (aT D 4) 5 []=rs) {k t p:Int} (hr:ml (k,t,p,rs,())=0) (hp:qT (k,t,p,rs,())=D):pI D (D.length - 2) (aT D 4) 5 []=some (rs,D.length - 2):=by
 have hg:=oM hr
 have h1:=hg.2.2.2.2.2.2.1
 have Y:=hg.2.2.2.2.2.2.2
 simp only at h1 Y
 have hlen:=AK (k,t,p,rs,())
 rw[hp] at hlen
 simp only at hlen
 have OU:∃ (pre qB:List UInt8),pre.length=5/\D=pre++eu rs++qB/\pre[4]?=some (UInt8.ofInt (List.length rs:Int)):=by
  refine ⟨(mm (k,t,p,rs,())).set 0 (UInt8.ofInt (ae (((mm (k,t,p,rs,())++eu rs).length:Int)+2))),[UInt8.ofInt ((oq 1 (DA (k,t,p,rs,()))) / 256),UInt8.ofInt (oq 1 (DA (k,t,p,rs,())))],by simp[mm],?_,by simp[mm]⟩
  rw[<-hp]
  rfl
 obtain ⟨pre,qB,s1,s2,s3⟩:=OU
 have h4:aT D 4=List.length rs:=by
  unfold aT
  rw[s2]
  simp only[List.getD_eq_getElem?_getD,List.append_assoc]
  rw[List.getElem?_append_left (by omega),s3]
  simp[UInt8.ofInt,BitVec.toNat_ofInt]
  omega
 rw[h4]
 have:=FI (e:=D.length - 2) rs pre qB [] Y (by omega)
 rw[<-s2,s1] at this
 rw[this]
 simp only[List.nil_append]
 congr 2
 omega
theorem jo {n:Nat} (h:n<=4000000000):ae (n:Int)=(n:Int):=aE (by omega)
theorem DE (a b:List UInt8) (h:a.length<=100000):bG.ab (a,b,())=some (decide (a=b),()):=by
 refine ag (k:=100001) fun k hk=>(bG.aa k _).trans ?_
 unfold bG.p
 by_cases hl:a.length=b.length
 rotate_left
 ·have h1:¬ ((a.length:Int)=(b.length:Int)):=by omega
  have Y:¬ a=b:=fun e=>hl (by rw[e])
  simp only[h1,Y,decide_false,Bool.not_false,cond_true]
 have iw:(a.length:Int)=(b.length:Int):=by omega
 simp only[iw,decide_true,Bool.not_true,cond_false]
 have key:∀ (m i:Nat),a.length - i=m->i<=a.length->∀ j,m < j->ak (fun self v=>bG.B0 k self (fun z=>bG.Q0 k (a,b,()) z) (a,b,()) v) j (i:Int)=some (decide (a.drop i=b.drop i),()):=by
  intro m
  induction m with
  | zero=>
   intro i hm hi j hj
   have:i=a.length:=by omega
   subst this
   cases j with
   | zero=>omega
   | succ j=>
    show bG.b0 _ _ _ _=_
    unfold bG.b0
    simp only[Int.lt_irrefl,decide_false,cond_false,bG.Q0,bG.q0]
    rw[List.drop_length,hl,List.drop_length]
    simp
  | succ m ih=>
   intro i hm hi j hj
   have ai:i < a.length:=by omega
   cases j with
   | zero=>omega
   | succ j=>
    show bG.b0 _ _ _ _=_
    unfold bG.b0
    have RZ:(i:Int) < (a.length:Int):=by omega
    have Q6:i < b.length:=by omega
    have hw:ae ((i:Int)+1)=((i+1:Nat):Int):=by rw[aE (by omega)];omega
    simp only[RZ,decide_true,cond_true,Int.natCast_nonneg,if_true,Int.toNat_natCast,List.getElem?_eq_getElem ai,List.getElem?_eq_getElem Q6,Option.bind_some,hw]
    rw[List.drop_eq_getElem_cons ai,List.drop_eq_getElem_cons Q6]
    by_cases he:a[i]=b[i]
    ·simp only[he,decide_true,Bool.not_true,cond_false,List.cons.injEq,true_and]
     exact ih (i+1) (by omega) (by omega) j (by omega)
    ·have:¬ (((a[i]).toNat:Int)=((b[i]).toNat:Int)):=fun e=>he (UInt8.toNat_inj.1 (by omega))
     have Y:¬ (a[i]::a.drop (i+1)=b[i]::b.drop (i+1)):=fun e=>he (by injection e)
     simp only[this,Y,decide_false,Bool.not_false,cond_true]
 have:=key a.length 0 (by omega) (by omega) k (by omega)
 simp only[List.drop_zero] at this
 exact this
def Hj:aM:=((0:Int),(0:Int),(0:Int),([]:List cP),())
theorem Jq {D:List UInt8} (hD:7<=D.length) (T7:D.length<=255) {a1:fF.Arg} {e0:(aM×Int)->Option fF.Out} {K T P N:Int} (hN:0<=N/\N<=255) {k:Nat} :
  ∀ (c a i:Nat) (rs:List cP),(i:Int)+c=N->a<=D.length - 2->rs.length<=i->∀ j,c < j ->
   ak (fun self v=>fF.B0 k self e0 a1 D ((D.length - 2:Nat):Int) N v) j ((K,T,P,rs,()),(a:Int),(i:Int))=match pI D (D.length - 2) c a rs with
    | none=>some (Hj,(0:Int),())
    | some (AL,a')=>e0 ((K,T,P,AL,()),(a':Int)):=by
 intro c
 induction c with
 | zero=>
  intro a i rs hi ha AM j hj
  cases j with
  | zero=>omega
  | succ j=>
   show fF.b0 _ _ a1 _ _ _ _=_
   unfold fF.b0
   have:¬ (i:Int) < N:=by omega
   simp only[this,decide_false,cond_false,pI]
 | succ c ih=>
  intro a i rs hi ha AM j hj
  cases j with
  | zero=>omega
  | succ j=>
   show fF.b0 _ _ a1 _ _ _ _=_
   unfold fF.b0
   have h1:(i:Int) < N:=by omega
   have e1:ae ((a:Int)+2)=((a+2:Nat):Int):=by rw[aE (by omega)];omega
   have e2:ae ((a:Int)+1)=((a+1:Nat):Int):=by rw[aE (by omega)];omega
   have e3:ae ((i:Int)+1)=((i+1:Nat):Int):=by rw[aE (by omega)];omega
   simp only[h1,decide_true,cond_true,e1,e2,e3,pI]
   by_cases Y:D.length - 2 < a+2
   ·have:((D.length - 2:Nat):Int) < ((a+2:Nat):Int):=by omega
    simp only[this,decide_true,cond_true,if_pos Y]
    rfl
   have Ir:¬ ((D.length - 2:Nat):Int) < ((a+2:Nat):Int):=by omega
   obtain ⟨g1,g2⟩:=jn (show a+1 < D.length by omega)
   obtain ⟨g3,g4⟩:=jn (show a < D.length by omega)
   have hb:=jU D (a+1)
   have Ni:=jU D a
   simp only[Ir,decide_false,cond_false,if_neg Y,Int.natCast_nonneg,if_true,Int.toNat_natCast,g1,g3,Option.bind_some,g2,g4,jo (show aT D (a+1)<=4000000000 by omega),jo (show aT D a<=4000000000 by omega)]
   have e4:ae (((a+2:Nat):Int)+(aT D (a+1):Int))=((a+2+aT D (a+1):Nat):Int):=by rw[aE (by omega)];omega
   have e5:ae ((2:Int)+(aT D (a+1):Int))=((2+aT D (a+1):Nat):Int):=by rw[aE (by omega)];omega
   have e6:ae ((a:Int)+((2+aT D (a+1):Nat):Int))=((a+2+aT D (a+1):Nat):Int):=by rw[aE (by omega)];omega
   simp only[e4,e5,e6]
   by_cases h3:D.length - 2 < a+2+aT D (a+1)
   ·have:((D.length - 2:Nat):Int) < ((a+2+aT D (a+1):Nat):Int):=by omega
    simp only[this,decide_true,cond_true,if_pos h3]
    rfl
   have Ct:¬ ((D.length - 2:Nat):Int) < ((a+2+aT D (a+1):Nat):Int):=by omega
   have h4:((a+2:Nat):Int)<=((a+2+aT D (a+1):Nat):Int)/\((a+2+aT D (a+1):Nat):Int)<=(D.length:Int):=by omega
   simp only[Ct,decide_false,cond_false,if_neg h3,h4,and_self,if_true,Int.toNat_natCast]
   rw[nY _ (by simp only[List.length_drop,List.length_take];omega)]
   have hc:rs.length+[(((aT D a:Nat):Int),((D.take (a+2+aT D (a+1))).drop (a+2)),())].length<=bf:=cA (by simp only[List.length_cons,List.length_nil];omega)
   simp only[Option.bind_some,hc,if_true]
   exact ih (a+2+aT D (a+1)) (i+1) _ (by omega) (by omega) (by simp;omega) j (by omega)
theorem Jr {D:List UInt8} (hD:7<=D.length) (T7:D.length<=255) {e0:aM->Option fB.Out} {K T P:Int} {k:Nat} :
  ∀ (c a i:Nat) (rs:List cP),i+c=aT D 4->a<=600->rs.length<=i->∀ j,c < j ->
   ak (fun self v=>fB.B0 k self e0 (D,()) v) j ((K,T,P,rs,()),(a:Int),(i:Int))=e0 (K,T,P,pS D c a rs,()):=by
 intro c
 induction c with
 | zero=>
  intro a i rs hi ha AM j hj
  cases j with
  | zero=>omega
  | succ j=>
   show fB.b0 _ _ (D,()) _=_
   unfold fB.b0
   obtain ⟨g1,g2⟩:=jn (show 4 < D.length by omega)
   have hb:=jU D 4
   simp only[g1,Option.bind_some,g2,jo (show aT D 4<=4000000000 by omega)]
   have:¬ (i:Int) < (aT D 4:Int):=by omega
   simp only[this,decide_false,cond_false,pS]
 | succ c ih=>
  intro a i rs hi ha AM j hj
  cases j with
  | zero=>omega
  | succ j=>
   show fB.b0 _ _ (D,()) _=_
   unfold fB.b0
   obtain ⟨g1,g2⟩:=jn (show 4 < D.length by omega)
   have UJ:=jU D 4
   have h1:(i:Int) < (aT D 4:Int):=by omega
   have e1:ae ((a:Int)+2)=((a+2:Nat):Int):=by rw[aE (by omega)];omega
   have e2:ae ((a:Int)+1)=((a+1:Nat):Int):=by rw[aE (by omega)];omega
   have e3:ae ((i:Int)+1)=((i+1:Nat):Int):=by rw[aE (by omega)];omega
   simp only[g1,Option.bind_some,g2,jo (show aT D 4<=4000000000 by omega),h1,decide_true,cond_true,e1,e2,e3,pS]
   by_cases Y:a+2<=D.length
   rotate_left
   ·have:¬ ((a+2:Nat):Int)<=(D.length:Int):=by omega
    simp only[this,decide_false,cond_false,if_neg Y]
   have Ir:((a+2:Nat):Int)<=(D.length:Int):=by omega
   obtain ⟨g5,g6⟩:=jn (show a+1 < D.length by omega)
   obtain ⟨g3,g4⟩:=jn (show a < D.length by omega)
   have hb:=jU D (a+1)
   have Ni:=jU D a
   simp only[Ir,decide_true,cond_true,if_pos Y,Int.natCast_nonneg,if_true,Int.toNat_natCast,g5,g3,Option.bind_some,g6,g4,jo (show aT D (a+1)<=4000000000 by omega),jo (show aT D a<=4000000000 by omega)]
   have e4:ae (((a+2:Nat):Int)+(aT D (a+1):Int))=((a+2+aT D (a+1):Nat):Int):=by rw[aE (by omega)];omega
   simp only[e4]
   by_cases h3:D.length < a+2+aT D (a+1)
   ·have:(D.length:Int) < ((a+2+aT D (a+1):Nat):Int):=by omega
    simp only[this,decide_true,cond_true,if_pos h3]
   have Ct:¬ (D.length:Int) < ((a+2+aT D (a+1):Nat):Int):=by omega
   have h4:((a+2:Nat):Int)<=((a+2+aT D (a+1):Nat):Int)/\((a+2+aT D (a+1):Nat):Int)<=(D.length:Int):=by omega
   simp only[Ct,decide_false,cond_false,if_neg h3,h4,and_self,if_true,Int.toNat_natCast]
   rw[nS _ (by simp only[List.length_drop,List.length_take];omega)]
   have hc:rs.length+[(((aT D a:Nat):Int),((D.take (a+2+aT D (a+1))).drop (a+2)),())].length<=bf:=cA (by simp only[List.length_cons,List.length_nil];omega)
   simp only[Option.bind_some,hc,if_true]
   exact ih (a+2+aT D (a+1)) (i+1) _ (by omega) (by omega) (by simp;omega) j (by omega)
theorem EB (d:List UInt8) (hd:d.length<=2000000000):fF.ab (d,())=some (match kN d with | none=>(Hj,(0:Int),()) | some (r,n)=>(r,(n:Int),())):=by
 refine ag (k:=300) fun k hk=>(fF.aa k _).trans ?_
 unfold fF.p kN
 by_cases h7:d.length < 7
 ·have:(d.length:Int) < 7:=by omega
  simp only[this,decide_true,cond_true,h7,true_or,if_true]
  rfl
 have OV:¬ (d.length:Int) < 7:=by omega
 obtain ⟨g1,g2⟩:=jn (show 0 < d.length by omega)
 have hb:=jU d 0
 simp only[OV,decide_false,cond_false,h7,false_or,g1,Option.bind_some,g2,jo (show aT d 0<=4000000000 by omega)]
 by_cases hl:d.length < aT d 0
 ·have:(d.length:Int) < (aT d 0:Int):=by omega
  simp only[this,decide_true,cond_true,hl,or_true,if_true]
  rfl
 have iw:¬ (d.length:Int) < (aT d 0:Int):=by omega
 by_cases hm:aT d 0 < 7
 ·have:(aT d 0:Int) < 7:=by omega
  simp only[iw,decide_false,cond_false,this,decide_true,cond_true,hm,true_or,if_true]
  rfl
 have wO:¬ (aT d 0:Int) < 7:=by omega
 have dY:0<=(aT d 0:Int)/\(aT d 0:Int)<=(d.length:Int):=by omega
 simp only[iw,wO,decide_false,cond_false,hl,hm,or_self,if_false,dY,and_self,if_true,Int.toNat_natCast,List.drop_zero]
 generalize Js:d.take (aT d 0)=D
 have OW:D.length=aT d 0:=by rw[<-Js];simp;omega
 have ga:∀ i,i < aT d 0->aT D i=aT d i:=fun i hi=>by rw[<-Js];exact DD hi (by omega)
 obtain ⟨q1,q2⟩:=jn (show 1 < D.length by omega)
 obtain ⟨q3,q4⟩:=jn (show 2 < D.length by omega)
 obtain ⟨q5,q6⟩:=jn (show 3 < D.length by omega)
 obtain ⟨q7,q8⟩:=jn (show 4 < D.length by omega)
 have b1:=jU d 1
 have b2:=jU d 2
 have b3:=jU d 3
 have b4:=jU d 4
 have ew:ae ((D.length:Int) - 2)=((D.length - 2:Nat):Int):=by rw[aE (by omega)];omega
 simp only[q1,q3,q5,q7,Option.bind_some,q2,q4,q6,q8,ga 1 (by omega),ga 2 (by omega),ga 3 (by omega),ga 4 (by omega),ew,jo (show aT d 1<=4000000000 by omega),jo (show aT d 2<=4000000000 by omega),jo (show aT d 3<=4000000000 by omega),jo (show aT d 4<=4000000000 by omega)]
 have hp:=Jq (D:=D) (by omega) (by omega) (a1:=(d,())) (e0:=fun z=>fF.Q0 k (d,()) D ((D.length - 2:Nat):Int) (aT d 4:Int) z) (K:=(aT d 1:Int)) (T:=(aT d 2:Int)) (P:=(aT d 3:Int)) (N:=(aT d 4:Int)) (by omega) (k:=k) (aT d 4) 5 0 [] (by omega) (by omega) (Nat.le_refl _) k (by omega)
 refine Eq.trans hp ?_
 rw[<-OW]
 cases o6:pI D (D.length - 2) (aT d 4) 5 [] with
 | none=>rfl
 | some q=>
  obtain ⟨rs,a⟩:=q
  simp only[fF.Q0,fF.q0]
  by_cases ha:a=D.length - 2
  rotate_left
  ·have:¬ ((a:Int)=((D.length - 2:Nat):Int)):=by omega
   simp only[this,decide_false,Bool.not_false,cond_true,ha,false_and,if_false]
   rfl
  subst ha
  simp only[decide_true,Bool.not_true,cond_false,zb,Option.bind_some,true_and]
  by_cases hr:ml ((aT d 1:Int),(aT d 2:Int),(aT d 3:Int),rs,())=0
  rotate_left
  ·simp only[hr,decide_false,Bool.not_false,cond_true,false_and,if_false]
   rfl
  have hs:=DB hr
  have dZ:=Ey hs
  simp only[hr,decide_true,Bool.not_true,cond_false,EA _ hs,Option.bind_some,true_and]
  rw[DE _ _ (by omega)]
  by_cases he:qT ((aT d 1:Int),(aT d 2:Int),(aT d 3:Int),rs,())=D
  ·simp only[he,decide_true,Option.bind_some,Bool.not_true,cond_false,if_true]
  ·simp only[he,decide_false,Option.bind_some,Bool.not_false,cond_true,if_false]
   rfl
theorem EC (d:List UInt8) (hd:d.length<=2000000000):gM.ab (d,())=some (match kN d with | none=>(((5:Int),(0:Int),Hj,()),()) | some (r,n)=>(((0:Int),(n:Int),r,()),())):=by
 refine ag (k:=300) fun k hk=>(gM.aa k _).trans ?_
 show gM.p _=_
 unfold gM.p kN
 by_cases h7:d.length < 7
 ·have:(d.length:Int) < 7:=by omega
  simp only[this,decide_true,cond_true,h7,true_or,if_true]
  rfl
 have OV:¬ (d.length:Int) < 7:=by omega
 obtain ⟨g1,g2⟩:=jn (show 0 < d.length by omega)
 have hb:=jU d 0
 simp only[OV,decide_false,cond_false,h7,false_or,g1,Option.bind_some,g2,jo (show aT d 0<=4000000000 by omega)]
 by_cases hm:aT d 0 < 7
 ·have:(aT d 0:Int) < 7:=by omega
  simp only[this,decide_true,cond_true,hm,true_or,if_true]
  rfl
 have wO:¬ (aT d 0:Int) < 7:=by omega
 by_cases hl:d.length < aT d 0
 ·have:(d.length:Int) < (aT d 0:Int):=by omega
  simp only[wO,decide_false,cond_false,this,decide_true,cond_true,hl,or_true,if_true]
  rfl
 have iw:¬ (d.length:Int) < (aT d 0:Int):=by omega
 have dY:0<=(aT d 0:Int)/\(aT d 0:Int)<=(d.length:Int):=by omega
 simp only[iw,wO,decide_false,cond_false,hl,hm,or_self,if_false,dY,and_self,if_true,Int.toNat_natCast,List.drop_zero]
 generalize Js:d.take (aT d 0)=D
 have OW:D.length=aT d 0:=by rw[<-Js];simp;omega
 have ga:∀ i,i < aT d 0->aT D i=aT d i:=fun i hi=>by rw[<-Js];exact DD hi (by omega)
 have PY:fB.ab (D,())=some (((aT d 1:Int),(aT d 2:Int),(aT d 3:Int),pS D (aT d 4) 5 [],()),()):=by
  refine ag (k:=300) fun k hk=>(fB.aa k _).trans ?_
  unfold fB.p
  obtain ⟨q1,q2⟩:=jn (show 1 < D.length by omega)
  obtain ⟨q3,q4⟩:=jn (show 2 < D.length by omega)
  obtain ⟨q5,q6⟩:=jn (show 3 < D.length by omega)
  have b1:=jU d 1
  have b2:=jU d 2
  have b3:=jU d 3
  have b4:=jU d 4
  simp only[q1,q3,q5,Option.bind_some,q2,q4,q6,ga 1 (by omega),ga 2 (by omega),ga 3 (by omega),jo (show aT d 1<=4000000000 by omega),jo (show aT d 2<=4000000000 by omega),jo (show aT d 3<=4000000000 by omega)]
  have hp:=Jr (D:=D) (by omega) (by omega) (e0:=fun z=>fB.Q0 k (D,()) z) (K:=(aT d 1:Int)) (T:=(aT d 2:Int)) (P:=(aT d 3:Int)) (k:=k) (aT D 4) 5 0 [] (by omega) (by omega) (Nat.le_refl _) k (by rw[ga 4 (by omega)];omega)
  refine Eq.trans hp ?_
  rw[ga 4 (by omega)]
  rfl
 rw[PY]
 simp only[Option.bind_some,za]
 rw[<-OW]
 generalize AM:pS D (aT d 4) 5 []=rs
 by_cases hr:ml ((aT d 1:Int),(aT d 2:Int),(aT d 3:Int),rs,())=0
 ·have hs:=DB hr
  simp only[hr,decide_true,Bool.not_true,cond_false,Ez _ hs,Option.bind_some]
  by_cases he:qT ((aT d 1:Int),(aT d 2:Int),(aT d 3:Int),rs,())=D
  ·have h4:aT D 4=aT d 4:=ga 4 (by omega)
   have o6:=PX (D:=D) (by omega) (by rw[h4];exact AM) hr he
   rw[h4] at o6
   rw[o6]
   simp[he,hr]
  ·simp only[he,decide_false,Bool.not_false,cond_true]
   cases o6:pI D (D.length - 2) (aT d 4) 5 [] with
   | none=>rfl
   | some q=>
    obtain ⟨AL,a'⟩:=q
    have:=Hh (by omega) _ _ _ _ _ o6
    rw[AM] at this
    subst this
    simp only[he,and_false,if_false]
    rfl
 ·simp only[hr,decide_false,Bool.not_false,cond_true]
  cases o6:pI D (D.length - 2) (aT d 4) 5 [] with
  | none=>rfl
  | some q=>
   obtain ⟨AL,a'⟩:=q
   have:=Hh (by omega) _ _ _ _ _ o6
   rw[AM] at this
   subst this
   simp only[hr,false_and,and_false,if_false]
   rfl
end OT
set_option linter.unusedVariables false
set_option linter.unusedSimpArgs false
namespace OT
open Go
theorem rf {d:List UInt8} {r:aM} {n:Nat} (h:kN d=some (r,n)):7<=n/\n<=d.length/\ml r=0:=by
 unfold kN at h
 split at h
 ·cases h
 ·rename_i hc
  split at h
  ·cases h
  ·split at h
   ·rename_i hh
    injection h with h
    injection h with h1 Y
    subst h1
    omega
   ·cases h
theorem Jt:kN []=none:=rfl
def dX:Nat->List UInt8->List aM×Nat
 | 0,_=>([],0)
 | k+1,d=>match kN d with
  | none=>([],0)
  | some (r,n)=>(r::(dX k (d.drop n)).1,n+(dX k (d.drop n)).2)
theorem my:∀ (k k':Nat) (d:List UInt8),d.length < k->d.length < k'->dX k d=dX k' d
 | 0,_,_,h,_=>by omega
 | _+1,0,_,_,h=>by omega
 | k+1,k'+1,d,h,h'=>by
  simp only[dX]
  cases hr:kN d with
  | none=>rfl
  | some q=>
   obtain ⟨r,n⟩:=q
   have hn:=rf hr
   have:(d.drop n).length=d.length - n:=List.length_drop
   simp only
   rw[my k k' (d.drop n) (by omega) (by omega)]
def kJ (d:List UInt8):List aM×Nat:=dX (d.length+1) d
theorem sS:∀ (k:Nat) (d:List UInt8),(dX k d).2<=d.length
 | 0,d=>Nat.zero_le _
 | k+1,d=>by
  simp only[dX]
  cases hr:kN d with
  | none=>exact Nat.zero_le _
  | some q=>
   obtain ⟨r,n⟩:=q
   have hn:=rf hr
   have:(d.drop n).length=d.length - n:=List.length_drop
   have:=sS k (d.drop n)
   simp only
   omega
theorem qU (d:List UInt8) (hd:d.length<=1048576):dQ.ab (d,())=some ((kJ d).1,((kJ d).2:Int),()):=by
 refine ag (k:=1048578) fun k hk=>(dQ.aa k _).trans ?_
 have key:∀ (m a:Nat) (acc:List aM),d.length - a=m->a<=d.length->acc.length<=a->∀ j,m < j ->
   ak (fun self v=>dQ.B0 k self (d,()) v) j (acc,(a:Int))=some (acc++(dX (m+1) (d.drop a)).1,((a+(dX (m+1) (d.drop a)).2:Nat):Int),()):=by
  intro m
  induction m using Nat.strongRecOn with
  | ind m ih=>
  intro a acc hm ha R2 j hj
  cases j with
  | zero=>omega
  | succ j=>
   show dQ.b0 _ _ _=_
   unfold dQ.b0
   have dY:(0:Int)<=(a:Int)/\(a:Int)<=(d.length:Int):=by omega
   simp only[dY,and_self,if_true,Int.toNat_natCast,List.take_length]
   rw[EB _ (by simp;omega)]
   simp only[Option.bind_some,dX]
   cases hr:kN (d.drop a) with
   | none=>simp only[decide_true,cond_true,List.append_nil,Nat.add_zero];try rfl
   | some q=>
    obtain ⟨r,n⟩:=q
    have hn:=rf hr
    have hl:(d.drop a).length=d.length - a:=List.length_drop
    have h0:¬ ((n:Int)=0):=by omega
    have hc:acc.length+[r].length<=bf:=cA (by simp only[List.length_cons,List.length_nil];omega)
    have ew:ae ((a:Int)+(n:Int))=((a+n:Nat):Int):=by rw[aE (by omega)];omega
    simp only[h0,decide_false,cond_false,hc,if_true,ew]
    have:=ih (d.length - (a+n)) (by omega) (a+n) (acc++[r]) rfl (by omega) (by simp;omega) j (by omega)
    refine Eq.trans this ?_
    have sm:(d.drop a).drop n=d.drop (a+n):=by rw[List.drop_drop]
    have oA:(d.drop (a+n)).length=d.length - (a+n):=List.length_drop
    rw[sm,my m (d.length - (a+n)+1) (d.drop (a+n)) (by omega) (by omega)]
    simp only[List.append_assoc,List.cons_append,List.nil_append,Nat.add_assoc]
 have:=key d.length 0 [] rfl (by omega) (Nat.le_refl _) k (by omega)
 simp only[List.drop_zero,List.nil_append,Nat.zero_add] at this
 exact this
theorem qV (d:List UInt8) (hd:d.length<=1048576):cM.ab (d,())=some ((kJ d).1,((kJ d).2:Int),()):=by
 refine ag (k:=1048578) fun k hk=>(cM.aa k _).trans ?_
 have key:∀ (m a:Nat) (acc:List aM),d.length - a=m->a<=d.length->acc.length<=a->∀ j,m < j ->
   ak (fun self v=>cM.B0 k self (fun z=>cM.Q0 k (d,()) z) (d,()) v) j (acc,(a:Int))=some (acc++(dX (m+1) (d.drop a)).1,((a+(dX (m+1) (d.drop a)).2:Nat):Int),()):=by
  intro m
  induction m using Nat.strongRecOn with
  | ind m ih=>
  intro a acc hm ha R2 j hj
  cases j with
  | zero=>omega
  | succ j=>
   show cM.b0 _ _ (d,()) _=_
   unfold cM.b0
   by_cases ai:a < d.length
   rotate_left
   ·have h1:¬ (a:Int) < (d.length:Int):=by omega
    have Y:d.drop a=[]:=List.drop_of_length_le (by omega)
    simp only[h1,decide_false,cond_false,cM.Q0,cM.q0,Y,dX,Jt,List.append_nil,Nat.add_zero]
    try rfl
   have oc:(a:Int) < (d.length:Int):=by omega
   have dY:(0:Int)<=(a:Int)/\(a:Int)<=(d.length:Int):=by omega
   simp only[oc,decide_true,cond_true,dY,and_self,if_true,Int.toNat_natCast,List.take_length]
   rw[EC _ (by simp;omega)]
   simp only[Option.bind_some,dX]
   cases hr:kN (d.drop a) with
   | none=>
    have h5:¬ ((5:Int)=0):=by omega
    simp only[h5,decide_false,Bool.not_false,cond_true,List.append_nil,Nat.add_zero,cM.Q0,cM.q0];try rfl
   | some q=>
    obtain ⟨r,n⟩:=q
    have hn:=rf hr
    have hl:(d.drop a).length=d.length - a:=List.length_drop
    have hc:acc.length+[r].length<=bf:=cA (by simp only[List.length_cons,List.length_nil];omega)
    have ew:ae ((a:Int)+(n:Int))=((a+n:Nat):Int):=by rw[aE (by omega)];omega
    simp only[decide_true,Bool.not_true,cond_false,hc,if_true,ew]
    have:=ih (d.length - (a+n)) (by omega) (a+n) (acc++[r]) rfl (by omega) (by simp;omega) j (by omega)
    refine Eq.trans this ?_
    have sm:(d.drop a).drop n=d.drop (a+n):=by rw[List.drop_drop]
    have oA:(d.drop (a+n)).length=d.length - (a+n):=List.length_drop
    rw[sm,my m (d.length - (a+n)+1) (d.drop (a+n)) (by omega) (by omega)]
    simp only[List.append_assoc,List.cons_append,List.nil_append,Nat.add_assoc]
 have:=key d.length 0 [] rfl (by omega) (Nat.le_refl _) k (by omega)
 simp only[List.drop_zero,List.nil_append,Nat.zero_add] at this
 exact this
def DF (l:Log):Prop:=List.length l.1<=1048576/\List.length l.2.1<=1048576
def lq (d:List UInt8):Bool:=decide ((kJ d).2=d.length)
def no (l:Log):Int:=if 16000 < List.length l.1+List.length l.2.1 then 2 else if lq l.1&&lq l.2.1 then 0 else 5
theorem AN (d:List UInt8):decide (((kJ d).2:Int)=(d.length:Int))=lq d:=by
 unfold lq
 by_cases h:(kJ d).2=d.length
 ·simp[h]
 ·have:¬ ((kJ d).2:Int)=(d.length:Int):=by omega
  simp[h,this]
theorem ze (l:Log) (h:DF l):gt.ab (l,())=some (no l,()):=by
 refine ag (k:=0) fun k _=>(gt.aa k _).trans ?_
 show gt.p _=_
 unfold gt.p no
 obtain ⟨h1,Y⟩:=h
 have ew:ae ((List.length l.1:Int)+(List.length l.2.1:Int))=((List.length l.1+List.length l.2.1:Nat):Int):=by rw[aE (by omega)];omega
 simp only[ew,qV _ h1,qV _ Y,Option.bind_some,AN]
 by_cases hc:16000 < List.length l.1+List.length l.2.1
 ·have:(16000:Int) < ((List.length l.1+List.length l.2.1:Nat):Int):=by omega
  simp only[this,hc,decide_true,cond_true,if_true]
  try rfl
 ·have:¬ (16000:Int) < ((List.length l.1+List.length l.2.1:Nat):Int):=by omega
  simp only[this,hc,decide_false,cond_false,if_false]
  cases lq l.1 <;> cases lq l.2.1 <;> rfl
theorem size_eq (l:Log) (h:DF l):iZ.ab (l,())=some (((List.length l.1+List.length l.2.1:Nat):Int),()):=by
 refine ag (k:=0) fun k _=>(iZ.aa k _).trans ?_
 show iZ.p _=_
 unfold iZ.p
 obtain ⟨h1,Y⟩:=h
 have ew:ae ((List.length l.1:Int)+(List.length l.2.1:Int))=((List.length l.1+List.length l.2.1:Nat):Int):=by rw[aE (by omega)];omega
 rw[ew]
 try rfl
theorem zf (l:Log) (h:DF l):cv.ab (l,())=some (no l,()):=by
 refine ag (k:=5) fun k hk=>(cv.aa k _).trans ?_
 unfold cv.p no
 rw[size_eq l h]
 have hl:∀ x ∈ [l.1,l.2.1],List.length x<=1048576:=by
  intro x hx
  simp only[List.mem_cons,List.not_mem_nil,or_false] at hx
  rcases hx with e | e <;> subst e
  ·exact h.1
  ·exact h.2
 have:=bH (B:=fun self v=>cv.B0 0 self (fun z=>cv.Q0 0 (l,()) z) (l,()) v) [l.1,l.2.1] (fun (_:Unit) (i:Int)=>i) (fun _ _ x=>if lq x then .inr () else .inl (5,())) (fun _=>(0,())) (fun _ _=>True) (by rw[ah];simp)
  (fun i hi s self hI=>by
   show cv.b0 _ _ _ _=_
   unfold cv.b0
   have ai:(i:Int) < ([l.1,l.2.1].length:Int):=by omega
   have dY:(0:Int)<=(i:Int)/\(i:Int) < ([l.1,l.2.1].length:Int):=by omega
   simp only[ai,dY,and_self,decide_true,cond_true,if_true,Int.toNat_natCast,List.getElem?_eq_getElem hi,Option.bind_some]
   have hx:=hl [l.1,l.2.1][i] (List.getElem_mem hi)
   generalize [l.1,l.2.1][i]=x at hx
   rw[qU x hx]
   simp only[Option.bind_some,AN]
   cases lq x <;> rfl)
  (fun _ _ _ _ _ _=>trivial) (fun s self _=>by
   show cv.b0 _ _ _ _=_
   unfold cv.b0
   simp[cv.Q0,cv.q0]) () trivial k (by simp only[List.length_cons,List.length_nil];omega)
 rw[kY lq (5,()) (fun _=>(0,()))] at this
 have this:cv.r0 k (l,()) 0=_:=this
 simp only[Option.bind_some,this]
 by_cases hc:16000 < List.length l.1+List.length l.2.1
 ·have:(16000:Int) < ((List.length l.1+List.length l.2.1:Nat):Int):=by omega
  simp only[this,hc,decide_true,cond_true,if_true]
 ·have:¬ (16000:Int) < ((List.length l.1+List.length l.2.1:Nat):Int):=by omega
  simp only[this,hc,decide_false,cond_false,if_false,List.all_cons,List.all_nil,Bool.and_true]
  cases lq l.1 <;> cases lq l.2.1 <;> rfl
end OT
set_option linter.unusedVariables false
set_option linter.unusedSimpArgs false
namespace OT
open Go
theorem Hk:fu.ab ((0:UInt8),())=some (uj,()):=by
 refine ag (k:=66) fun k hk=>(fu.aa k _).trans ?_
 unfold fu.p
 have:=bH (B:=fun self v=>fu.B0 0 self (fun z=>fu.Q0 0 ((0:UInt8),()) z) ((0:UInt8),()) v) (List.replicate 64 (0:UInt8)) (fun (s:List UInt8) (i:Int)=>(s,i)) (fun _ s _=>.inr s) (fun s=>(uj,())) (fun _ s=>s=List.replicate 64 (0:UInt8)) (by rw[ah];simp)
  (fun i hi s self hI=>by
   show fu.b0 _ _ _ _=_
   unfold fu.b0
   subst hI
   simp only[List.length_replicate] at hi ⊢
   have ai:(i:Int) < ((64:Nat):Int):=by omega
   have dY:(0:Int)<=(i:Int)/\(i:Int) < ((64:Nat):Int):=by omega
   have hg:(List.replicate 64 (0:UInt8))[i]?=some 0:=(List.getElem?_replicate (n:=64) (i:=i) (a:=(0:UInt8))).trans (if_pos hi)
   have hs:(List.replicate 64 (0:UInt8)).set i 0=List.replicate 64 (0:UInt8):=List.set_replicate_self
   simp only[ai,dY,and_self,decide_true,cond_true,if_true,Int.toNat_natCast,hg,Option.bind_some,hs])
  (fun i hi s s' hI hs=>by injection hs with hs;rw[<-hs,hI]) (fun s self hI=>by
   show fu.b0 _ _ _ _=_
   unfold fu.b0
   subst hI
   simp only[List.length_replicate,Int.lt_irrefl,decide_false,cond_false]
   rfl) (List.replicate 64 (0:UInt8)) rfl k (by simp;omega)
 rw[eA (g:=fun s _=>s)] at this
 have hc:(0:Int)<=64/\(64:Int)<=64/\(64:Int)<=(bf:Int):=⟨by omega,by omega,by simp only[bf];omega⟩
 rw[if_pos hc]
 exact this
theorem Hl:gF.ab ((0:UInt8),())=some (uj,()):=by
 refine ag (k:=66) fun k hk=>(gF.aa k _).trans ?_
 unfold gF.p
 have:=bH (B:=fun self v=>gF.B0 0 self (fun z=>gF.Q0 0 ((0:UInt8),()) z) ((0:UInt8),()) v) (List.replicate 64 (0:UInt8)) (fun (s:List UInt8) (i:Int)=>(s,i)) (fun _ s _=>.inr s) (fun s=>(uj,())) (fun _ s=>s=List.replicate 64 (0:UInt8)) (by rw[ah];simp)
  (fun i hi s self hI=>by
   show gF.b0 _ _ _ _=_
   unfold gF.b0
   subst hI
   simp only[List.length_replicate] at hi ⊢
   have ai:(i:Int) < (64:Int):=by omega
   have dY:(0:Int)<=(i:Int)/\(i:Int) < ((64:Nat):Int):=by omega
   have hg:(List.replicate 64 (0:UInt8))[i]?=some 0:=(List.getElem?_replicate (n:=64) (i:=i) (a:=(0:UInt8))).trans (if_pos hi)
   have hs:(List.replicate 64 (0:UInt8)).set i 0=List.replicate 64 (0:UInt8):=List.set_replicate_self
   simp only[ai,dY,and_self,decide_true,cond_true,if_true,Int.toNat_natCast,hg,Option.bind_some,hs])
  (fun i hi s s' hI hs=>by injection hs with hs;rw[<-hs,hI]) (fun s self hI=>by
   show gF.b0 _ _ _ _=_
   unfold gF.b0
   subst hI
   have:¬ (((64:Nat):Int) < 64):=by omega
   simp only[List.length_replicate,this,decide_false,cond_false]
   rfl) (List.replicate 64 (0:UInt8)) rfl k (by simp;omega)
 rw[eA (g:=fun s _=>s)] at this
 have hc:(0:Int)<=64/\(64:Int)<=64/\(64:Int)<=(bf:Int):=⟨by omega,by omega,by simp only[bf];omega⟩
 rw[if_pos hc]
 exact this
end OT
set_option linter.unusedVariables false
set_option linter.unusedSimpArgs false
namespace OT
open Go
def Hm (p:List UInt8) (r:cP):List UInt8:=lu p r.1.toNat (min (List.length r.2.1) (p.length - r.1.toNat)) r.2.1
def zg (p:List UInt8) (rs:List cP):List UInt8:=rs.foldl Hm p
theorem xD {p:List UInt8} {r:cP} (h:r.1.toNat<=p.length):(Hm p r).length=p.length:=wK _ _ (by omega) (by omega)
theorem zh:∀ (rs:List cP) (p:List UInt8),p.length=64->(∀ r ∈ rs,0<=r.1/\r.1<=63)->(zg p rs).length=64
 | [],p,h,_=>h
 | r::rs,p,h,hr=>by
  have:=hr r (by simp)
  exact zh rs _ (by rw[xD (by omega)];exact h) (fun x hx=>hr x (by simp[hx]))
theorem zZ (p:List UInt8) (rs:List cP) (hp:p.length=64) (hl:rs.length<=64) (hr:∀ r ∈ rs,0<=r.1/\r.1<=63):eO.ab (p,rs,())=some (zg p rs,()):=by
 refine ag (k:=66) fun k hk=>(eO.aa k _).trans ?_
 unfold eO.p
 rw[nY _ (by show p.length<=_;omega)]
 have:=bH (B:=fun self v=>eO.B0 0 self (fun z=>eO.Q0 0 (p,rs,()) z) (p,rs,()) v) rs (fun (s:List UInt8) (i:Int)=>(s,i)) (fun _ s r=>.inr (Hm s r)) (fun s=>(s,())) (fun _ s=>s.length=64) (by rw[ah];omega)
  (fun i hi s self hI=>by
   show eO.b0 _ _ _ _=_
   unfold eO.b0
   have ai:(i:Int) < (rs.length:Int):=by omega
   have hx:=hr rs[i] (List.getElem_mem hi)
   have dY:(0:Int)<=(rs[i]).1/\(rs[i]).1<=(s.length:Int):=by omega
   simp only[ai,decide_true,cond_true,Int.natCast_nonneg,if_true,Int.toNat_natCast,List.getElem?_eq_getElem hi,Option.bind_some,dY,and_self]
   rfl)
  (fun i hi s s' hI hs=>by
   injection hs with hs
   have hx:=hr rs[i] (List.getElem_mem hi)
   rw[<-hs,xD (by omega)];exact hI) (fun s self hI=>by
   show eO.b0 _ _ _ _=_
   unfold eO.b0
   simp only[Int.lt_irrefl,decide_false,cond_false]
   rfl) p hp k (by omega)
 rw[eA] at this
 exact this
theorem z6 (p:List UInt8) (rs:List cP) (hp:p.length=64) (hl:rs.length<=64) (hr:∀ r ∈ rs,0<=r.1/\r.1<=63):eL.ab (p,rs,())=some (zg p rs,()):=by
 refine ag (k:=66) fun k hk=>(eL.aa k _).trans ?_
 unfold eL.p
 rw[nS _ (by show p.length<=_;omega)]
 have:=bH (B:=fun self v=>eL.B0 0 self (fun z=>eL.Q0 0 (p,rs,()) z) (p,rs,()) v) rs (fun (s:List UInt8) (i:Int)=>(s,i)) (fun _ s r=>.inr (Hm s r)) (fun s=>(s,())) (fun _ s=>s.length=64) (by rw[ah];omega)
  (fun i hi s self hI=>by
   show eL.b0 _ _ _ _=_
   unfold eL.b0
   have ai:(i:Int) < (rs.length:Int):=by omega
   have hx:=hr rs[i] (List.getElem_mem hi)
   have dY:(0:Int)<=(rs[i]).1/\(rs[i]).1<=(s.length:Int):=by omega
   simp only[ai,decide_true,cond_true,Int.natCast_nonneg,if_true,Int.toNat_natCast,List.getElem?_eq_getElem hi,Option.bind_some,dY,and_self]
   rfl)
  (fun i hi s s' hI hs=>by
   injection hs with hs
   have hx:=hr rs[i] (List.getElem_mem hi)
   rw[<-hs,xD (by omega)];exact hI) (fun s self hI=>by
   show eL.b0 _ _ _ _=_
   unfold eL.b0
   simp only[Int.lt_irrefl,decide_false,cond_false]
   rfl) p hp k (by omega)
 rw[eA] at this
 exact this
theorem KY (ps:gj) (h:ps.length<=12):fH.ab (ps,())=some (ps,()):=by
 refine ag (k:=0) fun k _=>(fH.aa k _).trans ?_
 show fH.p _=_
 unfold fH.p
 refine Fo (fun e=>by rw[show ps=[] from e]) ?_
 have:([]:List (List UInt8)).length+ps.length<=bf:=cA (by simp only[List.length_nil];omega)
 rw[if_pos this,List.nil_append]
def xE (q:gj) (r:aM):gj:=q.set r.2.2.1.toNat (zg (q.getD r.2.2.1.toNat []) r.2.2.2.1)
def jd (ps:gj) (r:aM):Sum Int gj:=
 if ml r=0 then (if ct r.1 2 4 then (if (ps.length:Int) < r.2.2.1 then .inl 1 else .inr (xE (if r.2.2.1=(ps.length:Int) then ps++[uj] else ps) r)) else .inr ps) else .inl (ml r)
theorem wd {ps:gj} {r:aM} {c:Int} (h:jd ps r=.inl c):c≠0:=by
 unfold jd at h
 split at h
 ·split at h
  ·split at h
   ·injection h with h;subst h;decide
   ·cases h
  ·cases h
 ·rename_i hr
  injection h with h;subst h;exact hr
theorem AP {q:gj} {r:aM} (hq:gp q) (hr:ml r=0) (hp:r.2.2.1.toNat < q.length):gp (xE q r):=by
 have hg:=oM hr
 refine ⟨by simp[xE];exact hq.1,fun p hm=>?_⟩
 rcases List.mem_or_eq_of_mem_set hm with h | h
 ·exact hq.2 p h
 ·subst h
  have hx:q.getD r.2.2.1.toNat []=q[r.2.2.1.toNat]:=by simp[hp]
  rw[hx]
  exact zh _ _ (hq.2 _ (List.getElem_mem hp)) (fun x hx=>by have:=hg.2.2.2.2.2.2.2 x hx;omega)
theorem uE {ps mz:gj} {r:aM} (hp:gp ps) (h:jd ps r=.inr mz):gp mz:=by
 unfold jd at h
 split at h
 ·rename_i hr
  have hg:=oM hr
  split at h
  ·split at h
   ·cases h
   ·rename_i hl
    injection h with h
    subst h
    split
    ·rename_i he
     refine AP ⟨by simp;omega,fun p hm=>?_⟩ hr (by simp;omega)
     rcases List.mem_append.1 hm with hm | hm
     ·exact hp.2 p hm
     ·simp only[List.mem_singleton] at hm;subst hm;exact xv
    ·rename_i he
     exact AP hp hr (by omega)
  ·injection h with h;subst h;exact hp
 ·cases h
theorem zi (ps:gj) (r:aM) (hp:gp ps) (hr:ml r=0):gW.ab (ps,r,())=some (match jd ps r with | .inl c=>(([]:gj),c,()) | .inr mz=>(mz,(0:Int),())):=by
 refine ag (k:=0) fun k _=>(gW.aa k _).trans ?_
 show gW.p _=_
 have hg:=oM hr
 unfold gW.p jd
 simp only[Dz,hr,if_true,Option.bind_some]
 cases ht:ct r.1 2 4 with
 | false=>rfl
 | true=>
  simp only[Bool.not_true,cond_false,if_true]
  by_cases hl:(ps.length:Int) < r.2.2.1
  ·simp only[hl,decide_true,cond_true,if_true]
  have BY:¬ r.2.2.1=12:=by omega
  simp only[hl,BY,decide_false,cond_false,if_false,KY ps hp.1,Option.bind_some]
  have key:∀ q:gj,gp q->r.2.2.1.toNat < q.length->(if 0<=r.2.2.1/\r.2.2.1 < (q.length:Int) then ((q[r.2.2.1.toNat]?).bind fun Oy=>(eO.ab (Oy,r.2.2.2.1,())).bind fun Ay=>if 0<=r.2.2.1/\r.2.2.1 < (q.length:Int) then ((q[r.2.2.1.toNat]?).bind fun TN=>some (q.set r.2.2.1.toNat Ay.1,(0:Int),())) else none) else none:Option gW.Out)=some (xE q r,(0:Int),()):=fun q hq ai=>by
   have hc:0<=r.2.2.1/\r.2.2.1 < (q.length:Int):=by omega
   simp only[hc,and_self,if_true,List.getElem?_eq_getElem ai,Option.bind_some]
   rw[zZ _ _ (hq.2 _ (List.getElem_mem ai)) hg.2.2.2.2.2.2.1 (fun x hx=>by have:=hg.2.2.2.2.2.2.2 x hx;omega)]
   have hx:q.getD r.2.2.1.toNat []=q[r.2.2.1.toNat]:=by simp[ai]
   unfold xE
   rw[hx]
   rfl
  by_cases he:r.2.2.1=(ps.length:Int)
  ·have yD:ps.length+[uj].length<=bf:=cA (by have:=hp.1;simp only[List.length_cons,List.length_nil];omega)
   rw[if_pos he]
   simp only[he,decide_true,cond_true,Hk,Option.bind_some,yD,if_true]
   rw[<-he]
   refine key _ ⟨by simp;omega,fun p hm=>?_⟩ (by simp;omega)
   rcases List.mem_append.1 hm with hm | hm
   ·exact hp.2 p hm
   ·simp only[List.mem_singleton] at hm;subst hm;exact xv
  ·rw[if_neg he]
   simp only[he,decide_false,cond_false]
   exact key ps hp (by omega)
theorem ED (c:Int):jv.ab (c,())=some ((c,([]:List cP),([]:List (List UInt8)),()),()):=by
 refine ag (k:=0) fun k _=>(jv.aa k _).trans ?_
 rfl
theorem Bg (ps:gj) (r:aM) (hp:gp ps):bT.ab (ps,r,())=some (match jd ps r with | .inl c=>((c,([]:List cP),([]:gj),()),()) | .inr mz=>(((0:Int),([]:List cP),mz,()),())):=by
 refine ag (k:=14) fun k hk=>(bT.aa k _).trans ?_
 unfold bT.p
 have BY:¬ (12:Int) < (ps.length:Int):=by have:=hp.1;omega
 simp only[BY,decide_false,cond_false]
 have main:bT.Q0 0 (ps,r,()) ()=some (match jd ps r with | .inl c=>((c,([]:List cP),([]:gj),()),()) | .inr mz=>(((0:Int),([]:List cP),mz,()),())):=by
  show bT.q0 _ _=_
  unfold bT.q0 jd
  simp only[za,ED,Bd ps hp,v_,Option.bind_some]
  by_cases hr:ml r=0
  rotate_left
  ·simp only[hr,decide_false,Bool.not_false,cond_true,if_false]
  have hg:=oM hr
  simp only[hr,decide_true,Bool.not_true,cond_false,if_true]
  cases ht:ct r.1 2 4 with
  | false=>rfl
  | true=>
   simp only[Bool.not_true,cond_false,if_true]
   by_cases hl:(ps.length:Int) < r.2.2.1
   ·simp only[hl,decide_true,cond_true,if_true]
   have BY:¬ r.2.2.1=12:=by omega
   simp only[hl,BY,decide_false,cond_false,if_false]
   have key:∀ q:gj,gp q->r.2.2.1.toNat < q.length->(if 0<=r.2.2.1/\r.2.2.1 < (q.length:Int) then ((q[r.2.2.1.toNat]?).bind fun zR=>(q[r.2.2.1.toNat]?).bind fun Kl=>(eL.ab (Kl,r.2.2.2.1,())).bind fun Km=>if 0<=r.2.2.1/\r.2.2.1 < (q.length:Int) then ((q[r.2.2.1.toNat]?).bind fun RF=>some (((0:Int),([]:List cP),q.set r.2.2.1.toNat Km.1,()),())) else none) else none:Option bT.Out)=some (((0:Int),([]:List cP),xE q r,()),()):=fun q hq ai=>by
    have hc:0<=r.2.2.1/\r.2.2.1 < (q.length:Int):=by omega
    simp only[hc,and_self,if_true,List.getElem?_eq_getElem ai,Option.bind_some]
    rw[z6 _ _ (hq.2 _ (List.getElem_mem ai)) hg.2.2.2.2.2.2.1 (fun x hx=>by have:=hg.2.2.2.2.2.2.2 x hx;omega)]
    have hx:q.getD r.2.2.1.toNat []=q[r.2.2.1.toNat]:=by simp[ai]
    unfold xE
    rw[hx]
    rfl
   by_cases he:r.2.2.1=(ps.length:Int)
   ·have yD:ps.length+[uj].length<=bf:=cA (by have:=hp.1;simp only[List.length_cons,List.length_nil];omega)
    rw[if_pos he]
    simp only[he,decide_true,cond_true,Hl,Option.bind_some,yD,if_true]
    rw[<-he]
    refine key _ ⟨by simp;omega,fun p hm=>?_⟩ (by simp;omega)
    rcases List.mem_append.1 hm with hm | hm
    ·exact hp.2 p hm
    ·simp only[List.mem_singleton] at hm;subst hm;exact xv
   ·rw[if_neg he]
    simp only[he,decide_false,cond_false]
    exact key ps hp (by omega)
 have:=bH (B:=fun self v=>bT.B0 0 self (fun z=>bT.Q0 0 (ps,r,()) z) (ps,r,()) v) ps (fun (s:Unit) (i:Int)=>i) (fun _ s x=>.inr s) (fun s=>(match jd ps r with | .inl c=>((c,([]:List cP),([]:gj),()),()) | .inr mz=>(((0:Int),([]:List cP),mz,()),()))) (fun i s=>True) (by have:=hp.1;rw[ah];omega)
  (fun i hi s self hI=>by
   show bT.b0 _ _ _ _=_
   unfold bT.b0
   have ai:(i:Int) < (ps.length:Int):=by omega
   have hx:((ps[i].length:Nat):Int)=64:=by have:=hp.2 ps[i] (List.getElem_mem hi);omega
   simp only[ai,decide_true,cond_true,Int.natCast_nonneg,if_true,Int.toNat_natCast,List.getElem?_eq_getElem hi,Option.bind_some,hx,Bool.not_true,cond_false])
  (fun _ _ _ _ _ _=>trivial) (fun s self hI=>by
   show bT.b0 _ _ _ _=_
   unfold bT.b0
   simp only[Int.lt_irrefl,decide_false,cond_false]
   exact main) () trivial k (by have:=hp.1;omega)
 rw[eA (g:=fun s _=>s)] at this
 exact this
def n8 (xs:List aM):gj×Int×Unit:=aW (fun _ ps r=>match jd ps r with | .inl c=>.inl (([]:gj),c,()) | .inr mz=>.inr mz) (fun ps=>(ps,(0:Int),())) 0 xs []
theorem zj (xs:List aM):(n8 xs).2.1=0->gp (n8 xs).1:=by
 have main:∀ (xs:List aM) (i:Nat) (ps:gj),gp ps->(aW (fun _ ps r=>match jd ps r with | .inl c=>.inl (([]:gj),c,()) | .inr mz=>.inr mz) (fun ps=>(ps,(0:Int),())) i xs ps).2.1=0->gp (aW (fun _ ps r=>match jd ps r with | .inl c=>.inl (([]:gj),c,()) | .inr mz=>.inr mz) (fun ps=>(ps,(0:Int),())) i xs ps).1:=by
  intro xs
  induction xs with
  | nil=>intro i ps h _;exact h
  | cons x xs ih=>
   intro i ps h
   simp only[aW]
   cases hs:jd ps x with
   | inl c=>intro h0;exact absurd h0 (wd hs)
   | inr mz=>exact ih _ _ (uE h hs)
 exact main xs 0 [] ⟨by simp,fun _ h=>by cases h⟩
theorem EE (xs:List aM) (hx:xs.length<=maxLen):fS.ab (xs,())=some (n8 xs):=by
 refine ag (k:=xs.length+1) fun k hk=>(fS.aa k _).trans ?_
 exact bH (B:=fun self v=>fS.B0 0 self (fun z=>fS.Q0 0 (xs,()) z) (xs,()) v) xs (fun (s:gj) (i:Int)=>(s,i)) (fun _ ps r=>match jd ps r with | .inl c=>.inl (([]:gj),c,()) | .inr mz=>.inr mz) (fun ps=>(ps,(0:Int),())) (fun _ s=>gp s) hx
  (fun i hi s self hI=>by
   show fS.b0 _ _ _ _=_
   unfold fS.b0
   have ai:(i:Int) < (xs.length:Int):=by omega
   simp only[ai,decide_true,cond_true,Int.natCast_nonneg,if_true,Int.toNat_natCast,List.getElem?_eq_getElem hi,Option.bind_some,Bg s _ hI]
   cases hs:jd s xs[i] with
   | inl c=>
    have:=wd hs
    simp only[this,decide_false,Bool.not_false,cond_true]
   | inr mz=>simp only[decide_true,Bool.not_true,cond_false])
  (fun i hi s s' hI hs=>by
   cases h:jd s xs[i] with
   | inl c=>rw[h] at hs;cases hs
   | inr mz=>rw[h] at hs;injection hs with hs;subst hs;exact uE hI h) (fun s self hI=>by
   show fS.b0 _ _ _ _=_
   unfold fS.b0
   simp only[Int.lt_irrefl,decide_false,cond_false]
   rfl) [] ⟨by simp,fun _ h=>by cases h⟩ k (by omega)
theorem EF (xs:List aM) (hx:xs.length<=maxLen):i7.ab (xs,())=some (n8 xs):=by
 refine ag (k:=xs.length+1) fun k hk=>(i7.aa k _).trans ?_
 exact bH (B:=fun self v=>i7.B0 0 self (fun z=>i7.Q0 0 (xs,()) z) (xs,()) v) xs (fun (s:gj) (i:Int)=>(s,i)) (fun _ ps r=>match jd ps r with | .inl c=>.inl (([]:gj),c,()) | .inr mz=>.inr mz) (fun ps=>(ps,(0:Int),())) (fun _ s=>gp s) hx
  (fun i hi s self hI=>by
   show i7.b0 _ _ _ _=_
   unfold i7.b0
   have ai:(i:Int) < (xs.length:Int):=by omega
   simp only[ai,decide_true,cond_true,Int.natCast_nonneg,if_true,Int.toNat_natCast,List.getElem?_eq_getElem hi,Option.bind_some,zb]
   by_cases hr:ml xs[i]=0
   ·simp only[hr,decide_true,Bool.not_true,cond_false,zi s _ hI hr,Option.bind_some]
    cases hs:jd s xs[i] with
    | inl c=>
     have:=wd hs
     simp only[this,decide_false,Bool.not_false,cond_true]
    | inr mz=>simp only[decide_true,Bool.not_true,cond_false]
   ·have hs:jd s xs[i]=.inl (ml xs[i]):=by unfold jd;rw[if_neg hr]
    simp only[hr,decide_false,Bool.not_false,cond_true,hs])
  (fun i hi s s' hI hs=>by
   cases h:jd s xs[i] with
   | inl c=>rw[h] at hs;cases hs
   | inr mz=>rw[h] at hs;injection hs with hs;subst hs;exact uE hI h) (fun s self hI=>by
   show i7.b0 _ _ _ _=_
   unfold i7.b0
   simp only[Int.lt_irrefl,decide_false,cond_false]
   rfl) [] ⟨by simp,fun _ h=>by cases h⟩ k (by omega)
end OT
set_option linter.unusedVariables false
set_option linter.unusedSimpArgs false
namespace OT
open Go
def pw (x:Tx):Int:=if su x=0 then mw x else su x
theorem AQ {α:Type} (c:Nat->α->Int):∀ (xs:List α) (i:Nat),aW (fun i (_:Unit) y=>if c i y=0 then .inr () else .inl (c i y,())) (fun _=>((0:Int),())) i xs ()=(aW (fun i (_:Unit) y=>if c i y=0 then .inr () else .inl (c i y)) (fun _=>(0:Int)) i xs (),())
 | [],_=>rfl
 | y::ys,i=>by simp only[aW];by_cases h0:c i y=0 <;> simp[h0,AQ c ys (i+1)]
theorem qW {α:Type} (c:Nat->α->Int) (E:Option (Int×Unit)):∀ (xs:List α) (i:Nat),aW (fun i (_:Unit) y=>if c i y=0 then .inr () else .inl (some (c i y,()))) (fun _=>E) i xs () =
  if aW (fun i (_:Unit) y=>if c i y=0 then .inr () else .inl (c i y)) (fun _=>(0:Int)) i xs ()=0 then E else some (aW (fun i (_:Unit) y=>if c i y=0 then .inr () else .inl (c i y)) (fun _=>(0:Int)) i xs (),())
 | [],_=>rfl
 | y::ys,i=>by simp only[aW];by_cases h0:c i y=0 <;> simp[h0,qW c E ys (i+1)]
theorem wT {α:Type} (c:α->Int):∀ (xs:List α) (i:Nat),aW (fun _ (_:Unit) y=>if c y=0 then .inr () else .inl (c y)) (fun _=>(0:Int)) i xs ()=ip c xs
 | [],_=>rfl
 | y::ys,i=>by simp only[aW,ip];by_cases h0:c y=0 <;> simp[h0,wT c ys (i+1)]
theorem Hn (x:Tx) (h:tl x):bj.ab (x,())=some (pw x,()):=by
 obtain ⟨h1,Y,h3,h4⟩:=h
 refine ag (k:=1048577) fun k hk=>(bj.aa k _).trans ?_
 have Ho:List.length x.2.2.2.1<=12->bj.r2 k (x,()) (0:Int)=some (pe x.2.2.2.1,()):=fun hl=>by
  have:=bH (B:=fun self v=>bj.B2 k self (fun z=>bj.Q2 k (x,()) z) (x,()) v) x.2.2.2.1 (fun (_:Unit) (i:Int)=>i) (fun i _ y=>if j9 x.2.2.2.1 i y=0 then .inr () else .inl (j9 x.2.2.2.1 i y,())) (fun _=>(0,())) (fun _ _=>True) (by rw[ah];omega)
   (fun i hi s self _=>by
    show bj.b2 _ _ _ _=_
    unfold bj.b2 j9
    have ai:(i:Int) < (List.length x.2.2.2.1:Int):=by omega
    have dY:(0:Int)<=(i:Int)/\(i:Int)<=(List.length x.2.2.2.1:Int):=by omega
    simp only[ai,dY,and_self,decide_true,cond_true,Int.natCast_nonneg,if_true,Int.toNat_natCast,List.getElem?_eq_getElem hi,Option.bind_some,KD,List.drop_zero]
    rw[contains_eq _ _ (by rw[ah];simp;omega)]
    cases pT (x.2.2.2.1)[i] <;> cases dp (x.2.2.2.1.take i) (x.2.2.2.1)[i] <;> rfl)
   (fun _ _ _ _ _ _=>trivial) (fun s self _=>by
    show bj.b2 _ _ _ _=_
    unfold bj.b2
    simp only[Int.lt_irrefl,decide_false,cond_false]
    rfl) () trivial k (by omega)
  rw[AQ (j9 x.2.2.2.1)] at this
  exact this
 have second:List.length x.2.2.1<=8->List.length x.2.2.2.1<=12->bj.r1 k (x,()) ((0:Int),(0:Int))=some (if yR (List.length x.2.1:Int) 0 x.2.2.1 then pe x.2.2.2.1 else 3,()):=fun hm hl=>by
  have:=bK (B:=fun self v=>bj.B1 k self (fun z=>bj.Q1 k (x,()) z) (x,()) v) x.2.2.1 (fun (last:Int) (i:Int)=>(last,i)) (fun _ last m=>if ct m last (List.length x.2.1:Int) then .inr m else .inl (some ((3:Int),()))) (fun _=>some (pe x.2.2.2.1,())) (fun _ _=>True) (by rw[ah];omega)
   (fun i hi last self _=>by
    show bj.b1 _ _ _ _=_
    unfold bj.b1
    have ai:(i:Int) < (List.length x.2.2.1:Int):=by omega
    simp only[ai,decide_true,cond_true,Int.natCast_nonneg,if_true,Int.toNat_natCast,List.getElem?_eq_getElem hi,Option.bind_some,lk]
    show (bif !ct (x.2.2.1)[i] last (List.length x.2.1:Int) then _ else _)=_
    cases ct (x.2.2.1)[i] last (List.length x.2.1:Int) <;> rfl)
   (fun _ _ _ _ _ _=>trivial) (fun last self _=>by
    show bj.b1 _ _ _ _=_
    unfold bj.b1
    simp only[Int.lt_irrefl,decide_false,cond_false]
    exact Ho hl) 0 trivial k (by omega)
  rw[Dh] at this
  refine Eq.trans this ?_
  unfold yR
  cases aW (fun _ last m=>if ct m last (List.length x.2.1:Int) then .inr m else .inl false) (fun _=>true) 0 x.2.2.1 0 <;> rfl
 have after:bj.Q0 k (x,()) ()=some (mw x,()):=by
  show bj.q0 _ _ _=_
  unfold bj.q0 mw
  by_cases hm:8 < List.length x.2.2.1
  ·have:(8:Int) < (List.length x.2.2.1:Int):=by omega
   simp only[this,hm,decide_true,cond_true,Bool.true_or,if_true]
   try rfl
  have wO:¬ (8:Int) < (List.length x.2.2.1:Int):=by omega
  by_cases gD:12 < List.length x.2.2.2.1
  ·have:(12:Int) < (List.length x.2.2.2.1:Int):=by omega
   simp only[this,hm,wO,gD,decide_true,decide_false,cond_true,cond_false,Bool.false_or,if_true]
   try rfl
  have rJ:¬ (12:Int) < (List.length x.2.2.2.1:Int):=by omega
  simp only[hm,wO,rJ,gD,decide_false,cond_false,Bool.or_self,Bool.false_eq_true,if_false]
  exact second (by omega) (by omega)
 have:=bK (B:=fun self v=>bj.B0 k self (fun z=>bj.Q0 k (x,()) z) (x,()) v) x.2.1 (fun (_:Unit) (i:Int)=>i) (fun _ _ c=>if pU x.2.2.2.1 c=0 then .inr () else .inl (some (pU x.2.2.2.1 c,()))) (fun _=>some (mw x,())) (fun _ _=>True) (by rw[ah];omega)
  (fun i hi s self _=>by
   show bj.b0 _ _ _ _=_
   unfold bj.b0
   have ai:(i:Int) < (List.length x.2.1:Int):=by omega
   simp only[ai,decide_true,cond_true,Int.natCast_nonneg,if_true,Int.toNat_natCast,List.getElem?_eq_getElem hi,Option.bind_some,IY _ (h4 _ (List.getElem_mem hi)),MW]
   rw[contains_eq _ _ (by rw[ah];omega)]
   unfold pU
   by_cases hc:yM (x.2.1)[i]=0
   ·simp only[hc,decide_true,Bool.not_true,cond_false,if_true,Option.bind_some]
    cases dp x.2.2.2.1 (tg (x.2.1)[i]) <;> rfl
   ·simp only[hc,decide_false,Bool.not_false,cond_true,if_false])
  (fun _ _ _ _ _ _=>trivial) (fun s self _=>by
   show bj.b0 _ _ _ _=_
   unfold bj.b0
   simp only[Int.lt_irrefl,decide_false,cond_false]
   exact after) () trivial k (by omega)
 rw[qW (fun _=>pU x.2.2.2.1),wT] at this
 refine Eq.trans this ?_
 unfold pw su
 split <;> rfl
def j_ (xs:List Tx) (k:Key):Int:=match xs with
 | []=>0
 | x::xs=>if dp x.2.2.2.1 k then x.1 else j_ xs k
def wU (xs:List Tx):Prop:=xs.length<=1048576/\∀ x ∈ xs,tl x
theorem AS (k:Key):∀ (xs:List Tx) (i:Nat),aW (fun _ (_:Unit) x=>if dp x.2.2.2.1 k then .inl (x.1,()) else .inr ()) (fun _=>((0:Int),())) i xs ()=(j_ xs k,())
 | [],_=>rfl
 | x::xs,i=>by simp only[aW,j_];cases dp x.2.2.2.1 k <;> simp[AS k xs (i+1)]
theorem KZ {x:Tx} (h:tl x):List.length x.2.2.2.1<=maxLen:=by rw[ah];have:=h.2.2.1;omega
theorem EG (xs:List Tx) (k0:Key) (h:wU xs):fR.ab (xs,k0,())=some (j_ xs k0,()):=by
 obtain ⟨h1,Y⟩:=h
 refine ag (k:=xs.length+1) fun k hk=>(fR.aa k _).trans ?_
 have:=bH (B:=fun self v=>fR.B0 0 self (fun z=>fR.Q0 0 (xs,k0,()) z) (xs,k0,()) v) xs (fun (_:Unit) (i:Int)=>i) (fun _ _ x=>if dp x.2.2.2.1 k0 then .inl (x.1,()) else .inr ()) (fun _=>(0,())) (fun _ _=>True) (by rw[ah];omega)
  (fun i hi s self _=>by
   show fR.b0 _ _ _ _=_
   unfold fR.b0
   have ai:(i:Int) < (xs.length:Int):=by omega
   simp only[ai,decide_true,cond_true,Int.natCast_nonneg,if_true,Int.toNat_natCast,List.getElem?_eq_getElem hi,Option.bind_some,Dg _ _ (KZ (Y _ (List.getElem_mem hi)))]
   cases dp (xs[i]).2.2.2.1 k0 <;> rfl)
  (fun _ _ _ _ _ _=>trivial) (fun s self _=>by
   show fR.b0 _ _ _ _=_
   unfold fR.b0
   simp only[Int.lt_irrefl,decide_false,cond_false]
   rfl) () trivial k (by omega)
 rw[AS] at this
 exact this
def qv (xs:List Tx):Int:=xs.foldl (fun n x=>n+(List.length x.2.1:Int)) 0
theorem DG (xs:List Tx) (h:wU xs):ff.ab (xs,())=some (qv xs,()):=by
 obtain ⟨h1,Y⟩:=h
 refine ag (k:=xs.length+1) fun k hk=>(ff.aa k _).trans ?_
 have:=bH (B:=fun self v=>ff.B0 0 self (fun z=>ff.Q0 0 (xs,()) z) (xs,()) v) xs (fun (n:Int) (i:Int)=>(n,i)) (fun _ n x=>.inr (n+(List.length x.2.1:Int))) (fun n=>(n,())) (fun i n=>0<=n/\n<=1048576*(i:Int)) (by rw[ah];omega)
  (fun i hi n self hI=>by
   show ff.b0 _ _ _ _=_
   unfold ff.b0
   have ai:(i:Int) < (xs.length:Int):=by omega
   have hx:=(Y _ (List.getElem_mem hi)).1
   simp only[ai,decide_true,cond_true,Int.natCast_nonneg,if_true,Int.toNat_natCast,List.getElem?_eq_getElem hi,Option.bind_some]
   rw[aE (n:=n+_) (by omega)])
  (fun i hi n n' hI hs=>by
   injection hs with hs
   have hx:=(Y _ (List.getElem_mem hi)).1
   omega) (fun s self _=>by
   show ff.b0 _ _ _ _=_
   unfold ff.b0
   simp only[Int.lt_irrefl,decide_false,cond_false]
   rfl) 0 (by omega) k (by omega)
 rw[eA] at this
 exact this
theorem DH (xs:List Tx) (h:wU xs):gC.ab (xs,())=some (qv xs,()):=by
 obtain ⟨h1,Y⟩:=h
 refine ag (k:=xs.length+1) fun k hk=>(gC.aa k _).trans ?_
 have:=bH (B:=fun self v=>gC.B0 0 self (fun z=>gC.Q0 0 (xs,()) z) (xs,()) v) xs (fun (n:Int) (i:Int)=>(n,i)) (fun _ n x=>.inr (n+(List.length x.2.1:Int))) (fun n=>(n,())) (fun i n=>0<=n/\n<=1048576*(i:Int)) (by rw[ah];omega)
  (fun i hi n self hI=>by
   show gC.b0 _ _ _ _=_
   unfold gC.b0
   have ai:(i:Int) < (xs.length:Int):=by omega
   have hx:=(Y _ (List.getElem_mem hi)).1
   simp only[ai,decide_true,cond_true,Int.natCast_nonneg,if_true,Int.toNat_natCast,List.getElem?_eq_getElem hi,Option.bind_some]
   rw[aE (n:=n+_) (by omega)])
  (fun i hi n n' hI hs=>by
   injection hs with hs
   have hx:=(Y _ (List.getElem_mem hi)).1
   omega) (fun s self _=>by
   show gC.b0 _ _ _ _=_
   unfold gC.b0
   simp only[Int.lt_irrefl,decide_false,cond_false]
   rfl) 0 (by omega) k (by omega)
 rw[eA] at this
 exact this
def np (xs:List Tx) (i:Nat) (x:Tx):Int:=if ct x.1 1 99 then (if 0 < i then (match xs[i - 1]? with
    | some y=>if x.1<=y.1 then 1 else pw x
    | none=>1) else pw x) else 3
def sE (xs:List Tx):Int:=aW (fun i (_:Unit) x=>if np xs i x=0 then .inr () else .inl (np xs i x)) (fun _=>(0:Int)) 0 xs ()
def flatK (xs:List Tx):List Key:=xs.flatMap fun x=>x.2.2.2.1
def to (xs:List Tx):Bool:=decide (flatK xs).Nodup
def sT (xs:List Tx):Int:=if 4 < xs.length then 2 else if sE xs=0 then (if to xs then (if 12 < qv xs then 2 else 0) else 7) else sE xs
theorem sF (xs:List Tx) (h:sE xs=0):∀ i (hi:i < xs.length),np xs i xs[i]=0:=by
 have main:∀ (ys:List Tx) (j:Nat),(aW (fun i (_:Unit) x=>if np xs i x=0 then .inr () else .inl (np xs i x)) (fun _=>(0:Int)) j ys ())=0->∀ i (hi:i < ys.length),np xs (j+i) ys[i]=0:=by
  intro ys
  induction ys with
  | nil=>intro j _ i hi;simp at hi
  | cons y ys ih=>
   intro j hf i hi
   simp only[aW] at hf
   by_cases h0:np xs j y=0
   ·rw[if_pos h0] at hf
    cases i with
    | zero=>simpa using h0
    | succ i=>
     have:=ih (j+1) hf i (by simpa using hi)
     rw[show j+(i+1)=j+1+i by omega]
     simpa using this
   ·rw[if_neg h0] at hf
    exact absurd hf h0
 intro i hi
 have:=main xs 0 h i hi
 rwa [Nat.zero_add] at this
theorem uF {xs:List Tx} {i:Nat} {x:Tx} (h:np xs i x=0):1<=x.1/\pw x=0/\∀ y,0 < i->xs[i - 1]?=some y->y.1 < x.1:=by
 unfold np at h
 split at h
 ·rename_i hb
  simp only[ct,Bool.and_eq_true,decide_eq_true_eq] at hb
  split at h
  ·rename_i h0
   split at h
   ·rename_i y hy
    split at h
    ·cases h
    ·exact ⟨hb.1,h,fun z _ hz=>by rw[hy] at hz;injection hz with hz;subst hz;omega⟩
   ·cases h
  ·exact ⟨hb.1,h,fun y h0=>by omega⟩
 ·cases h
theorem Ju {xs:List Tx} (h:sE xs=0):xs.Pairwise fun x y=>x.1 < y.1:=by
 rw[List.pairwise_iff_getElem]
 intro i j hi hj jf
 have key:∀ d (hd:i+d+1 < xs.length),(xs[i]).1 < (xs[i+d+1]).1:=by
  intro d
  induction d with
  | zero=>
   intro hd
   exact (uF (sF xs h (i+1) hd)).2.2 xs[i] (by omega) (by simp[hi])
  | succ d ih=>
   intro hd
   have h1:=ih (by omega)
   have Y:=(uF (sF xs h (i+d+1+1) hd)).2.2 xs[i+d+1] (by omega) (by rw[Nat.add_sub_cancel];exact List.getElem?_eq_getElem (by omega))
   exact Int.lt_trans h1 Y
 have:=key (j - i - 1) (by omega)
 have e:i+(j - i - 1)+1=j:=by omega
 simpa only [e] using this
theorem EH {ks:List Key} (h:pe ks=0):ks.Nodup:=by
 have main:∀ (ys:List Key) (j:Nat),(aW (fun i (_:Unit) k=>if j9 ks i k=0 then .inr () else .inl (j9 ks i k)) (fun _=>(0:Int)) j ys ())=0->∀ i (hi:i < ys.length),j9 ks (j+i) ys[i]=0:=by
  intro ys
  induction ys with
  | nil=>intro j _ i hi;simp at hi
  | cons y ys ih=>
   intro j hf i hi
   simp only[aW] at hf
   by_cases h0:j9 ks j y=0
   ·rw[if_pos h0] at hf
    cases i with
    | zero=>simpa using h0
    | succ i=>
     have:=ih (j+1) hf i (by simpa using hi)
     rw[show j+(i+1)=j+1+i by omega]
     simpa using this
   ·rw[if_neg h0] at hf
    exact absurd hf h0
 rw[List.nodup_iff_pairwise_ne,List.pairwise_iff_getElem]
 intro i j hi hj jf e
 have h1:=main ks 0 h j hj
 rw[Nat.zero_add] at h1
 unfold j9 at h1
 split at h1
 ·split at h1
  ·cases h1
  ·rename_i hn
   refine hn (kG.2 ?_)
   rw[<-e]
   exact List.mem_take_iff_getElem.2 ⟨i,by omega,rfl⟩
 ·cases h1
theorem K1 {x:Tx} (h:pw x=0):(x.2.2.2.1:List Key).Nodup:=by
 unfold pw at h
 split at h
 ·unfold mw at h
  split at h
  ·cases h
  ·split at h
   ·exact EH h
   ·cases h
 ·rename_i hn;exact absurd h hn
end OT
set_option linter.unusedVariables false
set_option linter.unusedSimpArgs false
namespace OT
open Go
def sc (xs:List Tx):Bool:=xs.all fun x=>x.2.2.2.1.all fun k=>decide (j_ xs k=x.1)
theorem K3 {xs:List Tx} (hr:xs.Pairwise fun x y=>x.1 < y.1) (hn:∀ x ∈ xs,(x.2.2.2.1:List Key).Nodup):sc xs=to xs:=by
 have main:∀ (xs:List Tx),(xs.Pairwise fun x y=>x.1 < y.1)->(∀ x ∈ xs,(x.2.2.2.1:List Key).Nodup)->((∀ x ∈ xs,∀ k ∈ (x.2.2.2.1:List Key),j_ xs k=x.1)↔(flatK xs).Nodup):=by
  intro xs
  induction xs with
  | nil=>intro _ _;simp[flatK]
  | cons x xs ih=>
   intro hr hn
   obtain ⟨h1,Y⟩:=List.pairwise_cons.1 hr
   have ih:=ih Y (fun y hy=>hn y (by simp[hy]))
   have AF:flatK (x::xs)=x.2.2.2.1++flatK xs:=by simp[flatK]
   rw[AF,List.nodup_append]
   constructor
   ·intro jk
    have hd:∀ y ∈ xs,∀ k ∈ (y.2.2.2.1:List Key),k ∉ (x.2.2.2.1:List Key):=fun y hy k hk hx=>by
     have e1:=jk y (by simp[hy]) k hk
     simp only[j_,kG.2 hx,if_true] at e1
     have:=h1 y hy
     omega
    refine ⟨hn x (by simp),ih.1 fun y hy k hk=>?_,fun a ha b hb e=>?_⟩
    ·have e1:=jk y (by simp[hy]) k hk
     have:dp x.2.2.2.1 k=false:=by
      cases hh:dp x.2.2.2.1 k with
      | false=>rfl
      | true=>exact absurd (kG.1 hh) (hd y hy k hk)
     simp only[j_,this,Bool.false_eq_true,if_false] at e1
     exact e1
    ·subst e
     obtain ⟨y,hy,hk⟩:=List.mem_flatMap.1 hb
     exact hd y hy a hk ha
   ·rintro ⟨g1,g2,g3⟩ y hy k hk
    rcases List.mem_cons.1 hy with e | e
    ·subst e
     simp only[j_,kG.2 hk,if_true]
    ·have T8:k ∈ flatK xs:=List.mem_flatMap.2 ⟨y,e,hk⟩
     have:dp x.2.2.2.1 k=false:=by
      cases hh:dp x.2.2.2.1 k with
      | false=>rfl
      | true=>exact absurd rfl (g3 k (kG.1 hh) k T8)
     simp only[j_,this,Bool.false_eq_true,if_false]
     exact ih.2 g2 y e k hk
 have hm:=main xs hr hn
 unfold sc to
 rw[Bool.eq_iff_iff]
 simp only[List.all_eq_true,decide_eq_true_eq]
 exact hm
theorem DI (xs:List Tx) (h:wU xs):bW.ab (xs,())=some (sc xs,()):=by
 have ht:=h
 obtain ⟨h1,Y⟩:=h
 refine ag (k:=1048577) fun k hk=>(bW.aa k _).trans ?_
 have inner:∀ (self:((List Tx)×Int)->Option bW.Out) (e0:Unit->Option bW.Out) (i:Nat) (hi:i < xs.length),bW.r1 k self e0 (xs,()) xs (i:Int) (0:Int)=if (xs[i]).2.2.2.1.any (fun y=>!decide (j_ xs y=(xs[i]).1)) then some (false,()) else self (xs,ae ((i:Int)+1)):=fun self e0 i hi=>by
  have T9:=Y _ (List.getElem_mem hi)
  have Mg:=T9.2.2.1
  have:=bK (B:=fun cn v=>bW.B1 k cn (fun z=>bW.Q0 k self e0 (xs,()) xs (i:Int) z) (xs,()) xs (i:Int) v) (xs[i]).2.2.2.1 (fun (_:Unit) (j:Int)=>j) (fun _ _ y=>if !decide (j_ xs y=(xs[i]).1) then .inl (some (false,())) else .inr ()) (fun _=>self (xs,ae ((i:Int)+1))) (fun _ _=>True) (by rw[ah];omega)
   (fun j hj s cn _=>by
    show bW.b1 _ _ _ _ _ _=_
    unfold bW.b1
    have ai:(j:Int) < (List.length (xs[i]).2.2.2.1:Int):=by omega
    simp only[Int.natCast_nonneg,if_true,Int.toNat_natCast,List.getElem?_eq_getElem hi,Option.bind_some,ai,decide_true,cond_true,List.getElem?_eq_getElem hj,EG xs _ ht]
    cases decide (j_ xs ((xs[i]).2.2.2.1)[j]=(xs[i]).1) <;> rfl)
   (fun _ _ _ _ _ _=>trivial) (fun s cn _=>by
    show bW.b1 _ _ _ _ _ _=_
    unfold bW.b1
    simp only[Int.natCast_nonneg,if_true,Int.toNat_natCast,List.getElem?_eq_getElem hi,Option.bind_some,Int.lt_irrefl,decide_false,cond_false]
    rfl) () trivial k (by omega)
  rw[pH] at this
  exact this
 have:=bH (B:=fun self v=>bW.B0 k self (fun z=>bW.Q1 k (xs,()) z) (xs,()) v) xs (fun (_:Unit) (i:Int)=>(xs,i)) (fun _ _ x=>if x.2.2.2.1.all (fun y=>decide (j_ xs y=x.1)) then .inr () else .inl (false,())) (fun _=>(true,())) (fun _ _=>True) (by rw[ah];omega)
  (fun i hi s self _=>by
   show bW.b0 _ _ _ _ _=_
   unfold bW.b0
   have ai:(i:Int) < (xs.length:Int):=by omega
   simp only[ai,decide_true,cond_true]
   rw[inner self _ i hi]
   have:(xs[i]).2.2.2.1.any (fun y=>!decide (j_ xs y=(xs[i]).1))=!(xs[i]).2.2.2.1.all (fun y=>decide (j_ xs y=(xs[i]).1)):=by rw[List.not_all_eq_any_not]
   rw[this]
   cases (xs[i]).2.2.2.1.all (fun y=>decide (j_ xs y=(xs[i]).1)) <;> rfl)
  (fun _ _ _ _ _ _=>trivial) (fun s self _=>by
   show bW.b0 _ _ _ _ _=_
   unfold bW.b0
   simp only[Int.lt_irrefl,decide_false,cond_false]
   rfl) () trivial k (by omega)
 rw[kY (fun (x:Tx)=>x.2.2.2.1.all (fun y=>decide (j_ xs y=x.1))) (false,()) (fun _=>(true,()))] at this
 refine Eq.trans this ?_
 unfold sc
 cases xs.all fun x=>x.2.2.2.1.all (fun y=>decide (j_ xs y=x.1)) <;> rfl
def cH (S:List Key):List (Key×Bool):=S.map fun k=>(k,true)
theorem EI {α:Type} (k:Ty) (e:k.den×α) (m:List (k.den×α)) (x:k.den):dB k (e::m) x=if k.eq x e.1 then some e.2 else dB k m x:=by
 unfold dB
 rw[List.find?_cons]
 cases k.eq x e.1 <;> rfl
theorem Hq {α:Type} (k:Ty) (m:List (k.den×α)) (x:k.den) (y:α) (h:∀ e ∈ m,k.eq x e.1=false):gP k m x y=m++[(x,y)]:=by
 have:m.findIdx? (fun e=>k.eq x e.1)=none:=by
  rw[List.findIdx?_eq_none_iff]
  intro e he
  exact h e he
 unfold gP
 rw[this]
theorem wV (S:List Key) (k:Key):dB aC (cH S) k=if dp S k then some true else none:=by
 induction S with
 | nil=>rfl
 | cons s S ih=>
  refine (EI aC (s,true) (cH S) k).trans ?_
  have hk:aC.eq k (s,true).1=decide (k=s):=um k s
  rw[hk]
  have hc:dp (s::S) k=(decide (s=k)||dp S k):=rfl
  rw[hc]
  by_cases h:k=s
  ·have Y:s=k:=h.symm
   simp[Y]
  ·have Y:¬ s=k:=fun e=>h e.symm
   simp only[h,Y,decide_false,Bool.false_or,Bool.false_eq_true,if_false]
   exact ih
theorem K4 (S:List Key) (k:Key):rn (dB aC (cH S) k) false=dp S k:=by
 refine Eq.trans (congrArg (fun o=>rn o false) (wV S k)) ?_
 cases dp S k <;> rfl
theorem DJ {S:List Key} {k:Key} (h:dp S k=false):gP aC (cH S) k true=cH (S++[k]):=by
 refine (Hq aC (cH S) k true fun e he=>?_).trans ?_
 ·obtain ⟨s,hs,rfl⟩:=List.mem_map.1 he
  have hk:aC.eq k (s,true).1=decide (k=s):=um k s
  rw[hk]
  simp only[dp,List.any_eq_false,decide_eq_true_eq] at h
  have:=h s hs
  simp only[decide_eq_false_iff_not]
  exact fun e=>this e.symm
 ·simp only[cH,List.map_append,List.map_cons,List.map_nil]
  rfl
def getM (m:List (Key×Bool)) (k:Key):Bool:=rn (dB aC m k) false
def lB (m:List (Key×Bool)) (k:Key):List (Key×Bool):=gP aC m k true
def lI:List (Key×Bool)->List Key->Option (List (Key×Bool))
 | m,[]=>some m
 | m,k::ks=>if getM m k then none else lI (lB m k) ks
theorem wW:∀ (m:List (Key×Bool)) (a b:List Key),lI m (a++b)=(lI m a).bind fun m'=>lI m' b
 | m,[],b=>rfl
 | m,k::a,b=>by
  simp only[List.cons_append,lI]
  split
  ·rfl
  ·exact wW _ a b
theorem AT:∀ (ks S:List Key),S.Nodup->lI (cH S) ks=if (S++ks).Nodup then some (cH (S++ks)) else none
 | [],S,h=>by simp[lI,h]
 | k::ks,S,h=>by
  have hg:getM (cH S) k=dp S k:=K4 S k
  simp only[lI,hg]
  cases hh:dp S k with
  | true=>
   have:¬ (S++k::ks).Nodup:=fun hn=>by
    rw[List.nodup_append] at hn
    exact hn.2.2 k (kG.1 hh) k (by simp) rfl
   simp[this]
  | false=>
   have hk:k ∉ S:=fun hm=>by rw[kG.2 hm] at hh;cases hh
   simp only[Bool.false_eq_true,if_false]
   have hp:lB (cH S) k=cH (S++[k]):=DJ hh
   rw[hp,AT ks (S++[k]) (by rw[List.nodup_append];exact ⟨h,by simp,fun a ha b hb e=>by simp at hb;subst hb;subst e;exact hk ha⟩)]
   simp only[List.append_assoc,List.cons_append,List.nil_append]
theorem AU {O:Type} (bad:Option O) (E:List (Key×Bool)->Option O):∀ (ks:List Key) (i:Nat) (m:List (Key×Bool)),aW (fun _ m k=>if getM m k then .inl bad else .inr (lB m k)) E i ks m=match lI m ks with | none=>bad | some m'=>E m'
 | [],_,_=>rfl
 | k::ks,i,m=>by
  simp only[aW,lI]
  by_cases h:getM m k=true
  ·simp[h]
  ·simp only[h,if_false]
   exact AU bad E ks _ _
theorem zk {O:Type} (bad:Option O) (E:Option O):∀ (xs:List Tx) (i:Nat) (m:List (Key×Bool)),aW (fun _ m x=>match lI m x.2.2.2.1 with | none=>.inl bad | some m'=>.inr m') (fun _=>E) i xs m=match lI m (flatK xs) with | none=>bad | some _=>E
 | [],_,_=>rfl
 | x::xs,i,m=>by
  have AF:flatK (x::xs)=x.2.2.2.1++flatK xs:=by simp[flatK]
  rw[AF,wW]
  simp only[aW]
  cases h:lI m x.2.2.2.1 with
  | none=>rfl
  | some m'=>
   simp only[Option.bind_some]
   exact zk bad E xs _ _
theorem Hr (xs:List Tx) (h:wU xs):aZ.ab (xs,())=some (sT xs,()):=by
 have ht:=h
 obtain ⟨h1,Y⟩:=h
 refine ag (k:=1048577) fun k hk=>(aZ.aa k _).trans ?_
 unfold aZ.p sT
 by_cases h4:4 < xs.length
 ·have:(4:Int) < (xs.length:Int):=by omega
  simp only[this,h4,decide_true,cond_true,if_true]
  (try rfl)
 have OX:¬ (4:Int) < (xs.length:Int):=by omega
 simp only[h4,OX,decide_false,cond_false,if_false]
 have last:aZ.Q2 k (xs,()) xs=some (if 12 < qv xs then 2 else 0,()):=by
  show aZ.q2 _ _=_
  unfold aZ.q2
  simp only[DH xs ht,Option.bind_some]
  by_cases hc:12 < qv xs <;> simp[hc]
 have inner:∀ (self:((List Tx)×(List (Key×Bool))×(List Tx)×Int×Int)->Option aZ.Out) (e2:List Tx->Option aZ.Out) (i:Nat) (hi:i < xs.length) (m:List (Key×Bool)),aZ.r2 k self e2 (xs,()) xs xs (xs.length:Int) (i:Int) (xs[i]).2.2.2.1 (List.length (xs[i]).2.2.2.1:Int) (m,(0:Int))=match lI m (xs[i]).2.2.2.1 with | none=>some ((7:Int),()) | some m'=>self (xs,m',xs,(xs.length:Int),ae ((i:Int)+1)):=fun self e2 i hi m=>by
  have Mg:=(Y _ (List.getElem_mem hi)).2.2.1
  have:=bK (B:=fun cn v=>aZ.B2 k cn (fun z=>aZ.Q1 k self e2 (xs,()) xs xs (xs.length:Int) (i:Int) (xs[i]).2.2.2.1 (List.length (xs[i]).2.2.2.1:Int) z) (xs,()) xs xs (xs.length:Int) (i:Int) (xs[i]).2.2.2.1 (List.length (xs[i]).2.2.2.1:Int) v) (xs[i]).2.2.2.1 (fun (m:List (Key×Bool)) (j:Int)=>(m,j)) (fun _ m y=>if getM m y then .inl (some ((7:Int),())) else .inr (lB m y)) (fun m=>self (xs,m,xs,(xs.length:Int),ae ((i:Int)+1))) (fun _ _=>True) (by rw[ah];omega)
   (fun j hj s cn _=>by
    show aZ.b2 _ _ _ _ _ _ _ _ _ _=_
    unfold aZ.b2
    have ai:(j:Int) < (List.length (xs[i]).2.2.2.1:Int):=by omega
    simp only[ai,decide_true,cond_true,Int.natCast_nonneg,if_true,Int.toNat_natCast,List.getElem?_eq_getElem hj,Option.bind_some]
    show (bif getM s ((xs[i]).2.2.2.1)[j] then some ((7:Int),()) else cn (lB s ((xs[i]).2.2.2.1)[j],ae ((j:Int)+1)))=_
    cases getM s ((xs[i]).2.2.2.1)[j] <;> rfl)
   (fun _ _ _ _ _ _=>trivial) (fun s cn _=>by
    show aZ.b2 _ _ _ _ _ _ _ _ _ _=_
    unfold aZ.b2
    simp only[Int.lt_irrefl,decide_false,cond_false]
    rfl) m trivial k (by omega)
  rw[AU] at this
  exact this
 have apart:aZ.Q0 k (xs,()) ()=some (if to xs then (if 12 < qv xs then 2 else 0) else 7,()):=by
  have:=bK (B:=fun self v=>aZ.B1 k self (fun z=>aZ.Q2 k (xs,()) z) (xs,()) v) xs (fun (m:List (Key×Bool)) (i:Int)=>(xs,m,xs,(xs.length:Int),i)) (fun _ m x=>match lI m x.2.2.2.1 with | none=>.inl (some ((7:Int),())) | some m'=>.inr m') (fun _=>some (if 12 < qv xs then 2 else 0,())) (fun _ _=>True) (by rw[ah];omega)
   (fun i hi m self _=>by
    show aZ.b1 _ _ _ _ _=_
    unfold aZ.b1
    have ai:(i:Int) < (xs.length:Int):=by omega
    simp only[ai,decide_true,cond_true,Int.natCast_nonneg,if_true,Int.toNat_natCast,List.getElem?_eq_getElem hi,Option.bind_some]
    rw[inner self _ i hi m]
    cases lI m (xs[i]).2.2.2.1 <;> rfl)
   (fun _ _ _ _ _ _=>trivial) (fun s self _=>by
    show aZ.b1 _ _ _ _ _=_
    unfold aZ.b1
    simp only[Int.lt_irrefl,decide_false,cond_false]
    exact last) (cH []) trivial k (by omega)
  rw[zk,AT _ _ List.nodup_nil] at this
  refine Eq.trans this ?_
  unfold to
  simp only[List.nil_append]
  by_cases hn:(flatK xs).Nodup <;> simp[hn]
 have:=bK (B:=fun self v=>aZ.B0 k self (fun z=>aZ.Q0 k (xs,()) z) (xs,()) v) xs (fun (_:Unit) (i:Int)=>i) (fun i _ x=>if np xs i x=0 then .inr () else .inl (some (np xs i x,()))) (fun _=>some (if to xs then (if 12 < qv xs then 2 else 0) else 7,())) (fun _ _=>True) (by rw[ah];omega)
  (fun i hi s self _=>by
   show aZ.b0 _ _ _ _=_
   unfold aZ.b0 np
   have ai:(i:Int) < (xs.length:Int):=by omega
   simp only[ai,decide_true,cond_true,Int.natCast_nonneg,if_true,Int.toNat_natCast,List.getElem?_eq_getElem hi,Option.bind_some,Fq,Hn _ (Y _ (List.getElem_mem hi))]
   show (bif !ct (xs[i]).1 1 99 then _ else _)=_
   cases ct (xs[i]).1 1 99 with
   | false=>rfl
   | true=>
    simp only[Bool.not_true,cond_false,if_true]
    by_cases h0:i=0
    ·subst h0
     have hz:¬ (0:Int) < ((0:Nat):Int):=by omega
     simp only[hz,decide_false,cond_false,Nat.lt_irrefl,if_false]
     by_cases hc:pw xs[0]=0
     ·simp only[hc,decide_true,Bool.not_true,cond_false,if_true]
     ·simp only[hc,decide_false,Bool.not_false,cond_true,if_false]
    ·have yS:i - 1 < xs.length:=by omega
     have hp:(0:Int) < (i:Int):=by omega
     have OY:0 < i:=by omega
     simp only[hp,OY,decide_true,cond_true,yP (show 0 < i by omega) (by rw[ah];omega),Int.natCast_nonneg,if_true,Int.toNat_natCast,List.getElem?_eq_getElem yS,Option.bind_some]
     by_cases hle:(xs[i]).1<=(xs[i - 1]).1
     ·simp only[hle,decide_true,cond_true,if_true]
      rfl
     ·simp only[hle,decide_false,cond_false,if_false]
      by_cases hc:pw xs[i]=0
      ·simp only[hc,decide_true,Bool.not_true,cond_false,if_true]
      ·simp only[hc,decide_false,Bool.not_false,cond_true,if_false])
  (fun _ _ _ _ _ _=>trivial) (fun s self _=>by
   show aZ.b0 _ _ _ _=_
   unfold aZ.b0
   simp only[Int.lt_irrefl,decide_false,cond_false]
   exact apart) () trivial k (by omega)
 rw[qW (np xs)] at this
 refine Eq.trans this ?_
 unfold sE
 split <;> rfl
theorem Hs (xs:List Tx) (h:wU xs):dj.ab (xs,())=some (sT xs,()):=by
 have ht:=h
 obtain ⟨h1,Y⟩:=h
 refine ag (k:=1048577) fun k hk=>(dj.aa k _).trans ?_
 unfold dj.p sT
 by_cases h4:4 < xs.length
 ·have:(4:Int) < (xs.length:Int):=by omega
  simp only[this,h4,decide_true,cond_true,if_true]
  (try rfl)
 have OX:¬ (4:Int) < (xs.length:Int):=by omega
 simp only[h4,OX,decide_false,cond_false,if_false]
 have last:dj.Q0 k (xs,()) ()=some (if sc xs then (if 12 < qv xs then 2 else 0) else 7,()):=by
  show dj.q0 _ _=_
  unfold dj.q0
  simp only[DI xs ht,DG xs ht,Option.bind_some]
  cases sc xs with
  | false=>rfl
  | true=>by_cases hc:12 < qv xs <;> simp[hc]
 have:=bK (B:=fun self v=>dj.B0 k self (fun z=>dj.Q0 k (xs,()) z) (xs,()) v) xs (fun (_:Unit) (i:Int)=>i) (fun i _ x=>if np xs i x=0 then .inr () else .inl (some (np xs i x,()))) (fun _=>some (if sc xs then (if 12 < qv xs then 2 else 0) else 7,())) (fun _ _=>True) (by rw[ah];omega)
  (fun i hi s self _=>by
   show dj.b0 _ _ _ _=_
   unfold dj.b0 np
   have ai:(i:Int) < (xs.length:Int):=by omega
   simp only[ai,decide_true,cond_true,Int.natCast_nonneg,if_true,Int.toNat_natCast,List.getElem?_eq_getElem hi,Option.bind_some,ir,Em _ (Y _ (List.getElem_mem hi)),Di _ (Y _ (List.getElem_mem hi))]
   have hj:(bif !decide (su xs[i]=0) then some (su xs[i],()) else bif !decide (mw xs[i]=0) then some (mw xs[i],()) else self (ae ((i:Int)+1)))=match (generalizing:=false) (if pw xs[i]=0 then .inr () else .inl (some (pw xs[i],())):Sum (Option (Int×Unit)) Unit) with | .inl o=>o | .inr _=>self (ae ((i:Int)+1)):=by
    unfold pw
    by_cases hu:su xs[i]=0
    ·simp only[hu,decide_true,Bool.not_true,cond_false,if_true]
     by_cases hm:mw xs[i]=0
     ·simp only[hm,decide_true,Bool.not_true,cond_false,if_true]
     ·simp only[hm,decide_false,Bool.not_false,cond_true,if_false]
    ·simp only[hu,decide_false,Bool.not_false,cond_true,if_false]
   show (bif !ct (xs[i]).1 1 99 then _ else _)=_
   cases ct (xs[i]).1 1 99 with
   | false=>rfl
   | true=>
    simp only[Bool.not_true,cond_false,if_true]
    by_cases h0:i=0
    ·subst h0
     have hz:¬ (0:Int) < ((0:Nat):Int):=by omega
     simp only[hz,decide_false,cond_false,Nat.lt_irrefl,if_false]
     refine hj.trans ?_
     by_cases hc:pw xs[0]=0 <;> simp only[hc,if_true,if_false]
    ·have yS:i - 1 < xs.length:=by omega
     have hp:(0:Int) < (i:Int):=by omega
     have OY:0 < i:=by omega
     simp only[hp,OY,decide_true,cond_true,yP (show 0 < i by omega) (by rw[ah];omega),Int.natCast_nonneg,if_true,Int.toNat_natCast,List.getElem?_eq_getElem yS,Option.bind_some]
     by_cases hle:(xs[i]).1<=(xs[i - 1]).1
     ·simp only[hle,decide_true,cond_true,if_true]
      rfl
     ·simp only[hle,decide_false,cond_false,if_false]
      refine hj.trans ?_
      by_cases hc:pw xs[i]=0 <;> simp only[hc,if_true,if_false])
  (fun _ _ _ _ _ _=>trivial) (fun s self _=>by
   show dj.b0 _ _ _ _=_
   unfold dj.b0
   simp only[Int.lt_irrefl,decide_false,cond_false]
   exact last) () trivial k (by omega)
 rw[qW (np xs)] at this
 refine Eq.trans this ?_
 show (if sE xs=0 then _ else some (sE xs,()))=_
 by_cases he:sE xs=0
 ·rw[if_pos he,if_pos he,K3 (Ju he) (fun x hx=>by
   obtain ⟨i,hi,rfl⟩:=List.mem_iff_getElem.1 hx
   exact K1 (uF (sF xs he i hi)).2.1)]
 ·rw[if_neg he,if_neg he]
end OT
set_option linter.unusedVariables false
set_option linter.unusedSimpArgs false
namespace OT
open Go
def dd (S:List Key) (ks:List Key):List Key:=ks.foldl (fun S k=>if dp S k then S else S++[k]) S
def mM (rows:List Row):List Key:=rows.map fun r=>(r.1,r.2.1,())
def pq (rows:List Row) (xs:List Tx):List Key:=mM rows++flatK xs
theorem EJ {α:Type} (k:Ty) (m:List (k.den×α)) (x:k.den) (y:α) {i:Nat} (h:m.findIdx? (fun e=>k.eq x e.1)=some i):gP k m x y=m.set i (x,y):=by
 unfold gP
 rw[h]
theorem Jv {S:List Key} {k:Key} (h:dp S k=true):lB (cH S) k=cH S:=by
 have key:∀ (S:List Key) (i:Nat),(cH S).findIdx? (fun e=>Ty.eq aC k e.1)=some i->(cH S)[i]?=some (k,true):=by
  intro S i hi
  have h1:=List.findIdx?_eq_some_iff_findIdx_eq.1 hi
  have ai:i < (cH S).length:=h1.1
  have Y:(cH S).findIdx (fun e=>Ty.eq aC k e.1) < (cH S).length:=by rw[h1.2];exact ai
  have h3:=List.findIdx_getElem (xs:=cH S) (p:=fun e=>Ty.eq aC k e.1) (w:=Y)
  simp only[h1.2] at h3
  have h4:Ty.eq aC k (cH S)[i].1=decide (k=(cH S)[i].1):=um k _
  have h3:Ty.eq aC k (cH S)[i].1=true:=h3
  rw[h4,decide_eq_true_eq] at h3
  rw[List.getElem?_eq_getElem ai]
  have h5:(cH S)[i]=((cH S)[i].1,true):=by simp[cH]
  rw[h5,<- h3]
 show gP aC (cH S) k true=cH S
 cases hf:(cH S).findIdx? (fun e=>Ty.eq aC k e.1) with
 | none=>
  exfalso
  have h1:dB aC (cH S) k=none:=by
   unfold dB
   have Y:=List.findIdx?_eq_none_iff.1 hf
   have:(cH S).find? (fun e=>Ty.eq aC k e.1)=none:=List.find?_eq_none.2 fun e he=>by rw[Y e he];simp
   exact congrArg _ this
  have Y:=wV S k
  rw[h] at Y
  exact absurd (h1.symm.trans Y) (by simp)
 | some i=>
  have h1:=key S i hf
  have ai:=(List.getElem?_eq_some_iff.1 h1).1
  refine (EJ aC (cH S) k true hf).trans ?_
  show (cH S).set i (k,true)=cH S
  have:(cH S)[i]=(k,true):=(List.getElem?_eq_some_iff.1 h1).2
  rw[<-this]
  exact List.set_getElem_self ai
theorem K5 (S:List Key) (k:Key):lB (cH S) k=cH (if dp S k then S else S++[k]):=by
 cases h:dp S k with
 | true=>simp only[if_true];exact Jv h
 | false=>simp only[Bool.false_eq_true,if_false];exact DJ h
theorem FJ:∀ (ks S:List Key),ks.foldl lB (cH S)=cH (dd S ks)
 | [],S=>rfl
 | k::ks,S=>by
  rw[List.foldl_cons,K5,FJ ks]
  rfl
theorem Jw (S a b:List Key):dd S (a++b)=dd (dd S a) b:=List.foldl_append
theorem Jx:∀ (ks S:List Key),S.length<=(dd S ks).length
 | [],S=>Nat.le_refl _
 | x::ks,S=>by
  refine Nat.le_trans ?_ (Jx ks (if dp S x then S else S++[x]))
  split
  ·exact Nat.le_refl _
  ·simp
theorem DK:∀ (ks S:List Key),(S++ks).Nodup->dd S ks=S++ks
 | [],S,_=>by simp[dd]
 | x::ks,S,h=>by
  have hx:dp S x=false:=by
   cases hh:dp S x with
   | false=>rfl
   | true=>
    rw[List.nodup_append] at h
    exact absurd rfl (h.2.2 x (kG.1 hh) x (by simp))
  show dd (if dp S x then S else S++[x]) ks=_
  rw[hx]
  simp only[Bool.false_eq_true,if_false]
  rw[DK ks (S++[x]) (by simpa using h)]
  simp
theorem EK {rows:List Row} (h:up rows):(mM rows).Nodup:=by
 unfold mM
 rw[List.nodup_iff_pairwise_ne,List.pairwise_map]
 refine h.imp fun {a b} Q7 e=>?_
 have:rk a=rk b:=by
  simp only[Prod.mk.injEq,and_true] at e
  exact Prod.ext e.1 e.2
 rw[this,nj] at Q7
 cases Q7
theorem AV {rows:List Row} {xs:List Tx} (h:up rows):rows.length<=(dd [] (pq rows xs)).length:=by
 unfold pq
 rw[Jw,DK (mM rows) [] (by simpa using EK h)]
 refine Nat.le_trans ?_ (Jx _ _)
 simp[mM]
def we:List Key->List Key->Nat
 | _,[]=>0
 | S,k::ks=>(if dp S k then 0 else 1)+we (S++[k]) ks
theorem z7:∀ (ks S T:List Key),(∀ k,k ∈ S↔k ∈ T)->(dd S ks).length=S.length+we T ks
 | [],S,T,_=>rfl
 | x::ks,S,T,h=>by
  have hx:dp S x=dp T x:=by rw[Bool.eq_iff_iff,kG,kG];exact h x
  show (dd (if dp S x then S else S++[x]) ks).length=_
  simp only[we,<- hx]
  cases hh:dp S x with
  | true=>
   simp only[if_true]
   rw[z7 ks S (T++[x]) fun k=>?_]
   ·omega
   ·simp only[List.mem_append,List.mem_singleton,<- h k]
    constructor
    ·exact .inl
    ·rintro (h1 | h1)
     ·exact h1
     ·subst h1;exact kG.1 hh
  | false=>
   simp only[Bool.false_eq_true,if_false]
   rw[z7 ks (S++[x]) (T++[x]) fun k=>by simp only[List.mem_append,h k]]
   simp only[List.length_append,List.length_cons,List.length_nil]
   omega
def pW (rows:List Row) (xs:List Tx):Nat:=(dd [] (pq rows xs)).length
theorem Jy (rows:List Row) (xs:List Tx) (hr:rows.length<=1048576) (h:wU xs):bJ.ab (rows,xs,())=some (cH (dd [] (pq rows xs)),()):=by
 obtain ⟨h1,Y⟩:=h
 refine ag (k:=1048577) fun k hk=>(bJ.aa k _).trans ?_
 have inner:∀ (self:((List (Key×Bool))×(List Tx)×Int×Int)->Option bJ.Out) (e2:(List (Key×Bool))->Option bJ.Out) (i:Nat) (hi:i < xs.length) (m:List (Key×Bool)),bJ.r2 k self e2 (rows,xs,()) xs (xs.length:Int) (i:Int) (xs[i]).2.2.2.1 (List.length (xs[i]).2.2.2.1:Int) (m,(0:Int))=self ((xs[i]).2.2.2.1.foldl lB m,xs,(xs.length:Int),ae ((i:Int)+1)):=fun self e2 i hi m=>by
  have Mg:=(Y _ (List.getElem_mem hi)).2.2.1
  have:=bK (B:=fun cn v=>bJ.B2 k cn (fun z=>bJ.Q1 k self e2 (rows,xs,()) xs (xs.length:Int) (i:Int) (xs[i]).2.2.2.1 (List.length (xs[i]).2.2.2.1:Int) z) (rows,xs,()) xs (xs.length:Int) (i:Int) (xs[i]).2.2.2.1 (List.length (xs[i]).2.2.2.1:Int) v) (xs[i]).2.2.2.1 (fun (m:List (Key×Bool)) (j:Int)=>(m,j)) (fun _ m y=>.inr (lB m y)) (fun m=>self (m,xs,(xs.length:Int),ae ((i:Int)+1))) (fun _ _=>True) (by rw[ah];omega)
   (fun j hj s cn _=>by
    show bJ.b2 _ _ _ _ _ _ _ _ _=_
    unfold bJ.b2
    have ai:(j:Int) < (List.length (xs[i]).2.2.2.1:Int):=by omega
    simp only[ai,decide_true,cond_true,Int.natCast_nonneg,if_true,Int.toNat_natCast,List.getElem?_eq_getElem hj,Option.bind_some]
    rfl)
   (fun _ _ _ _ _ _=>trivial) (fun s cn _=>by
    show bJ.b2 _ _ _ _ _ _ _ _ _=_
    unfold bJ.b2
    simp only[Int.lt_irrefl,decide_false,cond_false]
    rfl) m trivial k (by omega)
  rw[eA (g:=lB)] at this
  exact this
 have second:∀ m,bJ.r1 k (rows,xs,()) (m,xs,(xs.length:Int),(0:Int))=some ((flatK xs).foldl lB m,()):=fun m=>by
  have:=bH (B:=fun self v=>bJ.B1 k self (fun z=>bJ.Q2 k (rows,xs,()) z) (rows,xs,()) v) xs (fun (m:List (Key×Bool)) (i:Int)=>(m,xs,(xs.length:Int),i)) (fun _ m x=>.inr (x.2.2.2.1.foldl lB m)) (fun m=>(m,())) (fun _ _=>True) (by rw[ah];omega)
   (fun i hi m self _=>by
    show bJ.b1 _ _ _ _ _=_
    unfold bJ.b1
    have ai:(i:Int) < (xs.length:Int):=by omega
    simp only[ai,decide_true,cond_true,Int.natCast_nonneg,if_true,Int.toNat_natCast,List.getElem?_eq_getElem hi,Option.bind_some]
    exact inner self _ i hi m)
   (fun _ _ _ _ _ _=>trivial) (fun s self _=>by
    show bJ.b1 _ _ _ _ _=_
    unfold bJ.b1
    simp only[Int.lt_irrefl,decide_false,cond_false]
    rfl) m trivial k (by omega)
  rw[eA (g:=fun m (x:Tx)=>x.2.2.2.1.foldl lB m)] at this
  refine Eq.trans this ?_
  have:∀ (xs:List Tx) (m:List (Key×Bool)),xs.foldl (fun m (x:Tx)=>x.2.2.2.1.foldl lB m) m=(flatK xs).foldl lB m:=by
   intro xs
   induction xs with
   | nil=>intro m;rfl
   | cons x xs ih=>intro m;rw[List.foldl_cons,ih];simp[flatK,List.foldl_append]
  rw[this]
 have:=bK (B:=fun self v=>bJ.B0 k self (fun z=>bJ.Q0 k (rows,xs,()) z) (rows,xs,()) v) rows (fun (m:List (Key×Bool)) (i:Int)=>(m,i)) (fun _ m r=>.inr (lB m (r.1,r.2.1,()))) (fun m=>some ((flatK xs).foldl lB m,())) (fun _ _=>True) (by rw[ah];omega)
  (fun i hi m self _=>by
   show bJ.b0 _ _ _ _=_
   unfold bJ.b0
   have ai:(i:Int) < (rows.length:Int):=by omega
   simp only[ai,decide_true,cond_true,Int.natCast_nonneg,if_true,Int.toNat_natCast,List.getElem?_eq_getElem hi,Option.bind_some]
   rfl)
  (fun _ _ _ _ _ _=>trivial) (fun s self _=>by
   show bJ.b0 _ _ _ _=_
   unfold bJ.b0
   simp only[Int.lt_irrefl,decide_false,cond_false]
   exact second s) (cH []) trivial k (by omega)
 rw[eA (g:=fun m (r:Row)=>lB m (r.1,r.2.1,()))] at this
 refine Eq.trans this ?_
 have e1:rows.foldl (fun m (r:Row)=>lB m (r.1,r.2.1,())) (cH [])=(mM rows).foldl lB (cH []):=by unfold mM;rw[List.foldl_map]
 rw[e1,<- List.foldl_append]
 exact congrArg (fun m=>some (m,())) (FJ (pq rows xs) [])
theorem wX {O:Type} (x:Key) (E:Bool->Option O):∀ (ys:List Key) (j:Nat) (b:Bool),aW (fun _ b y=>if b then .inr (!decide (y=x)) else .inl (E false)) E j ys b=if b then E (!dp ys x) else E false
 | [],_,b=>by cases b <;> rfl
 | y::ys,j,b=>by
  cases b with
  | false=>simp[aW]
  | true=>
   simp only[aW,if_true]
   rw[wX x E ys]
   have:dp (y::ys) x=(decide (y=x)||dp ys x):=rfl
   rw[this]
   cases decide (y=x) <;> simp
theorem DL {O:Type} (all:List Key) (E:Int->O):∀ (ys pre:List Key) (n:Int),all=pre++ys->aW (fun i n x=>.inr (if dp (all.take i) x then n else n+1)) E pre.length ys n=E (n+(we pre ys:Int))
 | [],pre,n,_=>by simp[aW,we]
 | y::ys,pre,n,h=>by
  simp only[aW]
  have ht:all.take pre.length=pre:=by rw[h];simp
  rw[ht]
  have:=DL all E ys (pre++[y]) (if dp pre y then n else n+1) (by rw[h];simp)
  rw[List.length_append] at this
  refine Eq.trans this ?_
  congr 1
  simp only[we]
  cases dp pre y <;> simp <;> omega
def AW (k:Key):List Key:=if k.2.1=0 then [] else [k]
def Ht (rows:List Row) (xs:List Tx) (k:Key):Nat:=(dd [] (pq rows xs++AW k)).length
theorem DM (rows:List Row) (xs:List Tx) (kk:Key) (hr:rows.length<=1048576) (hx:xs.length<=1000) (h:∀ x ∈ xs,List.length x.2.2.2.1<=1000):aO.ab (rows,xs,kk,())=some ((Ht rows xs kk:Int),()):=by
 refine ag (k:=3000000) fun k hk=>(aO.aa k _).trans ?_
 have AF:(flatK xs).length<=1000*xs.length:=by
  clear hx
  induction xs with
  | nil=>simp[flatK]
  | cons x xs ih=>
   have h1:=h x (by simp)
   have Y:=ih fun y hy=>h y (by simp[hy])
   have:flatK (x::xs)=x.2.2.2.1++flatK xs:=by simp[flatK]
   rw[this,List.length_append,List.length_cons]
   omega
 have Ho:∀ all:List Key,all.length<=2100000->aO.r2 k (rows,xs,kk,()) (all,(0:Int),(0:Int))=some ((we [] all:Int),()):=fun all jk=>by
  have inner:∀ (self:((List Key)×Int×Int)->Option aO.Out) (e4:Int->Option aO.Out) (i:Nat) (hi:i < all.length) (n:Int),aO.r3 k self e4 (rows,xs,kk,()) all n (i:Int) (true,(0:Int))=if dp (all.take i) all[i] then self (all,n,ae ((i:Int)+1)) else self (all,ae (n+1),ae ((i:Int)+1)):=fun self e4 i hi n=>by
   have eD:(all.take i).length=i:=by simp;omega
   have:=bK (B:=fun cn v=>aO.B3 k cn (fun z=>aO.Q2 k self e4 (rows,xs,kk,()) all n (i:Int) z) (rows,xs,kk,()) all n (i:Int) v) (all.take i) (fun (b:Bool) (j:Int)=>(b,j)) (fun _ b y=>if b then .inr (!decide (y=all[i])) else .inl (if false then self (all,ae (n+1),ae ((i:Int)+1)) else self (all,n,ae ((i:Int)+1)))) (fun b=>if b then self (all,ae (n+1),ae ((i:Int)+1)) else self (all,n,ae ((i:Int)+1))) (fun _ _=>True) (by rw[ah];omega)
    (fun j hj b cn _=>by
     show aO.b3 _ _ _ _ _ _ _=_
     unfold aO.b3
     rw[eD] at hj
     have ai:(j:Int) < (i:Int):=by omega
     have Fh:j < all.length:=by omega
     have c1:(0:Int)<=(j:Int)/\(j:Int) < (all.length:Int):=by omega
     have c2:(0:Int)<=(i:Int)/\(i:Int) < (all.length:Int):=by omega
     simp only[ai,c1,c2,and_self,decide_true,cond_true,if_true,Int.toNat_natCast,List.getElem?_eq_getElem Fh,List.getElem?_eq_getElem hi,Option.bind_some,um,List.getElem_take]
     cases b <;> rfl)
    (fun _ _ _ _ _ _=>trivial) (fun b cn _=>by
     show aO.b3 _ _ _ _ _ _ _=_
     unfold aO.b3
     simp only[eD,Int.lt_irrefl,decide_false,cond_false]
     cases b <;> rfl) true trivial k (by omega)
   have e:=wX all[i] (fun b=>if b then self (all,ae (n+1),ae ((i:Int)+1)) else self (all,n,ae ((i:Int)+1))) (all.take i) 0 true
   refine (Eq.trans this e).trans ?_
   cases dp (all.take i) all[i] <;> rfl
  have:=bH (B:=fun self v=>aO.B2 k self (fun z=>aO.Q3 k (rows,xs,kk,()) z) (rows,xs,kk,()) v) all (fun (n:Int) (i:Int)=>(all,n,i)) (fun i n x=>.inr (if dp (all.take i) x then n else n+1)) (fun n=>(n,())) (fun i n=>0<=n/\n<=(i:Int)) (by rw[ah];omega)
   (fun i hi n self hI=>by
    show aO.b2 _ _ _ _ _=_
    unfold aO.b2
    have ai:(i:Int) < (all.length:Int):=by omega
    simp only[ai,decide_true,cond_true]
    rw[inner self _ i hi n,aE (n:=n+1) (by omega)]
    cases dp (all.take i) all[i] <;> rfl)
   (fun i hi n n' hI hs=>by
    injection hs with hs
    rw[<-hs]
    split <;> omega) (fun s self _=>by
    show aO.b2 _ _ _ _ _=_
    unfold aO.b2
    simp only[Int.lt_irrefl,decide_false,cond_false]
    rfl) 0 (by omega) k (by omega)
  have e:=DL all (fun n=>(n,())) all [] 0 rfl
  refine (Eq.trans this (congrArg some e)).trans ?_
  rw[Int.zero_add]
 have second:aO.r1 k (rows,xs,kk,()) (mM rows,(0:Int))=some ((we [] (pq rows xs++AW kk):Int),()):=by
  have oB:(mM rows).length=rows.length:=by simp[mM]
  have:=bK (B:=fun self v=>aO.B1 k self (fun z=>aO.Q1 k (rows,xs,kk,()) z) (rows,xs,kk,()) v) xs (fun (s:List Key) (i:Int)=>(s,i)) (fun _ s x=>.inr (s++x.2.2.2.1)) (fun s=>aO.r2 k (rows,xs,kk,()) (s++AW kk,(0:Int),(0:Int))) (fun i s=>s.length<=1048576+1000*i) (by rw[ah];omega)
   (fun i hi s self hI=>by
    show aO.b1 _ _ _ _=_
    unfold aO.b1
    have ai:(i:Int) < (xs.length:Int):=by omega
    have Mg:=h _ (List.getElem_mem hi)
    have hc:s.length+List.length (xs[i]).2.2.2.1<=bf:=cA (by omega)
    simp only[ai,decide_true,cond_true,Int.natCast_nonneg,if_true,Int.toNat_natCast,List.getElem?_eq_getElem hi,Option.bind_some,hc])
   (fun i hi s s' hI hs=>by
    injection hs with hs
    have Mg:=h _ (List.getElem_mem hi)
    rw[<-hs,List.length_append];omega) (fun s self hI=>by
    show aO.b1 _ _ _ _=_
    unfold aO.b1
    simp only[Int.lt_irrefl,decide_false,cond_false]
    show aO.q1 _ _ _=_
    unfold aO.q1 AW
    have hc:s.length+[kk].length<=bf:=cA (by simp only[List.length_cons,List.length_nil];omega)
    by_cases h0:kk.2.1=0
    ·simp only[h0,decide_true,Bool.not_true,cond_false,if_true,List.append_nil]
    ·simp only[h0,decide_false,Bool.not_false,cond_true,if_false,hc,if_true]) (mM rows) (by omega) k (by omega)
  rw[eA (g:=fun s (x:Tx)=>s++x.2.2.2.1)] at this
  refine Eq.trans this ?_
  have e:∀ (xs:List Tx) (s:List Key),xs.foldl (fun s (x:Tx)=>s++x.2.2.2.1) s=s++flatK xs:=by
   intro xs
   induction xs with
   | nil=>intro s;simp[flatK]
   | cons x xs ih=>intro s;rw[List.foldl_cons,ih];simp[flatK]
  rw[e]
  have hex:(AW kk).length<=1:=by unfold AW;split <;> simp
  exact Ho _ (by rw[List.length_append,List.length_append,oB];omega)
 have:=bK (B:=fun self v=>aO.B0 k self (fun z=>aO.Q0 k (rows,xs,kk,()) z) (rows,xs,kk,()) v) rows (fun (s:List Key) (i:Int)=>(s,i)) (fun _ s r=>.inr (s++[(r.1,r.2.1,())])) (fun s=>aO.r1 k (rows,xs,kk,()) (s,(0:Int))) (fun i s=>s.length=i) (by rw[ah];omega)
  (fun i hi s self hI=>by
   show aO.b0 _ _ _ _=_
   unfold aO.b0
   have ai:(i:Int) < (rows.length:Int):=by omega
   have hc:s.length+[((rows[i]).1,(rows[i]).2.1,())].length<=bf:=cA (by simp only[List.length_cons,List.length_nil];omega)
   simp only[ai,decide_true,cond_true,Int.natCast_nonneg,if_true,Int.toNat_natCast,List.getElem?_eq_getElem hi,Option.bind_some]
   rw[if_pos hc])
  (fun i hi s s' hI hs=>by injection hs with hs;rw[<-hs];simp[hI]) (fun s self _=>by
   show aO.b0 _ _ _ _=_
   unfold aO.b0
   simp only[Int.lt_irrefl,decide_false,cond_false]
   rfl) [] rfl k (by omega)
 rw[eA (g:=fun s (r:Row)=>s++[(r.1,r.2.1,())])] at this
 have e:∀ (rows:List Row) (s:List Key),rows.foldl (fun s (r:Row)=>s++[(r.1,r.2.1,())]) s=s++mM rows:=by
  intro rows
  induction rows with
  | nil=>intro s;simp[mM]
  | cons r rows ih=>intro s;rw[List.foldl_cons,ih];simp[mM]
 rw[e,List.nil_append,second] at this
 refine Eq.trans this ?_
 have:=z7 (pq rows xs++AW kk) [] [] (fun _=>Iff.rfl)
 simp only[List.length_nil,Nat.zero_add] at this
 unfold Ht
 rw[this]
theorem EL (rows:List Row) (xs:List Tx) (hr:rows.length<=1048576) (hx:xs.length<=1000) (h:∀ x ∈ xs,List.length x.2.2.2.1<=1000):aO.ab (rows,xs,((0:Int),(0:Int),()),())=some ((pW rows xs:Int),()):=by
 rw[DM rows xs _ hr hx h]
 unfold Ht AW
 simp only[if_true,List.append_nil]
 rfl
theorem Jz {ks:List Key} (h:pe ks=0):∀ k ∈ ks,pT k=true:=by
 have main:∀ (ys:List Key) (j:Nat),(aW (fun i (_:Unit) k=>if j9 ks i k=0 then .inr () else .inl (j9 ks i k)) (fun _=>(0:Int)) j ys ())=0->∀ y ∈ ys,pT y=true:=by
  intro ys
  induction ys with
  | nil=>intro j _ y hy;cases hy
  | cons y ys ih=>
   intro j hf z hz
   simp only[aW] at hf
   by_cases h0:j9 ks j y=0
   ·rw[if_pos h0] at hf
    rcases List.mem_cons.1 hz with rfl | hz
    ·unfold j9 at h0
     split at h0
     ·assumption
     ·cases h0
    ·exact ih (j+1) hf z hz
   ·rw[if_neg h0] at hf
    exact absurd hf h0
 exact main ks 0 h
structure Hu (xs:List Tx):Prop where
 len:xs.length<=4
 ch:∀ x ∈ xs,∀ c ∈ (x.2.1:List Change),mL c=0
 PZ:∀ x ∈ xs,List.length x.2.2.2.1<=12
 Hv:∀ x ∈ xs,List.length x.2.1<=12
 keys:∀ x ∈ xs,∀ k ∈ (x.2.2.2.1:List Key),pT k=true
theorem wY {α:Type} {c:α->Int}:∀ {xs:List α},ip c xs=0->∀ x ∈ xs,c x=0
 | [],_,_,h=>by cases h
 | y::ys,h,x,hx=>by
  simp only[ip] at h
  split at h
  ·rcases List.mem_cons.1 hx with e | e
   ·subst e;assumption
   ·exact wY h x e
  ·rename_i hn;exact absurd h hn
theorem FK:∀ (xs:List Tx) (n:Int),0<=n->n<=xs.foldl (fun n x=>n+(List.length x.2.1:Int)) n/\∀ x ∈ xs,(List.length x.2.1:Int)<=xs.foldl (fun n x=>n+(List.length x.2.1:Int)) n
 | [],n,h=>⟨Int.le_refl _,fun x hx=>by cases hx⟩
 | y::ys,n,h=>by
  obtain ⟨h1,Y⟩:=FK ys (n+(List.length y.2.1:Int)) (by omega)
  simp only[List.foldl_cons]
  refine ⟨by omega,fun x hx=>?_⟩
  rcases List.mem_cons.1 hx with e | e
  ·subst e;omega
  ·exact Y x e
theorem JA {xs:List Tx} (h:sT xs=0):Hu xs:=by
 unfold sT at h
 split at h
 ·cases h
 ·rename_i hl
  split at h
  ·rename_i he
   split at h
   ·split at h
    ·cases h
    ·rename_i hc
     have each:∀ x ∈ xs,pw x=0:=fun x hx=>by
      obtain ⟨i,hi,rfl⟩:=List.mem_iff_getElem.1 hx
      exact (uF (sF xs he i hi)).2.1
     refine ⟨by omega,fun x hx c QD=>?_,fun x hx=>?_,fun x hx=>?_,fun x hx=>?_⟩
     ·have h1:=each x hx
      unfold pw at h1
      split at h1
      ·rename_i hu
       have Y:=wY hu c QD
       unfold pU at Y
       split at Y
       ·rename_i hs
        unfold yM at hs
        split at hs
        ·assumption
        ·rename_i hn;exact absurd hs hn
       ·rename_i hn;exact absurd Y hn
      ·rename_i hn;exact absurd h1 hn
     ·have h1:=each x hx
      unfold pw at h1
      split at h1
      ·unfold mw at h1
       split at h1
       ·cases h1
       ·rename_i hm
        simp only[Bool.or_eq_true,decide_eq_true_eq,not_or] at hm
        omega
      ·rename_i hn;exact absurd h1 hn
     ·have:=(FK xs 0 (Int.le_refl _)).2 x hx
      unfold qv at hc
      omega
     ·have h1:=each x hx
      unfold pw at h1
      split at h1
      ·unfold mw at h1
       split at h1
       ·cases h1
       ·split at h1
        ·exact Jz h1
        ·cases h1
      ·rename_i hn;exact absurd h1 hn
   ·cases h
  ·rename_i hn;exact absurd h hn
end OT
set_option linter.unusedVariables false
set_option linter.unusedSimpArgs false
namespace OT
open Go
def wg (c:Change):Change:=(c.2.2.1,c.2.2.2.1,c.1,c.2.1,())
def iM (cs:List Change):List Change:=cs.reverse.map wg
theorem wH (cs:List Change):(iM cs).length=cs.length:=by simp[iM]
theorem FL {cs:List Change} {c:Change} (h:c ∈ iM cs):∃ d ∈ cs,c=wg d:=by
 unfold iM at h
 obtain ⟨d,h1,Y⟩:=List.mem_map.1 h
 exact ⟨d,List.mem_reverse.1 h1,Y.symm⟩
theorem DN (a b:Row):sameKey a b=sameKey b a:=by
 rw[ut,ut]
 by_cases h:rk a=rk b
 ·simp[h]
 ·have:¬ rk b=rk a:=fun e=>h e.symm
  simp[h,this]
theorem M1 {c:Change} (h:mL c=0):mL (wg c)=0:=by
 obtain ⟨a,ra,b,rb,⟨⟩⟩:=c
 unfold mL at h ⊢
 simp only[wg]
 have hk:=DN ra rb
 cases a <;> cases b
 ·exact h
 ·simp at h ⊢
  by_cases hr:h_ rb=0
  ·exact fun _=>hr
  ·simp[hr] at h
 ·simp at h ⊢
  by_cases hr:h_ ra=0
  ·exact hr
  ·simp[hr] at h
 ·simp only[hk] at h
  by_cases hs:sameKey rb ra=true
  ·by_cases hr:h_ ra=0
   ·by_cases hb:h_ rb=0
    ·simp[hs,hr,hb] at h ⊢
     try omega
    ·simp[hs,hr,hb] at h ⊢
   ·by_cases hb:h_ rb=0
    ·simp[hs,hr,hb] at h ⊢
    ·simp[hs,hr,hb] at h ⊢
  ·simp[hs] at h
theorem wh (cs:List Change) (hl:cs.length<=1048576) {O:Type} {B:((List Change×Int)->Option O)->(List Change×Int)->Option O} {E:List Change->Option O}
  (dY:∀ (m:Nat) (hm:m < cs.length) acc self,acc.length<=1048576->B self (acc,(m:Int))=self (acc++[wg cs[m]],ae ((m:Int) - 1))) (ja:∀ acc self,B self (acc,(-1:Int))=E acc) :
  ∀ k,cs.length < k->ak B k ([],ae ((cs.length:Int) - 1))=E (iM cs):=by
 have main:∀ (m:Nat) (acc:List Change),m<=cs.length->acc.length+m<=cs.length->∀ k,m < k->ak B k (acc,(m:Int) - 1)=E (acc++(cs.take m).reverse.map wg):=by
  intro m
  induction m with
  | zero=>
   intro acc _ _ k hk
   cases k with
   | zero=>omega
   | succ k=>
    show B (ak B k) _=_
    have:((0:Nat):Int) - 1=-1:=by omega
    rw[this,ja]
    simp
  | succ m ih=>
   intro acc hm ha k hk
   cases k with
   | zero=>omega
   | succ k=>
    show B (ak B k) _=_
    have e:((m+1:Nat):Int) - 1=(m:Int):=by omega
    rw[e,dY m (by omega) acc _ (by omega),aE (by omega),ih _ (by omega) (by simp;omega) k (by omega),List.take_succ_eq_append_getElem (by omega),List.reverse_append,List.map_append,List.append_assoc]
    rfl
 intro k hk
 have:=main cs.length [] (Nat.le_refl _) (by simp) k hk
 rw[aE (by omega)]
 simpa [iM] using this
theorem Hw (cs:List Change) (hl:cs.length<=1048576):eb.ab (cs,())=some (iM cs,()):=by
 refine ag (k:=cs.length+1) fun k hk=>(eb.aa k _).trans ?_
 refine wh cs hl (B:=fun self v=>eb.B0 0 self (fun z=>eb.Q0 0 (cs,()) z) (cs,()) v) (E:=fun z=>some (z,())) (fun m hm acc self ha=>?_) (fun acc self=>?_) k (by omega)
 ·show eb.b0 _ _ _ _=_
  unfold eb.b0
  have hc:acc.length+[wg cs[m]].length<=bf:=cA (by simp only[List.length_cons,List.length_nil];omega)
  simp only[Int.natCast_nonneg,decide_true,cond_true,if_true,Int.toNat_natCast,List.getElem?_eq_getElem hm,Option.bind_some]
  exact if_pos hc
 ·show eb.b0 _ _ _ _=_
  unfold eb.b0
  rfl
theorem Hx (cs:List Change) (hl:cs.length<=1048576):fT.ab (cs,())=some (iM cs,()):=by
 refine ag (k:=cs.length+1) fun k hk=>(fT.aa k _).trans ?_
 refine wh cs hl (B:=fun self v=>fT.B0 0 self (fun z=>fT.Q0 0 (cs,()) z) (cs,()) v) (E:=fun z=>some (z,())) (fun m hm acc self ha=>?_) (fun acc self=>?_) k (by omega)
 ·show fT.b0 _ _ _ _=_
  unfold fT.b0
  have hc:acc.length+[wg cs[m]].length<=bf:=cA (by simp only[List.length_cons,List.length_nil];omega)
  simp only[Int.natCast_nonneg,decide_true,cond_true,if_true,Int.toNat_natCast,List.getElem?_eq_getElem hm,Option.bind_some]
  exact if_pos hc
 ·show fT.b0 _ _ _ _=_
  unfold fT.b0
  rfl
def fK:List Row->List Change->Option (List Row)
 | s,[]=>some s
 | s,c::cs=>if n7 s c then fK (mh s c) cs else none
theorem back_append:∀ (a b:List Change) (s:List Row),fK s (a++b)=(fK s a).bind fun t=>fK t b
 | [],b,s=>rfl
 | c::a,b,s=>by
  simp only[List.cons_append,fK]
  split
  ·exact back_append a b _
  ·rfl
theorem AY {O:Type} (bad:O) (fin:List Row->O):∀ (cs:List Change) (i:Nat) (s:List Row),aW (fun _ s c=>if n7 s c then .inr (mh s c) else .inl bad) fin i cs s=match fK s cs with | some t=>fin t | none=>bad
 | [],_,_=>rfl
 | c::cs,i,s=>by
  simp only[aW,fK]
  by_cases h:n7 s c=true
  ·simp only[h,if_true];exact AY bad fin cs _ _
  ·simp[h]
theorem wi:∀ (cs:List Change) (s t:List Row),Good s->(∀ c ∈ cs,mL c=0)->fK s cs=some t->Good t/\t.length<=s.length+cs.length
 | [],s,t,h,_,hb=>by injection hb with hb;subst hb;exact ⟨h,by simp⟩
 | c::cs,s,t,h,hc,hb=>by
  simp only[fK] at hb
  split at hb
  ·have h1:=wi cs (mh s c) t (sy h (hc c (by simp))) (fun d hd=>hc d (by simp[hd])) hb
   have Y:=ux s c
   exact ⟨h1.1,by simp only[List.length_cons];omega⟩
  ·cases hb
theorem DO {O α:Type} {f:Nat->Unit->α->Sum O Unit} {fin:Unit->O}:∀ (xs:List α) (j:Nat),(∀ i (hi:i < xs.length),f (j+i) () xs[i]=.inr ())->aW f fin j xs ()=fin ()
 | [],_,_=>rfl
 | x::xs,j,h=>by
  have h0:=h 0 (by simp)
  simp only[Nat.add_zero,List.getElem_cons_zero] at h0
  simp only[aW,h0]
  exact DO xs (j+1) fun i hi=>by
   have:=h (i+1) (by simp;omega)
   rw[show j+1+i=j+(i+1) by omega]
   simpa using this
theorem Hy {xs:List Row} (h:Good xs) (hl:xs.length<=60):mi xs=0:=by
 unfold mi
 rw[if_neg (by omega),DO xs 0 fun i hi=>?_]
 unfold lA
 rw[if_pos (h.ok _ (List.getElem_mem hi)),Nat.zero_add]
 by_cases h0:0 < i
 ·rw[if_pos h0,List.getElem?_eq_getElem (show i - 1 < xs.length by omega)]
  have hu:=h.up
  unfold up at hu
  rw[List.pairwise_iff_getElem] at hu
  have:=hu (i - 1) i (by omega) hi (by omega)
  simp only[this,if_true]
 ·rw[if_neg h0]
theorem Hz {s:List Row} {cs:List Change} (h:Good s) (hc:∀ c ∈ cs,mL c=0) (hl:s.length+cs.length<=60):yW s cs=match fK s cs with | some t=>((0:Int),t,()) | none=>((8:Int),([]:List Row),()):=by
 unfold yW
 rw[if_pos (Hy h (by omega))]
 have main:∀ (cs:List Change) (s:List Row) (i:Nat),Good s->(∀ c ∈ cs,mL c=0)->s.length+cs.length<=60->(aW nk sa i cs s).1=match fK s cs with | some t=>((0:Int),t,()) | none=>((8:Int),([]:List Row),()):=by
  intro cs
  induction cs with
  | nil=>
   intro s i h _ hl
   simp only[aW,sa,fK]
   rw[if_neg (by simp at hl;omega)]
  | cons c cs ih=>
   intro s i h hc hl
   simp only[aW,nk,fK,hc c (by simp),if_true]
   by_cases hf:n7 s c=true
   ·simp only[hf,if_true]
    have:=ux s c
    exact ih _ _ (sy h (hc c (by simp))) (fun d hd=>hc d (by simp[hd])) (by simp at hl;omega)
   ·simp[hf]
 exact main cs s 0 h hc hl
def pr (xs:List Tx):List Change:=xs.flatMap fun x=>iM x.2.1
theorem uG {O:Type} (bad:O) (fin:List Row->O):∀ (xs:List Tx) (i:Nat) (s:List Row),aW (fun _ s x=>match fK s (iM x.2.1) with | some t=>.inr t | none=>.inl bad) fin i xs s=match fK s (pr xs) with | some t=>fin t | none=>bad
 | [],_,_=>rfl
 | x::xs,i,s=>by
  have hb:pr (x::xs)=iM x.2.1++pr xs:=by simp[pr]
  rw[hb,back_append]
  simp only[aW]
  cases fK s (iM x.2.1) with
  | none=>rfl
  | some t=>simp only[Option.bind_some];exact uG bad fin xs _ _
theorem zl {cs:List Change} (h:∀ c ∈ cs,mL c=0):∀ c ∈ iM cs,mL c=0:=fun c hc=>by
 obtain ⟨d,h1,rfl⟩:=FL hc
 exact M1 (h d h1)
theorem OZ {cs:List Change} (h:∀ c ∈ cs,cl c):∀ c ∈ iM cs,cl c:=fun c hc=>by
 obtain ⟨d,h1,rfl⟩:=FL hc
 exact ⟨(h d h1).2,(h d h1).1⟩
theorem M2 {s:List Row} (h:Good s):∀ x ∈ s,rl x:=fun x hx=>by
 have:=Je (h.ok x hx)
 unfold rl
 rw[ah]
 omega
theorem DP (s:List Row) (cs:List Change) (h:Good s) (hc:∀ c ∈ cs,mL c=0) (hl:s.length+cs.length<=1000):fl.ab (s,cs,())=some (match fK s (iM cs) with | some t=>(t,true,()) | none=>(([]:List Row),false,())):=by
 refine ag (k:=1001) fun k hk=>(fl.aa k _).trans ?_
 unfold fl.p
 rw[Hw cs (by omega)]
 simp only[Option.bind_some]
 have hlen:=wH cs
 have Mh:=zl hc
 have:=bH (B:=fun self v=>fl.B0 0 self (fun z=>fl.Q0 0 (s,cs,()) (iM cs) z) (s,cs,()) (iM cs) v) (iM cs) (fun (s:List Row) (i:Int)=>(s,i)) (fun _ s c=>if n7 s c then .inr (mh s c) else .inl (([]:List Row),false,())) (fun s=>(s,true,())) (fun i t=>Good t/\t.length<=s.length+i) (by rw[ah];omega)
  (fun i hi t self hI=>by
   show fl.b0 _ _ _ _ _=_
   unfold fl.b0
   have ai:(i:Int) < ((iM cs).length:Int):=by omega
   have dY:(0:Int)<=(i:Int)/\(i:Int) < ((iM cs).length:Int):=by omega
   simp only[ai,dY,and_self,decide_true,cond_true,if_true,Int.toNat_natCast,List.getElem?_eq_getElem hi,Option.bind_some]
   rw[I_ t _ hI.1.up (by omega) (Fu (Mh _ (List.getElem_mem hi))).1]
   cases n7 t (iM cs)[i] <;> rfl)
  (fun i hi t t' hI hs=>by
   split at hs
   ·injection hs with hs
    subst hs
    have:=ux t (iM cs)[i]
    exact ⟨sy hI.1 (Mh _ (List.getElem_mem hi)),by omega⟩
   ·cases hs) (fun t self _=>by
   show fl.b0 _ _ _ _ _=_
   unfold fl.b0
   simp only[Int.lt_irrefl,decide_false,cond_false]
   rfl) s ⟨h,by omega⟩ k (by omega)
 rw[AY] at this
 refine Eq.trans this ?_
 cases fK s (iM cs) <;> rfl
theorem EM (rows:List Row) (xs:List Tx) (h:Good rows) (hl:rows.length<=12) (hx:Hu xs):fq.ab (rows,xs,())=some (match fK rows (pr xs) with | some t=>(t,true,()) | none=>(([]:List Row),false,())):=by
 refine ag (k:=10) fun k hk=>(fq.aa k _).trans ?_
 unfold fq.p
 have hc:([]:List Row).length+rows.length<=bf:=cA (by simp only[List.length_nil];omega)
 rw[if_pos hc,List.nil_append]
 have T_:=hx.len
 have:=bH (B:=fun self v=>fq.B0 0 self (fun z=>fq.Q0 0 (rows,xs,()) z) (rows,xs,()) v) xs (fun (s:List Row) (i:Int)=>(s,i)) (fun _ s x=>match fK s (iM x.2.1) with | some t=>.inr t | none=>.inl (([]:List Row),false,())) (fun s=>(s,true,())) (fun i t=>Good t/\t.length<=12+12*i) (by rw[ah];omega)
  (fun i hi t self hI=>by
   show fq.b0 _ _ _ _=_
   unfold fq.b0
   have ai:(i:Int) < (xs.length:Int):=by omega
   have hu:=hx.Hv _ (List.getElem_mem hi)
   simp only[ai,decide_true,cond_true,Int.natCast_nonneg,if_true,Int.toNat_natCast,List.getElem?_eq_getElem hi,Option.bind_some]
   rw[DP t _ hI.1 (hx.ch _ (List.getElem_mem hi)) (by omega)]
   cases fK t (iM (xs[i]).2.1) <;> rfl)
  (fun i hi t t' hI hs=>by
   have hu:=hx.Hv _ (List.getElem_mem hi)
   cases hb:fK t (iM (xs[i]).2.1) with
   | none=>rw[hb] at hs;cases hs
   | some q=>
    rw[hb] at hs
    injection hs with hs
    subst hs
    have:=wi _ _ _ hI.1 (zl (hx.ch _ (List.getElem_mem hi))) hb
    rw[wH] at this
    exact ⟨this.1,by omega⟩) (fun t self _=>by
   show fq.b0 _ _ _ _=_
   unfold fq.b0
   simp only[Int.lt_irrefl,decide_false,cond_false]
   rfl) rows ⟨h,by omega⟩ k (by omega)
 rw[uG] at this
 refine Eq.trans this ?_
 cases fK rows (pr xs) <;> rfl
theorem DQ (rows:List Row) (xs:List Tx) (h:Good rows) (hl:rows.length<=12) (hx:Hu xs) (ht:wU xs):dg.ab (rows,xs,())=some (match fK rows (pr xs) with | some t=>(t,(0:Int),()) | none=>(([]:List Row),(8:Int),())):=by
 refine ag (k:=10) fun k hk=>(dg.aa k _).trans ?_
 unfold dg.p
 have T_:=hx.len
 have:=bH (B:=fun self v=>dg.B0 0 self (fun z=>dg.Q0 0 (rows,xs,()) z) (rows,xs,()) v) xs (fun (s:List Row) (i:Int)=>(s,i)) (fun _ s x=>match fK s (iM x.2.1) with | some t=>.inr t | none=>.inl (([]:List Row),(8:Int),())) (fun s=>(s,(0:Int),())) (fun i t=>Good t/\t.length<=12+12*i) (by rw[ah];omega)
  (fun i hi t self hI=>by
   show dg.b0 _ _ _ _=_
   unfold dg.b0
   have ai:(i:Int) < (xs.length:Int):=by omega
   have hu:=hx.Hv _ (List.getElem_mem hi)
   have Mh:=zl (hx.ch _ (List.getElem_mem hi))
   have Q8:=ht.2 _ (List.getElem_mem hi)
   simp only[ai,decide_true,cond_true,Int.natCast_nonneg,if_true,Int.toNat_natCast,List.getElem?_eq_getElem hi,Option.bind_some]
   rw[Hx _ Q8.1]
   simp only[Option.bind_some]
   have LC:=wH (xs[i]).2.1
   rw[Dn t _ (by rw[ah];omega) (M2 hI.1) (by omega) (OZ Q8.2.2.2),Hz hI.1 Mh (by omega)]
   cases fK t (iM (xs[i]).2.1) <;> rfl)
  (fun i hi t t' hI hs=>by
   have hu:=hx.Hv _ (List.getElem_mem hi)
   cases hb:fK t (iM (xs[i]).2.1) with
   | none=>rw[hb] at hs;cases hs
   | some q=>
    rw[hb] at hs
    injection hs with hs
    subst hs
    have:=wi _ _ _ hI.1 (zl (hx.ch _ (List.getElem_mem hi))) hb
    rw[wH] at this
    exact ⟨this.1,by omega⟩) (fun t self hI=>by
   show dg.b0 _ _ _ _=_
   unfold dg.b0
   simp only[Int.lt_irrefl,decide_false,cond_false,dg.Q0,dg.q0]
   rw[wQ t (by omega)]
   rfl) rows ⟨h,by omega⟩ k (by omega)
 rw[uG] at this
 refine Eq.trans this ?_
 cases fK rows (pr xs) <;> rfl
def zm (n:Int) (xs:List Tx):Bool:=match xs[xs.length - 1]? with
 | some x=>decide (n<=x.1)
 | none=>false
def qf (p:Plain):Int:=
 if mi p.1=0 then
  if sT p.2.1=0 then
   if ct p.2.2.1 1 100&&!zm p.2.2.1 p.2.1 then
    if 12 < pW p.1 p.2.1 then 2 else (match fK p.1 (pr p.2.1) with | some _=>0 | none=>8)
   else 3
  else sT p.2.1
 else mi p.1
def Mi (p:Plain):Prop:=List.length p.1<=1048576/\(∀ x ∈ (p.1:List Row),rl x)/\wU p.2.1
theorem FM {O:Type} (n:Int) (xs:List Tx) (hl:xs.length<=1048576) (bad j:Option O) :
  (bif decide ((0:Int) < (xs.length:Int)) then (if 0<=ae ((xs.length:Int) - (1:Int)) then ((xs[(ae ((xs.length:Int) - (1:Int))).toNat]?).bind fun x5=>bif decide (n<=x5.1) then bad else j) else none) else j)=if zm n xs then bad else j:=by
 unfold zm
 by_cases h:0 < xs.length
 ·have h1:(0:Int) < (xs.length:Int):=by omega
  have Y:ae ((xs.length:Int) - 1)=((xs.length - 1:Nat):Int):=by rw[aE (by omega)];omega
  have h3:xs.length - 1 < xs.length:=by omega
  simp only[h1,Y,decide_true,cond_true,Int.natCast_nonneg,if_true,Int.toNat_natCast,List.getElem?_eq_getElem h3,Option.bind_some]
  cases decide (n<=(xs[xs.length - 1]).1) <;> rfl
 ·have h0:xs=[]:=List.eq_nil_of_length_eq_zero (by omega)
  subst h0
  rfl
theorem DR (p:Plain) (h:Mi p):gN.ab (p,())=some (qf p,()):=by
 obtain ⟨rows,xs,n,⟨⟩⟩:=p
 obtain ⟨h1,Y,h3⟩:=h
 simp only at h1 Y h3
 refine ag (k:=0) fun k _=>(gN.aa k _).trans ?_
 show gN.p _=_
 unfold gN.p qf
 simp only[wP rows (by rw[ah];omega) Y,Hr xs h3,lk,Jy rows xs h1 h3,Option.bind_some]
 by_cases hr:mi rows=0
 rotate_left
 ·simp only[hr,decide_false,Bool.not_false,cond_true,if_false]
 by_cases ht:sT xs=0
 rotate_left
 ·simp only[hr,ht,decide_true,decide_false,Bool.not_true,Bool.not_false,cond_true,cond_false,if_true,if_false]
 obtain ⟨hg,_⟩:=uw hr
 have az:=JA ht
 simp only[hr,ht,decide_true,Bool.not_true,cond_false,if_true]
 have dY:(decide ((1:Int)<=n)&&decide (n<=100))=ct n 1 100:=rfl
 rw[dY]
 cases ct n 1 100 with
 | false=>rfl
 | true=>
  simp only[Bool.not_true,cond_false,Bool.true_and]
  rw[FM n xs h3.1]
  cases zm n xs with
  | true=>rfl
  | false=>
   simp only[Bool.not_false,Bool.false_eq_true,if_false,if_true]
   have hlen:(cH (dd [] (pq rows xs))).length=pW rows xs:=by simp[cH,pW]
   by_cases pO:12 < pW rows xs
   ·have:(12:Int) < ((cH (dd [] (pq rows xs))).length:Int):=by rw[hlen];omega
    simp only[this,pO,decide_true,cond_true,if_true]
   ·have:¬ (12:Int) < ((cH (dd [] (pq rows xs))).length:Int):=by rw[hlen];omega
    have oB:rows.length<=12:=by
     have:=AV (xs:=xs) hg.up
     unfold pW at pO
     omega
    simp only[this,pO,decide_false,cond_false,if_false,DQ rows xs hg oB az h3,Option.bind_some]
    cases fK rows (pr xs) <;> rfl
theorem DS (p:Plain) (h:Mi p):iX.ab (p,())=some (qf p,()):=by
 obtain ⟨rows,xs,n,⟨⟩⟩:=p
 obtain ⟨h1,Y,h3⟩:=h
 simp only at h1 Y h3
 refine ag (k:=0) fun k _=>(iX.aa k _).trans ?_
 show iX.p _=_
 unfold iX.p qf
 simp only[Er rows (by rw[ah];omega) Y,Hs xs h3,ir,Option.bind_some]
 by_cases hr:mi rows=0
 rotate_left
 ·simp only[hr,decide_false,Bool.not_false,cond_true,if_false]
 by_cases ht:sT xs=0
 rotate_left
 ·simp only[hr,ht,decide_true,decide_false,Bool.not_true,Bool.not_false,cond_true,cond_false,if_true,if_false]
 obtain ⟨hg,_⟩:=uw hr
 have az:=JA ht
 have O0:=EL rows xs h1 (by have:=az.len;omega) (fun x hx=>by have:=az.PZ x hx;omega)
 simp only[hr,ht,decide_true,Bool.not_true,cond_false,if_true,O0,Option.bind_some]
 have dY:(decide ((1:Int)<=n)&&decide (n<=100))=ct n 1 100:=rfl
 rw[dY]
 cases ct n 1 100 with
 | false=>rfl
 | true=>
  simp only[Bool.not_true,cond_false,Bool.true_and]
  rw[FM n xs h3.1]
  cases zm n xs with
  | true=>rfl
  | false=>
   simp only[Bool.not_false,Bool.false_eq_true,if_false,if_true]
   by_cases pO:12 < pW rows xs
   ·have:(12:Int) < (pW rows xs:Int):=by omega
    simp only[this,pO,decide_true,cond_true,if_true]
   ·have:¬ (12:Int) < (pW rows xs:Int):=by omega
    have oB:rows.length<=12:=by
     have:=AV (xs:=xs) hg.up
     unfold pW at pO
     omega
    simp only[this,pO,decide_false,cond_false,if_false,EM rows xs hg oB az,Option.bind_some]
    cases fK rows (pr xs) <;> rfl
theorem K6 {p:Plain} (hv:mI tc p) (hz:zz tc p<=1048576):Mi p:=by
 obtain ⟨rows,xs,n,⟨⟩⟩:=p
 obtain ⟨hr,hx,_⟩:=hv
 replace hz:zz (.U aF) rows+(zz (.U aR) xs+(0+0))<=1048576:=hz
 refine ⟨Nat.le_trans (d0 (e:=aF) rows) (by omega),fun x hm=>G6 (hr.2 x hm),Nat.le_trans (d0 (e:=aR) xs) (by omega),fun x hm=>?_⟩
 have h1:zz aR x+1<=zz (.U aR) xs:=nP (e:=aR) hm
 have Y:zz aR x=0+(zz (.U am) x.2.1+(zz (.U i64) x.2.2.1+(zz (.U aC) x.2.2.2.1+0))):=rfl
 have h3:List.length x.2.1<=zz (.U am) x.2.1:=d0 (e:=am) x.2.1
 have h4:List.length x.2.2.1<=zz (.U i64) x.2.2.1:=d0 (e:=i64) x.2.2.1
 have h5:List.length x.2.2.2.1<=zz (.U aC) x.2.2.2.1:=d0 (e:=aC) x.2.2.2.1
 exact ⟨by omega,by omega,by omega,fun c hc=>PU ((hx.2 x hm).2.1.2 c hc)⟩
end OT
set_option linter.unusedVariables false
set_option linter.unusedSimpArgs false
namespace OT
open Go
end OT
set_option linter.unusedVariables false
set_option linter.unusedSimpArgs false
set_option linter.unusedSectionVars false
namespace OT
open Go
theorem tq {a b:List UInt8} {i:Nat} (h:i < a.length):aT (a++b) i=aT a i:=by
 unfold aT
 simp only[List.getD_eq_getElem?_getD]
 rw[List.getElem?_append_left h]
theorem JB {a b:List UInt8} {q:aM×Nat} (h:kN a=some q):kN (a++b)=some q:=by
 have h0:=h
 unfold kN at h
 split at h
 ·cases h
 ·rename_i hc
  have l0:7<=a.length:=by omega
  have l1:aT a 0<=a.length:=by omega
  unfold kN
  have e0:aT (a++b) 0=aT a 0:=tq (by omega)
  have e1:aT (a++b) 1=aT a 1:=tq (by omega)
  have e2:aT (a++b) 2=aT a 2:=tq (by omega)
  have e3:aT (a++b) 3=aT a 3:=tq (by omega)
  have e4:aT (a++b) 4=aT a 4:=tq (by omega)
  rw[e0,e1,e2,e3,e4,List.take_append_of_le_length l1,if_neg (by rw[List.length_append];omega)]
  exact h
theorem wZ (b:List UInt8):∀ (k:Nat) (a:List UInt8),a.length < k->(dX k a).2=a.length->dX (k+b.length) (a++b)=((dX k a).1++(kJ b).1,a.length+(kJ b).2)
 | 0,_,h,_=>by omega
 | k+1,a,hk,h=>by
  cases hr:kN a with
  | none=>
   simp only[dX,hr] at h
   have:a=[]:=List.eq_nil_of_length_eq_zero h.symm
   subst this
   rw[List.nil_append,my (k+1+b.length) (b.length+1) b (by omega) (by omega)]
   simp[dX,hr,kJ]
  | some q=>
   obtain ⟨r,n⟩:=q
   have hn:=rf hr
   have hd:(a.drop n).length=a.length - n:=List.length_drop
   simp only[dX,hr] at h
   have ih:=wZ b k (a.drop n) (by omega) (by omega)
   have e:k+1+b.length=(k+b.length)+1:=by omega
   rw[e]
   simp only[dX,hr,JB hr,List.drop_append_of_le_length hn.2.1,ih,List.cons_append]
   rw[hd]
   congr 1
   omega
theorem JC {a b:List UInt8} (h:lq a=true):kJ (a++b)=((kJ a).1++(kJ b).1,a.length+(kJ b).2):=by
 have:=wZ b (a.length+1) a (by omega) (of_decide_eq_true h)
 unfold kJ
 rw[List.length_append,my (a.length+b.length+1) (a.length+1+b.length) _ (by rw[List.length_append];omega) (by rw[List.length_append];omega)]
 exact this
def mo (l:Log):List aM:=(kJ l.1).1++(kJ l.2.1).1
theorem sd:∀ (k:Nat) (d:List UInt8),(dX k d).1.length<=d.length
 | 0,d=>Nat.zero_le _
 | k+1,d=>by
  simp only[dX]
  cases hr:kN d with
  | none=>exact Nat.zero_le _
  | some q=>
   obtain ⟨r,n⟩:=q
   have hn:=rf hr
   have hd:(d.drop n).length=d.length - n:=List.length_drop
   have:=sd k (d.drop n)
   simp only[List.length_cons]
   omega
theorem qg {l:Log} (h:no l=0):List.length l.1+List.length l.2.1<=16000/\lq l.1=true/\lq l.2.1=true:=by
 unfold no at h
 split at h
 ·cases h
 ·split at h
  ·rename_i a b
   rw[Bool.and_eq_true] at b
   exact ⟨by omega,b.1,b.2⟩
  ·cases h
theorem xF {l:Log} (h:no l=0):(mo l).length<=16000:=by
 have h1:=qg h
 unfold mo
 rw[List.length_append]
 have a:=sd (List.length l.1+1) l.1
 have b:=sd (List.length l.2.1+1) l.2.1
 unfold kJ
 omega
theorem EN {l:Log} (h:no l=0):hY.ab (l,())=some (mo l,()):=by
 have h1:=qg h
 have Y:=xF h
 refine ag (k:=0) fun k _=>(hY.aa k _).trans ?_
 unfold hY.p
 simp only[qU l.1 (by omega),qU l.2.1 (by omega),Option.bind_some]
 rw[if_pos (cA (by unfold mo at Y;rw[List.length_append] at Y;omega))]
 rfl
theorem K7 (d:List UInt8) (hd:d.length<=1048576):cL.ab (d,())=some (d,()):=nS d (by omega)
theorem EO {l:Log} (h:no l=0):iC.ab (l,())=some (mo l,()):=by
 have h1:=qg h
 refine ag (k:=0) fun k _=>(iC.aa k _).trans ?_
 unfold iC.p
 simp only[K7 l.1 (by omega),Option.bind_some]
 rw[if_pos (cA (by omega)),qV _ (by rw[List.length_append];omega)]
 rw[JC h1.2.1]
 rfl
theorem xG {α:Type} [DecidableEq α]:∀ {a b:List α},a.length=b.length->lz (fun x y=>decide (x=y)) a b=decide (a=b)
 | [],[],_=>by simp[lz]
 | x::a,y::b,h=>by
  have ih:=xG (a:=a) (b:=b) (by simpa using h)
  unfold lz at ih ⊢
  simp only[List.zip_cons_cons,List.all_cons,ih]
  by_cases h1:x=y <;> by_cases Y:a=b <;> simp[h1,Y]
 | [],_::_,h=>by cases h
 | _::_,[],h=>by cases h
theorem EP (a b:List (List UInt8)) (hl:a.length<=1000):ft.ab (a,b,())=some (decide (a=b),()):=by
 refine ag (k:=1002) fun k hk=>(ft.aa k _).trans ?_
 unfold ft.p
 by_cases hlen:a.length=b.length
 rotate_left
 ·have e1:¬ ((a.length:Int)=(b.length:Int)):=by omega
  have e2:¬ a=b:=fun h=>hlen (by rw[h])
  simp only[e1,e2,decide_false,Bool.not_false,cond_true]
 have e1:((a.length:Int)=(b.length:Int)):=by omega
 simp only[e1,decide_true,Bool.not_true,cond_false]
 have:=nc (B:=fun self v=>ft.B0 k self (fun z=>ft.Q0 k (a,b,()) z) (a,b,()) v) (xs:=a) (ys:=b) (fun x y=>decide (x=y)) hlen (by rw[ah];omega)
  (fun i hx hy self=>by
   show ft.b0 _ _ _ _=_
   unfold ft.b0
   have ai:(i:Int) < (a.length:Int):=by omega
   simp only[ai,decide_true,cond_true,Int.natCast_nonneg,if_true,Int.toNat_natCast,List.getElem?_eq_getElem hx,List.getElem?_eq_getElem hy,Option.bind_some]
   by_cases h:a[i]=b[i] <;> simp[h]) (fun self=>by
   show ft.b0 _ _ _ _=_
   unfold ft.b0
   rw[decide_eq_false (Int.lt_irrefl _),cond_false]
   rfl) k (by omega)
 refine this.trans ?_
 rw[xG hlen]
theorem EQ (a b:List (List UInt8)) (hl:a.length<=1000) (ha:∀ x ∈ a,x.length<=100000):jm.ab (a,b,())=some (decide (a=b),()):=by
 refine ag (k:=0) fun k _=>(jm.aa k _).trans ?_
 unfold jm.p
 have:∀ f:Nat×Int,bL.ab (a,b,f,())=some (decide (a=b),()):=fun f=>by
  refine ag (k:=1002) fun k hk=>(bL.aa k _).trans ?_
  unfold bL.p
  by_cases hlen:a.length=b.length
  rotate_left
  ·have e1:¬ ((a.length:Int)=(b.length:Int)):=by omega
   have e2:¬ a=b:=fun h=>hlen (by rw[h])
   simp only[e1,e2,decide_false,Bool.not_false,cond_true]
  have e1:((a.length:Int)=(b.length:Int)):=by omega
  simp only[e1,decide_true,Bool.not_true,cond_false]
  have:=nc (B:=fun self v=>bL.B0 k self (fun z=>bL.Q0 k (a,b,f,()) z) (a,b,f,()) v) (xs:=a) (ys:=b) (fun x y=>decide (x=y)) hlen (by rw[ah];omega)
   (fun i hx hy self=>by
    show bL.b0 _ _ _ _=_
    unfold bL.b0
    have ai:(i:Int) < (a.length:Int):=by omega
    simp only[ai,decide_true,cond_true,Int.natCast_nonneg,if_true,Int.toNat_natCast,List.getElem?_eq_getElem hx,List.getElem?_eq_getElem hy,Option.bind_some,DE _ _ (ha _ (List.getElem_mem hx))]
    by_cases h:a[i]=b[i] <;> simp[h]) (fun self=>by
    show bL.b0 _ _ _ _=_
    unfold bL.b0
    rw[decide_eq_false (Int.lt_irrefl _),cond_false]
    rfl) k (by omega)
  refine this.trans ?_
  rw[xG hlen]
 rw[this]
 rfl
theorem DT {d:List UInt8} (h:d.length<=64):List.length (db d).1.2.2.2.2.1.2.2.2.1<=64:=by
 unfold db
 split
 ·exact Nat.zero_le _
 ·split
  ·exact Nat.zero_le _
  ·show (d.drop 6).length<=64
   rw[List.length_drop]
   omega
theorem DU {p:List UInt8} (s:Nat) (h:p.length<=64):(eE p s).length<=64:=by
 unfold eE
 rw[List.length_take,List.length_drop]
 omega
theorem K8 {ps:f0} (h:nm ps) (a b:Int):List.length (iL ps a b).1.2.2.2.2.1.2.2.2.1<=64:=by
 unfold iL
 cases hp:ps[a.toNat]? with
 | none=>exact Nat.zero_le _
 | some p=>
  have hm:=h.2 p (List.mem_of_getElem? hp)
  simp only
  split
  ·exact DT (DU _ (by rw[hm.len];omega))
  ·exact Nat.zero_le _
theorem M3 {ps:f0} (h:lp ps=0):∀ r ∈ nB ps,List.length r.2.2.2.1<=64:=fun r hr=>by
 have hv:=uz h
 rw[Dy (wG h),(Hb _).mem_iff,List.mem_map] at hr
 obtain ⟨x,hx,rfl⟩:=hr
 unfold jc at hx
 rw[List.mem_flatMap] at hx
 obtain ⟨y,hy,hx⟩:=hx
 unfold ln at hx
 split at hx
 ·cases hx
 ·rw[List.mem_singleton] at hx
  subst hx
  unfold qS
  split
  ·exact K8 hv.1 _ _
  ·obtain ⟨P,p,t,h1,Y,h3,rfl⟩:=sb.1 hy
   exact DT (DU _ (by rw[(hv.1.2 p (List.mem_of_getElem? h1)).len];omega))
theorem M4 {ps:f0} (h:lp ps=0):∀ r ∈ nB ps,rl r:=fun r hr=>by
 have:=M3 h r hr
 unfold rl
 rw[ah]
 omega
theorem K9 {ps:f0} (h:lp ps=0):(nB ps).length<=192:=by
 unfold nB
 rw[List.length_map]
 exact AJ (wG h)
def AZ (s:eZ):Prop:=DF s.2.2.1/\(∀ p ∈ (s.2.1:f0),p.length<=maxLen)/\wU s.2.2.2.1
theorem JD {s:eZ} (h:AZ s) (hv:lp s.2.1=0):Mi (nB s.2.1,s.2.2.2.1,s.2.2.2.2.1,()):=
 ⟨by have:=K9 hv;show (nB s.2.1).length<=1048576;omega,M4 hv,h.2.2⟩
def HA (s:eZ):Int:=if decide (0 < List.length s.2.1)||(decide (0 < List.length s.2.2.2.1)||decide (0 < List.length s.2.2.1.2.1)) then 1 else if ct s.2.2.2.2.1 1 100 then 0 else 3
def O1 (s:eZ):Int:=if lp s.2.1=0 then
        if qf (nB s.2.1,s.2.2.2.1,s.2.2.2.2.1,())=0 then
         if (n8 (mo s.2.2.1)).2.1=0/\(n8 (mo s.2.2.1)).1=s.2.1 then 0 else 8
        else qf (nB s.2.1,s.2.2.2.1,s.2.2.2.2.1,())
   else lp s.2.1
def qh (s:eZ):Int:=if no s.2.2.1=0 then (bif s.1 then O1 s else HA s) else no s.2.2.1
theorem FN (s:eZ) (A:Option (Bool×Unit)) (h:A=some (ct s.2.2.2.2.1 1 100,())) :
  (bif decide ((0:Int) < (List.length s.2.1:Int)) then (some ((1:Int),())) else bif decide ((0:Int) < (List.length s.2.2.2.1:Int)) then (some ((1:Int),())) else bif decide ((0:Int) < (List.length s.2.2.1.2.1:Int)) then (some ((1:Int),())) else A.bind fun r3=>bif !r3.1 then (some ((3:Int),())) else some ((0:Int),()))=some (HA s,()):=by
 have e:∀ n:Nat,decide ((0:Int) < (n:Int))=decide (0 < n):=fun n=>by rw[decide_eq_decide];omega
 rw[h,e,e,e]
 unfold HA
 cases decide (0 < List.length s.2.1) <;> cases decide (0 < List.length s.2.2.2.1) <;> cases decide (0 < List.length s.2.2.1.2.1) <;> try rfl
 simp only[Option.bind_some]
 cases ct s.2.2.2.2.1 1 100 <;> rfl
theorem DV {s:eZ} (h:AZ s):iJ.ab (s,())=some (qh s,()):=by
 refine ag (k:=0) fun k _=>(iJ.aa k _).trans ?_
 unfold iJ.p qh
 simp only[zf _ h.1,Option.bind_some]
 by_cases h0:no s.2.2.1=0
 rotate_left
 ·simp only[h0,decide_false,Bool.not_false,cond_true,if_false]
 simp only[h0,decide_true,Bool.not_true,cond_false,if_true]
 cases hu:s.1 with
 | false=>exact FN s _ (lk _ _ _)
 | true=>
  simp only[Bool.not_true,cond_false,cond_true]
  unfold O1
  rw[Eu s.2.1 h.2.1]
  simp only[Option.bind_some]
  by_cases h1:lp s.2.1=0
  rotate_left
  ·simp only[h1,decide_false,Bool.not_false,cond_true,if_false]
  simp only[h1,decide_true,Bool.not_true,cond_false,if_true]
  rw[Ev _ (by have:=AJ (wG h1);omega)]
  simp only[Option.bind_some]
  have hp:=DR _ (JD h h1)
  unfold nB at hp ⊢
  rw[hp]
  simp only[Option.bind_some]
  generalize qf ((sB s.2.1).map (·.1),s.2.2.2.1,s.2.2.2.2.1,())=c
  by_cases Y:c=0
  rotate_left
  ·simp only[Y,decide_false,Bool.not_false,cond_true,if_false]
  simp only[Y,decide_true,Bool.not_true,cond_false,if_true,EN h0,Option.bind_some,EF _ (show (mo s.2.2.1).length<=maxLen by have:=xF h0;rw[ah];omega)]
  by_cases h3:(n8 (mo s.2.2.1)).2.1=0
  rotate_left
  ·simp only[h3,decide_false,Bool.not_false,cond_true,false_and,if_false]
  have hg:=zj _ h3
  simp only[h3,decide_true,Bool.not_true,cond_false,true_and,EQ _ s.2.1 (show List.length (n8 (mo s.2.2.1)).1<=1000 by have:=hg.1;omega) (fun x hx=>by have:=hg.2 x hx;omega),Option.bind_some]
  by_cases h4:(n8 (mo s.2.2.1)).1=s.2.1
  ·simp only[h4,decide_true,Bool.not_true,cond_false,if_true]
  ·simp only[h4,decide_false,Bool.not_false,cond_true,if_false]
theorem z8 {s:eZ} (h:AZ s):jQ.ab (s,())=some (qh s,()):=by
 refine ag (k:=0) fun k _=>(jQ.aa k _).trans ?_
 unfold jQ.p qh
 simp only[ze _ h.1,Option.bind_some]
 by_cases h0:no s.2.2.1=0
 rotate_left
 ·simp only[h0,decide_false,Bool.not_false,cond_true,if_false]
 simp only[h0,decide_true,Bool.not_true,cond_false,if_true]
 cases hu:s.1 with
 | false=>exact FN s _ (ir _ _ _)
 | true=>
  simp only[Bool.not_true,cond_false,cond_true]
  unfold O1
  rw[Es s.2.1 h.2.1]
  simp only[Option.bind_some]
  by_cases h1:lp s.2.1=0
  rotate_left
  ·simp only[h1,decide_false,Bool.not_false,cond_true,if_false]
  simp only[h1,decide_true,Bool.not_true,cond_false,if_true]
  rw[Bf h1]
  simp only[Option.bind_some]
  rw[DS _ (JD h h1)]
  simp only[Option.bind_some]
  generalize qf (nB s.2.1,s.2.2.2.1,s.2.2.2.2.1,())=c
  by_cases Y:c=0
  rotate_left
  ·simp only[Y,decide_false,Bool.not_false,cond_true,if_false]
  simp only[Y,decide_true,Bool.not_true,cond_false,if_true,EO h0,Option.bind_some,EE _ (show (mo s.2.2.1).length<=maxLen by have:=xF h0;rw[ah];omega)]
  by_cases h3:(n8 (mo s.2.2.1)).2.1=0
  rotate_left
  ·simp only[h3,decide_false,Bool.not_false,cond_true,false_and,if_false]
  have hg:=zj _ h3
  simp only[h3,decide_true,Bool.not_true,cond_false,true_and,EP _ s.2.1 (show List.length (n8 (mo s.2.2.1)).1<=1000 by have:=hg.1;omega),Option.bind_some]
  by_cases h4:(n8 (mo s.2.2.1)).1=s.2.1
  ·simp only[h4,decide_true,Bool.not_true,cond_false,if_true]
  ·simp only[h4,decide_false,Bool.not_false,cond_true,if_false]
end OT
set_option linter.unusedVariables false
set_option linter.unusedSimpArgs false
set_option linter.unusedSectionVars false
namespace OT
open Go
theorem K_ {s:eZ} (hv:mI co s) (hz:zz co s<=1048576):AZ s:=by
 obtain ⟨u,ps,l,xs,n,⟨⟩⟩:=s
 obtain ⟨h1,Y,h3,h4,h5,_⟩:=hv
 replace hz:0+(zz (.U (.U u8)) ps+(zz cD l+(zz (.U aR) xs+(0+0))))<=1048576:=hz
 have Sz:zz cD l=zz (.U u8) l.1+(zz (.U u8) l.2.1+0):=rfl
 have Cn:List.length l.1<=zz (.U u8) l.1:=d0 (e:=u8) l.1
 have oA:List.length l.2.1<=zz (.U u8) l.2.1:=d0 (e:=u8) l.2.1
 refine ⟨⟨?_,?_⟩,fun p hp=>?_,?_⟩
 ·show List.length l.1<=1048576;omega
 ·show List.length l.2.1<=1048576;omega
 ·have a1:zz (.U u8) p+1<=zz (.U (.U u8)) ps:=nP (e:=.U u8) hp
  have a2:List.length p<=zz (.U u8) p:=d0 (e:=u8) p
  rw[ah];omega
 ·have a3:zz tc (([]:List Row),xs,n,())<=1048576:=by
   show (0+0)+(zz (.U aR) xs+(0+0))<=1048576
   omega
  exact (K6 (p:=(([]:List Row),xs,n,())) ⟨⟨Nat.zero_le _,fun x hx=>by cases hx⟩,h4,h5,trivial⟩ a3).2.2
def mA (l:Log) (k:Int):vL:=
 if no l=0 then (if ct k 0 (List.length l.2.1:Int) then ((0:Int),((l.1++l.2.1.take k.toNat).take (kJ (l.1++l.2.1.take k.toNat)).2,([]:List UInt8),()),()) else ((3:Int),(([]:List UInt8),([]:List UInt8),()),())) else (no l,(([]:List UInt8),([]:List UInt8),()),())
theorem Bh {l:Log} (h:DF l) (k:Int):jR.ab (l,k,())=some (mA l k,()):=by
 refine ag (k:=0) fun j _=>(jR.aa j _).trans ?_
 unfold jR.p mA
 rw[ze _ h]
 simp only[Option.bind_some]
 by_cases h0:no l=0
 rotate_left
 ·simp only[h0,decide_false,Bool.not_false,cond_true,if_false]
 simp only[h0,decide_true,Bool.not_true,cond_false,if_true]
 have hl:=(qg h0).1
 rw[ir]
 simp only[Option.bind_some]
 cases hk:ct k 0 (List.length l.2.1:Int) with
 | false=>
  unfold ct at hk
  rw[hk]
  rfl
 | true=>
  have rJ:=hk
  unfold ct at hk
  rw[hk]
  simp only[Bool.and_eq_true,decide_eq_true_eq] at hk
  simp only[Bool.not_true,cond_false,if_true]
  have:kF.ab (l,k,())=some (((l.1++l.2.1.take k.toNat).take (kJ (l.1++l.2.1.take k.toNat)).2,([]:List UInt8),()),()):=by
   refine ag (k:=0) fun j _=>(kF.aa j _).trans ?_
   unfold kF.p
   rw[if_pos hk,nS l.1 (by omega)]
   simp only[Option.bind_some,List.drop_zero]
   have h1:(l.1++l.2.1.take k.toNat).length<=16000:=by rw[List.length_append,List.length_take];omega
   rw[if_pos (cA (by rw[List.length_append] at h1;omega)),qV _ (by omega)]
   simp only[Option.bind_some,Int.toNat_natCast]
   have Y:(kJ (l.1++l.2.1.take k.toNat)).2<=(l.1++l.2.1.take k.toNat).length:=sS _ _
   rw[if_pos ⟨by omega,by omega⟩]
  rw[this]
  rfl
theorem Bi {l:Log} (h:DF l) (k:Int):jS.ab (l,k,())=some (mA l k,()):=by
 refine ag (k:=0) fun j _=>(jS.aa j _).trans ?_
 unfold jS.p mA
 rw[zf _ h]
 simp only[Option.bind_some]
 by_cases h0:no l=0
 rotate_left
 ·simp only[h0,decide_false,Bool.not_false,cond_true,if_false]
 simp only[h0,decide_true,Bool.not_true,cond_false,if_true]
 have hl:=(qg h0).1
 rw[lk]
 simp only[Option.bind_some]
 cases hk:ct k 0 (List.length l.2.1:Int) with
 | false=>
  unfold ct at hk
  rw[hk]
  rfl
 | true=>
  have rJ:=hk
  unfold ct at hk
  rw[hk]
  simp only[Bool.and_eq_true,decide_eq_true_eq] at hk
  simp only[Bool.not_true,cond_false,if_true]
  rw[if_pos hk,nY l.1 (by omega)]
  simp only[Option.bind_some,List.drop_zero]
  have h1:(l.1++l.2.1.take k.toNat).length<=16000:=by rw[List.length_append,List.length_take];omega
  rw[if_pos (cA (by rw[List.length_append] at h1;omega)),qU _ (by omega)]
  simp only[Option.bind_some,Int.toNat_natCast]
  have Y:(kJ (l.1++l.2.1.take k.toNat)).2<=(l.1++l.2.1.take k.toNat).length:=sS _ _
  rw[if_pos ⟨by omega,by omega⟩,nY _ (by rw[List.length_take];omega)]
  rfl
abbrev R3:Log:=(([]:List UInt8),([]:List UInt8),())
abbrev HB (c:Int):fW:=(c,(0:Int),(false,([]:List (List UInt8)),R3,([]:List Tx),(0:Int),()),())
def qi (s:eZ) (k:Int):fW:=
 if qh s=0 then (if s.1 then (if (mA s.2.2.1 k).1=0 then ((0:Int),(0:Int),(false,([]:List (List UInt8)),(mA s.2.2.1 k).2.1,([]:List Tx),s.2.2.2.2.1,()),()) else HB (mA s.2.2.1 k).1) else HB 8) else HB (qh s)
theorem M5 (c:Int):kt.ab (c,())=some (HB c,()):=by
 refine ag (k:=0) fun j _=>(kt.aa j _).trans ?_
 rfl
theorem Bj {s:eZ} (h:AZ s) (k:Int):iK.ab (s,k,())=some (qi s k,()):=by
 refine ag (k:=0) fun j _=>(iK.aa j _).trans ?_
 unfold iK.p qi
 rw[z8 h]
 simp only[Option.bind_some,M5]
 by_cases h0:qh s=0
 rotate_left
 ·simp only[h0,decide_false,Bool.not_false,cond_true,if_false]
 simp only[h0,decide_true,Bool.not_true,cond_false,if_true]
 cases hu:s.1 with
 | false=>rfl
 | true=>
  simp only[Bool.not_true,cond_false,if_true]
  rw[Bh h.1]
  simp only[Option.bind_some]
  by_cases h1:(mA s.2.2.1 k).1=0
  ·simp only[h1,decide_true,Bool.not_true,cond_false,if_true]
  ·simp only[h1,decide_false,Bool.not_false,cond_true,if_false]
theorem Bk {s:eZ} (h:AZ s) (k:Int):gO.ab (s,k,())=some (qi s k,()):=by
 refine ag (k:=0) fun j _=>(gO.aa j _).trans ?_
 unfold gO.p qi
 rw[DV h]
 simp only[Option.bind_some]
 by_cases h0:qh s=0
 rotate_left
 ·simp only[h0,decide_false,Bool.not_false,cond_true,if_false]
 simp only[h0,decide_true,Bool.not_true,cond_false,if_true]
 cases hu:s.1 with
 | false=>rfl
 | true=>
  simp only[Bool.not_true,cond_false,if_true]
  rw[Bi h.1]
  simp only[Option.bind_some]
  by_cases h1:(mA s.2.2.1 k).1=0
  ·simp only[h1,decide_true,Bool.not_true,cond_false,if_true]
  ·simp only[h1,decide_false,Bool.not_false,cond_true,if_false]
theorem HC {l:Log} (h:DF l) (k:Int):List.length (mA l k).2.1.1<=2097152/\(mA l k).2.1.2.1=[]:=by
 unfold mA
 split
 ·split
  ·refine ⟨?_,rfl⟩
   show ((l.1++l.2.1.take k.toNat).take _).length<=2097152
   have:=h.1
   have:=h.2
   rw[List.length_take,List.length_append,List.length_take]
   omega
  ·exact ⟨Nat.zero_le _,rfl⟩
 ·exact ⟨Nat.zero_le _,rfl⟩
theorem DW {s:eZ} (h:AZ s) (k:Int):zz cQ (qi s k)<=2097152:=by
 have hz:∀ (c v:Int) (u:Bool) (l:Log) (n:Int),zz cQ (c,v,(u,([]:List (List UInt8)),l,([]:List Tx),n,()),())=zz cD l:=fun c v u l n=>by
  show 0+(0+((0+(0+(zz cD l+(0+(0+0)))))+0))=_
  omega
 have hl:∀ l:Log,zz cD l=List.length l.1+List.length l.2.1:=fun l=>by
  show (List.length l.1+d8 (zz u8) l.1)+((List.length l.2.1+d8 (zz u8) l.2.1)+0)=_
  have h1:d8 (zz u8) l.1=0:=oI _ (fun _=>rfl) l.1
  have Y:d8 (zz u8) l.2.1=0:=oI _ (fun _=>rfl) l.2.1
  omega
 unfold qi
 split
 ·split
  ·split
   ·refine Nat.le_trans (Nat.le_of_eq (hz _ _ _ _ _)) ?_
    rw[hl]
    have:=HC h.1 k
    rw[this.2]
    have:=this.1
    simp only[List.length_nil]
    omega
   ·exact Nat.zero_le _
  ·exact Nat.zero_le _
 ·exact Nat.zero_le _
theorem zn (v:bM.Arg) (hv:IL bM.ps v):bM.ab v=some (true,()):=by
 obtain ⟨s,n,⟨⟩⟩:=v
 obtain ⟨O2,_,_⟩:=hv
 refine ag (k:=0) fun k _=>(bM.aa k _).trans ?_
 show bM.p _=_
 unfold bM.p
 simp only[GY s 1048576 O2 (show (0:Int)<=1048576 by omega) (by omega),Option.bind_some]
 by_cases s9:((zz co s:Nat):Int)<=1048576
 rotate_left
 ·have:cy (1048576) (zz co s)=-1:=if_neg s9
  simp only[this]
  rfl
 have e1:cy (1048576) (zz co s)=1048576 - ((zz co s:Nat):Int):=if_pos s9
 have n1:¬ (1048576 - ((zz co s:Nat):Int) < 0):=by omega
 have h1:AZ s:=K_ O2 (by omega)
 have hR:=DW h1 n
 have hB:im=4611686018427387904:=rfl
 obtain ⟨k',y,a1,a2,a3,a4⟩:=Bc (qi s n) 1 (by omega) (by omega)
 obtain ⟨l1,w1,b1,c1,d1⟩:=MS s 1 (by omega) (by omega)
 simp only[e1,n1,decide_false,cond_false,GZ s (by omega),Bj h1 n,Bk h1 n,vQ (qi s n) (by omega),a1,a2,show ¬ k' < 0 by omega,vP s (by omega),b1,show ¬ l1 < 0 by omega,Option.bind_some,Bool.not_true,decide_true,cond_true]
end OT
namespace Go.Proofs.YtledflocbohofaaGreat.crashStore
open Go Go.ChangeShapes Go.WideShapes Go.ChangeAt Go.RowKit
theorem own:ownKnob Tryz.prog.godebug=none:=by kernel_rfl
theorem laidOut:laidOutB Tryz.prog=true:=by kernel_rfl
theorem Gw:∀ v,OT.IL OT.bM.ps v->∃ u,OT.bM.ab v=some (true,u):=fun v hv=>⟨(),OT.zn v hv⟩
theorem DX {H:Type} {enc:TypeId×Value->H} {P:Program} {w:World} {base:Nat} {sp:Nat->Bool} {held:Bool}:∀ (ts:List TypeId) (vs:List Value) (ds:List (DataW H)) (ps:List MemPlace),DataW.TrodAll enc P w base sp held ts vs ds ps->ds.length=ts.length
 | [],[],[],_,_=>rfl
 | _::ts,_::vs,_::ds,_,⟨_,q,_,h,_⟩=>congrArg (·+1) (DX ts vs ds q h)
 | [],_::_,_,_,h=>h.elim
 | [],[],_::_,_,h=>h.elim
 | _::_,[],_,_,h=>h.elim
 | _::_,_::_,[],_,h=>h.elim
set_option maxRecDepth 100000 in
theorem lifted (os:Os) (started:os.Started) (H:Type) (enc:TypeId×Value->H) :
  ReturnsInHanded {} Tryz.checked os 6 .any (Rows.fnExactCrashStoreSpec.pre6 enc Tryz.prog Tryz.f6 Rows.fnExactCrashStoreRow.domain false) (Rows.fnExactCrashStoreSpec.post enc Tryz.prog Tryz.f6 false true false false):=by
 refine returnsInHanded_of_change (C:=Tryz.checked) own started (by kernel_rfl) Tryz.func6
  (ChangeSpec.witness6 (enc:=enc) (C:=Tryz.checked) false ⟨#[],#[.agg #[.bool false,.slice none 0 0,.slice none 0 0,.slice none 0 0,.slice none 0 0,.int .i64 0],.int .i64 0],[]⟩ 8 (by kernel_rfl) (by kernel_rfl) (by kernel_rfl) (by kernel_rfl)) ?_
 intro W base args ds gs before P0 hW Uo _
 have Cf:∀ (j:Nat) t v,Tryz.f6.params[j]?=some t->args[j]?=some v->Value.okWide Tryz.prog W .any base t v:=P0
 have Q9:=hW
 obtain ⟨p,q,Am,hV,rfl,UK,lU⟩:=hW
 have hA:DataW.TrodAll enc Tryz.prog W 0 (fun _=>true) true Tryz.f6.params.toList args.toList ds p:=Am
 obtain ⟨rfl,rfl⟩:=trodVars_none hV
 simp only[List.append_nil] at Q9
 have hl:OT.sq Tryz.prog OT.bM.ps Tryz.f6.params.toList=true:=by kernel_rfl
 have hc:=OT.IN (enc:=enc) (cap:=false) (ps:=OT.bM.ps) (Fn:=OT.bM.ab) OT.bM.ok.1 Gw hl hA (b0:=base) (fun j t v ht hv=>Cf j t v (by simpa using ht) (by simpa using hv))
 simp only[Array.toArray_toList] at hc
 refine hc.mono fun e W' ⟨he,hb⟩=>?_
 refine ⟨_,he,OT.J9 (C:=Tryz.checked) laidOut rfl hl (by kernel_rfl) Tryz.underlying4 rfl Q9 hA ?_ hb⟩
 have hlen:ds.length=2:=DX _ _ _ _ hA
 match ds,hlen with
 | [d1,d2],_=>rfl
set_option maxHeartbeats 8000000 in
theorem closed:joinedFacts Tryz.prog 6 Tryz.f6 Rows.fnExactCrashStoreSpec Rows.fnExactCrashStoreRow=true:=by
 unfold joinedFacts
 simp only[Bool.and_eq_true]
 repeat' apply And.intro
 all_goals (as_aux_lemma=>kernel_rfl)
theorem lu:Rows.fnExactCrashStoreRow.holds Tryz.pinned (OpenSpec.ofChange Rows.fnExactCrashStoreSpec):=
 OpenClaim.holds_of_wide 6 Tryz.f6 rfl rfl rfl rfl rfl rfl rfl ⟨rfl,rfl,rfl,rfl,rfl⟩ rfl rfl rfl rfl rfl (by kernel_rfl) Tryz.func6 closed
  (of_decide_eq_true (by kernel_rfl)) (by unfold Func.isWrapper;first | (rw[if_pos (by decide +kernel)];kernel_rfl) | (rw[if_neg (by decide +kernel)];exact ⟨rfl,rfl⟩))
  (fun os started H enc _=>lifted os started H enc)
theorem proved:Rows.FnExactCrashStoreSaid:=lu
#print axioms proved
end Go.Proofs.YtledflocbohofaaGreat.crashStore
