/- The proof's parts, merged: FnLocks  the law.. No conditions but those that each states. -/
import Derived.Test.YtaebhfnbgkbdhaaQe
set_option linter.unusedVariables false
set_option linter.unusedSimpArgs false
set_option linter.unusedSectionVars false
namespace OT
open Go
def lg (ts:List Tx) (k:Key):Key:=if cu ts=0 then (if gv k then ((0:Int),c_ ts k,()) else ((3:Int),(0:Int),())) else (cu ts,(0:Int),())
theorem nl {ts:List Tx} (h:fx ts) (k:Key):fQ.aa (ts,k,())=some (lg ts k,()):=by
 refine ah (k:=0) λq _=>(fQ.ab q _).trans ?_
 unfold fQ.p lg
 simp only
 rw[lY ts h]
 simp only[Option.bind_some]
 by_cases h0:cu ts=0
 rotate_left
 ·rw[decide_eq_false h0,Bool.not_false,cond_true,if_neg h0]
 rw[decide_eq_true h0,Bool.not_true,cond_false,if_pos h0,zI k]
 simp only[Option.bind_some]
 cases hk:gv k with
 | false=>rfl
 | true=>
  rw[Bool.not_true,cond_false,tI ts k h]
  rfl
theorem xV {ts:List Tx} (h:fx ts) (k:Key):h_.aa (ts,k,())=some (lg ts k,()):=by
 refine ah (k:=0) λq _=>(h_.ab q _).trans ?_
 unfold h_.p lg
 simp only
 rw[vF ts h]
 simp only[Option.bind_some]
 by_cases h0:cu ts=0
 rotate_left
 ·rw[decide_eq_false h0,Bool.not_false,cond_true,if_neg h0]
 rw[decide_eq_true h0,Bool.not_true,cond_false,if_pos h0,tB k]
 simp only[Option.bind_some]
 cases hk:gv k with
 | false=>rfl
 | true=>
  rw[Bool.not_true,cond_false,tD ts k h]
  rfl
theorem wE (o:Op) (h:rl o.2.2.1):gJ.aa (o,())=some (iN o,()):=by
 refine ah (k:=0) λq _=>(gJ.ab q _).trans ?_
 unfold gJ.p
 simp only
 rw[xy o h]
 rfl
theorem xW {c:Change} (h:k9 c=0) (hc:cl c):cd.aa ([c],())=some (((0:Int),[gc c],()),()):=by
 refine ah (k:=3) λk hk=>(cd.ab k _).trans ?_
 obtain ⟨j,rfl⟩:∃ j,k=j+2:=⟨k - 2,by omega⟩
 show cd.p (λv=>au (λw v=>cd.b0 w (cd.q0 ([c],())) ([c],()) v) (j+2) v) _=_
 unfold cd.p
 rw[decide_eq_false (show ¬ (60:Int) < (List.length [c]:Int) by simp),cond_false]
 show au _ (j+2) (0:Int)=_
 rw[lK]
 unfold cd.b0
 show ((bV.aa (c,())).bind λco=>bif !decide (co.1=(0:Int)) then (some ((co.1,([]:List Change),()),())) else au (λw v=>cd.b0 w (cd.q0 ([c],())) ([c],()) v) (j+1) (ap ((0:Int)+1)))=_
 rw[sj c hc,h]
 simp only[Option.bind_some,decide_true,Bool.not_true,cond_false]
 show au _ (j+1) (1:Int)=_
 rw[lK]
 show cd.q0 ([c],()) ()=_
 unfold cd.q0
 rw[CO [c] (by simp)]
 rfl
theorem xX {rows:List Row} {ts:List Tx} (hg:Good rows) (Oc:rows.length<=60) (hr:∀ r ∈ rows,rl r) (ht:fx ts) (h0:cu ts=0):ic.aa (rows,ts,())=some (((0:Int),(fS rows ts:Int),()),()):=by
 refine ah (k:=0) λq _=>(ic.ab q _).trans ?_
 unfold ic.p
 simp only
 rw[pN rows (by rw[ak];omega) hr,q9 hg Oc,lY ts ht,h0]
 simp only[Option.bind_some]
 rw[xw rows ts (by omega) ht]
 simp only[Option.bind_some,decide_true,Bool.not_true,cond_false]
 unfold fS cL
 rw[List.length_map]
theorem Dc (d:Change):Ty.eq bk d d=true:=by
 have h1:=sw d.2.1
 have Y:=sw d.2.2.2.1
 show (decide (d.1=d.1)&&(Ty.eq aw d.2.1 d.2.1&&(decide (d.2.2.1=d.2.2.1)&&(Ty.eq aw d.2.2.2.1 d.2.2.2.1&&true))))=true
 rw[h1,Y,decide_eq_true rfl,decide_eq_true rfl]
 rfl
theorem Dd (d:Key):Ty.eq aA d d=true:=by
 show (decide (d.1=d.1)&&(decide (d.2.1=d.2.1)&&true))=true
 rw[decide_eq_true rfl,decide_eq_true rfl]
 rfl
theorem AV {rows:List Row} {ts:List Tx} {o:Op} (h1:(jx rows ts o).1=0) (Y:(jx rows ts o).2.1=true) (vQ:fx ts) :
  ∃ (c:Change) (kx:List Tx),(jx rows ts o).2.2.1=c/\Good rows/\rows.length<=13/\cu ts=0/\cl c/\eM c=0/\k9 c=0/\ja rows c=true/\oV ts o.2.1 c=((0:Int),kx,())/\fx kx/\cu kx=0/\fS (dI rows c) kx<=12 /\
   (c_ ts (o.2.2.1.1,o.2.2.1.2.1,())=0\/c_ ts (o.2.2.1.1,o.2.2.1.2.1,())=o.2.1)/\c_ kx (o.2.2.1.1,o.2.2.1.2.1,())=o.2.1/\gv (o.2.2.1.1,o.2.2.1.2.1,())=true:=by
 unfold jx dp at h1 Y ⊢
 by_cases q1:dQ rows=0
 rotate_left
 ·rw[if_neg q1] at h1;exact absurd h1 q1
 rw[if_pos q1] at h1 Y ⊢
 by_cases q2:cu ts=0
 rotate_left
 ·rw[if_neg q2] at h1;exact absurd h1 q2
 rw[if_pos q2] at h1 Y ⊢
 by_cases q3:iN o=0
 rotate_left
 ·rw[if_neg q3] at h1;exact absurd h1 q3
 rw[if_pos q3] at h1 Y ⊢
 obtain ⟨k1,k2,k3⟩:=xK Y
 rw[k3] at h1 Y ⊢
 obtain ⟨hg,Pe⟩:=jb q1
 have qd:=BE q3 k1
 obtain ⟨j,hj,iq,tK⟩:=at_mem k2
 obtain ⟨t1,t2,t3,t4,t5⟩:=Gf hg q2 qd hj tK Y
 have hn:=Da hg q2 qd hj iq tK Y
 obtain ⟨r1,r2,r3,r4,r5,r6⟩:=ld Y
 obtain ⟨w1,w2,w3,w4⟩:=j9 hg qd r2
 have e:kH ts j (aU rows o).1=ts.set j (dJ ts[j] (aU rows o).1):=by
  unfold kH
  rw[List.getElem?_eq_getElem hj]
 rw[e] at hn
 have fl:k9 (aU rows o).1=0:=by
  unfold k9
  rw[if_pos w1,Bool.and_assoc,if_neg (by rw[r5];decide)]
 have hlen:rows.length<=13:=by
  obtain ⟨i1,i2⟩:=uu hg w1 w3
  have J:=px (xs:=ts.set j (dJ ts[j] (aU rows o).1)) (fD hg w1).1
  have a2:=oN (dI rows (aU rows o).1) (gc (aU rows o).1)
  rw[i2] at a2
  unfold fS at t2
  omega
 have De:fx (ts.set j (dJ ts[j] (aU rows o).1)):=by
  refine ⟨by rw[List.length_set];exact vQ.1,λx hx=>?_⟩
  rcases List.mem_or_eq_of_mem_set hx with g | g
  ·exact vQ.2 x g
  ·rw[g]
   have T:=gp t1
   have dy:dJ ts[j] (aU rows o).1 ∈ ts.set j (dJ ts[j] (aU rows o).1):=by
    rw[List.mem_iff_getElem]
    exact ⟨j,by rw[List.length_set];exact hj,List.getElem_set_self _⟩
   have y0:=vQ.2 _ (List.getElem_mem hj)
   refine ⟨by have:=T.qZ _ dy;omega,y0.2.1,by have:=T.locks _ dy;omega,λd hd=>?_⟩
   have hd:d ∈ (ts[j]).2.1++[(aU rows o).1]:=hd
   rcases List.mem_append.1 hd with g | g
   ·exact y0.2.2.2 d g
   ·rw[List.mem_singleton.1 g]
    exact w4
 exact ⟨(aU rows o).1,_,by rw[r6],hg,hlen,q2,w4,w1,fl,w3,hn,De,t1,t2,t3,t4,t5⟩
theorem Df (v:dB.Arg) (hv:Ee dB.ps v):dB.aa v=some (true,()):=by
 obtain ⟨c,⟨⟩⟩:=v
 refine ah (k:=0) λk _=>(dB.ab k _).trans ?_
 show dB.p _=_
 unfold dB.p
 rw[Gd]
 simp only[Option.bind_some]
 by_cases hl:(1048576:Int) < (c.length:Int)
 ·rw[decide_eq_true hl,cond_true]
 rw[decide_eq_false hl,cond_false]
 obtain ⟨rows,ts,o,e1,J,a2,⟨n,hn,hS⟩,a4⟩:=Db c (by omega)
 obtain ⟨J8,k2,e2,De⟩:=AU c (by omega)
 have vQ:fx ts:=hS.fx (by omega)
 have im:=LR a4
 have wM:∀ r ∈ rows,rl r:=λr hr=>LR (a2 r hr)
 rw[e1]
 simp only[Option.bind_some]
 rw[CV rows ts o (by omega) wM vQ im,CU rows ts o (by omega) wM vQ im]
 simp only[Option.bind_some]
 rw[Dc,beq_self_eq_true]
 simp only[decide_true,Bool.not_true,cond_false]
 rw[e2]
 simp only[Option.bind_some]
 rw[nl De,xV De]
 simp only[Option.bind_some]
 rw[Dd,vH o im,wE o im]
 simp only[Option.bind_some,decide_true,Bool.not_true,cond_false]
 by_cases h1:(jx rows ts o).1=0
 rotate_left
 ·rw[decide_eq_false h1,Bool.not_false,cond_true]
 rw[decide_eq_true h1,Bool.not_true,cond_false]
 cases Y:(jx rows ts o).2.1 with
 | false=>rfl
 | true=>
  obtain ⟨d,kx,hd,hg,Pf,vo,d1,d2,d3,d4,KO,Gg,Gh,nw,wT,eF,sF⟩:=AV h1 Y vQ
  rw[Bool.not_true,cond_false,hd]
  obtain ⟨i1,i2⟩:=uu hg d2 d4
  have HD:=fD hg d2
  have Bs:=oN rows d
  have hA:bs.aa (rows,[d],())=some (((0:Int),dI rows d,()),()):=by
   rw[so rows [d] (by rw[ak];omega) wM (by simp) (λx hx=>by rw[List.mem_singleton.1 hx];exact d1),vG hg (λx hx=>by rw[List.mem_singleton.1 hx];exact d2) (by simp only[List.length_cons,List.length_nil];omega)]
   simp only[cE]
   rw[if_pos d4]
  have Od:eM (gc d)=0:=jP (cs:=[d]) (λx hx=>by rw[List.mem_singleton.1 hx];exact d2) (gc d) (by show gc d ∈ [gc d];exact List.mem_singleton.2 rfl)
  have hB:bs.aa (dI rows d,[gc d],())=some (((0:Int),rows,()),()):=by
   rw[so (dI rows d) [gc d] (by rw[ak];omega) (BC HD) (by simp) (λx hx=>by rw[List.mem_singleton.1 hx];exact ⟨d1.2,d1.1⟩),vG HD (λx hx=>by rw[List.mem_singleton.1 hx];exact Od) (by simp only[List.length_cons,List.length_nil];omega)]
   simp only[cE]
   rw[if_pos i1,i2]
  rw[zY ts _ d vQ d1,KO]
  simp only[Option.bind_some]
  rw[hA]
  simp only[Option.bind_some]
  rw[xW d3 d1]
  simp only[Option.bind_some]
  rw[hB]
  simp only[Option.bind_some]
  rw[nl vQ]
  simp only[Option.bind_some]
  rw[xX HD (by omega) (BC HD) Gg Gh]
  simp only[Option.bind_some]
  rw[lY kx Gg,Gh]
  simp only[Option.bind_some,decide_true,cond_true]
  rw[nl Gg]
  simp only[Option.bind_some]
  have g1:(lg kx (o.2.2.1.1,o.2.2.1.2.1,())).2.1=o.2.1:=by
   unfold lg
   rw[if_pos Gh,if_pos sF]
   exact eF
  have g2:(lg ts (o.2.2.1.1,o.2.2.1.2.1,())).2.1=c_ ts (o.2.2.1.1,o.2.2.1.2.1,()):=by
   unfold lg
   rw[if_pos vo,if_pos sF]
  have g3:(fS (dI rows d) kx:Int)<=12:=by omega
  rw[g1,g2,decide_eq_true rfl,cond_true,EN rows rows (by omega),decide_eq_true rfl]
  simp only[Option.bind_some,cond_true]
  rw[decide_eq_true g3]
  by_cases hz:c_ ts (o.2.2.1.1,o.2.2.1.2.1,())=0
  ·rw[decide_eq_true hz]
   rfl
  ·rw[decide_eq_false hz,cond_false,decide_eq_true (wT.resolve_left hz)]
   rfl
end OT
