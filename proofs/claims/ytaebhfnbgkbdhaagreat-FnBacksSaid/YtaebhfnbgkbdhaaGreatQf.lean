/- The proof's parts, merged: An op checked  the program and the reference alike.. No conditions but those that each states. -/
import Derived.Test.YtaebhfnbgkbdhaaGreatQe
set_option linter.unusedVariables false
set_option linter.unusedSimpArgs false
namespace OT
open Go
def gp (k:Int):Bool:=decide (k=2)||(decide (k=3)||decide (k=4))
def sV (k:Int):Bool:=decide (k=1)||decide (k=9)
abbrev qO:Row:=((0:Int),(0:Int),(0:Int),([]:List UInt8),())
abbrev noChange:Change:=(false,qO,false,qO,())
def fO (o:Op):Int:=
 if !bK o.1 1 9||(sV o.1&&!decide (o.2.1=0))||(!gp o.1&&!Ty.eq ak o.2.2.1 ((0:Int),(0:Int),(0:Int),([]:List UInt8),()))||(!decide (o.1=6)&&!decide (o.2.2.2.1=0))||(decide (o.1=4)&&!(decide (o.2.2.1.2.2.1=0)&&decide (o.2.2.1.2.2.2.1=([]:List UInt8)))) then 1
 else if (!sV o.1&&!bK o.2.1 1 99)||!bK o.2.2.2.1 0 7 then 3
 else if gp o.1 then cY o.2.2.1 else 0
theorem IT (k:Int):gx.ab (k,())=some (gp k,()):=by
 refine ah (k:=0) λf _=>(gx.ae f _).trans ?_
 grind [gx.p,gp]
theorem uz (k:Int):eD.ab (k,())=some (gp k,()):=by
 refine ah (k:=0) λf _=>(eD.ae f _).trans ?_
 show eD.p _=_
 unfold eD.p gp
 simp only[jc,Option.bind_some]
 congr 2
 grind
theorem E4 (o:Op) (h:rl o.2.2.1):gL.ab (o,())=some (fO o,()):=by
 refine ah (k:=0) λf _=>(gL.ae f _).trans ?_
 show gL.p _=_
 unfold gL.p fO sV bK
 simp only[kW,DE,IT,pe _ h,Option.bind_some]
 grind
theorem CV (o:Op):gF.ab (o,())=some (!(!bK o.1 1 9||(sV o.1&&!decide (o.2.1=0))||(!gp o.1&&!Ty.eq ak o.2.2.1 ((0:Int),(0:Int),(0:Int),([]:List UInt8),()))||(!decide (o.1=6)&&!decide (o.2.2.2.1=0))||(decide (o.1=4)&&!(decide (o.2.2.1.2.2.1=0)&&decide (o.2.2.1.2.2.2.1=([]:List UInt8))))),()):=by
 refine ah (k:=0) λf _=>(gF.ae f _).trans ?_
 show gF.p _=_
 unfold gF.p sV bK
 have h4:decide (o.1=4)=true->gp o.1=true:=λh=>by grind [gp]
 simp only[jc,uz,Option.bind_some]
 generalize (decide ((1:Int)<=o.1)&&decide (o.1<=9))=b1
 generalize decide (o.1=1)=b2
 generalize decide (o.1=9)=b3
 generalize decide (o.1=4)=b4 at *
 generalize decide (o.1=6)=b5
 generalize gp o.1=b6 at *
 generalize decide (o.2.1=0)=b7
 generalize Ty.eq ak o.2.2.1 ((0:Int),(0:Int),(0:Int),([]:List UInt8),())=b8
 generalize decide (o.2.2.2.1=0)=b9
 generalize decide (o.2.2.1.2.2.1=0)=c1
 generalize decide (o.2.2.1.2.2.2.1=([]:List UInt8))=c2
 cases b1
 ·rfl
 cases b4
 ·cases b2 <;> cases b3 <;> cases b7 <;> cases b6 <;> cases b8 <;> cases b5 <;> cases b9 <;> rfl
 ·have:=h4 rfl
  subst this
  cases b2 <;> cases b3 <;> cases b7 <;> cases b8 <;> cases b5 <;> cases b9 <;> cases c1 <;> cases c2 <;> rfl
theorem Hk (o:Op) (h:rl o.2.2.1):i_.ab (o,())=some (fO o,()):=by
 refine ah (k:=0) λf _=>(i_.ae f _).trans ?_
 show i_.p _=_
 unfold i_.p fO
 rw[CV]
 simp only[Option.bind_some]
 generalize (!bK o.1 1 9||(sV o.1&&!decide (o.2.1=0))||(!gp o.1&&!Ty.eq ak o.2.2.1 ((0:Int),(0:Int),(0:Int),([]:List UInt8),()))||(!decide (o.1=6)&&!decide (o.2.2.2.1=0))||(decide (o.1=4)&&!(decide (o.2.2.1.2.2.1=0)&&decide (o.2.2.1.2.2.2.1=([]:List UInt8)))))=b0
 unfold sV bK
 simp only[jc,uz,pc _ h,Option.bind_some]
 grind
theorem K9 {o:Op} (h:fO o=0) (hr:gp o.1=true):cY o.2.2.1=0:=by
 grind [fO]
theorem zO {o:Op} (h:fO o=0):bK o.1 1 9=true/\bK o.2.2.2.1 0 7=true:=by
 grind [fO]
def wv (c:Change) (x:Row):Bool:=decide (x.1=(ck c).2)&&(!decide (x.1=0)&&(!c.2.2.1||decide (c.2.2.2.1.2.2.1 < (List.length x.2.2.2.1:Int))))
def BY (xs:List Row) (c:Change):Int:=
 if c.2.2.1&&(!bK (ck c).2 1 3||(decide (8 < c.2.2.2.1.2.2.1)||!decide (c.2.2.2.1.2.2.2.1=([]:List UInt8)))) then 10 else if xs.any (wv c) then 8 else 0
def np (xs:List Row) (t:Int):Int×Bool:=match xs.find? λx=>decide (x.1=0)&&decide (x.2.1=t) with
 | some x=>(x.2.2.1,true)
 | none=>(0,false)
def uA (xs:List Row) (c:Change):Int:=
 if (ck c).1=0 then BY xs c else if c.2.2.1 then (if (np xs (ck c).1).2 then (if (np xs (ck c).1).1 < (List.length c.2.2.2.1.2.2.2.1:Int) then 10 else 0) else 4) else 0
theorem E5 (xs:List Row) (c:Change) (hl:xs.length<=1048576):db.ab (xs,c,())=some (BY xs c,()):=by
 refine ah (k:=1048577) λk hk=>(db.ae k _).trans ?_
 unfold db.p
 have lp:db.r0 k (xs,c,()) (ck c).2 (0:Int)=some (if xs.any (wv c) then 8 else 0,()):=by
  have:=bJ (B:=λself v=>db.B0 0 self (λz=>db.Q0 0 (xs,c,()) (ck c).2 z) (xs,c,()) (ck c).2 v) xs (λ(_:Unit) (i:Int)=>i) (λ_ _ x=>if wv c x then .inl ((8:Int),()) else .inr ()) (λ_=>((0:Int),())) (λ_ _=>True) (by rw[al];omega)
   (λi hi s self _=>by
    grind [db.b0,wv])
   (λ_ _ _ _ _ _=>trivial) (λs self _=>by
    show db.b0 _ _ _ _ _=_
    unfold db.b0
    simp only[Int.lt_irrefl,decide_false,cond_false]
    rfl) () trivial k (by omega)
  rw[jq] at this
  refine Eq.trans this ?_
  grind
 grind [pg,jc,BY,bK]
theorem CW (xs:List Row) (c:Change) (hl:xs.length<=1048576):cP.ab (xs,c,())=some (BY xs c,()):=by
 refine ah (k:=1048577) λk hk=>(cP.ae k _).trans ?_
 unfold cP.p
 have lp:cP.r0 k (xs,c,()) (0:Int)=some (if xs.any (wv c) then 8 else 0,()):=by
  have:=bJ (B:=λself v=>cP.B0 0 self (λz=>cP.Q0 0 (xs,c,()) z) (xs,c,()) v) xs (λ(_:Unit) (i:Int)=>i) (λ_ _ x=>if wv c x then .inl ((8:Int),()) else .inr ()) (λ_=>((0:Int),())) (λ_ _=>True) (by rw[al];omega)
   (λi hi s self _=>by
    grind [cP.b0,wv,qJ,nk])
   (λ_ _ _ _ _ _=>trivial) (λs self _=>by
    show cP.b0 _ _ _ _=_
    unfold cP.b0
    simp only[Int.lt_irrefl,decide_false,cond_false]
    rfl) () trivial k (by omega)
  rw[jq] at this
  refine Eq.trans this ?_
  grind
 grind [kW,BY,bK,ck]
theorem E6 (xs:List Row) (t:Int) (hl:xs.length<=1048576):eW.ab (xs,t,())=some ((np xs t).1,(np xs t).2,()):=by
 refine ah (k:=1048577) λk hk=>(eW.ae k _).trans ?_
 have:=bJ (B:=λself v=>eW.B0 0 self (λz=>eW.Q0 0 (xs,t,()) z) (xs,t,()) v) xs (λ(_:Unit) (i:Int)=>i) (λ_ _ x=>if decide (x.1=0)&&decide (x.2.1=t) then .inl (x.2.2.1,true,()) else .inr ()) (λ_=>((0:Int),false,())) (λ_ _=>True) (by rw[al];omega)
  (λi hi s self _=>by
   grind [eW.b0])
  (λ_ _ _ _ _ _=>trivial) (λs self _=>by
   show eW.b0 _ _ _ _=_
   unfold eW.b0
   simp only[Int.lt_irrefl,decide_false,cond_false]
   rfl) () trivial k (by omega)
 refine Eq.trans this ?_
 have main:∀ (xs:List Row) (i:Nat),aW (λ_ (_:Unit) x=>if decide (x.1=0)&&decide (x.2.1=t) then .inl (x.2.2.1,true,()) else .inr ()) (λ_=>((0:Int),false,())) i xs ()=((np xs t).1,(np xs t).2,()):=by
  intro xs
  induction xs <;> grind [aW,np]
 rw[main]
theorem DL {xs:List Row} (hu:up xs) (t:Int):np xs t=if fm xs (0,t) then ((xs[pos xs (0,t)]?.map λx=>x.2.2.1).getD 0,true) else (0,false):=by
 have key:(λx:Row=>decide (x.1=0)&&decide (x.2.1=t))=λx=>decide (rk x=(0,t)):=by
  grind [rk]
 unfold np
 rw[key]
 cases hf:fm xs (0,t) with
 | true=>
  obtain ⟨hp,he⟩:=kX hf
  have:xs.find? (λx=>decide (rk x=(0,t)))=some xs[pos xs (0,t)]:=by
   rw[List.find?_eq_some_iff_getElem]
   refine ⟨by simp[he],pos xs (0,t),hp,rfl,λj hj=>?_⟩
   have:=rP xs (0,t) j (by omega) hj
   grind [lU]
  grind
 | false=>
  have:xs.find? (λx=>decide (rk x=(0,t)))=none:=by
   rw[List.find?_eq_none]
   intro x hx
   simp only[decide_eq_true_eq]
   intro e
   obtain ⟨i,hi,rfl⟩:=List.mem_iff_getElem.1 hx
   have h1:fm xs (0,t)=true:=by
    rcases Nat.lt_trichotomy (pos xs (0,t)) i with h | h | h
    ·grind [oC,up,List.pairwise_iff_getElem]
    ·grind [fm]
    ·exfalso
     have:=rP xs (0,t) i hi h
     grind [lU]
   grind
  rw[this]
  rfl
theorem CX (xs:List Row) (t:Int) (hu:up xs) (hl:xs.length<=1048576) (hv:∀ x ∈ xs,0<=x.2.2.1):gt.ab (xs,t,())=some (if (np xs t).2 then (np xs t).1 else -1,()):=by
 refine ah (k:=0) λk hk=>(gt.ae k _).trans ?_
 grind [gt.p,oD,DL,ly,kX]
theorem IU (xs:List Row) (c:Change) (hl:xs.length<=1048576):jb.ab (xs,c,())=some (uA xs c,()):=by
 refine ah (k:=0) λk hk=>(jb.ae k _).trans ?_
 grind [jb.p,uA,ck,qJ,nk,CW,E6]
theorem E7 (xs:List Row) (c:Change) (hu:up xs) (hl:xs.length<=1048576) (hv:∀ x ∈ xs,0<=x.2.2.1):ja.ab (xs,c,())=some (uA xs c,()):=by
 refine ah (k:=0) λk hk=>(ja.ae k _).trans ?_
 show ja.p _=_
 unfold ja.p uA
 simp only[pg,E5 xs c hl,CX xs _ hu hl hv,Option.bind_some]
 grind [DL]
end OT
set_option linter.unusedVariables false
set_option linter.unusedSimpArgs false
namespace OT
open Go
def nq (k l:Key):Bool:=decide (l=k)||((decide (l.1=0)&&decide (l.2.1=k.1))||(decide (k.1=0)&&decide (l.1=k.2.1)))
def po (xs:List Tx) (t:Int) (k:Key):Bool:=xs.any λx=>!decide (x.1=t)&&x.2.2.2.1.any (nq k)
theorem CY (xs:List Tx) (t:Int) (k0:Key) (h:gv xs):bR.ab (xs,t,k0,())=some (po xs t k0,()):=by
 obtain ⟨h1,Y⟩:=h
 refine ah (k:=1048577) λk hk=>(bR.ae k _).trans ?_
 have inner:∀ (self:((List Tx)×Int×Key×Int)->Option bR.Out) (e0:(Unit)->Option bR.Out) (i:Nat) (hi:i < xs.length),bR.r1 k self e0 (xs,t,k0,()) xs t k0 (i:Int) (0:Int)=if (xs[i]).2.2.2.1.any (nq k0) then some (true,()) else self (xs,t,k0,ai ((i:Int)+1)):=λself e0 i hi=>by
  have xO:=(Y _ (List.getElem_mem hi)).2.2.1
  have:=dI (B:=λe9 v=>bR.B1 k e9 (λz=>bR.Q0 k self e0 (xs,t,k0,()) xs t k0 (i:Int) z) (xs,t,k0,()) xs t k0 (i:Int) v) (xs[i]).2.2.2.1 (λ(_:Unit) (j:Int)=>j) (λ_ _ l=>if nq k0 l then .inl (some (true,())) else .inr ()) (λ_=>self (xs,t,k0,ai ((i:Int)+1))) (λ_ _=>True) (by rw[al];omega)
   (λj hj s e9 _=>by
    grind [bR.b1,nq,Int.natCast_nonneg,Int.toNat_natCast,nX])
   (λ_ _ _ _ _ _=>trivial) (λs e9 _=>by
    show bR.b1 _ _ _ _ _ _ _ _=_
    unfold bR.b1
    simp only[Int.natCast_nonneg,if_true,Int.toNat_natCast,List.getElem?_eq_getElem hi,Option.bind_some,Int.lt_irrefl,decide_false,cond_false]
    rfl) () trivial k (by omega)
  rw[jq] at this
  exact this
 have:=dI (B:=λself v=>bR.B0 k self (λz=>bR.Q1 k (xs,t,k0,()) z) (xs,t,k0,()) v) xs (λ(_:Unit) (i:Int)=>(xs,t,k0,i)) (λ_ _ x=>if !decide (x.1=t)&&x.2.2.2.1.any (nq k0) then .inl (some (true,())) else .inr ()) (λ_=>some (false,())) (λ_ _=>True) (by rw[al];omega)
  (λi hi s self _=>by
   show bR.b0 _ _ _ _ _=_
   grind [bR.b0])
  (λ_ _ _ _ _ _=>trivial) (λs self _=>by
   show bR.b0 _ _ _ _ _=_
   unfold bR.b0
   simp only[Int.lt_irrefl,decide_false,cond_false]
   rfl) () trivial k (by omega)
 rw[jq] at this
 refine Eq.trans this ?_
 grind [po]
def aS (rows:List Row) (o:Op):Change×Int:=
 let k:=(o.2.2.1.1,o.2.2.1.2.1)
 if decide (o.1=2)&&fm rows k then (noChange,6)
 else if !decide (o.1=2)&&!fm rows k then (noChange,4)
 else ((fm rows k,(if fm rows k then (rows[pos rows k]?).getD qO else qO),!decide (o.1=4),(if decide (o.1=4) then qO else o.2.2.1),()),0)
theorem CZ (rows:List Row) (o:Op) (hu:up rows) (hl:rows.length<=1048576):fG.ab (rows,o,())=some ((aS rows o).1,(aS rows o).2,()):=by
 refine ah (k:=0) λk hk=>(fG.ae k _).trans ?_
 show fG.p _=_
 unfold fG.p aS
 rw[oD rows _ _ hu (by omega)]
 simp only[Option.bind_some]
 unfold ly
 grind [kX]
theorem K_ {x:Row} (h:cY x=0):0<=x.2.2.1:=by
 grind [cY,bK]
abbrev dX (c:Int):aK:=(c,false,noChange,())
def hY (rows:List Row) (xs:List Tx) (o:Op):aK:=
 let k:Key:=(o.2.2.1.1,o.2.2.1.2.1,())
 if po xs o.2.1 k then dX 7
 else if (aS rows o).2=0 then
  if uA rows (aS rows o).1=0 then
   if decide (12 < lO rows xs k)||decide (12<=fb xs) then dX 9
   else if (aS rows o).1.1&&((aS rows o).1.2.2.1&&Ty.eq ak (aS rows o).1.2.1 (aS rows o).1.2.2.2.1) then dX 0
   else (0,true,(aS rows o).1,())
  else dX (uA rows (aS rows o).1)
 else dX (aS rows o).2
theorem ww (c:Int):bZ.ab (c,())=some (dX c,()):=by
 refine ah (k:=0) λk hk=>(bZ.ae k _).trans ?_
 rfl
theorem z_ (rows:List Row) (xs:List Tx) (o:Op) (hg:Good rows) (hl:rows.length<=60) (ht:gv xs) (hx:kE xs):en.ab (rows,xs,o,())=some (hY rows xs o,()):=by
 refine ah (k:=0) λk hk=>(en.ae k _).trans ?_
 show en.p _=_
 unfold en.p hY
 have Na:=hx.len
 have hv:∀ x ∈ rows,0<=x.2.2.1:=λx hm=>K_ (hg.ok x hm)
 simp only[CY xs _ _ ht,ww,CZ rows o hg.up (by omega),E7 rows _ hg.up (by omega) hv,ux rows xs _ (by omega) (by omega) (λx hm=>by have:=hx.qM x hm;omega),ut xs ht,Option.bind_some]
 grind
def xS (rows:List Row) (xs:List Tx) (k:Key) (c:Change):aK:=
 if uA rows c=0 then
  if decide (12 < lO rows xs k)||decide (12<=fb xs) then dX 9
  else if c.1&&(c.2.2.1&&Ty.eq ak c.2.1 c.2.2.2.1) then dX 0
  else (0,true,c,())
 else dX (uA rows c)
theorem C0 (rows:List Row) (xs:List Tx) (o:Op):hY rows xs o=if po xs o.2.1 (o.2.2.1.1,o.2.2.1.2.1,()) then dX 7 else if (aS rows o).2=0 then xS rows xs (o.2.2.1.1,o.2.2.1.2.1,()) (aS rows o).1 else dX (aS rows o).2:=rfl
theorem IV (rows:List Row) (xs:List Tx) (kk:Key) (hk:¬ kk.2.1=0) (hl:rows.length<=1048576) (ht:gv xs) (c:Change):((jb.ab (rows,c,())).bind λxJ=>bif !decide (xJ.1=(0:Int)) then (some (dX xJ.1,())) else (bc.ab (rows,xs,())).bind λEU=>bif decide ((12:Int) < ((gj aF EU.1 kk true).length:Int)) then (some (dX 9,())) else (cF.ab (xs,())).bind λEV=>bif decide ((12:Int)<=EV.1) then (some (dX 9,())) else bif c.1 then (bif c.2.2.1 then (bif (Ty.eq ak c.2.1 c.2.2.2.1) then (some (dX 0,())) else some (((0:Int),true,c,()),())) else some (((0:Int),true,c,()),())) else some (((0:Int),true,c,()),()))=some (xS rows xs kk c,()):=by
 unfold xS
 have hr:(gj aF (cU (dd [] (ef rows xs))) kk true).length=lO rows xs kk:=by
  have h1:gj aF (cU (dd [] (ef rows xs))) kk true=cU (dd [] (ef rows xs++[kk])):=by
   refine (BS _ _).trans ?_
   rw[zK]
   rfl
  rw[h1]
  unfold lO qL
  rw[if_neg hk]
  exact List.length_map ..
 grind [IU,zL,qh]
theorem BZ (rows:List Row) (xs:List Tx) (o:Op) (hg:Good rows) (hl:rows.length<=60) (ht:gv xs) (hx:kE xs) (hk:¬ o.2.2.1.2.1=0):aQ.ab (rows,xs,o,())=some (hY rows xs o,()):=by
 refine ah (k:=1048577) λk ff=>(aQ.ae k _).trans ?_
 rw[C0]
 have hq:∀ (k:Nat),aQ.Q1 k (rows,xs,o,()) (rows,xs,o,dX 0,(o.2.2.1.1,o.2.2.1.2.1,()))=some (if (aS rows o).2=0 then xS rows xs (o.2.2.1.1,o.2.2.1.2.1,()) (aS rows o).1 else dX (aS rows o).2,()):=λk=>by
  show aQ.q1 _ _=_
  unfold aQ.q1 aS
  have hs:=λf:Nat×Int=>ul rows o.2.2.1 f hg.up (by omega)
  have e:rk o.2.2.1=(o.2.2.1.1,o.2.2.1.2.1):=rfl
  simp only[e] at hs
  have tl:=IV rows xs (o.2.2.1.1,o.2.2.1.2.1,()) hk (by omega) ht
  simp only[hs,Option.bind_some]
  generalize decide (o.1=2)=d2
  generalize decide (o.1=4)=d4
  cases hf:fm rows (o.2.2.1.1,o.2.2.1.2.1) with
  | false=>
   cases d2
   ·rfl
   ·cases d4
    all_goals grind
  | true=>
   obtain ⟨hp,he⟩:=kX hf
   simp only[Int.natCast_nonneg,if_true,Int.toNat_natCast,List.getElem?_eq_getElem hp,Option.bind_some,Option.getD_some]
   cases d2
   ·cases d4
    ·exact tl _
    ·exact tl _
   ·rfl
 have inner:∀ (self:((List Row)×(List Tx)×Op×aK×Key×(List Tx)×Int×Int)->Option aQ.Out) (e0:((List Row)×(List Tx)×Op×aK×Key)->Option aQ.Out) (i:Nat) (hi:i < xs.length),aQ.r1 k self e0 (rows,xs,o,()) rows xs o (dX 0) (o.2.2.1.1,o.2.2.1.2.1,()) xs (xs.length:Int) (i:Int) (xs[i]).2.2.2.1 (List.length (xs[i]).2.2.2.1:Int) (0:Int)=if (xs[i]).2.2.2.1.any (nq (o.2.2.1.1,o.2.2.1.2.1,())) then some (dX 7,()) else self (rows,xs,o,dX 0,(o.2.2.1.1,o.2.2.1.2.1,()),xs,(xs.length:Int),ai ((i:Int)+1)):=λself e0 i hi=>by
  have xO:=(ht.2 _ (List.getElem_mem hi)).2.2.1
  have Oc:=hx.keys _ (List.getElem_mem hi)
  have:=dI (B:=λe9 v=>aQ.B1 k e9 (λz=>aQ.Q0 k self e0 (rows,xs,o,()) rows xs o (dX 0) (o.2.2.1.1,o.2.2.1.2.1,()) xs (xs.length:Int) (i:Int) (xs[i]).2.2.2.1 (List.length (xs[i]).2.2.2.1:Int) z) (rows,xs,o,()) rows xs o (dX 0) (o.2.2.1.1,o.2.2.1.2.1,()) xs (xs.length:Int) (i:Int) (xs[i]).2.2.2.1 (List.length (xs[i]).2.2.2.1:Int) v) (xs[i]).2.2.2.1 (λ(_:Unit) (j:Int)=>j) (λ_ _ l=>if nq (o.2.2.1.1,o.2.2.1.2.1,()) l then .inl (some (dX 7,())) else .inr ()) (λ_=>self (rows,xs,o,dX 0,(o.2.2.1.1,o.2.2.1.2.1,()),xs,(xs.length:Int),ai ((i:Int)+1))) (λ_ _=>True) (by rw[al];omega)
   (λj hj s e9 _=>by
    show aQ.b1 _ _ _ _ _ _ _ _ _ _ _ _ _ _=_
    unfold aQ.b1 nq
    have aB:(j:Int) < (List.length (xs[i]).2.2.2.1:Int):=by omega
    have Bi:=Oc _ (List.getElem_mem hj)
    simp only[Int.natCast_nonneg,if_true,Int.toNat_natCast,Option.bind_some,aB,decide_true,cond_true,List.getElem?_eq_getElem hj,nX]
    generalize (xs[i]).2.2.2.1[j]=l at Bi
    obtain ⟨l1,l2,⟨⟩⟩:=l
    have oh:¬ l2=0:=by
     grind [lN,bK]
    generalize o.2.2.1.1=k1
    generalize o.2.2.1.2.1=k2
    have e1:decide (((l1,l2,()):Key)=(k1,k2,()))=(decide (l1=k1)&&decide (l2=k2)):=by
     rw[Bool.eq_iff_iff];simp
    have e2:decide (((l1,l2,()):Key)=((0:Int),k1,()))=(decide (l1=0)&&decide (l2=k1)):=by
     rw[Bool.eq_iff_iff];simp
    have e3:Ty.eq aF ((l1,l2,()):Key) ((0:Int),k1,())=(decide (l1=0)&&decide (l2=k1)):=(nX _ _).trans e2
    grind)
   (λ_ _ _ _ _ _=>trivial) (λs e9 _=>by
    show aQ.b1 _ _ _ _ _ _ _ _ _ _ _ _ _ _=_
    unfold aQ.b1
    simp only[Int.lt_irrefl,decide_false,cond_false]
    rfl) () trivial k (by omega)
  rw[jq] at this
  exact this
 have:=dI (B:=λself v=>aQ.B0 k self (λz=>aQ.Q1 k (rows,xs,o,()) z) (rows,xs,o,()) v) xs (λ(_:Unit) (i:Int)=>(rows,xs,o,dX 0,(o.2.2.1.1,o.2.2.1.2.1,()),xs,(xs.length:Int),i)) (λ_ _ x=>if !decide (x.1=o.2.1)&&x.2.2.2.1.any (nq (o.2.2.1.1,o.2.2.1.2.1,())) then .inl (some (dX 7,())) else .inr ()) (λ_=>some (if (aS rows o).2=0 then xS rows xs (o.2.2.1.1,o.2.2.1.2.1,()) (aS rows o).1 else dX (aS rows o).2,())) (λ_ _=>True) (by rw[al];have:=ht.1;omega)
  (λi hi s self _=>by
   show aQ.b0 _ _ _ _ _=_
   grind [aQ.b0,Int.toNat_natCast])
  (λ_ _ _ _ _ _=>trivial) (λs self _=>by
   show aQ.b0 _ _ _ _ _=_
   simp_all [aQ.b0]) () trivial k (by have:=ht.1;omega)
 rw[jq] at this
 refine Eq.trans this ?_
 grind [po]
end OT
set_option linter.unusedVariables false
set_option linter.unusedSimpArgs false
namespace OT
open Go
def kt (xs:List Tx) (t:Int):Int:=match xs[(gn xs t).toNat]? with
 | some x=>(List.length x.2.2.1:Int)
 | none=>0
def eH (rows:List Row) (xs:List Tx) (o:Op):aK:=
 if o.1=1 then (if decide (4<=xs.length) then dX 2 else dX 0)
 else if o.1=9 then dX 0
 else if gn xs o.2.1 < 0 then dX 4
 else if o.1=5 then (if decide (8<=kt xs o.2.1) then dX 2 else dX 0)
 else if o.1=6 then (if decide (kt xs o.2.1<=o.2.2.2.1) then dX 3 else dX 0)
 else if gp o.1 then hY rows xs o else dX 0
def cG (rows:List Row) (xs:List Tx) (o:Op):aK:=
 if dR rows=0 then (if dQ xs=0 then (if fO o=0 then eH rows xs o else dX (fO o)) else dX (dQ xs)) else dX (dR rows)
theorem at_mem {xs:List Tx} {t:Int} (h:¬ gn xs t < 0):∃ (j:Nat) (hj:j < xs.length),gn xs t=(j:Int)/\(xs[j]).1=t:=by
 obtain ⟨j,hj,h1,Y⟩:=sR (λx:Tx=>decide (x.1=t)) xs 0 (by unfold gn at h;omega)
 exact ⟨j,hj,by unfold gn;rw[h1,Nat.zero_add],of_decide_eq_true Y⟩
theorem kinds {k:Int} (h:bK k 1 9=true):k=1\/k=2\/k=3\/k=4\/k=5\/k=6\/k=7\/k=8\/k=9:=by
 unfold bK at h
 simp only[Bool.and_eq_true,decide_eq_true_eq] at h
 omega
theorem uB (rows:List Row) (xs:List Tx) (o:Op) (hg:Good rows) (hl:rows.length<=60) (ht:gv xs) (hx:kE xs) (ho:bK o.1 1 9=true):eA.ab (rows,xs,o,())=some (eH rows xs o,()):=by
 refine ah (k:=0) λk hk=>(eA.ae k _).trans ?_
 show eA.p _=_
 unfold eA.p eH
 have Na:=hx.len
 have h4:decide ((4:Int)<=(xs.length:Int))=decide (4<=xs.length):=by
  by_cases h:4<=xs.length
  ·have:(4:Int)<=(xs.length:Int):=by omega
   simp[h,this]
  ·have:¬ (4:Int)<=(xs.length:Int):=by omega
   simp[h,this]
 simp only[ww,fQ xs _ ht.1,z_ rows xs o hg hl ht hx,Option.bind_some,h4]
 by_cases ha:gn xs o.2.1 < 0
 ·simp only[ha,decide_true,cond_true,if_true]
  rcases kinds ho with e | e | e | e | e | e | e | e | e <;> rw[e] <;> first | rfl | (cases decide (4<=xs.length) <;> rfl)
 ·obtain ⟨j,hj,e,_⟩:=at_mem ha
  have hm:kt xs o.2.1=(List.length (xs[j]).2.2.1:Int):=by unfold kt;rw[e,Int.toNat_natCast,List.getElem?_eq_getElem hj]
  rw[hm]
  simp only[ha,decide_false,cond_false,if_false,e,Int.natCast_nonneg,if_true,Int.toNat_natCast,List.getElem?_eq_getElem hj,Option.bind_some]
  rcases kinds ho with e | e | e | e | e | e | e | e | e <;> rw[e] <;> first | rfl | (cases decide (4<=xs.length) <;> rfl) | (cases decide ((8:Int)<=(List.length (xs[j]).2.2.1:Int)) <;> rfl) | (cases decide ((List.length (xs[j]).2.2.1:Int)<=o.2.2.2.1) <;> rfl)
theorem xT (rows:List Row) (xs:List Tx) (o:Op) (hl:rows.length<=1048576) (hr:∀ x ∈ rows,rl x) (ht:gv xs) (ho:rl o.2.2.1):gG.ab (rows,xs,o,())=some (cG rows xs o,()):=by
 refine ah (k:=0) λk hk=>(gG.ae k _).trans ?_
 show gG.p _=_
 unfold gG.p cG
 simp only[vH rows (by rw[al];omega) hr,xQ xs ht,Hk o ho,ww,Option.bind_some]
 by_cases h1:dR rows=0
 rotate_left
 ·simp only[h1,decide_false,Bool.not_false,cond_true,if_false]
 by_cases Y:dQ xs=0
 rotate_left
 ·simp only[h1,Y,decide_true,decide_false,Bool.not_true,Bool.not_false,cond_true,cond_false,if_true,if_false]
 by_cases h3:fO o=0
 rotate_left
 ·simp only[h1,Y,h3,decide_true,decide_false,Bool.not_true,Bool.not_false,cond_true,cond_false,if_true,if_false]
 simp only[h1,Y,h3,decide_true,Bool.not_true,cond_false,if_true]
 rw[uB rows xs o (je h1).1 (je h1).2 ht (gk Y) (zO h3).1]
 rfl
theorem xU (rows:List Row) (xs:List Tx) (o:Op) (hl:rows.length<=1048576) (hr:∀ x ∈ rows,rl x) (ht:gv xs) (ho:rl o.2.2.1):cN.ab (rows,xs,o,())=some (cG rows xs o,()):=by
 refine ah (k:=5) λk hk=>(cN.ae k _).trans ?_
 unfold cN.p
 simp only[rq rows (by rw[al];omega) hr,sS xs ht,E4 o ho,Option.bind_some]
 have hq:dR rows=0->dQ xs=0->fO o=0->∀ (k:Nat) (z:Unit),cN.Q0 k (rows,xs,o,()) [dR rows,dQ xs,fO o] ([dR rows,dQ xs,fO o].length:Int) z=some (eH rows xs o,()):=λh1 Y h3 k z=>by
  show cN.q0 _ _ _ _=_
  unfold cN.q0 eH
  have hx:=gk Y
  have hg:=(je h1).1
  have hl:=(je h1).2
  have Pg:=(zO h3).1
  have h4:decide ((4:Int)<=(xs.length:Int))=decide (4<=xs.length):=by
   by_cases h:4<=xs.length
   ·have:(4:Int)<=(xs.length:Int):=by omega
    simp[h,this]
   ·have:¬ (4:Int)<=(xs.length:Int):=by omega
    simp[h,this]
  have IW:gp o.1=true->aQ.ab (rows,xs,o,())=some (hY rows xs o,()):=λzP=>BZ rows xs o hg hl ht hx (by
   have:=K9 h3 zP
   unfold cY at this
   split at this
   ·rename_i h5
    simp only[bK,Bool.and_eq_true,decide_eq_true_eq] at h5
    omega
   ·cases this)
  simp only[oF xs _ ht.1,Option.bind_some,h4]
  by_cases ha:gn xs o.2.1 < 0
  ·simp only[ha,decide_true,cond_true,if_true]
   rcases kinds Pg with e | e | e | e | e | e | e | e | e <;> rw[e] <;> first | rfl | (cases decide (4<=xs.length) <;> rfl)
  ·obtain ⟨j,hj,e,_⟩:=at_mem ha
   have hm:kt xs o.2.1=(List.length (xs[j]).2.2.1:Int):=by unfold kt;rw[e,Int.toNat_natCast,List.getElem?_eq_getElem hj]
   rw[hm]
   simp only[ha,decide_false,cond_false,if_false,e,Int.natCast_nonneg,if_true,Int.toNat_natCast,List.getElem?_eq_getElem hj,Option.bind_some]
   rcases kinds Pg with e | e | e | e | e | e | e | e | e
   ·rw[e];cases decide (4<=xs.length) <;> rfl
   ·rw[IW (by rw[e];rfl),e];rfl
   ·rw[IW (by rw[e];rfl),e];rfl
   ·rw[IW (by rw[e];rfl),e];rfl
   ·rw[e];cases decide ((8:Int)<=(List.length (xs[j]).2.2.1:Int)) <;> rfl
   ·rw[e];cases decide ((List.length (xs[j]).2.2.1:Int)<=o.2.2.2.1) <;> rfl
   ·rw[e];rfl
   ·rw[e];rfl
   ·rw[e];rfl
 have:=dI (B:=λself v=>cN.B0 k self (λz=>cN.Q0 k (rows,xs,o,()) [dR rows,dQ xs,fO o] ([dR rows,dQ xs,fO o].length:Int) z) (rows,xs,o,()) [dR rows,dQ xs,fO o] ([dR rows,dQ xs,fO o].length:Int) v) [dR rows,dQ xs,fO o] (λ(_:Unit) (i:Int)=>i) (λ_ _ x=>if x=0 then .inr () else .inl (some (dX x,()))) (λ_=>cN.Q0 k (rows,xs,o,()) [dR rows,dQ xs,fO o] ([dR rows,dQ xs,fO o].length:Int) ()) (λ_ _=>True) (by rw[al];simp)
  (λi hi s self _=>by
   show cN.b0 _ _ _ _ _ _=_
   unfold cN.b0
   have aB:(i:Int) < ([dR rows,dQ xs,fO o].length:Int):=by omega
   have cI:(0:Int)<=(i:Int)/\(i:Int) < ([dR rows,dQ xs,fO o].length:Int):=by omega
   simp only[aB,cI,and_self,decide_true,cond_true,if_true,Int.toNat_natCast,List.getElem?_eq_getElem hi,Option.bind_some]
   by_cases h0:[dR rows,dQ xs,fO o][i]=0
   ·simp only[h0,decide_true,Bool.not_true,cond_false,if_true]
   ·simp only[h0,decide_false,Bool.not_false,cond_true,if_false])
  (λ_ _ _ _ _ _=>trivial) (λs self _=>by
   show cN.b0 _ _ _ _ _ _=_
   unfold cN.b0
   simp only[Int.lt_irrefl,decide_false,cond_false]) () trivial k (by simp;omega)
 refine Eq.trans this ?_
 unfold cG
 simp only[aW]
 by_cases h1:dR rows=0
 rotate_left
 ·simp only[h1,if_false]
 by_cases Y:dQ xs=0
 rotate_left
 ·simp only[h1,Y,if_true,if_false]
 by_cases h3:fO o=0
 rotate_left
 ·simp only[h1,Y,h3,if_true,if_false]
 have:=hq h1 Y h3 k ()
 rw[if_pos h1]
 simp only
 rw[if_pos Y]
 simp only
 rw[if_pos h3]
 simp only
 rw[this,if_pos h1,if_pos Y,if_pos h3]
end OT
set_option linter.unusedVariables false
set_option linter.unusedSimpArgs false
namespace OT
open Go
theorem C3 (xs:List Tx) (k0:Key) (h:gv xs):fl.ab (xs,k0,())=some (fJ xs k0,()):=by
 obtain ⟨h1,Y⟩:=h
 refine ah (k:=xs.length+1) λk hk=>(fl.ae k _).trans ?_
 have:=bJ (B:=λself v=>fl.B0 0 self (λz=>fl.Q0 0 (xs,k0,()) z) (xs,k0,()) v) xs (λ(_:Unit) (i:Int)=>i) (λ_ _ x=>if cq x.2.2.2.1 k0 then .inl (x.1,()) else .inr ()) (λ_=>(0,())) (λ_ _=>True) (by rw[al];omega)
  (λi hi s self _=>by
   grind [fl.b0,contains_eq,BP])
  (λ_ _ _ _ _ _=>trivial) (λs self _=>by
   show fl.b0 _ _ _ _=_
   unfold fl.b0
   simp only[Int.lt_irrefl,decide_false,cond_false]
   rfl) () trivial k (by omega)
 rw[ur] at this
 exact this
theorem Hl (s:List Change) (h:s.length<=1048576):d6.ab (s,())=some (s,()):=by
 refine ah (k:=0) λk _=>(d6.ae k _).trans ?_
 show d6.p _=_
 unfold d6.p
 refine uZ (λe=>by grind) ?_
 grind [cm]
theorem Hm (s:List Int) (h:s.length<=1048576):ej.ab (s,())=some (s,()):=by
 refine ah (k:=0) λk _=>(ej.ae k _).trans ?_
 show ej.p _=_
 unfold ej.p
 refine uZ (λe=>by grind) ?_
 grind [cm]
theorem Hn (s:List Key) (h:s.length<=1048576):eX.ab (s,())=some (s,()):=by
 refine ah (k:=0) λk _=>(eX.ae k _).trans ?_
 show eX.p _=_
 unfold eX.p
 refine uZ (λe=>by grind) ?_
 grind [cm]
theorem E8 (x:Tx) (h:tl x):fW.ab (x,())=some (x,()):=by
 obtain ⟨h1,Y,h3,_⟩:=h
 refine ah (k:=0) λk _=>(fW.ae k _).trans ?_
 grind [fW.p,cm]
theorem uC (xs:List Tx) (h:gv xs):dF.ab (xs,())=some (xs,()):=by
 obtain ⟨h1,Y⟩:=h
 refine ah (k:=xs.length+1) λk hk=>(dF.ae k _).trans ?_
 have:=bJ (B:=λself v=>dF.B0 0 self (λz=>dF.Q0 0 (xs,()) z) (xs,()) v) xs (λ(s:List Tx) (i:Int)=>(s,i)) (λ_ s x=>.inr (s++[x])) (λs=>(s,())) (λi s=>s.length=i) (by rw[al];omega)
  (λi hi s self hI=>by
   grind [dF.b0,cm,E8])
  (λi hi s s' hI hs=>by grind) (λs self hI=>by
   show dF.b0 _ _ _ _=_
   unfold dF.b0
   simp only[Int.lt_irrefl,decide_false,cond_false]
   rfl) [] rfl k (by omega)
 rw[gM,uj] at this
 exact this
theorem oG (xs:List Tx) (h:gv xs):b_.ab (xs,())=some (xs,()):=by
 obtain ⟨h1,Y⟩:=h
 refine ah (k:=xs.length+1) λk hk=>(b_.ae k _).trans ?_
 have:=bJ (B:=λself v=>b_.B0 0 self (λz=>b_.Q0 0 (xs,()) z) (xs,()) v) xs (λ(s:List Tx) (i:Int)=>(s,i)) (λ_ s x=>.inr (s++[x])) (λs=>(s,())) (λi s=>s.length=i) (by rw[al];omega)
  (λi hi s self hI=>by
   show b_.b0 _ _ _ _=_
   unfold b_.b0
   have aB:(i:Int) < (xs.length:Int):=by omega
   have hx:=Y _ (List.getElem_mem hi)
   simp only[aB,decide_true,cond_true,Int.natCast_nonneg,if_true,Int.toNat_natCast,List.getElem?_eq_getElem hi,Option.bind_some]
   generalize xs[i]=x at hx
   obtain ⟨g1,g2,g3,_⟩:=hx
   grind [Hl,Hm,Hn,cm])
  (λi hi s s' hI hs=>by grind) (λs self hI=>by
   show b_.b0 _ _ _ _=_
   unfold b_.b0
   simp only[Int.lt_irrefl,decide_false,cond_false]
   rfl) [] rfl k (by omega)
 rw[gM,uj] at this
 exact this
def ji (x:Tx) (c:Change):Tx:=(x.1,x.2.1++[c],x.2.2.1,if cq x.2.2.2.1 (cZ c) then x.2.2.2.1 else x.2.2.2.1++[cZ c],())
def lq (xs:List Tx) (j:Nat) (c:Change):List Tx:=match xs[j]? with
 | some x=>xs.set j (ji x c)
 | none=>xs
theorem vM (xs:List Tx) (j:Nat) (c:Change) (h:gv xs) (hj:j < xs.length):cX.ab (xs,(j:Int),c,())=some (lq xs j c,()):=by
 refine ah (k:=0) λk _=>(cX.ae k _).trans ?_
 show cX.p _=_
 unfold cX.p lq
 have hx:=h.2 _ (List.getElem_mem hj)
 have cI:(0:Int)<=(j:Int)/\(j:Int) < (xs.length:Int):=by omega
 simp only[uC xs h,Option.bind_some,cI,and_self,if_true,Int.toNat_natCast,List.getElem?_eq_getElem hj,uo]
 generalize B4:xs[j]=x at hx
 obtain ⟨g1,g2,g3,_⟩:=hx
 have rR:xs.set j x=xs:=by grind [List.set_getElem_self]
 have hg:xs[j]?=some x:=by grind
 have c1:List.length x.2.1+[c].length<=bX:=cm (by grind)
 have c2:List.length x.2.2.2.1+[cZ c].length<=bX:=cm (by grind)
 have hq:∀ y:Tx,(xs.set j y)[j]?=some y:=λy=>by simp[hj]
 rw[if_pos c1,rR]
 simp only[hg,Option.bind_some,hq]
 grind [wu,al,ji,List.set_set]
theorem C4 (xs:List Tx) (j:Nat) (c:Change) (h:gv xs) (hj:j < xs.length):ij.ab (xs,(j:Int),c,())=some (lq xs j c,()):=by
 refine ah (k:=0) λk _=>(ij.ae k _).trans ?_
 show ij.p _=_
 unfold ij.p lq
 have hx:=h.2 _ (List.getElem_mem hj)
 have cI:(0:Int)<=(j:Int)/\(j:Int) < (xs.length:Int):=by omega
 simp only[oG xs h,Option.bind_some,cI,and_self,if_true,Int.toNat_natCast,List.getElem?_eq_getElem hj,yQ]
 generalize B4:xs[j]=x at hx
 obtain ⟨g1,g2,g3,_⟩:=hx
 have rR:xs.set j x=xs:=by grind [List.set_getElem_self]
 have hg:xs[j]?=some x:=by grind
 have c1:List.length x.2.1+[c].length<=bX:=cm (by grind)
 have c2:List.length x.2.2.2.1+[cZ c].length<=bX:=cm (by grind)
 have hq:∀ y:Tx,(xs.set j y)[j]?=some y:=λy=>by simp[hj]
 rw[if_pos c1,rR]
 simp only[hg,Option.bind_some,hq]
 grind [contains_eq,al,ji,List.set_set]
def wx (c:Int):ue:=(c,([]:List Tx),())
def sW (xs:List Tx) (t:Int) (c:Change):ue:=
 if dQ xs=0 then
  if gn xs t < 0 then wx 4
  else if qI c=0 then
   if fJ xs (cZ c)≠0/\fJ xs (cZ c)≠t then wx 7
   else if 12<=fb xs then wx 2
   else if fJ xs (cZ c)=0/\12<=List.length ((xs.getD (gn xs t).toNat (0,[],[],[],())).2.2.2.1:List Key) then wx 2
   else ((0:Int),lq xs (gn xs t).toNat c,())
  else wx (qI c)
 else wx (dQ xs)
theorem IX {xs:List Tx} (h:dQ xs=0):nY xs=0/\xs.length<=4:=by
 grind [dQ]
theorem E9 {xs:List Tx} {k:Key} (h:fJ xs k≠0):∃ x ∈ xs,x.1=fJ xs k/\cq x.2.2.2.1 k=true:=by
 induction xs <;> grind [fJ]
theorem E_ {xs:List Tx} {k:Key} (h:fJ xs k=0) (hp:∀ x ∈ xs,1<=x.1):∀ x ∈ xs,cq x.2.2.2.1 k=false:=by
 induction xs <;> grind [fJ]
theorem B5 (xs:List Tx) (t:Int) (c:Change) (h:gv xs) (hc:cl c):eK.ab (xs,t,c,())=some (sW xs t c,()):=by
 refine ah (k:=0) λk _=>(eK.ae k _).trans ?_
 show eK.p _=_
 unfold eK.p sW wx
 simp only[sS xs h,oF xs t h.1,zE c hc,yQ,C3 xs _ h,qh xs h,Option.bind_some]
 by_cases h1:dQ xs=0
 rotate_left
 ·grind
 simp only[h1,decide_true,Bool.not_true,cond_false,if_true]
 by_cases Y:gn xs t < 0
 ·grind
 simp only[Y,decide_false,cond_false,if_false]
 by_cases h3:qI c=0
 rotate_left
 ·grind
 simp only[h3,decide_true,Bool.not_true,cond_false,if_true]
 obtain ⟨j,hj,e1,e2⟩:=sR (λx:Tx=>decide (x.1=t)) xs 0 (by grind [gn])
 have e1:gn xs t=(j:Int):=by show jf _ 0 xs=_;rw[e1];omega
 rw[e1,Int.toNat_natCast]
 have hn:=C4 xs j c h hj
 grind
end OT
set_option linter.unusedVariables false
set_option linter.unusedSimpArgs false
set_option linter.unusedSectionVars false
namespace OT
open Go
def n_ (x:Tx):Tx:=(x.1,x.2.1,x.2.2.1++[(List.length x.2.1:Int)],x.2.2.2)
def qn (x:Tx) (n m:Nat):Tx:=(x.1,x.2.1.take n,x.2.2.1.take (m+1),x.2.2.2)
theorem Aa {xs:List Tx} {t:Int} (h:gv xs) {j:Nat} (hj:j < xs.length) (dr:gn xs t=(j:Int)) (hm:List.length (xs[j]).2.2.1<=8):im.ab (xs,t,())=some (xs.set j (n_ xs[j]),(List.length (xs[j]).2.2.1:Int),()):=by
 refine ah (k:=0) λk _=>(im.ae k _).trans ?_
 unfold im.p
 have cI:(0:Int)<=(j:Int)/\(j:Int) < (xs.length:Int):=by omega
 simp only[oG xs h,oF xs t h.1,dr,Option.bind_some,cI,and_self,if_true,Int.toNat_natCast,List.getElem?_eq_getElem hj]
 generalize B4:xs[j]=x at hm ⊢
 have rR:xs.set j x=xs:=by rw[<-B4];exact List.set_getElem_self hj
 have hg:xs[j]?=some x:=by rw[List.getElem?_eq_getElem hj,B4]
 have c1:List.length x.2.2.1+[(List.length x.2.1:Int)].length<=bX:=cm (by simp only[List.length_cons,List.length_nil];omega)
 have hq:∀ y:Tx,(xs.set j y)[j]?=some y:=λy=>by simp[hj]
 rw[if_pos c1,rR]
 simp only[hg,Option.bind_some,hq]
 have hw:ai (((List.length (x.2.2.1++[(List.length x.2.1:Int)]):Nat):Int) - 1)=(List.length x.2.2.1:Int):=by
  rw[List.length_append,List.length_cons,List.length_nil,bQ (by omega)];omega
 rw[hw]
 rfl
theorem tr {xs:List Tx} {o:Op} (h:gv xs) {j:Nat} (hj:j < xs.length) (dr:gn xs o.2.1=(j:Int)) (h6:¬ o.1=6):fA.ab (xs,o,())=some (xs.take j++xs.drop (j+1),bu (xs[j]).2.1,()):=by
 refine ah (k:=0) λk _=>(fA.ae k _).trans ?_
 unfold fA.p
 have cI:(0:Int)<=(j:Int)/\(j:Int) < (xs.length:Int):=by omega
 have hx:=h.2 _ (List.getElem_mem hj)
 have hl:=h.1
 have hw:ai ((j:Int)+1)=((j+1:Nat):Int):=by rw[bQ (by omega)];omega
 have hd:iC.ab (xs,(j:Int),((j+1:Nat):Int),())=some (xs.take j++xs.drop (j+1),()):=by
  show yK _ _=_
  unfold yK
  have:(0:Int)<=(j:Int)/\(j:Int)<=((j+1:Nat):Int)/\((j+1:Nat):Int)<=(xs.length:Int):=by omega
  exact if_pos this
 simp only[oG xs h,oF xs o.2.1 h.1,dr,Option.bind_some,cI,and_self,if_true,Int.toNat_natCast,List.getElem?_eq_getElem hj,h6,decide_false,cond_false,sT _ hx.1,hw,hd]
theorem yS {xs:List Tx} {o:Op} (h:gv xs) {j:Nat} (hj:j < xs.length) (dr:gn xs o.2.1=(j:Int)) (h6:o.1=6) {m n:Nat} (hm:o.2.2.2.1=(m:Int)) (uD:m < List.length (xs[j]).2.2.1) (hn:(xs[j]).2.2.1[m]?=some (n:Int)) (mK:n<=List.length (xs[j]).2.1) :
  fA.ab (xs,o,())=some (xs.set j (qn xs[j] n m),bu ((xs[j]).2.1.drop n),()):=by
 refine ah (k:=0) λk _=>(fA.ae k _).trans ?_
 unfold fA.p
 have cI:(0:Int)<=(j:Int)/\(j:Int) < (xs.length:Int):=by omega
 have hx:=h.2 _ (List.getElem_mem hj)
 simp only[oG xs h,oF xs o.2.1 h.1,dr,Option.bind_some,cI,and_self,if_true,Int.toNat_natCast,List.getElem?_eq_getElem hj,h6,hm,decide_true,cond_true]
 generalize B4:xs[j]=x at hx uD hn mK ⊢
 obtain ⟨g1,g2,g3,_⟩:=hx
 have rR:xs.set j x=xs:=by rw[<-B4];exact List.set_getElem_self hj
 have hg:xs[j]?=some x:=by rw[List.getElem?_eq_getElem hj,B4]
 have hq:∀ y:Tx,(xs.set j y)[j]?=some y:=λy=>by simp[hj]
 have k1:(0:Int)<=(m:Int)/\(m:Int) < (List.length x.2.2.1:Int):=by omega
 have k2:(0:Int)<=(n:Int)/\(n:Int)<=(List.length x.2.1:Int):=by omega
 have hw:ai ((m:Int)+1)=((m+1:Nat):Int):=by rw[bQ (by omega)];omega
 have k3:(0:Int)<=((m+1:Nat):Int)/\((m+1:Nat):Int)<=(List.length x.2.2.1:Int):=by omega
 rw[if_pos k1,hn]
 simp only[Option.bind_some]
 rw[if_pos k2,Int.toNat_natCast,List.take_length,sT _ (by rw[List.length_drop];omega)]
 simp only[Option.bind_some]
 rw[if_pos k2,rR]
 simp only[hg,Option.bind_some,hq,hw]
 rw[if_pos k3]
 simp only[Int.toNat_natCast,List.set_set,hq,Option.bind_some,List.drop_zero]
 rfl
theorem wy {p:Plain} {cs:List Change} {t:List Row} (hg:Good p.1) (hl:List.length p.1<=12) (hc:∀ c ∈ cs,fa c=0) (kC:∀ c ∈ cs,cl c) (fM:cs.length<=12) (hb:bs p.1 cs=some t):cA.ab (p,cs,())=some ((0:Int),(t,p.2),()):=by
 refine ah (k:=0) λk _=>(cA.ae k _).trans ?_
 unfold cA.p
 rw[un p.1 cs (by rw[al];omega) (DJ hg) (by omega) kC,xR hg hc (by omega),hb]
 rfl
theorem La {p:Plain} (hl:List.length p.1<=1048576) (h:gv p.2.1):gu.ab (p,())=some ((p.1,p.2.1,p.2.2.1,()),()):=by
 refine ah (k:=0) λk _=>(gu.ae k _).trans ?_
 unfold gu.p
 rw[rr _ hl]
 simp only[Option.bind_some]
 rw[oG _ h]
 rfl
theorem lc {p:Plain} (hl:List.length p.1<=1048576) (h:gv p.2.1):iz.ab (p,())=some ((p.1,p.2.1,p.2.2.1,()),()):=by
 refine ah (k:=0) λk _=>(iz.ae k _).trans ?_
 unfold iz.p
 rw[if_pos (show ([]:List Row).length+List.length p.1<=bX from cm (by rw[List.length_nil];omega)),uC _ h]
 rfl
theorem yT (c:Int):fP.ab (c,())=some ((c,(0:Int),(([]:List Row),([]:List Tx),(0:Int),()),()),()):=ah (k:=0) λk _=>(fP.ae k _).trans rfl
theorem Fc {x:Tx} (h:tl x) {m n:Nat} (uD:m < List.length x.2.2.1) (hn:x.2.2.1[m]?=some (n:Int)) (mK:n<=List.length x.2.1):jo.ab (x,(m:Int),())=some (x.2.1.drop n,qn x n m,()):=by
 obtain ⟨g1,g2,g3,_⟩:=h
 refine ah (k:=0) λk _=>(jo.ae k _).trans ?_
 unfold jo.p
 have k2:(0:Int)<=(n:Int)/\(n:Int)<=(List.length x.2.1:Int):=by omega
 have hw:ai ((m:Int)+1)=((m+1:Nat):Int):=by rw[bQ (by omega)];omega
 have k3:(0:Int)<=((m+1:Nat):Int)/\((m+1:Nat):Int)<=(List.length x.2.2.1:Int):=by omega
 rw[if_pos (Int.natCast_nonneg m),Int.toNat_natCast,hn]
 simp only[Option.bind_some]
 rw[if_pos k2,if_pos (cm (by rw[List.length_nil,List.length_drop,List.length_take];omega)),if_pos k2,hw,if_pos k3]
 simp only[Int.toNat_natCast,List.nil_append,List.take_length,List.drop_zero]
 rfl
theorem vN {xs:List Tx} (hl:xs.length<=1048576) {j:Nat} (hj:j < xs.length):eS.ab (xs,(j:Int),())=some (xs.take j++xs.drop (j+1),()):=by
 refine ah (k:=1048578) λk hk=>(eS.ae k _).trans ?_
 have:=bJ (B:=λself v=>eS.b0 self (eS.q0 (xs,(j:Int),())) (xs,(j:Int),()) v) xs (λ(s:List Tx) (i:Int)=>(s,i)) (λi s x=>if (i:Int)=(j:Int) then .inr s else .inr (s++[x])) (λs=>(s,())) (λi s=>s.length<=i) (by rw[al];omega)
  (λi hi s self hI=>by
   have aB:(i:Int) < (xs.length:Int):=by omega
   unfold eS.b0
   rw[decide_eq_true aB,cond_true]
   by_cases he:(i:Int)=(j:Int)
   ·rw[decide_eq_true he,Bool.not_true,cond_false,if_pos he]
   ·rw[decide_eq_false he,Bool.not_false,cond_true,if_neg he,if_pos (Int.natCast_nonneg i),Int.toNat_natCast,List.getElem?_eq_getElem hi]
    simp only[Option.bind_some]
    rw[if_pos (cm (by rw[List.length_cons,List.length_nil];omega))])
  (λi hi s s' hI hf=>by
   split at hf
   ·injection hf with hf;subst hf;omega
   ·injection hf with hf;subst hf;rw[List.length_append,List.length_cons,List.length_nil];omega) (λs self _=>by
   unfold eS.b0
   rw[decide_eq_false (Int.lt_irrefl _),cond_false]
   rfl) [] (Nat.zero_le _) k (by omega)
 have key:∀ (ys:List Tx) (i:Nat) (s:List Tx),aW (O:=List Tx×Unit) (λi s x=>if (i:Int)=(j:Int) then .inr s else .inr (s++[x])) (λs=>(s,())) i ys s=(s++(if i<=j then ys.take (j - i)++ys.drop (j - i+1) else ys),()):=by
  intro ys
  induction ys with
  | nil=>intro i s;simp[aW]
  | cons y ys ih=>
   intro i s
   simp only[aW]
   by_cases he:(i:Int)=(j:Int)
   ·rw[if_pos he]
    simp only
    rw[ih]
    have:i=j:=by omega
    subst this
    rw[if_neg (by omega),if_pos (Nat.le_refl _),Nat.sub_self]
    rfl
   ·rw[if_neg he]
    simp only
    rw[ih]
    by_cases gB:i<=j
    ·obtain ⟨d,hd⟩:∃ d,j - i=d+1:=⟨j - i - 1,by omega⟩
     rw[if_pos gB,if_pos (by omega),hd,show j - (i+1)=d by omega]
     simp[List.append_assoc]
    ·rw[if_neg gB,if_neg (by omega)]
     simp[List.append_assoc]
 rw[key xs 0 []] at this
 refine Eq.trans this ?_
 simp
end OT
set_option linter.unusedVariables false
set_option linter.unusedSimpArgs false
set_option linter.unusedSectionVars false
namespace OT
open Go
abbrev nI (n:Int):Tx:=(n,([]:List Change),([]:List Int),([]:List Key),())
theorem Lb {x:Tx} (h:tl x) (hm:List.length x.2.2.1<=8):tl (n_ x):=⟨h.1,by
 show (x.2.2.1++[(List.length x.2.1:Int)]).length<=_
 grind,h.2.2.1,h.2.2.2⟩
theorem Nc {x:Tx} (h:tl x) (n m:Nat):tl (qn x n m):=by
 obtain ⟨h1,Y,h3,h4⟩:=h
 refine ⟨?_,?_,h3,λc hc=>h4 c (List.mem_of_mem_take hc)⟩
 ·show (x.2.1.take n).length<=_
  grind
 ·show (x.2.2.1.take (m+1)).length<=_
  grind
theorem Lc {x:Tx} (h:tl x) (hu:List.length x.2.1<=12) (hk:List.length x.2.2.2.1<=12) {c:Change} (hc:cl c):tl (ji x c):=by
 obtain ⟨h1,Y,h3,h4⟩:=h
 refine ⟨?_,Y,?_,λd hd=>?_⟩
 ·show (x.2.1++[c]).length<=_
  grind
 ·show (if cq x.2.2.2.1 (cZ c) then x.2.2.2.1 else x.2.2.2.1++[cZ c]).length<=_
  grind
 ·rcases List.mem_append.1 hd with g | g
  all_goals grind
theorem yU {xs:List Tx} (h:gv xs) (j:Nat) {y:Tx} (hy:tl y):gv (xs.set j y):=⟨by rw[List.length_set];exact h.1,λx hx=>by
 rcases List.mem_or_eq_of_mem_set hx with g | g
 ·exact h.2 x g
 grind⟩
theorem B6 {xs:List Tx} (h:gv xs) (j:Nat):gv (xs.take j++xs.drop (j+1)):=⟨by
 have:=h.1
 grind,λx hx=>by
 rcases List.mem_append.1 hx with g | g
 ·exact h.2 x (List.mem_of_mem_take g)
 ·exact h.2 x (List.mem_of_mem_drop g)⟩
theorem Ld {xs:List Tx} (h:gv xs) (hl:xs.length<=4) (n:Int):gv (xs++[nI n]):=⟨by grind,λx hx=>by
 rcases List.mem_append.1 hx with g | g
 ·exact h.2 x g
 ·rw[List.mem_singleton] at g;rw[g];exact ⟨Nat.zero_le _,Nat.zero_le _,Nat.zero_le _,λc hc=>by cases hc⟩⟩
end OT
set_option linter.unusedVariables false
set_option linter.unusedSimpArgs false
set_option linter.unusedSectionVars false
namespace OT
open Go
structure u_ (p:Plain):Prop where
 eo:Good p.1
 len:List.length p.1<=12
 iq:dQ p.2.1=0
 next:bK p.2.2.1 1 100=true
 room:fX p.1 p.2.1<=12
 back:∃ t,bs p.1 (backs p.2.1)=some t
theorem bl {p:Plain} (h:bM p=0):u_ p:=by
 unfold bM at h
 split at h
 ·rename_i h1
  split at h
  ·rename_i Y
   split at h
   ·rename_i h3
    rw[Bool.and_eq_true] at h3
    split at h
    ·cases h
    ·rename_i h4
     have hg:=(je h1).1
     have hr:=oE (xs:=p.2.1) hg.up
     unfold fX at h4
     cases hb:bs p.1 (backs p.2.1) with
     | none=>grind
     | some t=>exact ⟨hg,by omega,Y,h3.1,by grind [fX],t,hb⟩
   ·cases h
  grind
 grind
theorem uE {c:Change} (hc:fa c=0):ck (jJ c)=ck c:=by
 grind [ck,jJ,rk,qN,fa]
theorem rS {xs:List Tx} (h:dQ xs=0):∀ x ∈ xs,1<=x.1/\jx x=0:=λx hx=>by
 have h1:=(IX h).1
 obtain ⟨i,hi,rfl⟩:=List.getElem_of_mem hx
 have:=qj (mf xs h1 i hi)
 grind
theorem qP {x:Tx} (h:jx x=0):∀ c ∈ (x.2.1:List Change),cq x.2.2.2.1 (cZ c)=true:=λc hc=>by
 unfold jx at h
 split at h
 ·rename_i hu
  have Y:=nZ hu c hc
  grind [kD]
 grind
theorem uF {xs:List Tx} (h:dQ xs=0):(flatK xs).Nodup:=by
 unfold dQ at h
 split at h
 ·cases h
 ·split at h
  ·split at h
   ·rename_i ha;exact of_decide_eq_true ha
   ·cases h
  grind
theorem pp {xs:List Tx} (h:dQ xs=0) {i j:Nat} (hi:i < xs.length) (hj:j < i) {c d:Change} (hc:c ∈ bu (xs[j]'(by omega)).2.1) (hd:d ∈ bu xs[i].2.1):ck c≠ck d:=by
 have hn:=uF h
 have gm:=(gk h).ch
 obtain ⟨c0,rI,rfl⟩:=nH hc
 obtain ⟨d0,Ho,rfl⟩:=nH hd
 have mj:xs[j]'(by omega) ∈ xs:=List.getElem_mem _
 have mi:xs[i] ∈ xs:=List.getElem_mem _
 rw[uE (gm _ mj c0 rI),uE (gm _ mi d0 Ho)]
 have l1:=eY.1 (qP (rS h _ mj).2 c0 rI)
 have l2:=eY.1 (qP (rS h _ mi).2 d0 Ho)
 intro he
 have hx:xs=xs.take i++xs[i]::xs.drop (i+1):=by rw[List.getElem_cons_drop,List.take_append_drop]
 unfold flatK at hn
 rw[hx,List.flatMap_append,List.flatMap_cons,List.nodup_append] at hn
 refine hn.2.2 (cZ c0) ?_ (cZ c0) ?_ rfl
 ·grind
 grind [cZ]
theorem iD {p:Plain} (h:u_ p) {i:Nat} (hi:i < List.length p.2.1):∃ t,bs p.1 (bu (p.2.1[i]).2.1)=some t:=by
 obtain ⟨t,ht⟩:=h.back
 exact IS h.eo (gk h.iq).ch ht hi λj hj c hc d hd=>pp h.iq hi hj hc hd
theorem rT {α:Type} [DecidableEq α]:∀ (l m:List α),l.Nodup->(∀ x ∈ l,x ∈ m)->l.length<=m.length
 | [],_,_,_=>Nat.zero_le _
 | x::l,m,hn,h=>by
  rw[List.nodup_cons] at hn
  have hx:=h x List.mem_cons_self
  have ih:=rT l (m.erase x) hn.2 λy hy=>(List.mem_erase_of_ne (λe=>hn.1 (by grind))).2 (h y (List.mem_cons_of_mem _ hy))
  grind
theorem lr {rows:List Row} {o:Op} (hg:Good rows) (xV:cY o.2.2.1=0) (h:(aS rows o).2=0):fa (aS rows o).1=0/\ck (aS rows o).1=rk o.2.2.1/\jd rows (aS rows o).1=true/\cl (aS rows o).1:=by
 have kK:rl o.2.2.1:=by grind [rl,jN,al]
 have mK:rl qO:=Nat.zero_le _
 have key:∀ c:Change,c=(aS rows o).1->fa c=0/\ck c=rk o.2.2.1/\(if c.1=true then c.2.1 ∈ rows else ∀ r ∈ rows,rk r≠ck c)/\cl c:=by
  intro c hc
  unfold aS at h hc
  have Se:(o.2.2.1.1,o.2.2.1.2.1)=rk o.2.2.1:=rfl
  simp only[Se] at h hc
  cases hf:fm rows (rk o.2.2.1) with
  | true=>
   obtain ⟨hp,hk⟩:=kX hf
   have hm:rows[pos rows (rk o.2.2.1)] ∈ rows:=List.getElem_mem hp
   have hb:=hg.2 _ hm
   have Ph:rl rows[pos rows (rk o.2.2.1)]:=by grind [rl,jN,al]
   rw[hf,List.getElem?_eq_getElem hp] at h hc
   generalize hx:rows[pos rows (rk o.2.2.1)]=x at *
   cases Y:decide (o.1=2) with
   | true=>grind
   | false=>
    rw[Y] at hc
    simp only[Bool.false_and,Bool.not_true,Bool.and_false,Bool.false_eq_true,if_false,if_true,Option.getD_some] at hc
    cases h4:decide (o.1=4) with
    | true=>
     rw[h4] at hc
     subst hc
     refine ⟨?_,hk,?_,Ph,mK⟩
     all_goals grind [fa]
    | false=>
     rw[h4] at hc
     subst hc
     refine ⟨?_,rfl,?_,Ph,kK⟩
     all_goals grind [sP,fa]
  | false=>
   have jv:∀ r ∈ rows,rk r≠rk o.2.2.1:=λr hr he=>by
    obtain ⟨i,hi,hx⟩:=List.getElem_of_mem hr
    have:=(qg hg.1 hi (k:=rk o.2.2.1) (by grind)).1
    grind
   rw[hf] at h hc
   cases Y:decide (o.1=2) with
   | false=>grind
   | true=>
    have h4:decide (o.1=4)=false:=by
     grind
    rw[Y,h4] at hc
    simp only[Bool.and_false,Bool.not_true,Bool.not_false,Bool.false_and,Bool.false_eq_true,if_false] at hc
    subst hc
    refine ⟨?_,rfl,?_,mK,kK⟩
    ·grind [fa]
    ·exact jv
 obtain ⟨k1,k2,k3,k4⟩:=key _ rfl
 exact ⟨k1,k2,(qm hg.1 k1).2 k3,k4⟩
theorem B7 {r:Row} (h:cY r=0):1<=r.2.1:=by
 grind [cY,bK]
theorem mg {rows:List Row} {xs:List Tx} {o:Op} (ht:(hY rows xs o).2.1=true):po xs o.2.1 (o.2.2.1.1,o.2.2.1.2.1,())=false/\(aS rows o).2=0/\lO rows xs (o.2.2.1.1,o.2.2.1.2.1,())<=12/\fb xs < 12/\((aS rows o).1.1&&((aS rows o).1.2.2.1&&Ty.eq ak (aS rows o).1.2.1 (aS rows o).1.2.2.2.1))=false/\hY rows xs o=(0,true,(aS rows o).1,()):=by
 unfold hY at ht ⊢
 grind
theorem Hq {p:Plain} (h:u_ p) {o:Op} (xV:cY o.2.2.1=0) {j:Nat} (hj:j < List.length p.2.1) (dr:gn p.2.1 o.2.1=(j:Int)) (qo:(p.2.1[j]).1=o.2.1) (ht:(hY p.1 p.2.1 o).2.1=true) :
  sW p.2.1 o.2.1 (aS p.1 o).1=((0:Int),lq p.2.1 j (aS p.1 o).1,()):=by
 obtain ⟨r1,r2,r3,r4,r5,r6⟩:=mg ht
 obtain ⟨w1,w2,w3,w4⟩:=lr h.eo xV r2
 have hk:cZ (aS p.1 o).1=(o.2.2.1.1,o.2.2.1.2.1,()):=by unfold cZ;rw[w2];rfl
 have fM:qI (aS p.1 o).1=0:=by
  grind [qI]
 have xO:∀ x ∈ (p.2.1:List Tx),x.1≠o.2.1->cq x.2.2.2.1 (o.2.2.1.1,o.2.2.1.2.1,())=false:=λx hx ci=>by
  grind [cq,po,nq]
 have Od:¬ (fJ p.2.1 (cZ (aS p.1 o).1)≠0/\fJ p.2.1 (cZ (aS p.1 o).1)≠o.2.1):=by
  grind [E9]
 have nQ:¬ (fJ p.2.1 (cZ (aS p.1 o).1)=0/\12<=List.length (((p.2.1:List Tx).getD (gn p.2.1 o.2.1).toNat (0,[],[],[],())).2.2.2.1:List Key)):=by
  rintro ⟨J,a2⟩
  rw[dr,Int.toNat_natCast,List.getD_eq_getElem?_getD,List.getElem?_eq_getElem hj,Option.getD_some] at a2
  rw[hk] at J
  have hz:=E_ J (λx hx=>(rS h.iq x hx).1) _ (List.getElem_mem hj)
  have kS:((p.2.1[j]).2.2.2.1:List Key).Nodup:=by
   have:=uF h.iq
   grind [flatK]
  have Bi:¬ (o.2.2.1.2.1=0):=by have:=(B7 xV);omega
  have sh:=rT ((o.2.2.1.1,o.2.2.1.2.1,())::(p.2.1[j]).2.2.2.1) (dd [] (ef p.1 p.2.1++qL (o.2.2.1.1,o.2.2.1.2.1,()))) (List.nodup_cons.2 ⟨λhm=>(by rw[eY.2 hm] at hz;cases hz),kS⟩) (λq hq=>by
   grind [uu,qL,ef,flatK])
  grind [lO]
 unfold sW
 rw[if_pos h.iq,if_neg (by grind),if_pos fM,if_neg Od,if_neg (by omega),if_neg nQ,dr,Int.toNat_natCast]
end OT
set_option linter.unusedVariables false
set_option linter.unusedSimpArgs false
set_option linter.unusedSectionVars false
namespace OT
open Go
abbrev oc (k:Int):dN:=(k,(0:Int),(([]:List Row),([]:List Tx),(0:Int),()),())
def gO (p:Plain) (o:Op) (R:dN):Prop:=cv.ab (p,o,())=some (R,())/\cu.ab (p,o,())=some (R,())
theorem Hr {p:Plain} {o:Op} (hp:nv p) (h:¬ bM p=0):gO p o (oc (bM p)):=by
 constructor
 ·refine ah (k:=0) λk _=>(cv.ae k _).trans ?_
  unfold cv.p
  rw[nl p hp]
  simp only[Option.bind_some]
  rw[decide_eq_false h,Bool.not_false,cond_true]
 ·refine ah (k:=0) λk _=>(cu.ae k _).trans ?_
  unfold cu.p
  rw[ql p hp]
  simp only[Option.bind_some]
  rw[decide_eq_false h,Bool.not_false,cond_true,yT]
  rfl
theorem DM {p:Plain} {o:Op} (hp:nv p) (ho:rl o.2.2.1) (h:bM p=0) (Y:¬ (cG p.1 p.2.1 o).1=0):gO p o (oc (cG p.1 p.2.1 o).1):=by
 constructor
 ·refine ah (k:=0) λk _=>(cv.ae k _).trans ?_
  unfold cv.p
  rw[nl p hp]
  simp only[Option.bind_some]
  rw[h,decide_eq_true rfl,Bool.not_true,cond_false,xU _ _ _ hp.1 hp.2.1 hp.2.2 ho]
  simp only[Option.bind_some]
  rw[decide_eq_false Y,Bool.not_false,cond_true]
 ·refine ah (k:=0) λk _=>(cu.ae k _).trans ?_
  unfold cu.p
  rw[ql p hp]
  simp only[Option.bind_some]
  rw[h,decide_eq_true rfl,Bool.not_true,cond_false,xT _ _ _ hp.1 hp.2.1 hp.2.2 ho]
  simp only[Option.bind_some]
  rw[decide_eq_false Y,Bool.not_false,cond_true,yT]
  rfl
theorem qQ {p:Plain} {o:Op} {R:dN} (hp:nv p) (ho:rl o.2.2.1) (h:bM p=0) (Y:(cG p.1 p.2.1 o).1=0)
  (hi:(bif decide (o.1=(1:Int)) then (bif decide (p.2.2.1=(100:Int)) then (some (oc 9,()):Option cv.Out) else if List.length p.2.1+[(p.2.2.1,([]:List Change),([]:List Int),([]:List Key),())].length<=bX then (let y5:=p.2.1++[(p.2.2.1,([]:List Change),([]:List Int),([]:List Key),())];some (((0:Int),p.2.2.1,(p.1,y5,ai (p.2.2.1+(1:Int)),()),()),())) else none) else bif (cG p.1 p.2.1 o).2.1 then ((cA.ab ((p.1,p.2.1,p.2.2.1,()),[(cG p.1 p.2.1 o).2.2.1],())).bind λr6=>bif !decide (r6.1=(0:Int)) then (some (oc r6.1,())) else (eK.ab (p.2.1,o.2.1,(cG p.1 p.2.1 o).2.2.1,())).bind λr7=>bif !decide (r7.1.1=(0:Int)) then (some (oc r7.1.1,())) else some (((0:Int),(0:Int),(r6.2.1.1,r7.1.2.1,r6.2.1.2.2),()),())) else bif decide (o.1=(5:Int)) then ((im.ab (p.2.1,o.2.1,())).bind λr8=>some (((0:Int),r8.2.1,(p.1,r8.1,p.2.2.1,()),()),())) else bif decide (o.1=(6:Int)) then ((fA.ab (p.2.1,o,())).bind λr9=>(cA.ab ((p.1,p.2.1,p.2.2.1,()),r9.2.1,())).bind λkV=>bif !decide (kV.1=(0:Int)) then (some (oc kV.1,())) else some (((0:Int),(0:Int),(kV.2.1.1,r9.1,kV.2.1.2.2),()),())) else bif decide (o.1=(8:Int)) then ((fA.ab (p.2.1,o,())).bind λoA=>(cA.ab ((p.1,p.2.1,p.2.2.1,()),oA.2.1,())).bind λrN=>bif !decide (rN.1=(0:Int)) then (some (oc rN.1,())) else some (((0:Int),(0:Int),(rN.2.1.1,oA.1,rN.2.1.2.2),()),())) else bif decide (o.1=(7:Int)) then ((fA.ab (p.2.1,o,())).bind λzB=>some (((0:Int),(0:Int),(p.1,zB.1,p.2.2.1,()),()),())) else some (((0:Int),(0:Int),(p.1,p.2.1,p.2.2.1,()),()),()))=some (R,()))
  (hs:cD.ab (p,o,cG p.1 p.2.1 o,())=some (R,())):gO p o R:=by
 constructor
 ·refine ah (k:=0) λk _=>(cv.ae k _).trans ?_
  unfold cv.p
  rw[nl p hp]
  simp only[Option.bind_some]
  rw[h,decide_eq_true rfl,Bool.not_true,cond_false,xU _ _ _ hp.1 hp.2.1 hp.2.2 ho]
  simp only[Option.bind_some]
  rw[Y,decide_eq_true rfl,Bool.not_true,cond_false,La hp.1 hp.2.2]
  exact hi
 ·refine ah (k:=0) λk _=>(cu.ae k _).trans ?_
  unfold cu.p
  rw[ql p hp]
  simp only[Option.bind_some]
  rw[h,decide_eq_true rfl,Bool.not_true,cond_false,xT _ _ _ hp.1 hp.2.1 hp.2.2 ho]
  simp only[Option.bind_some]
  rw[Y,decide_eq_true rfl,Bool.not_true,cond_false,hs]
  rfl
end OT
set_option linter.unusedVariables false
set_option linter.unusedSimpArgs false
set_option linter.unusedSectionVars false
namespace OT
open Go
theorem jK {p:Plain} {o:Op} (P:u_ p) (Y:(cG p.1 p.2.1 o).1=0):fO o=0/\bK o.1 1 9=true/\cG p.1 p.2.1 o=eH p.1 p.2.1 o:=by
 have hr:dR p.1=0:=pk P.eo (by have:=P.len;omega)
 unfold cG at Y ⊢
 rw[if_pos hr,if_pos P.iq] at Y ⊢
 by_cases ho:fO o=0
 rotate_left
 ·rw[if_neg ho] at Y;exact absurd Y ho
 rw[if_pos ho]
 refine ⟨ho,?_,rfl⟩
 unfold fO at ho
 split at ho
 ·cases ho
 ·rename_i hn
  simp only[Bool.or_eq_true,not_or,Bool.not_eq_true',Bool.not_eq_false] at hn
  simpa using hn.1.1.1.1
section
variable {p:Plain} {o:Op} (hp:nv p) (ho:rl o.2.2.1) (h:bM p=0) (Y:(cG p.1 p.2.1 o).1=0)
include hp ho h Y
theorem B8 (hk:o.1=1):(p.2.2.1=100/\gO p o (oc 9))\/(¬ p.2.2.1=100/\gO p o ((0:Int),p.2.2.1,(p.1,p.2.1++[(p.2.2.1,([]:List Change),([]:List Int),([]:List Key),())],p.2.2.1+1,()),())):=by
 have P:=bl h
 have hn:=P.next
 unfold bK at hn
 simp only[Bool.and_eq_true,decide_eq_true_eq] at hn
 have gm:=jK P Y
 have gT:(cG p.1 p.2.1 o).2.1=false:=by
  rw[gm.2.2]
  unfold eH
  rw[if_pos hk]
  split <;> rfl
 have hl:=hp.2.2.1
 have gX:List.length p.2.1+[(p.2.2.1,([]:List Change),([]:List Int),([]:List Key),())].length<=bX:=cm (by simp only[List.length_cons,List.length_nil];omega)
 by_cases B9:p.2.2.1=100
 ·refine .inl ⟨B9,qQ hp ho h Y ?_ ?_⟩
  ·rw[decide_eq_true hk,cond_true,decide_eq_true B9,cond_true]
  ·refine ah (k:=0) λk _=>(cD.ae k _).trans ?_
   unfold cD.p
   rw[lc hp.1 hp.2.2]
   simp only[Option.bind_some]
   rw[fQ _ _ hl]
   simp only[Option.bind_some]
   have:(100:Int)<=p.2.2.1:=by omega
   rw[decide_eq_true hk,cond_true,decide_eq_true this,cond_true,yT]
   rfl
 ·have hw:ai (p.2.2.1+1)=p.2.2.1+1:=bQ (by omega)
  refine .inr ⟨B9,qQ hp ho h Y ?_ ?_⟩
  ·rw[decide_eq_true hk,cond_true,decide_eq_false B9,cond_false,if_pos gX,hw]
  ·refine ah (k:=0) λk _=>(cD.ae k _).trans ?_
   unfold cD.p
   rw[lc hp.1 hp.2.2]
   simp only[Option.bind_some]
   rw[fQ _ _ hl]
   simp only[Option.bind_some]
   have:¬ (100:Int)<=p.2.2.1:=by omega
   rw[decide_eq_true hk,cond_true,decide_eq_false this,cond_false,if_pos gX,gT,cond_false,hw]
theorem IY (hk:o.1=1):∃ R,gO p o R/\(R=oc 9\/∃ n m:Int,R=((0:Int),n,(p.1,p.2.1++[(n,([]:List Change),([]:List Int),([]:List Key),())],m,()),())):=by
 rcases B8 hp ho h Y hk with ⟨_,g⟩ | ⟨_,g⟩
 ·exact ⟨_,g,.inl rfl⟩
 ·exact ⟨_,g,.inr ⟨_,_,rfl⟩⟩
theorem zQ (hk:o.1=7) {j:Nat} (hj:j < List.length p.2.1) (dr:gn p.2.1 o.2.1=(j:Int)):gO p o ((0:Int),(0:Int),(p.1,p.2.1.take j++p.2.1.drop (j+1),p.2.2.1,()),()):=by
 have P:=bl h
 have gm:=jK P Y
 have hl:=hp.2.2.1
 have n1:¬ o.1=1:=by omega
 have n5:¬ o.1=5:=by omega
 have n6:¬ o.1=6:=by omega
 have n8:¬ o.1=8:=by omega
 have n9:¬ o.1=9:=by omega
 have gT:(cG p.1 p.2.1 o).2.1=false:=by
  rw[gm.2.2]
  unfold eH
  rw[if_neg n1,if_neg n9,if_neg (by omega),if_neg n5,if_neg n6,if_neg (by unfold gp;rw[hk];decide)]
 refine qQ hp ho h Y ?_ ?_
 ·rw[decide_eq_false n1,cond_false,gT,cond_false,decide_eq_false n5,cond_false,decide_eq_false n6,cond_false,decide_eq_false n8,cond_false,decide_eq_true hk,cond_true,tr hp.2.2 hj dr n6]
  rfl
 ·refine ah (k:=0) λk _=>(cD.ae k _).trans ?_
  unfold cD.p
  rw[lc hp.1 hp.2.2]
  simp only[Option.bind_some]
  rw[fQ _ _ hl]
  simp only[Option.bind_some]
  rw[decide_eq_false n1,cond_false,decide_eq_false n5,cond_false,decide_eq_false n6,cond_false,decide_eq_true hk,cond_true,dr,vN hl hj]
  simp only[Option.bind_some]
  rw[gT,cond_false]
theorem B_ (hk:o.1=8) {j:Nat} (hj:j < List.length p.2.1) (dr:gn p.2.1 o.2.1=(j:Int)):∃ t,Good t/\t.length<=24/\gO p o ((0:Int),(0:Int),(t,p.2.1.take j++p.2.1.drop (j+1),p.2.2.1,()),())/\bs p.1 (bu (p.2.1[j]).2.1)=some t:=by
 have P:=bl h
 have gm:=jK P Y
 have hl:=hp.2.2.1
 have n1:¬ o.1=1:=by omega
 have n5:¬ o.1=5:=by omega
 have n6:¬ o.1=6:=by omega
 have n7:¬ o.1=7:=by omega
 have n9:¬ o.1=9:=by omega
 have gT:(cG p.1 p.2.1 o).2.1=false:=by
  rw[gm.2.2]
  unfold eH
  rw[if_neg n1,if_neg n9,if_neg (by omega),if_neg n5,if_neg n6,if_neg (by unfold gp;rw[hk];decide)]
 obtain ⟨t,ht⟩:=iD P hj
 have T:=gk P.iq
 have hm:p.2.1[j] ∈ (p.2.1:List Tx):=List.getElem_mem hj
 have hu:=T.nG _ hm
 have hc:=hO (T.ch _ hm)
 have kC:=BW (hp.2.2.2 _ hm).2.2.2
 have hg:=jh _ _ _ P.eo hc ht
 have Be:(bu (p.2.1[j]).2.1).length<=12:=by rw[px];exact hu
 have Nd:=P.len
 refine ⟨t,hg.1,by omega,qQ hp ho h Y ?_ ?_,ht⟩
 ·rw[decide_eq_false n1,cond_false,gT,cond_false,decide_eq_false n5,cond_false,decide_eq_false n6,cond_false,decide_eq_true hk,cond_true,tr hp.2.2 hj dr n6]
  simp only[Option.bind_some]
  rw[wy (p:=(p.1,p.2.1,p.2.2.1,())) P.eo P.len hc kC Be ht]
  rfl
 ·refine ah (k:=0) λk _=>(cD.ae k _).trans ?_
  unfold cD.p
  rw[lc hp.1 hp.2.2]
  simp only[Option.bind_some]
  rw[fQ _ _ hl]
  simp only[Option.bind_some]
  have cI:(0:Int)<=(j:Int)/\(j:Int) < (List.length p.2.1:Int):=by omega
  have rR:(p.2.1:List Tx).set j p.2.1[j]=p.2.1:=List.set_getElem_self hj
  rw[decide_eq_false n1,cond_false,decide_eq_false n5,cond_false,decide_eq_false n6,cond_false,decide_eq_false n7,cond_false,decide_eq_true hk,cond_true,dr,if_pos cI,Int.toNat_natCast]
  simp only[List.getElem?_eq_getElem hj,Option.bind_some,rR]
  rw[qk _ _ P.eo (T.ch _ hm) (by omega),ht]
  simp only[Option.bind_some]
  rw[vN hl hj]
  simp only[Option.bind_some]
  rw[gT,cond_false]
theorem DN (hk:o.1=5) {j:Nat} (hj:j < List.length p.2.1) (dr:gn p.2.1 o.2.1=(j:Int)):gO p o ((0:Int),(List.length (p.2.1[j]).2.2.1:Int),(p.1,p.2.1.set j (n_ p.2.1[j]),p.2.2.1,()),()):=by
 have P:=bl h
 have gm:=jK P Y
 have hl:=hp.2.2.1
 have n1:¬ o.1=1:=by omega
 have n9:¬ o.1=9:=by omega
 have hF:=Y
 rw[gm.2.2] at hF
 have gT:(cG p.1 p.2.1 o).2.1=false:=by
  rw[gm.2.2]
  unfold eH
  rw[if_neg n1,if_neg n9,if_neg (by omega),if_pos hk]
  split <;> rfl
 have Sf:List.length (p.2.1[j]).2.2.1<=8:=by
  unfold eH at hF
  rw[if_neg n1,if_neg n9,if_neg (by omega),if_pos hk] at hF
  split at hF
  ·cases hF
  ·rename_i hn
   unfold kt at hn
   rw[dr,Int.toNat_natCast,List.getElem?_eq_getElem hj] at hn
   simp only[decide_eq_true_eq] at hn
   omega
 refine qQ hp ho h Y ?_ ?_
 ·rw[decide_eq_false n1,cond_false,gT,cond_false,decide_eq_true hk,cond_true,Aa hp.2.2 hj dr Sf]
  rfl
 ·refine ah (k:=0) λk _=>(cD.ae k _).trans ?_
  unfold cD.p
  rw[lc hp.1 hp.2.2]
  simp only[Option.bind_some]
  rw[fQ _ _ hl]
  simp only[Option.bind_some]
  have cI:(0:Int)<=(j:Int)/\(j:Int) < (List.length p.2.1:Int):=by omega
  have rR:(p.2.1:List Tx).set j p.2.1[j]=p.2.1:=List.set_getElem_self hj
  have c1:List.length (p.2.1[j]).2.2.1+[(List.length (p.2.1[j]).2.1:Int)].length<=bX:=cm (by simp only[List.length_cons,List.length_nil];omega)
  rw[decide_eq_false n1,cond_false,decide_eq_true hk,cond_true,dr]
  simp only[cI,and_self,if_true,Int.toNat_natCast,List.getElem?_eq_getElem hj,Option.bind_some,rR]
  rw[if_pos c1]
  rw[gT,cond_false]
  rfl
end
end OT
set_option linter.unusedVariables false
set_option linter.unusedSimpArgs false
set_option linter.unusedSectionVars false
namespace OT
open Go
theorem Ca {n:Int}:∀ (ms:List Int) (i:Nat) (last:Int),0<=last->aW (λ_ last m=>if bK m last n then .inr m else .inl false) (λ_=>true) i ms last=true->∀ m ∈ ms,0<=m/\m<=n
 | [],_,_,_,_,_,h=>by cases h
 | x::ms,i,last,h0,h,m,hm=>by
  simp only[aW] at h
  by_cases hx:bK x last n=true
  ·rw[if_pos hx] at h
   unfold bK at hx
   simp only[Bool.and_eq_true,decide_eq_true_eq] at hx
   rcases List.mem_cons.1 hm with h1 | h1
   ·rw[h1];omega
   ·exact Ca ms (i+1) x (by omega) h m h1
  ·rw[if_neg hx] at h
   cases h
theorem Cb {x:Tx} (h:jx x=0):∀ m ∈ (x.2.2.1:List Int),0<=m/\m<=(List.length x.2.1:Int):=by
 unfold jx at h
 split at h
 ·unfold jg at h
  split at h
  ·cases h
  ·split at h
   ·rename_i hm
    exact Ca _ 0 0 (Int.le_refl 0) hm
   ·cases h
 ·rename_i hn;exact absurd h hn
section
variable {p:Plain} {o:Op} (hp:nv p) (ho:rl o.2.2.1) (h:bM p=0) (Y:(cG p.1 p.2.1 o).1=0)
include hp ho h Y
theorem DO (hk:o.1=6) {j:Nat} (hj:j < List.length p.2.1) (dr:gn p.2.1 o.2.1=(j:Int)):∃ (t:List Row) (n m:Nat),Good t/\t.length<=24/\gO p o ((0:Int),(0:Int),(t,p.2.1.set j (qn p.2.1[j] n m),p.2.2.1,()),())/\o.2.2.2.1=(m:Int)/\(p.2.1[j]).2.2.1[m]?=some (n:Int)/\n<=List.length (p.2.1[j]).2.1/\bs p.1 (bu ((p.2.1[j]).2.1.drop n))=some t:=by
 have P:=bl h
 have gm:=jK P Y
 have hl:=hp.2.2.1
 have n1:¬ o.1=1:=by omega
 have n5:¬ o.1=5:=by omega
 have n9:¬ o.1=9:=by omega
 have hF:=Y
 rw[gm.2.2] at hF
 have gT:(cG p.1 p.2.1 o).2.1=false:=by
  rw[gm.2.2]
  unfold eH
  rw[if_neg n1,if_neg n9,if_neg (by omega),if_neg n5,if_pos hk]
  split <;> rfl
 have Nf:o.2.2.2.1 < (List.length (p.2.1[j]).2.2.1:Int):=by
  unfold eH at hF
  rw[if_neg n1,if_neg n9,if_neg (by omega),if_neg n5,if_pos hk] at hF
  split at hF
  ·cases hF
  ·rename_i hn
   unfold kt at hn
   rw[dr,Int.toNat_natCast,List.getElem?_eq_getElem hj] at hn
   simp only[decide_eq_true_eq] at hn
   omega
 have Pc:0<=o.2.2.2.1:=by
  have:=gm.1
  unfold fO at this
  split at this
  ·cases this
  ·split at this
   ·cases this
   ·rename_i hn
    simp only[Bool.or_eq_true,not_or,Bool.not_eq_true',Bool.not_eq_false] at hn
    have h3:=hn.2
    unfold bK at h3
    simp only[Bool.and_eq_true,decide_eq_true_eq] at h3
    exact h3.1
 have T:=gk P.iq
 have hm:p.2.1[j] ∈ (p.2.1:List Tx):=List.getElem_mem hj
 obtain ⟨m,nt⟩:∃ m:Nat,o.2.2.2.1=(m:Int):=⟨o.2.2.2.1.toNat,by omega⟩
 have uD:m < List.length (p.2.1[j]).2.2.1:=by omega
 have DA:=Cb (rS P.iq _ hm).2 _ (List.getElem_mem uD)
 obtain ⟨n,ci⟩:∃ n:Nat,(p.2.1[j]).2.2.1[m]=(n:Int):=⟨((p.2.1[j]).2.2.1[m]).toNat,by omega⟩
 have hn:(p.2.1[j]).2.2.1[m]?=some (n:Int):=by rw[List.getElem?_eq_getElem uD,ci]
 have mK:n<=List.length (p.2.1[j]).2.1:=by omega
 obtain ⟨t0,th⟩:=iD P hj
 obtain ⟨t,ht⟩:=zN th n
 have hu:=T.nG _ hm
 have Kq:∀ c ∈ (p.2.1[j]).2.1.drop n,fa c=0:=λc hc=>T.ch _ hm c (List.mem_of_mem_drop hc)
 have hc:=hO Kq
 have kC:=BW (λc hc=>(hp.2.2.2 _ hm).2.2.2 c (List.mem_of_mem_drop hc:c ∈ (p.2.1[j]).2.1):∀ c ∈ (p.2.1[j]).2.1.drop n,cl c)
 have hg:=jh _ _ _ P.eo hc ht
 have Be:(bu ((p.2.1[j]).2.1.drop n)).length<=12:=by rw[px,List.length_drop];omega
 have Nd:=P.len
 refine ⟨t,n,m,hg.1,by omega,qQ hp ho h Y ?_ ?_,nt,hn,mK,ht⟩
 ·rw[decide_eq_false n1,cond_false,gT,cond_false,decide_eq_false n5,cond_false,decide_eq_true hk,cond_true,yS hp.2.2 hj dr hk nt uD hn mK]
  simp only[Option.bind_some]
  rw[wy (p:=(p.1,p.2.1,p.2.2.1,())) P.eo P.len hc kC Be ht]
  rfl
 ·refine ah (k:=0) λk _=>(cD.ae k _).trans ?_
  unfold cD.p
  rw[lc hp.1 hp.2.2]
  simp only[Option.bind_some]
  rw[fQ _ _ hl]
  simp only[Option.bind_some]
  have cI:(0:Int)<=(j:Int)/\(j:Int) < (List.length p.2.1:Int):=by omega
  have rR:(p.2.1:List Tx).set j p.2.1[j]=p.2.1:=List.set_getElem_self hj
  rw[decide_eq_false n1,cond_false,decide_eq_false n5,cond_false,decide_eq_true hk,cond_true,dr,if_pos cI,Int.toNat_natCast]
  simp only[List.getElem?_eq_getElem hj,Option.bind_some,rR]
  rw[nt,Fc (hp.2.2.2 _ hm) uD hn mK]
  simp only[Option.bind_some]
  rw[qk _ _ P.eo Kq (by rw[List.length_drop];omega),ht]
  simp only[Option.bind_some]
  rw[gT,cond_false]
theorem va (n1:¬ o.1=1) (n5:¬ o.1=5) (n6:¬ o.1=6) (n7:¬ o.1=7) (n8:¬ o.1=8) (gT:(cG p.1 p.2.1 o).2.1=false):gO p o ((0:Int),(0:Int),(p.1,p.2.1,p.2.2.1,()),()):=by
 have hl:=hp.2.2.1
 refine qQ hp ho h Y ?_ ?_
 ·rw[decide_eq_false n1,cond_false,gT,cond_false,decide_eq_false n5,cond_false,decide_eq_false n6,cond_false,decide_eq_false n8,cond_false,decide_eq_false n7,cond_false]
 ·refine ah (k:=0) λk _=>(cD.ae k _).trans ?_
  unfold cD.p
  rw[lc hp.1 hp.2.2]
  simp only[Option.bind_some]
  rw[fQ _ _ hl]
  simp only[Option.bind_some]
  rw[decide_eq_false n1,cond_false,decide_eq_false n5,cond_false,decide_eq_false n6,cond_false,decide_eq_false n7,cond_false,decide_eq_false n8,cond_false,gT,cond_false]
theorem DQ (hk:gp o.1=true) {j:Nat} (hj:j < List.length p.2.1) (dr:gn p.2.1 o.2.1=(j:Int)) (qo:(p.2.1[j]).1=o.2.1) (gT:(cG p.1 p.2.1 o).2.1=true):Good (ee p.1 (aS p.1 o).1)/\(ee p.1 (aS p.1 o).1).length<=24/\gO p o ((0:Int),(0:Int),(ee p.1 (aS p.1 o).1,lq p.2.1 j (aS p.1 o).1,p.2.2.1,()),()):=by
 have P:=bl h
 have gm:=jK P Y
 have hl:=hp.2.2.1
 have tg:o.1=2\/o.1=3\/o.1=4:=by
  unfold gp at hk
  simpa using hk
 have n1:¬ o.1=1:=by omega
 have n5:¬ o.1=5:=by omega
 have n6:¬ o.1=6:=by omega
 have n7:¬ o.1=7:=by omega
 have n8:¬ o.1=8:=by omega
 have n9:¬ o.1=9:=by omega
 have hF:eH p.1 p.2.1 o=hY p.1 p.2.1 o:=by
  unfold eH
  rw[if_neg n1,if_neg n9,if_neg (by omega),if_neg n5,if_neg n6,if_pos hk]
 have xV:cY o.2.2.1=0:=by
  have:=gm.1
  unfold fO at this
  split at this
  ·cases this
  ·split at this
   ·cases this
   ·exact this
 have ht:(hY p.1 p.2.1 o).2.1=true:=by rw[<-hF,<- gm.2.2];exact gT
 obtain ⟨r1,r2,r3,r4,r5,r6⟩:=mg ht
 obtain ⟨w1,w2,w3,w4⟩:=lr P.eo xV r2
 have Pi:cG p.1 p.2.1 o=(0,true,(aS p.1 o).1,()):=by rw[gm.2.2,hF,r6]
 have hN:=Hq P xV hj dr qo ht
 have hb:bs p.1 [(aS p.1 o).1]=some (ee p.1 (aS p.1 o).1):=by
  simp only[bs,w3,if_true]
 have Nd:=P.len
 have OS:=qe p.1 (aS p.1 o).1
 have xw:=gN P.eo w1
 refine ⟨xw,by omega,qQ hp ho h Y ?_ ?_⟩
 ·rw[Pi]
  simp only
  rw[decide_eq_false n1,cond_false,cond_true,wy (p:=(p.1,p.2.1,p.2.2.1,())) P.eo P.len (λc hc=>by rw[List.mem_singleton] at hc;rw[hc];exact w1) (λc hc=>by rw[List.mem_singleton] at hc;rw[hc];exact w4) (by simp) hb]
  simp only[Option.bind_some]
  rw[B5 _ _ _ hp.2.2 w4,hN]
  rfl
 ·refine ah (k:=0) λk _=>(cD.ae k _).trans ?_
  unfold cD.p
  rw[lc hp.1 hp.2.2]
  simp only[Option.bind_some]
  rw[fQ _ _ hl,Pi]
  simp only[Option.bind_some]
  rw[decide_eq_false n1,cond_false,decide_eq_false n5,cond_false,decide_eq_false n6,cond_false,decide_eq_false n7,cond_false,decide_eq_false n8,cond_false,cond_true,um _ _ P.eo.1 (by omega) (mc w1).1,w3]
  simp only[Option.bind_some,if_true]
  rw[dr,vM _ _ _ hp.2.2 hj]
  rfl
end
theorem DR {e:Ty} (xs:List e.den) (n:Nat):zz (.aa e) (xs.take n)<=zz (.aa e) xs/\zz (.aa e) (xs.drop n)<=zz (.aa e) xs:=by
 have:=kT (e:=e) (xs.take n) (xs.drop n)
 rw[List.take_append_drop] at this
 omega
theorem Fe (rows:List Row) (o:Op):zz ay (aS rows o).1<=zz (.aa ak) rows+zz e_ o:=by
 have hc:∀ (a b:Bool) (x y:Row),zz ay (a,x,b,y,())=zz ak x+zz ak y:=λa b x y=>by
  show 0+(zz ak x+(0+(zz ak y+0)))=_
  omega
 have ho:zz e_ o=0+(0+(zz ak o.2.2.1+(0+0))):=rfl
 have h0:zz ak qO=0:=rfl
 unfold aS
 simp only
 split
 ·exact Nat.zero_le _
 split
 ·exact Nat.zero_le _
 refine Nat.le_trans (Nat.le_of_eq (hc _ _ _ _)) ?_
 have h1:∀ r:Row,(r=qO\/r ∈ rows)->zz ak r<=zz (.aa ak) rows:=λr hr=>by
  rcases hr with hr | hr
  ·rw[hr];exact Nat.zero_le _
  ·have:zz ak r+1<=zz (.aa ak) rows:=ud (e:=ak) hr
   omega
 refine Nat.add_le_add (h1 _ ?_) ?_
 ·split
  ·cases hg:rows[pos rows (o.2.2.1.1,o.2.2.1.2.1)]? with
   | none=>exact .inl rfl
   | some x=>exact .inr (List.mem_of_getElem? hg)
  ·exact .inl rfl
 ·split
  ·exact Nat.zero_le _
  ·omega
theorem wz {e:Ty} (xs:List e.den) (j:Nat) (hj:j < xs.length):zz (.aa e) xs=zz (.aa e) (xs.take j)+(zz e xs[j]+1)+zz (.aa e) (xs.drop (j+1)):=by
 have h1:=kT (e:=e) (xs.take j) (xs.drop j)
 rw[List.take_append_drop] at h1
 have Y:=yJ (e:=e) xs[j] (xs.drop (j+1))
 rw[<-List.drop_eq_getElem_cons hj] at Y
 omega
theorem Le {e:Ty} (xs:List e.den) (j:Nat) (hj:j < xs.length) (y:e.den):zz (.aa e) (xs.set j y)+zz e xs[j]=zz (.aa e) xs+zz e y:=by
 have h1:=wz xs j hj
 have Y:=wz (xs.set j y) j (by rw[List.length_set];exact hj)
 rw[List.getElem_set_self,List.take_set_of_le (Nat.le_refl _),List.drop_set_of_lt (Nat.lt_succ_self _)] at Y
 have h3:zz (.aa e) (xs.drop j.succ)=zz (.aa e) (xs.drop (j+1)):=rfl
 omega
theorem Lf {e:Ty} (xs:List e.den) (j:Nat) (hj:j < xs.length):zz (.aa e) (xs.take j++xs.drop (j+1))+(zz e xs[j]+1)=zz (.aa e) xs:=by
 have h1:=wz xs j hj
 have Y:=kT (e:=e) (xs.take j) (xs.drop (j+1))
 omega
theorem yV {p:Plain} {o:Op} (hp:nv p) (ho:rl o.2.2.1):∃ R,gO p o R/\zz dD R<=zz bF p+3000:=by
 have Sg:zz bF p=zz (.aa ak) p.1+(zz (.aa aC) p.2.1+(0+0)):=rfl
 have hR:∀ (c v n:Int) (rows:List Row) (xs:List Tx),zz dD (c,v,(rows,xs,n,()),())=zz (.aa ak) rows+zz (.aa aC) xs:=λc v n rows xs=>by
  show 0+(0+((zz (.aa ak) rows+(zz (.aa aC) xs+(0+0)))+0))=_
  omega
 have IZ:∀ c:Int,zz dD (oc c)<=zz bF p+3000:=λc=>Nat.zero_le _
 by_cases h:bM p=0
 rotate_left
 ·exact ⟨_,Hr hp h,IZ _⟩
 by_cases Y:(cG p.1 p.2.1 o).1=0
 rotate_left
 ·exact ⟨_,DM hp ho h Y,IZ _⟩
 have P:=bl h
 obtain ⟨c1,c2,c3⟩:=jK P Y
 have Ap:∀ t:List Row,Good t->t.length<=24->zz (.aa ak) t<=1000:=λt hg hl=>by
  have:=DG (xs:=t) hg.2
  omega
 by_cases k1:o.1=1
 ·obtain ⟨R,hs,hr | ⟨n,m,hr⟩⟩:=IY hp ho h Y k1
  ·exact ⟨R,hs,by rw[hr];exact IZ _⟩
  ·refine ⟨R,hs,?_⟩
   rw[hr]
   refine Nat.le_trans (Nat.le_of_eq (hR _ _ _ _ _)) ?_
   have h1:zz (.aa aC) (p.2.1++[(n,([]:List Change),([]:List Int),([]:List Key),())])=zz (.aa aC) p.2.1+1:=kT (e:=aC) p.2.1 [(n,([]:List Change),([]:List Int),([]:List Key),())]
   omega
 by_cases k9:o.1=9
 ·refine ⟨_,va hp ho h Y (by omega) (by omega) (by omega) (by omega) (by omega) ?_,?_⟩
  ·rw[c3]
   unfold eH
   rw[if_neg k1,if_pos k9]
  ·refine Nat.le_trans (Nat.le_of_eq (hR _ _ _ _ _)) ?_
   omega
 have hF:=Y
 rw[c3] at hF
 have xW:¬ gn p.2.1 o.2.1 < 0:=λhn=>by
  unfold eH at hF
  rw[if_neg k1,if_neg k9,if_pos hn] at hF
  cases hF
 obtain ⟨j,hj,dr,qo⟩:=at_mem xW
 have TP:zz aC p.2.1[j]+1<=zz (.aa aC) p.2.1:=ud (e:=aC) (List.getElem_mem hj)
 have SJ:zz (.aa aC) (p.2.1.take j++p.2.1.drop (j+1))+(zz aC p.2.1[j]+1)=zz (.aa aC) p.2.1:=Lf (e:=aC) p.2.1 j hj
 have pK:∀ y:Tx,zz (.aa aC) ((p.2.1:List Tx).set j y)+zz aC p.2.1[j]=zz (.aa aC) p.2.1+zz aC y:=λy=>Le (e:=aC) p.2.1 j hj y
 have SK:zz (.aa ak) p.1<=1000:=Ap p.1 P.eo (by have:=P.len;omega)
 by_cases k5:o.1=5
 ·refine ⟨_,DN hp ho h Y k5 hj dr,?_⟩
  refine Nat.le_trans (Nat.le_of_eq (hR _ _ _ _ _)) ?_
  have a:=pK (n_ p.2.1[j])
  have b:zz aC (n_ p.2.1[j])<=zz aC p.2.1[j]+10:=by
   have c:zz (.aa i64) ((p.2.1[j]).2.2.1++[(List.length (p.2.1[j]).2.1:Int)])=zz (.aa i64) (p.2.1[j]).2.2.1+1:=kT (e:=i64) (p.2.1[j]).2.2.1 [(List.length (p.2.1[j]).2.1:Int)]
   have d:zz aC (n_ p.2.1[j])=0+(zz (.aa ay) (p.2.1[j]).2.1+(zz (.aa i64) ((p.2.1[j]).2.2.1++[(List.length (p.2.1[j]).2.1:Int)])+(zz (.aa aF) (p.2.1[j]).2.2.2.1+0))):=rfl
   have e:zz aC p.2.1[j]=0+(zz (.aa ay) (p.2.1[j]).2.1+(zz (.aa i64) (p.2.1[j]).2.2.1+(zz (.aa aF) (p.2.1[j]).2.2.2.1+0))):=rfl
   omega
  omega
 by_cases k6:o.1=6
 ·obtain ⟨t,n,m,hg,hl,hs,_⟩:=DO hp ho h Y k6 hj dr
  refine ⟨_,hs,?_⟩
  refine Nat.le_trans (Nat.le_of_eq (hR _ _ _ _ _)) ?_
  have:=Ap t hg hl
  have a:=pK (qn p.2.1[j] n m)
  have b:zz aC (qn p.2.1[j] n m)<=zz aC p.2.1[j]:=by
   have c:zz (.aa ay) ((p.2.1[j]).2.1.take n)<=zz (.aa ay) (p.2.1[j]).2.1:=(DR (e:=ay) (p.2.1[j]).2.1 n).1
   have c':zz (.aa i64) ((p.2.1[j]).2.2.1.take (m+1))<=zz (.aa i64) (p.2.1[j]).2.2.1:=(DR (e:=i64) (p.2.1[j]).2.2.1 (m+1)).1
   have d:zz aC (qn p.2.1[j] n m)=0+(zz (.aa ay) ((p.2.1[j]).2.1.take n)+(zz (.aa i64) ((p.2.1[j]).2.2.1.take (m+1))+(zz (.aa aF) (p.2.1[j]).2.2.2.1+0))):=rfl
   have e:zz aC p.2.1[j]=0+(zz (.aa ay) (p.2.1[j]).2.1+(zz (.aa i64) (p.2.1[j]).2.2.1+(zz (.aa aF) (p.2.1[j]).2.2.2.1+0))):=rfl
   omega
  omega
 by_cases k7:o.1=7
 ·refine ⟨_,zQ hp ho h Y k7 hj dr,?_⟩
  refine Nat.le_trans (Nat.le_of_eq (hR _ _ _ _ _)) ?_
  omega
 by_cases k8:o.1=8
 ·obtain ⟨t,hg,hl,hs,_⟩:=B_ hp ho h Y k8 hj dr
  refine ⟨_,hs,?_⟩
  refine Nat.le_trans (Nat.le_of_eq (hR _ _ _ _ _)) ?_
  have:=Ap t hg hl
  omega
 have zP:gp o.1=true:=by
  unfold bK at c2
  simp only[Bool.and_eq_true,decide_eq_true_eq] at c2
  have:o.1=2\/o.1=3\/o.1=4:=by omega
  unfold gp
  simpa using this
 cases ht:(cG p.1 p.2.1 o).2.1 with
 | false=>
  refine ⟨_,va hp ho h Y k1 k5 k6 k7 k8 ht,?_⟩
  refine Nat.le_trans (Nat.le_of_eq (hR _ _ _ _ _)) ?_
  omega
 | true=>
  obtain ⟨hg,hl,hs⟩:=DQ hp ho h Y zP hj dr qo ht
  refine ⟨_,hs,?_⟩
  refine Nat.le_trans (Nat.le_of_eq (hR _ _ _ _ _)) ?_
  have:=Ap _ hg hl
  unfold lq
  rw[List.getElem?_eq_getElem hj]
  simp only
  have a:=pK (ji p.2.1[j] (aS p.1 o).1)
  have b:zz aC (ji p.2.1[j] (aS p.1 o).1)<=zz aC p.2.1[j]+1020:=by
   have hw:=Fe p.1 o
   have Gm:zz e_ o<=8:=by
    have h1:cY o.2.2.1=0:=by
     have:=c1
     unfold fO at this
     split at this
     ·cases this
     ·split at this
      ·cases this
      ·simpa [zP] using this
    have Y:=jN h1
    have h3:zz e_ o=0+(0+((0+(0+(0+(List.length o.2.2.1.2.2.2.1+0))))+(0+0))):=rfl
    omega
   have c:zz (.aa ay) ((p.2.1[j]).2.1++[(aS p.1 o).1])=zz (.aa ay) (p.2.1[j]).2.1+zz (.aa ay) [(aS p.1 o).1]:=kT (e:=ay) _ _
   have c2:zz (.aa ay) [(aS p.1 o).1]=1+(zz ay (aS p.1 o).1+0):=rfl
   have d:zz aC (ji p.2.1[j] (aS p.1 o).1)=0+(zz (.aa ay) ((p.2.1[j]).2.1++[(aS p.1 o).1])+(zz (.aa i64) (p.2.1[j]).2.2.1+(zz (.aa aF) (if cq (p.2.1[j]).2.2.2.1 (cZ (aS p.1 o).1) then (p.2.1[j]).2.2.2.1 else (p.2.1[j]).2.2.2.1++[cZ (aS p.1 o).1])+0))):=rfl
   have e:zz aC p.2.1[j]=0+(zz (.aa ay) (p.2.1[j]).2.1+(zz (.aa i64) (p.2.1[j]).2.2.1+(zz (.aa aF) (p.2.1[j]).2.2.2.1+0))):=rfl
   have f0:∀ (b:Bool) (L:List Key) (q:Key),zz (.aa aF) (if b=true then L else L++[q])<=zz (.aa aF) L+1:=λb L q=>by
    cases b
    ·exact Nat.le_of_eq (kT (e:=aF) L [q])
    ·exact Nat.le_succ _
   have f:=f0 (cq (p.2.1[j]).2.2.2.1 (cZ (aS p.1 o).1)) (p.2.1[j]).2.2.2.1 (cZ (aS p.1 o).1)
   omega
  omega
end OT
set_option linter.unusedVariables false
set_option linter.unusedSimpArgs false
namespace OT
open Go
def pb (D:List UInt8) (i:Nat):Nat:=(D.getD i 0).toNat
theorem Hs {D:List UInt8} {i:Nat} (h:i < D.length):D[i]?=some D[i]/\(D[i]).toNat=pb D i:=⟨List.getElem?_eq_getElem h,by simp[pb,h]⟩
theorem Ht {A B:List UInt8} (h:A.length=B.length) (Y:∀ j,j < A.length->pb A j=pb B j):A=B:=by
 refine List.ext_getElem h λi h1 h3=>?_
 have:=Y i h1
 rw[<-(Hs h1).2,<- (Hs h3).2] at this
 exact UInt8.toNat_inj.1 this
theorem I0 (D:List UInt8) (a n j:Nat) (h:j < n):pb ((D.drop a).take n) j=pb D (a+j):=by
 grind [pb]
def pn (p:List UInt8):Nat:=pb p 0
def uG (p:List UInt8):Nat:=pb p 1
def pat (p:List UInt8) (i:Nat):Nat:=pb p (2+2*i)
def fg (p:List UInt8) (i:Nat):Nat:=pb p (3+2*i)
def Oe (p:List UInt8) (i:Nat):Bool:=if pat p i=0\/fg p i=0 then decide (pat p i=fg p i) else decide (uG p<=pat p i)&&decide (pat p i+fg p i<=64)
def Ng (p:List UInt8) (i k:Nat):Bool:=(decide (fg p i=0)||decide (fg p k=0))||(decide (pat p i+fg p i<=pat p k)||decide (pat p k+fg p k<=pat p i))
def Kr (p:List UInt8):Int:=
 if p.length=64 then
  if pn p<=16/\2+2*pn p<=uG p/\uG p<=64 then
   if (List.range (pn p)).all (Oe p) then
    if (List.range (pn p)).all (λi=>(List.range i).all (Ng p i)) then
     if 0 < pn p/\fg p (pn p - 1)=0 then 8 else 0
    else 8
   else 3
  else 3
 else 1
structure jL (p:List UInt8):Prop where
 len:p.length=64
 n:pn p<=16
 lo:2+2*pn p<=uG p
 hi:uG p<=64
 slot:∀ i,i < pn p->fg p i≠0->uG p<=pat p i/\pat p i+fg p i<=64
 zero:∀ i,i < pn p->fg p i=0->pat p i=0
 apart:∀ i k,i < pn p->k < pn p->i≠k->fg p i≠0->fg p k≠0->pat p i+fg p i<=pat p k\/pat p k+fg p k<=pat p i
 last:0 < pn p->fg p (pn p - 1)≠0
def jj (p:List UInt8) (i:Nat):List UInt8:=(p.drop (pat p i)).take (fg p i)
def cellOf (p:List UInt8) (i:Nat):List UInt8:=if i < pn p then jj p i else []
theorem uH {p:List UInt8} (h:jL p) {i:Nat} (hi:i < pn p):(jj p i).length=fg p i:=by
 unfold jj
 by_cases hz:fg p i=0
 ·simp[hz]
 ·have:=h.slot i hi hz
  have:=h.len
  grind
theorem Cc (p:List UInt8) (i j:Nat) (h:j < fg p i):pb (jj p i) j=pb p (pat p i+j):=I0 p _ _ j h
theorem I1 {p q:List UInt8} {i k:Nat} (hp:(jj p i).length=fg p i) (hq:(jj q k).length=fg q k) (hs:fg p i=fg q k) (hb:∀ j,j < fg p i->pb p (pat p i+j)=pb q (pat q k+j)):jj p i=jj q k:=by
 grind [Ht,Cc]
theorem I2 {p c:List UInt8} {i:Nat} (hp:(jj p i).length=fg p i) (hs:fg p i=c.length) (hb:∀ j,j < c.length->pb p (pat p i+j)=pb c j):jj p i=c:=by
 grind [Ht,Cc]
def SL (p:List UInt8) (s a:Nat) (c:List UInt8):List UInt8:=((lB p a c.length c).set (2+2*s) (UInt8.ofNat a)).set (3+2*s) (UInt8.ofNat c.length)
structure oH (p q:List UInt8) (s a m:Nat):Prop where
 len:q.length=64
 n:pn q=pn p\/(pn q=pn p+1/\s=pn p)
 Nh:s < pn q
 n16:pn q<=16
 lo:2+2*pn q<=uG q
 Sh:uG q<=uG p
 at_:pat q s=a
 sz:fg q s=m
 pos:0 < m
 Qk:uG q<=a
 Ql:a+m<=64
 Cd:∀ i,i < pn q->i≠s->pat q i=pat p i/\fg q i=fg p i
 free:∀ i,i < pn p->i≠s->fg p i≠0->a+m<=pat p i\/pat p i+fg p i<=a
 same:∀ j,uG p<=j->j < 64->(j < a\/a+m<=j)->pb q j=pb p j
theorem oH.ok {p q:List UInt8} {s a m:Nat} (t:oH p q s a m) (h:jL p):jL q:=by
 have aB:∀ i,i < pn q->i≠s->i < pn p:=λi hi hs=>by rcases t.n with h1 | ⟨h1,Y⟩ <;> omega
 have ha:=t.at_
 have hm:=t.sz
 have v9:=t.pos
 have AU:=t.Qk
 have QH:=t.Ql
 have S4:=t.Sh
 have hh:=h.hi
 refine ⟨t.len,t.n16,t.lo,by omega,λi hi hz=>?_,λi hi hz=>?_,λi k hi hk Pj z1 z2=>?_,λhn=>?_⟩
 ·by_cases hs:i=s
  ·grind
  ·obtain ⟨h1,Y⟩:=t.Cd i hi hs
   have:=h.slot i (aB i hi hs) (by omega)
   omega
 ·by_cases hs:i=s
  ·grind
  ·obtain ⟨h1,Y⟩:=t.Cd i hi hs
   have:=h.zero i (aB i hi hs) (by omega)
   omega
 ·by_cases hs:i=s
  ·subst hs
   have Kn:k≠i:=λe=>Pj e.symm
   obtain ⟨h1,Y⟩:=t.Cd k hk Kn
   have:=t.free k (aB k hk Kn) Kn (by omega)
   omega
  ·obtain ⟨h1,Y⟩:=t.Cd i hi hs
   by_cases oq:k=s
   ·subst oq
    have:=t.free i (aB i hi hs) hs (by omega)
    omega
   ·obtain ⟨h3,h4⟩:=t.Cd k hk oq
    have:=h.apart i k (aB i hi hs) (aB k hk oq) Pj (by omega) (by omega)
    omega
 ·by_cases hs:pn q - 1=s
  ·rw[hs];omega
  ·obtain ⟨h1,Y⟩:=t.Cd (pn q - 1) (by omega) hs
   have hq:pn q=pn p:=by
    rcases t.n with h3 | ⟨h3,h4⟩
    all_goals grind
   rw[Y,hq]
   exact h.last (by omega)
theorem oH.Ff {p q:List UInt8} {s a m:Nat} (t:oH p q s a m) (h:jL p) {i:Nat} (hi:i < pn q) (hs:i≠s):jj q i=jj p i:=by
 have xv:i < pn p:=by rcases t.n with h1 | ⟨h1,Y⟩ <;> omega
 obtain ⟨h1,Y⟩:=t.Cd i hi hs
 refine I1 (uH (t.ok h) hi) (uH h xv) Y λj hj=>?_
 have hz:fg p i≠0:=by omega
 have h3:=h.slot i xv hz
 have h4:=t.free i xv hs hz
 rw[h1]
 exact t.same _ (by omega) (by omega) (by omega)
theorem oH.Hu {p q:List UInt8} {s a:Nat} {c:List UInt8} (t:oH p q s a c.length) (h:jL p) (hc:∀ j,j < c.length->pb q (a+j)=pb c j):jj q s=c:=
 I2 (uH (t.ok h) t.Nh) t.sz λj hj=>by rw[t.at_];exact hc j hj
theorem oH.cells {p q:List UInt8} {s a:Nat} {c:List UInt8} (t:oH p q s a c.length) (h:jL p) (hc:∀ j,j < c.length->pb q (a+j)=pb c j) (i:Nat):cellOf q i=if i=s then c else cellOf p i:=by
 have hs:=t.Nh
 unfold cellOf
 by_cases tm:i=s
 ·subst tm
  rw[if_pos hs,if_pos rfl,t.Hu h hc]
 ·rw[if_neg tm]
  by_cases hi:i < pn q
  ·have xv:i < pn p:=by rcases t.n with h1 | ⟨h1,Y⟩ <;> omega
   rw[if_pos hi,if_pos xv,t.Ff h hi tm]
  ·have xv:¬ i < pn p:=by rcases t.n with h1 | ⟨h1,Y⟩ <;> omega
   grind
end OT
set_option linter.unusedVariables false
set_option linter.unusedSimpArgs false
namespace OT
open Go
def Fg (p:List UInt8):Nat->Nat
 | 0=>0
 | m+1=>Fg p m+fg p m
structure SM (p:List UInt8) (k:Nat) (o:List UInt8) (a:Nat):Prop where
 len:o.length=64
 n:pb o 0=pn p
 a:a=64 - Fg p k
 sz:∀ i,i < pn p->fg o i=fg p i
 TQ:∀ i,i < pn p->(k<=i\/fg p i=0)->pat o i=pat p i
 new:∀ i,i < k->fg p i≠0->pat o i=64 - Fg p (i+1)/\∀ j,j < fg p i->pb o (64 - Fg p (i+1)+j)=pb p (pat p i+j)
end OT
set_option linter.unusedVariables false
set_option linter.unusedSimpArgs false
namespace OT
open Go
section
variable {p:List UInt8} (hp:p.length=64)
include hp
end
end OT
set_option linter.unusedVariables false
set_option linter.unusedSimpArgs false
namespace OT
open Go
abbrev Ni:Row:=((0:Int),(0:Int),(0:Int),([]:List UInt8),())
abbrev Fh:o8:=((0:Int),(0:Int),(0:Int),(0:Int),Ni,())
def Nj (d:List UInt8):Row:=((pb d 1:Int),(pb d 2:Int),(pb d 3:Int)*256+(pb d 4:Int),d.drop 6,())
def pq (d:List UInt8):o8×Bool:=
 if d.length=3/\pb d 0=1 then (((0:Int),(1:Int),(pb d 1:Int),(pb d 2:Int),Ni,()),decide (pb d 1<=11)&&decide (pb d 2<=15))
 else if d.length < 6\/pb d 0=1\/2 < pb d 0\/d.length≠6+pb d 5 then (Fh,false)
 else (((0:Int),(pb d 0:Int),(0:Int),(0:Int),Nj d,()),decide (cY (Nj d)=0))
section
variable {p:List UInt8} (hp:jL p)
include hp
end
end OT
set_option linter.unusedVariables false
set_option linter.unusedSimpArgs false
namespace OT
open Go
theorem tt {α:Type} {lt:α->α->Prop} (has:∀ a b,lt a b->¬ lt b a):∀ (xs ys:List α),xs.Perm ys->xs.Pairwise lt->ys.Pairwise lt->xs=ys
 | [],ys,h,_,_=>(List.nil_perm.1 h).symm
 | x::xs,[],h,_,_=>by have:=h.length_eq;cases this
 | x::xs,y::ys,h,h1,Y=>by
  obtain ⟨J,a2⟩:=List.pairwise_cons.1 h1
  obtain ⟨b1,b2⟩:=List.pairwise_cons.1 Y
  by_cases tH:x=y
  ·subst tH
   rw[tt has xs ys ((List.perm_cons x).1 h) a2 b2]
  ·have hx:x ∈ ys:=by
    have:=h.mem_iff.1 (List.mem_cons_self (a:=x) (l:=xs))
    rcases List.mem_cons.1 this with e | e
    ·exact absurd e tH
    ·exact e
   have hy:y ∈ xs:=by
    have:=h.mem_iff.2 (List.mem_cons_self (a:=y) (l:=ys))
    rcases List.mem_cons.1 this with e | e
    ·exact absurd e.symm tH
    ·exact e
   exact absurd (b1 x hx) (has _ _ (J y hy))
theorem zR (xs:List Row) (r:Row):(kY xs r).Perm (r::xs):=by
 unfold kY
 rw[List.append_assoc]
 have:=List.perm_middle (a:=r) (l₁:=xs.take (pos xs (rk r))) (l₂:=xs.drop (pos xs (rk r)))
 rw[List.take_append_drop] at this
 exact this
theorem DS {xs:List Row} {k:Int×Int} {x:Row} (hu:up xs) (h:x ∈ xs.drop (pos xs k)):cO (rk x) k=false:=by
 obtain ⟨i,hi,e⟩:=List.mem_iff_getElem.1 h
 rw[List.length_drop] at hi
 rw[List.getElem_drop] at e
 rw[<-e]
 exact oC xs k _ _ hu (by omega)
theorem DT {xs:List Row} {r:Row} (hu:up xs) (hn:∀ x ∈ xs,rk x≠rk r):up (kY xs r):=by
 unfold kY up
 rw[List.append_assoc,List.pairwise_append]
 have hd:=hu.drop (i:=pos xs (rk r))
 refine ⟨hu.take,?_,λa ha b hb=>?_⟩
 ·rw[List.singleton_append,List.pairwise_cons]
  refine ⟨λb hb=>?_,hd⟩
  have h1:=DS hu hb
  have Y:=hn b (List.mem_of_mem_drop hb)
  cases h3:cO (rk r) (rk b) with
  | true=>rfl
  | false=>exact absurd (sO h1 h3) Y
 ·have h1:=qd ha
  rw[List.singleton_append] at hb
  rcases List.mem_cons.1 hb with e | e
  ·subst e;exact h1
  ·have Y:=DS hu e
   have h3:=hn b (List.mem_of_mem_drop e)
   cases h4:cO (rk a) (rk b) with
   | true=>rfl
   | false=>
    cases h5:cO (rk b) (rk a) with
    | true=>rw[ph h5 h1] at Y;cases Y
    | false=>
     have:=sO h4 h5
     rw[this] at h1
     rw[h1] at Y;cases Y
theorem I3 {a b:Int×Int} (h:cO a b=true):¬ cO b a=true:=by rw[G7 h];exact λh=>by cases h
theorem Hv {xs ys:List Row} (hp:xs.Perm ys) (hx:up xs) (hy:up ys):xs=ys:=tt (λa b h=>I3 h) xs ys hp hx hy
theorem Ce {xs:List Row} (h:up xs):(xs.map rk).Nodup:=by
 unfold List.Nodup
 rw[List.pairwise_map]
 refine h.imp λh1 e=>?_
 rw[e,lU] at h1
 cases h1
end OT
set_option linter.unusedVariables false
set_option linter.unusedSimpArgs false
namespace OT
open Go
abbrev jO:Type:=List (List UInt8)
def Pk {α β:Type} (g:Nat->α->List β):Nat->List α->List β
 | _,[]=>[]
 | i,x::xs=>g i x++Pk g (i+1) xs
def sX (x:gE):Int:=x.2.2.1.2.1
def Hw (x:gE):Int:=x.2.2.1.2.2.1
def Hx (x:gE):Int:=x.2.2.1.2.2.2.1
def I4 (x:gE):Row:=x.2.2.1.2.2.2.2.1
def Of (P:Nat) (p:List UInt8) (s:Nat):List gE:=if fg p s=0 then [] else [((P:Int),(s:Int),(pq (jj p s)).1,())]
def Lg (P:Nat) (p:List UInt8):List gE:=(List.range (pn p)).flatMap (Of P p)
def uI (ps:jO):List gE:=Pk Lg 0 ps
def Fl (ps:jO) (a b:Int):o8×Bool:=match ps[a.toNat]? with
 | some p=>if b.toNat < pn p/\fg p b.toNat≠0 then pq (jj p b.toNat) else (Fh,false)
 | none=>(Fh,false)
def Nk (p:List UInt8) (s:Nat):Bool:=decide (fg p s=0)||(pq (jj p s)).2
def Pm (p:List UInt8):Int:=if Kr p=0 then (if (List.range (pn p)).all (Nk p) then 0 else 5) else Kr p
def Hy (ps:jO) (x:gE):Bool:=!decide (sX x=1)||((Fl ps (Hw x) (Hx x)).2&&decide ((Fl ps (Hw x) (Hx x)).1.2.1=2))
def Nl (x:gE):Option (Int×Int):=if sX x=1 then some (Hw x,Hx x) else none
def Lh (x:gE) (r:Row):gE:=(x.1,x.2.1,(x.2.2.1.1,x.2.2.1.2.1,x.2.2.1.2.2.1,x.2.2.1.2.2.2.1,r,x.2.2.1.2.2.2.2.2),x.2.2.2)
def Og (ps:jO) (x:gE):gE:=if sX x=1 then Lh x (Fl ps (Hw x) (Hx x)).1.2.2.2.2.1 else x
def Oh (ps:jO) (x:gE):List gE:=if sX x=2 then [] else [Og ps x]
def Aq (ps:jO):List gE:=(uI ps).flatMap (Oh ps)
def Oi (ps:jO):Int:=
 if (uI ps).all (Hy ps) then
  if ((uI ps).filterMap Nl).Nodup then (if ((Aq ps).map λx=>rk (I4 x)).Nodup then 0 else 8) else 6
 else 4
def Fm (ps:jO):Int:=if 12 < ps.length then 2 else if jI Pm ps=0 then Oi ps else jI Pm ps
def Cf (ps:jO):Prop:=ps.length<=12/\∀ p ∈ ps,jL p
end OT
set_option linter.unusedVariables false
set_option linter.unusedSimpArgs false
namespace OT
open Go Go.Sort
def Li (ps:jO):Prop:=Cf ps/\∀ p ∈ ps,∀ s,s < pn p->fg p s≠0->(pq (jj p s)).2=true
def Ks (x:gE):Seen:=(I4 x,x.1,x.2.1,decide (sX x=1),(if sX x=1 then Hw x else x.1),(if sX x=1 then Hx x else x.2.1),())
def Qm (xs:List Seen) (x:Seen):List Seen:=xs.take (pos (xs.map (·.1)) (rk x.1))++[x]++xs.drop (pos (xs.map (·.1)) (rk x.1))
def Kt (l:List Seen):List Seen:=l.foldl Qm []
end OT
set_option linter.unusedVariables false
set_option linter.unusedSimpArgs false
namespace OT
open Go Go.Sort
def Ku (ps:jO):List Seen:=if Fm ps=0 then Kt ((Aq ps).map Ks) else []
end OT
set_option linter.unusedVariables false
set_option linter.unusedSimpArgs false
set_option linter.unusedSectionVars false
namespace OT
open Go
structure SN (ps:jO):Prop where
 right:Cf ps
 cells:Li ps
 SO:(uI ps).all (Hy ps)=true
 S5:((uI ps).filterMap Nl).Nodup
 keys:((Aq ps).map λx=>rk (I4 x)).Nodup
 list:Ku ps=Kt ((Aq ps).map Ks)
def Oj (ps:jO):List Row:=(Ku ps).map (·.1)
end OT
set_option linter.unusedVariables false
set_option linter.unusedSimpArgs false
set_option linter.unusedSectionVars false
namespace OT
open Go
section
variable {p:List UInt8} (hp:jL p)
include hp
end
section
variable {p:List UInt8} (hp:jL p) (c:List UInt8) (xX:1<=c.length) (hc:c.length<=20)
include hp xX hc
end
end OT
set_option linter.unusedVariables false
set_option linter.unusedSimpArgs false
set_option linter.unusedSectionVars false
namespace OT
open Go
section
variable {p:List UInt8} (hp:jL p) (c:List UInt8) (xX:1<=c.length) (hc:c.length<=20)
include hp xX hc
variable {s:Nat} (hs:s < pn p) (hz:fg p s≠0)
include hs hz
end
section
variable {p:List UInt8} (hp:jL p) {s:Nat} (hs:s < pn p)
include hp hs
end
end OT
set_option linter.unusedVariables false
set_option linter.unusedSimpArgs false
set_option linter.unusedSectionVars false
namespace OT
open Go
section
variable {p:List UInt8} (hp:jL p)
include hp
end
end OT
set_option linter.unusedVariables false
set_option linter.unusedSimpArgs false
namespace OT
open Go
end OT
set_option linter.unusedVariables false
set_option linter.unusedSimpArgs false
set_option linter.unusedSectionVars false
namespace OT
open Go
def Qn (ps:jO) (P:Nat):List UInt8:=ps.getD P []
def nw (ps:jO) (P s:Nat):List UInt8:=cellOf (Qn ps P) s
structure okW (w:kU) (n:Nat):Prop where
 Ol:Cf w.1
 el:List.length w.2.1<=n
 eb:∀ e ∈ (w.2.1:List uf),List.length e.2.1=64
theorem okW.mono {w:kU} {n m:Nat} (h:okW w n) (hm:n<=m):okW w m:=⟨h.Ol,by have:=h.el;omega,h.eb⟩
structure Si (w:kU) (n P:Nat) (c:List UInt8) (r:Option Nat×kU):Prop where
 ok:okW r.2 (n+2)
 len:List.length r.2.1=List.length w.1
 no:r.1=none->∀ Q s,nw r.2.1 Q s=nw w.1 Q s
 yes:∀ t,r.1=some t->t < 16/\nw w.1 P t=[]/\∀ Q s,nw r.2.1 Q s=if Q=P/\s=t then c else nw w.1 Q s
structure Sj (w:kU) (n P s:Nat) (c:List UInt8) (r:Bool×kU):Prop where
 ok:okW r.2 (n+2)
 len:List.length r.2.1=List.length w.1
 no:r.1=false->∀ Q t,nw r.2.1 Q t=nw w.1 Q t
 yes:r.1=true->∀ Q t,nw r.2.1 Q t=if Q=P/\t=s then c else nw w.1 Q t
end OT
set_option linter.unusedVariables false
set_option linter.unusedSimpArgs false
set_option linter.unusedSectionVars false
namespace OT
open Go
end OT
set_option linter.unusedVariables false
set_option linter.unusedSimpArgs false
set_option linter.unusedSectionVars false
namespace OT
open Go
theorem nJ {r:Row} (h:cY r=0):(0<=r.1/\r.1<=3)/\(1<=r.2.1/\r.2.1<=99)/\(0<=r.2.2.1/\r.2.2.1<=999)/\nW r.2.2.2.1=true:=by
 grind [cY,bK]
theorem Hz {s:List UInt8} (h:nW s=true):s.length<=8:=by
 grind [nW]
structure Sk (w:kU) (n m:Nat) (c:List UInt8) (r:Option (Nat×Nat)×kU):Prop where
 ok:okW r.2 (n+m)
 no:r.1=none->List.length r.2.1=List.length w.1/\∀ Q s,nw r.2.1 Q s=nw w.1 Q s
 yes:∀ P t,r.1=some (P,t)->P < 12/\t < 16/\nw w.1 P t=[]/\∀ Q s,nw r.2.1 Q s=if Q=P/\s=t then c else nw w.1 Q s
end OT
set_option linter.unusedVariables false
set_option linter.unusedSimpArgs false
set_option linter.unusedSectionVars false
namespace OT
open Go
abbrev uJ:Type:=Nat->Nat->List UInt8
def qR (d:List UInt8):Int:=(pq d).1.2.1
def HA (d:List UInt8):Nat:=(pq d).1.2.2.1.toNat
def HB (d:List UInt8):Nat:=(pq d).1.2.2.2.1.toNat
def Nm (d:List UInt8):Row:=(pq d).1.2.2.2.2.1
def rowAt (f:uJ) (P s:Nat):Row:=if qR (f P s)=1 then Nm (f (HA (f P s)) (HB (f P s))) else Nm (f P s)
structure Nn (f:uJ):Prop where
 read:∀ P s,f P s≠[]->(pq (f P s)).2=true
 stub:∀ P s,f P s≠[]->qR (f P s)=1->f (HA (f P s)) (HB (f P s))≠[]/\qR (f (HA (f P s)) (HB (f P s)))=2
 TR:∀ P s Q t,f P s≠[]->f Q t≠[]->qR (f P s)=1->qR (f Q t)=1->HA (f P s)=HA (f Q t)->HB (f P s)=HB (f Q t)->P=Q/\s=t
 key:∀ P s Q t,f P s≠[]->f Q t≠[]->qR (f P s)≠2->qR (f Q t)≠2->rk (rowAt f P s)=rk (rowAt f Q t)->P=Q/\s=t
theorem uK {α:Type} {c:α->Int}:∀ {xs:List α},(∀ x ∈ xs,c x=0)->jI c xs=0
 | [],_=>rfl
 | x::xs,h=>by
  unfold jI
  rw[if_pos (h x List.mem_cons_self)]
  exact uK λy hy=>h y (List.mem_cons_of_mem _ hy)
end OT
set_option linter.unusedVariables false
set_option linter.unusedSimpArgs false
set_option linter.unusedSectionVars false
namespace OT
open Go
def y8 (f:uJ) (P s:Nat) (c:List UInt8):uJ:=λQ t=>if Q=P/\t=s then c else f Q t
section
variable {f:uJ} (S:Nn f)
include S
end
end OT
set_option linter.unusedVariables false
set_option linter.unusedSimpArgs false
set_option linter.unusedSectionVars false
namespace OT
open Go
section
variable {w:kU} {n:Nat} (h:okW w n) (hn:n<=400) {P s A B:Nat} (h1:nw w.1 P s≠[]) (Y:nw w.1 A B≠[]) (mv:Bool) {r:Row} (hr:cY r=0)
include h hn h1 Y hr
end
end OT
set_option linter.unusedVariables false
set_option linter.unusedSimpArgs false
set_option linter.unusedSectionVars false
namespace OT
open Go
section
variable {ps:jO} (hv:Fm ps=0) {P s:Nat} (c1:nw ps P s≠[]) (c2:qR (nw ps P s)≠2)
include hv c1 c2
end
theorem Cg {xs:List Row} (h:(xs.map rk).Nodup):xs.Nodup:=List.Pairwise.of_map rk (λa b h he=>h (congrArg rk he)) h
theorem Lk {xs ys:List Row} (hx:up xs) (hy:up ys) (h:∀ r,r ∈ xs↔r ∈ ys):xs=ys:=by
 have n1:xs.Nodup:=Cg (Ce hx)
 have n2:ys.Nodup:=Cg (Ce hy)
 exact Hv ((List.perm_ext_iff_of_nodup n1 n2).2 h) hx hy
end OT
set_option linter.unusedVariables false
set_option linter.unusedSimpArgs false
set_option linter.unusedSectionVars false
namespace OT
open Go
def No (cs:List Change) (k:Int×Int):Prop:=∀ c ∈ cs,ck c≠k
theorem Ch:∀ (L:List (List Change)) (rows:List Row),Good rows->(∀ cs ∈ L,∀ c ∈ cs,fa c=0)->L.Pairwise (λa b=>∀ d ∈ b,No a (ck d))->(∀ cs ∈ L,∃ t,bs rows cs=some t)->∃ t,bs rows L.flatten=some t
 | [],rows,_,_,_,_=>⟨rows,rfl⟩
 | cs::L,rows,hg,hc,hp,hu=>by
  obtain ⟨s,hs⟩:=hu cs List.mem_cons_self
  rw[List.pairwise_cons] at hp
  have rI:=hc cs List.mem_cons_self
  have Pn:=(jh cs rows s hg rI hs).1
  have hf:=nn cs rows s hg rI hs
  rw[List.flatten_cons,back_append,hs,Option.bind_some]
  refine Ch L s Pn (λx hx=>hc x (List.mem_cons_of_mem _ hx)) hp.2 λx hx=>?_
  obtain ⟨t,ht⟩:=hu x (List.mem_cons_of_mem _ hx)
  exact nm (K:=No cs) x rows s t hg Pn (hc x (List.mem_cons_of_mem _ hx)) (λc Sl=>hp.1 x hx c Sl) hf ht
theorem Fo (ts:List Tx):backs ts=(ts.map λx=>bu x.2.1).flatten:=by
 unfold backs
 rw[List.flatMap_def]
theorem Ci {rows:List Row} (hg:Good rows) {c:Change} (hc:fa c=0) (hf:jd rows c=true):jd (ee rows c) (jJ c)=true/\ee (ee rows c) (jJ c)=rows:=by
 have xw:=gN hg hc
 have Po:=hO (cs:=[c]) (λd hd=>by rw[List.mem_singleton] at hd;rw[hd];exact hc) (jJ c) (by simp[bu])
 have hk:=uE hc
 have DU:=(qm hg.1 hc).1 hf
 have Ko:(jJ c).1=c.2.2.1:=rfl
 have Sm:(jJ c).2.1=c.2.2.2.1:=rfl
 have Pp:(jJ c).2.2.1=c.1:=rfl
 have Sn:(jJ c).2.2.2.1=c.2.1:=rfl
 constructor
 ·rw[qm xw.1 Po,Ko,Sm,hk]
  by_cases h:c.2.2.1=true
  ·rw[if_pos h,k_ hg.1]
   exact .inr ⟨h,rfl⟩
  ·rw[if_neg h]
   intro r hr
   rw[k_ hg.1] at hr
   rcases hr with hr | hr
   ·exact hr.2
   ·exact absurd hr.1 h
 ·refine Lk (gN xw Po).1 hg.1 λr=>?_
  rw[k_ xw.1,k_ hg.1,hk,Pp,Sn]
  by_cases hw:c.1=true
  ·rw[if_pos hw] at DU
   have Kv:=qN hc hw
   constructor
   ·rintro (⟨h1 | h1,Y⟩ | h1)
    ·exact h1.1
    ·exact absurd (by rw[h1.2];exact (mc hc).1 h1.1) Y
    ·rw[h1.2];exact DU
   ·intro h
    by_cases he:rk r=ck c
    ·right
     refine ⟨hw,?_⟩
     obtain ⟨i,hi,hx⟩:=List.getElem_of_mem h
     obtain ⟨j,hj,hy⟩:=List.getElem_of_mem DU
     obtain ⟨_,a2⟩:=qg hg.1 hi (k:=ck c) (by rw[hx];exact he)
     obtain ⟨_,b2⟩:=qg hg.1 hj (k:=ck c) (by rw[hy];exact Kv)
     have gB:i=j:=by rw[<-a2,<- b2]
     subst gB
     rw[<-hx,<- hy]
    ·exact .inl ⟨.inl ⟨h,he⟩,he⟩
  ·rw[if_neg hw] at DU
   constructor
   ·rintro (⟨h1 | h1,Y⟩ | h1)
    ·exact h1.1
    ·exact absurd (by rw[h1.2];exact (mc hc).1 h1.1) Y
    ·exact absurd h1.1 hw
   ·intro h
    exact .inl ⟨.inl ⟨h,DU r h⟩,DU r h⟩
theorem qp {rows:List Row} {ts:List Tx} {n:Int} (hg:Good rows) (hl:rows.length<=12) (ht:dQ ts=0) (hn:bK n 1 100=true) (hx:j_ n ts=false) (hr:fX rows ts<=12) (hu:∀ x ∈ ts,∃ t,bs rows (bu x.2.1)=some t):bM (rows,ts,n,())=0:=by
 have T:=gk ht
 have hb:∃ t,bs rows (backs ts)=some t:=by
  rw[Fo]
  refine Ch _ rows hg ?_ ?_ ?_
  ·intro cs fM
   obtain ⟨x,hx,rfl⟩:=List.mem_map.1 fM
   exact hO (T.ch x hx)
  ·rw[List.pairwise_map,List.pairwise_iff_getElem]
   intro i j hi hj gB d hd c hc
   exact pp ht hj gB hc hd
  ·intro cs fM
   obtain ⟨x,hx,rfl⟩:=List.mem_map.1 fM
   exact hu x hx
 obtain ⟨t,hb⟩:=hb
 unfold bM
 simp only
 rw[if_pos (pk hg (by omega)),if_pos ht,hn,hx,hb]
 rw[if_pos (by rfl),if_neg (by omega)]
theorem vd {p:Plain} (h:bM p=0):j_ p.2.2.1 p.2.1=false:=by
 unfold bM at h
 split at h
 ·split at h
  ·split at h
   ·rename_i h3
    rw[Bool.and_eq_true] at h3
    simpa using h3.2
   ·cases h
  ·rename_i h1;exact absurd h h1
 ·rename_i h1;exact absurd h h1
theorem DV:∀ (xs ys:List Tx) (j:Nat),(∀ i (hi:i < ys.length),iR xs (j+i) ys[i]=0)->aW (λi (_:Unit) x=>if iR xs i x=0 then .inr () else .inl (iR xs i x)) (λ_=>(0:Int)) j ys ()=0
 | xs,[],j,h=>rfl
 | xs,y::ys,j,h=>by
  have h0:=h 0 (by simp)
  simp only[List.getElem_cons_zero,Nat.add_zero] at h0
  simp only[aW]
  rw[if_pos h0]
  refine DV xs ys (j+1) λi hi=>?_
  have:=h (i+1) (by simp only[List.length_cons];omega)
  simp only[List.getElem_cons_succ] at this
  rw[show j+1+i=j+(i+1) by omega]
  exact this
structure jt (ts:List Tx):Prop where
 len:ts.length<=4
 each:∀ x ∈ ts,bK x.1 1 99=true/\jx x=0
 rt:ts.Pairwise λa b=>a.1 < b.1
 apart:(flatK ts).Nodup
 vz:fb ts<=12
theorem xY {ts:List Tx} (h:jt ts):dQ ts=0:=by
 have he:nY ts=0:=DV ts ts 0 λi hi=>by
  obtain ⟨h1,Y⟩:=h.each _ (List.getElem_mem hi)
  rw[Nat.zero_add]
  unfold iR
  rw[if_pos h1]
  by_cases h0:0 < i
  ·rw[if_pos h0,List.getElem?_eq_getElem (show i - 1 < ts.length by omega)]
   simp only
   have:=List.pairwise_iff_getElem.1 h.rt (i - 1) i (by omega) hi (by omega)
   rw[if_neg (by omega)]
   exact Y
  ·rw[if_neg h0];exact Y
 have hc:=h.vz
 have hl:=h.len
 unfold dQ
 rw[if_neg (by omega),if_pos he]
 have ha:qi ts=true:=decide_eq_true h.apart
 rw[ha,if_pos rfl,if_neg (by omega)]
theorem lP {ts:List Tx} (h:dQ ts=0):jt ts:=by
 have hl:=(gk h).len
 have hn:=uF h
 unfold dQ at h
 rw[if_neg (by omega)] at h
 split at h
 ·rename_i he
  have hg:=mf ts he
  have gW:∀ i (hi:i < ts.length),bK (ts[i]).1 1 99=true/\jx ts[i]=0/\(0 < i->∀ y,ts[i - 1]?=some y->y.1 < (ts[i]).1):=λi hi=>by
   have h1:=hg i hi
   unfold iR at h1
   split at h1
   ·rename_i hb
    split at h1
    ·rename_i h0
     rw[List.getElem?_eq_getElem (show i - 1 < ts.length by omega)] at h1 ⊢
     simp only at h1
     split at h1
     ·cases h1
     ·rename_i aB
      exact ⟨hb,h1,λ_ y hy=>by injection hy with hy;rw[<-hy];omega⟩
    ·rename_i h0
     exact ⟨hb,h1,λhh=>absurd hh h0⟩
   ·cases h1
  refine ⟨hl,λx hx=>?_,?_,hn,?_⟩
  ·obtain ⟨i,hi,rfl⟩:=List.getElem_of_mem hx
   exact ⟨(gW i hi).1,(gW i hi).2.1⟩
  ·rw[List.pairwise_iff_getElem]
   have main:∀ (d i:Nat) (hi:i < ts.length) (hj:i+(d+1) < ts.length),(ts[i]).1 < (ts[i+(d+1)]).1:=by
    intro d
    induction d with
    | zero=>
     intro i hi hj
     exact (gW (i+1) hj).2.2 (by omega) _ (by rw[show i+1 - 1=i by omega];exact List.getElem?_eq_getElem hi)
    | succ d ih=>
     intro i hi hj
     have h1:=ih i hi (by omega)
     have Y:=(gW (i+(d+1+1)) hj).2.2 (by omega) (ts[i+(d+1)]'(by omega)) (by rw[show i+(d+1+1) - 1=i+(d+1) by omega];exact List.getElem?_eq_getElem (by omega))
     omega
   intro i j hi hj gB
   have:=main (j - i - 1) i hi (by omega)
   simp only[show i+(j - i - 1+1)=j by omega] at this
   exact this
  ·split at h
   ·split at h
    ·cases h
    ·omega
   ·cases h
 ·rename_i he;exact absurd h he
end OT
set_option linter.unusedVariables false
set_option linter.unusedSimpArgs false
set_option linter.unusedSectionVars false
namespace OT
open Go
theorem Fq:∀ (ks S:List Key),S.Nodup->(dd S ks).Nodup
 | [],S,h=>h
 | x::ks,S,h=>by
  show (dd (if cq S x then S else S++[x]) ks).Nodup
  refine Fq ks _ ?_
  split
  ·exact h
  ·rename_i hx
   rw[List.nodup_append]
   refine ⟨h,by simp,λa ha b hb he=>hx ?_⟩
   rw[List.mem_singleton] at hb
   rw[eY,<- hb,<- he]
   exact ha
theorem oI {rows ls:List Row} {ts tZ:List Tx} (h:∀ k ∈ ef ls tZ,k ∈ ef rows ts):fX ls tZ<=fX rows ts:=by
 unfold fX
 refine rT _ _ (Fq _ _ List.nodup_nil) λk hk=>?_
 rw[uu] at hk ⊢
 rcases hk with hk | hk
 ·cases hk
 ·exact .inr (h k hk)
theorem I5 {rows ls:List Row} {ts tZ:List Tx} {q:Key} (hq:¬ q.2.1=0) (h:∀ k ∈ ef ls tZ,k ∈ ef rows ts\/k=q):fX ls tZ<=lO rows ts q:=by
 unfold fX lO
 refine rT _ _ (Fq _ _ List.nodup_nil) λk hk=>?_
 rw[uu] at hk ⊢
 rcases hk with hk | hk
 ·cases hk
 ·right
  rw[List.mem_append]
  rcases h k hk with h1 | h1
  ·exact .inl h1
  ·right
   unfold qL
   rw[if_neg hq,h1]
   exact List.mem_singleton.2 rfl
theorem wA:∀ (xs:List Tx) (n:Int),xs.foldl (λn x=>n+(List.length x.2.1:Int)) n=n+fb xs
 | [],n=>by unfold fb;simp
 | x::xs,n=>by
  unfold fb
  simp only[List.foldl_cons]
  rw[wA xs (n+_),wA xs (0+_)]
  omega
theorem wB (x:Tx) (xs:List Tx):fb (x::xs)=(List.length x.2.1:Int)+fb xs:=by
 show (x::xs).foldl _ 0=_
 rw[List.foldl_cons,wA]
 omega
theorem pr:∀ (a b:List Tx),fb (a++b)=fb a+fb b
 | [],b=>by
  rw[List.nil_append]
  have:fb []=0:=rfl
  omega
 | x::a,b=>by
  rw[List.cons_append,wB,wB,pr a b]
  omega
theorem uL {xs:List Tx} {j:Nat} (hj:j < xs.length):fb xs=fb (xs.take j)+(List.length (xs[j]).2.1:Int)+fb (xs.drop (j+1)):=by
 have hx:xs=xs.take j++xs[j]::xs.drop (j+1):=by rw[List.getElem_cons_drop,List.take_append_drop]
 conv=>lhs;rw[hx]
 rw[pr,wB]
 omega
theorem nr {xs:List Tx} {j:Nat} (hj:j < xs.length):flatK xs=flatK (xs.take j)++((xs[j]).2.2.2.1++flatK (xs.drop (j+1))):=by
 have hx:xs=xs.take j++xs[j]::xs.drop (j+1):=by rw[List.getElem_cons_drop,List.take_append_drop]
 conv=>lhs;rw[hx]
 unfold flatK
 rw[List.flatMap_append,List.flatMap_cons]
theorem Cj (a b:List Tx):flatK (a++b)=flatK a++flatK b:=by
 unfold flatK
 rw[List.flatMap_append]
theorem qq {ts:List Tx} {j:Nat} {x:Tx} (h:x ∈ ts.take j++ts.drop (j+1)):x ∈ ts:=by
 rcases List.mem_append.1 h with g | g
 ·exact List.mem_of_mem_take g
 ·exact List.mem_of_mem_drop g
theorem I6 (ts:List Tx) (j:Nat):(ts.take j++ts.drop (j+1)).Sublist ts:=by
 rw[<-List.eraseIdx_eq_take_drop_succ]
 exact List.eraseIdx_sublist ts j
theorem zS {ts:List Tx} (h:jt ts) {j:Nat} (hj:j < ts.length):jt (ts.take j++ts.drop (j+1)):=by
 have hs:=I6 ts j
 refine ⟨Nat.le_trans hs.length_le h.len,λx hx=>h.each x (qq hx),h.rt.sublist hs,?_,?_⟩
 ·have ha:=h.apart
  rw[nr hj] at ha
  rw[Cj]
  rw[List.nodup_append] at ha ⊢
  obtain ⟨J,a2,a3⟩:=ha
  rw[List.nodup_append] at a2
  exact ⟨J,a2.2.1,λa ha b hb=>a3 a ha b (List.mem_append_right _ hb)⟩
 ·have hc:=h.vz
  rw[uL hj] at hc
  rw[pr]
  omega
theorem zT {ts:List Tx} {n:Int} (h:jt ts) (hx:j_ n ts=false) (j:Nat):j_ n (ts.take j++ts.drop (j+1))=false:=by
 have iP:∀ x ∈ ts,x.1 < n:=λx mP=>by
  obtain ⟨i,hi,rfl⟩:=List.getElem_of_mem mP
  unfold j_ at hx
  rw[List.getElem?_eq_getElem (show ts.length - 1 < ts.length by omega)] at hx
  simp only[decide_eq_false_iff_not] at hx
  by_cases he:i=ts.length - 1
  ·subst he;omega
  ·have:=List.pairwise_iff_getElem.1 h.rt i (ts.length - 1) hi (by omega) (by omega)
   omega
 unfold j_
 cases hg:(ts.take j++ts.drop (j+1))[(ts.take j++ts.drop (j+1)).length - 1]? with
 | none=>rfl
 | some x=>
  have:=iP x (qq (List.mem_of_getElem? hg))
  simp only[decide_eq_false_iff_not]
  omega
theorem Fs {rows:List Row} {ts:List Tx} {n:Int} (h:bM (rows,ts,n,())=0) {j:Nat} (hj:j < ts.length):bM (rows,ts.take j++ts.drop (j+1),n,())=0:=by
 have P:=bl h
 have R:=lP P.iq
 have pU:=vd h
 simp only at pU
 have hu:∀ x ∈ ts,∃ t,bs rows (bu x.2.1)=some t:=λx hx=>by
  obtain ⟨i,hi,rfl⟩:=List.getElem_of_mem hx
  exact iD P hi
 refine qp P.eo P.len (xY (zS R hj)) P.next (zT R pU j) (Nat.le_trans (oI λk hk=>?_) P.room) λx hx=>hu x (qq hx)
 unfold ef at hk ⊢
 rcases List.mem_append.1 hk with g | g
 ·exact List.mem_append_left _ g
 ·refine List.mem_append_right _ ?_
  unfold flatK at g ⊢
  obtain ⟨x,hx,hm⟩:=List.mem_flatMap.1 g
  exact List.mem_flatMap.2 ⟨x,qq hx,hm⟩
end OT
set_option linter.unusedVariables false
set_option linter.unusedSimpArgs false
set_option linter.unusedSectionVars false
namespace OT
open Go
theorem HC {ts:List Tx} {n:Int} (h:jt ts) (hx:j_ n ts=false):∀ x ∈ ts,x.1 < n:=λx mP=>by
 obtain ⟨i,hi,rfl⟩:=List.getElem_of_mem mP
 unfold j_ at hx
 rw[List.getElem?_eq_getElem (show ts.length - 1 < ts.length by omega)] at hx
 simp only[decide_eq_false_iff_not] at hx
 by_cases he:i=ts.length - 1
 ·subst he;omega
 ·have:=List.pairwise_iff_getElem.1 h.rt i (ts.length - 1) hi (by omega) (by omega)
  omega
theorem C5 {rows:List Row} {ts:List Tx} {n:Int} (h:bM (rows,ts,n,())=0) (B9:¬ n=100) (hl:ts.length < 4):bM (rows,ts++[(n,([]:List Change),([]:List Int),([]:List Key),())],n+1,())=0:=by
 have P:=bl h
 have R:jt ts:=lP P.iq
 have pU:=vd h
 simp only at pU
 have hb:=HC R pU
 have hn:bK n 1 100=true:=P.next
 have tj:=hn
 unfold bK at hn
 simp only[Bool.and_eq_true,decide_eq_true_eq] at hn
 have Pq:flatK (ts++[(n,([]:List Change),([]:List Int),([]:List Key),())])=flatK ts:=by
  rw[Cj]
  have:flatK [(n,([]:List Change),([]:List Int),([]:List Key),())]=[]:=rfl
  rw[this,List.append_nil]
 have hR:jt (ts++[(n,([]:List Change),([]:List Int),([]:List Key),())]):=by
  refine ⟨by rw[List.length_append,List.length_cons,List.length_nil];omega,λx hx=>?_,?_,by rw[Pq];exact R.apart,?_⟩
  ·rcases List.mem_append.1 hx with g | g
   ·exact R.each x g
   ·rw[List.mem_singleton] at g
    subst g
    refine ⟨?_,rfl⟩
    unfold bK
    simp only[Bool.and_eq_true,decide_eq_true_eq]
    omega
  ·rw[List.pairwise_append]
   refine ⟨R.rt,List.pairwise_singleton _ _,λa ha b Jp=>?_⟩
   rw[List.mem_singleton] at Jp
   subst Jp
   exact hb a ha
  ·rw[pr]
   have:fb [(n,([]:List Change),([]:List Int),([]:List Key),())]=0:=rfl
   have:=R.vz
   omega
 refine qp P.eo P.len (xY hR) ?_ ?_ ?_ ?_
 ·unfold bK
  simp only[Bool.and_eq_true,decide_eq_true_eq]
  omega
 ·unfold j_
  rw[List.length_append,List.length_cons,List.length_nil,show ts.length+(0+1) - 1=ts.length by omega,List.getElem?_append_right (Nat.le_refl _),Nat.sub_self]
  simp only[List.getElem?_cons_zero,decide_eq_false_iff_not]
  omega
 ·refine Nat.le_trans (oI λk hk=>?_) P.room
  unfold ef at hk ⊢
  rw[Pq] at hk
  exact hk
 ·intro x hx
  rcases List.mem_append.1 hx with g | g
  ·obtain ⟨i,hi,rfl⟩:=List.getElem_of_mem g
   exact iD P hi
  ·rw[List.mem_singleton] at g
   subst g
   exact ⟨rows,rfl⟩
theorem yW {ts:List Tx} {j:Nat} (hj:j < ts.length) {y:Tx} (hy:y.1=(ts[j]).1) (i:Nat) (hi:i < ts.length):((ts.set j y)[i]'(by rw[List.length_set];exact hi)).1=(ts[i]).1:=by
 rw[List.getElem_set]
 split
 ·rename_i he
  subst he
  exact hy
 ·rfl
theorem uM {rows ls:List Row} {ts:List Tx} {n:Int} (h:bM (rows,ts,n,())=0) {j:Nat} (hj:j < ts.length) {y:Tx} (hg:Good ls) (Kw:y.1=(ts[j]).1) (hy:jx y=0) (hk:(flatK (ts.set j y)).Nodup) (hc:(List.length y.2.1:Int)+fb ts<=12+(List.length (ts[j]).2.1:Int)) (hr:fX ls (ts.set j y)<=12)
  (hu:∃ t,bs ls (bu y.2.1)=some t) (ho:∀ i (hi:i < ts.length),i≠j->agree (λk=>∃ c ∈ bu (ts[i]).2.1,ck c=k) rows ls):bM (ls,ts.set j y,n,())=0:=by
 have P:=bl h
 have R:jt ts:=lP P.iq
 have T:kE ts:=gk P.iq
 have pU:=vd h
 simp only at pU
 have hR:jt (ts.set j y):=by
  refine ⟨by rw[List.length_set];exact R.len,λx hx=>?_,?_,hk,?_⟩
  ·rcases List.mem_or_eq_of_mem_set hx with g | g
   ·exact R.each x g
   ·rw[g,Kw]
    exact ⟨(R.each _ (List.getElem_mem hj)).1,hy⟩
  ·rw[List.pairwise_iff_getElem]
   intro a b ha hb Hg
   rw[List.length_set] at ha hb
   rw[yW hj Kw a ha,yW hj Kw b hb]
   exact List.pairwise_iff_getElem.1 R.rt a b ha hb Hg
  ·have h1:=uL hj
   have Y:=uL (xs:=ts.set j y) (j:=j) (by rw[List.length_set];exact hj)
   rw[List.getElem_set_self,List.take_set_of_le (Nat.le_refl j),List.drop_set_of_lt (by omega)] at Y
   omega
 have hlen:ls.length<=12:=Nat.le_trans (oE (xs:=ts.set j y) hg.1) (by unfold fX at hr;exact hr)
 refine qp hg hlen (xY hR) P.next ?_ hr λx hx=>?_
 ·unfold j_ at pU ⊢
  rw[List.length_set,List.getElem?_eq_getElem (show ts.length - 1 < (ts.set j y).length by rw[List.length_set];omega)]
  rw[List.getElem?_eq_getElem (show ts.length - 1 < ts.length by omega)] at pU
  simp only at pU ⊢
  rw[yW hj Kw _ (by omega)]
  exact pU
 ·obtain ⟨i,hi,rfl⟩:=List.getElem_of_mem hx
  rw[List.length_set] at hi
  rw[List.getElem_set]
  split
  ·exact hu
  ·rename_i ci
   obtain ⟨t,ht⟩:=iD P hi
   have cI:ts[i] ∈ ts:=List.getElem_mem hi
   exact nm (K:=λk=>∃ c ∈ bu (ts[i]).2.1,ck c=k) _ rows ls t P.eo hg (hO (T.ch _ cI)) (λc hc=>⟨c,hc,rfl⟩) (ho i hi (λe=>ci e.symm)) ht
end OT
set_option linter.unusedVariables false
set_option linter.unusedSimpArgs false
set_option linter.unusedSectionVars false
namespace OT
open Go
theorem mh {x a b:Int}:bK x a b=true↔a<=x/\x<=b:=by
 unfold bK
 simp only[Bool.and_eq_true,decide_eq_true_eq]
def uN (n:Int) (i:Nat) (ms:List Int) (last:Int):Bool:=aW (λ_ last m=>if bK m last n then .inr m else .inl false) (λ_=>true) i ms last
theorem lV {n:Int} {i:Nat} {x:Int} {ms:List Int} {last:Int}:uN n i (x::ms) last=if bK x last n then uN n (i+1) ms x else false:=by
 unfold uN
 simp only[aW]
 cases bK x last n <;> rfl
theorem xZ {n:Int}:∀ (ms:List Int) (i:Nat) (last:Int),last<=n->uN n i ms last=true->uN n i (ms++[n]) last=true
 | [],i,last,hl,h=>by
  rw[List.nil_append,lV,if_pos (mh.2 ⟨hl,Int.le_refl n⟩)]
  rfl
 | x::ms,i,last,hl,h=>by
  rw[lV] at h
  rw[List.cons_append,lV]
  by_cases hx:bK x last n=true
  ·rw[if_pos hx] at h ⊢
   exact xZ ms (i+1) x (mh.1 hx).2 h
  ·rw[if_neg hx] at h;cases h
theorem zU {n k:Int}:∀ (ms:List Int) (i m:Nat) (last:Int),uN n i ms last=true->ms[m]?=some k->last<=k/\uN k i (ms.take (m+1)) last=true
 | [],i,m,last,h,hk=>by simp at hk
 | x::ms,i,m,last,h,hk=>by
  rw[lV] at h
  by_cases hx:bK x last n=true
  rotate_left
  ·rw[if_neg hx] at h;cases h
  rw[if_pos hx] at h
  have mP:=mh.1 hx
  cases m with
  | zero=>
   simp only[List.getElem?_cons_zero,Option.some.injEq] at hk
   subst hk
   refine ⟨mP.1,?_⟩
   rw[List.take_succ_cons,List.take_zero,lV,if_pos (mh.2 ⟨mP.1,Int.le_refl x⟩)]
   rfl
  | succ m=>
   simp only[List.getElem?_cons_succ] at hk
   obtain ⟨a,b⟩:=zU ms (i+1) m x h hk
   refine ⟨by omega,?_⟩
   rw[List.take_succ_cons,lV,if_pos (mh.2 ⟨mP.1,a⟩)]
   exact b
theorem x_ {n n':Int} (hn:n<=n'):∀ (ms:List Int) (i:Nat) (last:Int),uN n i ms last=true->uN n' i ms last=true
 | [],i,last,h=>rfl
 | x::ms,i,last,h=>by
  rw[lV] at h ⊢
  by_cases hx:bK x last n=true
  ·rw[if_pos hx] at h
   have:=mh.1 hx
   rw[if_pos (mh.2 ⟨this.1,by omega⟩)]
   exact x_ hn ms (i+1) x h
  ·rw[if_neg hx] at h;cases h
structure Pr (x:Tx):Prop where
 nG:∀ c ∈ (x.2.1:List Change),kD x.2.2.2.1 c=0
 ml:List.length x.2.2.1<=8
 kl:List.length x.2.2.2.1<=12
 marks:uN (List.length x.2.1:Int) 0 x.2.2.1 0=true
 qM:kq x.2.2.2.1=0
theorem Ft {x:Tx} (h:jx x=0):Pr x:=by
 unfold jx at h
 split at h
 ·rename_i hu
  unfold jg at h
  split at h
  ·cases h
  ·rename_i hn
   simp only[Bool.or_eq_true,decide_eq_true_eq,not_or] at hn
   split at h
   ·rename_i hm
    exact ⟨nZ hu,by omega,by omega,hm,h⟩
   ·cases h
 ·rename_i hu;exact absurd h hu
theorem Fu {x:Tx} (h:Pr x):jx x=0:=by
 have hu:qK x=0:=uK h.nG
 unfold jx
 rw[if_pos hu]
 unfold jg
 have h1:=h.ml
 have Y:=h.kl
 have hm:uq (List.length x.2.1:Int) 0 x.2.2.1=true:=h.marks
 rw[if_neg (by simp only[Bool.or_eq_true,decide_eq_true_eq,not_or];omega),if_pos hm]
 exact h.qM
theorem wC {ts:List Tx} {j:Nat} (hj:j < ts.length) (y:Tx):flatK (ts.set j y)=flatK (ts.take j)++(y.2.2.2.1++flatK (ts.drop (j+1))):=by
 rw[nr (xs:=ts.set j y) (j:=j) (by rw[List.length_set];exact hj),List.getElem_set_self,List.take_set_of_le (Nat.le_refl j),List.drop_set_of_lt (by omega)]
theorem Fx {K:Int×Int->Prop} (s:List Row):agree K s s:=λ_ _=>Iff.rfl
theorem Fy {rows:List Row} {ts:List Tx} {n:Int} (h:bM (rows,ts,n,())=0) {j:Nat} (hj:j < ts.length) (hm:List.length (ts[j]).2.2.1 < 8):bM (rows,ts.set j (n_ ts[j]),n,())=0:=by
 have P:=bl h
 have R:jt ts:=lP P.iq
 have X:=Ft (R.each _ (List.getElem_mem hj)).2
 have hk:flatK (ts.set j (n_ ts[j]))=flatK ts:=by rw[wC hj,nr hj];rfl
 have hc:=R.vz
 refine uM h hj P.eo rfl (Fu ⟨X.nG,?_,X.kl,?_,X.qM⟩) (by rw[hk];exact R.apart) ?_ ?_ (iD P hj) λi hi ci=>Fx rows
 ·show ((ts[j]).2.2.1++[(List.length (ts[j]).2.1:Int)]).length<=8
  rw[List.length_append,List.length_cons,List.length_nil]
  omega
 ·exact xZ _ 0 0 (by omega) X.marks
 ·show (List.length (ts[j]).2.1:Int)+fb ts<=_
  omega
 ·refine Nat.le_trans (oI λk ff=>?_) P.room
  unfold ef at ff ⊢
  rwa [hk] at ff
theorem zV {rows t:List Row} {ts:List Tx} (hg:Good rows) {x:Tx} (hx:x ∈ ts) (So:jx x=0) (gm:∀ c ∈ (x.2.1:List Change),fa c=0) {cs:List Change} (hs:∀ c ∈ cs,∃ d ∈ x.2.1,c=jJ d) (hb:bs rows cs=some t):∀ k ∈ iG t,k ∈ ef rows ts:=λk hk=>by
 have hc:∀ c ∈ cs,fa c=0:=λc hc=>by
  obtain ⟨d,hd,rfl⟩:=hs c hc
  exact hO (cs:=[d]) (λe he=>by rw[List.mem_singleton] at he;rw[he];exact gm d hd) _ (by simp[bu])
 have hf:=nn cs rows t hg hc hb
 unfold iG at hk
 obtain ⟨r,hr,rfl⟩:=List.mem_map.1 hk
 unfold ef
 rw[List.mem_append]
 by_cases ho:∀ c ∈ cs,ck c≠rk r
 ·left
  unfold iG
  exact List.mem_map.2 ⟨r,(hf r ho).2 hr,rfl⟩
 ·right
  simp only[Classical.not_forall] at ho
  obtain ⟨c,fM,he⟩:=ho
  have he:ck c=rk r:=Classical.not_not.1 he
  obtain ⟨d,hd,rfl⟩:=hs c fM
  have hl:=eY.1 (qP So d hd)
  unfold flatK
  refine List.mem_flatMap.2 ⟨x,hx,?_⟩
  unfold cZ at hl
  rw[<-uE (gm d hd),he] at hl
  exact hl
theorem vO {rows t:List Row} {ts:List Tx} (hg:Good rows) (ht:dQ ts=0) {i j:Nat} (hi:i < ts.length) (hj:j < ts.length) (ci:i≠j) {cs:List Change} (hs:∀ c ∈ cs,c ∈ bu (ts[j]).2.1) (hb:bs rows cs=some t):agree (λk=>∃ c ∈ bu (ts[i]).2.1,ck c=k) rows t:=by
 have T:kE ts:=gk ht
 have hc:∀ c ∈ cs,fa c=0:=λc hc=>hO (T.ch _ (List.getElem_mem hj)) c (hs c hc)
 have hf:=nn cs rows t hg hc hb
 intro r hr
 refine hf r λc fM he=>?_
 obtain ⟨d,hd,Kx⟩:=hr
 have h1:=hs c fM
 rcases Nat.lt_or_gt_of_ne ci with Y | Y
 ·exact pp ht hj Y hd h1 (by rw[Kx,he])
 ·exact pp ht hi Y h1 hd (by rw[Kx,he])
theorem HD {rows t:List Row} {ts:List Tx} {n:Int} (h:bM (rows,ts,n,())=0) {j:Nat} (hj:j < ts.length) {k m:Nat} (hm:(ts[j]).2.2.1[m]?=some (k:Int)) (Ck:k<=List.length (ts[j]).2.1) (hb:bs rows (bu ((ts[j]).2.1.drop k))=some t):bM (t,ts.set j (qn ts[j] k m),n,())=0:=by
 have P:=bl h
 have R:jt ts:=lP P.iq
 have T:kE ts:=gk P.iq
 have cI:ts[j] ∈ ts:=List.getElem_mem hj
 have hx:=(R.each _ cI).2
 have X:=Ft hx
 have gm:=T.ch _ cI
 have Kq:∀ c ∈ (ts[j]).2.1.drop k,fa c=0:=λc hc=>gm c (List.mem_of_mem_drop hc)
 have hg:=(jh _ _ _ P.eo (hO Kq) hb).1
 have hk:flatK (ts.set j (qn ts[j] k m))=flatK ts:=by rw[wC hj,nr hj];rfl
 have hc:=R.vz
 have sh:∀ c ∈ bu ((ts[j]).2.1.drop k),c ∈ bu (ts[j]).2.1:=λc hc=>by
  rw[inv_split _ k]
  exact List.mem_append_left _ hc
 have aB:List.length ((ts[j]).2.1.take k)=k:=by rw[List.length_take];omega
 refine uM h hj hg rfl (Fu ⟨λc hc=>X.nG c (List.mem_of_mem_take hc),?_,X.kl,?_,X.qM⟩) (by rw[hk];exact R.apart) ?_ ?_ ?_ λi hi ci=>vO P.eo P.iq hi hj ci sh hb
 ·show ((ts[j]).2.2.1.take (m+1)).length<=8
  have:=X.ml
  rw[List.length_take]
  omega
 ·show uN (List.length ((ts[j]).2.1.take k):Int) 0 ((ts[j]).2.2.1.take (m+1)) 0=true
  rw[aB]
  exact (zU _ 0 m 0 X.marks hm).2
 ·show (List.length ((ts[j]).2.1.take k):Int)+fb ts<=_
  rw[aB]
  omega
 ·refine Nat.le_trans (oI λq hq=>?_) P.room
  unfold ef at hq
  rw[hk] at hq
  rcases List.mem_append.1 hq with g | g
  ·refine zV P.eo cI hx gm (λc hc=>?_) hb q g
   obtain ⟨d,hd,he⟩:=nH hc
   exact ⟨d,List.mem_of_mem_drop hd,he⟩
  ·unfold ef
   exact List.mem_append_right _ g
 ·obtain ⟨t0,th⟩:=iD P hj
  have th:bs rows (bu (ts[j]).2.1)=some t0:=th
  rw[inv_split _ k,back_append,hb,Option.bind_some] at th
  exact ⟨t0,th⟩
theorem C6 {rows t:List Row} {ts:List Tx} {n:Int} (h:bM (rows,ts,n,())=0) {j:Nat} (hj:j < ts.length) (hb:bs rows (bu (ts[j]).2.1)=some t):bM (t,ts.take j++ts.drop (j+1),n,())=0:=by
 have P:=bl h
 have R:jt ts:=lP P.iq
 have T:kE ts:=gk P.iq
 have pU:=vd h
 simp only at pU
 have cI:ts[j] ∈ ts:=List.getElem_mem hj
 have hx:=(R.each _ cI).2
 have gm:=T.ch _ cI
 have hg:=(jh _ _ _ P.eo (hO gm) hb).1
 have nQ:fX t (ts.take j++ts.drop (j+1))<=12:=by
  refine Nat.le_trans (oI λq hq=>?_) P.room
  unfold ef at hq
  rcases List.mem_append.1 hq with g | g
  ·exact zV P.eo cI hx gm (λc hc=>by
    obtain ⟨d,hd,he⟩:=nH hc
    exact ⟨d,hd,he⟩) hb q g
  ·unfold ef
   refine List.mem_append_right _ ?_
   unfold flatK at g ⊢
   obtain ⟨x,hx,hm⟩:=List.mem_flatMap.1 g
   exact List.mem_flatMap.2 ⟨x,qq hx,hm⟩
 have hlen:t.length<=12:=Nat.le_trans (oE (xs:=ts.take j++ts.drop (j+1)) hg.1) (by unfold fX at nQ;exact nQ)
 refine qp hg hlen (xY (zS R hj)) P.next (zT R pU j) nQ λx hx=>?_
 have:∃ (i:Nat) (hi:i < ts.length),i≠j/\ts[i]=x:=by
  rcases List.mem_append.1 hx with g | g
  ·obtain ⟨i,hi,rfl⟩:=List.getElem_of_mem g
   rw[List.length_take] at hi
   exact ⟨i,by omega,by omega,by rw[List.getElem_take]⟩
  ·obtain ⟨i,hi,rfl⟩:=List.getElem_of_mem g
   rw[List.length_drop] at hi
   exact ⟨j+1+i,by omega,by omega,by rw[List.getElem_drop]⟩
 obtain ⟨i,hi,ci,rfl⟩:=this
 obtain ⟨t1,Sp⟩:=iD P hi
 exact nm (K:=λk=>∃ c ∈ bu (ts[i]).2.1,ck c=k) _ rows t t1 P.eo hg (hO (T.ch _ (List.getElem_mem hi))) (λc hc=>⟨c,hc,rfl⟩) (vO P.eo P.iq hi hj ci (λc hc=>hc) hb) Sp
end OT
set_option linter.unusedVariables false
set_option linter.unusedSimpArgs false
set_option linter.unusedSectionVars false
namespace OT
open Go
theorem I7 {ks:List Key} (hk:∀ k ∈ ks,lN k=true) (hn:ks.Nodup):kq ks=0:=by
 have main:∀ (ys pre:List Key),pre++ys=ks->aW (λi (_:Unit) k=>if gy ks i k=0 then .inr () else .inl (gy ks i k)) (λ_=>(0:Int)) pre.length ys ()=0:=by
  intro ys
  induction ys with
  | nil=>intro pre _;rfl
  | cons y ys ih=>
   intro pre hp
   have h1:gy ks pre.length y=0:=by
    unfold gy
    have hy:y ∈ ks:=by rw[<-hp];exact List.mem_append_right _ List.mem_cons_self
    have ht:ks.take pre.length=pre:=by rw[<-hp,List.take_left]
    have hx:cq pre y=false:=by
     cases hh:cq pre y with
     | false=>rfl
     | true=>
      have hm:=eY.1 hh
      rw[<-hp,List.nodup_append] at hn
      exact absurd rfl (hn.2.2 y hm y List.mem_cons_self)
    rw[if_pos (hk y hy),ht,hx]
    rfl
   simp only[aW]
   rw[if_pos h1]
   have:=ih (pre++[y]) (by rw[List.append_assoc];exact hp)
   rwa [List.length_append,List.length_cons,List.length_nil] at this
 exact main ks [] rfl
theorem Fz {rows:List Row} {ts:List Tx} {n:Int} {o:Op} (h:bM (rows,ts,n,())=0) (xV:cY o.2.2.1=0) {j:Nat} (hj:j < ts.length) (qo:(ts[j]).1=o.2.1) (ht:(hY rows ts o).2.1=true) :
  bM (ee rows (aS rows o).1,ts.set j (ji ts[j] (aS rows o).1),n,())=0:=by
 have P:=bl h
 have R:jt ts:=lP P.iq
 have T:kE ts:=gk P.iq
 have cI:ts[j] ∈ ts:=List.getElem_mem hj
 have hx:=(R.each _ cI).2
 have X:=Ft hx
 have gm:=T.ch _ cI
 obtain ⟨r1,r2,r3,r4,r5,r6⟩:=mg ht
 obtain ⟨w1,w2,w3,w4⟩:=lr P.eo xV r2
 simp only at w1 w2 w3
 have hq:cZ (aS rows o).1=(o.2.2.1.1,o.2.2.1.2.1,()):=by unfold cZ;rw[w2];rfl
 have fM:qI (aS rows o).1=0:=by
  unfold qI
  rw[if_pos w1,Bool.and_assoc,if_neg (by rw[r5];decide)]
 generalize (aS rows o).1=c at *
 have Bi:¬ (o.2.2.1.2.1=0):=by have:=B7 xV;omega
 have Kv:lN (o.2.2.1.1,o.2.2.1.2.1,())=true:=by
  grind [cY,lN]
 obtain ⟨q,Np⟩:∃ q:Key,q=(o.2.2.1.1,o.2.2.1.2.1,()):=⟨_,rfl⟩
 have xO:∀ x ∈ ts,x.1≠o.2.1->q ∉ (x.2.2.2.1:List Key):=λx mP ci hm=>by
  have:po ts o.2.1 (o.2.2.1.1,o.2.2.1.2.1,())=true:=by
   unfold po
   rw[List.any_eq_true]
   refine ⟨x,mP,?_⟩
   rw[decide_eq_false ci,Bool.not_false,Bool.true_and,List.any_eq_true]
   exact ⟨q,hm,by rw[Np];unfold nq;rw[decide_eq_true rfl,Bool.true_or]⟩
  rw[this] at r1
  cases r1
 have ew:∀ i (hi:i < ts.length),i≠j->(ts[i]).1≠o.2.1:=λi hi ci=>by
  rw[<-qo]
  rcases Nat.lt_or_gt_of_ne ci with h1 | h1
  ·have:=List.pairwise_iff_getElem.1 R.rt i j hi hj h1
   omega
  ·have:=List.pairwise_iff_getElem.1 R.rt j i hj hi h1
   omega
 rw[<-Np] at hq Kv r3
 have Ps:¬ q.2.1=0:=by rw[Np];exact Bi
 have Nq:((ck c).1,(ck c).2,())=q:=hq
 obtain ⟨L,hL⟩:∃ L,L=(if cq (ts[j]).2.2.2.1 (cZ c) then (ts[j]).2.2.2.1 else (ts[j]).2.2.2.1++[cZ c]):=⟨_,rfl⟩
 have HE:∀ k,k ∈ L↔k ∈ (ts[j]).2.2.2.1\/k=q:=λk=>by
  rw[hL,hq]
  split
  ·rename_i hh
   have:=eY.1 hh
   constructor
   ·exact .inl
   ·rintro (h1 | h1)
    ·exact h1
    ·rw[h1];exact this
  ·rw[List.mem_append,List.mem_singleton]
 have st:=nr hj
 have kS:=R.apart
 have rJ:flatK (ts.set j (ji ts[j] c))=flatK (ts.take j)++(L++flatK (ts.drop (j+1))):=by
  rw[wC hj,hL]
  rfl
 have Nr:q ∉ flatK (ts.take j)/\q ∉ flatK (ts.drop (j+1)):=by
  unfold flatK
  constructor
  ·intro hm
   obtain ⟨x,mP,hm⟩:=List.mem_flatMap.1 hm
   obtain ⟨i,hi,rfl⟩:=List.getElem_of_mem mP
   rw[List.length_take] at hi
   rw[List.getElem_take] at hm
   exact xO _ (List.getElem_mem (by omega)) (ew i (by omega) (by omega)) hm
  ·intro hm
   obtain ⟨x,mP,hm⟩:=List.mem_flatMap.1 hm
   obtain ⟨i,hi,rfl⟩:=List.getElem_of_mem mP
   rw[List.length_drop] at hi
   rw[List.getElem_drop] at hm
   exact xO _ (List.getElem_mem (by omega)) (ew (j+1+i) (by omega) (by omega)) hm
 have I8:(flatK (ts.take j)++(L++flatK (ts.drop (j+1)))).Nodup:=by
  rw[hL,hq]
  rw[st] at kS
  split
  ·exact kS
  ·rename_i hh
   have rH:q ∉ (ts[j]).2.2.2.1:=λhm=>hh (eY.2 hm)
   have hp:(flatK (ts.take j)++((ts[j]).2.2.2.1++[q]++flatK (ts.drop (j+1)))).Perm (q::(flatK (ts.take j)++((ts[j]).2.2.2.1++flatK (ts.drop (j+1))))):=by
    rw[show flatK (ts.take j)++((ts[j]).2.2.2.1++[q]++flatK (ts.drop (j+1)))=(flatK (ts.take j)++(ts[j]).2.2.2.1)++q::flatK (ts.drop (j+1)) by simp,<- List.append_assoc]
    exact List.perm_middle
   rw[hp.nodup_iff,List.nodup_cons]
   refine ⟨λhm=>?_,kS⟩
   rcases List.mem_append.1 hm with g | g
   ·exact Nr.1 g
   ·rcases List.mem_append.1 g with g | g
    ·exact rH g
    ·exact Nr.2 g
 have Pt:L.Nodup:=by
  rw[List.nodup_append] at I8
  exact (List.nodup_append.1 I8.2.1).1
 have Qo:L.length<=12:=by
  refine Nat.le_trans (rT L (dd [] (ef rows ts++qL q)) Pt λk hk=>?_) (by unfold lO at r3;exact_mod_cast r3)
  rw[uu]
  right
  rw[List.mem_append]
  rcases (HE k).1 hk with g | g
  ·left
   unfold ef
   refine List.mem_append_right _ ?_
   rw[st]
   exact List.mem_append_right _ (List.mem_append_left _ g)
  ·right
   unfold qL
   rw[if_neg Ps,g]
   exact List.mem_singleton.2 rfl
 have Ns:kq L=0:=I7 (λk hk=>by
  rcases (HE k).1 hk with g | g
  ·exact T.keys _ cI k g
  ·rw[g];exact Kv) Pt
 have Sq:q ∈ L:=(HE q).2 (.inr rfl)
 have hy:jx (ji ts[j] c)=0:=by
  have e:ji ts[j] c=((ts[j]).1,(ts[j]).2.1++[c],(ts[j]).2.2.1,L,()):=by unfold ji;rw[hL]
  rw[e]
  refine Fu ⟨λd hd=>?_,X.ml,Qo,?_,Ns⟩
  ·rcases List.mem_append.1 hd with g | g
   ·have h1:=X.nG d g
    unfold kD at h1 ⊢
    split at h1
    ·rename_i Y
     split at h1
     ·rename_i h3
      rw[if_pos Y,if_pos (eY.2 ((HE _).2 (.inl (eY.1 h3))))]
     ·cases h1
    ·rename_i Y;exact absurd h1 Y
   ·rw[List.mem_singleton] at g
    subst g
    unfold kD
    rw[if_pos fM,hq,if_pos (eY.2 Sq)]
  ·exact x_ (by rw[List.length_append];omega) _ 0 0 X.marks
 have xw:=gN P.eo w1
 have Pu:=λr=>k_ (xs:=rows) P.eo.1 c r
 obtain ⟨i1,i2⟩:=Ci P.eo w1 w3
 have Mp:c.2.2.1=true->rk c.2.2.2.1=ck c:=(mc w1).1
 have S6:fb ts < 12:=r4
 refine uM h hj xw rfl hy (by rw[rJ];exact I8) ?_ ?_ ?_ λi hi ci=>?_
 ·show (((ts[j]).2.1++[c]).length:Int)+fb ts<=_
  rw[List.length_append,List.length_cons,List.length_nil]
  omega
 ·refine Nat.le_trans (I5 (q:=q) Ps λk hk=>?_) (by exact_mod_cast r3)
  unfold ef at hk ⊢
  rw[rJ] at hk
  rcases List.mem_append.1 hk with g | g
  ·unfold iG at g
   obtain ⟨r,hr,rfl⟩:=List.mem_map.1 g
   rcases (Pu r).1 hr with g1 | g1
   ·exact .inl (List.mem_append_left _ (List.mem_map.2 ⟨r,g1.1,rfl⟩))
   ·right
    have:=Mp g1.1
    rw[<-Nq,<- this,g1.2]
    rfl
  ·rcases List.mem_append.1 g with g | g
   ·left
    rw[st]
    exact List.mem_append_right _ (List.mem_append_left _ g)
   ·rcases List.mem_append.1 g with g | g
    ·rcases (HE k).1 g with g | g
     ·left
      rw[st]
      exact List.mem_append_right _ (List.mem_append_right _ (List.mem_append_left _ g))
     ·exact .inr g
    ·left
     rw[st]
     exact List.mem_append_right _ (List.mem_append_right _ (List.mem_append_right _ g))
 ·obtain ⟨t0,th⟩:=iD P hj
  have e:bu (ji ts[j] c).2.1=jJ c::bu (ts[j]).2.1:=by
   show bu ((ts[j]).2.1++[c])=_
   unfold bu
   rw[List.reverse_append]
   rfl
  rw[e]
  refine ⟨t0,?_⟩
  simp only[bs]
  rw[if_pos i1,i2]
  exact th
 ·intro r hr
  obtain ⟨d,hd,Kx⟩:=hr
  have Nt:rk r≠ck c:=λhe=>by
   obtain ⟨d0,Ho,rfl⟩:=nH hd
   have I9:ts[i] ∈ ts:=List.getElem_mem hi
   have hl:=eY.1 (qP (R.each _ I9).2 d0 Ho)
   have LX:=uE (T.ch _ I9 d0 Ho)
   refine xO _ I9 (ew i hi ci) ?_
   have:cZ d0=q:=by unfold cZ;rw[<-LX,Kx,he];exact Nq
   rw[<-this]
   exact hl
  rw[Pu]
  constructor
  ·exact λh1=>.inl ⟨h1,Nt⟩
  ·rintro (h1 | h1)
   ·exact h1.1
   ·exact absurd (by rw[h1.2];exact Mp h1.1) Nt
end OT
set_option linter.unusedVariables false
set_option linter.unusedSimpArgs false
set_option linter.unusedSectionVars false
namespace OT
open Go
inductive iH:Plain->Op->Int->Plain->Prop
 | oJ {rows:List Row} {ts:List Tx} {n:Int} {o:Op} (hk:o.1=1) (hn:¬ n=100) (hl:ts.length < 4):iH (rows,ts,n,()) o n (rows,ts++[nI n],n+1,())
 | yX {rows:List Row} {ts:List Tx} {n:Int} {o:Op} (hk:o.1=9):iH (rows,ts,n,()) o 0 (rows,ts,n,())
 | ve {rows:List Row} {ts:List Tx} {n:Int} {o:Op} {j:Nat} (hk:o.1=5) (hj:j < ts.length) (ew:(ts[j]).1=o.2.1) (hm:List.length (ts[j]).2.2.1 < 8):iH (rows,ts,n,()) o (List.length (ts[j]).2.2.1:Int) (rows,ts.set j (n_ ts[j]),n,())
 | sY {rows t:List Row} {ts:List Tx} {n:Int} {o:Op} {j m k:Nat} (hk:o.1=6) (hj:j < ts.length) (ew:(ts[j]).1=o.2.1) (HF:o.2.2.2.1=(m:Int)) (hm:(ts[j]).2.2.1[m]?=some (k:Int)) (Ck:k<=List.length (ts[j]).2.1) (hb:bs rows (bu ((ts[j]).2.1.drop k))=some t):iH (rows,ts,n,()) o 0 (t,ts.set j (qn ts[j] k m),n,())
 | py {rows:List Row} {ts:List Tx} {n:Int} {o:Op} {j:Nat} (hk:o.1=7) (hj:j < ts.length) (ew:(ts[j]).1=o.2.1):iH (rows,ts,n,()) o 0 (rows,ts.take j++ts.drop (j+1),n,())
 | rU {rows t:List Row} {ts:List Tx} {n:Int} {o:Op} {j:Nat} (hk:o.1=8) (hj:j < ts.length) (ew:(ts[j]).1=o.2.1) (hb:bs rows (bu (ts[j]).2.1)=some t):iH (rows,ts,n,()) o 0 (t,ts.take j++ts.drop (j+1),n,())
 | sZ {rows:List Row} {ts:List Tx} {n:Int} {o:Op} {j:Nat} (hk:gp o.1=true) (hj:j < ts.length) (ew:(ts[j]).1=o.2.1) (hr:cY o.2.2.1=0) (ht:(hY rows ts o).2.1=true):iH (rows,ts,n,()) o 0 (ee rows (aS rows o).1,ts.set j (ji ts[j] (aS rows o).1),n,())
 | vf {rows:List Row} {ts:List Tx} {n:Int} {o:Op} {j:Nat} (hk:gp o.1=true) (hj:j < ts.length) (ew:(ts[j]).1=o.2.1) (ht:(cG rows ts o).2.1=false):iH (rows,ts,n,()) o 0 (rows,ts,n,())
theorem DW {ts:List Tx} (R:jt ts) {i j:Nat} (hi:i < ts.length) (hj:j < ts.length) (h:(ts[i]).1=(ts[j]).1):i=j:=by
 rcases Nat.lt_trichotomy i j with g | g | g
 ·have:=List.pairwise_iff_getElem.1 R.rt i j hi hj g
  omega
 ·exact g
 ·have:=List.pairwise_iff_getElem.1 R.rt j i hj hi g
  omega
theorem vg {ts:List Tx} (R:jt ts) {t:Int} {j:Nat} (hj:j < ts.length) (h:(ts[j]).1=t) (hn:¬ gn ts t < 0):gn ts t=(j:Int):=by
 obtain ⟨i,hi,h1,Y⟩:=at_mem hn
 have:=DW R hi hj (by rw[Y,h])
 subst this
 exact h1
theorem vh {k:Int}:gp k=true↔k=2\/k=3\/k=4:=by
 unfold gp
 simp
section
variable {rows:List Row} {ts:List Tx} {n:Int} {o:Op} (h:bM (rows,ts,n,())=0) (Y:(cG rows ts o).1=0)
include h Y
theorem qs (k1:¬ o.1=1) (k9:¬ o.1=9):¬ gn ts o.2.1 < 0:=by
 have P:=bl h
 obtain ⟨c1,c2,c3⟩:fO o=0/\bK o.1 1 9=true/\cG rows ts o=eH rows ts o:=jK P Y
 intro hn
 rw[c3] at Y
 unfold eH at Y
 rw[if_neg k1,if_neg k9,if_pos hn] at Y
 cases Y
theorem HG (hk:o.1=1):ts.length < 4:=by
 have P:=bl h
 obtain ⟨c1,c2,c3⟩:fO o=0/\bK o.1 1 9=true/\cG rows ts o=eH rows ts o:=jK P Y
 rw[c3] at Y
 unfold eH at Y
 rw[if_pos hk] at Y
 split at Y
 ·cases Y
 ·rename_i hl
  simpa using hl
theorem I_ (hk:o.1=5) {j:Nat} (hj:j < ts.length) (dr:gn ts o.2.1=(j:Int)):List.length (ts[j]).2.2.1 < 8:=by
 have P:=bl h
 obtain ⟨c1,c2,c3⟩:fO o=0/\bK o.1 1 9=true/\cG rows ts o=eH rows ts o:=jK P Y
 rw[c3] at Y
 unfold eH at Y
 rw[if_neg (by omega),if_neg (by omega),if_neg (by omega),if_pos hk] at Y
 split at Y
 ·cases Y
 ·rename_i hn
  unfold kt at hn
  rw[dr,Int.toNat_natCast,List.getElem?_eq_getElem hj] at hn
  simp only[decide_eq_true_eq] at hn
  omega
theorem DX (hk:gp o.1=true):cG rows ts o=hY rows ts o/\cY o.2.2.1=0:=by
 have P:=bl h
 obtain ⟨c1,c2,c3⟩:fO o=0/\bK o.1 1 9=true/\cG rows ts o=eH rows ts o:=jK P Y
 have tg:=vh.1 hk
 have xW:=qs h Y (by omega) (by omega)
 refine ⟨?_,?_⟩
 ·rw[c3]
  unfold eH
  rw[if_neg (by omega),if_neg (by omega),if_neg xW,if_neg (by omega),if_neg (by omega),if_pos hk]
 ·have:=c1
  unfold fO at this
  split at this
  ·cases this
  ·split at this
   ·cases this
   ·simpa [hk] using this
theorem Ja (hn:gp o.1=false):(cG rows ts o).2.1=false:=by
 have P:=bl h
 obtain ⟨c1,c2,c3⟩:fO o=0/\bK o.1 1 9=true/\cG rows ts o=eH rows ts o:=jK P Y
 rw[c3]
 unfold eH dX
 rw[if_neg (show ¬ gp o.1=true by rw[hn];decide)]
 repeat' split
 all_goals rfl
end
theorem DY {p:Plain} {o:Op} {v:Int} {q:Plain} (hp:nv p) (ho:rl o.2.2.1) (h:bM p=0) (Y:(cG p.1 p.2.1 o).1=0) (hs:iH p o v q):gO p o ((0:Int),v,q,()):=by
 have P:=bl h
 have R:jt p.2.1:=lP P.iq
 cases hs with
 | @oJ rows ts n _ hk hn hl=>
  rcases B8 hp ho h Y hk with ⟨g,_⟩ | ⟨_,g⟩
  ·exact absurd g hn
  ·exact g
 | @yX rows ts n _ hk=>
  exact va hp ho h Y (by omega) (by omega) (by omega) (by omega) (by omega) (Ja h Y (by unfold gp;rw[hk];rfl))
 | @ve rows ts n _ j hk hj ew hm=>
  exact DN hp ho h Y hk hj (vg R hj ew (qs h Y (by omega) (by omega)))
 | @sY rows t ts n _ j m k hk hj ew HF hm Ck hb=>
  obtain ⟨t',k',m',hg,hl,hs,e1,e2,e3,e4⟩:=DO hp ho h Y hk hj (vg R hj ew (qs h Y (by omega) (by omega)))
  have DA:m=m':=by omega
  subst DA
  have e2:(ts[j]).2.2.1[m]?=some (k':Int):=e2
  have tg:k=k':=by
   rw[hm] at e2
   injection e2 with e2
   omega
  subst tg
  have e4:bs rows (bu ((ts[j]).2.1.drop k))=some t':=e4
  rw[hb] at e4
  injection e4 with e4
  subst e4
  exact hs
 | @py rows ts n _ j hk hj ew=>
  exact zQ hp ho h Y hk hj (vg R hj ew (qs h Y (by omega) (by omega)))
 | @rU rows t ts n _ j hk hj ew hb=>
  obtain ⟨t',hg,hl,hs,e⟩:=B_ hp ho h Y hk hj (vg R hj ew (qs h Y (by omega) (by omega)))
  have e:bs rows (bu (ts[j]).2.1)=some t':=e
  rw[hb] at e
  injection e with e
  subst e
  exact hs
 | @sZ rows ts n _ j hk hj ew hr ht=>
  have tg:=vh.1 hk
  have:=(DQ hp ho h Y hk hj (vg R hj ew (qs h Y (by omega) (by omega))) ew (by rw[(DX h Y hk).1];exact ht)).2.2
  unfold lq at this
  rw[List.getElem?_eq_getElem hj] at this
  exact this
 | @vf rows ts n _ j hk hj ew ht=>
  have tg:=vh.1 hk
  exact va hp ho h Y (by omega) (by omega) (by omega) (by omega) (by omega) ht
theorem Ll {rows:List Row} {ts:List Tx} {n:Int} {o:Op} (h:bM (rows,ts,n,())=0) (Y:(cG rows ts o).1=0) (hn:¬ (o.1=1/\n=100)):∃ v q,iH (rows,ts,n,()) o v q:=by
 have P:=bl h
 have R:jt ts:=lP P.iq
 obtain ⟨c1,c2,c3⟩:fO o=0/\bK o.1 1 9=true/\cG rows ts o=eH rows ts o:=jK P Y
 by_cases k1:o.1=1
 ·exact ⟨_,_,.oJ k1 (λe=>hn ⟨k1,e⟩) (HG h Y k1)⟩
 by_cases k9:o.1=9
 ·exact ⟨_,_,.yX k9⟩
 have xW:=qs h Y k1 k9
 obtain ⟨j,hj,dr,qo⟩:=at_mem xW
 by_cases k5:o.1=5
 ·exact ⟨_,_,.ve k5 hj qo (I_ h Y k5 hj dr)⟩
 by_cases k6:o.1=6
 ·have hF:=Y
  rw[c3] at hF
  have Nf:o.2.2.2.1 < (List.length (ts[j]).2.2.1:Int):=by
   unfold eH at hF
   rw[if_neg k1,if_neg k9,if_neg xW,if_neg k5,if_pos k6] at hF
   split at hF
   ·cases hF
   ·rename_i hn
    unfold kt at hn
    rw[dr,Int.toNat_natCast,List.getElem?_eq_getElem hj] at hn
    simp only[decide_eq_true_eq] at hn
    omega
  have Pc:0<=o.2.2.2.1:=by
   have:=c1
   unfold fO at this
   split at this
   ·cases this
   ·split at this
    ·cases this
    ·rename_i hn
     simp only[Bool.or_eq_true,not_or,Bool.not_eq_true',Bool.not_eq_false] at hn
     have h3:=hn.2
     unfold bK at h3
     simp only[Bool.and_eq_true,decide_eq_true_eq] at h3
     exact h3.1
  have hm:ts[j] ∈ ts:=List.getElem_mem hj
  obtain ⟨m,nt⟩:∃ m:Nat,o.2.2.2.1=(m:Int):=⟨o.2.2.2.1.toNat,by omega⟩
  have uD:m < List.length (ts[j]).2.2.1:=by omega
  have DA:=Cb (rS P.iq _ hm).2 _ (List.getElem_mem uD)
  obtain ⟨k,ci⟩:∃ k:Nat,(ts[j]).2.2.1[m]=(k:Int):=⟨((ts[j]).2.2.1[m]).toNat,by omega⟩
  obtain ⟨t0,th⟩:=iD P hj
  obtain ⟨t,ht⟩:=zN th k
  exact ⟨_,_,.sY k6 hj qo nt (by rw[List.getElem?_eq_getElem uD,ci]) (by omega) ht⟩
 by_cases k7:o.1=7
 ·exact ⟨_,_,.py k7 hj qo⟩
 by_cases k8:o.1=8
 ·obtain ⟨t,ht⟩:=iD P hj
  exact ⟨_,_,.rU k8 hj qo ht⟩
 have zP:gp o.1=true:=by
  rw[mh] at c2
  rw[vh]
  omega
 obtain ⟨r1,r2⟩:=DX h Y zP
 cases ht:(cG rows ts o).2.1 with
 | false=>exact ⟨_,_,.vf zP hj qo ht⟩
 | true=>exact ⟨_,_,.sZ zP hj qo r2 (by rw[<-r1];exact ht)⟩
theorem ka {p:Plain} {o:Op} {v:Int} {q:Plain} (h:bM p=0) (hs:iH p o v q):bM q=0:=by
 cases hs with
 | oJ hk hn hl=>exact C5 h hn hl
 | yX hk=>exact h
 | ve hk hj ew hm=>exact Fy h hj hm
 | sY hk hj ew HF hm Ck hb=>exact HD h hj hm Ck hb
 | py hk hj ew=>exact Fs h hj
 | rU hk hj ew hb=>exact C6 h hj hb
 | sZ hk hj ew hr ht=>exact Fz h hr hj ew ht
 | vf hk hj ew ht=>exact h
theorem nK {p:Plain} {o:Op} {v:Int} {q:Plain} (hp:nv p) (h:bM p=0) (hs:iH p o v q):nv q:=by
 have hq:=bl (ka h hs)
 have P:=bl h
 have T:kE p.2.1:=gk P.iq
 refine ⟨by have:=hq.len;omega,λx hx=>by have:=jN (hq.eo.2 x hx);unfold rl;rw[al];omega,?_⟩
 obtain ⟨_,_,ht⟩:=hp
 cases hs with
 | oJ hk hn hl=>exact Ld ht (Nat.le_of_lt hl) _
 | yX hk=>exact ht
 | ve hk hj ew hm=>exact yU ht _ (Lb (ht.2 _ (List.getElem_mem hj)) (Nat.le_of_lt hm))
 | sY hk hj ew HF hm Ck hb=>exact yU ht _ (Nc (ht.2 _ (List.getElem_mem hj)) _ _)
 | py hk hj ew=>exact B6 ht _
 | rU hk hj ew hb=>exact B6 ht _
 | @sZ rows ts n _ j hk hj ew hr gT=>
  obtain ⟨r1,r2,_⟩:=mg gT
  exact yU ht _ (Lc (ht.2 _ (List.getElem_mem hj)) (T.nG _ (List.getElem_mem hj)) (T.qM _ (List.getElem_mem hj)) (lr P.eo hr r2).2.2.2)
 | vf hk hj ew rG=>exact ht
theorem Cl {p:Plain} {o:Op} (hp:nv p) (ho:rl o.2.2.1) (h:bM p=0):∃ R,gO p o R/\(R.1=0->∃ v q,R=((0:Int),v,q,())/\(cG p.1 p.2.1 o).1=0/\iH p o v q):=by
 obtain ⟨rows,ts,n,⟨⟩⟩:=p
 by_cases Y:(cG rows ts o).1=0
 rotate_left
 ·exact ⟨_,DM hp ho h Y,λe=>absurd e Y⟩
 by_cases hn:o.1=1/\n=100
 ·rcases B8 hp ho h Y hn.1 with ⟨_,g⟩ | ⟨g,_⟩
  ·exact ⟨_,g,λe=>absurd e (show ¬ (9:Int)=0 by decide)⟩
  ·exact absurd hn.2 g
 ·obtain ⟨v,q,hs⟩:=Ll h Y hn
  exact ⟨_,DY hp ho h Y hs,λ_=>⟨v,q,rfl,Y,hs⟩⟩
end OT
set_option linter.unusedVariables false
set_option linter.unusedSimpArgs false
set_option linter.unusedSectionVars false
namespace OT
open Go
section
variable {ps:jO} (hp:∀ p ∈ ps,p.length<=maxLen)
include hp
end
end OT
set_option linter.unusedVariables false
set_option linter.unusedSimpArgs false
set_option linter.unusedSectionVars false
namespace OT
open Go
end OT
set_option linter.unusedVariables false
set_option linter.unusedSimpArgs false
set_option linter.unusedSectionVars false
namespace OT
open Go
def HH (ps:jO) (e:uf):jO:=if e.1.toNat=ps.length then ps++[e.2.1] else ps.set e.1.toNat e.2.1
def Ky (ps:jO) (es:List uf):jO:=es.foldl HH ps
def Qp (ps:jO) (e:uf):Prop:=List.length e.2.1=64/\0<=e.1/\e.1<=(ps.length:Int)/\e.1 < 12
def FA:jO->List uf->Prop
 | _,[]=>True
 | ps,e::es=>Qp ps e/\FA (HH ps e) es
def Nu (ps:jO) (es:List uf) (B:Nat->List Row):Prop:=∀ j,j<=es.length->Fm (Ky ps (es.take j))=0/\Oj (Ky ps (es.take j))=B j
structure Sr (ps:jO) (w:kU) (B0:List Row):Prop where
 at_:Ky ps w.2.1=w.1
 ed:FA ps w.2.1
 Ss:Nu ps w.2.1 λ_=>B0
structure Qs (ps:jO) (w:kU) (B0 B1:List Row):Prop where
 at_:Ky ps w.2.1=w.1
 ed:FA ps w.2.1
 Ss:∃ m,m<=List.length w.2.1/\Nu ps w.2.1 λj=>if j < m then B0 else B1
end OT
set_option linter.unusedVariables false
set_option linter.unusedSimpArgs false
set_option linter.unusedSectionVars false
namespace OT
open Go
end OT
set_option linter.unusedVariables false
set_option linter.unusedSimpArgs false
set_option linter.unusedSectionVars false
namespace OT
open Go
theorem Lm (x y:Row):Ty.eq ak x y=decide (x=y):=by
 cases h:Ty.eq ak x y with
 | true=>rw[Hc h];simp
 | false=>
  have:¬ x=y:=λhe=>by
   subst he
   have e:Ty.eq ak x x=(decide (x.1=x.1)&&(decide (x.2.1=x.2.1)&&(decide (x.2.2.1=x.2.2.1)&&(decide (x.2.2.2.1=x.2.2.2.1)&&true)))):=rfl
   rw[e] at h
   simp at h
  rw[decide_eq_false this]
def sameAt {α:Type} [DecidableEq α] (ys:List α) (i:Nat) (x:α):Bool:=match ys[i]? with | some y=>decide (x=y) | none=>true
theorem ya {α:Type} [DecidableEq α] {ys:List α} {i:Nat} (h:i < ys.length) (x:α):sameAt ys i x=decide (x=ys[i]):=by unfold sameAt;rw[List.getElem?_eq_getElem h]
theorem zW {α:Type} [DecidableEq α] (ys:List α):∀ (l:List α) (j:Nat),j+l.length=ys.length->aW (λi (_:Unit) x=>if sameAt ys i x then .inr () else .inl (false,())) (λ_=>(true,())) j l ()=(decide (l=ys.drop j),())
 | [],j,h=>by
  have:ys.drop j=[]:=List.drop_eq_nil_of_le (by simpa using Nat.le_of_eq h.symm)
  simp[aW,this]
 | x::l,j,h=>by
  have hj:j < ys.length:=by simp only[List.length_cons] at h;omega
  have hd:ys.drop j=ys[j]::ys.drop (j+1):=(List.drop_eq_getElem_cons hj)
  simp only[aW,ya hj]
  by_cases hx:x=ys[j]
  ·rw[if_pos (by simpa using hx)]
   have:=zW ys l (j+1) (by simp only[List.length_cons] at h;omega)
   refine this.trans ?_
   rw[hd,hx]
   congr 1
   exact decide_eq_decide.2 ⟨λh=>by rw[h],λh=>by injection h⟩
  ·rw[if_neg (by simpa using hx),hd]
   have ci:¬ x::l=ys[j]::ys.drop (j+1):=λh=>hx (by injection h)
   rw[decide_eq_false ci]
theorem HI (xs ys:List Row) (h:xs.length<=1000):eE.ab (xs,ys,())=some (decide (xs=ys),()):=by
 refine ah (k:=1100) λk hk=>(eE.ae k _).trans ?_
 unfold eE.p
 by_cases hl:xs.length=ys.length
 rotate_left
 ·have Dz:¬ ((xs.length:Int)=(ys.length:Int)):=by omega
  have ci:¬ xs=ys:=λhe=>hl (by rw[he])
  rw[decide_eq_false Dz,Bool.not_false,cond_true,decide_eq_false ci]
 have Dz:(xs.length:Int)=(ys.length:Int):=by omega
 rw[decide_eq_true Dz,Bool.not_true,cond_false]
 have:=bJ (B:=λself v=>eE.B0 k self (λz=>eE.Q0 k (xs,ys,()) z) (xs,ys,()) v) xs (λ(_:Unit) (i:Int)=>i) (λi _ x=>if sameAt ys i x then .inr () else .inl (false,())) (λ_=>(true,())) (λ_ _=>True) (by rw[al];omega)
  (λi hi s self _=>by
   show eE.b0 _ _ _ _=_
   unfold eE.b0
   have aB:(i:Int) < (xs.length:Int):=by omega
   rw[decide_eq_true aB,cond_true,if_pos (Int.natCast_nonneg i)]
   simp only[Int.toNat_natCast,List.getElem?_eq_getElem hi,List.getElem?_eq_getElem (show i < ys.length by omega),Option.bind_some,Lm]
   rw[if_pos (Int.natCast_nonneg i)]
   rw[ya (show i < ys.length by omega)]
   by_cases hx:xs[i]=ys[i]'(by omega)
   ·rw[decide_eq_true hx];rfl
   ·rw[decide_eq_false hx];rfl)
  (λ_ _ _ _ _ _=>trivial) (λs self _=>by
   show eE.b0 _ _ _ _=_
   unfold eE.b0
   rw[decide_eq_false (Int.lt_irrefl _),cond_false]
   rfl) () trivial k (by omega)
 rw[zW ys xs 0 (by omega)] at this
 exact this
end OT
set_option linter.unusedVariables false
set_option linter.unusedSimpArgs false
set_option linter.unusedSectionVars false
namespace OT
open Go
end OT
set_option linter.unusedVariables false
set_option linter.unusedSimpArgs false
set_option linter.unusedSectionVars false
namespace OT
open Go
end OT
set_option linter.unusedVariables false
set_option linter.unusedSimpArgs false
set_option linter.unusedSectionVars false
namespace OT
open Go
def bv (s:ax) (b:Int):Prop:=List.length s.1<=1048576/\0<=s.2.1/\s.2.1<=b
theorem bv.mono {s:ax} {a b:Int} (h:bv s a) (hb:a<=b):bv s b:=⟨h.1,h.2.1,Int.le_trans h.2.2 hb⟩
theorem mm {v n:Int} (hv:0<=v) (hn:1<=n):0<=v.tmod n/\v.tmod n < n:=by
 rw[Int.tmod_eq_emod_of_nonneg hv]
 exact ⟨Int.emod_nonneg _ (by omega),Int.emod_lt_of_pos _ (by omega)⟩
theorem gU {s:ax} {b n:Int} (h:bv s b) (hb:b<=1000000) (hn:1<=n) (rH:n<=1000000):∃ v t,am.ab (s,n,())=some (v,t,())/\0<=v/\v < n/\bv t (b+1):=by
 obtain ⟨c,a,⟨⟩⟩:=s
 obtain ⟨hc,ha,Hg⟩:=h
 replace hc:c.length<=1048576:=hc
 replace ha:0<=a:=ha
 replace Hg:a<=b:=Hg
 have h1:ai (a+1)=a+1:=bQ (by omega)
 have Y:ai (a+1 - 1)=a:=by rw[bQ (by omega)];omega
 suffices hs:∃ v,(0<=v/\v < n)/\am.p ((c,a,()),n,())=some (v,(c,a+1,()),()) by
  obtain ⟨v,hv,hp⟩:=hs
  exact ⟨v,(c,a+1,()),ah (k:=0) λk _=>(am.ae k _).trans hp,hv.1,hv.2,hc,by show 0<=a+1;omega,by show a+1<=b+1;omega⟩
 unfold am.p
 have n1:¬ n < 1:=by omega
 have n0:¬ n=0:=by omega
 simp only[n1,n0,h1,Y,decide_false,cond_false,if_false]
 by_cases hl:c.length=0
 ·have e:(c.length:Int)=0:=by omega
  simp only[e,decide_true,cond_true]
  exact ⟨_,mm (by rw[bQ (by omega)];omega) hn,rfl⟩
 have e:¬ (c.length:Int)=0:=by omega
 have q0:=mm (v:=a) (n:=(c.length:Int)) ha (by omega)
 have q1:=mm (v:=a+1) (n:=(c.length:Int)) (by omega) (by omega)
 have i0:(a.tmod (c.length:Int)).toNat < c.length:=by omega
 have i1:((a+1).tmod (c.length:Int)).toNat < c.length:=by omega
 simp only[e,decide_false,cond_false,if_false,q0.1,q1.1,if_true,List.getElem?_eq_getElem i0,List.getElem?_eq_getElem i1,Option.bind_some]
 have hd:0<=a.tdiv (c.length:Int)/\a.tdiv (c.length:Int)<=a:=by
  rw[Int.tdiv_eq_ediv_of_nonneg ha]
  exact ⟨Int.ediv_nonneg ha (by omega),Int.ediv_le_self _ ha⟩
 have b0:(c[(a.tmod (c.length:Int)).toNat]).toNat < 256:=UInt8.toNat_lt _
 have b1:(c[((a+1).tmod (c.length:Int)).toNat]).toNat < 256:=UInt8.toNat_lt _
 generalize (c[(a.tmod (c.length:Int)).toNat]).toNat=x at b0 ⊢
 generalize (c[((a+1).tmod (c.length:Int)).toNat]).toNat=y at b1 ⊢
 generalize a.tdiv (c.length:Int)=d at hd ⊢
 have w1:ai (x:Int)=(x:Int):=bQ (by omega)
 have w0:ai d=d:=bQ (by omega)
 have w2:ai (d*37)=d*37:=bQ (by omega)
 have w3:ai ((x:Int)+d*37)=(x:Int)+d*37:=bQ (by omega)
 by_cases FB:200 < n
 ·simp only[FB,decide_true,cond_true,w0,w1,w2,w3]
  have w4:ai (((x:Int)+d*37)*251)=((x:Int)+d*37)*251:=bQ (by omega)
  have w5:ai (y:Int)=(y:Int):=bQ (by omega)
  have w6:ai ((y:Int)*13)=(y:Int)*13:=bQ (by omega)
  have w7:ai (((x:Int)+d*37)*251+(y:Int)*13)=((x:Int)+d*37)*251+(y:Int)*13:=bQ (by omega)
  have w8:ai (((x:Int)+d*37)*251+(y:Int)*13+a)=((x:Int)+d*37)*251+(y:Int)*13+a:=bQ (by omega)
  simp only[w4,w5,w6,w7,w8]
  exact ⟨_,mm (by omega) hn,rfl⟩
 ·simp only[FB,decide_false,cond_false,w0,w1,w2,w3]
  exact ⟨_,mm (by omega) hn,rfl⟩
theorem HJ {s:ax} {b n:Int} (h:bv s b) (hb:b<=1000000) (hn:1<=n) (rH:n<=1000000):∃ v t,cR.ab (s,n,())=some (v,t,())/\bv t (b+1):=by
 obtain ⟨v,t,h1,_,_,Y⟩:=gU h hb hn rH
 refine ⟨decide (v=0),t,ah (k:=0) λk _=>(cR.ae k _).trans ?_,Y⟩
 unfold cR.p
 rw[h1]
 rfl
theorem rV {s:ax} {b:Int} (h:bv s b) (hb:b<=1000000) (l:List Int) (hn:1<=l.length) (rH:l.length<=1000000):∃ v t,aR.ab (s,l,())=some (v,t,())/\v ∈ l/\bv t (b+1):=by
 obtain ⟨v,t,h1,Y,h3,h4⟩:=gU (n:=(l.length:Int)) h hb (by omega) (by omega)
 have hi:v.toNat < l.length:=by omega
 refine ⟨l[v.toNat],t,ah (k:=0) λk _=>(aR.ae k _).trans ?_,List.getElem_mem hi,h4⟩
 unfold aR.p
 rw[h1]
 simp only[Option.bind_some,Y,if_true,List.getElem?_eq_getElem hi]
theorem DZ {α:Type} (l:List α) {v:Int} (h:0<=v/\v < (l.length:Int)):∃ x,l[v.toNat]?=some x/\x ∈ l:=by
 have hi:v.toNat < l.length:=by omega
 exact ⟨l[v.toNat],List.getElem?_eq_getElem hi,List.getElem_mem hi⟩
theorem ns {m:Nat} (h:m<=1000):ai (((m+1:Nat):Int) - 1)=(m:Int):=by rw[bQ (by omega)];omega
theorem wD {X O V:Type} (M:Int) {B:(V->Option O)->V->Option O} (enc:ax->X->Int->V) (I:Int->X->Prop) (d:Int) (hd:0<=d) (G:ax->X->Option O)
  (cI:∀ (n:Nat) (s:ax) (x:X) (b:Int),n<=1000->bv s b->b<=M->I b x->∃ s' x',bv s' (b+d)/\I (b+d) x'/\∀ self,B self (enc s x ((n+1:Nat):Int))=self (enc s' x' (n:Int)))
  (iQ:∀ (s:ax) (x:X) (b:Int),bv s b->I b x->∀ self,B self (enc s x 0)=G s x) :
  ∀ (n:Nat) (s:ax) (x:X) (b:Int),n<=1000->bv s b->I b x->b+d*n<=M->∃ s' x',bv s' (b+d*n)/\I (b+d*n) x'/\∀ k,n < k->au B k (enc s x (n:Int))=G s' x'
 | 0,s,x,b,_,hs,hI,_=>⟨s,x,by simpa using hs,by simpa using hI,λk hk=>by
   obtain ⟨j,rfl⟩:∃ j,k=j+1:=⟨k - 1,by omega⟩
   rw[mS]
   exact iQ s x b hs hI _⟩
 | n+1,s,x,b,hn,hs,hI,hb=>by
  have hm:d*((n+1:Nat):Int)=d+d*(n:Int):=by rw[Int.natCast_succ,Int.mul_add,Int.mul_one,Int.add_comm]
  have hp:0<=d*(n:Int):=Int.mul_nonneg hd (by omega)
  obtain ⟨s1,x1,J,a2,a3⟩:=cI n s x b (by omega) hs (by omega) hI
  obtain ⟨s2,x2,c1,c2,c3⟩:=wD M enc I d hd G cI iQ n s1 x1 (b+d) (by omega) J a2 (by omega)
  have e:b+d*((n+1:Nat):Int)=b+d+d*(n:Int):=by omega
  refine ⟨s2,x2,e ▸ c1,e ▸ c2,λk hk=>?_⟩
  obtain ⟨j,rfl⟩:∃ j,k=j+1:=⟨k - 1,by omega⟩
  rw[mS,a3]
  exact c3 j (by omega)
theorem yY {X O V:Type} (M:Int) {B:(V->Option O)->V->Option O} (enc:ax->X->Int->V) (I:Int->X->Prop) (d:Int) (hd:0<=d) (fin:ax->X->O)
  (cI:∀ (n:Nat) (s:ax) (x:X) (b:Int),n<=1000->bv s b->b<=M->I b x->∃ s' x',bv s' (b+d)/\I (b+d) x'/\∀ self,B self (enc s x ((n+1:Nat):Int))=self (enc s' x' (n:Int)))
  (iQ:∀ (s:ax) (x:X) (b:Int),bv s b->I b x->∀ self,B self (enc s x 0)=some (fin s x)) (n:Nat) (s:ax) (x:X) (b:Int) (hn:n<=1000) (hs:bv s b) (hI:I b x) (hb:b+d*n<=M) :
  ∃ s' x',bv s' (b+d*n)/\I (b+d*n) x'/\∀ k,n < k->au B k (enc s x (n:Int))=some (fin s' x'):=
 wD M enc I d hd (λs x=>some (fin s x)) cI iQ n s x b hn hs hI hb
theorem HK (c:List UInt8):iT.ab (c,())=some ((c,(0:Int),()),()):=ah (k:=0) λk _=>(iT.ae k _).trans rfl
end OT
set_option linter.unusedVariables false
set_option linter.unusedSimpArgs false
set_option linter.unusedSectionVars false
namespace OT
open Go
end OT
set_option linter.unusedVariables false
set_option linter.unusedSimpArgs false
set_option linter.unusedSectionVars false
namespace OT
open Go
theorem pt {s:ax} {b:Int} (h:bv s b) (hb:b<=900000):∃ r t,da.ab (s,())=some (r,t,())/\cY r=0/\bv t (b+5):=by
 obtain ⟨v1,t1,e1,J,c1,s1⟩:=gU (n:=3) h (by omega) (by omega) (by omega)
 obtain ⟨v2,t2,e2,a2,c2,s2⟩:=gU (n:=6) s1 (by omega) (by omega) (by omega)
 obtain ⟨v3,t3,e3,a3,c3,s3⟩:=gU (n:=9) s2 (by omega) (by omega) (by omega)
 obtain ⟨v4,t4,e4,m4,s4⟩:=rV s3 (by omega) [v3,(300:Int),(999:Int)] (by simp) (by simp)
 obtain ⟨v5,t5,e5,a5,c5,s5⟩:=gU (n:=4) s4 (by omega) (by omega) (by omega)
 obtain ⟨x,hx,mx⟩:=DZ [([]:List UInt8),([97]:List UInt8),([97,98,99]:List UInt8),([97,98,99,100,101,102,103,104]:List UInt8)] (v:=v5) ⟨a5,by simpa using c5⟩
 have w1:ai (1+v2)=1+v2:=bQ (by omega)
 refine ⟨(v1,1+v2,v4,x,()),t5,ah (k:=0) λk _=>(da.ae k _).trans ?_,?_,s5.mono (by omega)⟩
 ·unfold da.p
  rw[e1]
  simp only[Option.bind_some,e2,e3,e4,e5,w1,hx]
  rw[if_pos ⟨a5,by simpa using c5⟩]
 ·have Pv:0<=v4/\v4<=999:=by
   simp only[List.mem_cons,List.not_mem_nil,or_false] at m4
   omega
  have mP:nW x=true:=by
   simp only[List.mem_cons,List.not_mem_nil,or_false] at mx
   rcases mx with rfl | rfl | rfl | rfl <;> decide
  unfold cY bK
  have i1:v1<=3:=by omega
  have i2:(1:Int)<=1+v2:=by omega
  have i3:1+v2<=99:=by omega
  simp only[J,i1,i2,i3,Pv.1,Pv.2,mP,decide_true,Bool.and_self,if_true]
theorem uO {r:Row} (h:cY r=0):List.length r.2.2.2.1<=8:=Hz (nJ h).2.2.2
theorem s9 {s:ax} {b:Int} (h:bv s b) (hb:b<=800000):∃ r t,d_.ab (s,())=some (r,t,())/\List.length r.2.2.2.1<=9/\bv t (b+7):=by
 obtain ⟨r,t1,e1,hr,s1⟩:=pt h (by omega)
 have hs:=uO hr
 obtain ⟨v,t2,e2,a2,c2,s2⟩:=gU (n:=12) s1 (by omega) (by omega) (by omega)
 suffices hp:∃ r' t',d_.p (s,())=some (r',t',())/\List.length r'.2.2.2.1<=9/\bv t' (b+7) by
  obtain ⟨r',t',p1,p2,p3⟩:=hp
  exact ⟨r',t',ah (k:=0) λk _=>(d_.ae k _).trans p1,p2,p3⟩
 unfold d_.p
 rw[e1]
 simp only[Option.bind_some,e2]
 by_cases h0:v=0
 ·obtain ⟨u,t3,e3,_,s3⟩:=rV s2 (by omega) [(-1:Int),(3:Int),(4:Int)] (by simp) (by simp)
  simp only[h0,decide_true,cond_true,e3,Option.bind_some]
  exact ⟨_,_,rfl,by show List.length r.2.2.2.1<=9;omega,s3.mono (by omega)⟩
 by_cases h1:v=1
 ·obtain ⟨u,t3,e3,_,s3⟩:=rV s2 (by omega) [(0:Int),(99:Int),(100:Int)] (by simp) (by simp)
  simp only[h1,show ¬ (1:Int)=0 by omega,decide_true,decide_false,cond_true,cond_false,e3,Option.bind_some]
  exact ⟨_,_,rfl,by show List.length r.2.2.2.1<=9;omega,s3.mono (by omega)⟩
 by_cases Y:v=2
 ·obtain ⟨u,t3,e3,_,s3⟩:=rV s2 (by omega) [(-1:Int),(1000:Int)] (by simp) (by simp)
  simp only[Y,show ¬ (2:Int)=0 by omega,show ¬ (2:Int)=1 by omega,decide_true,decide_false,cond_true,cond_false,e3,Option.bind_some]
  exact ⟨_,_,rfl,by show List.length r.2.2.2.1<=9;omega,s3.mono (by omega)⟩
 by_cases h3:v=3
 ·obtain ⟨u,t3,e3,a3,c3,s3⟩:=gU (n:=3) s2 (by omega) (by omega) (by omega)
  obtain ⟨x,hx,mx⟩:=DZ [([65]:List UInt8),([97,98,99,100,101,102,103,104,105]:List UInt8),([97,32,98]:List UInt8)] (v:=u) ⟨a3,by simpa using c3⟩
  simp only[h3,show ¬ (3:Int)=0 by omega,show ¬ (3:Int)=1 by omega,show ¬ (3:Int)=2 by omega,decide_true,decide_false,cond_true,cond_false,e3,Option.bind_some]
  rw[if_pos ⟨a3,by simpa using c3⟩,hx]
  refine ⟨_,_,rfl,?_,s3.mono (by omega)⟩
  show List.length x<=9
  simp only[List.mem_cons,List.not_mem_nil,or_false] at mx
  rcases mx with rfl | rfl | rfl <;> decide
 simp only[h0,h1,Y,h3,decide_false,cond_false]
 exact ⟨_,_,rfl,by omega,s2.mono (by omega)⟩
theorem Cm (xs:List Row) (r:Row):(kY xs r).length=xs.length+1:=by
 unfold kY
 simp only[List.length_append,List.length_take,List.length_drop,List.length_cons,List.length_nil]
 omega
theorem HL {x:List Row} {r:Row} (hu:up x) (hf:ly x (r.1,r.2.1) < 0):∀ y ∈ x,rk y≠rk r:=λy hy he=>by
 obtain ⟨i,hi,hx⟩:=List.getElem_of_mem hy
 have:=(qg hu hi (k:=(r.1,r.2.1)) (by rw[hx];exact he)).1
 unfold ly at hf
 rw[this] at hf
 simp only[if_true] at hf
 omega
theorem C7 {s:ax} {b:Int} (h:bv s b) (hb:b<=500000):∃ xs t,dh.ab (s,())=some (xs,t,())/\xs.length<=6/\(∀ r ∈ xs,cY r=0)/\bv t (b+100):=by
 have F7:0<=b:=Int.le_trans h.2.1 h.2.2
 obtain ⟨v,t1,e1,J,c1,s1⟩:=gU (n:=7) h (by omega) (by omega) (by omega)
 have:=yY 700000 (B:=λw v=>dh.b0 w (dh.q0 (s,())) (s,()) v) (λs (l:List Row) i=>(s,l,i)) (λc l=>up l/\(∀ r ∈ l,cY r=0)/\5*(l.length:Int)<=c - b - 1) 5 (by omega) (λs l=>(l,s,()))
  (λm s x c hm hs hc hI=>by
   obtain ⟨r,t,e1,hr,s1⟩:=pt hs (by omega)
   have aB:(0:Int) < ((m+1:Nat):Int):=by omega
   have oq:=hs.2
   have hA:=oD x r.1 r.2.1 hI.1 (by omega)
   have hP:=sQ x r (by omega)
   by_cases hf:ly x (r.1,r.2.1) < 0
   ·refine ⟨t,kY x r,s1,⟨DT hI.1 (HL hI.1 hf),?_,by rw[Cm];omega⟩,λself=>?_⟩
    ·intro y hy
     rcases List.mem_cons.1 ((zR x r).mem_iff.1 hy) with h1 | h1
     ·rw[h1];exact hr
     ·exact hI.2.1 y h1
    ·unfold dh.b0
     simp only[aB,decide_true,cond_true,e1,Option.bind_some,ns hm,hA,hP,hf]
   ·refine ⟨t,x,s1,⟨hI.1,hI.2.1,by omega⟩,λself=>?_⟩
    unfold dh.b0
    simp only[aB,decide_true,cond_true,e1,Option.bind_some,ns hm,hA,hf,decide_false,cond_false])
  (λs x c _ _ self=>by
   unfold dh.b0
   rw[decide_eq_false (Int.lt_irrefl _),cond_false]
   rfl) v.toNat t1 [] (b+1) (by omega) s1 ⟨List.Pairwise.nil,λ_ h=>(by cases h),by simp only[List.length_nil];omega⟩ (by omega)
 obtain ⟨t,l,uP,a2,a3⟩:=this
 have hv:((v.toNat:Nat):Int)=v:=by omega
 rw[hv] at a3 uP a2
 refine ⟨l,t,ah (k:=8) λk hk=>(dh.ae k _).trans ?_,by have:=a2.2.2;omega,a2.2.1,uP.mono (by omega)⟩
 unfold dh.p
 rw[e1]
 exact a3 k (by omega)
end OT
set_option linter.unusedVariables false
set_option linter.unusedSimpArgs false
set_option linter.unusedSectionVars false
namespace OT
open Go
def Gv {O:Type} (P:O->Prop) (x:Option O):Prop:=∃ y,x=some y/\P y
theorem Gv.some {O:Type} {P:O->Prop} {y:O} (h:P y):Gv P (some y):=⟨y,rfl,h⟩
theorem Gv.bif {O:Type} {P:O->Prop} {c:Bool} {x y:Option O} (h1:c=true->Gv P x) (Y:c=false->Gv P y):Gv P (bif c then x else y):=by
 cases c
 ·exact Y rfl
 ·exact h1 rfl
theorem Gv.bind {O Q:Type} {P:O->Prop} {R:Q->Prop} {x:Option Q} {f:Q->Option O} (h:Gv R x) (Y:∀ y,R y->Gv P (f y)):Gv P (x.bind f):=by
 obtain ⟨y,e,hy⟩:=h
 rw[e]
 exact Y y hy
theorem Gv.ite {O:Type} {P:O->Prop} {c:Prop} [Decidable c] {x y:Option O} (hc:c) (h:Gv P x):Gv P (if c then x else y):=by
 rw[if_pos hc]
 exact h
theorem Gv.get {O α:Type} {P:O->Prop} {l:List α} {i:Nat} {f:α->Option O} (hi:i < l.length) (h:∀ x,l[i]?=Option.some x->x ∈ l->Gv P (f x)):Gv P ((l[i]?).bind f):=by
 have e:=List.getElem?_eq_getElem hi
 rw[e]
 exact h _ e (List.getElem_mem hi)
theorem Gv.next {O:Type} {P:O->Prop} {s:ax} {b n:Int} {f:Int×ax×Unit->Option O} (h:bv s b) (hb:b<=1000000) (hn:1<=n) (rH:n<=1000000) (Y:∀ v t,0<=v->v < n->bv t (b+1)->Gv P (f (v,t,()))):Gv P ((am.ab (s,n,())).bind f):=by
 obtain ⟨v,t,e,a,c,s1⟩:=gU h hb hn rH
 rw[e]
 exact Y v t a c s1
theorem Gv.yb {O:Type} {P:O->Prop} {s:ax} {b n:Int} {f:Bool×ax×Unit->Option O} (h:bv s b) (hb:b<=1000000) (hn:1<=n) (rH:n<=1000000) (Y:∀ v t,bv t (b+1)->Gv P (f (v,t,()))):Gv P ((cR.ab (s,n,())).bind f):=by
 obtain ⟨v,t,e,s1⟩:=HJ h hb hn rH
 rw[e]
 exact Y v t s1
theorem Gv.pick {O:Type} {P:O->Prop} {s:ax} {b:Int} {l:List Int} {f:Int×ax×Unit->Option O} (h:bv s b) (hb:b<=1000000) (hn:1<=l.length) (rH:l.length<=1000000) (Y:∀ v t,v ∈ l->bv t (b+1)->Gv P (f (v,t,()))):Gv P ((aR.ab (s,l,())).bind f):=by
 obtain ⟨v,t,e,m,s1⟩:=rV h hb l hn rH
 rw[e]
 exact Y v t m s1
def Jb (rows:List Row) (r:Row):Prop:=List.length r.2.2.2.1<=9/\((∀ x ∈ rows,cY x=0)->cY r=0)
def yc (rows:List Row) (B:Int) (y:Op×ax×Unit):Prop:=List.length y.1.2.2.1.2.2.2.1<=9/\bv y.2.1 B/\bK y.1.1 1 9=true/\((∀ x ∈ rows,cY x=0)->gp y.1.1=true->cY y.1.2.2.1=0)
theorem nL {a b c:Int} {x:List UInt8} (h1:0<=a/\a<=3) (Y:1<=b/\b<=99) (h3:0<=c/\c<=999) (h4:nW x=true):cY (a,b,c,x,())=0:=by
 unfold cY bK
 simp only[h1.1,h1.2,Y.1,Y.2,h3.1,h3.2,h4,decide_true,Bool.and_self,if_true]
set_option maxRecDepth 20000 in
theorem qS {s:ax} {b:Int} {rows:List Row} {ts:List Tx} (h:bv s b) (hb:b<=500000) (hr:rows.length<=1000000) (ht:ts.length<=1000000):Gv (yc rows (b+40)) (cM.ab (s,rows,ts,())):=by
 suffices hq:Gv (yc rows (b+40)) (cM.p (s,rows,ts,())) by
  obtain ⟨y,e,hy⟩:=hq
  exact ⟨y,ah (k:=0) λk _=>(cM.ae k _).trans e,hy⟩
 unfold cM.p
 refine Gv.next h (by omega) (by omega) (by omega) λv1 t1 J c1 s1=>?_
 extract_lets j1
 have h1:∀ (p:ax) (q:Int),bv p (b+5)->Gv (yc rows (b+40)) (j1 p q):=λp q s2=>by
  show Gv _ ((da.ab (p,())).bind _)
  obtain ⟨r,t3,e3,FT,s3⟩:=pt s2 (by omega)
  have Dd:=uO FT
  obtain ⟨y1,y2,y3,y4⟩:=nJ FT
  rw[e3,Option.bind_some]
  refine Gv.pick s3 (by omega) (by simp) (by simp) λv4 t4 m4 s4=>?_
  extract_lets j3 j2
  have h3:∀ (p3:ax) (q3:Row),bv p3 (b+25)->Jb rows q3->Gv (yc rows (b+40)) (j3 p3 q3):=λp3 q3 s6 Pw=>by
   dsimp -zeta only [j3]
   extract_lets j4
   have h4:∀ q4:Row,Jb rows q4->Gv (yc rows (b+40)) (j4 q4):=λq4 Nv=>by
    show Gv _ ((am.ab (p3,(12:Int),())).bind _)
    refine Gv.next s6 (by omega) (by omega) (by omega) λv7 t7 a7 c7 s7=>?_
    have m7:bv t7 (b+40):=s7.mono (by omega)
    have Px:b+25+1+1<=b+40:=by omega
    have Dk:b+25+1<=1000000:=by omega
    have kz:∀ (k a m:Int),bK k 1 9=true->gp k=false->yc rows (b+40) ((k,a,((0:Int),(0:Int),(0:Int),([]:List UInt8),()),m,()),t7,()):=λk a m h1 Y=>⟨Nat.zero_le _,m7,h1,λ_ h=>by rw[show gp k=true from h] at Y;cases Y⟩
    have kr:∀ (k a m:Int),bK k 1 9=true->yc rows (b+40) ((k,a,q4,m,()),t7,()):=λk a m h1=>⟨Nv.1,m7,h1,λh _=>Nv.2 h⟩
    have kd:∀ (k a m:Int),bK k 1 9=true->yc rows (b+40) ((k,a,(q4.1,q4.2.1,(0:Int),([]:List UInt8),()),m,()),t7,()):=λk a m h1=>⟨Nat.zero_le _,m7,h1,λh _=>by
     obtain ⟨z1,z2,z3,z4⟩:=nJ (Nv.2 h)
     exact nL z1 z2 (by decide) rfl⟩
    repeat' first
     | (with_reducible refine Gv.bif (λ_=>?_) λ_=>?_)
     | ((with_reducible refine Gv.some ?_);first | exact kz _ _ _ rfl rfl | exact kr _ _ _ rfl | exact kd _ _ _ rfl)
     | ((with_reducible refine Gv.next (n:=3) s7 Dk (by decide) (by decide) λv8 t8 a8 c8 s8=>?_);exact Gv.some ⟨Nat.zero_le _,s8.mono Px,rfl,λ_ h=>absurd (show gp 6=true from h) (by decide)⟩)
     | ((with_reducible refine Gv.pick (l:=[(7:Int),(8:Int)]) s7 Dk (by decide) (by decide) λv8 t8 m8 s8=>?_);exact Gv.some ⟨Nat.zero_le _,s8.mono Px,(by
       simp only[List.mem_cons,List.not_mem_nil,or_false] at m8
       rcases m8 with rfl | rfl <;> rfl),λ_ h=>by
       simp only[List.mem_cons,List.not_mem_nil,or_false] at m8
       rcases m8 with rfl | rfl
       ·exact absurd (show gp 7=true from h) (by decide)
       ·exact absurd (show gp 8=true from h) (by decide)⟩)
   clear_value j4
   refine Gv.bif (λhc=>h4 _ ⟨Nat.zero_le _,λh=>?_⟩) λ_=>h4 _ Pw
   obtain ⟨z1,z2,z3,z4⟩:=nJ (Pw.2 h)
   exact nL z1 z2 z3 rfl
  clear_value j3
  have Y:∀ (p2:ax) (q2:Row),bv p2 (b+20)->Jb rows q2->Gv (yc rows (b+40)) (j2 p2 q2):=λp2 q2 s5 Cn=>by
   dsimp -zeta only [j2]
   refine Gv.bif (λhc=>?_) λ_=>h3 _ _ (s5.mono (by omega)) Cn
   refine Gv.yb s5 (by omega) (by omega) (by omega) λv6 t6 s6=>?_
   have v9:(0:Int) < (rows.length:Int):=of_decide_eq_true hc
   refine Gv.bif (λ_=>?_) λ_=>h3 _ _ (s6.mono (by omega)) Cn
   refine Gv.next (n:=(rows.length:Int)) s6 (by omega) (by omega) (by omega) λv7 t7 a7 c7 s7=>?_
   refine Gv.ite a7 (Gv.get (show v7.toNat < rows.length by omega) λx _ hx=>?_)
   refine h3 _ _ (s7.mono (by omega)) ⟨Cn.1,λh=>?_⟩
   obtain ⟨z1,z2,z3,z4⟩:=nJ (Cn.2 h)
   obtain ⟨w1,w2,_⟩:=nJ (h x hx)
   exact nL w1 w2 z3 z4
  clear_value j2
  refine Gv.bif (λ_=>?_) λ_=>Y _ _ (s4.mono (by omega)) ⟨by show List.length r.2.2.2.1<=9;omega,λ_=>nL (by
   simp only[List.mem_cons,List.not_mem_nil,or_false] at m4
   show 0<=v4/\v4<=3
   omega) y2 y3 y4⟩
  refine Gv.pick s4 (by omega) (by simp) (by simp) λv5 t5 m5 s5=>?_
  refine Gv.pick s5 (by omega) (by simp) (by simp) λv6 t6 m6 s6=>?_
  refine Y _ _ (s6.mono (by omega)) ⟨Nat.zero_le _,λ_=>nL (by decide) ?_ ?_ rfl⟩
  ·simp only[List.mem_cons,List.not_mem_nil,or_false] at m5
   show 1<=v5/\v5<=99
   omega
  ·simp only[List.mem_cons,List.not_mem_nil,or_false] at m6
   show 0<=v6/\v6<=999
   omega
 clear_value j1
 refine Gv.bif (λhc=>?_) λ_=>h1 _ _ (s1.mono (by omega))
 have v9:(0:Int) < (ts.length:Int):=of_decide_eq_true hc
 refine Gv.yb s1 (by omega) (by omega) (by omega) λv2 t2 s2=>?_
 refine Gv.bif (λ_=>?_) λ_=>h1 _ _ (s2.mono (by omega))
 refine Gv.next (n:=(ts.length:Int)) s2 (by omega) (by omega) (by omega) λv3 t3 a3 c3 s3=>?_
 refine Gv.ite a3 (Gv.get (show v3.toNat < ts.length by omega) λx _ _=>?_)
 exact h1 _ _ (s3.mono (by omega))
end OT
set_option linter.unusedVariables false
set_option linter.unusedSimpArgs false
set_option linter.unusedSectionVars false
namespace OT
open Go
theorem yd {p:Plain} (hz:zz bF p<=1048576):nv p:=by
 obtain ⟨rows,xs,n,⟨⟩⟩:=p
 replace hz:zz (.aa ak) rows+(zz (.aa aC) xs+(0+0))<=1048576:=hz
 have kK:∀ r:Row,zz ak r<=1048576->rl r:=λr h=>by
  have h3:zz ak r=0+(0+(0+(List.length r.2.2.2.1+0))):=rfl
  unfold rl
  rw[al];omega
 refine ⟨Nat.le_trans (qa (e:=ak) rows) (by omega),λx hm=>kK x ?_,Nat.le_trans (qa (e:=aC) xs) (by omega),λx hm=>?_⟩
 ·have:zz ak x+1<=zz (.aa ak) rows:=ud (e:=ak) hm
  omega
 have h1:zz aC x+1<=zz (.aa aC) xs:=ud (e:=aC) hm
 have Y:zz aC x=0+(zz (.aa ay) x.2.1+(zz (.aa i64) x.2.2.1+(zz (.aa aF) x.2.2.2.1+0))):=rfl
 have h3:List.length x.2.1<=zz (.aa ay) x.2.1:=qa (e:=ay) x.2.1
 have h4:List.length x.2.2.1<=zz (.aa i64) x.2.2.1:=qa (e:=i64) x.2.2.1
 have h5:List.length x.2.2.2.1<=zz (.aa aF) x.2.2.2.1:=qa (e:=aF) x.2.2.2.1
 refine ⟨by omega,by omega,by omega,λc hc=>?_⟩
 have h6:zz ay c+1<=zz (.aa ay) x.2.1:=ud (e:=ay) hc
 have h7:zz ay c=0+(zz ak c.2.1+(0+(zz ak c.2.2.2.1+0))):=rfl
 exact ⟨kK _ (by omega),kK _ (by omega)⟩
def Co (s:dt) (R:dN):dt:=if R.1=0 then (s.1,s.2.1++[R.1],s.2.2.1++[R.2.1],R.2.2.1,s.2.2.2.2) else (s.1,s.2.1++[R.1],s.2.2.1++[R.2.1],s.2.2.2)
noncomputable def qt (s:dt) (o:Op):dt:=match cv.ab (s.2.2.2.1,o,()) with
 | some R=>Co s R.1
 | none=>s
abbrev Jc:dt:=((0:Int),([]:List Int),([]:List Int),(([]:List Row),([]:List Tx),(1:Int),()),())
noncomputable def ru (xs:List Op):dt:=if 60 < xs.length then ((2:Int),([]:List Int),([]:List Int),(([]:List Row),([]:List Tx),(0:Int),()),()) else xs.foldl qt Jc
def yZ (i:Nat) (s:dt):Prop:=List.length s.2.1=i/\List.length s.2.2.1=i/\zz bF s.2.2.2.1<=3000*i
theorem wE {i:Nat} {s:dt} {o:Op} (h:yZ i s) (hi:i<=60) (ho:rl o.2.2.1):∃ R,gO s.2.2.2.1 o R/\qt s o=Co s R/\yZ (i+1) (Co s R):=by
 obtain ⟨h1,Y,h3⟩:=h
 obtain ⟨R,hs,hz⟩:=yV (p:=s.2.2.2.1) (o:=o) (yd (by omega)) ho
 refine ⟨R,hs,?_,?_⟩
 ·unfold qt
  rw[hs.1]
 ·have Sg:zz dD R=0+(0+(zz bF R.2.2.1+0)):=rfl
  unfold Co yZ
  split
  ·simp only[List.length_append,List.length_cons,List.length_nil]
   exact ⟨by omega,by omega,by omega⟩
  ·simp only[List.length_append,List.length_cons,List.length_nil]
   exact ⟨by omega,by omega,by omega⟩
theorem FC (xs:List Op) (hx:xs.length<=1048576) (h:∀ o ∈ xs,rl o.2.2.1):dw.ab (xs,())=some (ru xs,()):=by
 refine ah (k:=100) λk hk=>(dw.ae k _).trans ?_
 unfold dw.p ru
 rw[show (60:Int)=((60:Nat):Int) from rfl]
 simp only[Ob]
 by_cases hl:60 < xs.length
 ·simp[hl]
 simp only[hl,decide_false,cond_false,if_false]
 have:=bJ (B:=λself v=>dw.B0 k self (λz=>dw.Q0 k (xs,()) z) (xs,()) v) xs (λ(s:dt) (i:Int)=>(s,i)) (λ_ s o=>.inr (qt s o)) (λs=>(s,())) yZ (by rw[al];omega)
  (λi hi s self hI=>by
   show dw.b0 _ _ _ _=_
   obtain ⟨R,hs,he,hn⟩:=wE hI (by omega) (h _ (List.getElem_mem hi))
   unfold dw.b0
   have aB:(i:Int) < (xs.length:Int):=by omega
   have c1:∀ y:Int,s.2.1.length+[y].length<=bX:=λy=>cm (by have:=hI.1;simp only[List.length_cons,List.length_nil];omega)
   have c2:∀ y:Int,s.2.2.1.length+[y].length<=bX:=λy=>cm (by have:=hI.2.1;simp only[List.length_cons,List.length_nil];omega)
   simp only[aB,decide_true,cond_true,Int.natCast_nonneg,if_true,Int.toNat_natCast,List.getElem?_eq_getElem hi,Option.bind_some,hs.2,he,c1,c2]
   unfold Co
   by_cases hR:R.1=0
   ·simp only[hR,decide_true,cond_true,if_true]
   ·simp only[hR,decide_false,cond_false,if_false])
  (λi hi s s' hI hf=>by
   injection hf with hf;subst hf
   obtain ⟨R,hs,he,hn⟩:=wE hI (by omega) (h _ (List.getElem_mem hi))
   rw[he];exact hn) (λs self _=>by
   show dw.b0 _ _ _ _=_
   unfold dw.b0
   simp only[Int.lt_irrefl,decide_false,cond_false]
   rfl) Jc ⟨rfl,rfl,Nat.le_refl _⟩ k (by omega)
 rw[gM] at this
 exact this
theorem Cp:∀ (xs:List Op) (i:Nat) (s:dt),i+xs.length<=60->(∀ o ∈ xs,rl o.2.2.1)->yZ i s->yZ (i+xs.length) (xs.foldl qt s)
 | [],_,_,_,_,h=>h
 | o::xs,i,s,hl,hr,h=>by
  simp only[List.length_cons] at hl
  obtain ⟨R,_,he,hn⟩:=wE h (by omega) (hr o List.mem_cons_self)
  rw[List.foldl_cons,he]
  have:=Cp xs (i+1) _ (by omega) (λo ho=>hr o (List.mem_cons_of_mem _ ho)) hn
  rw[List.length_cons,show i+(xs.length+1)=i+1+xs.length by omega]
  exact this
theorem HM (xs:List Op) (h:∀ o ∈ xs,rl o.2.2.1):zz iZ (ru xs)<=1000000:=by
 have hz:∀ s:dt,zz iZ s=0+(zz (.aa i64) s.2.1+(zz (.aa i64) s.2.2.1+(zz bF s.2.2.2.1+0))):=λ_=>rfl
 have hi:∀ l:List Int,zz (.aa i64) l=l.length:=λl=>by
  induction l with
  | nil=>rfl
  | cons x l ih=>rw[yJ (e:=i64),ih,List.length_cons];show 0+1+_=_;omega
 unfold ru
 split
 ·exact Nat.zero_le _
 ·obtain ⟨h1,Y,h3⟩:=Cp xs 0 Jc (by omega) h ⟨rfl,rfl,Nat.le_refl _⟩
  rw[hz,hi,hi]
  omega
end OT
set_option linter.unusedVariables false
set_option linter.unusedSimpArgs false
set_option linter.unusedSectionVars false
namespace OT
open Go
theorem vP {s:ax} {b:Int} (h:bv s b) (hb:b<=400000):Gv (λy:List Row×ax×Unit=>y.1.length<=61/\(∀ r ∈ y.1,List.length r.2.2.2.1<=9)/\bv y.2.1 (b+110)) (dG.ab (s,())):=by
 suffices hq:Gv (λy:List Row×ax×Unit=>y.1.length<=61/\(∀ r ∈ y.1,List.length r.2.2.2.1<=9)/\bv y.2.1 (b+110)) (dG.p (s,())) by
  obtain ⟨y,e,hy⟩:=hq
  exact ⟨y,ah (k:=0) λk _=>(dG.ae k _).trans e,hy⟩
 obtain ⟨xs,t1,e1,hl,hr,s1⟩:=C7 h (by omega)
 unfold dG.p
 rw[e1,Option.bind_some]
 have h9:∀ r ∈ xs,List.length r.2.2.2.1<=9:=λr hm=>by have:=uO (hr r hm);omega
 refine Gv.next s1 (by omega) (by omega) (by omega) λv2 t2 a2 c2 s2=>?_
 refine Gv.bif (λ_=>?_) λ_=>Gv.bif (λ_=>?_) λ_=>Gv.some ⟨by show xs.length<=61;omega,h9,s2.mono (by omega)⟩
 ·obtain ⟨r,t3,e3,h3,s3⟩:=s9 s2 (by omega)
  rw[e3,Option.bind_some]
  refine Gv.ite (cm (by simp only[List.length_cons,List.length_nil];omega)) (Gv.some ⟨?_,λq hq=>?_,s3.mono (by omega)⟩)
  ·show (xs++[r]).length<=61
   rw[List.length_append,List.length_cons,List.length_nil]
   omega
  ·have hq:q ∈ xs++[r]:=hq
   rcases List.mem_append.1 hq with g | g
   ·exact h9 q g
   ·rw[List.mem_singleton] at g
    rw[g]
    exact h3
 ·refine Gv.ite ⟨by omega,by omega,by simp only[bX];omega⟩ (Gv.some ⟨by show (List.replicate 61 _).length<=61;rw[List.length_replicate];omega,λq hq=>?_,s2.mono (by omega)⟩)
  have hq:q ∈ List.replicate 61 ((0:Int),(0:Int),(0:Int),([]:List UInt8),()):=hq
  rw[List.eq_of_mem_replicate hq]
  exact Nat.zero_le _
theorem Jd {x:List Row} {r:Row} (hg:Good x) (hr:cY r=0) (hf:ly x (r.1,r.2.1) < 0):Good (kY x r):=by
 refine ⟨DT hg.1 (HL hg.1 hf),λy hy=>?_⟩
 rcases List.mem_cons.1 ((zR x r).mem_iff.1 hy) with h1 | h1
 ·rw[h1];exact hr
 ·exact hg.2 y h1
theorem Je {s:ax} {b:Int} (h:bv s b) (hb:b<=500000):Gv (λy:List Row×ax×Unit=>Good y.1/\y.1.length<=7/\bv y.2.1 (b+60)) (ec.ab (s,())):=by
 obtain ⟨v,t1,e1,J,c1,s1⟩:=gU (n:=6) h (by omega) (by omega) (by omega)
 have F7:0<=b:=Int.le_trans h.2.1 h.2.2
 have:=yY 700000 (B:=λw v=>ec.b0 w (ec.q0 (s,())) (s,()) v) (λs (l:List Row) i=>(s,l,i)) (λc l=>Good l/\6*(l.length:Int)<=c - b - 1+12) 6 (by omega) (λs l=>(l,s,()))
  (λm s x c hm hs hc hI=>by
   obtain ⟨r,t,e1,hr,s1⟩:=pt hs (by omega)
   obtain ⟨v2,t2,e2,a2,c2,s2⟩:=gU (n:=2) s1 (by omega) (by omega) (by omega)
   have aB:(0:Int) < ((m+1:Nat):Int):=by omega
   have oq:=hs.2
   obtain ⟨y1,y2,y3,y4⟩:=nJ hr
   have hw:ai (1+v2)=1+v2:=bQ (by omega)
   have tW:ai 2=2:=bQ (by omega)
   have fin:∀ q:Row,cY q=0->(∃ s' x',bv s' (c+6)/\(Good x'/\6*(List.length x':Int)<=c+6 - b - 1+12)/\∀ self:(ax×(List Row)×Int)->Option ec.Out,((bY.ab (x,q.1,q.2.1,())).bind λlT=>bif decide (lT.1 < (0:Int)) then ((cC.ab (x,q,())).bind λrm=>self (t2,rm.1,ai (((m+1:Nat):Int) - (1:Int)))) else self (t2,x,ai (((m+1:Nat):Int) - (1:Int))))=self (s',x',(m:Int))):=λq hq=>by
    have hA:=oD x q.1 q.2.1 hI.1.1 (by omega)
    have hP:=sQ x q (by omega)
    by_cases hf:ly x (q.1,q.2.1) < 0
    ·refine ⟨t2,kY x q,s2.mono (by omega),⟨Jd hI.1 hq hf,by rw[Cm];omega⟩,λself=>?_⟩
     rw[hA,Option.bind_some,decide_eq_true hf,cond_true,hP,Option.bind_some,ns hm]
    ·refine ⟨t2,x,s2.mono (by omega),⟨hI.1,by omega⟩,λself=>?_⟩
     rw[hA,Option.bind_some,decide_eq_false hf,cond_false,ns hm]
   have Su:cY (1+v2,r.2.1,r.2.2.1,([]:List UInt8),())=0:=nL (by omega) y2 y3 rfl
   have Cn:cY (1+v2,r.2.1,r.2.2.1,r.2.2.2.1,())=0:=nL (by omega) y2 y3 y4
   by_cases xX:1+v2=2
   ·by_cases zm:(3:Int) < (List.length r.2.2.2.1:Int)
    ·obtain ⟨s',x',g1,g2,g3⟩:=fin _ Su
     refine ⟨s',x',g1,g2,λself=>?_⟩
     unfold ec.b0
     simp only[aB,decide_true,cond_true,e1,e2,Option.bind_some,hw,tW,xX,zm]
     rw[<-g3 self,xX]
    ·obtain ⟨s',x',g1,g2,g3⟩:=fin _ Cn
     refine ⟨s',x',g1,g2,λself=>?_⟩
     unfold ec.b0
     simp only[aB,decide_true,cond_true,e1,e2,Option.bind_some,hw,tW,xX,zm,decide_false,cond_false]
     rw[<-g3 self,xX]
   ·obtain ⟨s',x',g1,g2,g3⟩:=fin _ Cn
    refine ⟨s',x',g1,g2,λself=>?_⟩
    unfold ec.b0
    simp only[aB,decide_true,cond_true,e1,e2,Option.bind_some,hw,xX,decide_false,cond_false]
    rw[<-g3 self])
  (λs x c _ _ self=>by
   unfold ec.b0
   rw[decide_eq_false (Int.lt_irrefl _),cond_false]
   rfl) v.toNat t1 [((0:Int),(1:Int),(8:Int),([]:List UInt8),()),((0:Int),(2:Int),(3:Int),([]:List UInt8),())] (b+1) (by omega) s1 ⟨⟨by
    rw[nF]
    refine ⟨λy hy=>?_,?_⟩
    ·rw[List.mem_singleton] at hy
     rw[hy]
     rfl
    ·rw[nF]
     exact ⟨λy hy=>(by cases hy),List.Pairwise.nil⟩,λr hr=>by
    simp only[List.mem_cons,List.not_mem_nil,or_false] at hr
    rcases hr with rfl | rfl <;> rfl⟩,by simp only[List.length_cons,List.length_nil];omega⟩ (by omega)
 obtain ⟨t,l,uP,a2,a3⟩:=this
 have hv:((v.toNat:Nat):Int)=v:=by omega
 rw[hv] at a3 uP a2
 refine ⟨(l,t,()),ah (k:=8) λk hk=>(ec.ae k _).trans ?_,a2.1,by have:=a2.2;show List.length l<=7;omega,uP.mono (by omega)⟩
 unfold ec.p
 rw[e1]
 exact a3 k (by omega)
end OT
set_option linter.unusedVariables false
set_option linter.unusedSimpArgs false
set_option linter.unusedSectionVars false
namespace OT
open Go
theorem Kz:∀ (ks S:List Key),(dd S ks).length<=S.length+ks.length
 | [],S=>Nat.le_refl _
 | k::ks,S=>by
  show (dd (if cq S k then S else S++[k]) ks).length<=_
  refine Nat.le_trans (Kz ks _) ?_
  split
  ·rw[List.length_cons];omega
  ·rw[List.length_append,List.length_cons,List.length_cons,List.length_nil];omega
theorem FE {rows:List Row} (hg:Good rows) (hl:rows.length<=12):bM (rows,([]:List Tx),(1:Int),())=0:=by
 refine qp hg hl rfl rfl rfl ?_ λx hx=>by cases hx
 unfold fX
 refine Nat.le_trans (Kz _ _) ?_
 unfold ef iG flatK
 simpa using hl
def HN (x:Tx):Prop:=List.length x.2.1<=13/\List.length x.2.2.1<=9/\List.length x.2.2.2.1<=24/\∀ c ∈ (x.2.1:List Change),cl c
theorem HN.tl {x:Tx} (h:HN x):tl x:=⟨by have:=h.1;omega,by have:=h.2.1;omega,by have:=h.2.2.1;omega,h.2.2.2⟩
def rx (n:Nat) (ts:List Tx):Prop:=ts.length=n/\∀ x ∈ ts,HN x
theorem rx.gv {n:Nat} {ts:List Tx} (h:rx n ts) (hn:n<=1000):gv ts:=⟨by have:=h.1;omega,λx hx=>(h.2 x hx).tl⟩
theorem rx.set {n:Nat} {ts:List Tx} (h:rx n ts) (j:Nat) {y:Tx} (hy:HN y):rx n (ts.set j y):=⟨by rw[List.length_set];exact h.1,λx hx=>by
 rcases List.mem_or_eq_of_mem_set hx with g | g
 ·exact h.2 x g
 ·rw[g];exact hy⟩
structure vQ (rows:List Row) (ts:List Tx):Prop where
 right:bM (rows,ts,(3:Int),())=0
 small:nv (rows,ts,(3:Int),())
 two:ts.length=2
theorem vQ.sm {rows:List Row} {ts:List Tx} (h:vQ rows ts):∀ x ∈ ts,List.length x.2.1<=12/\List.length x.2.2.1<=8/\List.length x.2.2.2.1<=12/\∀ c ∈ (x.2.1:List Change),cl c:=λx hx=>by
 have P:=bl h.right
 have T:kE ts:=gk P.iq
 have R:jt ts:=lP P.iq
 exact ⟨T.nG x hx,(Ft (R.each x hx).2).ml,T.qM x hx,(h.small.2.2.2 x hx).2.2.2⟩
theorem HO {rows:List Row} {ts:List Tx} {o:Op} (h:(eH rows ts o).2.1=true):gp o.1=true/\¬ gn ts o.2.1 < 0/\eH rows ts o=hY rows ts o:=by
 unfold eH dX at h ⊢
 split at h
 ·split at h <;> cases h
 split at h
 ·cases h
 split at h
 ·cases h
 split at h
 ·split at h <;> cases h
 split at h
 ·split at h <;> cases h
 split at h
 ·rename_i h1 Y h3 h4 h5 h6
  refine ⟨h6,h3,?_⟩
  rw[if_neg h1,if_neg Y,if_neg h3,if_neg h4,if_neg h5,if_pos h6]
 ·cases h
theorem vQ.yr {rows:List Row} {ts:List Tx} (h:vQ rows ts) {o:Op} (ht:(eH rows ts o).2.1=true) (hr:gp o.1=true->cY o.2.2.1=0):∃ (j:Nat) (c:Change),j < ts.length/\(eH rows ts o).2.2.1=c/\gn ts o.2.1=(j:Int)/\jd rows c=true/\fa c=0/\vQ (ee rows c) (lq ts j c):=by
 obtain ⟨k1,k2,k3⟩:=HO ht
 have P:=bl h.right
 obtain ⟨j,hj,dr,qo⟩:=at_mem k2
 rw[k3] at ht
 obtain ⟨r1,r2,r3,r4,r5,r6⟩:=mg ht
 obtain ⟨w1,w2,w3,w4⟩:=lr P.eo (hr k1) r2
 have hn:lq ts j (aS rows o).1=ts.set j (ji ts[j] (aS rows o).1):=by
  unfold lq
  rw[List.getElem?_eq_getElem hj]
 have hs:iH (rows,ts,(3:Int),()) o 0 (ee rows (aS rows o).1,ts.set j (ji ts[j] (aS rows o).1),(3:Int),()):=.sZ k1 hj qo (hr k1) ht
 refine ⟨j,(aS rows o).1,hj,by rw[k3,r6],dr,w3,w1,?_⟩
 rw[hn]
 exact ⟨ka h.right hs,nK h.small h.right hs,by rw[List.length_set];exact h.two⟩
def Nw (B:Int) (y:List Row×List Tx×ax×Unit):Prop:=y.1.length<=61/\(∀ r ∈ y.1,List.length r.2.2.2.1<=9)/\(∃ n,n<=5/\rx n y.2.1)/\bv y.2.2.1 B
theorem Jf {s:ax} {b:Int} (h:bv s b) (hb:b<=100000):Gv (λy:List Row×List Tx×ax×Unit=>y.1.length<=12/\(∀ r ∈ y.1,List.length r.2.2.2.1<=9)/\rx 2 y.2.1/\(∀ x ∈ y.2.1,List.length x.2.1<=12/\List.length x.2.2.1<=8/\List.length x.2.2.2.1<=12)/\bv y.2.2.1 (b+500)) (bP.ab (s,())):=by
 obtain ⟨⟨rows,t1,⟨⟩⟩,e1,hg,hl,s1⟩:=Je h (by omega)
 simp only at hg hl s1
 obtain ⟨v,t2,e2,a2,c2,s2⟩:=gU (n:=9) s1 (by omega) (by omega) (by omega)
 have F7:0<=b:=Int.le_trans h.2.1 h.2.2
 have h0:vQ rows [nI 1,nI 2]:=by
  have p1:=FE hg (by omega)
  have o1:nv (rows,([]:List Tx),(1:Int),()):=⟨by show rows.length<=_;omega,λx hx=>by have:=jN (hg.2 x hx);unfold rl;rw[al];omega,Nat.zero_le _,λx hx=>by cases hx⟩
  obtain ⟨ob,Py⟩:∃ ob:Op,ob=((1:Int),(0:Int),((0:Int),(0:Int),(0:Int),([]:List UInt8),()),(0:Int),()):=⟨_,rfl⟩
  have q1:iH (rows,([]:List Tx),(1:Int),()) ob 1 (rows,[]++[nI 1],1+1,()):=.oJ (by rw[Py]) (by decide) (by decide)
  have p2:=ka p1 q1
  have o2:=nK o1 p1 q1
  have q2:iH (rows,[nI 1],(2:Int),()) ob 2 (rows,[nI 1]++[nI 2],2+1,()):=.oJ (by rw[Py]) (by decide) (by decide)
  exact ⟨ka p2 q2,nK o2 p2 q2,rfl⟩
 have:=wD 200000 (B:=λw v=>bP.b0 w (bP.q0 (s,())) (s,()) v) (λs (l:List Row×List Tx) i=>(s,l.1,l.2,i)) (λc l=>vQ l.1 l.2) 40 (by omega) (λs' l=>bP.q0 (s,()) (s',l.1,l.2))
  (λm s0 x c hm hs hc hI=>by
   obtain ⟨rs,ts⟩:=x
   have hI:vQ rs ts:=hI
   have P:=bl hI.right
   have Nd:rs.length<=12:=P.len
   have T:kE ts:=gk P.iq
   obtain ⟨⟨o,t3,⟨⟩⟩,e3,k1,s3,k2,k3⟩:=qS (rows:=rs) (ts:=ts) hs (by omega) (by omega) (by have:=hI.two;omega)
   simp only at k1 s3 k2 k3
   have aB:(0:Int) < ((m+1:Nat):Int):=by omega
   have hC:=uB rs ts o P.eo (by omega) hI.small.2.2 T k2
   have stay:(∀ self:(ax×(List Row)×(List Tx)×Int)->Option bP.Out,bP.b0 self (bP.q0 (s,())) (s,()) (s0,rs,ts,((m+1:Nat):Int))=self (t3,rs,ts,(m:Int)))->∃ s' x',bv s' (c+40)/\vQ (x':List Row×List Tx).1 x'.2/\∀ self,bP.b0 self (bP.q0 (s,())) (s,()) (s0,rs,ts,((m+1:Nat):Int))=self (s',x'.1,x'.2,(m:Int)):=λhh=>⟨t3,(rs,ts),s3,hI,hh⟩
   by_cases h1:(eH rs ts o).1=0
   rotate_left
   ·refine stay λself=>?_
    unfold bP.b0
    rw[decide_eq_true aB,cond_true,e3]
    simp only[Option.bind_some]
    rw[hC]
    simp only[Option.bind_some,h1,decide_false,Bool.not_false,cond_true]
    rw[ns hm]
   cases Y:(eH rs ts o).2.1 with
   | false=>
    refine stay λself=>?_
    unfold bP.b0
    rw[decide_eq_true aB,cond_true,e3]
    simp only[Option.bind_some]
    rw[hC]
    simp only[Option.bind_some,h1,decide_true,Bool.not_true,cond_false,Y,Bool.not_false,cond_true]
    rw[ns hm]
   | true=>
    obtain ⟨j,ch,hj,gm,dr,hf,Sv,hN⟩:=hI.yr Y (k3 P.eo.2)
    refine ⟨t3,(ee rs ch,lq ts j ch),s3,hN,λself=>?_⟩
    show bP.b0 self _ _ _=_
    unfold bP.b0
    rw[decide_eq_true aB,cond_true,e3]
    simp only[Option.bind_some]
    rw[hC]
    simp only[Option.bind_some,h1,decide_true,Bool.not_true,cond_false,Y,gm]
    rw[um rs ch P.eo.1 (by omega) (mc Sv).1,hf]
    simp only[Option.bind_some,if_true]
    rw[fQ ts _ hI.small.2.2.1,dr]
    simp only[Option.bind_some]
    rw[vM ts j ch hI.small.2.2 hj]
    simp only[Option.bind_some]
    rw[ns hm])
  (λs0 x c _ _ self=>by
   unfold bP.b0
   rw[decide_eq_false (Int.lt_irrefl _),cond_false]) v.toNat t2 (rows,[nI 1,nI 2]) (b+60+1) (by omega) s2 h0 (by omega)
 obtain ⟨t,⟨rs,ts⟩,uP,hI,a3⟩:=this
 have hI:vQ rs ts:=hI
 have hv:((v.toNat:Nat):Int)=v:=by omega
 rw[hv] at a3 uP
 suffices hq:Gv (λy:List Row×List Tx×ax×Unit=>y.1.length<=12/\(∀ r ∈ y.1,List.length r.2.2.2.1<=9)/\rx 2 y.2.1/\(∀ x ∈ y.2.1,List.length x.2.1<=12/\List.length x.2.2.1<=8/\List.length x.2.2.2.1<=12)/\bv y.2.2.1 (b+500)) (bP.q0 (s,()) (t,rs,ts)) by
  obtain ⟨y,e,hy⟩:=hq
  refine ⟨y,ah (k:=11) λk hk=>(bP.ae k _).trans ?_,hy⟩
  unfold bP.p
  rw[e1]
  simp only[Option.bind_some]
  rw[e2]
  exact (a3 k (by omega)).trans e
 have P:=bl hI.right
 have mR:=hI.sm
 have hS:rx 2 ts:=⟨hI.two,λx hx=>⟨by have:=(mR x hx).1;omega,by have:=(mR x hx).2.1;omega,by have:=(mR x hx).2.2.1;omega,(mR x hx).2.2.2⟩⟩
 have hR:∀ r ∈ rs,List.length r.2.2.2.1<=9:=λr hr=>by have:=jN (P.eo.2 r hr);omega
 have Y:=hI.two
 unfold bP.q0
 refine Gv.yb uP (by omega) (by omega) (by omega) λv3 t3 s3=>?_
 refine Gv.bif (λ_=>?_) λ_=>Gv.some ⟨P.len,hR,hS,λx hx=>⟨(mR x hx).1,(mR x hx).2.1,(mR x hx).2.2.1⟩,s3.mono (by omega)⟩
 have hz:(0:Int)<=(0:Int)/\(0:Int) < (ts.length:Int):=by omega
 refine Gv.ite hz (Gv.get (l:=ts) (i:=0) (by omega) λx1 _ m1=>Gv.get (l:=ts) (i:=0) (by omega) λx2 _ m2=>Gv.ite hz (Gv.get (l:=ts) (i:=0) (by omega) λx3 _ m3=>?_))
 have n3:=mR x3 m3
 have hy:HN (x3.1,x3.2.1,[(0:Int),(List.length x2.2.1:Int)],x3.2.2.2):=⟨by show List.length x3.2.1<=13;omega,by show 2<=9;omega,by show List.length x3.2.2.2.1<=24;omega,n3.2.2.2⟩
 refine Gv.some ⟨P.len,hR,hS.set 0 hy,λx hx=>?_,s3.mono (by omega)⟩
 have hx:x ∈ ts.set 0 (x3.1,x3.2.1,[(0:Int),(List.length x2.2.1:Int)],x3.2.2.2):=hx
 rcases List.mem_or_eq_of_mem_set hx with g | g
 ·exact ⟨(mR x g).1,(mR x g).2.1,(mR x g).2.2.1⟩
 ·rw[g]
  exact ⟨n3.1,by show 2<=8;omega,n3.2.2.1⟩
end OT
set_option linter.unusedVariables false
set_option linter.unusedSimpArgs false
set_option linter.unusedSectionVars false
namespace OT
open Go
theorem Jg {s:ax} {b:Int} (h:bv s b) (hb:b<=100000):Gv (Nw (b+1000)) (gd.ab (s,())):=by
 suffices hq:Gv (Nw (b+1000)) (gd.p (s,())) by
  obtain ⟨y,e,hy⟩:=hq
  exact ⟨y,ah (k:=0) λk _=>(gd.ae k _).trans e,hy⟩
 obtain ⟨⟨rs,ts,t1,⟨⟩⟩,e1,hl,hr,hS,mR,s1⟩:=Jf h hb
 simp only at hl hr hS mR s1
 have Y:=hS.1
 unfold gd.p
 rw[e1,Option.bind_some]
 have hz:(0:Int)<=(0:Int)/\(0:Int) < (ts.length:Int):=by omega
 have ho:(0:Int)<=(1:Int)/\(1:Int) < (ts.length:Int):=by omega
 have y0:rs.length<=61:=by omega
 have fin:∀ (HP:List Row) (tZ:List Tx) (t:ax) (n:Nat),HP.length<=61->(∀ r ∈ HP,List.length r.2.2.2.1<=9)->n<=5->rx n tZ->bv t (b+1000)->Gv (Nw (b+1000)) (some (HP,tZ,t,())):=λHP tZ t n J a2 a3 a4 a5=>Gv.some ⟨J,a2,⟨n,a3,a4⟩,a5⟩
 refine Gv.next s1 (by omega) (by omega) (by omega) λv2 t2 a2 c2 s2=>?_
 have m2:bv t2 (b+1000):=s2.mono (by omega)
 refine Gv.bif (λ_=>?_) λ_=>Gv.bif (λ_=>?_) λ_=>Gv.bif (λ_=>?_) λ_=>Gv.bif (λ_=>?_) λ_=>Gv.bif (λ_=>?_) λ_=>Gv.bif (λ_=>?_) λ_=>fin rs _ _ 2 y0 hr (by omega) hS m2
 ·refine Gv.pick s2 (by omega) (by simp) (by simp) λv3 t3 m3 s3=>?_
  refine Gv.next s3 (by omega) (by omega) (by omega) λv4 t4 a4 c4 s4=>?_
  refine Gv.ite (cm (by simp only[List.length_cons,List.length_nil];omega)) ?_
  refine fin rs (ts++[(v3,([]:List Change),([]:List Int),[((1:Int),v4,())],())]) t4 3 y0 hr (by omega) ⟨by rw[List.length_append,List.length_cons,List.length_nil];omega,λx hx=>?_⟩ (s4.mono (by omega))
  rcases List.mem_append.1 hx with g | g
  ·exact hS.2 x g
  ·rw[List.mem_singleton] at g
   rw[g]
   exact ⟨Nat.zero_le _,Nat.zero_le _,by show 1<=24;omega,λc hc=>by cases hc⟩
 ·refine Gv.ite hz (Gv.get (l:=ts) (i:=0) (by omega) λx1 _ n1=>?_)
  refine Gv.pick s2 (by omega) (by simp) (by simp) λv3 t3 m3 s3=>?_
  refine Gv.get (l:=ts) (i:=0) (by omega) λx2 _ n2=>Gv.get (l:=ts) (i:=0) (by omega) λx3 _ n3=>?_
  have q2:=mR x2 n2
  have q3:=mR x3 n3
  refine Gv.ite (cm (by simp only[List.length_cons,List.length_nil];omega)) (Gv.ite (by rw[List.length_set];exact hz) (Gv.ite rfl (Gv.get (l:=ts.set 0 x3) (i:=0) (by rw[List.length_set];omega) λx4 _ n4=>?_)))
  have S1:=hS.set 0 (hS.2 x3 n3)
  have q4:=S1.2 x4 n4
  refine fin rs _ _ 2 y0 hr (by omega) (S1.set 0 ⟨q4.1,?_,q4.2.2.1,q4.2.2.2⟩) (s3.mono (by omega))
  show (x2.2.2.1++[v3]).length<=9
  rw[List.length_append,List.length_cons,List.length_nil]
  omega
 ·refine Gv.ite ho (Gv.get (l:=ts) (i:=1) (by omega) λx1 _ n1=>?_)
  obtain ⟨r,t3,e3,h3,s3⟩:=s9 s2 (by omega)
  rw[e3,Option.bind_some]
  refine Gv.get (l:=ts) (i:=1) (by omega) λx2 _ n2=>Gv.get (l:=ts) (i:=1) (by omega) λx3 _ n3=>?_
  have q2:=mR x2 n2
  refine Gv.ite (cm (by simp only[List.length_cons,List.length_nil];omega)) (Gv.ite (by rw[List.length_set];exact ho) (Gv.ite rfl (Gv.get (l:=ts.set 1 x3) (i:=1) (by rw[List.length_set];omega) λx4 _ n4=>?_)))
  have S1:=hS.set 1 (hS.2 x3 n3)
  have q4:=S1.2 x4 n4
  refine fin rs _ _ 2 y0 hr (by omega) (S1.set 1 ⟨?_,q4.2.1,q4.2.2.1,λc hc=>?_⟩) (s3.mono (by omega))
  ·show (x2.2.1++[(false,((0:Int),(0:Int),(0:Int),([]:List UInt8),()),true,r,())]).length<=13
   rw[List.length_append,List.length_cons,List.length_nil]
   omega
  ·have hc:c ∈ (x2.2.1:List Change)++[(false,((0:Int),(0:Int),(0:Int),([]:List UInt8),()),true,r,())]:=hc
   rcases List.mem_append.1 hc with g | g
   ·exact (hS.2 x2 n2).2.2.2 c g
   ·rw[List.mem_singleton] at g
    rw[g]
    exact ⟨Nat.zero_le _,by show List.length r.2.2.2.1<=maxLen;rw[al];omega⟩
 ·refine Gv.ite ⟨by omega,by omega,by simp only[bX];omega⟩ (fin rs _ _ 5 y0 hr (by omega) ⟨List.length_replicate,λx hx=>?_⟩ m2)
  rw[List.eq_of_mem_replicate hx]
  exact ⟨Nat.zero_le _,Nat.zero_le _,Nat.zero_le _,λc hc=>by cases hc⟩
 ·obtain ⟨⟨HP,t3,⟨⟩⟩,e3,g1,g2,s3⟩:=vP s2 (by omega)
  rw[e3,Option.bind_some]
  exact fin _ _ _ 2 g1 g2 (by omega) hS (s3.mono (by omega))
 ·refine Gv.ite ho (Gv.get (l:=ts) (i:=1) (by omega) λx0 _ n0=>Gv.ite hz (Gv.get (l:=ts) (i:=0) (by omega) λx1 _ n1=>Gv.get (l:=ts) (i:=0) (by omega) λx2 _ n2=>Gv.get (l:=ts) (i:=0) (by omega) λx3 _ n3=>Gv.get (l:=ts) (i:=1) (by omega) λx4 _ n4=>Gv.get (l:=ts) (i:=1) (by omega) λx5 _ n5=>?_))
  have q2:=mR x2 n2
  have q4:=mR x4 n4
  refine Gv.ite (cm (by omega)) (Gv.ite (by rw[List.length_set];exact ho) (Gv.ite rfl (Gv.get (l:=ts.set 1 x5) (i:=1) (by rw[List.length_set];omega) λx6 _ n6=>?_)))
  have S1:=hS.set 1 (hS.2 x5 n5)
  have q6:=S1.2 x6 n6
  refine fin rs _ _ 2 y0 hr (by omega) (S1.set 1 ⟨q6.1,q6.2.1,?_,q6.2.2.2⟩) m2
  show (x4.2.2.2.1++x2.2.2.2.1).length<=24
  rw[List.length_append]
  omega
def Pz (B:Int) (y:Op×ax×Unit):Prop:=List.length y.1.2.2.1.2.2.2.1<=9/\bv y.2.1 B
theorem HQ {s:ax} {b:Int} (h:bv s b) (hb:b<=400000):Gv (Pz (b+60)) (gI.ab (s,())):=by
 suffices hq:Gv (Pz (b+60)) (gI.p (s,())) by
  obtain ⟨y,e,hy⟩:=hq
  exact ⟨y,ah (k:=0) λk _=>(gI.ae k _).trans e,hy⟩
 obtain ⟨⟨o,t1,⟨⟩⟩,e1,k1,s1,_,_⟩:=qS (rows:=[]) (ts:=[]) h (by omega) (by simp) (by simp)
 simp only at k1 s1
 unfold gI.p
 rw[e1,Option.bind_some]
 refine Gv.next s1 (by omega) (by omega) (by omega) λv2 t2 a2 c2 s2=>?_
 refine Gv.bif (λ_=>?_) λ_=>Gv.bif (λ_=>?_) λ_=>Gv.bif (λ_=>?_) λ_=>Gv.bif (λ_=>?_) λ_=>Gv.some ⟨k1,s2.mono (by omega)⟩
 ·exact Gv.pick s2 (by omega) (by simp) (by simp) λv3 t3 m3 s3=>Gv.some ⟨k1,s3.mono (by omega)⟩
 ·exact Gv.pick s2 (by omega) (by simp) (by simp) λv3 t3 m3 s3=>Gv.some ⟨k1,s3.mono (by omega)⟩
 ·exact Gv.pick s2 (by omega) (by simp) (by simp) λv3 t3 m3 s3=>Gv.some ⟨k1,s3.mono (by omega)⟩
 ·obtain ⟨r,t3,e3,h3,s3⟩:=s9 s2 (by omega)
  rw[e3,Option.bind_some]
  exact Gv.some ⟨h3,s3.mono (by omega)⟩
theorem Cq {X O V α:Type} {B:(X->Option O)->(V->Option O)->V->Option O} (xs:List α) (enc:X->Int->V) (I:Nat->X->Prop) (hl:xs.length<=100000)
  (cI:∀ (i:Nat) (hi:i < xs.length) (x:X),I i x->∃ x',I (i+1) x'/\∀ e self,B e self (enc x (i:Int))=self (enc x' (ai ((i:Int)+1))))
  (iQ:∀ (x:X),I xs.length x->∀ e self,B e self (enc x (xs.length:Int))=e x):∀ (n i:Nat) (x:X),xs.length - i=n->i<=xs.length->I i x->∃ x',I xs.length x'/\∀ e k,n < k->au (B e) k (enc x (i:Int))=e x'
 | 0,i,x,hn,hi,hI=>by
  have e:i=xs.length:=by omega
  subst e
  refine ⟨x,hI,λe k hk=>?_⟩
  obtain ⟨j,rfl⟩:∃ j,k=j+1:=⟨k - 1,by omega⟩
  rw[mS]
  exact iQ x hI _ _
 | n+1,i,x,hn,hi,hI=>by
  obtain ⟨x1,J,a2⟩:=cI i (by omega) x hI
  obtain ⟨x2,c1,c2⟩:=Cq xs enc I hl cI iQ n (i+1) x1 (by omega) (by omega) J
  refine ⟨x2,c1,λe k hk=>?_⟩
  obtain ⟨j,rfl⟩:∃ j,k=j+1:=⟨k - 1,by omega⟩
  rw[mS,a2,show ai ((i:Int)+1)=((i+1:Nat):Int) by rw[bQ (by omega)];omega]
  exact c2 e j (by omega)
theorem Cr {R:dN}:zz dD R=0+(0+(zz bF R.2.2.1+0)):=rfl
theorem D0 {p:Plain}:List.length p.1<=zz bF p/\List.length p.2.1<=zz bF p:=by
 have h:zz bF p=zz (.aa ak) p.1+(zz (.aa aC) p.2.1+(0+0)):=rfl
 have h1:List.length p.1<=zz (.aa ak) p.1:=qa (e:=ak) p.1
 have Y:List.length p.2.1<=zz (.aa aC) p.2.1:=qa (e:=aC) p.2.1
 omega
theorem HR {r:Row} (h:List.length r.2.2.2.1<=9):rl r:=by
 unfold rl
 rw[al]
 omega
def Ny (m:Nat) (B:Int) (y:List Op×ax×Unit):Prop:=y.1.length<=m/\(∀ o ∈ y.1,List.length o.2.2.1.2.2.2.1<=9)/\bv y.2.1 B
theorem Jh {s:ax} {b n:Int} (h:bv s b) (hb:b<=100000) (hn:1<=n) (rH:n<=21):Gv (Ny 26 (b+1000)) (cE.ab (s,n,())):=by
 obtain ⟨ops,Cs⟩:∃ ops:List Op,ops=[((1:Int),(0:Int),((0:Int),(0:Int),(0:Int),([]:List UInt8),()),(0:Int),()),((2:Int),(1:Int),((0:Int),(1:Int),(8:Int),([]:List UInt8),()),(0:Int),()),((2:Int),(1:Int),((0:Int),(2:Int),(8:Int),([]:List UInt8),()),(0:Int),()),((7:Int),(1:Int),((0:Int),(0:Int),(0:Int),([]:List UInt8),()),(0:Int),()),((1:Int),(0:Int),((0:Int),(0:Int),(0:Int),([]:List UInt8),()),(0:Int),()),((1:Int),(0:Int),((0:Int),(0:Int),(0:Int),([]:List UInt8),()),(0:Int),())]:=⟨_,rfl⟩
 have hlen:ops.length=6:=by rw[Cs];rfl
 have Kp:∀ o ∈ ops,List.length o.2.2.1.2.2.2.1=0:=λo ho=>by
  rw[Cs] at ho
  simp only[List.mem_cons,List.not_mem_nil,or_false] at ho
  rcases ho with rfl | rfl | rfl | rfl | rfl | rfl <;> rfl
 have F7:0<=b:=Int.le_trans h.2.1 h.2.2
 have second:∀ p:Plain,zz bF p<=18000->∃ y,Ny 26 (b+1000) y/\∀ k,30<=k->cE.q0 (cE.r1 k (s,n,())) (s,n,()) p=some y:=λp hp=>by
  obtain ⟨v,t1,e1,J,c1,s1⟩:=gU (n:=n) h (by omega) hn (by omega)
  have:=yY (b+841) (B:=λw x=>cE.b1 w (cE.q1 (s,n,())) (s,n,()) x) (λs' (l:Plain×List Op) i=>(s',l.1,l.2,i)) (λc l=>40*((zz bF l.1:Nat):Int)<=720000+3000*(c - b - 1)/\40*(l.2.length:Int)<=240+(c - b - 1)/\∀ o ∈ l.2,List.length o.2.2.1.2.2.2.1<=9) 40 (by omega) (λs' l=>(l.2,s',()))
   (λm s0 x c hm hs hc hI=>by
    obtain ⟨q,l⟩:=x
    obtain ⟨i1,i2,i3⟩:=hI
    simp only at i1 i2 i3
    have oq:=hs.2
    have Sw:=D0 (p:=q)
    obtain ⟨⟨o,t3,⟨⟩⟩,e3,k1,s3,_,_⟩:=qS (rows:=q.1) (ts:=q.2.1) hs (by omega) (by omega) (by omega)
    simp only at k1 s3
    obtain ⟨R,hR,hz⟩:=yV (p:=q) (o:=o) (yd (by omega)) (HR k1)
    have Gl:=Cr (R:=R)
    have aB:(0:Int) < ((m+1:Nat):Int):=by omega
    have gX:l.length+[o].length<=bX:=cm (by simp only[List.length_cons,List.length_nil];omega)
    have iP:∀ o' ∈ l++[o],List.length o'.2.2.1.2.2.2.1<=9:=λo' oT=>by
     rcases List.mem_append.1 oT with g | g
     ·exact i3 o' g
     ·rw[List.mem_singleton] at g
      rw[g]
      exact k1
    by_cases h0:R.1=0
    ·refine ⟨t3,(R.2.2.1,l++[o]),s3,⟨by show 40*((zz bF R.2.2.1:Nat):Int)<=_;omega,by show 40*((l++[o]).length:Int)<=_;rw[List.length_append,List.length_cons,List.length_nil];omega,iP⟩,λself=>?_⟩
     unfold cE.b1
     rw[decide_eq_true aB,cond_true,e3]
     simp only[Option.bind_some]
     rw[if_pos gX,hR.2]
     simp only[Option.bind_some,h0,decide_true,cond_true]
     rw[ns hm]
    ·refine ⟨t3,(q,l++[o]),s3,⟨by show 40*((zz bF q:Nat):Int)<=_;omega,by show 40*((l++[o]).length:Int)<=_;rw[List.length_append,List.length_cons,List.length_nil];omega,iP⟩,λself=>?_⟩
     unfold cE.b1
     rw[decide_eq_true aB,cond_true,e3]
     simp only[Option.bind_some]
     rw[if_pos gX,hR.2]
     simp only[Option.bind_some,h0,decide_false,cond_false]
     rw[ns hm])
   (λs0 x c _ _ self=>by
    unfold cE.b1
    rw[decide_eq_false (Int.lt_irrefl _),cond_false]
    rfl) v.toNat t1 (p,ops) (b+1) (by omega) s1 ⟨by show 40*((zz bF p:Nat):Int)<=_;omega,by show 40*(ops.length:Int)<=_;omega,λo ho=>by rw[Kp o ho];omega⟩ (by omega)
  obtain ⟨t,l,uP,a2,a3⟩:=this
  have hv:((v.toNat:Nat):Int)=v:=by omega
  rw[hv] at a3 uP a2
  refine ⟨(l.2,t,()),⟨by have:=a2.2.1;show List.length l.2<=26;omega,a2.2.2,uP.mono (by omega)⟩,λk hk=>?_⟩
  unfold cE.q0
  rw[e1]
  have:=a3 k (by omega)
  rw[Cs] at this
  exact this
 have first:=Cq (B:=λe self v=>cE.b0 self e (s,n,()) v) ops (λ(p:Plain) (i:Int)=>(p,i)) (λi p=>zz bF p<=3000*i) (by omega)
  (λi hi p hI=>by
   have hm:=List.getElem_mem hi
   obtain ⟨R,hR,hz⟩:=yV (p:=p) (o:=ops[i]) (yd (by omega)) (HR (by rw[Kp _ hm];omega))
   have Gl:=Cr (R:=R)
   refine ⟨R.2.2.1,by omega,λe self=>?_⟩
   unfold cE.b0
   rw[<-Cs]
   have aB:(i:Int) < (ops.length:Int):=by omega
   rw[decide_eq_true aB,cond_true,if_pos ⟨by omega,aB⟩]
   simp only[Int.toNat_natCast,List.getElem?_eq_getElem hi,Option.bind_some]
   rw[hR.2]
   rfl)
  (λp _ e self=>by
   unfold cE.b0
   rw[<-Cs,decide_eq_false (Int.lt_irrefl _),cond_false]) 6 0 (([]:List Row),([]:List Tx),(1:Int),()) (by omega) (by omega) (Nat.zero_le _)
 obtain ⟨p,hp,hk⟩:=first
 obtain ⟨y,hy,he⟩:=second p (by rw[hlen] at hp;exact hp)
 refine ⟨y,ah (k:=40) λk ff=>(cE.ae k _).trans ?_,hy⟩
 unfold cE.p
 exact (hk (λz=>cE.Q0 k (s,n,()) z) k (by omega)).trans (he k (by omega))
def HS (p:Plain):Prop:=nv p/\List.length p.1<=1000000/\List.length p.2.1<=1000000
theorem HT {s:ax} {b:Int} (h:bv s b) (hb:b<=50000):Gv (λy:Plain×ax×Unit=>HS y.1/\bv y.2.1 (b+3000)) (gH.ab (s,())):=by
 suffices hq:Gv (λy:Plain×ax×Unit=>HS y.1/\bv y.2.1 (b+3000)) (gH.p (s,())) by
  obtain ⟨y,e,hy⟩:=hq
  exact ⟨y,ah (k:=0) λk _=>(gH.ae k _).trans e,hy⟩
 obtain ⟨⟨ops,t1,⟨⟩⟩,e1,k1,k2,s1⟩:=Jh (n:=16) h (by omega) (by omega) (by omega)
 simp only at k1 k2 s1
 have kK:∀ o ∈ ops,rl o.2.2.1:=λo ho=>HR (k2 o ho)
 have hR:=HM ops kK
 have hz:zz iZ (ru ops)=0+(zz (.aa i64) (ru ops).2.1+(zz (.aa i64) (ru ops).2.2.1+(zz bF (ru ops).2.2.2.1+0))):=rfl
 have Sw:=D0 (p:=(ru ops).2.2.2.1)
 have hp:HS (ru ops).2.2.2.1:=⟨yd (by omega),by omega,by omega⟩
 unfold gH.p
 rw[e1,Option.bind_some]
 simp only
 rw[FC ops (by omega) kK,Option.bind_some]
 refine Gv.next s1 (by omega) (by omega) (by omega) λv2 t2 a2 c2 s2=>?_
 refine Gv.bif (λ_=>?_) λ_=>Gv.bif (λ_=>?_) λ_=>Gv.bif (λ_=>?_) λ_=>Gv.some ⟨hp,s2.mono (by omega)⟩
 ·exact Gv.pick s2 (by omega) (by simp) (by simp) λv3 t3 m3 s3=>Gv.some ⟨⟨⟨hp.1.1,hp.1.2.1,hp.1.2.2⟩,hp.2.1,hp.2.2⟩,s3.mono (by omega)⟩
 ·obtain ⟨⟨rs,t3,⟨⟩⟩,e3,g1,g2,s3⟩:=vP s2 (by omega)
  simp only at g1 g2 s3
  rw[e3,Option.bind_some]
  exact Gv.some ⟨⟨⟨by show rs.length<=_;omega,λr hr=>HR (g2 r hr),hp.1.2.2⟩,by show rs.length<=_;omega,hp.2.2⟩,s3.mono (by omega)⟩
 ·obtain ⟨⟨rs,ts,t3,⟨⟩⟩,e3,g1,g2,⟨n,g3,g4⟩,s3⟩:=Jg s2 (by omega)
  simp only at g4 s3
  rw[e3,Option.bind_some]
  exact Gv.some ⟨⟨⟨hp.1.1,hp.1.2.1,g4.gv (by omega)⟩,hp.2.1,by show ts.length<=_;have:=g4.1;omega⟩,s3.mono (by omega)⟩
theorem HU (c:List UInt8) (h:c.length<=1048576):∃ p o,eU.ab (c,())=some (p,o,())/\HS p/\List.length o.2.2.1.2.2.2.1<=9:=by
 have h0:bv (c,(0:Int),()) 0:=⟨h,Int.le_refl 0,Int.le_refl 0⟩
 suffices hq:Gv (λy:Plain×Op×Unit=>HS y.1/\List.length y.2.1.2.2.1.2.2.2.1<=9) (eU.p (c,())) by
  obtain ⟨⟨p,o,⟨⟩⟩,e,h1,Y⟩:=hq
  exact ⟨p,o,ah (k:=0) λk _=>(eU.ae k _).trans e,h1,Y⟩
 unfold eU.p
 rw[HK,Option.bind_some]
 obtain ⟨⟨p,t1,⟨⟩⟩,e1,hp,s1⟩:=HT h0 (by omega)
 simp only at hp s1
 simp only
 rw[e1,Option.bind_some]
 refine Gv.yb s1 (by omega) (by omega) (by omega) λv2 t2 s2=>?_
 refine Gv.bif (λ_=>?_) λ_=>?_
 ·obtain ⟨⟨o,t3,⟨⟩⟩,e3,k1,s3⟩:=HQ s2 (by omega)
  simp only at k1
  rw[e3,Option.bind_some]
  exact Gv.some ⟨hp,k1⟩
 ·obtain ⟨⟨o,t3,⟨⟩⟩,e3,k1,s3,_,_⟩:=qS (rows:=p.1) (ts:=p.2.1) s2 (by omega) hp.2.1 hp.2.2
  simp only at k1
  simp only
  rw[e3,Option.bind_some]
  exact Gv.some ⟨hp,k1⟩
end OT
set_option linter.unusedVariables false
set_option linter.unusedSimpArgs false
set_option linter.unusedSectionVars false
namespace OT
open Go
abbrev Nz:Row:=((0:Int),(0:Int),(0:Int),([]:List UInt8),())
def look (xs:List Row) (k:Int×Int):Option Row:=if fm xs k then xs[pos xs k]? else none
def Oq:Option Row->Option Row->Option Change
 | some a,some b=>if Ty.eq ak a b then none else some (true,a,true,b,())
 | some a,none=>some (true,a,false,Nz,())
 | none,some b=>some (false,Nz,true,b,())
 | none,none=>none
end OT
set_option linter.unusedVariables false
set_option linter.unusedSimpArgs false
namespace OT
open Go
end OT
set_option linter.unusedVariables false
set_option linter.unusedSimpArgs false
set_option linter.unusedSectionVars false
namespace OT
open Go
end OT
set_option linter.unusedVariables false
set_option linter.unusedSimpArgs false
set_option linter.unusedSectionVars false
namespace OT
open Go
theorem Ji (c:List UInt8):lm.ab (c,())=some (decide ((1048576:Int) < (c.length:Int)),()):=ah (k:=0) λk _=>(lm.ae k _).trans rfl
end OT
set_option linter.unusedVariables false
set_option linter.unusedSimpArgs false
set_option linter.unusedSectionVars false
namespace OT
open Go
end OT
set_option linter.unusedVariables false
set_option linter.unusedSimpArgs false
set_option linter.unusedSectionVars false
namespace OT
open Go
theorem wF (c:List UInt8) (i n:Int) (hc:c.length<=1048576) (hi:0<=i/\i<=1000) (hn:1<=n/\n<=200):∃ v,ip.ab (c,i,n,())=some (v,())/\0<=v/\v < n:=by
 suffices hq:∃ v,ip.p (c,i,n,())=some (v,())/\0<=v/\v < n by
  obtain ⟨v,e,h⟩:=hq
  exact ⟨v,ah (k:=0) λk _=>(ip.ae k _).trans e,h⟩
 unfold ip.p
 by_cases h1:n<=1
 ·exact ⟨0,by simp only[h1,decide_true,cond_true],by omega,by omega⟩
 have n0:¬ n=0:=by omega
 simp only[h1,n0,decide_false,cond_false,if_false]
 by_cases hl:c.length=0
 ·have e:(c.length:Int)=0:=by omega
  simp only[e,decide_true,cond_true]
  exact ⟨_,rfl,mm (by rw[bQ (by omega)];omega) (by omega)⟩
 have e:¬ (c.length:Int)=0:=by omega
 have q0:=mm (v:=i) (n:=(c.length:Int)) hi.1 (by omega)
 have i0:(i.tmod (c.length:Int)).toNat < c.length:=by omega
 have FB:¬ (200:Int) < n:=by omega
 simp only[e,decide_false,cond_false,if_false,q0.1,if_true,List.getElem?_eq_getElem i0,Option.bind_some,FB]
 have hd:0<=i.tdiv (c.length:Int)/\i.tdiv (c.length:Int)<=i:=by
  rw[Int.tdiv_eq_ediv_of_nonneg hi.1]
  exact ⟨Int.ediv_nonneg hi.1 (by omega),Int.ediv_le_self _ hi.1⟩
 have b0:(c[(i.tmod (c.length:Int)).toNat]).toNat < 256:=UInt8.toNat_lt _
 generalize (c[(i.tmod (c.length:Int)).toNat]).toNat=x at b0 ⊢
 generalize i.tdiv (c.length:Int)=d at hd ⊢
 have w1:ai (x:Int)=(x:Int):=bQ (by omega)
 have w0:ai d=d:=bQ (by omega)
 have w2:ai (d*3)=d*3:=bQ (by omega)
 have w3:ai ((x:Int)+d*3)=(x:Int)+d*3:=bQ (by omega)
 simp only[w0,w1,w2,w3]
 exact ⟨_,rfl,mm (by omega) (by omega)⟩
structure lu (eC:List Row) (mk:Nat) (p:Plain):Prop where
 right:bM p=0
 small:nv p
 back:∃ (j:Nat) (n:Nat) (hj:j < List.length p.2.1),(p.2.1[j]).1=2/\(p.2.1[j]).2.2.1[mk]?=some (n:Int)/\n<=List.length (p.2.1[j]).2.1/\bs p.1 (bu ((p.2.1[j]).2.1.drop n))=some eC
theorem lu.step {eC:List Row} {mk:Nat} {p:Plain} (h:lu eC mk p) {o:Op} {v:Int} {q:Plain} (hs:iH p o v q) (h5:¬ o.1=5) (h6:¬ o.1=6) (h7:¬ o.1=7) (h8:¬ o.1=8) (Y:o.2.1=2):lu eC mk q:=by
 refine ⟨ka h.right hs,nK h.small h.right hs,?_⟩
 have P:=bl h.right
 have R:jt p.2.1:=lP P.iq
 obtain ⟨j,n,hj,b1,b2,b3,b4⟩:=h.back
 cases hs with
 | @oJ rows ts m _ hk hn hl=>
  have hj:j < ts.length:=hj
  refine ⟨j,n,by show j < (ts++[nI _]).length;rw[List.length_append];omega,?_⟩
  have e:(ts++[nI v])[j]'(by rw[List.length_append];omega)=ts[j]:=List.getElem_append_left hj
  show ((ts++[nI v])[j]'(by rw[List.length_append];omega)).1=2/\_
  rw[e]
  exact ⟨b1,b2,b3,b4⟩
 | yX hk=>exact ⟨j,n,hj,b1,b2,b3,b4⟩
 | ve hk l6 ew hm=>exact absurd hk h5
 | sY hk l6 ew HF hm Ck hb=>exact absurd hk h6
 | py hk l6 ew=>exact absurd hk h7
 | rU hk l6 ew hb=>exact absurd hk h8
 | @sZ rows ts m _ i hk hi ew hr ht=>
  have hj:j < ts.length:=hj
  have b1:(ts[j]).1=2:=b1
  have b2:(ts[j]).2.2.1[mk]?=some (n:Int):=b2
  have b3:n<=List.length (ts[j]).2.1:=b3
  have b4:bs rows (bu ((ts[j]).2.1.drop n))=some eC:=b4
  have gB:i=j:=DW R hi hj (by rw[ew,Y];exact b1.symm)
  subst gB
  obtain ⟨r1,r2,_⟩:=mg ht
  obtain ⟨w1,w2,w3,w4⟩:=lr P.eo hr r2
  obtain ⟨i1,i2⟩:=Ci P.eo w1 w3
  refine ⟨i,n,by show i < (ts.set i _).length;rw[List.length_set];exact hj,?_⟩
  show ((ts.set i (ji ts[i] (aS rows o).1))[i]'(by rw[List.length_set];exact hj)).1=2/\_
  rw[List.getElem_set_self]
  refine ⟨b1,b2,?_,?_⟩
  ·show n<=((ts[i]).2.1++[(aS rows o).1]).length
   rw[List.length_append];omega
  ·show bs (ee rows (aS rows o).1) (bu (((ts[i]).2.1++[(aS rows o).1]).drop n))=some eC
   rw[List.drop_append_of_le_length b3]
   have e:bu ((ts[i]).2.1.drop n++[(aS rows o).1])=jJ (aS rows o).1::bu ((ts[i]).2.1.drop n):=by simp[bu]
   rw[e]
   simp only[bs]
   rw[if_pos i1,i2]
   exact b4
 | vf hk l6 ew ht=>exact ⟨j,n,hj,b1,b2,b3,b4⟩
abbrev oK (m:Int):Op:=((6:Int),(2:Int),((0:Int),(0:Int),(0:Int),([]:List UInt8),()),m,())
theorem HV {m:Nat} (h:m < 8):fO (oK (m:Int))=0:=by
 have:m=0\/m=1\/m=2\/m=3\/m=4\/m=5\/m=6\/m=7:=by omega
 rcases this with rfl | rfl | rfl | rfl | rfl | rfl | rfl | rfl <;> decide +kernel
theorem Jj {ts:List Tx} {t:Int} {j:Nat} (hj:j < ts.length) (h:(ts[j]).1=t):¬ gn ts t < 0:=by
 have main:∀ (xs:List Tx) (i:Nat),(∃ x ∈ xs,x.1=t)->¬ jf (λx:Tx=>decide (x.1=t)) i xs < 0:=by
  intro xs
  induction xs with
  | nil=>rintro i ⟨x,hx,_⟩;cases hx
  | cons x xs ih=>
   rintro i ⟨y,hy,e⟩
   simp only[jf]
   by_cases hx:x.1=t
   ·rw[if_pos (decide_eq_true hx)];omega
   ·rw[if_neg (by simpa using hx)]
    rcases List.mem_cons.1 hy with rfl | hy
    ·exact absurd e hx
    ·exact ih (i+1) ⟨y,hy,e⟩
 exact main ts 0 ⟨_,List.getElem_mem hj,h⟩
theorem lu.fin {eC:List Row} {mk:Nat} {p:Plain} (h:lu eC mk p) (h8:mk < 8):∃ q:Plain,gO p (oK (mk:Int)) ((0:Int),(0:Int),q,())/\q.1=eC/\bM q=0/\nv q/\q.2.2.1=p.2.2.1:=by
 obtain ⟨rows,ts,m,⟨⟩⟩:=p
 have P:=bl h.right
 have R:jt ts:=lP P.iq
 obtain ⟨j,n,hj,b1,b2,b3,b4⟩:=h.back
 have hj:j < ts.length:=hj
 have b1:(ts[j]).1=2:=b1
 have b2:(ts[j]).2.2.1[mk]?=some (n:Int):=b2
 have hs:iH (rows,ts,m,()) (oK (mk:Int)) 0 (eC,ts.set j (qn ts[j] n mk),m,()):=.sY rfl hj b1 rfl b2 b3 b4
 have xW:¬ gn ts (oK (mk:Int)).2.1 < 0:=Jj hj b1
 have dr:gn ts (oK (mk:Int)).2.1=(j:Int):=vg R hj b1 xW
 have uD:mk < List.length (ts[j]).2.2.1:=(List.getElem?_eq_some_iff.1 b2).1
 have gm:(cG rows ts (oK (mk:Int))).1=0:=by
  have Sx:dR rows=0:=pk P.eo (by have:rows.length<=12:=P.len;omega)
  have Sy:kt ts (oK (mk:Int)).2.1=(List.length (ts[j]).2.2.1:Int):=by
   unfold kt
   rw[dr,Int.toNat_natCast,List.getElem?_eq_getElem hj]
  unfold cG
  rw[if_pos Sx,if_pos P.iq,if_pos (HV h8)]
  unfold eH
  rw[if_neg (show ¬ (6:Int)=1 by decide),if_neg (show ¬ (6:Int)=9 by decide),if_neg xW,if_neg (show ¬ (6:Int)=5 by decide),if_pos (show (6:Int)=6 from rfl),Sy]
  have aB:¬ (List.length (ts[j]).2.2.1:Int)<=(oK (mk:Int)).2.2.2.1:=by show ¬ (List.length (ts[j]).2.2.1:Int)<=(mk:Int);omega
  rw[decide_eq_false aB]
  rfl
 exact ⟨_,DY h.small (Nat.zero_le _) h.right gm hs,rfl,ka h.right hs,nK h.small h.right hs,rfl⟩
theorem s_ {eC:List Row} {mk:Nat} (x:Plain) (op:Op) (hx:lu eC mk x) (ht:op.2.1=2) (kK:rl op.2.2.1):∃ x',lu eC mk x'/\∀ (self:(Plain×Int)->Option aY.Out) (i:Int),(bif decide (op.1=(7:Int)) then (self (x,ai (i+(1:Int)))) else bif decide (op.1=(8:Int)) then (self (x,ai (i+(1:Int)))) else bif decide (op.1=(6:Int)) then (self (x,ai (i+(1:Int)))) else bif decide (op.1=(5:Int)) then (self (x,ai (i+(1:Int)))) else (cv.ab (x,op,())).bind λBL=>bif decide (BL.1.1=(0:Int)) then (self (BL.1.2.2.1,ai (i+(1:Int)))) else self (x,ai (i+(1:Int))))=self (x',ai (i+1)):=by
 by_cases k7:op.1=7
 ·exact ⟨x,hx,λself i=>by rw[decide_eq_true k7,cond_true]⟩
 by_cases k8:op.1=8
 ·exact ⟨x,hx,λself i=>by rw[decide_eq_false k7,cond_false,decide_eq_true k8,cond_true]⟩
 by_cases k6:op.1=6
 ·exact ⟨x,hx,λself i=>by rw[decide_eq_false k7,cond_false,decide_eq_false k8,cond_false,decide_eq_true k6,cond_true]⟩
 by_cases k5:op.1=5
 ·exact ⟨x,hx,λself i=>by rw[decide_eq_false k7,cond_false,decide_eq_false k8,cond_false,decide_eq_false k6,cond_false,decide_eq_true k5,cond_true]⟩
 obtain ⟨R,⟨g1,g2⟩,gc⟩:=Cl hx.small kK hx.right
 by_cases g0:R.1=0
 ·obtain ⟨v',q',rfl,_,vB⟩:=gc g0
  exact ⟨q',hx.step vB k5 k6 k7 k8 ht,λself i=>by
   rw[decide_eq_false k7,cond_false,decide_eq_false k8,cond_false,decide_eq_false k6,cond_false,decide_eq_false k5,cond_false,g1]
   simp only[Option.bind_some,decide_true,cond_true]⟩
 ·exact ⟨x,hx,λself i=>by
   rw[decide_eq_false k7,cond_false,decide_eq_false k8,cond_false,decide_eq_false k6,cond_false,decide_eq_false k5,cond_false,g1]
   simp only[Option.bind_some,g0,decide_false,cond_false]⟩
theorem Jk {eC:List Row} {mk:Nat} (c:List UInt8) (kC:c.length<=1048576) (p0:Plain) (o:Op) (ho:o.2.2.1.2.2.2.1.length<=9) (q:Plain) (i:Nat) (Pp:i < 3) (x:Plain) (hx:lu eC mk x):∃ x',lu eC mk x'/\∀ (e:Plain->Option aY.Out) (self:(Plain×Int)->Option aY.Out),aY.b0 self (λz=>e z) (c,()) p0 o ((0:Int),(mk:Int),q,()) (x,(i:Int))=self (x',ai ((i:Int)+1)):=by
 obtain ⟨ok,ot,PA⟩:=o
 obtain ⟨v1,f1,J,c1⟩:=wF c (i:Int) 5 kC (by omega) (by omega)
 obtain ⟨v2,f2,a2,c2⟩:=wF c ((i:Int)+4) 9 kC (by omega) (by omega)
 obtain ⟨v3,f3,a3,c3⟩:=wF c ((i:Int)+8) 2 kC (by omega) (by omega)
 have w4:ai ((i:Int)+4)=(i:Int)+4:=bQ (by omega)
 have w8:ai ((i:Int)+8)=(i:Int)+8:=bQ (by omega)
 have aB:(i:Int) < 3:=by omega
 have km:rl ((ok,(2:Int),PA):Op).2.2.1:=HR ho
 by_cases i2:(i:Int)=2
 ·obtain ⟨x',tE,hB⟩:=s_ x (ok,(2:Int),PA) hx rfl km
  refine ⟨x',tE,λe self=>?_⟩
  rw[<-hB self (i:Int)]
  unfold aY.b0
  rw[decide_eq_true aB,cond_true,f1,w4,f2,w8,f3,decide_eq_true i2]
  clear hB
  generalize cv.ab=DP
  by_cases HW:v3=0
  ·dsimp only [Option.bind_some]
   rw[decide_eq_true HW,cond_true,cond_true]
  ·dsimp only [Option.bind_some]
   rw[decide_eq_false HW,cond_false,cond_true]
 ·by_cases HW:v3=0
  ·obtain ⟨x',tE,hB⟩:=s_ x ((2:Int),(2:Int),((1:Int),ai ((1:Int)+v1),v2,([]:List UInt8),()),(0:Int),()) hx rfl (Nat.zero_le _)
   refine ⟨x',tE,λe self=>?_⟩
   rw[<-hB self (i:Int)]
   unfold aY.b0
   rw[decide_eq_true aB,cond_true,f1]
   rw[w4,f2,w8,f3,decide_eq_false i2]
   dsimp only [Option.bind_some]
   rw[decide_eq_true HW,cond_true,cond_false]
  ·obtain ⟨x',tE,hB⟩:=s_ x ((3:Int),(2:Int),((1:Int),ai ((1:Int)+v1),v2,([]:List UInt8),()),(0:Int),()) hx rfl (Nat.zero_le _)
   refine ⟨x',tE,λe self=>?_⟩
   rw[<-hB self (i:Int)]
   unfold aY.b0
   rw[decide_eq_true aB,cond_true,f1]
   rw[w4,f2,w8,f3,decide_eq_false i2]
   dsimp only [Option.bind_some]
   rw[decide_eq_false HW,cond_false,cond_false]
theorem HX {eC:List Row} {mk:Nat} (c:List UInt8) (kC:c.length<=1048576) (p0:Plain) (o:Op) (ho:o.2.2.1.2.2.2.1.length<=9) (q:Plain) (x:Plain) (e:Plain->Option aY.Out) (self:(Plain×Int)->Option aY.Out):aY.b0 self (λz=>e z) (c,()) p0 o ((0:Int),(mk:Int),q,()) (x,(3:Int))=e x:=by
 unfold aY.b0
 rw[decide_eq_false (show ¬ (3:Int) < 3 by decide),cond_false]
theorem FF {eC:List Row} {mk:Nat} (c:List UInt8) (kC:c.length<=1048576) (p0:Plain) (o:Op) (ho:o.2.2.1.2.2.2.1.length<=9) {q:Plain} (hI:lu eC mk q):∃ x',lu eC mk x'/\∀ (ex:Plain->Option aY.Out) (k:Nat),3 < k->au (λ(self:(Plain×Int)->Option aY.Out) v=>aY.b0 self (λz=>ex z) (c,()) p0 o ((0:Int),(mk:Int),q,()) v) k (q,(0:Int))=ex x':=by
 have main:=Cq (B:=λe self v=>aY.b0 self e (c,()) p0 o ((0:Int),(mk:Int),q,()) v) [0,1,2] (λ(x:Plain) (i:Int)=>(x,i)) (λ_ x=>lu eC mk x) (by decide)
  (λi hi x hx=>Jk c kC p0 o ho q i hi x hx)
  (λx _ e self=>HX (mk:=mk) (eC:=eC) c kC p0 o ho q x e self) 3 0 q (by decide) (by decide) hI
 exact main
theorem FH (v:aY.Arg) (hv:GX aY.ps v):aY.ab v=some (true,()):=by
 obtain ⟨c,⟨⟩⟩:=v
 refine ah (k:=10) λk hk=>(aY.ae k _).trans ?_
 show aY.p _ _=_
 unfold aY.p
 rw[Ji]
 simp only[Option.bind_some]
 by_cases hl:(1048576:Int) < (c.length:Int)
 ·rw[decide_eq_true hl,cond_true]
 rw[decide_eq_false hl,cond_false]
 have kC:c.length<=1048576:=by omega
 obtain ⟨p,o,e1,hp,ho⟩:=HU c kC
 rw[e1]
 simp only[Option.bind_some]
 obtain ⟨om,vR⟩:∃ om:Op,om=((5:Int),(2:Int),((0:Int),(0:Int),(0:Int),([]:List UInt8),()),(0:Int),()):=⟨_,rfl⟩
 have Sz:rl om.2.2.1:=by rw[vR];exact Nat.zero_le _
 rw[<-vR]
 by_cases h:bM p=0
 rotate_left
 ·obtain ⟨i1,i2⟩:=Hr (o:=om) hp.1 h
  rw[i1,i2]
  simp only[Option.bind_some,h,decide_false,Bool.not_false,cond_true,decide_true]
 obtain ⟨R,⟨i1,i2⟩,hc⟩:=Cl hp.1 Sz h
 rw[i1,i2]
 simp only[Option.bind_some]
 by_cases h0:R.1=0
 rotate_left
 ·simp only[h0,decide_false,Bool.not_false,cond_true,decide_true]
 obtain ⟨v,q,rfl,Y,hs⟩:=hc h0
 simp only[decide_true,Bool.not_true,cond_false]
 obtain ⟨eC,rW,n0,⟨⟩⟩:=p
 have P:=bl h
 have SA:∃ mk:Nat,v=(mk:Int)/\mk < 8/\lu eC mk q:=by
  have hr:=ka h hs
  have ap:=nK hp.1 h hs
  cases hs with
  | @ve _ _ _ _ j hk hj ew hm=>
   refine ⟨List.length (rW[j]).2.2.1,rfl,hm,hr,ap,j,List.length (rW[j]).2.1,by show j < (rW.set j _).length;rw[List.length_set];exact hj,?_⟩
   show ((rW.set j (n_ rW[j]))[j]'(by rw[List.length_set];exact hj)).1=2/\_
   rw[List.getElem_set_self]
   refine ⟨by show (rW[j]).1=2;rw[ew,vR],?_,Nat.le_refl _,?_⟩
   ·show ((rW[j]).2.2.1++[(List.length (rW[j]).2.1:Int)])[List.length (rW[j]).2.2.1]?=_
    rw[List.getElem?_append_right (Nat.le_refl _),Nat.sub_self]
    rfl
   ·show bs eC (bu ((rW[j]).2.1.drop (List.length (rW[j]).2.1)))=some eC
    rw[List.drop_length]
    rfl
  | oJ hk hn Dz=>rw[vR] at hk;exact absurd hk (show ¬ (5:Int)=1 by decide)
  | yX hk=>rw[vR] at hk;exact absurd hk (show ¬ (5:Int)=9 by decide)
  | sY hk hj ew HF hm Ck hb=>rw[vR] at hk;exact absurd hk (show ¬ (5:Int)=6 by decide)
  | py hk hj ew=>rw[vR] at hk;exact absurd hk (show ¬ (5:Int)=7 by decide)
  | rU hk hj ew hb=>rw[vR] at hk;exact absurd hk (show ¬ (5:Int)=8 by decide)
  | sZ hk hj ew TS ht=>rw[vR] at hk;exact absurd hk (by decide)
  | vf hk hj ew ht=>rw[vR] at hk;exact absurd hk (by decide)
 obtain ⟨mk,rfl,Nf,hI⟩:=SA
 have loop:=FF c kC (eC,rW,n0,()) o ho hI
 obtain ⟨x,hx,hK⟩:=loop
 refine (hK (λz=>aY.Q0 k (c,()) (eC,rW,n0,()) o ((0:Int),(mk:Int),q,()) z) k (by omega)).trans ?_
 show aY.q0 _ _ _ _ _=_
 unfold aY.q0
 obtain ⟨y,⟨g1,_⟩,g2,g3,g4,g5⟩:=hx.fin Nf
 have g1:cv.ab (x,((6:Int),(2:Int),((0:Int),(0:Int),(0:Int),([]:List UInt8),()),(mk:Int),()),())=some (((0:Int),(0:Int),y,()),()):=g1
 simp only
 rw[g1]
 simp only[Option.bind_some,decide_true,cond_true]
 rw[g2,HI _ _ (by have:eC.length<=12:=P.len;omega)]
 simp only[Option.bind_some,decide_true,cond_true]
 rw[nl y g4,g3,g5]
 simp only[Option.bind_some,decide_true,cond_true]
end OT
