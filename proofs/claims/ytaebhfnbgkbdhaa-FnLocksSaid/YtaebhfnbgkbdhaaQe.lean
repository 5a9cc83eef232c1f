/- The proof's parts, merged: What ApplyChanges and the faults of rows are  no conditions but the lengths.. No conditions but those that each states. -/
import Derived.Test.YtaebhfnbgkbdhaaQd
set_option linter.unusedVariables false
set_option linter.unusedSimpArgs false
namespace OT
open Go
def ig (xs:List Row) (i:Nat) (x:Row):Sum (Int×Unit) Unit:=
 if cQ x=0 then (if 0 < i then (match xs[i - 1]? with | some y=>if ct (rk y) (rk x) then .inr () else .inl (1,()) | none=>.inl (1,())) else .inr ()) else .inl (cQ x,())
def dQ (xs:List Row):Int:=if 60 < xs.length then 2 else (aX (λi (_:Unit) x=>ig xs i x) (λ_=>((0:Int),())) 0 xs ()).1
theorem Az (xs:List Row) (hl:xs.length<=maxLen) (h:∀ c ∈ xs,rl c):dF.aa (xs,())=some (dQ xs,()):=by
 refine ah (k:=xs.length+1) λk hk=>(dF.ab k _).trans ?_
 have:=b_ (B:=λself v=>dF.B0 0 self (λz=>dF.Q0 0 (xs,()) z) (xs,()) v) xs (λ(_:Unit) (i:Int)=>i) (λi _ x=>ig xs i x) (λ_=>(0,())) (λ_ _=>True) hl
  (λi hi _ self _=>by
   show dF.b0 _ _ _ _=_
   unfold dF.b0 ig
   have aH:(i:Int) < (xs.length:Int):=by omega
   simp only[aH,decide_true,cond_true,Int.natCast_nonneg,if_true,Int.toNat_natCast,List.getElem?_eq_getElem hi,Option.bind_some,nG _ (h _ (List.getElem_mem hi))]
   grind [vB,Int.toNat_natCast,rz]) (λ_ _ _ _ _ _=>trivial) (λ_ self _=>by
   grind [dF.b0,dF.q0]) () trivial k (by omega)
 have this:dF.r0 k (xs,()) 0=_:=this
 grind [dF.p,dQ]
theorem pN (xs:List Row) (hl:xs.length<=maxLen) (h:∀ c ∈ xs,rl c):br.aa (xs,())=some (dQ xs,()):=by
 refine ah (k:=xs.length+1) λk hk=>(br.ab k _).trans ?_
 have:=b_ (B:=λself v=>br.B0 0 self (λz=>br.Q0 0 (xs,()) z) (xs,()) v) xs (λ(_:Unit) (i:Int)=>i) (λi _ x=>ig xs i x) (λ_=>(0,())) (λ_ _=>True) hl
  (λi hi _ self _=>by
   show br.b0 _ _ _ _=_
   unfold br.b0 ig rk
   have aH:(i:Int) < (xs.length:Int):=by omega
   simp only[aH,decide_true,cond_true,Int.natCast_nonneg,if_true,Int.toNat_natCast,List.getElem?_eq_getElem hi,Option.bind_some,nH _ (h _ (List.getElem_mem hi))]
   grind [vB,Int.toNat_natCast,tA]) (λ_ _ _ _ _ _=>trivial) (λ_ self _=>by
   grind [br.b0,br.q0]) () trivial k (by omega)
 have this:br.r0 k (xs,()) 0=_:=this
 grind [br.p,dQ]
theorem xp {α:Type} {f:Nat->Unit->α->Sum (Int×Unit) Unit} (hf:∀ i s x o,f i s x=.inl o->o.1≠0):∀ (xs:List α) (j:Nat),(aX f (λ_=>((0:Int),())) j xs ()).1=0->∀ i (hi:i < xs.length),f (j+i) () xs[i]=.inr ()
 | x::xs,j,h,i,hi=>by
  simp only[aX] at h
  cases hx:f j () x with
  | inl o=>grind
  | inr u=>
   rw[hx] at h
   cases i with
   | zero=>exact hx
   | succ i=>
    have:=xp hf xs (j+1) h i (by simpa using hi)
    grind
theorem Ep:∀ (xs:List Row),(∀ i (hi:i < xs.length),0 < i->ct (rk (xs[i - 1]'(by omega))) (rk xs[i])=true)->up xs
 | [],_=>List.Pairwise.nil
 | [x],_=>List.pairwise_singleton _ _
 | x::y::xs,h=>by
  have hu:up (y::xs):=Ep (y::xs) λi hi h0=>by
   have:=h (i+1) (by grind) (by omega)
   grind
  have rJ:ct (rk x) (rk y)=true:=h 1 (by simp) (by omega)
  refine mr.2 ⟨λz hz=>?_,hu⟩
  rcases List.mem_cons.1 hz with rfl | hz
  ·exact rJ
  ·exact nJ rJ ((mr.1 hu).1 z hz)
theorem k_ {x:Row} (h:cQ x=0):List.length x.2.2.2.1<=8:=by
 grind [cQ,mH]
structure Good (xs:List Row):Prop where
 up:up xs
 ok:∀ x ∈ xs,cQ x=0
theorem jb {xs:List Row} (h:dQ xs=0):Good xs/\xs.length<=60:=by
 unfold dQ at h
 split at h
 ·cases h
 ·rename_i hl
  have hn:=xp (f:=λi (_:Unit) x=>ig xs i x) (λi s x o ho=>by
   grind [ig]) xs 0 h
  have h1:∀ i (hi:i < xs.length),cQ xs[i]=0:=λi hi=>by
   grind [ig]
  refine ⟨⟨Ep xs λi hi h0=>?_,λx hx=>?_⟩,by omega⟩
  ·grind [ig]
  ·obtain ⟨i,hi,rfl⟩:=List.mem_iff_getElem.1 hx
   exact h1 i hi
theorem mt {c:Change} (h:eM c=0):(c.2.2.1=true->rk c.2.2.2.1=ck c)/\(c.2.2.1=true->cQ c.2.2.2.1=0):=by
 grind [rk,ck,eM]
theorem fD {xs:List Row} {c:Change} (h:Good xs) (hc:eM c=0):Good (dI xs c):=by
 obtain ⟨hk,hr⟩:=mt hc
 have hb:=h.up
 constructor
 ·unfold dI up
  have h1:(xs.take (pos xs (ck c))).Pairwise (λa b=>ct (rk a) (rk b)=true):=hb.sublist (List.take_sublist _ _)
  have uK:∀ n,(xs.drop n).Pairwise (λa b=>ct (rk a) (rk b)=true):=λn=>hb.sublist (List.drop_sublist _ _)
  have JX:∀ y ∈ xs.drop (pos xs (ck c)+if eR xs (ck c) then 1 else 0),ct (ck c) (rk y)=true:=λy hy=>by
   obtain ⟨i,e⟩:=List.mem_iff_getElem?.1 hy
   rw[List.getElem?_drop] at e
   obtain ⟨aH,e1⟩:=List.getElem?_eq_some_iff.1 e
   have hn:=mW xs (ck c) _ aH hb (by omega)
   rw[e1] at hn
   clear e1 aH
   cases Be:ct (ck c) (rk y) with
   | true=>rfl
   | false=>
    have he:=qV Be hn
    exfalso
    cases hf:eR xs (ck c) with
    | true=>
     obtain ⟨hp,A_⟩:=jM hf
     rw[hf] at e
     simp only[if_true] at e
     obtain ⟨aH,e⟩:=List.getElem?_eq_some_iff.1 e
     have:=List.pairwise_iff_getElem.1 hb (pos xs (ck c)) (pos xs (ck c)+1+i) hp aH (by omega)
     grind
    | false=>
     rw[hf] at e
     simp only[Bool.false_eq_true,if_false,Nat.add_zero] at e
     obtain ⟨aH,e⟩:=List.getElem?_eq_some_iff.1 e
     have hp:pos xs (ck c) < xs.length:=by omega
     have tm:=mW xs (ck c) _ hp hb (Nat.le_refl _)
     have bG:rk xs[pos xs (ck c)]≠ck c:=λe2=>by
      grind [eR]
     have Oy:ct (ck c) (rk xs[pos xs (ck c)])=true:=by
      grind [qV]
     cases i with
     | zero=>
      grind
     | succ i=>
      have:=List.pairwise_iff_getElem.1 hb (pos xs (ck c)) (pos xs (ck c)+(i+1)) hp aH (by omega)
      grind
  have NT:∀ a ∈ xs.take (pos xs (ck c)),∀ y ∈ xs.drop (pos xs (ck c)+if eR xs (ck c) then 1 else 0),ct (rk a) (rk y)=true:=λa ha y hy=>nJ (oM ha) (JX y hy)
  grind [oM]
 ·intro x hx
  unfold dI at hx
  rcases List.mem_append.1 hx with hx | hx
  ·rcases List.mem_append.1 hx with hx | hx
   ·exact h.ok x (List.mem_of_mem_take hx)
   grind
  ·exact h.ok x (List.mem_of_mem_drop hx)
theorem oN (xs:List Row) (c:Change):(dI xs c).length<=xs.length+1:=by
 grind [dI]
def jO (i:Nat) (s:List Row) (c:Change):Sum (nB×Unit) (List Row):=if eM c=0 then (if ja s c then .inr (dI s c) else .inl ((8,[],()),())) else .inl ((eM c,[],()),())
def oO (s:List Row):nB×Unit:=if 60 < s.length then ((2,[],()),()) else ((0,s,()),())
def vD (xs:List Row) (cs:List Change):nB:=if dQ xs=0 then (aX jO oO 0 cs xs).1 else (dQ xs,[],())
theorem FL (n i:Nat) (s s':List Row) (c:Change) (h:Good s/\s.length<=60+i) (hf:jO n s c=.inr s'):Good s'/\s'.length<=60+(i+1):=by
 grind [jO,fD,oN]
theorem AA (xs:List Row) (h:xs.length<=1048576):eu.aa (xs,())=some (xs,()):=by
 refine ah (k:=0) λk _=>(eu.ab k _).trans ?_
 show eu.p _=_
 unfold eu.p
 have c1:([]:List Row).length+xs.length<=cU:=dA (by grind)
 exact sU (λe=>by grind) (by grind)
theorem so (xs:List Row) (cs:List Change) (hl:xs.length<=maxLen) (h:∀ x ∈ xs,rl x) (GA:cs.length<=1048576) (hc:∀ c ∈ cs,cl c):bs.aa (xs,cs,())=some (vD xs cs,()):=by
 refine ah (k:=cs.length+1) λk hk=>(bs.ab k _).trans ?_
 unfold bs.p vD
 simp only[pN xs hl h,Option.bind_some]
 by_cases h0:dQ xs=0
 ·obtain ⟨hg,hn⟩:=jb h0
  simp only[h0,decide_true,Bool.not_true,cond_false,if_true,AA xs (by omega),Option.bind_some]
  exact b_ (B:=λself v=>bs.B0 0 self (λz=>bs.Q0 0 (xs,cs,()) z) (xs,cs,()) v) cs (λ(s:List Row) (i:Int)=>(s,i)) jO oO (λi s=>Good s/\s.length<=60+i) (by rw[ak];omega)
   (λi hi s self hI=>by
    show bs.b0 _ _ _ _=_
    unfold bs.b0 jO
    have aH:(i:Int) < (cs.length:Int):=by omega
    simp only[aH,decide_true,cond_true,Int.natCast_nonneg,if_true,Int.toNat_natCast,List.getElem?_eq_getElem hi,Option.bind_some,ry _ (hc _ (List.getElem_mem hi)),Em _ s hI.1.up (by omega),CK s _ hI.1.up (by omega)]
    grind) (λi hi s s' hI hf=>FL _ i s s' _ hI hf) (λs self hI=>by
    grind [bs.b0,oO,bs.q0]) xs ⟨hg,by omega⟩ k (by omega)
 grind
end OT
set_option linter.unusedVariables false
set_option linter.unusedSimpArgs false
set_option linter.unusedSectionVars false
namespace OT
open Go
theorem oP {xs:List Row} {k:Int×Int} (hu:up xs) {i:Nat} (hi:i < xs.length) (hk:rk xs[i]=k):eR xs k=true/\pos xs k=i:=by
 have h1:¬ i < pos xs k:=λaH=>by
  have:=p_ xs k i hi aH
  rw[hk,kN] at this
  cases this
 have hp:pos xs k < xs.length:=by omega
 have Y:pos xs k=i:=by
  by_cases he:pos xs k=i
  ·exact he
  ·have h3:=List.pairwise_iff_getElem.1 hu (pos xs k) i hp hi (by omega)
   have h4:=mW xs k (pos xs k) hp hu (Nat.le_refl _)
   rw[hk] at h3
   rw[h3] at h4
   cases h4
 refine ⟨?_,Y⟩
 unfold eR
 rw[Y,List.getElem?_eq_getElem hi]
 simpa using hk
theorem jc {xs:List Row} (hu:up xs) (c:Change) (r:Row):r ∈ dI xs c↔(r ∈ xs/\rk r≠ck c)\/(c.2.2.1=true/\r=c.2.2.2.1):=by
 have key:(r ∈ xs.take (pos xs (ck c))\/r ∈ xs.drop (pos xs (ck c)+if eR xs (ck c) then 1 else 0))↔(r ∈ xs/\rk r≠ck c):=by
  constructor
  ·rintro (h | h)
   ·exact ⟨List.mem_of_mem_take h,λhe=>by have:=oM h;rw[he,kN] at this;cases this⟩
   ·refine ⟨List.mem_of_mem_drop h,λhe=>?_⟩
    obtain ⟨i,hi,hr⟩:=List.getElem_of_mem h
    rw[List.getElem_drop] at hr
    rw[List.length_drop] at hi
    obtain ⟨f1,f2⟩:=oP hu (i:=pos xs (ck c)+(if eR xs (ck c) then 1 else 0)+i) (k:=ck c) (by omega) (by rw[hr];exact he)
    rw[f1] at f2
    simp only[if_true] at f2
    omega
  ·rintro ⟨h,bG⟩
   obtain ⟨i,hi,hr⟩:=List.getElem_of_mem h
   by_cases h1:i < pos xs (ck c)
   ·left
    rw[List.mem_take_iff_getElem]
    exact ⟨i,by omega,hr⟩
   ·right
    rw[List.mem_drop_iff_getElem]
    by_cases hf:eR xs (ck c)=true
    ·rw[if_pos hf]
     obtain ⟨hp,hk⟩:=jM hf
     have:i≠pos xs (ck c):=λhe=>bG (by subst he;rw[<-hr];exact hk)
     exact ⟨i - (pos xs (ck c)+1),by omega,by rw[<-hr];congr 1;omega⟩
    ·rw[if_neg hf]
     exact ⟨i - (pos xs (ck c)+0),by omega,by rw[<-hr];congr 1;omega⟩
 unfold dI
 rw[List.mem_append,List.mem_append]
 constructor
 ·rintro ((h | h) | h)
  ·exact .inl (key.1 (.inl h))
  ·cases hi:c.2.2.1 with
   | true=>rw[hi] at h;exact .inr ⟨rfl,List.mem_singleton.1 h⟩
   | false=>rw[hi] at h;cases h
  ·exact .inl (key.1 (.inr h))
 ·rintro (h | ⟨hi,rfl⟩)
  ·rcases key.2 h with h | h
   ·exact .inl (.inl h)
   ·exact .inr h
  ·rw[hi];exact .inl (.inr (List.mem_singleton.2 rfl))
theorem Er {a b:Row} (h:Ty.eq aw a b=true):a=b:=by
 have e:Ty.eq aw a b=(decide (a.1=b.1)&&(decide (a.2.1=b.2.1)&&(decide (a.2.2.1=b.2.2.1)&&(decide (a.2.2.2.1=b.2.2.2.1)&&true)))):=rfl
 rw[e] at h
 simp only[Bool.and_eq_true,decide_eq_true_eq,and_true] at h
 obtain ⟨J,a2,a3,a4,⟨⟩⟩:=a
 obtain ⟨b1,b2,b3,b4,⟨⟩⟩:=b
 obtain ⟨h1,Y,h3,h4⟩:=h
 simp only at h1 Y h3 h4
 rw[h1,Y,h3,h4]
end OT
set_option linter.unusedVariables false
set_option linter.unusedSimpArgs false
namespace OT
open Go
theorem c9 {V S O α:Type} {B:(V->Option O)->V->Option O} (xs:List α) (enc:S->Int->V) (f:Nat->S->α->Sum (Option O) S) (fin:S->Option O) (I:Nat->S->Prop) (Ff:xs.length<=maxLen)
  (dy:∀ (i:Nat) (hi:i < xs.length) (s:S) self,I i s->B self (enc s (i:Int))=match f i s xs[i] with | .inl o=>o | .inr s'=>self (enc s' (ap ((i:Int)+1))))
  (hI:∀ (i:Nat) (hi:i < xs.length) (s s':S),I i s->f i s xs[i]=.inr s'->I (i+1) s')
  (qQ:∀ (s:S) self,I xs.length s->B self (enc s (xs.length:Int))=fin s) (s:S) (h0:I 0 s):∀ k,xs.length < k->au B k (enc s 0)=aX f fin 0 xs s:=by
 have main:∀ (m i:Nat) (s:S),xs.length - i=m->i<=xs.length->I i s->∀ k,m < k->au B k (enc s (i:Int))=aX f fin i (xs.drop i) s:=by
  intro m
  induction m with
  | zero=>
   intro i s hm hi hs k hk
   have jj:i=xs.length:=by omega
   subst jj
   cases k <;> grind [au,aX]
  | succ m ih=>
   intro i s hm hi hs k hk
   have aH:i < xs.length:=by omega
   cases k <;> grind [au,List.drop_eq_getElem_cons,aX,dz,ak]
 intro k hk
 simpa using main xs.length 0 s (by omega) (by omega) h0 k hk
theorem ii {O α:Type} (p:α->Bool) (a:O) (fin:Unit->O):∀ (xs:List α) (i:Nat),aX (λ_ _ x=>if p x then .inl a else .inr ()) fin i xs ()=if xs.any p then a else fin ()
 | [],_=>rfl
 | x::xs,i=>by
  simp only[aX,List.any_cons]
  by_cases h:p x=true
  ·simp[h]
  ·simp[h,ii p a fin xs (i+1)]
def jn {α:Type} (p:α->Bool):Nat->List α->Int
 | _,[]=>-1
 | i,x::xs=>if p x then (i:Int) else jn p (i+1) xs
theorem nK {α:Type} (p:α->Bool):∀ (xs:List α) (i:Nat),aX (λi _ x=>if p x then .inl ((i:Int),()) else .inr ()) (λ_=>((-1:Int),())) i xs ()=(jn p i xs,())
 | [],_=>rfl
 | x::xs,i=>by
  simp only[aX,jn]
  by_cases h:p x=true
  ·simp[h]
  ·simp[h,nK p xs (i+1)]
theorem xq {α:Type} (p:α->Bool):∀ (xs:List α) (i:Nat),decide (0<=jn p i xs)=xs.any p
 | [],_=>rfl
 | x::xs,i=>by
  simp only[jn,List.any_cons]
  by_cases h:p x=true
  ·simp[h]
  ·simp[h,xq p xs (i+1)]
theorem qY {α:Type} (p:α->Bool):∀ (xs:List α) (i:Nat),0<=jn p i xs->∃ (j:Nat) (hj:j < xs.length),jn p i xs=((i+j:Nat):Int)/\p xs[j]=true
 | [],_,h=>by simp[jn] at h
 | x::xs,i,h=>by
  simp only[jn] at h ⊢
  by_cases hp:p x=true
  ·exact ⟨0,by simp,by simp[hp],hp⟩
  ·rw[if_neg hp] at h ⊢
   obtain ⟨j,hj,h1,Y⟩:=qY p xs (i+1) h
   exact ⟨j+1,by simp;omega,by rw[h1];omega,by simpa using Y⟩
theorem mI (a b:Key):Ty.eq aA a b=decide (a=b):=by
 obtain ⟨J,a2,⟨⟩⟩:=a
 obtain ⟨b1,b2,⟨⟩⟩:=b
 show (decide (J=b1)&&(decide (a2=b2)&&true))=decide ((J,a2,())=(b1,b2,()))
 grind
def cA (c:Change):Key:=((ck c).1,(ck c).2,())
def cb (ks:List Key) (k:Key):Bool:=ks.any λx=>decide (x=k)
theorem cx {ks:List Key} {k:Key}:cb ks k=true↔k ∈ ks:=by simp[cb]
def gv (k:Key):Bool:=cr k.1 0 3&&cr k.2.1 1 99
theorem sq (c:Change):dX.aa (c,())=some (cA c,()):=by
 refine ah (k:=0) λk _=>(dX.ab k _).trans ?_
 show dX.p _=_
 unfold dX.p
 simp only[nI,Option.bind_some]
 rfl
theorem wA (c:Change):bW.aa (c,())=some (cA c,()):=by
 refine ah (k:=0) λk _=>(bW.ab k _).trans ?_
 grind [bW.p,cA,lX,pu]
theorem tB (x:Key):fj.aa (x,())=some (gv x,()):=by
 refine ah (k:=0) λk _=>(fj.ab k _).trans ?_
 grind [fj.p,gv,cr,iQ]
theorem zI (x:Key):fP.aa (x.1,x.2.1,())=some (gv x,()):=by
 refine ah (k:=0) λk _=>(fP.ab k _).trans ?_
 grind [fP.p,gv,cr,k8]
theorem un (x:Tx) (k0:Key) (h:List.length x.2.2.2.1<=maxLen):bY.aa (x,k0,())=some (cb x.2.2.2.1 k0,()):=by
 refine ah (k:=List.length x.2.2.2.1+1) λk hk=>(bY.ab k _).trans ?_
 have:=b_ (B:=λself v=>bY.B0 0 self (λz=>bY.Q0 0 (x,k0,()) z) (x,k0,()) v) x.2.2.2.1 (λ(_:Unit) (i:Int)=>i) (λ_ _ y=>if decide (y=k0) then .inl (true,()) else .inr ()) (λ_=>(false,())) (λ_ _=>True) h
  (λi hi s self _=>by
   grind [bY.b0,mI])
  (λ_ _ _ _ _ _=>trivial) (λs self _=>by
   show bY.b0 _ _ _ _=_
   unfold bY.b0
   simp only[Int.lt_irrefl,decide_false,cond_false]
   rfl) () trivial k (by omega)
 rw[ii] at this
 refine Eq.trans this ?_
 grind [cb]
theorem contains_eq (ks:List Key) (k0:Key) (h:ks.length<=maxLen):bz.aa (ks,k0,())=some (cb ks k0,()):=by
 have I4:cN.aa (ks,k0,())=some (jn (λy=>decide (k0=y)) 0 ks,()):=by
  refine ah (k:=ks.length+1) λk hk=>(cN.ab k _).trans ?_
  have:=b_ (B:=λself v=>cN.B0 0 self (λz=>cN.Q0 0 (ks,k0,()) z) (ks,k0,()) v) ks (λ(_:Unit) (i:Int)=>i) (λi _ y=>if decide (k0=y) then .inl ((i:Int),()) else .inr ()) (λ_=>((-1:Int),())) (λ_ _=>True) h
   (λi hi s self _=>by
    grind [cN.b0,mI])
   (λ_ _ _ _ _ _=>trivial) (λs self _=>by
    show cN.b0 _ _ _ _=_
    unfold cN.b0
    simp only[Int.lt_irrefl,decide_false,cond_false]
    rfl) () trivial k (by omega)
  rw[nK] at this
  exact this
 refine ah (k:=0) λk _=>(bz.ab k _).trans ?_
 grind [bz.p,xq,cb]
def tl (x:Tx):Prop:=List.length x.2.1<=1048576/\List.length x.2.2.1<=1048576/\List.length x.2.2.2.1<=1048576/\∀ c ∈ x.2.1,cl c
def iz (ks:List Key) (c:Change):Int:=if k9 c=0 then (if cb ks (cA c) then 0 else 8) else k9 c
def sr (n last:Int) (ms:List Int):Bool:=aX (λ_ last m=>if cr m last n then .inr m else .inl false) (λ_=>true) 0 ms last
def fR (ks:List Key) (i:Nat) (k:Key):Int:=if gv k then (if cb (ks.take i) k then 6 else 0) else 3
def iK (ks:List Key):Int:=aX (λi (_:Unit) k=>if fR ks i k=0 then .inr () else .inl (fR ks i k)) (λ_=>(0:Int)) 0 ks ()
def iL (x:Tx):Int:=if decide (8 < List.length x.2.2.1)||decide (12 < List.length x.2.2.2.1) then 2 else if sr (List.length x.2.1:Int) 0 x.2.2.1 then iK x.2.2.2.1 else 3
def pv (x:Tx):Int:=jJ (iz x.2.2.2.1) x.2.1
theorem zJ (n:Int) (E:Option (Int×Unit)):∀ (ms:List Int) (i:Nat) (last:Int),aX (λ_ last m=>if cr m last n then .inr m else .inl (some ((3:Int),()))) (λ_=>E) i ms last=if aX (λ_ last m=>if cr m last n then .inr m else .inl false) (λ_=>true) i ms last then E else some ((3:Int),())
 | [],_,_=>rfl
 | m::ms,i,last=>by
  simp only[aX]
  by_cases hb:cr m last n=true
  ·simp only[hb,if_true];exact zJ n E ms _ _
  ·simp[hb]
theorem AB (x:Tx) (h:tl x):d6.aa (x,())=some (pv x,()):=by
 obtain ⟨h1,Y,h3,h4⟩:=h
 refine ah (k:=List.length x.2.1+1) λk hk=>(d6.ab k _).trans ?_
 have:=b_ (B:=λself v=>d6.B0 0 self (λz=>d6.Q0 0 (x,()) z) (x,()) v) x.2.1 (λ(_:Unit) (i:Int)=>i) (λ_ _ c=>if iz x.2.2.2.1 c=0 then .inr () else .inl (iz x.2.2.2.1 c,())) (λ_=>(0,())) (λ_ _=>True) (by rw[ak];omega)
  (λi hi s self _=>by
   show d6.b0 _ _ _ _=_
   unfold d6.b0
   have aH:(i:Int) < (List.length x.2.1:Int):=by omega
   simp only[aH,decide_true,cond_true,Int.natCast_nonneg,if_true,Int.toNat_natCast,List.getElem?_eq_getElem hi,Option.bind_some,wz _ (h4 _ (List.getElem_mem hi)),sq]
   grind [un,ak,iz])
  (λ_ _ _ _ _ _=>trivial) (λs self _=>by
   show d6.b0 _ _ _ _=_
   unfold d6.b0
   simp only[Int.lt_irrefl,decide_false,cond_false]
   rfl) () trivial k (by omega)
 rw[vq (iz x.2.2.2.1) (λc=>(c,())) (λ_=>((0:Int),()))] at this
 refine Eq.trans this ?_
 grind [pv]
theorem FM {m last n:Int} (h:0<=last):(cr m 0 n&&decide (last<=m))=cr m last n:=by
 grind [cr]
theorem zK (x:Tx) (h:tl x):aT.aa (x,())=some (iL x,()):=by
 obtain ⟨h1,Y,h3,h4⟩:=h
 refine ah (k:=20) λk hk=>(aT.ab k _).trans ?_
 unfold aT.p iL
 by_cases hm:8 < List.length x.2.2.1
 ·grind
 have NU:¬ (8:Int) < (List.length x.2.2.1:Int):=by omega
 by_cases eF:12 < List.length x.2.2.2.1
 ·grind
 have Bm:¬ (12:Int) < (List.length x.2.2.2.1:Int):=by omega
 simp only[hm,NU,Bm,eF,decide_false,cond_false,Bool.or_self,Bool.false_eq_true,if_false]
 have second:aT.r1 k (x,()) (x,(0:Int))=some (iK x.2.2.2.1,()):=by
  have inner:∀ (self:(Tx×Int)->Option aT.Out) (e2:Unit->Option aT.Out) (i:Nat) (hi:i < List.length x.2.2.2.1),aT.r2 k self e2 (x,()) x (i:Int) (0:Int)=if cb (x.2.2.2.1.take i) (x.2.2.2.1)[i] then some ((6:Int),()) else self (x,ap ((i:Int)+1)):=λself e2 i hi=>by
   have dr:(x.2.2.2.1.take i).length=i:=by simp;omega
   have:=c9 (B:=λeD v=>aT.B2 k eD (λz=>aT.Q1 k self e2 (x,()) x (i:Int) z) (x,()) x (i:Int) v) (x.2.2.2.1.take i) (λ(_:Unit) (j:Int)=>j) (λ_ _ y=>if decide (y=(x.2.2.2.1)[i]) then .inl (some ((6:Int),())) else .inr ()) (λ_=>self (x,ap ((i:Int)+1))) (λ_ _=>True) (by rw[ak];omega)
    (λj hj s eD _=>by
     grind [aT.b2,mI])
    (λ_ _ _ _ _ _=>trivial) (λs eD _=>by
     show aT.b2 _ _ _ _ _ _=_
     unfold aT.b2
     simp only[dr,Int.lt_irrefl,decide_false,cond_false]
     rfl) () trivial k (by omega)
   rw[ii] at this
   exact this
  have:=b_ (B:=λself v=>aT.B1 k self (λz=>aT.Q2 k (x,()) z) (x,()) v) x.2.2.2.1 (λ(_:Unit) (i:Int)=>(x,i)) (λi _ y=>if fR x.2.2.2.1 i y=0 then .inr () else .inl (fR x.2.2.2.1 i y,())) (λ_=>(0,())) (λ_ _=>True) (by rw[ak];omega)
   (λi hi s self _=>by
    show aT.b1 _ _ _ _ _=_
    grind [aT.b1,fR,Int.toNat_natCast,tB])
   (λ_ _ _ _ _ _=>trivial) (λs self _=>by
    show aT.b1 _ _ _ _ _=_
    unfold aT.b1
    simp only[Int.lt_irrefl,decide_false,cond_false]
    rfl) () trivial k (by omega)
  refine Eq.trans this ?_
  unfold iK
  generalize Hq:x.2.2.2.1=ks
  have gen:∀ (f:Nat->Key->Int) (ys:List Key) (i:Nat),aX (λi (_:Unit) y=>if f i y=0 then .inr () else .inl (f i y,())) (λ_=>((0:Int),())) i ys ()=(aX (λi (_:Unit) y=>if f i y=0 then .inr () else .inl (f i y)) (λ_=>(0:Int)) i ys (),()):=by
   intro f ys
   induction ys <;> grind [aX]
  simp_all
 have:=c9 (B:=λself v=>aT.B0 k self (λz=>aT.Q0 k (x,()) z) (x,()) v) x.2.2.1 (λ(_:Int) (i:Int)=>i) (λi last m=>if cr m last (List.length x.2.1:Int) then .inr m else .inl (some ((3:Int),()))) (λ_=>some (iK x.2.2.2.1,()))
  (λi last=>0<=last/\(i=0->last=0)/\∀ y,0 < i->x.2.2.1[i - 1]?=some y->last=y) (by rw[ak];omega)
  (λi hi last self hI=>by
   obtain ⟨i1,i2,i3⟩:=hI
   show aT.b0 _ _ _ _=_
   unfold aT.b0
   have aH:(i:Int) < (List.length x.2.2.1:Int):=by omega
   simp only[aH,decide_true,cond_true,Int.natCast_nonneg,if_true,Int.toNat_natCast,List.getElem?_eq_getElem hi,Option.bind_some,iQ]
   generalize Lo:(x.2.2.1)[i]=m
   rw[<-FM i1]
   show (bif !cr m 0 (List.length x.2.1:Int) then _ else _)=_
   cases Gw:cr m 0 (List.length x.2.1:Int) with
   | false=>rfl
   | true=>
    have Pb:0<=m:=by
     grind [cr]
    simp only[Bool.not_true,cond_false,Bool.true_and]
    by_cases h0:i=0
    ·grind
    ·have Hr:i - 1 < List.length x.2.2.1:=by omega
     have hl:=i3 (x.2.2.1)[i - 1] (by omega) (List.getElem?_eq_getElem Hr)
     have hp:(0:Int) < (i:Int):=by omega
     simp only[hp,decide_true,cond_true,vB (show 0 < i by omega) (by rw[ak];omega),Int.natCast_nonneg,if_true,Int.toNat_natCast,List.getElem?_eq_getElem Hr,Option.bind_some]
     grind)
  (λi hi last Oj hI hs=>by
   grind [cr])
  (λlast self hI=>by
   show aT.b0 _ _ _ _=_
   unfold aT.b0
   simp only[Int.lt_irrefl,decide_false,cond_false]
   exact second) 0 ⟨Int.le_refl _,λ_=>rfl,λ_ h=>by omega⟩ k (by omega)
 refine Eq.trans this ?_
 unfold sr
 rw[zJ]
 grind
end OT
set_option linter.unusedVariables false
set_option linter.unusedSimpArgs false
namespace OT
open Go
def iM (x:Tx):Int:=if pv x=0 then iL x else pv x
theorem xr {α:Type} (c:Nat->α->Int):∀ (xs:List α) (i:Nat),aX (λi (_:Unit) y=>if c i y=0 then .inr () else .inl (c i y,())) (λ_=>((0:Int),())) i xs ()=(aX (λi (_:Unit) y=>if c i y=0 then .inr () else .inl (c i y)) (λ_=>(0:Int)) i xs (),())
 | [],_=>rfl
 | y::ys,i=>by simp only[aX];by_cases h0:c i y=0 <;> simp[h0,xr c ys (i+1)]
theorem nL {α:Type} (c:Nat->α->Int) (E:Option (Int×Unit)):∀ (xs:List α) (i:Nat),aX (λi (_:Unit) y=>if c i y=0 then .inr () else .inl (some (c i y,()))) (λ_=>E) i xs () =
  if aX (λi (_:Unit) y=>if c i y=0 then .inr () else .inl (c i y)) (λ_=>(0:Int)) i xs ()=0 then E else some (aX (λi (_:Unit) y=>if c i y=0 then .inr () else .inl (c i y)) (λ_=>(0:Int)) i xs (),())
 | [],_=>rfl
 | y::ys,i=>by simp only[aX];by_cases h0:c i y=0 <;> simp[h0,nL c E ys (i+1)]
theorem tC {α:Type} (c:α->Int):∀ (xs:List α) (i:Nat),aX (λ_ (_:Unit) y=>if c y=0 then .inr () else .inl (c y)) (λ_=>(0:Int)) i xs ()=jJ c xs
 | [],_=>rfl
 | y::ys,i=>by simp only[aX,jJ];by_cases h0:c y=0 <;> simp[h0,tC c ys (i+1)]
theorem CL (x:Tx) (h:tl x):bf.aa (x,())=some (iM x,()):=by
 obtain ⟨h1,Y,h3,h4⟩:=h
 refine ah (k:=1048577) λk hk=>(bf.ab k _).trans ?_
 have CM:List.length x.2.2.2.1<=12->bf.r2 k (x,()) (0:Int)=some (iK x.2.2.2.1,()):=λhl=>by
  have:=b_ (B:=λself v=>bf.B2 k self (λz=>bf.Q2 k (x,()) z) (x,()) v) x.2.2.2.1 (λ(_:Unit) (i:Int)=>i) (λi _ y=>if fR x.2.2.2.1 i y=0 then .inr () else .inl (fR x.2.2.2.1 i y,())) (λ_=>(0,())) (λ_ _=>True) (by rw[ak];omega)
   (λi hi s self _=>by
    grind [bf.b2,fR,zI,contains_eq,ak])
   (λ_ _ _ _ _ _=>trivial) (λs self _=>by
    show bf.b2 _ _ _ _=_
    unfold bf.b2
    simp only[Int.lt_irrefl,decide_false,cond_false]
    rfl) () trivial k (by omega)
  rw[xr (fR x.2.2.2.1)] at this
  exact this
 have second:List.length x.2.2.1<=8->List.length x.2.2.2.1<=12->bf.r1 k (x,()) ((0:Int),(0:Int))=some (if sr (List.length x.2.1:Int) 0 x.2.2.1 then iK x.2.2.2.1 else 3,()):=λhm hl=>by
  have:=c9 (B:=λself v=>bf.B1 k self (λz=>bf.Q1 k (x,()) z) (x,()) v) x.2.2.1 (λ(last:Int) (i:Int)=>(last,i)) (λ_ last m=>if cr m last (List.length x.2.1:Int) then .inr m else .inl (some ((3:Int),()))) (λ_=>some (iK x.2.2.2.1,())) (λ_ _=>True) (by rw[ak];omega)
   (λi hi last self _=>by
    grind [bf.b1,k8,cr])
   (λ_ _ _ _ _ _=>trivial) (λlast self _=>by
    show bf.b1 _ _ _ _=_
    unfold bf.b1
    simp only[Int.lt_irrefl,decide_false,cond_false]
    exact CM hl) 0 trivial k (by omega)
  rw[zJ] at this
  refine Eq.trans this ?_
  grind [sr]
 have after:bf.Q0 k (x,()) ()=some (iL x,()):=by
  show bf.q0 _ _ _=_
  grind [bf.q0,iL]
 have:=c9 (B:=λself v=>bf.B0 k self (λz=>bf.Q0 k (x,()) z) (x,()) v) x.2.1 (λ(_:Unit) (i:Int)=>i) (λ_ _ c=>if iz x.2.2.2.1 c=0 then .inr () else .inl (some (iz x.2.2.2.1 c,()))) (λ_=>some (iL x,())) (λ_ _=>True) (by rw[ak];omega)
  (λi hi s self _=>by
   show bf.b0 _ _ _ _=_
   unfold bf.b0
   have aH:(i:Int) < (List.length x.2.1:Int):=by omega
   simp only[aH,decide_true,cond_true,Int.natCast_nonneg,if_true,Int.toNat_natCast,List.getElem?_eq_getElem hi,Option.bind_some,sj _ (h4 _ (List.getElem_mem hi)),wA]
   grind [contains_eq,ak,iz])
  (λ_ _ _ _ _ _=>trivial) (λs self _=>by
   grind [bf.b0]) () trivial k (by omega)
 rw[nL (λ_=>iz x.2.2.2.1),tC] at this
 refine Eq.trans this ?_
 grind [iM,pv]
def c_ (xs:List Tx) (k:Key):Int:=match xs with
 | []=>0
 | x::xs=>if cb x.2.2.2.1 k then x.1 else c_ xs k
def fx (xs:List Tx):Prop:=xs.length<=1048576/\∀ x ∈ xs,tl x
theorem st (k:Key):∀ (xs:List Tx) (i:Nat),aX (λ_ (_:Unit) x=>if cb x.2.2.2.1 k then .inl (x.1,()) else .inr ()) (λ_=>((0:Int),())) i xs ()=(c_ xs k,())
 | [],_=>rfl
 | x::xs,i=>by simp only[aX,c_];cases cb x.2.2.2.1 k <;> simp[st k xs (i+1)]
theorem zL {x:Tx} (h:tl x):List.length x.2.2.2.1<=maxLen:=by rw[ak];have:=h.2.2.1;omega
theorem tD (xs:List Tx) (k0:Key) (h:fx xs):c6.aa (xs,k0,())=some (c_ xs k0,()):=by
 obtain ⟨h1,Y⟩:=h
 refine ah (k:=xs.length+1) λk hk=>(c6.ab k _).trans ?_
 have:=b_ (B:=λself v=>c6.B0 0 self (λz=>c6.Q0 0 (xs,k0,()) z) (xs,k0,()) v) xs (λ(_:Unit) (i:Int)=>i) (λ_ _ x=>if cb x.2.2.2.1 k0 then .inl (x.1,()) else .inr ()) (λ_=>(0,())) (λ_ _=>True) (by rw[ak];omega)
  (λi hi s self _=>by
   grind [c6.b0,un,zL])
  (λ_ _ _ _ _ _=>trivial) (λs self _=>by
   show c6.b0 _ _ _ _=_
   unfold c6.b0
   simp only[Int.lt_irrefl,decide_false,cond_false]
   rfl) () trivial k (by omega)
 rw[st] at this
 exact this
def eE (xs:List Tx):Int:=xs.foldl (λn x=>n+(List.length x.2.1:Int)) 0
theorem su (xs:List Tx) (h:fx xs):cw.aa (xs,())=some (eE xs,()):=by
 obtain ⟨h1,Y⟩:=h
 refine ah (k:=xs.length+1) λk hk=>(cw.ab k _).trans ?_
 have:=b_ (B:=λself v=>cw.B0 0 self (λz=>cw.Q0 0 (xs,()) z) (xs,()) v) xs (λ(n:Int) (i:Int)=>(n,i)) (λ_ n x=>.inr (n+(List.length x.2.1:Int))) (λn=>(n,())) (λi n=>0<=n/\n<=1048576*(i:Int)) (by rw[ak];omega)
  (λi hi n self hI=>by
   show cw.b0 _ _ _ _=_
   unfold cw.b0
   have aH:(i:Int) < (xs.length:Int):=by omega
   have hx:=(Y _ (List.getElem_mem hi)).1
   grind [dz])
  (λi hi n n' hI hs=>by
   injection hs with hs
   have hx:=(Y _ (List.getElem_mem hi)).1
   omega) (λs self _=>by
   show cw.b0 _ _ _ _=_
   unfold cw.b0
   simp only[Int.lt_irrefl,decide_false,cond_false]
   rfl) 0 (by omega) k (by omega)
 rw[gz] at this
 exact this
theorem oQ (xs:List Tx) (h:fx xs):cj.aa (xs,())=some (eE xs,()):=by
 obtain ⟨h1,Y⟩:=h
 refine ah (k:=xs.length+1) λk hk=>(cj.ab k _).trans ?_
 have:=b_ (B:=λself v=>cj.B0 0 self (λz=>cj.Q0 0 (xs,()) z) (xs,()) v) xs (λ(n:Int) (i:Int)=>(n,i)) (λ_ n x=>.inr (n+(List.length x.2.1:Int))) (λn=>(n,())) (λi n=>0<=n/\n<=1048576*(i:Int)) (by rw[ak];omega)
  (λi hi n self hI=>by
   show cj.b0 _ _ _ _=_
   unfold cj.b0
   have aH:(i:Int) < (xs.length:Int):=by omega
   have hx:=(Y _ (List.getElem_mem hi)).1
   grind [dz])
  (λi hi n n' hI hs=>by
   injection hs with hs
   have hx:=(Y _ (List.getElem_mem hi)).1
   omega) (λs self _=>by
   show cj.b0 _ _ _ _=_
   unfold cj.b0
   simp only[Int.lt_irrefl,decide_false,cond_false]
   rfl) 0 (by omega) k (by omega)
 rw[gz] at this
 exact this
def gT (xs:List Tx) (i:Nat) (x:Tx):Int:=if cr x.1 1 99 then (if 0 < i then (match xs[i - 1]? with
    | some y=>if x.1<=y.1 then 1 else iM x
    | none=>1) else iM x) else 3
def mJ (xs:List Tx):Int:=aX (λi (_:Unit) x=>if gT xs i x=0 then .inr () else .inl (gT xs i x)) (λ_=>(0:Int)) 0 xs ()
def flatK (xs:List Tx):List Key:=xs.flatMap λx=>x.2.2.2.1
def oR (xs:List Tx):Bool:=decide (flatK xs).Nodup
def cu (xs:List Tx):Int:=if 4 < xs.length then 2 else if mJ xs=0 then (if oR xs then (if 12 < eE xs then 2 else 0) else 7) else mJ xs
theorem lc (xs:List Tx) (h:mJ xs=0):∀ i (hi:i < xs.length),gT xs i xs[i]=0:=by
 have main:∀ (ys:List Tx) (j:Nat),(aX (λi (_:Unit) x=>if gT xs i x=0 then .inr () else .inl (gT xs i x)) (λ_=>(0:Int)) j ys ())=0->∀ i (hi:i < ys.length),gT xs (j+i) ys[i]=0:=by
  intro ys
  induction ys with
  | nil=>grind
  | cons y ys ih=>
   intro j hf i hi
   simp only[aX] at hf
   by_cases h0:gT xs j y=0
   ·rw[if_pos h0] at hf
    cases i with
    | zero=>simpa using h0
    | succ i=>
     have:=ih (j+1) hf i (by simpa using hi)
     grind
   grind
 intro i hi
 have:=main xs 0 h i hi
 grind
theorem oS {xs:List Tx} {i:Nat} {x:Tx} (h:gT xs i x=0):1<=x.1/\iM x=0/\∀ y,0 < i->xs[i - 1]?=some y->y.1 < x.1:=by
 grind [gT,cr]
theorem Es {xs:List Tx} (h:mJ xs=0):xs.Pairwise λx y=>x.1 < y.1:=by
 rw[List.pairwise_iff_getElem]
 intro i j hi hj iB
 have key:∀ d (hd:i+d+1 < xs.length),(xs[i]).1 < (xs[i+d+1]).1:=by
  intro d
  induction d with
  | zero=>
   intro hd
   exact (oS (lc xs h (i+1) hd)).2.2 xs[i] (by omega) (by simp[hi])
  | succ d ih=>
   intro hd
   have h1:=ih (by omega)
   have Y:=(oS (lc xs h (i+d+1+1) hd)).2.2 xs[i+d+1] (by omega) (by grind)
   grind
 have:=key (j - i - 1) (by omega)
 grind
theorem AC {ks:List Key} (h:iK ks=0):ks.Nodup:=by
 have main:∀ (ys:List Key) (j:Nat),(aX (λi (_:Unit) k=>if fR ks i k=0 then .inr () else .inl (fR ks i k)) (λ_=>(0:Int)) j ys ())=0->∀ i (hi:i < ys.length),fR ks (j+i) ys[i]=0:=by
  intro ys
  induction ys with
  | nil=>grind
  | cons y ys ih=>
   intro j hf i hi
   simp only[aX] at hf
   by_cases h0:fR ks j y=0
   ·rw[if_pos h0] at hf
    cases i with
    | zero=>simpa using h0
    | succ i=>
     have:=ih (j+1) hf i (by simpa using hi)
     grind
   grind
 rw[List.nodup_iff_pairwise_ne,List.pairwise_iff_getElem]
 intro i j hi hj iB e
 have h1:=main ks 0 h j hj
 rw[Nat.zero_add] at h1
 unfold fR at h1
 split at h1
 ·split at h1
  ·cases h1
  ·rename_i hn
   refine hn (cx.2 ?_)
   rw[<-e]
   exact List.mem_take_iff_getElem.2 ⟨i,by omega,rfl⟩
 ·cases h1
theorem FN {x:Tx} (h:iM x=0):(x.2.2.2.1:List Key).Nodup:=by
 grind [iM,iL,AC]
end OT
set_option linter.unusedVariables false
set_option linter.unusedSimpArgs false
namespace OT
open Go
def qa (xs:List Tx):Bool:=xs.all λx=>x.2.2.2.1.all λk=>decide (c_ xs k=x.1)
theorem FO {xs:List Tx} (hr:xs.Pairwise λx y=>x.1 < y.1) (hn:∀ x ∈ xs,(x.2.2.2.1:List Key).Nodup):qa xs=oR xs:=by
 have main:∀ (xs:List Tx),(xs.Pairwise λx y=>x.1 < y.1)->(∀ x ∈ xs,(x.2.2.2.1:List Key).Nodup)->((∀ x ∈ xs,∀ k ∈ (x.2.2.2.1:List Key),c_ xs k=x.1)↔(flatK xs).Nodup):=by
  intro xs
  induction xs with
  | nil=>grind [flatK]
  | cons x xs ih=>
   intro hr hn
   obtain ⟨h1,Y⟩:=List.pairwise_cons.1 hr
   have ih:=ih Y (λy hy=>hn y (by simp[hy]))
   have no:flatK (x::xs)=x.2.2.2.1++flatK xs:=by simp[flatK]
   rw[no,List.nodup_append]
   constructor
   ·intro iV
    have hd:∀ y ∈ xs,∀ k ∈ (y.2.2.2.1:List Key),k ∉ (x.2.2.2.1:List Key):=λy hy k hk hx=>by
     grind
    refine ⟨hn x (by simp),ih.1 λy hy k hk=>?_,λa ha b hb e=>?_⟩
    ·grind [c_]
    ·subst e
     obtain ⟨y,hy,hk⟩:=List.mem_flatMap.1 hb
     grind
   ·rintro ⟨g1,g2,g3⟩ y hy k hk
    grind [c_,flatK,cb]
 have hm:=main xs hr hn
 unfold qa oR
 rw[Bool.eq_iff_iff]
 simp_all
theorem zM (xs:List Tx) (h:fx xs):bv.aa (xs,())=some (qa xs,()):=by
 have ht:=h
 obtain ⟨h1,Y⟩:=h
 refine ah (k:=1048577) λk hk=>(bv.ab k _).trans ?_
 have inner:∀ (self:((List Tx)×Int)->Option bv.Out) (e0:Unit->Option bv.Out) (i:Nat) (hi:i < xs.length),bv.r1 k self e0 (xs,()) xs (i:Int) (0:Int)=if (xs[i]).2.2.2.1.any (λy=>!decide (c_ xs y=(xs[i]).1)) then some (false,()) else self (xs,ap ((i:Int)+1)):=λself e0 i hi=>by
  have NV:=Y _ (List.getElem_mem hi)
  have pw:=NV.2.2.1
  have:=c9 (B:=λeD v=>bv.B1 k eD (λz=>bv.Q0 k self e0 (xs,()) xs (i:Int) z) (xs,()) xs (i:Int) v) (xs[i]).2.2.2.1 (λ(_:Unit) (j:Int)=>j) (λ_ _ y=>if !decide (c_ xs y=(xs[i]).1) then .inl (some (false,())) else .inr ()) (λ_=>self (xs,ap ((i:Int)+1))) (λ_ _=>True) (by rw[ak];omega)
   (λj hj s eD _=>by
    show bv.b1 _ _ _ _ _ _=_
    unfold bv.b1
    grind [tD])
   (λ_ _ _ _ _ _=>trivial) (λs eD _=>by
    show bv.b1 _ _ _ _ _ _=_
    unfold bv.b1
    simp only[Int.natCast_nonneg,if_true,Int.toNat_natCast,List.getElem?_eq_getElem hi,Option.bind_some,Int.lt_irrefl,decide_false,cond_false]
    rfl) () trivial k (by omega)
  rw[ii] at this
  exact this
 have:=b_ (B:=λself v=>bv.B0 k self (λz=>bv.Q1 k (xs,()) z) (xs,()) v) xs (λ(_:Unit) (i:Int)=>(xs,i)) (λ_ _ x=>if x.2.2.2.1.all (λy=>decide (c_ xs y=x.1)) then .inr () else .inl (false,())) (λ_=>(true,())) (λ_ _=>True) (by rw[ak];omega)
  (λi hi s self _=>by
   show bv.b0 _ _ _ _ _=_
   grind [bv.b0])
  (λ_ _ _ _ _ _=>trivial) (λs self _=>by
   show bv.b0 _ _ _ _ _=_
   unfold bv.b0
   simp only[Int.lt_irrefl,decide_false,cond_false]
   rfl) () trivial k (by omega)
 rw[nA (λ(x:Tx)=>x.2.2.2.1.all (λy=>decide (c_ xs y=x.1))) (false,()) (λ_=>(true,()))] at this
 refine Eq.trans this ?_
 grind [qa]
def cL (S:List Key):List (Key×Bool):=S.map λk=>(k,true)
theorem AD {α:Type} (k:Ty) (e:k.den×α) (m:List (k.den×α)) (x:k.den):fH k (e::m) x=if k.eq x e.1 then some e.2 else fH k m x:=by
 grind [fH]
theorem CN {α:Type} (k:Ty) (m:List (k.den×α)) (x:k.den) (y:α) (h:∀ e ∈ m,k.eq x e.1=false):fI k m x y=m++[(x,y)]:=by
 grind [fI]
theorem tE (S:List Key) (k:Key):fH aA (cL S) k=if cb S k then some true else none:=by
 induction S with
 | nil=>rfl
 | cons s S ih=>
  refine (AD aA (s,true) (cL S) k).trans ?_
  grind [mI,cb]
theorem FQ (S:List Key) (k:Key):yB (fH aA (cL S) k) false=cb S k:=by
 grind [yB,tE]
theorem zN {S:List Key} {k:Key} (h:cb S k=false):fI aA (cL S) k true=cL (S++[k]):=by
 refine (CN aA (cL S) k true λe he=>?_).trans ?_
 ·obtain ⟨s,hs,rfl⟩:=List.mem_map.1 he
  grind [mI,cb]
 ·simp only[cL,List.map_append,List.map_cons,List.map_nil]
  rfl
def getM (m:List (Key×Bool)) (k:Key):Bool:=yB (fH aA m k) false
def ij (m:List (Key×Bool)) (k:Key):List (Key×Bool):=fI aA m k true
def jd:List (Key×Bool)->List Key->Option (List (Key×Bool))
 | m,[]=>some m
 | m,k::ks=>if getM m k then none else jd (ij m k) ks
theorem tF:∀ (m:List (Key×Bool)) (a b:List Key),jd m (a++b)=(jd m a).bind λm'=>jd m' b
 | m,[],b=>rfl
 | m,k::a,b=>by
  simp only[List.cons_append,jd]
  split
  ·rfl
  ·exact tF _ a b
theorem xt:∀ (ks S:List Key),S.Nodup->jd (cL S) ks=if (S++ks).Nodup then some (cL (S++ks)) else none
 | [],S,h=>by simp[jd,h]
 | k::ks,S,h=>by
  have hg:getM (cL S) k=cb S k:=FQ S k
  simp only[jd,hg]
  cases hh:cb S k with
  | true=>
   have:¬ (S++k::ks).Nodup:=λhn=>by
    rw[List.nodup_append] at hn
    exact hn.2.2 k (cx.1 hh) k (by simp) rfl
   simp[this]
  | false=>
   have hk:k ∉ S:=λhm=>by rw[cx.2 hm] at hh;cases hh
   simp only[Bool.false_eq_true,if_false]
   have hp:ij (cL S) k=cL (S++[k]):=zN hh
   rw[hp,xt ks (S++[k]) (by grind)]
   grind
theorem xu {O:Type} (bad:Option O) (E:List (Key×Bool)->Option O):∀ (ks:List Key) (i:Nat) (m:List (Key×Bool)),aX (λ_ m k=>if getM m k then .inl bad else .inr (ij m k)) E i ks m=match jd m ks with | none=>bad | some m'=>E m'
 | [],_,_=>rfl
 | k::ks,i,m=>by
  simp only[aX,jd]
  by_cases h:getM m k=true
  ·simp[h]
  ·simp only[h,if_false]
   exact xu bad E ks _ _
theorem vE {O:Type} (bad:Option O) (E:Option O):∀ (xs:List Tx) (i:Nat) (m:List (Key×Bool)),aX (λ_ m x=>match jd m x.2.2.2.1 with | none=>.inl bad | some m'=>.inr m') (λ_=>E) i xs m=match jd m (flatK xs) with | none=>bad | some _=>E
 | [],_,_=>rfl
 | x::xs,i,m=>by
  have no:flatK (x::xs)=x.2.2.2.1++flatK xs:=by simp[flatK]
  rw[no,tF]
  simp only[aX]
  cases h:jd m x.2.2.2.1 with
  | none=>rfl
  | some m'=>
   simp only[Option.bind_some]
   exact vE bad E xs _ _
theorem lY (xs:List Tx) (h:fx xs):av.aa (xs,())=some (cu xs,()):=by
 have ht:=h
 obtain ⟨h1,Y⟩:=h
 refine ah (k:=1048577) λk hk=>(av.ab k _).trans ?_
 unfold av.p cu
 by_cases h4:4 < xs.length
 ·grind
 have JY:¬ (4:Int) < (xs.length:Int):=by omega
 simp only[h4,JY,decide_false,cond_false,if_false]
 have last:av.Q2 k (xs,()) xs=some (if 12 < eE xs then 2 else 0,()):=by
  grind [av.q2,oQ]
 have inner:∀ (self:((List Tx)×(List (Key×Bool))×(List Tx)×Int×Int)->Option av.Out) (e2:List Tx->Option av.Out) (i:Nat) (hi:i < xs.length) (m:List (Key×Bool)),av.r2 k self e2 (xs,()) xs xs (xs.length:Int) (i:Int) (xs[i]).2.2.2.1 (List.length (xs[i]).2.2.2.1:Int) (m,(0:Int))=match jd m (xs[i]).2.2.2.1 with | none=>some ((7:Int),()) | some m'=>self (xs,m',xs,(xs.length:Int),ap ((i:Int)+1)):=λself e2 i hi m=>by
  have pw:=(Y _ (List.getElem_mem hi)).2.2.1
  have:=c9 (B:=λeD v=>av.B2 k eD (λz=>av.Q1 k self e2 (xs,()) xs xs (xs.length:Int) (i:Int) (xs[i]).2.2.2.1 (List.length (xs[i]).2.2.2.1:Int) z) (xs,()) xs xs (xs.length:Int) (i:Int) (xs[i]).2.2.2.1 (List.length (xs[i]).2.2.2.1:Int) v) (xs[i]).2.2.2.1 (λ(m:List (Key×Bool)) (j:Int)=>(m,j)) (λ_ m y=>if getM m y then .inl (some ((7:Int),())) else .inr (ij m y)) (λm=>self (xs,m,xs,(xs.length:Int),ap ((i:Int)+1))) (λ_ _=>True) (by rw[ak];omega)
   (λj hj s eD _=>by
    grind [av.b2,getM,ij])
   (λ_ _ _ _ _ _=>trivial) (λs eD _=>by
    show av.b2 _ _ _ _ _ _ _ _ _ _=_
    unfold av.b2
    simp only[Int.lt_irrefl,decide_false,cond_false]
    rfl) m trivial k (by omega)
  rw[xu] at this
  exact this
 have apart:av.Q0 k (xs,()) ()=some (if oR xs then (if 12 < eE xs then 2 else 0) else 7,()):=by
  have:=c9 (B:=λself v=>av.B1 k self (λz=>av.Q2 k (xs,()) z) (xs,()) v) xs (λ(m:List (Key×Bool)) (i:Int)=>(xs,m,xs,(xs.length:Int),i)) (λ_ m x=>match jd m x.2.2.2.1 with | none=>.inl (some ((7:Int),())) | some m'=>.inr m') (λ_=>some (if 12 < eE xs then 2 else 0,())) (λ_ _=>True) (by rw[ak];omega)
   (λi hi m self _=>by
    show av.b1 _ _ _ _ _=_
    grind [av.b1])
   (λ_ _ _ _ _ _=>trivial) (λs self _=>by
    show av.b1 _ _ _ _ _=_
    grind [av.b1]) (cL []) trivial k (by omega)
  rw[vE,xt _ _ List.nodup_nil] at this
  refine Eq.trans this ?_
  grind [oR]
 have:=c9 (B:=λself v=>av.B0 k self (λz=>av.Q0 k (xs,()) z) (xs,()) v) xs (λ(_:Unit) (i:Int)=>i) (λi _ x=>if gT xs i x=0 then .inr () else .inl (some (gT xs i x,()))) (λ_=>some (if oR xs then (if 12 < eE xs then 2 else 0) else 7,())) (λ_ _=>True) (by rw[ak];omega)
  (λi hi s self _=>by
   show av.b0 _ _ _ _=_
   unfold av.b0 gT
   have aH:(i:Int) < (xs.length:Int):=by omega
   simp only[aH,decide_true,cond_true,Int.natCast_nonneg,if_true,Int.toNat_natCast,List.getElem?_eq_getElem hi,Option.bind_some,By,CL _ (Y _ (List.getElem_mem hi))]
   grind [cr,vB,ak,Int.toNat_natCast])
  (λ_ _ _ _ _ _=>trivial) (λs self _=>by
   grind [av.b0]) () trivial k (by omega)
 rw[nL (gT xs)] at this
 refine Eq.trans this ?_
 grind [mJ]
theorem vF (xs:List Tx) (h:fx xs):bZ.aa (xs,())=some (cu xs,()):=by
 have ht:=h
 obtain ⟨h1,Y⟩:=h
 refine ah (k:=1048577) λk hk=>(bZ.ab k _).trans ?_
 unfold bZ.p cu
 by_cases h4:4 < xs.length
 ·grind
 have JY:¬ (4:Int) < (xs.length:Int):=by omega
 simp only[h4,JY,decide_false,cond_false,if_false]
 have last:bZ.Q0 k (xs,()) ()=some (if qa xs then (if 12 < eE xs then 2 else 0) else 7,()):=by
  grind [bZ.q0,zM,su]
 have:=c9 (B:=λself v=>bZ.B0 k self (λz=>bZ.Q0 k (xs,()) z) (xs,()) v) xs (λ(_:Unit) (i:Int)=>i) (λi _ x=>if gT xs i x=0 then .inr () else .inl (some (gT xs i x,()))) (λ_=>some (if qa xs then (if 12 < eE xs then 2 else 0) else 7,())) (λ_ _=>True) (by rw[ak];omega)
  (λi hi s self _=>by
   show bZ.b0 _ _ _ _=_
   unfold bZ.b0 gT
   have aH:(i:Int) < (xs.length:Int):=by omega
   simp only[aH,decide_true,cond_true,Int.natCast_nonneg,if_true,Int.toNat_natCast,List.getElem?_eq_getElem hi,Option.bind_some,iQ,AB _ (Y _ (List.getElem_mem hi)),zK _ (Y _ (List.getElem_mem hi))]
   have hj:(bif !decide (pv xs[i]=0) then some (pv xs[i],()) else bif !decide (iL xs[i]=0) then some (iL xs[i],()) else self (ap ((i:Int)+1)))=match (generalizing:=false) (if iM xs[i]=0 then .inr () else .inl (some (iM xs[i],())):Sum (Option (Int×Unit)) Unit) with | .inl o=>o | .inr _=>self (ap ((i:Int)+1)):=by
    grind [iM]
   grind [cr,vB,ak,Int.toNat_natCast])
  (λ_ _ _ _ _ _=>trivial) (λs self _=>by
   grind [bZ.b0]) () trivial k (by omega)
 rw[nL (gT xs)] at this
 refine Eq.trans this ?_
 show (if mJ xs=0 then _ else some (mJ xs,()))=_
 by_cases he:mJ xs=0
 ·rw[if_pos he,if_pos he,FO (Es he) (λx hx=>by
   obtain ⟨i,hi,rfl⟩:=List.mem_iff_getElem.1 hx
   exact FN (oS (lc xs he i hi)).2.1)]
 grind
end OT
set_option linter.unusedVariables false
set_option linter.unusedSimpArgs false
namespace OT
open Go
def dd (S:List Key) (ks:List Key):List Key:=ks.foldl (λS k=>if cb S k then S else S++[k]) S
def gw (rows:List Row):List Key:=rows.map λr=>(r.1,r.2.1,())
def dw (rows:List Row) (xs:List Tx):List Key:=gw rows++flatK xs
theorem AE {α:Type} (k:Ty) (m:List (k.den×α)) (x:k.den) (y:α) {i:Nat} (h:m.findIdx? (λe=>k.eq x e.1)=some i):fI k m x y=m.set i (x,y):=by
 grind [fI]
theorem Et {S:List Key} {k:Key} (h:cb S k=true):ij (cL S) k=cL S:=by
 have key:∀ (S:List Key) (i:Nat),(cL S).findIdx? (λe=>Ty.eq aA k e.1)=some i->(cL S)[i]?=some (k,true):=by
  intro S i hi
  have h1:=List.findIdx?_eq_some_iff_findIdx_eq.1 hi
  grind [cL,mI]
 show fI aA (cL S) k true=cL S
 cases hf:(cL S).findIdx? (λe=>Ty.eq aA k e.1) with
 | none=>
  exfalso
  have h1:fH aA (cL S) k=none:=by
   unfold fH
   have Y:=List.findIdx?_eq_none_iff.1 hf
   have:(cL S).find? (λe=>Ty.eq aA k e.1)=none:=List.find?_eq_none.2 λe he=>by grind
   exact congrArg _ this
  grind [tE]
 | some i=>
  have h1:=key S i hf
  have aH:=(List.getElem?_eq_some_iff.1 h1).1
  refine (AE aA (cL S) k true hf).trans ?_
  show (cL S).set i (k,true)=cL S
  grind [List.set_getElem_self]
theorem zO (S:List Key) (k:Key):ij (cL S) k=cL (if cb S k then S else S++[k]):=by
 cases h:cb S k with
 | true=>grind [Et]
 | false=>simp only[Bool.false_eq_true,if_false];exact zN h
theorem BA:∀ (ks S:List Key),ks.foldl ij (cL S)=cL (dd S ks)
 | [],S=>rfl
 | k::ks,S=>by
  rw[List.foldl_cons,zO,BA ks]
  rfl
theorem xv (S a b:List Key):dd S (a++b)=dd (dd S a) b:=List.foldl_append
theorem qb:∀ (ks S:List Key) (k:Key),k ∈ dd S ks↔k ∈ S\/k ∈ ks
 | [],S,k=>by simp[dd]
 | x::ks,S,k=>by
  show k ∈ dd (if cb S x then S else S++[x]) ks↔_
  rw[qb ks]
  grind [cb]
theorem Eu:∀ (ks S:List Key),S.length<=(dd S ks).length
 | [],S=>Nat.le_refl _
 | x::ks,S=>by
  refine Nat.le_trans ?_ (Eu ks (if cb S x then S else S++[x]))
  grind
theorem zP:∀ (ks S:List Key),(S++ks).Nodup->dd S ks=S++ks
 | [],S,_=>by simp[dd]
 | x::ks,S,h=>by
  have hx:cb S x=false:=by
   grind [cb]
  show dd (if cb S x then S else S++[x]) ks=_
  rw[hx]
  simp only[Bool.false_eq_true,if_false]
  rw[zP ks (S++[x]) (by simpa using h)]
  simp
theorem AF {rows:List Row} (h:up rows):(gw rows).Nodup:=by
 unfold gw
 rw[List.nodup_iff_pairwise_ne,List.pairwise_map]
 refine h.imp λ{a b} zQ e=>?_
 grind [rk,kN]
theorem px {rows:List Row} {xs:List Tx} (h:up rows):rows.length<=(dd [] (dw rows xs)).length:=by
 unfold dw
 rw[xv,zP (gw rows) [] (by simpa using AF h)]
 refine Nat.le_trans ?_ (Eu _ _)
 simp[gw]
def sv:List Key->List Key->Nat
 | _,[]=>0
 | S,k::ks=>(if cb S k then 0 else 1)+sv (S++[k]) ks
theorem wB:∀ (ks S T:List Key),(∀ k,k ∈ S↔k ∈ T)->(dd S ks).length=S.length+sv T ks
 | [],S,T,_=>rfl
 | x::ks,S,T,h=>by
  have hx:cb S x=cb T x:=by grind [cx]
  show (dd (if cb S x then S else S++[x]) ks).length=_
  simp only[sv,<- hx]
  cases hh:cb S x with
  | true=>
   simp only[if_true]
   rw[wB ks S (T++[x]) λk=>?_]
   ·omega
   ·simp only[List.mem_append,List.mem_singleton,<- h k]
    constructor
    ·exact .inl
    ·rintro (h1 | h1)
     ·exact h1
     ·subst h1;exact cx.1 hh
  | false=>
   simp only[Bool.false_eq_true,if_false]
   rw[wB ks (S++[x]) (T++[x]) λk=>by grind]
   grind
def fS (rows:List Row) (xs:List Tx):Nat:=(dd [] (dw rows xs)).length
theorem xw (rows:List Row) (xs:List Tx) (hr:rows.length<=1048576) (h:fx xs):aV.aa (rows,xs,())=some (cL (dd [] (dw rows xs)),()):=by
 obtain ⟨h1,Y⟩:=h
 refine ah (k:=1048577) λk hk=>(aV.ab k _).trans ?_
 have inner:∀ (self:((List (Key×Bool))×(List Tx)×Int×Int)->Option aV.Out) (e2:(List (Key×Bool))->Option aV.Out) (i:Nat) (hi:i < xs.length) (m:List (Key×Bool)),aV.r2 k self e2 (rows,xs,()) xs (xs.length:Int) (i:Int) (xs[i]).2.2.2.1 (List.length (xs[i]).2.2.2.1:Int) (m,(0:Int))=self ((xs[i]).2.2.2.1.foldl ij m,xs,(xs.length:Int),ap ((i:Int)+1)):=λself e2 i hi m=>by
  have pw:=(Y _ (List.getElem_mem hi)).2.2.1
  have:=c9 (B:=λeD v=>aV.B2 k eD (λz=>aV.Q1 k self e2 (rows,xs,()) xs (xs.length:Int) (i:Int) (xs[i]).2.2.2.1 (List.length (xs[i]).2.2.2.1:Int) z) (rows,xs,()) xs (xs.length:Int) (i:Int) (xs[i]).2.2.2.1 (List.length (xs[i]).2.2.2.1:Int) v) (xs[i]).2.2.2.1 (λ(m:List (Key×Bool)) (j:Int)=>(m,j)) (λ_ m y=>.inr (ij m y)) (λm=>self (m,xs,(xs.length:Int),ap ((i:Int)+1))) (λ_ _=>True) (by rw[ak];omega)
   (λj hj s eD _=>by
    show aV.b2 _ _ _ _ _ _ _ _ _=_
    unfold aV.b2
    have aH:(j:Int) < (List.length (xs[i]).2.2.2.1:Int):=by omega
    simp only[aH,decide_true,cond_true,Int.natCast_nonneg,if_true,Int.toNat_natCast,List.getElem?_eq_getElem hj,Option.bind_some]
    rfl)
   (λ_ _ _ _ _ _=>trivial) (λs eD _=>by
    show aV.b2 _ _ _ _ _ _ _ _ _=_
    unfold aV.b2
    simp only[Int.lt_irrefl,decide_false,cond_false]
    rfl) m trivial k (by omega)
  rw[gz (g:=ij)] at this
  exact this
 have second:∀ m,aV.r1 k (rows,xs,()) (m,xs,(xs.length:Int),(0:Int))=some ((flatK xs).foldl ij m,()):=λm=>by
  have:=b_ (B:=λself v=>aV.B1 k self (λz=>aV.Q2 k (rows,xs,()) z) (rows,xs,()) v) xs (λ(m:List (Key×Bool)) (i:Int)=>(m,xs,(xs.length:Int),i)) (λ_ m x=>.inr (x.2.2.2.1.foldl ij m)) (λm=>(m,())) (λ_ _=>True) (by rw[ak];omega)
   (λi hi m self _=>by
    show aV.b1 _ _ _ _ _=_
    grind [aV.b1])
   (λ_ _ _ _ _ _=>trivial) (λs self _=>by
    show aV.b1 _ _ _ _ _=_
    unfold aV.b1
    simp only[Int.lt_irrefl,decide_false,cond_false]
    rfl) m trivial k (by omega)
  rw[gz (g:=λm (x:Tx)=>x.2.2.2.1.foldl ij m)] at this
  refine Eq.trans this ?_
  have:∀ (xs:List Tx) (m:List (Key×Bool)),xs.foldl (λm (x:Tx)=>x.2.2.2.1.foldl ij m) m=(flatK xs).foldl ij m:=by
   intro xs
   induction xs <;> grind [flatK]
  rw[this]
 have:=c9 (B:=λself v=>aV.B0 k self (λz=>aV.Q0 k (rows,xs,()) z) (rows,xs,()) v) rows (λ(m:List (Key×Bool)) (i:Int)=>(m,i)) (λ_ m r=>.inr (ij m (r.1,r.2.1,()))) (λm=>some ((flatK xs).foldl ij m,())) (λ_ _=>True) (by rw[ak];omega)
  (λi hi m self _=>by
   show aV.b0 _ _ _ _=_
   unfold aV.b0
   have aH:(i:Int) < (rows.length:Int):=by omega
   simp only[aH,decide_true,cond_true,Int.natCast_nonneg,if_true,Int.toNat_natCast,List.getElem?_eq_getElem hi,Option.bind_some]
   rfl)
  (λ_ _ _ _ _ _=>trivial) (λs self _=>by
   show aV.b0 _ _ _ _=_
   unfold aV.b0
   simp only[Int.lt_irrefl,decide_false,cond_false]
   exact second s) (cL []) trivial k (by omega)
 rw[gz (g:=λm (r:Row)=>ij m (r.1,r.2.1,()))] at this
 refine Eq.trans this ?_
 have e1:rows.foldl (λm (r:Row)=>ij m (r.1,r.2.1,())) (cL [])=(gw rows).foldl ij (cL []):=by unfold gw;rw[List.foldl_map]
 grind [BA,dw]
theorem tG {O:Type} (x:Key) (E:Bool->Option O):∀ (ys:List Key) (j:Nat) (b:Bool),aX (λ_ b y=>if b then .inr (!decide (y=x)) else .inl (E false)) E j ys b=if b then E (!cb ys x) else E false
 | [],_,b=>by cases b <;> rfl
 | y::ys,j,b=>by
  cases b with
  | false=>simp[aX]
  | true=>
   simp only[aX,if_true]
   rw[tG x E ys]
   grind [cb]
theorem zR {O:Type} (all:List Key) (E:Int->O):∀ (ys pre:List Key) (n:Int),all=pre++ys->aX (λi n x=>.inr (if cb (all.take i) x then n else n+1)) E pre.length ys n=E (n+(sv pre ys:Int))
 | [],pre,n,_=>by simp[aX,sv]
 | y::ys,pre,n,h=>by
  simp only[aX]
  have ht:all.take pre.length=pre:=by rw[h];simp
  rw[ht]
  have:=zR all E ys (pre++[y]) (if cb pre y then n else n+1) (by rw[h];simp)
  grind [sv]
def oT (k:Key):List Key:=if k.2.1=0 then [] else [k]
def kF (rows:List Row) (xs:List Tx) (k:Key):Nat:=(dd [] (dw rows xs++oT k)).length
theorem zS (rows:List Row) (xs:List Tx) (kk:Key) (hr:rows.length<=1048576) (hx:xs.length<=1000) (h:∀ x ∈ xs,List.length x.2.2.2.1<=1000):aI.aa (rows,xs,kk,())=some ((kF rows xs kk:Int),()):=by
 refine ah (k:=3000000) λk hk=>(aI.ab k _).trans ?_
 have no:(flatK xs).length<=1000*xs.length:=by
  clear hx
  induction xs <;> grind [flatK]
 have CM:∀ all:List Key,all.length<=2100000->aI.r2 k (rows,xs,kk,()) (all,(0:Int),(0:Int))=some ((sv [] all:Int),()):=λall iV=>by
  have inner:∀ (self:((List Key)×Int×Int)->Option aI.Out) (e4:Int->Option aI.Out) (i:Nat) (hi:i < all.length) (n:Int),aI.r3 k self e4 (rows,xs,kk,()) all n (i:Int) (true,(0:Int))=if cb (all.take i) all[i] then self (all,n,ap ((i:Int)+1)) else self (all,ap (n+1),ap ((i:Int)+1)):=λself e4 i hi n=>by
   have dr:(all.take i).length=i:=by simp;omega
   have:=c9 (B:=λeD v=>aI.B3 k eD (λz=>aI.Q2 k self e4 (rows,xs,kk,()) all n (i:Int) z) (rows,xs,kk,()) all n (i:Int) v) (all.take i) (λ(b:Bool) (j:Int)=>(b,j)) (λ_ b y=>if b then .inr (!decide (y=all[i])) else .inl (if false then self (all,ap (n+1),ap ((i:Int)+1)) else self (all,n,ap ((i:Int)+1)))) (λb=>if b then self (all,ap (n+1),ap ((i:Int)+1)) else self (all,n,ap ((i:Int)+1))) (λ_ _=>True) (by rw[ak];omega)
    (λj hj b eD _=>by
     show aI.b3 _ _ _ _ _ _ _=_
     unfold aI.b3
     rw[dr] at hj
     have aH:(j:Int) < (i:Int):=by omega
     have GY:j < all.length:=by omega
     have c1:(0:Int)<=(j:Int)/\(j:Int) < (all.length:Int):=by omega
     have c2:(0:Int)<=(i:Int)/\(i:Int) < (all.length:Int):=by omega
     simp only[aH,c1,c2,and_self,decide_true,cond_true,if_true,Int.toNat_natCast,List.getElem?_eq_getElem GY,List.getElem?_eq_getElem hi,Option.bind_some,mI,List.getElem_take]
     cases b <;> rfl)
    (λ_ _ _ _ _ _=>trivial) (λb eD _=>by
     show aI.b3 _ _ _ _ _ _ _=_
     unfold aI.b3
     simp only[dr,Int.lt_irrefl,decide_false,cond_false]
     cases b <;> rfl) true trivial k (by omega)
   have e:=tG all[i] (λb=>if b then self (all,ap (n+1),ap ((i:Int)+1)) else self (all,n,ap ((i:Int)+1))) (all.take i) 0 true
   refine (Eq.trans this e).trans ?_
   grind
  have:=b_ (B:=λself v=>aI.B2 k self (λz=>aI.Q3 k (rows,xs,kk,()) z) (rows,xs,kk,()) v) all (λ(n:Int) (i:Int)=>(all,n,i)) (λi n x=>.inr (if cb (all.take i) x then n else n+1)) (λn=>(n,())) (λi n=>0<=n/\n<=(i:Int)) (by rw[ak];omega)
   (λi hi n self hI=>by
    show aI.b2 _ _ _ _ _=_
    grind [aI.b2,dz])
   (λi hi n n' hI hs=>by
    grind) (λs self _=>by
    show aI.b2 _ _ _ _ _=_
    unfold aI.b2
    simp only[Int.lt_irrefl,decide_false,cond_false]
    rfl) 0 (by omega) k (by omega)
  have e:=zR all (λn=>(n,())) all [] 0 rfl
  refine (Eq.trans this (congrArg some e)).trans ?_
  rw[Int.zero_add]
 have second:aI.r1 k (rows,xs,kk,()) (gw rows,(0:Int))=some ((sv [] (dw rows xs++oT kk):Int),()):=by
  have rp:(gw rows).length=rows.length:=by simp[gw]
  have:=c9 (B:=λself v=>aI.B1 k self (λz=>aI.Q1 k (rows,xs,kk,()) z) (rows,xs,kk,()) v) xs (λ(s:List Key) (i:Int)=>(s,i)) (λ_ s x=>.inr (s++x.2.2.2.1)) (λs=>aI.r2 k (rows,xs,kk,()) (s++oT kk,(0:Int),(0:Int))) (λi s=>s.length<=1048576+1000*i) (by rw[ak];omega)
   (λi hi s self hI=>by
    grind [aI.b1,dA,Int.natCast_nonneg])
   (λi hi s s' hI hs=>by
    grind) (λs self hI=>by
    show aI.b1 _ _ _ _=_
    unfold aI.b1
    simp only[Int.lt_irrefl,decide_false,cond_false]
    show aI.q1 _ _ _=_
    grind [aI.q1,oT,dA]) (gw rows) (by omega) k (by omega)
  rw[gz (g:=λs (x:Tx)=>s++x.2.2.2.1)] at this
  refine Eq.trans this ?_
  have e:∀ (xs:List Tx) (s:List Key),xs.foldl (λs (x:Tx)=>s++x.2.2.2.1) s=s++flatK xs:=by
   intro xs
   induction xs <;> grind [flatK]
  rw[e]
  have hex:(oT kk).length<=1:=by grind [oT]
  exact CM _ (by grind)
 have:=c9 (B:=λself v=>aI.B0 k self (λz=>aI.Q0 k (rows,xs,kk,()) z) (rows,xs,kk,()) v) rows (λ(s:List Key) (i:Int)=>(s,i)) (λ_ s r=>.inr (s++[(r.1,r.2.1,())])) (λs=>aI.r1 k (rows,xs,kk,()) (s,(0:Int))) (λi s=>s.length=i) (by rw[ak];omega)
  (λi hi s self hI=>by
   grind [aI.b0,dA,Int.natCast_nonneg])
  (λi hi s s' hI hs=>by grind) (λs self _=>by
   show aI.b0 _ _ _ _=_
   unfold aI.b0
   simp only[Int.lt_irrefl,decide_false,cond_false]
   rfl) [] rfl k (by omega)
 rw[gz (g:=λs (r:Row)=>s++[(r.1,r.2.1,())])] at this
 have e:∀ (rows:List Row) (s:List Key),rows.foldl (λs (r:Row)=>s++[(r.1,r.2.1,())]) s=s++gw rows:=by
  intro rows
  induction rows <;> grind [gw]
 rw[e,List.nil_append,second] at this
 refine Eq.trans this ?_
 have:=wB (dw rows xs++oT kk) [] [] (λ_=>Iff.rfl)
 grind [kF]
theorem Ev {ks:List Key} (h:iK ks=0):∀ k ∈ ks,gv k=true:=by
 have main:∀ (ys:List Key) (j:Nat),(aX (λi (_:Unit) k=>if fR ks i k=0 then .inr () else .inl (fR ks i k)) (λ_=>(0:Int)) j ys ())=0->∀ y ∈ ys,gv y=true:=by
  intro ys
  induction ys <;> grind [aX,fR]
 exact main ks 0 h
structure j0 (xs:List Tx):Prop where
 len:xs.length<=4
 ch:∀ x ∈ xs,∀ c ∈ (x.2.1:List Change),eM c=0
 locks:∀ x ∈ xs,List.length x.2.2.2.1<=12
 qZ:∀ x ∈ xs,List.length x.2.1<=12
 keys:∀ x ∈ xs,∀ k ∈ (x.2.2.2.1:List Key),gv k=true
theorem mK {α:Type} {c:α->Int}:∀ {xs:List α},jJ c xs=0->∀ x ∈ xs,c x=0
 | [],_,_,h=>by cases h
 | y::ys,h,x,hx=>by
  simp only[jJ] at h
  split at h
  ·rcases List.mem_cons.1 hx with e | e
   ·subst e;assumption
   ·exact mK h x e
  grind
theorem BB:∀ (xs:List Tx) (n:Int),0<=n->n<=xs.foldl (λn x=>n+(List.length x.2.1:Int)) n/\∀ x ∈ xs,(List.length x.2.1:Int)<=xs.foldl (λn x=>n+(List.length x.2.1:Int)) n
 | [],n,h=>⟨Int.le_refl _,λx hx=>by cases hx⟩
 | y::ys,n,h=>by
  obtain ⟨h1,Y⟩:=BB ys (n+(List.length y.2.1:Int)) (by omega)
  grind
theorem gp {xs:List Tx} (h:cu xs=0):j0 xs:=by
 unfold cu at h
 split at h
 ·cases h
 ·rename_i hl
  split at h
  ·rename_i he
   split at h
   ·split at h
    ·cases h
    ·rename_i hc
     have each:∀ x ∈ xs,iM x=0:=λx hx=>by
      obtain ⟨i,hi,rfl⟩:=List.mem_iff_getElem.1 hx
      exact (oS (lc xs he i hi)).2.1
     refine ⟨by omega,λx hx c Ls=>?_,λx hx=>?_,λx hx=>?_,λx hx=>?_⟩
     ·have h1:=each x hx
      unfold iM at h1
      split at h1
      ·rename_i hu
       have Y:=mK hu c Ls
       grind [iz,k9]
      grind
     ·grind [iM,iL]
     ·have:=(BB xs 0 (Int.le_refl _)).2 x hx
      grind [eE]
     grind [iM,iL,Ev]
   ·cases h
  grind
end OT
set_option linter.unusedVariables false
set_option linter.unusedSimpArgs false
namespace OT
open Go
def gc (c:Change):Change:=(c.2.2.1,c.2.2.2.1,c.1,c.2.1,())
def dC (cs:List Change):List Change:=cs.reverse.map gc
theorem nU {cs:List Change} {c:Change} (h:c ∈ dC cs):∃ d ∈ cs,c=gc d:=by
 grind [dC]
theorem Id {c:Change} (h:eM c=0):eM (gc c)=0:=by
 grind [eM,gc,sameKey]
theorem zT (cs:List Change) (hl:cs.length<=1048576) {O:Type} {B:((List Change×Int)->Option O)->(List Change×Int)->Option O} {E:List Change->Option O}
  (dy:∀ (m:Nat) (hm:m < cs.length) acc self,acc.length<=1048576->B self (acc,(m:Int))=self (acc++[gc cs[m]],ap ((m:Int) - 1))) (qQ:∀ acc self,B self (acc,(-1:Int))=E acc) :
  ∀ k,cs.length < k->au B k ([],ap ((cs.length:Int) - 1))=E (dC cs):=by
 have main:∀ (m:Nat) (acc:List Change),m<=cs.length->acc.length+m<=cs.length->∀ k,m < k->au B k (acc,(m:Int) - 1)=E (acc++(cs.take m).reverse.map gc):=by
  intro m
  induction m with
  | zero=>
   intro acc _ _ k hk
   cases k <;> grind [au]
  | succ m ih=>
   intro acc hm ha k hk
   cases k with
   | zero=>omega
   | succ k=>
    show B (au B k) _=_
    have e:((m+1:Nat):Int) - 1=(m:Int):=by omega
    rw[e,dy m (by omega) acc _ (by omega),dz (by omega),ih _ (by omega) (by simp;omega) k (by omega),List.take_succ_eq_append_getElem (by omega),List.reverse_append,List.map_append,List.append_assoc]
    rfl
 grind [dz,dC]
theorem CO (cs:List Change) (hl:cs.length<=1048576):ey.aa (cs,())=some (dC cs,()):=by
 refine ah (k:=cs.length+1) λk hk=>(ey.ab k _).trans ?_
 refine zT cs hl (B:=λself v=>ey.B0 0 self (λz=>ey.Q0 0 (cs,()) z) (cs,()) v) (E:=λz=>some (z,())) (λm hm acc self ha=>?_) (λacc self=>?_) k (by omega)
 ·grind [ey.b0,gc,dA]
 ·show ey.b0 _ _ _ _=_
  unfold ey.b0
  rfl
def cE:List Row->List Change->Option (List Row)
 | s,[]=>some s
 | s,c::cs=>if ja s c then cE (dI s c) cs else none
theorem back_append:∀ (a b:List Change) (s:List Row),cE s (a++b)=(cE s a).bind λt=>cE t b
 | [],b,s=>rfl
 | c::a,b,s=>by
  simp only[List.cons_append,cE]
  split
  ·exact back_append a b _
  ·rfl
theorem mY:∀ (cs:List Change) (s t:List Row),Good s->(∀ c ∈ cs,eM c=0)->cE s cs=some t->Good t/\t.length<=s.length+cs.length
 | [],s,t,h,_,hb=>by injection hb with hb;grind
 | c::cs,s,t,h,hc,hb=>by
  simp only[cE] at hb
  split at hb
  ·have h1:=mY cs (dI s c) t (fD h (hc c (by simp))) (λd hd=>hc d (by simp[hd])) hb
   grind [oN]
  ·cases hb
theorem zU {O α:Type} {f:Nat->Unit->α->Sum O Unit} {fin:Unit->O}:∀ (xs:List α) (j:Nat),(∀ i (hi:i < xs.length),f (j+i) () xs[i]=.inr ())->aX f fin j xs ()=fin ()
 | [],_,_=>rfl
 | x::xs,j,h=>by
  have h0:=h 0 (by simp)
  simp only[Nat.add_zero,List.getElem_cons_zero] at h0
  simp only[aX,h0]
  exact zU xs (j+1) λi hi=>by
   have:=h (i+1) (by simp;omega)
   grind
theorem q9 {xs:List Row} (h:Good xs) (hl:xs.length<=60):dQ xs=0:=by
 unfold dQ
 rw[if_neg (by omega),zU xs 0 λi hi=>?_]
 unfold ig
 rw[if_pos (h.ok _ (List.getElem_mem hi)),Nat.zero_add]
 by_cases h0:0 < i
 ·rw[if_pos h0,List.getElem?_eq_getElem (show i - 1 < xs.length by omega)]
  have hu:=h.up
  grind [up,List.pairwise_iff_getElem]
 ·rw[if_neg h0]
theorem vG {s:List Row} {cs:List Change} (h:Good s) (hc:∀ c ∈ cs,eM c=0) (hl:s.length+cs.length<=60):vD s cs=match cE s cs with | some t=>((0:Int),t,()) | none=>((8:Int),([]:List Row),()):=by
 unfold vD
 rw[if_pos (q9 h (by omega))]
 have main:∀ (cs:List Change) (s:List Row) (i:Nat),Good s->(∀ c ∈ cs,eM c=0)->s.length+cs.length<=60->(aX jO oO i cs s).1=match cE s cs with | some t=>((0:Int),t,()) | none=>((8:Int),([]:List Row),()):=by
  intro cs
  induction cs <;> grind [aX,oO,cE,jO,oN,fD]
 grind
def iA (xs:List Tx):List Change:=xs.flatMap λx=>dC x.2.1
theorem jP {cs:List Change} (h:∀ c ∈ cs,eM c=0):∀ c ∈ dC cs,eM c=0:=λc hc=>by
 grind [nU,Id]
theorem BC {s:List Row} (h:Good s):∀ x ∈ s,rl x:=λx hx=>by
 have:=k_ (h.ok x hx)
 grind [rl,ak]
def lZ (n:Int) (xs:List Tx):Bool:=match xs[xs.length - 1]? with
 | some x=>decide (n<=x.1)
 | none=>false
def dk (p:Plain):Int:=
 if dQ p.1=0 then
  if cu p.2.1=0 then
   if cr p.2.2.1 1 100&&!lZ p.2.2.1 p.2.1 then
    if 12 < fS p.1 p.2.1 then 2 else (match cE p.1 (iA p.2.1) with | some _=>0 | none=>8)
   else 3
  else cu p.2.1
 else dQ p.1
def BD (p:Plain):Prop:=List.length p.1<=1048576/\(∀ x ∈ (p.1:List Row),rl x)/\fx p.2.1
end OT
set_option linter.unusedVariables false
set_option linter.unusedSimpArgs false
set_option linter.unusedSectionVars false
namespace OT
open Go
theorem py {c:Change} (hc:eM c=0) (h:c.1=true):rk c.2.1=ck c:=by
 unfold eM at hc
 rw[h] at hc
 unfold ck
 cases hi:c.2.2.1 with
 | false=>rfl
 | true=>
  rw[hi] at hc
  simp only[Bool.not_true,Bool.false_and,Bool.and_self,Bool.true_and,Bool.false_or] at hc
  split at hc
  ·cases hc
  ·rename_i hn
   have hs:sameKey c.2.1 c.2.2.2.1=true:=by simpa using hn
   rw[qW] at hs
   exact of_decide_eq_true hs
theorem sw (x:Row):Ty.eq aw x x=true:=by
 have e:Ty.eq aw x x=(decide (x.1=x.1)&&(decide (x.2.1=x.2.1)&&(decide (x.2.2.1=x.2.2.1)&&(decide (x.2.2.2.1=x.2.2.2.1)&&true)))):=rfl
 rw[e]
 simp
theorem oU {xs:List Row} (hu:up xs) {c:Change} (hc:eM c=0):ja xs c=true↔(if c.1=true then c.2.1 ∈ xs else ∀ r ∈ xs,rk r≠ck c):=by
 unfold ja
 cases hw:c.1 with
 | true=>
  have hk:=py hc hw
  rw[if_pos rfl]
  constructor
  ·intro h
   simp only[Bool.and_eq_true,beq_iff_eq] at h
   obtain ⟨h1,Y⟩:=h
   obtain ⟨hp,_⟩:=jM h1
   rw[h1,List.getElem?_eq_getElem hp] at Y
   simp only[Bool.not_true,Bool.false_or] at Y
   have:=Er Y
   rw[<-this]
   exact List.getElem_mem hp
  ·intro h
   obtain ⟨i,hi,hx⟩:=List.getElem_of_mem h
   obtain ⟨f1,f2⟩:=oP hu hi (k:=ck c) (by rw[hx];exact hk)
   rw[f1,f2,List.getElem?_eq_getElem hi,hx]
   simp[sw]
 | false=>
  rw[if_neg (by decide)]
  constructor
  ·intro h r hr he
   obtain ⟨i,hi,hx⟩:=List.getElem_of_mem hr
   have f1:=(oP hu hi (k:=ck c) (by rw[hx];exact he)).1
   rw[f1] at h
   simp at h
  ·intro h
   have:eR xs (ck c)=false:=by
    cases hf:eR xs (ck c) with
    | false=>rfl
    | true=>
     obtain ⟨y,hy,hk⟩:=Ib hf
     exact absurd hk (h y hy)
   rw[this]
   rfl
def agree (K:Int×Int->Prop) (s s':List Row):Prop:=∀ r,K (rk r)->(r ∈ s↔r ∈ s')
theorem CP {K:Int×Int->Prop} {s s':List Row} (hs:up s) (xi:up s') (h:agree K s s') (c:Change):agree K (dI s c) (dI s' c):=λr hr=>by
 rw[jc hs,jc xi,h r hr]
theorem CQ {K:Int×Int->Prop} {s s':List Row} (hs:up s) (xi:up s') (h:agree K s s') {c:Change} (hc:eM c=0) (hk:K (ck c)) (hf:ja s c=true):ja s' c=true:=by
 rw[oU hs hc] at hf
 rw[oU xi hc]
 by_cases hw:c.1=true
 ·rw[if_pos hw] at hf ⊢
  exact (h _ (by rw[py hc hw];exact hk)).1 hf
 ·rw[if_neg hw] at hf ⊢
  exact λr hr he=>hf r ((h r (by rw[he];exact hk)).2 hr) he
theorem l5 {K:Int×Int->Prop}:∀ (cs:List Change) (s s' t:List Row),Good s->Good s'->(∀ c ∈ cs,eM c=0)->(∀ c ∈ cs,K (ck c))->agree K s s'->cE s cs=some t->∃ t',cE s' cs=some t'
 | [],s,s',t,_,_,_,_,_,_=>⟨s',rfl⟩
 | c::cs,s,s',t,hs,xi,hc,hk,h,hb=>by
  simp only[cE] at hb ⊢
  split at hb
  ·rename_i hf
   have pY:=hc c List.mem_cons_self
   rw[if_pos (CQ hs.1 xi.1 h pY (hk c List.mem_cons_self) hf)]
   exact l5 cs _ _ t (fD hs pY) (fD xi pY) (λd hd=>hc d (List.mem_cons_of_mem _ hd)) (λd hd=>hk d (List.mem_cons_of_mem _ hd)) (CP hs.1 xi.1 h c) hb
  ·cases hb
theorem l6:∀ (cs:List Change) (s t:List Row),Good s->(∀ c ∈ cs,eM c=0)->cE s cs=some t->agree (λk=>∀ c ∈ cs,ck c≠k) s t
 | [],s,t,_,_,hb=>by injection hb with hb;subst hb;exact λr _=>Iff.rfl
 | c::cs,s,t,hs,hc,hb=>by
  simp only[cE] at hb
  split at hb
  ·have pY:=hc c List.mem_cons_self
   have ih:=l6 cs _ t (fD hs pY) (λd hd=>hc d (List.mem_cons_of_mem _ hd)) hb
   intro r hr
   rw[<-ih r λd hd=>hr d (List.mem_cons_of_mem _ hd),jc hs.1]
   constructor
   ·exact λh=>.inl ⟨h,λe=>hr c List.mem_cons_self e.symm⟩
   ·rintro (h | ⟨hi,rfl⟩)
    ·exact h.1
    ·exact absurd ((mt pY).1 hi).symm (hr c List.mem_cons_self)
  ·cases hb
theorem FR {rows:List Row} {xs:List Tx} {t:List Row} (hg:Good rows) (hc:∀ x ∈ xs,∀ c ∈ (x.2.1:List Change),eM c=0) (hb:cE rows (iA xs)=some t) {i:Nat} (hi:i < xs.length)
  (hd:∀ j (hj:j < i),∀ c ∈ dC xs[j].2.1,∀ d ∈ dC xs[i].2.1,ck c≠ck d):∃ t',cE rows (dC xs[i].2.1)=some t':=by
 have hx:xs=xs.take i++xs[i]::xs.drop (i+1):=by rw[List.getElem_cons_drop,List.take_append_drop]
 have NW:iA xs=iA (xs.take i)++(dC xs[i].2.1++iA (xs.drop (i+1))):=by
  conv=>lhs;rw[hx]
  unfold iA
  rw[List.flatMap_append,List.flatMap_cons]
 rw[NW,back_append] at hb
 have LC:∀ c ∈ iA (xs.take i),eM c=0:=λc h=>by
  unfold iA at h
  obtain ⟨x,hx,hm⟩:=List.mem_flatMap.1 h
  exact jP (hc x (List.mem_of_mem_take hx)) c hm
 cases h1:cE rows (iA (xs.take i)) with
 | none=>rw[h1] at hb;cases hb
 | some s1=>
  rw[h1,Option.bind_some,back_append] at hb
  cases Y:cE s1 (dC xs[i].2.1) with
  | none=>rw[Y] at hb;cases hb
  | some s2=>
   have hf:=l6 _ rows s1 hg LC h1
   refine l5 (K:=λk=>∀ c ∈ iA (xs.take i),ck c≠k) _ s1 rows s2 (mY _ _ _ hg LC h1).1 hg (jP (hc _ (List.getElem_mem hi))) (λd NX c wX=>?_) (λr hr=>(hf r hr).symm) Y
   unfold iA at wX
   obtain ⟨x,hx,hm⟩:=List.mem_flatMap.1 wX
   obtain ⟨j,hj,LD⟩:=List.getElem_of_mem hx
   rw[List.length_take] at hj
   rw[List.getElem_take] at LD
   subst LD
   exact hd j (by omega) c hm d NX
theorem inv_split (cs:List Change) (n:Nat):dC cs=dC (cs.drop n)++dC (cs.take n):=by
 unfold dC
 rw[<-List.map_append,<- List.reverse_append,List.take_append_drop]
end OT
set_option linter.unusedVariables false
set_option linter.unusedSimpArgs false
namespace OT
open Go
def kB (xs:List Tx) (t:Int):Int:=jn (λx=>decide (x.1=t)) 0 xs
theorem tH (xs:List Tx) (t:Int) (h:xs.length<=1048576):dO.aa (xs,t,())=some (kB xs t,()):=by
 refine ah (k:=xs.length+1) λk hk=>(dO.ab k _).trans ?_
 have:=b_ (B:=λself v=>dO.B0 0 self (λz=>dO.Q0 0 (xs,t,()) z) (xs,t,()) v) xs (λ(_:Unit) (i:Int)=>i) (λi _ x=>if decide (x.1=t) then .inl ((i:Int),()) else .inr ()) (λ_=>((-1:Int),())) (λ_ _=>True) (by rw[ak];omega)
  (λi hi s self _=>by
   show dO.b0 _ _ _ _=_
   unfold dO.b0
   have aH:(i:Int) < (xs.length:Int):=by omega
   simp only[aH,decide_true,cond_true,Int.natCast_nonneg,if_true,Int.toNat_natCast,List.getElem?_eq_getElem hi,Option.bind_some]
   cases decide ((xs[i]).1=t) <;> rfl)
  (λ_ _ _ _ _ _=>trivial) (λs self _=>by
   show dO.b0 _ _ _ _=_
   unfold dO.b0
   simp only[Int.lt_irrefl,decide_false,cond_false]
   rfl) () trivial k (by omega)
 rw[nK] at this
 exact this
theorem xx (xs:List Tx) (t:Int) (h:xs.length<=1048576):f0.aa (xs,t,())=some (kB xs t,()):=by
 have h1:∀ x:Tx,jt.aa (x,t,())=some (decide (x.1=t),()):=λx=>by
  refine ah (k:=0) λk _=>(jt.ab k _).trans ?_
  rfl
 have Y:∀ m:Nat,bL.aa (xs,((m,t):Nat×Int),())=some (kB xs t,()):=λm=>by
  refine ah (k:=xs.length+1) λk hk=>(bL.ab k _).trans ?_
  have:=b_ (B:=λself v=>bL.B0 0 self (λz=>bL.Q0 0 (xs,((m,t):Nat×Int),()) z) (xs,((m,t):Nat×Int),()) v) xs (λ(_:Unit) (i:Int)=>i) (λi _ x=>if decide (x.1=t) then .inl ((i:Int),()) else .inr ()) (λ_=>((-1:Int),())) (λ_ _=>True) (by rw[ak];omega)
   (λi hi s self _=>by
    show bL.b0 _ _ _ _=_
    unfold bL.b0
    have aH:(i:Int) < (xs.length:Int):=by omega
    simp only[aH,decide_true,cond_true,Int.natCast_nonneg,if_true,Int.toNat_natCast,List.getElem?_eq_getElem hi,Option.bind_some,h1]
    cases decide ((xs[i]).1=t) <;> rfl)
   (λ_ _ _ _ _ _=>trivial) (λs self _=>by
    show bL.b0 _ _ _ _=_
    unfold bL.b0
    simp only[Int.lt_irrefl,decide_false,cond_false]
    rfl) () trivial k (by omega)
  rw[nK] at this
  exact this
 refine ah (k:=0) λk _=>(f0.ab k _).trans ?_
 show f0.p _=_
 unfold f0.p
 rw[Y]
 rfl
end OT
set_option linter.unusedVariables false
set_option linter.unusedSimpArgs false
namespace OT
open Go
def jw (k:Int):Bool:=decide (k=2)||(decide (k=3)||decide (k=4))
def q_ (k:Int):Bool:=decide (k=1)||decide (k=9)
abbrev sX:Row:=((0:Int),(0:Int),(0:Int),([]:List UInt8),())
abbrev noChange:Change:=(false,sX,false,sX,())
def iN (o:Op):Int:=
 if !cr o.1 1 9||(q_ o.1&&!decide (o.2.1=0))||(!jw o.1&&!Ty.eq aw o.2.2.1 ((0:Int),(0:Int),(0:Int),([]:List UInt8),()))||(!decide (o.1=6)&&!decide (o.2.2.2.1=0))||(decide (o.1=4)&&!(decide (o.2.2.1.2.2.1=0)&&decide (o.2.2.1.2.2.2.1=([]:List UInt8)))) then 1
 else if (!q_ o.1&&!cr o.2.1 1 99)||!cr o.2.2.2.1 0 7 then 3
 else if jw o.1 then cQ o.2.2.1 else 0
theorem FS (k:Int):fO.aa (k,())=some (jw k,()):=by
 refine ah (k:=0) λf _=>(fO.ab f _).trans ?_
 grind [fO.p,jw]
theorem sx (k:Int):d7.aa (k,())=some (jw k,()):=by
 refine ah (k:=0) λf _=>(d7.ab f _).trans ?_
 show d7.p _=_
 unfold d7.p jw
 simp only[iQ,Option.bind_some]
 congr 2
 grind
theorem vH (o:Op) (h:rl o.2.2.1):eo.aa (o,())=some (iN o,()):=by
 refine ah (k:=0) λf _=>(eo.ab f _).trans ?_
 show eo.p _=_
 unfold eo.p iN q_ cr
 simp only[k8,By,FS,nH _ h,Option.bind_some]
 grind
theorem AG (o:Op):f_.aa (o,())=some (!(!cr o.1 1 9||(q_ o.1&&!decide (o.2.1=0))||(!jw o.1&&!Ty.eq aw o.2.2.1 ((0:Int),(0:Int),(0:Int),([]:List UInt8),()))||(!decide (o.1=6)&&!decide (o.2.2.2.1=0))||(decide (o.1=4)&&!(decide (o.2.2.1.2.2.1=0)&&decide (o.2.2.1.2.2.2.1=([]:List UInt8))))),()):=by
 refine ah (k:=0) λf _=>(f_.ab f _).trans ?_
 show f_.p _=_
 unfold f_.p q_ cr
 have h4:decide (o.1=4)=true->jw o.1=true:=λh=>by grind [jw]
 simp only[iQ,sx,Option.bind_some]
 generalize (decide ((1:Int)<=o.1)&&decide (o.1<=9))=b1
 generalize decide (o.1=1)=b2
 generalize decide (o.1=9)=b3
 generalize decide (o.1=4)=b4 at *
 generalize decide (o.1=6)=b5
 generalize jw o.1=b6 at *
 generalize decide (o.2.1=0)=b7
 generalize Ty.eq aw o.2.2.1 ((0:Int),(0:Int),(0:Int),([]:List UInt8),())=b8
 generalize decide (o.2.2.2.1=0)=b9
 generalize decide (o.2.2.1.2.2.1=0)=c1
 generalize decide (o.2.2.1.2.2.2.1=([]:List UInt8))=c2
 cases b1
 ·rfl
 cases b4
 ·cases b2 <;> cases b3 <;> cases b7 <;> cases b6 <;> cases b8 <;> cases b5 <;> cases b9 <;> rfl
 ·have:=h4 rfl
  subst this
  cases b2 <;> cases b3 <;> cases b7 <;> cases b8 <;> cases b5 <;> cases b9 <;> cases c1 <;> cases c2 <;> rfl
theorem xy (o:Op) (h:rl o.2.2.1):fw.aa (o,())=some (iN o,()):=by
 refine ah (k:=0) λf _=>(fw.ab f _).trans ?_
 show fw.p _=_
 unfold fw.p iN
 rw[AG]
 simp only[Option.bind_some]
 generalize (!cr o.1 1 9||(q_ o.1&&!decide (o.2.1=0))||(!jw o.1&&!Ty.eq aw o.2.2.1 ((0:Int),(0:Int),(0:Int),([]:List UInt8),()))||(!decide (o.1=6)&&!decide (o.2.2.2.1=0))||(decide (o.1=4)&&!(decide (o.2.2.1.2.2.1=0)&&decide (o.2.2.1.2.2.2.1=([]:List UInt8)))))=b0
 unfold q_ cr
 simp only[iQ,sx,nG _ h,Option.bind_some]
 grind
theorem BE {o:Op} (h:iN o=0) (hr:jw o.1=true):cQ o.2.2.1=0:=by
 grind [iN]
theorem xz {o:Op} (h:iN o=0):cr o.1 1 9=true/\cr o.2.2.2.1 0 7=true:=by
 grind [iN]
def uo (c:Change) (x:Row):Bool:=decide (x.1=(ck c).2)&&(!decide (x.1=0)&&(!c.2.2.1||decide (c.2.2.2.1.2.2.1 < (List.length x.2.2.2.1:Int))))
def zV (xs:List Row) (c:Change):Int:=
 if c.2.2.1&&(!cr (ck c).2 1 3||(decide (8 < c.2.2.2.1.2.2.1)||!decide (c.2.2.2.1.2.2.2.1=([]:List UInt8)))) then 10 else if xs.any (uo c) then 8 else 0
def l7 (xs:List Row) (t:Int):Int×Bool:=match xs.find? λx=>decide (x.1=0)&&decide (x.2.1=t) with
 | some x=>(x.2.2.1,true)
 | none=>(0,false)
def sy (xs:List Row) (c:Change):Int:=
 if (ck c).1=0 then zV xs c else if c.2.2.1 then (if (l7 xs (ck c).1).2 then (if (l7 xs (ck c).1).1 < (List.length c.2.2.2.1.2.2.2.1:Int) then 10 else 0) else 4) else 0
theorem CR (xs:List Row) (c:Change) (hl:xs.length<=1048576):cH.aa (xs,c,())=some (zV xs c,()):=by
 refine ah (k:=1048577) λk hk=>(cH.ab k _).trans ?_
 unfold cH.p
 have lp:cH.r0 k (xs,c,()) (ck c).2 (0:Int)=some (if xs.any (uo c) then 8 else 0,()):=by
  have:=b_ (B:=λself v=>cH.B0 0 self (λz=>cH.Q0 0 (xs,c,()) (ck c).2 z) (xs,c,()) (ck c).2 v) xs (λ(_:Unit) (i:Int)=>i) (λ_ _ x=>if uo c x then .inl ((8:Int),()) else .inr ()) (λ_=>((0:Int),())) (λ_ _=>True) (by rw[ak];omega)
   (λi hi s self _=>by
    grind [cH.b0,uo])
   (λ_ _ _ _ _ _=>trivial) (λs self _=>by
    show cH.b0 _ _ _ _ _=_
    unfold cH.b0
    simp only[Int.lt_irrefl,decide_false,cond_false]
    rfl) () trivial k (by omega)
  rw[ii] at this
  refine Eq.trans this ?_
  grind
 grind [nI,iQ,zV,cr]
theorem AH (xs:List Row) (c:Change) (hl:xs.length<=1048576):cv.aa (xs,c,())=some (zV xs c,()):=by
 refine ah (k:=1048577) λk hk=>(cv.ab k _).trans ?_
 unfold cv.p
 have lp:cv.r0 k (xs,c,()) (0:Int)=some (if xs.any (uo c) then 8 else 0,()):=by
  have:=b_ (B:=λself v=>cv.B0 0 self (λz=>cv.Q0 0 (xs,c,()) z) (xs,c,()) v) xs (λ(_:Unit) (i:Int)=>i) (λ_ _ x=>if uo c x then .inl ((8:Int),()) else .inr ()) (λ_=>((0:Int),())) (λ_ _=>True) (by rw[ak];omega)
   (λi hi s self _=>by
    grind [cv.b0,uo,pu,lX])
   (λ_ _ _ _ _ _=>trivial) (λs self _=>by
    show cv.b0 _ _ _ _=_
    unfold cv.b0
    simp only[Int.lt_irrefl,decide_false,cond_false]
    rfl) () trivial k (by omega)
  rw[ii] at this
  refine Eq.trans this ?_
  grind
 grind [k8,zV,cr,ck]
theorem CS (xs:List Row) (t:Int) (hl:xs.length<=1048576):ep.aa (xs,t,())=some ((l7 xs t).1,(l7 xs t).2,()):=by
 refine ah (k:=1048577) λk hk=>(ep.ab k _).trans ?_
 have:=b_ (B:=λself v=>ep.B0 0 self (λz=>ep.Q0 0 (xs,t,()) z) (xs,t,()) v) xs (λ(_:Unit) (i:Int)=>i) (λ_ _ x=>if decide (x.1=0)&&decide (x.2.1=t) then .inl (x.2.2.1,true,()) else .inr ()) (λ_=>((0:Int),false,())) (λ_ _=>True) (by rw[ak];omega)
  (λi hi s self _=>by
   grind [ep.b0])
  (λ_ _ _ _ _ _=>trivial) (λs self _=>by
   show ep.b0 _ _ _ _=_
   unfold ep.b0
   simp only[Int.lt_irrefl,decide_false,cond_false]
   rfl) () trivial k (by omega)
 refine Eq.trans this ?_
 have main:∀ (xs:List Row) (i:Nat),aX (λ_ (_:Unit) x=>if decide (x.1=0)&&decide (x.2.1=t) then .inl (x.2.2.1,true,()) else .inr ()) (λ_=>((0:Int),false,())) i xs ()=((l7 xs t).1,(l7 xs t).2,()):=by
  intro xs
  induction xs <;> grind [aX,l7]
 rw[main]
theorem BF {xs:List Row} (hu:up xs) (t:Int):l7 xs t=if eR xs (0,t) then ((xs[pos xs (0,t)]?.map λx=>x.2.2.1).getD 0,true) else (0,false):=by
 have key:(λx:Row=>decide (x.1=0)&&decide (x.2.1=t))=λx=>decide (rk x=(0,t)):=by
  grind [rk]
 unfold l7
 rw[key]
 cases hf:eR xs (0,t) with
 | true=>
  obtain ⟨hp,he⟩:=jM hf
  have:xs.find? (λx=>decide (rk x=(0,t)))=some xs[pos xs (0,t)]:=by
   rw[List.find?_eq_some_iff_getElem]
   refine ⟨by simp[he],pos xs (0,t),hp,rfl,λj hj=>?_⟩
   have:=p_ xs (0,t) j (by omega) hj
   grind [kN]
  grind
 | false=>
  have:xs.find? (λx=>decide (rk x=(0,t)))=none:=by
   rw[List.find?_eq_none]
   intro x hx
   simp only[decide_eq_true_eq]
   intro e
   obtain ⟨i,hi,rfl⟩:=List.mem_iff_getElem.1 hx
   have h1:eR xs (0,t)=true:=by
    rcases Nat.lt_trichotomy (pos xs (0,t)) i with h | h | h
    ·grind [mW,up,List.pairwise_iff_getElem]
    ·grind [eR]
    ·exfalso
     have:=p_ xs (0,t) i hi h
     grind [kN]
   grind
  rw[this]
  rfl
theorem AI (xs:List Row) (t:Int) (hu:up xs) (hl:xs.length<=1048576) (hv:∀ x ∈ xs,0<=x.2.2.1):fM.aa (xs,t,())=some (if (l7 xs t).2 then (l7 xs t).1 else -1,()):=by
 refine ah (k:=0) λk hk=>(fM.ab k _).trans ?_
 grind [fM.p,mX,BF,kg,jM]
theorem FT (xs:List Row) (c:Change) (hl:xs.length<=1048576):hJ.aa (xs,c,())=some (sy xs c,()):=by
 refine ah (k:=0) λk hk=>(hJ.ab k _).trans ?_
 grind [hJ.p,sy,ck,pu,lX,AH,CS]
theorem CT (xs:List Row) (c:Change) (hu:up xs) (hl:xs.length<=1048576) (hv:∀ x ∈ xs,0<=x.2.2.1):g_.aa (xs,c,())=some (sy xs c,()):=by
 refine ah (k:=0) λk hk=>(g_.ab k _).trans ?_
 show g_.p _=_
 unfold g_.p sy
 simp only[nI,CR xs c hl,AI xs _ hu hl hv,Option.bind_some]
 grind [BF]
end OT
set_option linter.unusedVariables false
set_option linter.unusedSimpArgs false
namespace OT
open Go
def kG (k l:Key):Bool:=decide (l=k)||((decide (l.1=0)&&decide (l.2.1=k.1))||(decide (k.1=0)&&decide (l.1=k.2.1)))
def l8 (xs:List Tx) (t:Int) (k:Key):Bool:=xs.any λx=>!decide (x.1=t)&&x.2.2.2.1.any (kG k)
theorem AJ (xs:List Tx) (t:Int) (k0:Key) (h:fx xs):bH.aa (xs,t,k0,())=some (l8 xs t k0,()):=by
 obtain ⟨h1,Y⟩:=h
 refine ah (k:=1048577) λk hk=>(bH.ab k _).trans ?_
 have inner:∀ (self:((List Tx)×Int×Key×Int)->Option bH.Out) (e0:(Unit)->Option bH.Out) (i:Nat) (hi:i < xs.length),bH.r1 k self e0 (xs,t,k0,()) xs t k0 (i:Int) (0:Int)=if (xs[i]).2.2.2.1.any (kG k0) then some (true,()) else self (xs,t,k0,ap ((i:Int)+1)):=λself e0 i hi=>by
  have pw:=(Y _ (List.getElem_mem hi)).2.2.1
  have:=c9 (B:=λeD v=>bH.B1 k eD (λz=>bH.Q0 k self e0 (xs,t,k0,()) xs t k0 (i:Int) z) (xs,t,k0,()) xs t k0 (i:Int) v) (xs[i]).2.2.2.1 (λ(_:Unit) (j:Int)=>j) (λ_ _ l=>if kG k0 l then .inl (some (true,())) else .inr ()) (λ_=>self (xs,t,k0,ap ((i:Int)+1))) (λ_ _=>True) (by rw[ak];omega)
   (λj hj s eD _=>by
    grind [bH.b1,kG,Int.natCast_nonneg,Int.toNat_natCast,mI])
   (λ_ _ _ _ _ _=>trivial) (λs eD _=>by
    show bH.b1 _ _ _ _ _ _ _ _=_
    unfold bH.b1
    simp only[Int.natCast_nonneg,if_true,Int.toNat_natCast,List.getElem?_eq_getElem hi,Option.bind_some,Int.lt_irrefl,decide_false,cond_false]
    rfl) () trivial k (by omega)
  rw[ii] at this
  exact this
 have:=c9 (B:=λself v=>bH.B0 k self (λz=>bH.Q1 k (xs,t,k0,()) z) (xs,t,k0,()) v) xs (λ(_:Unit) (i:Int)=>(xs,t,k0,i)) (λ_ _ x=>if !decide (x.1=t)&&x.2.2.2.1.any (kG k0) then .inl (some (true,())) else .inr ()) (λ_=>some (false,())) (λ_ _=>True) (by rw[ak];omega)
  (λi hi s self _=>by
   show bH.b0 _ _ _ _ _=_
   grind [bH.b0])
  (λ_ _ _ _ _ _=>trivial) (λs self _=>by
   show bH.b0 _ _ _ _ _=_
   unfold bH.b0
   simp only[Int.lt_irrefl,decide_false,cond_false]
   rfl) () trivial k (by omega)
 rw[ii] at this
 refine Eq.trans this ?_
 grind [l8]
def aU (rows:List Row) (o:Op):Change×Int:=
 let k:=(o.2.2.1.1,o.2.2.1.2.1)
 if decide (o.1=2)&&eR rows k then (noChange,6)
 else if !decide (o.1=2)&&!eR rows k then (noChange,4)
 else ((eR rows k,(if eR rows k then (rows[pos rows k]?).getD sX else sX),!decide (o.1=4),(if decide (o.1=4) then sX else o.2.2.1),()),0)
theorem AK (rows:List Row) (o:Op) (hu:up rows) (hl:rows.length<=1048576):fa.aa (rows,o,())=some ((aU rows o).1,(aU rows o).2,()):=by
 refine ah (k:=0) λk hk=>(fa.ab k _).trans ?_
 show fa.p _=_
 unfold fa.p aU
 rw[mX rows _ _ hu (by omega)]
 simp only[Option.bind_some]
 unfold kg
 grind [jM]
theorem Ie {x:Row} (h:cQ x=0):0<=x.2.2.1:=by
 grind [cQ,cr]
abbrev dp (c:Int):aE:=(c,false,noChange,())
def hK (rows:List Row) (xs:List Tx) (o:Op):aE:=
 let k:Key:=(o.2.2.1.1,o.2.2.1.2.1,())
 if l8 xs o.2.1 k then dp 7
 else if (aU rows o).2=0 then
  if sy rows (aU rows o).1=0 then
   if decide (12 < kF rows xs k)||decide (12<=eE xs) then dp 9
   else if (aU rows o).1.1&&((aU rows o).1.2.2.1&&Ty.eq aw (aU rows o).1.2.1 (aU rows o).1.2.2.2.1) then dp 0
   else (0,true,(aU rows o).1,())
  else dp (sy rows (aU rows o).1)
 else dp (aU rows o).2
theorem uq (c:Int):bQ.aa (c,())=some (dp c,()):=by
 refine ah (k:=0) λk hk=>(bQ.ab k _).trans ?_
 rfl
theorem xU (rows:List Row) (xs:List Tx) (o:Op) (hg:Good rows) (hl:rows.length<=60) (ht:fx xs) (hx:j0 xs):dP.aa (rows,xs,o,())=some (hK rows xs o,()):=by
 refine ah (k:=0) λk hk=>(dP.ab k _).trans ?_
 show dP.p _=_
 unfold dP.p hK
 have NY:=hx.len
 have hv:∀ x ∈ rows,0<=x.2.2.1:=λx hm=>Ie (hg.ok x hm)
 simp only[AJ xs _ _ ht,uq,AK rows o hg.up (by omega),CT rows _ hg.up (by omega) hv,zS rows xs _ (by omega) (by omega) (λx hm=>by have:=hx.locks x hm;omega),su xs ht,Option.bind_some]
 grind
def vI (rows:List Row) (xs:List Tx) (k:Key) (c:Change):aE:=
 if sy rows c=0 then
  if decide (12 < kF rows xs k)||decide (12<=eE xs) then dp 9
  else if c.1&&(c.2.2.1&&Ty.eq aw c.2.1 c.2.2.2.1) then dp 0
  else (0,true,c,())
 else dp (sy rows c)
theorem AL (rows:List Row) (xs:List Tx) (o:Op):hK rows xs o=if l8 xs o.2.1 (o.2.2.1.1,o.2.2.1.2.1,()) then dp 7 else if (aU rows o).2=0 then vI rows xs (o.2.2.1.1,o.2.2.1.2.1,()) (aU rows o).1 else dp (aU rows o).2:=rfl
theorem FU (rows:List Row) (xs:List Tx) (kk:Key) (hk:¬ kk.2.1=0) (hl:rows.length<=1048576) (ht:fx xs) (c:Change):((hJ.aa (rows,c,())).bind λvz=>bif !decide (vz.1=(0:Int)) then (some (dp vz.1,())) else (aV.aa (rows,xs,())).bind λCH=>bif decide ((12:Int) < ((fI aA CH.1 kk true).length:Int)) then (some (dp 9,())) else (cj.aa (xs,())).bind λCI=>bif decide ((12:Int)<=CI.1) then (some (dp 9,())) else bif c.1 then (bif c.2.2.1 then (bif (Ty.eq aw c.2.1 c.2.2.2.1) then (some (dp 0,())) else some (((0:Int),true,c,()),())) else some (((0:Int),true,c,()),())) else some (((0:Int),true,c,()),()))=some (vI rows xs kk c,()):=by
 unfold vI
 have hr:(fI aA (cL (dd [] (dw rows xs))) kk true).length=kF rows xs kk:=by
  have h1:fI aA (cL (dd [] (dw rows xs))) kk true=cL (dd [] (dw rows xs++[kk])):=by
   refine (zO _ _).trans ?_
   rw[xv]
   rfl
  rw[h1]
  unfold kF oT
  rw[if_neg hk]
  exact List.length_map ..
 grind [FT,xw,oQ]
theorem zW (rows:List Row) (xs:List Tx) (o:Op) (hg:Good rows) (hl:rows.length<=60) (ht:fx xs) (hx:j0 xs) (hk:¬ o.2.2.1.2.1=0):aL.aa (rows,xs,o,())=some (hK rows xs o,()):=by
 refine ah (k:=1048577) λk eF=>(aL.ab k _).trans ?_
 rw[AL]
 have hq:∀ (k:Nat),aL.Q1 k (rows,xs,o,()) (rows,xs,o,dp 0,(o.2.2.1.1,o.2.2.1.2.1,()))=some (if (aU rows o).2=0 then vI rows xs (o.2.2.1.1,o.2.2.1.2.1,()) (aU rows o).1 else dp (aU rows o).2,()):=λk=>by
  show aL.q1 _ _=_
  unfold aL.q1 aU
  have hs:=λf:Nat×Int=>sn rows o.2.2.1 f hg.up (by omega)
  have e:rk o.2.2.1=(o.2.2.1.1,o.2.2.1.2.1):=rfl
  simp only[e] at hs
  have tl:=FU rows xs (o.2.2.1.1,o.2.2.1.2.1,()) hk (by omega) ht
  simp only[hs,Option.bind_some]
  generalize decide (o.1=2)=d2
  generalize decide (o.1=4)=d4
  cases hf:eR rows (o.2.2.1.1,o.2.2.1.2.1) with
  | false=>
   cases d2
   ·rfl
   ·cases d4
    all_goals grind
  | true=>
   obtain ⟨hp,he⟩:=jM hf
   simp only[Int.natCast_nonneg,if_true,Int.toNat_natCast,List.getElem?_eq_getElem hp,Option.bind_some,Option.getD_some]
   cases d2
   ·cases d4
    ·exact tl _
    ·exact tl _
   ·rfl
 have inner:∀ (self:((List Row)×(List Tx)×Op×aE×Key×(List Tx)×Int×Int)->Option aL.Out) (e0:((List Row)×(List Tx)×Op×aE×Key)->Option aL.Out) (i:Nat) (hi:i < xs.length),aL.r1 k self e0 (rows,xs,o,()) rows xs o (dp 0) (o.2.2.1.1,o.2.2.1.2.1,()) xs (xs.length:Int) (i:Int) (xs[i]).2.2.2.1 (List.length (xs[i]).2.2.2.1:Int) (0:Int)=if (xs[i]).2.2.2.1.any (kG (o.2.2.1.1,o.2.2.1.2.1,())) then some (dp 7,()) else self (rows,xs,o,dp 0,(o.2.2.1.1,o.2.2.1.2.1,()),xs,(xs.length:Int),ap ((i:Int)+1)):=λself e0 i hi=>by
  have pw:=(ht.2 _ (List.getElem_mem hi)).2.2.1
  have KJ:=hx.keys _ (List.getElem_mem hi)
  have:=c9 (B:=λeD v=>aL.B1 k eD (λz=>aL.Q0 k self e0 (rows,xs,o,()) rows xs o (dp 0) (o.2.2.1.1,o.2.2.1.2.1,()) xs (xs.length:Int) (i:Int) (xs[i]).2.2.2.1 (List.length (xs[i]).2.2.2.1:Int) z) (rows,xs,o,()) rows xs o (dp 0) (o.2.2.1.1,o.2.2.1.2.1,()) xs (xs.length:Int) (i:Int) (xs[i]).2.2.2.1 (List.length (xs[i]).2.2.2.1:Int) v) (xs[i]).2.2.2.1 (λ(_:Unit) (j:Int)=>j) (λ_ _ l=>if kG (o.2.2.1.1,o.2.2.1.2.1,()) l then .inl (some (dp 7,())) else .inr ()) (λ_=>self (rows,xs,o,dp 0,(o.2.2.1.1,o.2.2.1.2.1,()),xs,(xs.length:Int),ap ((i:Int)+1))) (λ_ _=>True) (by rw[ak];omega)
   (λj hj s eD _=>by
    show aL.b1 _ _ _ _ _ _ _ _ _ _ _ _ _ _=_
    unfold aL.b1 kG
    have aH:(j:Int) < (List.length (xs[i]).2.2.2.1:Int):=by omega
    have tZ:=KJ _ (List.getElem_mem hj)
    simp only[Int.natCast_nonneg,if_true,Int.toNat_natCast,Option.bind_some,aH,decide_true,cond_true,List.getElem?_eq_getElem hj,mI]
    generalize (xs[i]).2.2.2.1[j]=l at tZ
    obtain ⟨l1,l2,⟨⟩⟩:=l
    have mN:¬ l2=0:=by
     grind [gv,cr]
    generalize o.2.2.1.1=k1
    generalize o.2.2.1.2.1=k2
    have e1:decide (((l1,l2,()):Key)=(k1,k2,()))=(decide (l1=k1)&&decide (l2=k2)):=by
     rw[Bool.eq_iff_iff];simp
    have e2:decide (((l1,l2,()):Key)=((0:Int),k1,()))=(decide (l1=0)&&decide (l2=k1)):=by
     rw[Bool.eq_iff_iff];simp
    have e3:Ty.eq aA ((l1,l2,()):Key) ((0:Int),k1,())=(decide (l1=0)&&decide (l2=k1)):=(mI _ _).trans e2
    grind)
   (λ_ _ _ _ _ _=>trivial) (λs eD _=>by
    show aL.b1 _ _ _ _ _ _ _ _ _ _ _ _ _ _=_
    unfold aL.b1
    simp only[Int.lt_irrefl,decide_false,cond_false]
    rfl) () trivial k (by omega)
  rw[ii] at this
  exact this
 have:=c9 (B:=λself v=>aL.B0 k self (λz=>aL.Q1 k (rows,xs,o,()) z) (rows,xs,o,()) v) xs (λ(_:Unit) (i:Int)=>(rows,xs,o,dp 0,(o.2.2.1.1,o.2.2.1.2.1,()),xs,(xs.length:Int),i)) (λ_ _ x=>if !decide (x.1=o.2.1)&&x.2.2.2.1.any (kG (o.2.2.1.1,o.2.2.1.2.1,())) then .inl (some (dp 7,())) else .inr ()) (λ_=>some (if (aU rows o).2=0 then vI rows xs (o.2.2.1.1,o.2.2.1.2.1,()) (aU rows o).1 else dp (aU rows o).2,())) (λ_ _=>True) (by rw[ak];have:=ht.1;omega)
  (λi hi s self _=>by
   show aL.b0 _ _ _ _ _=_
   grind [aL.b0,Int.toNat_natCast])
  (λ_ _ _ _ _ _=>trivial) (λs self _=>by
   show aL.b0 _ _ _ _ _=_
   simp_all [aL.b0]) () trivial k (by have:=ht.1;omega)
 rw[ii] at this
 refine Eq.trans this ?_
 grind [l8]
end OT
set_option linter.unusedVariables false
set_option linter.unusedSimpArgs false
namespace OT
open Go
def qc (xs:List Tx) (t:Int):Int:=match xs[(kB xs t).toNat]? with
 | some x=>(List.length x.2.2.1:Int)
 | none=>0
def nk (rows:List Row) (xs:List Tx) (o:Op):aE:=
 if o.1=1 then (if decide (4<=xs.length) then dp 2 else dp 0)
 else if o.1=9 then dp 0
 else if kB xs o.2.1 < 0 then dp 4
 else if o.1=5 then (if decide (8<=qc xs o.2.1) then dp 2 else dp 0)
 else if o.1=6 then (if decide (qc xs o.2.1<=o.2.2.2.1) then dp 3 else dp 0)
 else if jw o.1 then hK rows xs o else dp 0
def jx (rows:List Row) (xs:List Tx) (o:Op):aE:=
 if dQ rows=0 then (if cu xs=0 then (if iN o=0 then nk rows xs o else dp (iN o)) else dp (cu xs)) else dp (dQ rows)
theorem at_mem {xs:List Tx} {t:Int} (h:¬ kB xs t < 0):∃ (j:Nat) (hj:j < xs.length),kB xs t=(j:Int)/\(xs[j]).1=t:=by
 obtain ⟨j,hj,h1,Y⟩:=qY (λx:Tx=>decide (x.1=t)) xs 0 (by unfold kB at h;omega)
 exact ⟨j,hj,by unfold kB;rw[h1,Nat.zero_add],of_decide_eq_true Y⟩
theorem kinds {k:Int} (h:cr k 1 9=true):k=1\/k=2\/k=3\/k=4\/k=5\/k=6\/k=7\/k=8\/k=9:=by
 unfold cr at h
 simp only[Bool.and_eq_true,decide_eq_true_eq] at h
 omega
theorem sA (rows:List Row) (xs:List Tx) (o:Op) (hg:Good rows) (hl:rows.length<=60) (ht:fx xs) (hx:j0 xs) (ho:cr o.1 1 9=true):dW.aa (rows,xs,o,())=some (nk rows xs o,()):=by
 refine ah (k:=0) λk hk=>(dW.ab k _).trans ?_
 show dW.p _=_
 unfold dW.p nk
 have NY:=hx.len
 have h4:decide ((4:Int)<=(xs.length:Int))=decide (4<=xs.length):=by
  by_cases h:4<=xs.length
  ·have:(4:Int)<=(xs.length:Int):=by omega
   simp[h,this]
  ·have:¬ (4:Int)<=(xs.length:Int):=by omega
   simp[h,this]
 simp only[uq,tH xs _ ht.1,xU rows xs o hg hl ht hx,Option.bind_some,h4]
 by_cases ha:kB xs o.2.1 < 0
 ·simp only[ha,decide_true,cond_true,if_true]
  rcases kinds ho with e | e | e | e | e | e | e | e | e <;> rw[e] <;> first | rfl | (cases decide (4<=xs.length) <;> rfl)
 ·obtain ⟨j,hj,e,_⟩:=at_mem ha
  have hm:qc xs o.2.1=(List.length (xs[j]).2.2.1:Int):=by unfold qc;rw[e,Int.toNat_natCast,List.getElem?_eq_getElem hj]
  rw[hm]
  simp only[ha,decide_false,cond_false,if_false,e,Int.natCast_nonneg,if_true,Int.toNat_natCast,List.getElem?_eq_getElem hj,Option.bind_some]
  rcases kinds ho with e | e | e | e | e | e | e | e | e <;> rw[e] <;> first | rfl | (cases decide (4<=xs.length) <;> rfl) | (cases decide ((8:Int)<=(List.length (xs[j]).2.2.1:Int)) <;> rfl) | (cases decide ((List.length (xs[j]).2.2.1:Int)<=o.2.2.2.1) <;> rfl)
theorem CU (rows:List Row) (xs:List Tx) (o:Op) (hl:rows.length<=1048576) (hr:∀ x ∈ rows,rl x) (ht:fx xs) (ho:rl o.2.2.1):ga.aa (rows,xs,o,())=some (jx rows xs o,()):=by
 refine ah (k:=0) λk hk=>(ga.ab k _).trans ?_
 show ga.p _=_
 unfold ga.p jx
 simp only[Az rows (by rw[ak];omega) hr,vF xs ht,xy o ho,uq,Option.bind_some]
 by_cases h1:dQ rows=0
 rotate_left
 ·simp only[h1,decide_false,Bool.not_false,cond_true,if_false]
 by_cases Y:cu xs=0
 rotate_left
 ·simp only[h1,Y,decide_true,decide_false,Bool.not_true,Bool.not_false,cond_true,cond_false,if_true,if_false]
 by_cases h3:iN o=0
 rotate_left
 ·simp only[h1,Y,h3,decide_true,decide_false,Bool.not_true,Bool.not_false,cond_true,cond_false,if_true,if_false]
 simp only[h1,Y,h3,decide_true,Bool.not_true,cond_false,if_true]
 rw[sA rows xs o (jb h1).1 (jb h1).2 ht (gp Y) (xz h3).1]
 rfl
theorem CV (rows:List Row) (xs:List Tx) (o:Op) (hl:rows.length<=1048576) (hr:∀ x ∈ rows,rl x) (ht:fx xs) (ho:rl o.2.2.1):cq.aa (rows,xs,o,())=some (jx rows xs o,()):=by
 refine ah (k:=5) λk hk=>(cq.ab k _).trans ?_
 unfold cq.p
 simp only[pN rows (by rw[ak];omega) hr,lY xs ht,vH o ho,Option.bind_some]
 have hq:dQ rows=0->cu xs=0->iN o=0->∀ (k:Nat) (z:Unit),cq.Q0 k (rows,xs,o,()) [dQ rows,cu xs,iN o] ([dQ rows,cu xs,iN o].length:Int) z=some (nk rows xs o,()):=λh1 Y h3 k z=>by
  show cq.q0 _ _ _ _=_
  unfold cq.q0 nk
  have hx:=gp Y
  have hg:=(jb h1).1
  have hl:=(jb h1).2
  have LE:=(xz h3).1
  have h4:decide ((4:Int)<=(xs.length:Int))=decide (4<=xs.length):=by
   by_cases h:4<=xs.length
   ·have:(4:Int)<=(xs.length:Int):=by omega
    simp[h,this]
   ·have:¬ (4:Int)<=(xs.length:Int):=by omega
    simp[h,this]
  have FV:jw o.1=true->aL.aa (rows,xs,o,())=some (hK rows xs o,()):=λNZ=>zW rows xs o hg hl ht hx (by
   have:=BE h3 NZ
   unfold cQ at this
   split at this
   ·rename_i h5
    simp only[cr,Bool.and_eq_true,decide_eq_true_eq] at h5
    omega
   ·cases this)
  simp only[xx xs _ ht.1,Option.bind_some,h4]
  by_cases ha:kB xs o.2.1 < 0
  ·simp only[ha,decide_true,cond_true,if_true]
   rcases kinds LE with e | e | e | e | e | e | e | e | e <;> rw[e] <;> first | rfl | (cases decide (4<=xs.length) <;> rfl)
  ·obtain ⟨j,hj,e,_⟩:=at_mem ha
   have hm:qc xs o.2.1=(List.length (xs[j]).2.2.1:Int):=by unfold qc;rw[e,Int.toNat_natCast,List.getElem?_eq_getElem hj]
   rw[hm]
   simp only[ha,decide_false,cond_false,if_false,e,Int.natCast_nonneg,if_true,Int.toNat_natCast,List.getElem?_eq_getElem hj,Option.bind_some]
   rcases kinds LE with e | e | e | e | e | e | e | e | e
   ·rw[e];cases decide (4<=xs.length) <;> rfl
   ·rw[FV (by rw[e];rfl),e];rfl
   ·rw[FV (by rw[e];rfl),e];rfl
   ·rw[FV (by rw[e];rfl),e];rfl
   ·rw[e];cases decide ((8:Int)<=(List.length (xs[j]).2.2.1:Int)) <;> rfl
   ·rw[e];cases decide ((List.length (xs[j]).2.2.1:Int)<=o.2.2.2.1) <;> rfl
   ·rw[e];rfl
   ·rw[e];rfl
   ·rw[e];rfl
 have:=c9 (B:=λself v=>cq.B0 k self (λz=>cq.Q0 k (rows,xs,o,()) [dQ rows,cu xs,iN o] ([dQ rows,cu xs,iN o].length:Int) z) (rows,xs,o,()) [dQ rows,cu xs,iN o] ([dQ rows,cu xs,iN o].length:Int) v) [dQ rows,cu xs,iN o] (λ(_:Unit) (i:Int)=>i) (λ_ _ x=>if x=0 then .inr () else .inl (some (dp x,()))) (λ_=>cq.Q0 k (rows,xs,o,()) [dQ rows,cu xs,iN o] ([dQ rows,cu xs,iN o].length:Int) ()) (λ_ _=>True) (by rw[ak];simp)
  (λi hi s self _=>by
   show cq.b0 _ _ _ _ _ _=_
   unfold cq.b0
   have aH:(i:Int) < ([dQ rows,cu xs,iN o].length:Int):=by omega
   have dy:(0:Int)<=(i:Int)/\(i:Int) < ([dQ rows,cu xs,iN o].length:Int):=by omega
   simp only[aH,dy,and_self,decide_true,cond_true,if_true,Int.toNat_natCast,List.getElem?_eq_getElem hi,Option.bind_some]
   by_cases h0:[dQ rows,cu xs,iN o][i]=0
   ·simp only[h0,decide_true,Bool.not_true,cond_false,if_true]
   ·simp only[h0,decide_false,Bool.not_false,cond_true,if_false])
  (λ_ _ _ _ _ _=>trivial) (λs self _=>by
   show cq.b0 _ _ _ _ _ _=_
   unfold cq.b0
   simp only[Int.lt_irrefl,decide_false,cond_false]) () trivial k (by simp;omega)
 refine Eq.trans this ?_
 unfold jx
 simp only[aX]
 by_cases h1:dQ rows=0
 rotate_left
 ·simp only[h1,if_false]
 by_cases Y:cu xs=0
 rotate_left
 ·simp only[h1,Y,if_true,if_false]
 by_cases h3:iN o=0
 rotate_left
 ·simp only[h1,Y,h3,if_true,if_false]
 have:=hq h1 Y h3 k ()
 rw[if_pos h1]
 simp only
 rw[if_pos Y]
 simp only
 rw[if_pos h3]
 simp only
 rw[this,if_pos h1,if_pos Y,if_pos h3]
end OT
set_option linter.unusedVariables false
set_option linter.unusedSimpArgs false
namespace OT
open Go
theorem tI (xs:List Tx) (k0:Key) (h:fx xs):dG.aa (xs,k0,())=some (c_ xs k0,()):=by
 obtain ⟨h1,Y⟩:=h
 refine ah (k:=xs.length+1) λk hk=>(dG.ab k _).trans ?_
 have:=b_ (B:=λself v=>dG.B0 0 self (λz=>dG.Q0 0 (xs,k0,()) z) (xs,k0,()) v) xs (λ(_:Unit) (i:Int)=>i) (λ_ _ x=>if cb x.2.2.2.1 k0 then .inl (x.1,()) else .inr ()) (λ_=>(0,())) (λ_ _=>True) (by rw[ak];omega)
  (λi hi s self _=>by
   grind [dG.b0,contains_eq,zL])
  (λ_ _ _ _ _ _=>trivial) (λs self _=>by
   show dG.b0 _ _ _ _=_
   unfold dG.b0
   simp only[Int.lt_irrefl,decide_false,cond_false]
   rfl) () trivial k (by omega)
 rw[st] at this
 exact this
theorem Ew (s:List Change) (h:s.length<=1048576):dt.aa (s,())=some (s,()):=by
 refine ah (k:=0) λk _=>(dt.ab k _).trans ?_
 show dt.p _=_
 unfold dt.p
 refine sU (λe=>by grind) ?_
 grind [dA]
theorem Ey (s:List Int) (h:s.length<=1048576):dM.aa (s,())=some (s,()):=by
 refine ah (k:=0) λk _=>(dM.ab k _).trans ?_
 show dM.p _=_
 unfold dM.p
 refine sU (λe=>by grind) ?_
 grind [dA]
theorem Ez (s:List Key) (h:s.length<=1048576):et.aa (s,())=some (s,()):=by
 refine ah (k:=0) λk _=>(et.ab k _).trans ?_
 show et.p _=_
 unfold et.p
 refine sU (λe=>by grind) ?_
 grind [dA]
theorem CW (x:Tx) (h:tl x):fv.aa (x,())=some (x,()):=by
 obtain ⟨h1,Y,h3,_⟩:=h
 refine ah (k:=0) λk _=>(fv.ab k _).trans ?_
 grind [fv.p,dA]
theorem zX (xs:List Tx) (h:fx xs):ek.aa (xs,())=some (xs,()):=by
 obtain ⟨h1,Y⟩:=h
 refine ah (k:=xs.length+1) λk hk=>(ek.ab k _).trans ?_
 have:=b_ (B:=λself v=>ek.B0 0 self (λz=>ek.Q0 0 (xs,()) z) (xs,()) v) xs (λ(s:List Tx) (i:Int)=>(s,i)) (λ_ s x=>.inr (s++[x])) (λs=>(s,())) (λi s=>s.length=i) (by rw[ak];omega)
  (λi hi s self hI=>by
   grind [ek.b0,dA,CW])
  (λi hi s s' hI hs=>by grind) (λs self hI=>by
   show ek.b0 _ _ _ _=_
   unfold ek.b0
   simp only[Int.lt_irrefl,decide_false,cond_false]
   rfl) [] rfl k (by omega)
 rw[gz,si] at this
 exact this
theorem EA (xs:List Tx) (h:fx xs):eA.aa (xs,())=some (xs,()):=by
 obtain ⟨h1,Y⟩:=h
 refine ah (k:=xs.length+1) λk hk=>(eA.ab k _).trans ?_
 have:=b_ (B:=λself v=>eA.B0 0 self (λz=>eA.Q0 0 (xs,()) z) (xs,()) v) xs (λ(s:List Tx) (i:Int)=>(s,i)) (λ_ s x=>.inr (s++[x])) (λs=>(s,())) (λi s=>s.length=i) (by rw[ak];omega)
  (λi hi s self hI=>by
   show eA.b0 _ _ _ _=_
   unfold eA.b0
   have aH:(i:Int) < (xs.length:Int):=by omega
   have hx:=Y _ (List.getElem_mem hi)
   simp only[aH,decide_true,cond_true,Int.natCast_nonneg,if_true,Int.toNat_natCast,List.getElem?_eq_getElem hi,Option.bind_some]
   generalize xs[i]=x at hx
   obtain ⟨g1,g2,g3,_⟩:=hx
   grind [Ew,Ey,Ez,dA])
  (λi hi s s' hI hs=>by grind) (λs self hI=>by
   show eA.b0 _ _ _ _=_
   unfold eA.b0
   simp only[Int.lt_irrefl,decide_false,cond_false]
   rfl) [] rfl k (by omega)
 rw[gz,si] at this
 exact this
def dJ (x:Tx) (c:Change):Tx:=(x.1,x.2.1++[c],x.2.2.1,if cb x.2.2.2.1 (cA c) then x.2.2.2.1 else x.2.2.2.1++[cA c],())
def kH (xs:List Tx) (j:Nat) (c:Change):List Tx:=match xs[j]? with
 | some x=>xs.set j (dJ x c)
 | none=>xs
theorem AM (xs:List Tx) (j:Nat) (c:Change) (h:fx xs) (hj:j < xs.length):fX.aa (xs,(j:Int),c,())=some (kH xs j c,()):=by
 refine ah (k:=0) λk _=>(fX.ab k _).trans ?_
 show fX.p _=_
 unfold fX.p kH
 have hx:=h.2 _ (List.getElem_mem hj)
 have dy:(0:Int)<=(j:Int)/\(j:Int) < (xs.length:Int):=by omega
 simp only[zX xs h,Option.bind_some,dy,and_self,if_true,Int.toNat_natCast,List.getElem?_eq_getElem hj,sq]
 generalize N0:xs[j]=x at hx
 obtain ⟨g1,g2,g3,_⟩:=hx
 have JZ:xs.set j x=xs:=by grind [List.set_getElem_self]
 have hg:xs[j]?=some x:=by grind
 have c1:List.length x.2.1+[c].length<=cU:=dA (by grind)
 have c2:List.length x.2.2.2.1+[cA c].length<=cU:=dA (by grind)
 have hq:∀ y:Tx,(xs.set j y)[j]?=some y:=λy=>by simp[hj]
 rw[if_pos c1,JZ]
 simp only[hg,Option.bind_some,hq]
 grind [un,ak,dJ,List.set_set]
theorem AN (xs:List Tx) (j:Nat) (c:Change) (h:fx xs) (hj:j < xs.length):gu.aa (xs,(j:Int),c,())=some (kH xs j c,()):=by
 refine ah (k:=0) λk _=>(gu.ab k _).trans ?_
 show gu.p _=_
 unfold gu.p kH
 have hx:=h.2 _ (List.getElem_mem hj)
 have dy:(0:Int)<=(j:Int)/\(j:Int) < (xs.length:Int):=by omega
 simp only[EA xs h,Option.bind_some,dy,and_self,if_true,Int.toNat_natCast,List.getElem?_eq_getElem hj,wA]
 generalize N0:xs[j]=x at hx
 obtain ⟨g1,g2,g3,_⟩:=hx
 have JZ:xs.set j x=xs:=by grind [List.set_getElem_self]
 have hg:xs[j]?=some x:=by grind
 have c1:List.length x.2.1+[c].length<=cU:=dA (by grind)
 have c2:List.length x.2.2.2.1+[cA c].length<=cU:=dA (by grind)
 have hq:∀ y:Tx,(xs.set j y)[j]?=some y:=λy=>by simp[hj]
 rw[if_pos c1,JZ]
 simp only[hg,Option.bind_some,hq]
 grind [contains_eq,ak,dJ,List.set_set]
def ur (c:Int):sf:=(c,([]:List Tx),())
def oV (xs:List Tx) (t:Int) (c:Change):sf:=
 if cu xs=0 then
  if kB xs t < 0 then ur 4
  else if k9 c=0 then
   if c_ xs (cA c)≠0/\c_ xs (cA c)≠t then ur 7
   else if 12<=eE xs then ur 2
   else if c_ xs (cA c)=0/\12<=List.length ((xs.getD (kB xs t).toNat (0,[],[],[],())).2.2.2.1:List Key) then ur 2
   else ((0:Int),kH xs (kB xs t).toNat c,())
  else ur (k9 c)
 else ur (cu xs)
theorem FW {xs:List Tx} (h:cu xs=0):mJ xs=0/\xs.length<=4:=by
 grind [cu]
theorem rf {xs:List Tx} {k:Key} (h:c_ xs k≠0):∃ x ∈ xs,x.1=c_ xs k/\cb x.2.2.2.1 k=true:=by
 induction xs <;> grind [c_]
theorem vJ {xs:List Tx} {k:Key} (h:c_ xs k=0) (hp:∀ x ∈ xs,1<=x.1):∀ x ∈ xs,cb x.2.2.2.1 k=false:=by
 induction xs <;> grind [c_]
theorem zY (xs:List Tx) (t:Int) (c:Change) (h:fx xs) (hc:cl c):eL.aa (xs,t,c,())=some (oV xs t c,()):=by
 refine ah (k:=0) λk _=>(eL.ab k _).trans ?_
 show eL.p _=_
 unfold eL.p oV ur
 simp only[lY xs h,xx xs t h.1,sj c hc,wA,tI xs _ h,oQ xs h,Option.bind_some]
 by_cases h1:cu xs=0
 rotate_left
 ·grind
 simp only[h1,decide_true,Bool.not_true,cond_false,if_true]
 by_cases Y:kB xs t < 0
 ·grind
 simp only[Y,decide_false,cond_false,if_false]
 by_cases h3:k9 c=0
 rotate_left
 ·grind
 simp only[h3,decide_true,Bool.not_true,cond_false,if_true]
 obtain ⟨j,hj,e1,e2⟩:=qY (λx:Tx=>decide (x.1=t)) xs 0 (by grind [kB])
 have e1:kB xs t=(j:Int):=by show jn _ 0 xs=_;rw[e1];omega
 rw[e1,Int.toNat_natCast]
 have hn:=AN xs j c h hj
 grind
end OT
set_option linter.unusedVariables false
set_option linter.unusedSimpArgs false
set_option linter.unusedSectionVars false
namespace OT
open Go
def ym (x:Tx):Tx:=(x.1,x.2.1,x.2.2.1++[(List.length x.2.1:Int)],x.2.2.2)
def CX (x:Tx) (n m:Nat):Tx:=(x.1,x.2.1.take n,x.2.2.1.take (m+1),x.2.2.2)
end OT
set_option linter.unusedVariables false
set_option linter.unusedSimpArgs false
set_option linter.unusedSectionVars false
namespace OT
open Go
abbrev pO (n:Int):Tx:=(n,([]:List Change),([]:List Int),([]:List Key),())
theorem If {x:Tx} (h:tl x) (hm:List.length x.2.2.1<=8):tl (ym x):=⟨h.1,by
 show (x.2.2.1++[(List.length x.2.1:Int)]).length<=_
 grind,h.2.2.1,h.2.2.2⟩
theorem J0 {x:Tx} (h:tl x) (n m:Nat):tl (CX x n m):=by
 obtain ⟨h1,Y,h3,h4⟩:=h
 refine ⟨?_,?_,h3,λc hc=>h4 c (List.mem_of_mem_take hc)⟩
 ·show (x.2.1.take n).length<=_
  grind
 ·show (x.2.2.1.take (m+1)).length<=_
  grind
theorem Ig {x:Tx} (h:tl x) (hu:List.length x.2.1<=12) (hk:List.length x.2.2.2.1<=12) {c:Change} (hc:cl c):tl (dJ x c):=by
 obtain ⟨h1,Y,h3,h4⟩:=h
 refine ⟨?_,Y,?_,λd hd=>?_⟩
 ·show (x.2.1++[c]).length<=_
  grind
 ·show (if cb x.2.2.2.1 (cA c) then x.2.2.2.1 else x.2.2.2.1++[cA c]).length<=_
  grind
 ·rcases List.mem_append.1 hd with g | g
  all_goals grind
theorem wC {xs:List Tx} (h:fx xs) (j:Nat) {y:Tx} (hy:tl y):fx (xs.set j y):=⟨by rw[List.length_set];exact h.1,λx hx=>by
 rcases List.mem_or_eq_of_mem_set hx with g | g
 ·exact h.2 x g
 grind⟩
theorem zZ {xs:List Tx} (h:fx xs) (j:Nat):fx (xs.take j++xs.drop (j+1)):=⟨by
 have:=h.1
 grind,λx hx=>by
 rcases List.mem_append.1 hx with g | g
 ·exact h.2 x (List.mem_of_mem_take g)
 ·exact h.2 x (List.mem_of_mem_drop g)⟩
theorem Ih {xs:List Tx} (h:fx xs) (hl:xs.length<=4) (n:Int):fx (xs++[pO n]):=⟨by grind,λx hx=>by
 rcases List.mem_append.1 hx with g | g
 ·exact h.2 x g
 ·rw[List.mem_singleton] at g;rw[g];exact ⟨Nat.zero_le _,Nat.zero_le _,Nat.zero_le _,λc hc=>by cases hc⟩⟩
end OT
set_option linter.unusedVariables false
set_option linter.unusedSimpArgs false
set_option linter.unusedSectionVars false
namespace OT
open Go
structure BG (p:Plain):Prop where
 gK:Good p.1
 len:List.length p.1<=12
 l9:cu p.2.1=0
 next:cr p.2.2.1 1 100=true
 room:fS p.1 p.2.1<=12
 back:∃ t,cE p.1 (iA p.2.1)=some t
theorem d8 {p:Plain} (h:dk p=0):BG p:=by
 unfold dk at h
 split at h
 ·rename_i h1
  split at h
  ·rename_i Y
   split at h
   ·rename_i h3
    rw[Bool.and_eq_true] at h3
    split at h
    ·cases h
    ·rename_i h4
     have hg:=(jb h1).1
     have hr:=px (xs:=p.2.1) hg.up
     unfold fS at h4
     cases hb:cE p.1 (iA p.2.1) with
     | none=>grind
     | some t=>exact ⟨hg,by omega,Y,h3.1,by grind [fS],t,hb⟩
   ·cases h
  grind
 grind
theorem sB {c:Change} (hc:eM c=0):ck (gc c)=ck c:=by
 grind [ck,gc,rk,py,eM]
theorem sY {xs:List Tx} (h:cu xs=0):∀ x ∈ xs,1<=x.1/\iM x=0:=λx hx=>by
 have h1:=(FW h).1
 obtain ⟨i,hi,rfl⟩:=List.getElem_of_mem hx
 have:=oS (lc xs h1 i hi)
 grind
theorem pz {x:Tx} (h:iM x=0):∀ c ∈ (x.2.1:List Change),cb x.2.2.2.1 (cA c)=true:=λc hc=>by
 unfold iM at h
 split at h
 ·rename_i hu
  have Y:=mK hu c hc
  grind [iz]
 grind
theorem sC {xs:List Tx} (h:cu xs=0):(flatK xs).Nodup:=by
 unfold cu at h
 split at h
 ·cases h
 ·split at h
  ·split at h
   ·rename_i ha;exact of_decide_eq_true ha
   ·cases h
  grind
theorem nM {xs:List Tx} (h:cu xs=0) {i j:Nat} (hi:i < xs.length) (hj:j < i) {c d:Change} (hc:c ∈ dC (xs[j]'(by omega)).2.1) (hd:d ∈ dC xs[i].2.1):ck c≠ck d:=by
 have hn:=sC h
 have oW:=(gp h).ch
 obtain ⟨c0,pY,rfl⟩:=nU hc
 obtain ⟨d0,EB,rfl⟩:=nU hd
 have mj:xs[j]'(by omega) ∈ xs:=List.getElem_mem _
 have mi:xs[i] ∈ xs:=List.getElem_mem _
 rw[sB (oW _ mj c0 pY),sB (oW _ mi d0 EB)]
 have l1:=cx.1 (pz (sY h _ mj).2 c0 pY)
 have l2:=cx.1 (pz (sY h _ mi).2 d0 EB)
 intro he
 have hx:xs=xs.take i++xs[i]::xs.drop (i+1):=by rw[List.getElem_cons_drop,List.take_append_drop]
 unfold flatK at hn
 rw[hx,List.flatMap_append,List.flatMap_cons,List.nodup_append] at hn
 refine hn.2.2 (cA c0) ?_ (cA c0) ?_ rfl
 ·grind
 grind [cA]
theorem kO {p:Plain} (h:BG p) {i:Nat} (hi:i < List.length p.2.1):∃ t,cE p.1 (dC (p.2.1[i]).2.1)=some t:=by
 obtain ⟨t,ht⟩:=h.back
 exact FR h.gK (gp h.l9).ch ht hi λj hj c hc d hd=>nM h.l9 hi hj hc hd
theorem nV {α:Type} [DecidableEq α]:∀ (l m:List α),l.Nodup->(∀ x ∈ l,x ∈ m)->l.length<=m.length
 | [],_,_,_=>Nat.zero_le _
 | x::l,m,hn,h=>by
  rw[List.nodup_cons] at hn
  have hx:=h x List.mem_cons_self
  have ih:=nV l (m.erase x) hn.2 λy hy=>(List.mem_erase_of_ne (λe=>hn.1 (by grind))).2 (h y (List.mem_cons_of_mem _ hy))
  grind
theorem j9 {rows:List Row} {o:Op} (hg:Good rows) (qd:cQ o.2.2.1=0) (h:(aU rows o).2=0):eM (aU rows o).1=0/\ck (aU rows o).1=rk o.2.2.1/\ja rows (aU rows o).1=true/\cl (aU rows o).1:=by
 have rp:rl o.2.2.1:=by grind [rl,k_,ak]
 have rr:rl sX:=Nat.zero_le _
 have key:∀ c:Change,c=(aU rows o).1->eM c=0/\ck c=rk o.2.2.1/\(if c.1=true then c.2.1 ∈ rows else ∀ r ∈ rows,rk r≠ck c)/\cl c:=by
  intro c hc
  unfold aU at h hc
  have N1:(o.2.2.1.1,o.2.2.1.2.1)=rk o.2.2.1:=rfl
  simp only[N1] at h hc
  cases hf:eR rows (rk o.2.2.1) with
  | true=>
   obtain ⟨hp,hk⟩:=jM hf
   have hm:rows[pos rows (rk o.2.2.1)] ∈ rows:=List.getElem_mem hp
   have hb:=hg.2 _ hm
   have LF:rl rows[pos rows (rk o.2.2.1)]:=by grind [rl,k_,ak]
   rw[hf,List.getElem?_eq_getElem hp] at h hc
   generalize hx:rows[pos rows (rk o.2.2.1)]=x at *
   cases Y:decide (o.1=2) with
   | true=>grind
   | false=>
    rw[Y] at hc
    simp only[Bool.false_and,Bool.not_true,Bool.and_false,Bool.false_eq_true,if_false,if_true,Option.getD_some] at hc
    cases h4:decide (o.1=4) with
    | true=>
     rw[h4] at hc
     subst hc
     refine ⟨?_,hk,?_,LF,rr⟩
     all_goals grind [eM]
    | false=>
     rw[h4] at hc
     subst hc
     refine ⟨?_,rfl,?_,LF,rp⟩
     all_goals grind [qW,eM]
  | false=>
   have il:∀ r ∈ rows,rk r≠rk o.2.2.1:=λr hr he=>by
    obtain ⟨i,hi,hx⟩:=List.getElem_of_mem hr
    have:=(oP hg.1 hi (k:=rk o.2.2.1) (by grind)).1
    grind
   rw[hf] at h hc
   cases Y:decide (o.1=2) with
   | false=>grind
   | true=>
    have h4:decide (o.1=4)=false:=by
     grind
    rw[Y,h4] at hc
    simp only[Bool.and_false,Bool.not_true,Bool.not_false,Bool.false_and,Bool.false_eq_true,if_false] at hc
    subst hc
    refine ⟨?_,rfl,?_,rr,rp⟩
    ·grind [eM]
    ·exact il
 obtain ⟨k1,k2,k3,k4⟩:=key _ rfl
 exact ⟨k1,k2,(oU hg.1 k1).2 k3,k4⟩
theorem ut {r:Row} (h:cQ r=0):1<=r.2.1:=by
 grind [cQ,cr]
theorem ld {rows:List Row} {xs:List Tx} {o:Op} (ht:(hK rows xs o).2.1=true):l8 xs o.2.1 (o.2.2.1.1,o.2.2.1.2.1,())=false/\(aU rows o).2=0/\kF rows xs (o.2.2.1.1,o.2.2.1.2.1,())<=12/\eE xs < 12/\((aU rows o).1.1&&((aU rows o).1.2.2.1&&Ty.eq aw (aU rows o).1.2.1 (aU rows o).1.2.2.2.1))=false/\hK rows xs o=(0,true,(aU rows o).1,()):=by
 unfold hK at ht ⊢
 grind
end OT
set_option linter.unusedVariables false
set_option linter.unusedSimpArgs false
set_option linter.unusedSectionVars false
namespace OT
open Go
end OT
set_option linter.unusedVariables false
set_option linter.unusedSimpArgs false
set_option linter.unusedSectionVars false
namespace OT
open Go
section
variable {p:Plain} {o:Op} (hp:BD p) (ho:rl o.2.2.1) (h:dk p=0) (Y:(jx p.1 p.2.1 o).1=0)
include hp ho h Y
end
end OT
set_option linter.unusedVariables false
set_option linter.unusedSimpArgs false
set_option linter.unusedSectionVars false
namespace OT
open Go
section
variable {p:Plain} {o:Op} (hp:BD p) (ho:rl o.2.2.1) (h:dk p=0) (Y:(jx p.1 p.2.1 o).1=0)
include hp ho h Y
end
end OT
set_option linter.unusedVariables false
set_option linter.unusedSimpArgs false
namespace OT
open Go
def pb (D:List UInt8) (i:Nat):Nat:=(D.getD i 0).toNat
theorem EC {D:List UInt8} {i:Nat} (h:i < D.length):D[i]?=some D[i]/\(D[i]).toNat=pb D i:=⟨List.getElem?_eq_getElem h,by simp[pb,h]⟩
theorem ED {A B:List UInt8} (h:A.length=B.length) (Y:∀ j,j < A.length->pb A j=pb B j):A=B:=by
 refine List.ext_getElem h λi h1 h3=>?_
 have:=Y i h1
 rw[<-(EC h1).2,<- (EC h3).2] at this
 exact UInt8.toNat_inj.1 this
theorem FY (D:List UInt8) (a n j:Nat) (h:j < n):pb ((D.drop a).take n) j=pb D (a+j):=by
 grind [pb]
def pn (p:List UInt8):Nat:=pb p 0
def xA (p:List UInt8):Nat:=pb p 1
def pat (p:List UInt8) (i:Nat):Nat:=pb p (2+2*i)
def gA (p:List UInt8) (i:Nat):Nat:=pb p (3+2*i)
structure jo (p:List UInt8):Prop where
 len:p.length=64
 n:pn p<=16
 lo:2+2*pn p<=xA p
 hi:xA p<=64
 slot:∀ i,i < pn p->gA p i≠0->xA p<=pat p i/\pat p i+gA p i<=64
 zero:∀ i,i < pn p->gA p i=0->pat p i=0
 apart:∀ i k,i < pn p->k < pn p->i≠k->gA p i≠0->gA p k≠0->pat p i+gA p i<=pat p k\/pat p k+gA p k<=pat p i
 last:0 < pn p->gA p (pn p - 1)≠0
def j_ (p:List UInt8) (i:Nat):List UInt8:=(p.drop (pat p i)).take (gA p i)
def cellOf (p:List UInt8) (i:Nat):List UInt8:=if i < pn p then j_ p i else []
theorem sD {p:List UInt8} (h:jo p) {i:Nat} (hi:i < pn p):(j_ p i).length=gA p i:=by
 unfold j_
 by_cases hz:gA p i=0
 ·simp[hz]
 ·have:=h.slot i hi hz
  have:=h.len
  grind
theorem z5 (p:List UInt8) (i j:Nat) (h:j < gA p i):pb (j_ p i) j=pb p (pat p i+j):=FY p _ _ j h
theorem FZ {p q:List UInt8} {i k:Nat} (hp:(j_ p i).length=gA p i) (hq:(j_ q k).length=gA q k) (hs:gA p i=gA q k) (hb:∀ j,j < gA p i->pb p (pat p i+j)=pb q (pat q k+j)):j_ p i=j_ q k:=by
 grind [ED,z5]
theorem F5 {p c:List UInt8} {i:Nat} (hp:(j_ p i).length=gA p i) (hs:gA p i=c.length) (hb:∀ j,j < c.length->pb p (pat p i+j)=pb c j):j_ p i=c:=by
 grind [ED,z5]
def Ol (p:List UInt8) (s a:Nat) (c:List UInt8):List UInt8:=((kj p a c.length c).set (2+2*s) (UInt8.ofNat a)).set (3+2*s) (UInt8.ofNat c.length)
structure mZ (p q:List UInt8) (s a m:Nat):Prop where
 len:q.length=64
 n:pn q=pn p\/(pn q=pn p+1/\s=pn p)
 J1:s < pn q
 n16:pn q<=16
 lo:2+2*pn q<=xA q
 N2:xA q<=xA p
 at_:pat q s=a
 sz:gA q s=m
 pos:0 < m
 Ms:xA q<=a
 Mt:a+m<=64
 z6:∀ i,i < pn q->i≠s->pat q i=pat p i/\gA q i=gA p i
 free:∀ i,i < pn p->i≠s->gA p i≠0->a+m<=pat p i\/pat p i+gA p i<=a
 same:∀ j,xA p<=j->j < 64->(j < a\/a+m<=j)->pb q j=pb p j
theorem mZ.ok {p q:List UInt8} {s a m:Nat} (t:mZ p q s a m) (h:jo p):jo q:=by
 have aH:∀ i,i < pn q->i≠s->i < pn p:=λi hi hs=>by rcases t.n with h1 | ⟨h1,Y⟩ <;> omega
 have ha:=t.at_
 have hm:=t.sz
 have qA:=t.pos
 have yQ:=t.Ms
 have MK:=t.Mt
 have Oz:=t.N2
 have hh:=h.hi
 refine ⟨t.len,t.n16,t.lo,by omega,λi hi hz=>?_,λi hi hz=>?_,λi k hi hk LG z1 z2=>?_,λhn=>?_⟩
 ·by_cases hs:i=s
  ·grind
  ·obtain ⟨h1,Y⟩:=t.z6 i hi hs
   have:=h.slot i (aH i hi hs) (by omega)
   omega
 ·by_cases hs:i=s
  ·grind
  ·obtain ⟨h1,Y⟩:=t.z6 i hi hs
   have:=h.zero i (aH i hi hs) (by omega)
   omega
 ·by_cases hs:i=s
  ·subst hs
   have Hq:k≠i:=λe=>LG e.symm
   obtain ⟨h1,Y⟩:=t.z6 k hk Hq
   have:=t.free k (aH k hk Hq) Hq (by omega)
   omega
  ·obtain ⟨h1,Y⟩:=t.z6 i hi hs
   by_cases np:k=s
   ·subst np
    have:=t.free i (aH i hi hs) hs (by omega)
    omega
   ·obtain ⟨h3,h4⟩:=t.z6 k hk np
    have:=h.apart i k (aH i hi hs) (aH k hk np) LG (by omega) (by omega)
    omega
 ·by_cases hs:pn q - 1=s
  ·rw[hs];omega
  ·obtain ⟨h1,Y⟩:=t.z6 (pn q - 1) (by omega) hs
   have hq:pn q=pn p:=by
    rcases t.n with h3 | ⟨h3,h4⟩
    all_goals grind
   rw[Y,hq]
   exact h.last (by omega)
theorem mZ.CY {p q:List UInt8} {s a m:Nat} (t:mZ p q s a m) (h:jo p) {i:Nat} (hi:i < pn q) (hs:i≠s):j_ q i=j_ p i:=by
 have vl:i < pn p:=by rcases t.n with h1 | ⟨h1,Y⟩ <;> omega
 obtain ⟨h1,Y⟩:=t.z6 i hi hs
 refine FZ (sD (t.ok h) hi) (sD h vl) Y λj hj=>?_
 have hz:gA p i≠0:=by omega
 have h3:=h.slot i vl hz
 have h4:=t.free i vl hs hz
 rw[h1]
 exact t.same _ (by omega) (by omega) (by omega)
theorem mZ.EE {p q:List UInt8} {s a:Nat} {c:List UInt8} (t:mZ p q s a c.length) (h:jo p) (hc:∀ j,j < c.length->pb q (a+j)=pb c j):j_ q s=c:=
 F5 (sD (t.ok h) t.J1) t.sz λj hj=>by rw[t.at_];exact hc j hj
theorem mZ.cells {p q:List UInt8} {s a:Nat} {c:List UInt8} (t:mZ p q s a c.length) (h:jo p) (hc:∀ j,j < c.length->pb q (a+j)=pb c j) (i:Nat):cellOf q i=if i=s then c else cellOf p i:=by
 have hs:=t.J1
 unfold cellOf
 by_cases ru:i=s
 ·subst ru
  rw[if_pos hs,if_pos rfl,t.EE h hc]
 ·rw[if_neg ru]
  by_cases hi:i < pn q
  ·have vl:i < pn p:=by rcases t.n with h1 | ⟨h1,Y⟩ <;> omega
   rw[if_pos hi,if_pos vl,t.CY h hi ru]
  ·have vl:¬ i < pn p:=by rcases t.n with h1 | ⟨h1,Y⟩ <;> omega
   grind
end OT
set_option linter.unusedVariables false
set_option linter.unusedSimpArgs false
namespace OT
open Go
def CZ (p:List UInt8):Nat->Nat
 | 0=>0
 | m+1=>CZ p m+gA p m
structure Om (p:List UInt8) (k:Nat) (o:List UInt8) (a:Nat):Prop where
 len:o.length=64
 n:pb o 0=pn p
 a:a=64 - CZ p k
 sz:∀ i,i < pn p->gA o i=gA p i
 Pc:∀ i,i < pn p->(k<=i\/gA p i=0)->pat o i=pat p i
 new:∀ i,i < k->gA p i≠0->pat o i=64 - CZ p (i+1)/\∀ j,j < gA p i->pb o (64 - CZ p (i+1)+j)=pb p (pat p i+j)
end OT
set_option linter.unusedVariables false
set_option linter.unusedSimpArgs false
namespace OT
open Go
section
variable {p:List UInt8} (hp:p.length=64)
include hp
end
end OT
set_option linter.unusedVariables false
set_option linter.unusedSimpArgs false
namespace OT
open Go
section
variable {p:List UInt8} (hp:jo p)
include hp
end
end OT
set_option linter.unusedVariables false
set_option linter.unusedSimpArgs false
namespace OT
open Go
theorem rA {α:Type} {lt:α->α->Prop} (has:∀ a b,lt a b->¬ lt b a):∀ (xs ys:List α),xs.Perm ys->xs.Pairwise lt->ys.Pairwise lt->xs=ys
 | [],ys,h,_,_=>(List.nil_perm.1 h).symm
 | x::xs,[],h,_,_=>by have:=h.length_eq;cases this
 | x::xs,y::ys,h,h1,Y=>by
  obtain ⟨J,a2⟩:=List.pairwise_cons.1 h1
  obtain ⟨b1,b2⟩:=List.pairwise_cons.1 Y
  by_cases rJ:x=y
  ·subst rJ
   rw[rA has xs ys ((List.perm_cons x).1 h) a2 b2]
  ·have hx:x ∈ ys:=by
    have:=h.mem_iff.1 (List.mem_cons_self (a:=x) (l:=xs))
    rcases List.mem_cons.1 this with e | e
    ·exact absurd e rJ
    ·exact e
   have hy:y ∈ xs:=by
    have:=h.mem_iff.2 (List.mem_cons_self (a:=y) (l:=ys))
    rcases List.mem_cons.1 this with e | e
    ·exact absurd e.symm rJ
    ·exact e
   exact absurd (b1 x hx) (has _ _ (J y hy))
theorem xB (xs:List Row) (r:Row):(jN xs r).Perm (r::xs):=by
 unfold jN
 rw[List.append_assoc]
 have:=List.perm_middle (a:=r) (l₁:=xs.take (pos xs (rk r))) (l₂:=xs.drop (pos xs (rk r)))
 rw[List.take_append_drop] at this
 exact this
theorem BH {xs:List Row} {k:Int×Int} {x:Row} (hu:up xs) (h:x ∈ xs.drop (pos xs k)):ct (rk x) k=false:=by
 obtain ⟨i,hi,e⟩:=List.mem_iff_getElem.1 h
 rw[List.length_drop] at hi
 rw[List.getElem_drop] at e
 rw[<-e]
 exact mW xs k _ _ hu (by omega)
theorem BI {xs:List Row} {r:Row} (hu:up xs) (hn:∀ x ∈ xs,rk x≠rk r):up (jN xs r):=by
 unfold jN up
 rw[List.append_assoc,List.pairwise_append]
 have hd:=hu.drop (i:=pos xs (rk r))
 refine ⟨hu.take,?_,λa ha b hb=>?_⟩
 ·rw[List.singleton_append,List.pairwise_cons]
  refine ⟨λb hb=>?_,hd⟩
  have h1:=BH hu hb
  have Y:=hn b (List.mem_of_mem_drop hb)
  cases h3:ct (rk r) (rk b) with
  | true=>rfl
  | false=>exact absurd (qV h1 h3) Y
 ·have h1:=oM ha
  rw[List.singleton_append] at hb
  rcases List.mem_cons.1 hb with e | e
  ·subst e;exact h1
  ·have Y:=BH hu e
   have h3:=hn b (List.mem_of_mem_drop e)
   cases h4:ct (rk a) (rk b) with
   | true=>rfl
   | false=>
    cases h5:ct (rk b) (rk a) with
    | true=>rw[nJ h5 h1] at Y;cases Y
    | false=>
     have:=qV h4 h5
     rw[this] at h1
     rw[h1] at Y;cases Y
theorem F6 {a b:Int×Int} (h:ct a b=true):¬ ct b a=true:=by rw[Ek h];exact λh=>by cases h
theorem EF {xs ys:List Row} (hp:xs.Perm ys) (hx:up xs) (hy:up ys):xs=ys:=rA (λa b h=>F6 h) xs ys hp hx hy
theorem z7 {xs:List Row} (h:up xs):(xs.map rk).Nodup:=by
 unfold List.Nodup
 rw[List.pairwise_map]
 refine h.imp λh1 e=>?_
 rw[e,kN] at h1
 cases h1
end OT
set_option linter.unusedVariables false
set_option linter.unusedSimpArgs false
namespace OT
open Go
abbrev N3:Type:=List (List UInt8)
end OT
set_option linter.unusedVariables false
set_option linter.unusedSimpArgs false
namespace OT
open Go Go.Sort
end OT
set_option linter.unusedVariables false
set_option linter.unusedSimpArgs false
namespace OT
open Go Go.Sort
end OT
set_option linter.unusedVariables false
set_option linter.unusedSimpArgs false
set_option linter.unusedSectionVars false
namespace OT
open Go
end OT
set_option linter.unusedVariables false
set_option linter.unusedSimpArgs false
set_option linter.unusedSectionVars false
namespace OT
open Go
section
variable {p:List UInt8} (hp:jo p)
include hp
end
section
variable {p:List UInt8} (hp:jo p) (c:List UInt8) (vK:1<=c.length) (hc:c.length<=20)
include hp vK hc
end
end OT
set_option linter.unusedVariables false
set_option linter.unusedSimpArgs false
set_option linter.unusedSectionVars false
namespace OT
open Go
section
variable {p:List UInt8} (hp:jo p) (c:List UInt8) (vK:1<=c.length) (hc:c.length<=20)
include hp vK hc
variable {s:Nat} (hs:s < pn p) (hz:gA p s≠0)
include hs hz
end
section
variable {p:List UInt8} (hp:jo p) {s:Nat} (hs:s < pn p)
include hp hs
end
end OT
set_option linter.unusedVariables false
set_option linter.unusedSimpArgs false
set_option linter.unusedSectionVars false
namespace OT
open Go
section
variable {p:List UInt8} (hp:jo p)
include hp
end
end OT
set_option linter.unusedVariables false
set_option linter.unusedSimpArgs false
namespace OT
open Go
end OT
set_option linter.unusedVariables false
set_option linter.unusedSimpArgs false
set_option linter.unusedSectionVars false
namespace OT
open Go
end OT
set_option linter.unusedVariables false
set_option linter.unusedSimpArgs false
set_option linter.unusedSectionVars false
namespace OT
open Go
end OT
set_option linter.unusedVariables false
set_option linter.unusedSimpArgs false
set_option linter.unusedSectionVars false
namespace OT
open Go
theorem mu {r:Row} (h:cQ r=0):(0<=r.1/\r.1<=3)/\(1<=r.2.1/\r.2.1<=99)/\(0<=r.2.2.1/\r.2.2.1<=999)/\mH r.2.2.2.1=true:=by
 grind [cQ,cr]
theorem EG {s:List UInt8} (h:mH s=true):s.length<=8:=by
 grind [mH]
end OT
set_option linter.unusedVariables false
set_option linter.unusedSimpArgs false
set_option linter.unusedSectionVars false
namespace OT
open Go
abbrev EH:Type:=Nat->Nat->List UInt8
theorem sE {α:Type} {c:α->Int}:∀ {xs:List α},(∀ x ∈ xs,c x=0)->jJ c xs=0
 | [],_=>rfl
 | x::xs,h=>by
  unfold jJ
  rw[if_pos (h x List.mem_cons_self)]
  exact sE λy hy=>h y (List.mem_cons_of_mem _ hy)
end OT
set_option linter.unusedVariables false
set_option linter.unusedSimpArgs false
set_option linter.unusedSectionVars false
namespace OT
open Go
def wF (f:EH) (P s:Nat) (c:List UInt8):EH:=λQ t=>if Q=P/\t=s then c else f Q t
section
end
end OT
set_option linter.unusedVariables false
set_option linter.unusedSimpArgs false
set_option linter.unusedSectionVars false
namespace OT
open Go
section
end
end OT
set_option linter.unusedVariables false
set_option linter.unusedSimpArgs false
set_option linter.unusedSectionVars false
namespace OT
open Go
section
end
theorem z8 {xs:List Row} (h:(xs.map rk).Nodup):xs.Nodup:=List.Pairwise.of_map rk (λa b h he=>h (congrArg rk he)) h
theorem Ii {xs ys:List Row} (hx:up xs) (hy:up ys) (h:∀ r,r ∈ xs↔r ∈ ys):xs=ys:=by
 have n1:xs.Nodup:=z8 (z7 hx)
 have n2:ys.Nodup:=z8 (z7 hy)
 exact EF ((List.perm_ext_iff_of_nodup n1 n2).2 h) hx hy
end OT
set_option linter.unusedVariables false
set_option linter.unusedSimpArgs false
set_option linter.unusedSectionVars false
namespace OT
open Go
def J2 (cs:List Change) (k:Int×Int):Prop:=∀ c ∈ cs,ck c≠k
theorem z9:∀ (L:List (List Change)) (rows:List Row),Good rows->(∀ cs ∈ L,∀ c ∈ cs,eM c=0)->L.Pairwise (λa b=>∀ d ∈ b,J2 a (ck d))->(∀ cs ∈ L,∃ t,cE rows cs=some t)->∃ t,cE rows L.flatten=some t
 | [],rows,_,_,_,_=>⟨rows,rfl⟩
 | cs::L,rows,hg,hc,hp,hu=>by
  obtain ⟨s,hs⟩:=hu cs List.mem_cons_self
  rw[List.pairwise_cons] at hp
  have pY:=hc cs List.mem_cons_self
  have LH:=(mY cs rows s hg pY hs).1
  have hf:=l6 cs rows s hg pY hs
  rw[List.flatten_cons,back_append,hs,Option.bind_some]
  refine z9 L s LH (λx hx=>hc x (List.mem_cons_of_mem _ hx)) hp.2 λx hx=>?_
  obtain ⟨t,ht⟩:=hu x (List.mem_cons_of_mem _ hx)
  exact l5 (K:=J2 cs) x rows s t hg LH (hc x (List.mem_cons_of_mem _ hx)) (λc N4=>hp.1 x hx c N4) hf ht
theorem C0 (ts:List Tx):iA ts=(ts.map λx=>dC x.2.1).flatten:=by
 unfold iA
 rw[List.flatMap_def]
theorem uu {rows:List Row} (hg:Good rows) {c:Change} (hc:eM c=0) (hf:ja rows c=true):ja (dI rows c) (gc c)=true/\dI (dI rows c) (gc c)=rows:=by
 have xh:=fD hg hc
 have LI:=jP (cs:=[c]) (λd hd=>by rw[List.mem_singleton] at hd;rw[hd];exact hc) (gc c) (by simp[dC])
 have hk:=sB hc
 have BJ:=(oU hg.1 hc).1 hf
 have Hr:(gc c).1=c.2.2.1:=rfl
 have N5:(gc c).2.1=c.2.2.2.1:=rfl
 have N6:(gc c).2.2.1=c.1:=rfl
 have N7:(gc c).2.2.2.1=c.2.1:=rfl
 constructor
 ·rw[oU xh.1 LI,Hr,N5,hk]
  by_cases h:c.2.2.1=true
  ·rw[if_pos h,jc hg.1]
   exact .inr ⟨h,rfl⟩
  ·rw[if_neg h]
   intro r hr
   rw[jc hg.1] at hr
   rcases hr with hr | hr
   ·exact hr.2
   ·exact absurd hr.1 h
 ·refine Ii (fD xh LI).1 hg.1 λr=>?_
  rw[jc xh.1,jc hg.1,hk,N6,N7]
  by_cases hw:c.1=true
  ·rw[if_pos hw] at BJ
   have sF:=py hc hw
   constructor
   ·rintro (⟨h1 | h1,Y⟩ | h1)
    ·exact h1.1
    ·exact absurd (by rw[h1.2];exact (mt hc).1 h1.1) Y
    ·rw[h1.2];exact BJ
   ·intro h
    by_cases he:rk r=ck c
    ·right
     refine ⟨hw,?_⟩
     obtain ⟨i,hi,hx⟩:=List.getElem_of_mem h
     obtain ⟨j,hj,hy⟩:=List.getElem_of_mem BJ
     obtain ⟨_,a2⟩:=oP hg.1 hi (k:=ck c) (by rw[hx];exact he)
     obtain ⟨_,b2⟩:=oP hg.1 hj (k:=ck c) (by rw[hy];exact sF)
     have iB:i=j:=by rw[<-a2,<- b2]
     subst iB
     rw[<-hx,<- hy]
    ·exact .inl ⟨.inl ⟨h,he⟩,he⟩
  ·rw[if_neg hw] at BJ
   constructor
   ·rintro (⟨h1 | h1,Y⟩ | h1)
    ·exact h1.1
    ·exact absurd (by rw[h1.2];exact (mt hc).1 h1.1) Y
    ·exact absurd h1.1 hw
   ·intro h
    exact .inl ⟨.inl ⟨h,BJ r h⟩,BJ r h⟩
theorem oX {rows:List Row} {ts:List Tx} {n:Int} (hg:Good rows) (hl:rows.length<=12) (ht:cu ts=0) (hn:cr n 1 100=true) (hx:lZ n ts=false) (hr:fS rows ts<=12) (hu:∀ x ∈ ts,∃ t,cE rows (dC x.2.1)=some t):dk (rows,ts,n,())=0:=by
 have T:=gp ht
 have hb:∃ t,cE rows (iA ts)=some t:=by
  rw[C0]
  refine z9 _ rows hg ?_ ?_ ?_
  ·intro cs fl
   obtain ⟨x,hx,rfl⟩:=List.mem_map.1 fl
   exact jP (T.ch x hx)
  ·rw[List.pairwise_map,List.pairwise_iff_getElem]
   intro i j hi hj iB d hd c hc
   exact nM ht hj iB hc hd
  ·intro cs fl
   obtain ⟨x,hx,rfl⟩:=List.mem_map.1 fl
   exact hu x hx
 obtain ⟨t,hb⟩:=hb
 unfold dk
 simp only
 rw[if_pos (q9 hg (by omega)),if_pos ht,hn,hx,hb]
 rw[if_pos (by rfl),if_neg (by omega)]
theorem sZ {p:Plain} (h:dk p=0):lZ p.2.2.1 p.2.1=false:=by
 unfold dk at h
 split at h
 ·split at h
  ·split at h
   ·rename_i h3
    rw[Bool.and_eq_true] at h3
    simpa using h3.2
   ·cases h
  ·rename_i h1;exact absurd h h1
 ·rename_i h1;exact absurd h h1
theorem BK:∀ (xs ys:List Tx) (j:Nat),(∀ i (hi:i < ys.length),gT xs (j+i) ys[i]=0)->aX (λi (_:Unit) x=>if gT xs i x=0 then .inr () else .inl (gT xs i x)) (λ_=>(0:Int)) j ys ()=0
 | xs,[],j,h=>rfl
 | xs,y::ys,j,h=>by
  have h0:=h 0 (by simp)
  simp only[List.getElem_cons_zero,Nat.add_zero] at h0
  simp only[aX]
  rw[if_pos h0]
  refine BK xs ys (j+1) λi hi=>?_
  have:=h (i+1) (by simp only[List.length_cons];omega)
  simp only[List.getElem_cons_succ] at this
  rw[show j+1+i=j+(i+1) by omega]
  exact this
structure jQ (ts:List Tx):Prop where
 len:ts.length<=4
 each:∀ x ∈ ts,cr x.1 1 99=true/\iM x=0
 oY:ts.Pairwise λa b=>a.1 < b.1
 apart:(flatK ts).Nodup
 tt:eE ts<=12
theorem sG {ts:List Tx} (h:jQ ts):cu ts=0:=by
 have he:mJ ts=0:=BK ts ts 0 λi hi=>by
  obtain ⟨h1,Y⟩:=h.each _ (List.getElem_mem hi)
  rw[Nat.zero_add]
  unfold gT
  rw[if_pos h1]
  by_cases h0:0 < i
  ·rw[if_pos h0,List.getElem?_eq_getElem (show i - 1 < ts.length by omega)]
   simp only
   have:=List.pairwise_iff_getElem.1 h.oY (i - 1) i (by omega) hi (by omega)
   rw[if_neg (by omega)]
   exact Y
  ·rw[if_neg h0];exact Y
 have hc:=h.tt
 have hl:=h.len
 unfold cu
 rw[if_neg (by omega),if_pos he]
 have ha:oR ts=true:=decide_eq_true h.apart
 rw[ha,if_pos rfl,if_neg (by omega)]
theorem nN {ts:List Tx} (h:cu ts=0):jQ ts:=by
 have hl:=(gp h).len
 have hn:=sC h
 unfold cu at h
 rw[if_neg (by omega)] at h
 split at h
 ·rename_i he
  have hg:=lc ts he
  have gj:∀ i (hi:i < ts.length),cr (ts[i]).1 1 99=true/\iM ts[i]=0/\(0 < i->∀ y,ts[i - 1]?=some y->y.1 < (ts[i]).1):=λi hi=>by
   have h1:=hg i hi
   unfold gT at h1
   split at h1
   ·rename_i hb
    split at h1
    ·rename_i h0
     rw[List.getElem?_eq_getElem (show i - 1 < ts.length by omega)] at h1 ⊢
     simp only at h1
     split at h1
     ·cases h1
     ·rename_i aH
      exact ⟨hb,h1,λ_ y hy=>by injection hy with hy;rw[<-hy];omega⟩
    ·rename_i h0
     exact ⟨hb,h1,λhh=>absurd hh h0⟩
   ·cases h1
  refine ⟨hl,λx hx=>?_,?_,hn,?_⟩
  ·obtain ⟨i,hi,rfl⟩:=List.getElem_of_mem hx
   exact ⟨(gj i hi).1,(gj i hi).2.1⟩
  ·rw[List.pairwise_iff_getElem]
   have main:∀ (d i:Nat) (hi:i < ts.length) (hj:i+(d+1) < ts.length),(ts[i]).1 < (ts[i+(d+1)]).1:=by
    intro d
    induction d with
    | zero=>
     intro i hi hj
     exact (gj (i+1) hj).2.2 (by omega) _ (by rw[show i+1 - 1=i by omega];exact List.getElem?_eq_getElem hi)
    | succ d ih=>
     intro i hi hj
     have h1:=ih i hi (by omega)
     have Y:=(gj (i+(d+1+1)) hj).2.2 (by omega) (ts[i+(d+1)]'(by omega)) (by rw[show i+(d+1+1) - 1=i+(d+1) by omega];exact List.getElem?_eq_getElem (by omega))
     omega
   intro i j hi hj iB
   have:=main (j - i - 1) i hi (by omega)
   simp only[show i+(j - i - 1+1)=j by omega] at this
   exact this
  ·split at h
   ·split at h
    ·cases h
    ·omega
   ·cases h
 ·rename_i he;exact absurd h he
end OT
set_option linter.unusedVariables false
set_option linter.unusedSimpArgs false
set_option linter.unusedSectionVars false
namespace OT
open Go
theorem C3:∀ (ks S:List Key),S.Nodup->(dd S ks).Nodup
 | [],S,h=>h
 | x::ks,S,h=>by
  show (dd (if cb S x then S else S++[x]) ks).Nodup
  refine C3 ks _ ?_
  split
  ·exact h
  ·rename_i hx
   rw[List.nodup_append]
   refine ⟨h,by simp,λa ha b hb he=>hx ?_⟩
   rw[List.mem_singleton] at hb
   rw[cx,<- hb,<- he]
   exact ha
theorem m9 {rows ka:List Row} {ts kx:List Tx} (h:∀ k ∈ dw ka kx,k ∈ dw rows ts):fS ka kx<=fS rows ts:=by
 unfold fS
 refine nV _ _ (C3 _ _ List.nodup_nil) λk hk=>?_
 rw[qb] at hk ⊢
 rcases hk with hk | hk
 ·cases hk
 ·exact .inr (h k hk)
theorem z_ {rows ka:List Row} {ts kx:List Tx} {q:Key} (hq:¬ q.2.1=0) (h:∀ k ∈ dw ka kx,k ∈ dw rows ts\/k=q):fS ka kx<=kF rows ts q:=by
 unfold fS kF
 refine nV _ _ (C3 _ _ List.nodup_nil) λk hk=>?_
 rw[qb] at hk ⊢
 rcases hk with hk | hk
 ·cases hk
 ·right
  rw[List.mem_append]
  rcases h k hk with h1 | h1
  ·exact .inl h1
  ·right
   unfold oT
   rw[if_neg hq,h1]
   exact List.mem_singleton.2 rfl
theorem uw:∀ (xs:List Tx) (n:Int),xs.foldl (λn x=>n+(List.length x.2.1:Int)) n=n+eE xs
 | [],n=>by unfold eE;simp
 | x::xs,n=>by
  unfold eE
  simp only[List.foldl_cons]
  rw[uw xs (n+_),uw xs (0+_)]
  omega
theorem ux (x:Tx) (xs:List Tx):eE (x::xs)=(List.length x.2.1:Int)+eE xs:=by
 show (x::xs).foldl _ 0=_
 rw[List.foldl_cons,uw]
 omega
theorem nO:∀ (a b:List Tx),eE (a++b)=eE a+eE b
 | [],b=>by
  rw[List.nil_append]
  have:eE []=0:=rfl
  omega
 | x::a,b=>by
  rw[List.cons_append,ux,ux,nO a b]
  omega
theorem m_ {xs:List Tx} {j:Nat} (hj:j < xs.length):eE xs=eE (xs.take j)+(List.length (xs[j]).2.1:Int)+eE (xs.drop (j+1)):=by
 have hx:xs=xs.take j++xs[j]::xs.drop (j+1):=by rw[List.getElem_cons_drop,List.take_append_drop]
 conv=>lhs;rw[hx]
 rw[nO,ux]
 omega
theorem kb {xs:List Tx} {j:Nat} (hj:j < xs.length):flatK xs=flatK (xs.take j)++((xs[j]).2.2.2.1++flatK (xs.drop (j+1))):=by
 have hx:xs=xs.take j++xs[j]::xs.drop (j+1):=by rw[List.getElem_cons_drop,List.take_append_drop]
 conv=>lhs;rw[hx]
 unfold flatK
 rw[List.flatMap_append,List.flatMap_cons]
theorem Aa (a b:List Tx):flatK (a++b)=flatK a++flatK b:=by
 unfold flatK
 rw[List.flatMap_append]
theorem oZ {ts:List Tx} {j:Nat} {x:Tx} (h:x ∈ ts.take j++ts.drop (j+1)):x ∈ ts:=by
 rcases List.mem_append.1 h with g | g
 ·exact List.mem_of_mem_take g
 ·exact List.mem_of_mem_drop g
theorem F7 (ts:List Tx) (j:Nat):(ts.take j++ts.drop (j+1)).Sublist ts:=by
 rw[<-List.eraseIdx_eq_take_drop_succ]
 exact List.eraseIdx_sublist ts j
theorem xC {ts:List Tx} (h:jQ ts) {j:Nat} (hj:j < ts.length):jQ (ts.take j++ts.drop (j+1)):=by
 have hs:=F7 ts j
 refine ⟨Nat.le_trans hs.length_le h.len,λx hx=>h.each x (oZ hx),h.oY.sublist hs,?_,?_⟩
 ·have ha:=h.apart
  rw[kb hj] at ha
  rw[Aa]
  rw[List.nodup_append] at ha ⊢
  obtain ⟨J,a2,a3⟩:=ha
  rw[List.nodup_append] at a2
  exact ⟨J,a2.2.1,λa ha b hb=>a3 a ha b (List.mem_append_right _ hb)⟩
 ·have hc:=h.tt
  rw[m_ hj] at hc
  rw[nO]
  omega
theorem xD {ts:List Tx} {n:Int} (h:jQ ts) (hx:lZ n ts=false) (j:Nat):lZ n (ts.take j++ts.drop (j+1))=false:=by
 have iV:∀ x ∈ ts,x.1 < n:=λx g0=>by
  obtain ⟨i,hi,rfl⟩:=List.getElem_of_mem g0
  unfold lZ at hx
  rw[List.getElem?_eq_getElem (show ts.length - 1 < ts.length by omega)] at hx
  simp only[decide_eq_false_iff_not] at hx
  by_cases he:i=ts.length - 1
  ·subst he;omega
  ·have:=List.pairwise_iff_getElem.1 h.oY i (ts.length - 1) hi (by omega) (by omega)
   omega
 unfold lZ
 cases hg:(ts.take j++ts.drop (j+1))[(ts.take j++ts.drop (j+1)).length - 1]? with
 | none=>rfl
 | some x=>
  have:=iV x (oZ (List.mem_of_getElem? hg))
  simp only[decide_eq_false_iff_not]
  omega
theorem C4 {rows:List Row} {ts:List Tx} {n:Int} (h:dk (rows,ts,n,())=0) {j:Nat} (hj:j < ts.length):dk (rows,ts.take j++ts.drop (j+1),n,())=0:=by
 have P:=d8 h
 have R:=nN P.l9
 have oB:=sZ h
 simp only at oB
 have hu:∀ x ∈ ts,∃ t,cE rows (dC x.2.1)=some t:=λx hx=>by
  obtain ⟨i,hi,rfl⟩:=List.getElem_of_mem hx
  exact kO P hi
 refine oX P.gK P.len (sG (xC R hj)) P.next (xD R oB j) (Nat.le_trans (m9 λk hk=>?_) P.room) λx hx=>hu x (oZ hx)
 unfold dw at hk ⊢
 rcases List.mem_append.1 hk with g | g
 ·exact List.mem_append_left _ g
 ·refine List.mem_append_right _ ?_
  unfold flatK at g ⊢
  obtain ⟨x,hx,hm⟩:=List.mem_flatMap.1 g
  exact List.mem_flatMap.2 ⟨x,oZ hx,hm⟩
end OT
set_option linter.unusedVariables false
set_option linter.unusedSimpArgs false
set_option linter.unusedSectionVars false
namespace OT
open Go
theorem EI {ts:List Tx} {n:Int} (h:jQ ts) (hx:lZ n ts=false):∀ x ∈ ts,x.1 < n:=λx g0=>by
 obtain ⟨i,hi,rfl⟩:=List.getElem_of_mem g0
 unfold lZ at hx
 rw[List.getElem?_eq_getElem (show ts.length - 1 < ts.length by omega)] at hx
 simp only[decide_eq_false_iff_not] at hx
 by_cases he:i=ts.length - 1
 ·subst he;omega
 ·have:=List.pairwise_iff_getElem.1 h.oY i (ts.length - 1) hi (by omega) (by omega)
  omega
theorem AP {rows:List Row} {ts:List Tx} {n:Int} (h:dk (rows,ts,n,())=0) (OA:¬ n=100) (hl:ts.length < 4):dk (rows,ts++[(n,([]:List Change),([]:List Int),([]:List Key),())],n+1,())=0:=by
 have P:=d8 h
 have R:jQ ts:=nN P.l9
 have oB:=sZ h
 simp only at oB
 have hb:=EI R oB
 have hn:cr n 1 100=true:=P.next
 have tm:=hn
 unfold cr at hn
 simp only[Bool.and_eq_true,decide_eq_true_eq] at hn
 have LJ:flatK (ts++[(n,([]:List Change),([]:List Int),([]:List Key),())])=flatK ts:=by
  rw[Aa]
  have:flatK [(n,([]:List Change),([]:List Int),([]:List Key),())]=[]:=rfl
  rw[this,List.append_nil]
 have hR:jQ (ts++[(n,([]:List Change),([]:List Int),([]:List Key),())]):=by
  refine ⟨by rw[List.length_append,List.length_cons,List.length_nil];omega,λx hx=>?_,?_,by rw[LJ];exact R.apart,?_⟩
  ·rcases List.mem_append.1 hx with g | g
   ·exact R.each x g
   ·rw[List.mem_singleton] at g
    subst g
    refine ⟨?_,rfl⟩
    unfold cr
    simp only[Bool.and_eq_true,decide_eq_true_eq]
    omega
  ·rw[List.pairwise_append]
   refine ⟨R.oY,List.pairwise_singleton _ _,λa ha b Gn=>?_⟩
   rw[List.mem_singleton] at Gn
   subst Gn
   exact hb a ha
  ·rw[nO]
   have:eE [(n,([]:List Change),([]:List Int),([]:List Key),())]=0:=rfl
   have:=R.tt
   omega
 refine oX P.gK P.len (sG hR) ?_ ?_ ?_ ?_
 ·unfold cr
  simp only[Bool.and_eq_true,decide_eq_true_eq]
  omega
 ·unfold lZ
  rw[List.length_append,List.length_cons,List.length_nil,show ts.length+(0+1) - 1=ts.length by omega,List.getElem?_append_right (Nat.le_refl _),Nat.sub_self]
  simp only[List.getElem?_cons_zero,decide_eq_false_iff_not]
  omega
 ·refine Nat.le_trans (m9 λk hk=>?_) P.room
  unfold dw at hk ⊢
  rw[LJ] at hk
  exact hk
 ·intro x hx
  rcases List.mem_append.1 hx with g | g
  ·obtain ⟨i,hi,rfl⟩:=List.getElem_of_mem g
   exact kO P hi
  ·rw[List.mem_singleton] at g
   subst g
   exact ⟨rows,rfl⟩
theorem qe {ts:List Tx} {j:Nat} (hj:j < ts.length) {y:Tx} (hy:y.1=(ts[j]).1) (i:Nat) (hi:i < ts.length):((ts.set j y)[i]'(by rw[List.length_set];exact hi)).1=(ts[i]).1:=by
 rw[List.getElem_set]
 split
 ·rename_i he
  subst he
  exact hy
 ·rfl
theorem sH {rows ka:List Row} {ts:List Tx} {n:Int} (h:dk (rows,ts,n,())=0) {j:Nat} (hj:j < ts.length) {y:Tx} (hg:Good ka) (xE:y.1=(ts[j]).1) (hy:iM y=0) (hk:(flatK (ts.set j y)).Nodup) (hc:(List.length y.2.1:Int)+eE ts<=12+(List.length (ts[j]).2.1:Int)) (hr:fS ka (ts.set j y)<=12)
  (hu:∃ t,cE ka (dC y.2.1)=some t) (ho:∀ i (hi:i < ts.length),i≠j->agree (λk=>∃ c ∈ dC (ts[i]).2.1,ck c=k) rows ka):dk (ka,ts.set j y,n,())=0:=by
 have P:=d8 h
 have R:jQ ts:=nN P.l9
 have T:j0 ts:=gp P.l9
 have oB:=sZ h
 simp only at oB
 have hR:jQ (ts.set j y):=by
  refine ⟨by rw[List.length_set];exact R.len,λx hx=>?_,?_,hk,?_⟩
  ·rcases List.mem_or_eq_of_mem_set hx with g | g
   ·exact R.each x g
   ·rw[g,xE]
    exact ⟨(R.each _ (List.getElem_mem hj)).1,hy⟩
  ·rw[List.pairwise_iff_getElem]
   intro a b ha hb zQ
   rw[List.length_set] at ha hb
   rw[qe hj xE a ha,qe hj xE b hb]
   exact List.pairwise_iff_getElem.1 R.oY a b ha hb zQ
  ·have h1:=m_ hj
   have Y:=m_ (xs:=ts.set j y) (j:=j) (by rw[List.length_set];exact hj)
   rw[List.getElem_set_self,List.take_set_of_le (Nat.le_refl j),List.drop_set_of_lt (by omega)] at Y
   omega
 have hlen:ka.length<=12:=Nat.le_trans (px (xs:=ts.set j y) hg.1) (by unfold fS at hr;exact hr)
 refine oX hg hlen (sG hR) P.next ?_ hr λx hx=>?_
 ·unfold lZ at oB ⊢
  rw[List.length_set,List.getElem?_eq_getElem (show ts.length - 1 < (ts.set j y).length by rw[List.length_set];omega)]
  rw[List.getElem?_eq_getElem (show ts.length - 1 < ts.length by omega)] at oB
  simp only at oB ⊢
  rw[qe hj xE _ (by omega)]
  exact oB
 ·obtain ⟨i,hi,rfl⟩:=List.getElem_of_mem hx
  rw[List.length_set] at hi
  rw[List.getElem_set]
  split
  ·exact hu
  ·rename_i bG
   obtain ⟨t,ht⟩:=kO P hi
   have dy:ts[i] ∈ ts:=List.getElem_mem hi
   exact l5 (K:=λk=>∃ c ∈ dC (ts[i]).2.1,ck c=k) _ rows ka t P.gK hg (jP (T.ch _ dy)) (λc hc=>⟨c,hc,rfl⟩) (ho i hi (λe=>bG e.symm)) ht
end OT
set_option linter.unusedVariables false
set_option linter.unusedSimpArgs false
set_option linter.unusedSectionVars false
namespace OT
open Go
theorem mw {x a b:Int}:cr x a b=true↔a<=x/\x<=b:=by
 unfold cr
 simp only[Bool.and_eq_true,decide_eq_true_eq]
def sI (n:Int) (i:Nat) (ms:List Int) (last:Int):Bool:=aX (λ_ last m=>if cr m last n then .inr m else .inl false) (λ_=>true) i ms last
theorem kP {n:Int} {i:Nat} {x:Int} {ms:List Int} {last:Int}:sI n i (x::ms) last=if cr x last n then sI n (i+1) ms x else false:=by
 unfold sI
 simp only[aX]
 cases cr x last n <;> rfl
theorem vL {n:Int}:∀ (ms:List Int) (i:Nat) (last:Int),last<=n->sI n i ms last=true->sI n i (ms++[n]) last=true
 | [],i,last,hl,h=>by
  rw[List.nil_append,kP,if_pos (mw.2 ⟨hl,Int.le_refl n⟩)]
  rfl
 | x::ms,i,last,hl,h=>by
  rw[kP] at h
  rw[List.cons_append,kP]
  by_cases hx:cr x last n=true
  ·rw[if_pos hx] at h ⊢
   exact vL ms (i+1) x (mw.1 hx).2 h
  ·rw[if_neg hx] at h;cases h
theorem xF {n k:Int}:∀ (ms:List Int) (i m:Nat) (last:Int),sI n i ms last=true->ms[m]?=some k->last<=k/\sI k i (ms.take (m+1)) last=true
 | [],i,m,last,h,hk=>by simp at hk
 | x::ms,i,m,last,h,hk=>by
  rw[kP] at h
  by_cases hx:cr x last n=true
  rotate_left
  ·rw[if_neg hx] at h;cases h
  rw[if_pos hx] at h
  have g0:=mw.1 hx
  cases m with
  | zero=>
   simp only[List.getElem?_cons_zero,Option.some.injEq] at hk
   subst hk
   refine ⟨g0.1,?_⟩
   rw[List.take_succ_cons,List.take_zero,kP,if_pos (mw.2 ⟨g0.1,Int.le_refl x⟩)]
   rfl
  | succ m=>
   simp only[List.getElem?_cons_succ] at hk
   obtain ⟨a,b⟩:=xF ms (i+1) m x h hk
   refine ⟨by omega,?_⟩
   rw[List.take_succ_cons,kP,if_pos (mw.2 ⟨g0.1,a⟩)]
   exact b
theorem rg {n n':Int} (hn:n<=n'):∀ (ms:List Int) (i:Nat) (last:Int),sI n i ms last=true->sI n' i ms last=true
 | [],i,last,h=>rfl
 | x::ms,i,last,h=>by
  rw[kP] at h ⊢
  by_cases hx:cr x last n=true
  ·rw[if_pos hx] at h
   have:=mw.1 hx
   rw[if_pos (mw.2 ⟨this.1,by omega⟩)]
   exact rg hn ms (i+1) x h
  ·rw[if_neg hx] at h;cases h
structure LK (x:Tx):Prop where
 qZ:∀ c ∈ (x.2.1:List Change),iz x.2.2.2.1 c=0
 ml:List.length x.2.2.1<=8
 kl:List.length x.2.2.2.1<=12
 marks:sI (List.length x.2.1:Int) 0 x.2.2.1 0=true
 locks:iK x.2.2.2.1=0
theorem Ab {x:Tx} (h:iM x=0):LK x:=by
 unfold iM at h
 split at h
 ·rename_i hu
  unfold iL at h
  split at h
  ·cases h
  ·rename_i hn
   simp only[Bool.or_eq_true,decide_eq_true_eq,not_or] at hn
   split at h
   ·rename_i hm
    exact ⟨mK hu,by omega,by omega,hm,h⟩
   ·cases h
 ·rename_i hu;exact absurd h hu
theorem yn {x:Tx} (h:LK x):iM x=0:=by
 have hu:pv x=0:=sE h.qZ
 unfold iM
 rw[if_pos hu]
 unfold iL
 have h1:=h.ml
 have Y:=h.kl
 have hm:sr (List.length x.2.1:Int) 0 x.2.2.1=true:=h.marks
 rw[if_neg (by simp only[Bool.or_eq_true,decide_eq_true_eq,not_or];omega),if_pos hm]
 exact h.locks
theorem rh {ts:List Tx} {j:Nat} (hj:j < ts.length) (y:Tx):flatK (ts.set j y)=flatK (ts.take j)++(y.2.2.2.1++flatK (ts.drop (j+1))):=by
 rw[kb (xs:=ts.set j y) (j:=j) (by rw[List.length_set];exact hj),List.getElem_set_self,List.take_set_of_le (Nat.le_refl j),List.drop_set_of_lt (by omega)]
theorem C5 {K:Int×Int->Prop} (s:List Row):agree K s s:=λ_ _=>Iff.rfl
theorem C6 {rows:List Row} {ts:List Tx} {n:Int} (h:dk (rows,ts,n,())=0) {j:Nat} (hj:j < ts.length) (hm:List.length (ts[j]).2.2.1 < 8):dk (rows,ts.set j (ym ts[j]),n,())=0:=by
 have P:=d8 h
 have R:jQ ts:=nN P.l9
 have X:=Ab (R.each _ (List.getElem_mem hj)).2
 have hk:flatK (ts.set j (ym ts[j]))=flatK ts:=by rw[rh hj,kb hj];rfl
 have hc:=R.tt
 refine sH h hj P.gK rfl (yn ⟨X.qZ,?_,X.kl,?_,X.locks⟩) (by rw[hk];exact R.apart) ?_ ?_ (kO P hj) λi hi bG=>C5 rows
 ·show ((ts[j]).2.2.1++[(List.length (ts[j]).2.1:Int)]).length<=8
  rw[List.length_append,List.length_cons,List.length_nil]
  omega
 ·exact vL _ 0 0 (by omega) X.marks
 ·show (List.length (ts[j]).2.1:Int)+eE ts<=_
  omega
 ·refine Nat.le_trans (m9 λk eF=>?_) P.room
  unfold dw at eF ⊢
  rwa [hk] at eF
theorem xG {rows t:List Row} {ts:List Tx} (hg:Good rows) {x:Tx} (hx:x ∈ ts) (N8:iM x=0) (oW:∀ c ∈ (x.2.1:List Change),eM c=0) {cs:List Change} (hs:∀ c ∈ cs,∃ d ∈ x.2.1,c=gc d) (hb:cE rows cs=some t):∀ k ∈ gw t,k ∈ dw rows ts:=λk hk=>by
 have hc:∀ c ∈ cs,eM c=0:=λc hc=>by
  obtain ⟨d,hd,rfl⟩:=hs c hc
  exact jP (cs:=[d]) (λe he=>by rw[List.mem_singleton] at he;rw[he];exact oW d hd) _ (by simp[dC])
 have hf:=l6 cs rows t hg hc hb
 unfold gw at hk
 obtain ⟨r,hr,rfl⟩:=List.mem_map.1 hk
 unfold dw
 rw[List.mem_append]
 by_cases ho:∀ c ∈ cs,ck c≠rk r
 ·left
  unfold gw
  exact List.mem_map.2 ⟨r,(hf r ho).2 hr,rfl⟩
 ·right
  simp only[Classical.not_forall] at ho
  obtain ⟨c,fl,he⟩:=ho
  have he:ck c=rk r:=Classical.not_not.1 he
  obtain ⟨d,hd,rfl⟩:=hs c fl
  have hl:=cx.1 (pz N8 d hd)
  unfold flatK
  refine List.mem_flatMap.2 ⟨x,hx,?_⟩
  unfold cA at hl
  rw[<-sB (oW d hd),he] at hl
  exact hl
theorem tJ {rows t:List Row} {ts:List Tx} (hg:Good rows) (ht:cu ts=0) {i j:Nat} (hi:i < ts.length) (hj:j < ts.length) (bG:i≠j) {cs:List Change} (hs:∀ c ∈ cs,c ∈ dC (ts[j]).2.1) (hb:cE rows cs=some t):agree (λk=>∃ c ∈ dC (ts[i]).2.1,ck c=k) rows t:=by
 have T:j0 ts:=gp ht
 have hc:∀ c ∈ cs,eM c=0:=λc hc=>jP (T.ch _ (List.getElem_mem hj)) c (hs c hc)
 have hf:=l6 cs rows t hg hc hb
 intro r hr
 refine hf r λc fl he=>?_
 obtain ⟨d,hd,Hs⟩:=hr
 have h1:=hs c fl
 rcases Nat.lt_or_gt_of_ne bG with Y | Y
 ·exact nM ht hj Y hd h1 (by rw[Hs,he])
 ·exact nM ht hi Y h1 hd (by rw[Hs,he])
theorem EJ {rows t:List Row} {ts:List Tx} {n:Int} (h:dk (rows,ts,n,())=0) {j:Nat} (hj:j < ts.length) {k m:Nat} (hm:(ts[j]).2.2.1[m]?=some (k:Int)) (Ht:k<=List.length (ts[j]).2.1) (hb:cE rows (dC ((ts[j]).2.1.drop k))=some t):dk (t,ts.set j (CX ts[j] k m),n,())=0:=by
 have P:=d8 h
 have R:jQ ts:=nN P.l9
 have T:j0 ts:=gp P.l9
 have dy:ts[j] ∈ ts:=List.getElem_mem hj
 have hx:=(R.each _ dy).2
 have X:=Ab hx
 have oW:=T.ch _ dy
 have N9:∀ c ∈ (ts[j]).2.1.drop k,eM c=0:=λc hc=>oW c (List.mem_of_mem_drop hc)
 have hg:=(mY _ _ _ P.gK (jP N9) hb).1
 have hk:flatK (ts.set j (CX ts[j] k m))=flatK ts:=by rw[rh hj,kb hj];rfl
 have hc:=R.tt
 have qt:∀ c ∈ dC ((ts[j]).2.1.drop k),c ∈ dC (ts[j]).2.1:=λc hc=>by
  rw[inv_split _ k]
  exact List.mem_append_left _ hc
 have aH:List.length ((ts[j]).2.1.take k)=k:=by rw[List.length_take];omega
 refine sH h hj hg rfl (yn ⟨λc hc=>X.qZ c (List.mem_of_mem_take hc),?_,X.kl,?_,X.locks⟩) (by rw[hk];exact R.apart) ?_ ?_ ?_ λi hi bG=>tJ P.gK P.l9 hi hj bG qt hb
 ·show ((ts[j]).2.2.1.take (m+1)).length<=8
  have:=X.ml
  rw[List.length_take]
  omega
 ·show sI (List.length ((ts[j]).2.1.take k):Int) 0 ((ts[j]).2.2.1.take (m+1)) 0=true
  rw[aH]
  exact (xF _ 0 m 0 X.marks hm).2
 ·show (List.length ((ts[j]).2.1.take k):Int)+eE ts<=_
  rw[aH]
  omega
 ·refine Nat.le_trans (m9 λq hq=>?_) P.room
  unfold dw at hq
  rw[hk] at hq
  rcases List.mem_append.1 hq with g | g
  ·refine xG P.gK dy hx oW (λc hc=>?_) hb q g
   obtain ⟨d,hd,he⟩:=nU hc
   exact ⟨d,List.mem_of_mem_drop hd,he⟩
  ·unfold dw
   exact List.mem_append_right _ g
 ·obtain ⟨t0,wU⟩:=kO P hj
  have wU:cE rows (dC (ts[j]).2.1)=some t0:=wU
  rw[inv_split _ k,back_append,hb,Option.bind_some] at wU
  exact ⟨t0,wU⟩
theorem AQ {rows t:List Row} {ts:List Tx} {n:Int} (h:dk (rows,ts,n,())=0) {j:Nat} (hj:j < ts.length) (hb:cE rows (dC (ts[j]).2.1)=some t):dk (t,ts.take j++ts.drop (j+1),n,())=0:=by
 have P:=d8 h
 have R:jQ ts:=nN P.l9
 have T:j0 ts:=gp P.l9
 have oB:=sZ h
 simp only at oB
 have dy:ts[j] ∈ ts:=List.getElem_mem hj
 have hx:=(R.each _ dy).2
 have oW:=T.ch _ dy
 have hg:=(mY _ _ _ P.gK (jP oW) hb).1
 have nw:fS t (ts.take j++ts.drop (j+1))<=12:=by
  refine Nat.le_trans (m9 λq hq=>?_) P.room
  unfold dw at hq
  rcases List.mem_append.1 hq with g | g
  ·exact xG P.gK dy hx oW (λc hc=>by
    obtain ⟨d,hd,he⟩:=nU hc
    exact ⟨d,hd,he⟩) hb q g
  ·unfold dw
   refine List.mem_append_right _ ?_
   unfold flatK at g ⊢
   obtain ⟨x,hx,hm⟩:=List.mem_flatMap.1 g
   exact List.mem_flatMap.2 ⟨x,oZ hx,hm⟩
 have hlen:t.length<=12:=Nat.le_trans (px (xs:=ts.take j++ts.drop (j+1)) hg.1) (by unfold fS at nw;exact nw)
 refine oX hg hlen (sG (xC R hj)) P.next (xD R oB j) nw λx hx=>?_
 have:∃ (i:Nat) (hi:i < ts.length),i≠j/\ts[i]=x:=by
  rcases List.mem_append.1 hx with g | g
  ·obtain ⟨i,hi,rfl⟩:=List.getElem_of_mem g
   rw[List.length_take] at hi
   exact ⟨i,by omega,by omega,by rw[List.getElem_take]⟩
  ·obtain ⟨i,hi,rfl⟩:=List.getElem_of_mem g
   rw[List.length_drop] at hi
   exact ⟨j+1+i,by omega,by omega,by rw[List.getElem_drop]⟩
 obtain ⟨i,hi,bG,rfl⟩:=this
 obtain ⟨t1,N_⟩:=kO P hi
 exact l5 (K:=λk=>∃ c ∈ dC (ts[i]).2.1,ck c=k) _ rows t t1 P.gK hg (jP (T.ch _ (List.getElem_mem hi))) (λc hc=>⟨c,hc,rfl⟩) (tJ P.gK P.l9 hi hj bG (λc hc=>hc) hb) N_
end OT
set_option linter.unusedVariables false
set_option linter.unusedSimpArgs false
set_option linter.unusedSectionVars false
namespace OT
open Go
theorem Ac {ks:List Key} (hk:∀ k ∈ ks,gv k=true) (hn:ks.Nodup):iK ks=0:=by
 have main:∀ (ys pre:List Key),pre++ys=ks->aX (λi (_:Unit) k=>if fR ks i k=0 then .inr () else .inl (fR ks i k)) (λ_=>(0:Int)) pre.length ys ()=0:=by
  intro ys
  induction ys with
  | nil=>intro pre _;rfl
  | cons y ys ih=>
   intro pre hp
   have h1:fR ks pre.length y=0:=by
    unfold fR
    have hy:y ∈ ks:=by rw[<-hp];exact List.mem_append_right _ List.mem_cons_self
    have ht:ks.take pre.length=pre:=by rw[<-hp,List.take_left]
    have hx:cb pre y=false:=by
     cases hh:cb pre y with
     | false=>rfl
     | true=>
      have hm:=cx.1 hh
      rw[<-hp,List.nodup_append] at hn
      exact absurd rfl (hn.2.2 y hm y List.mem_cons_self)
    rw[if_pos (hk y hy),ht,hx]
    rfl
   simp only[aX]
   rw[if_pos h1]
   have:=ih (pre++[y]) (by rw[List.append_assoc];exact hp)
   rwa [List.length_append,List.length_cons,List.length_nil] at this
 exact main ks [] rfl
theorem C7 {rows:List Row} {ts:List Tx} {n:Int} {o:Op} (h:dk (rows,ts,n,())=0) (qd:cQ o.2.2.1=0) {j:Nat} (hj:j < ts.length) (tK:(ts[j]).1=o.2.1) (ht:(hK rows ts o).2.1=true) :
  dk (dI rows (aU rows o).1,ts.set j (dJ ts[j] (aU rows o).1),n,())=0:=by
 have P:=d8 h
 have R:jQ ts:=nN P.l9
 have T:j0 ts:=gp P.l9
 have dy:ts[j] ∈ ts:=List.getElem_mem hj
 have hx:=(R.each _ dy).2
 have X:=Ab hx
 have oW:=T.ch _ dy
 obtain ⟨r1,r2,r3,r4,r5,r6⟩:=ld ht
 obtain ⟨w1,w2,w3,w4⟩:=j9 P.gK qd r2
 simp only at w1 w2 w3
 have hq:cA (aU rows o).1=(o.2.2.1.1,o.2.2.1.2.1,()):=by unfold cA;rw[w2];rfl
 have fl:k9 (aU rows o).1=0:=by
  unfold k9
  rw[if_pos w1,Bool.and_assoc,if_neg (by rw[r5];decide)]
 generalize (aU rows o).1=c at *
 have tZ:¬ (o.2.2.1.2.1=0):=by have:=ut qd;omega
 have sF:gv (o.2.2.1.1,o.2.2.1.2.1,())=true:=by
  grind [cQ,gv]
 obtain ⟨q,tL⟩:∃ q:Key,q=(o.2.2.1.1,o.2.2.1.2.1,()):=⟨_,rfl⟩
 have pw:∀ x ∈ ts,x.1≠o.2.1->q ∉ (x.2.2.2.1:List Key):=λx g0 bG hm=>by
  have:l8 ts o.2.1 (o.2.2.1.1,o.2.2.1.2.1,())=true:=by
   unfold l8
   rw[List.any_eq_true]
   refine ⟨x,g0,?_⟩
   rw[decide_eq_false bG,Bool.not_false,Bool.true_and,List.any_eq_true]
   exact ⟨q,hm,by rw[tL];unfold kG;rw[decide_eq_true rfl,Bool.true_or]⟩
  rw[this] at r1
  cases r1
 have ir:∀ i (hi:i < ts.length),i≠j->(ts[i]).1≠o.2.1:=λi hi bG=>by
  rw[<-tK]
  rcases Nat.lt_or_gt_of_ne bG with h1 | h1
  ·have:=List.pairwise_iff_getElem.1 R.oY i j hi hj h1
   omega
  ·have:=List.pairwise_iff_getElem.1 R.oY j i hj hi h1
   omega
 rw[<-tL] at hq sF r3
 have EK:¬ q.2.1=0:=by rw[tL];exact tZ
 have C8:((ck c).1,(ck c).2,())=q:=hq
 obtain ⟨L,hL⟩:∃ L,L=(if cb (ts[j]).2.2.2.1 (cA c) then (ts[j]).2.2.2.1 else (ts[j]).2.2.2.1++[cA c]):=⟨_,rfl⟩
 have sJ:∀ k,k ∈ L↔k ∈ (ts[j]).2.2.2.1\/k=q:=λk=>by
  rw[hL,hq]
  split
  ·rename_i hh
   have:=cx.1 hh
   constructor
   ·exact .inl
   ·rintro (h1 | h1)
    ·exact h1
    ·rw[h1];exact this
  ·rw[List.mem_append,List.mem_singleton]
 have jU:=kb hj
 have iH:=R.apart
 have no:flatK (ts.set j (dJ ts[j] c))=flatK (ts.take j)++(L++flatK (ts.drop (j+1))):=by
  rw[rh hj,hL]
  rfl
 have Ad:q ∉ flatK (ts.take j)/\q ∉ flatK (ts.drop (j+1)):=by
  unfold flatK
  constructor
  ·intro hm
   obtain ⟨x,g0,hm⟩:=List.mem_flatMap.1 hm
   obtain ⟨i,hi,rfl⟩:=List.getElem_of_mem g0
   rw[List.length_take] at hi
   rw[List.getElem_take] at hm
   exact pw _ (List.getElem_mem (by omega)) (ir i (by omega) (by omega)) hm
  ·intro hm
   obtain ⟨x,g0,hm⟩:=List.mem_flatMap.1 hm
   obtain ⟨i,hi,rfl⟩:=List.getElem_of_mem g0
   rw[List.length_drop] at hi
   rw[List.getElem_drop] at hm
   exact pw _ (List.getElem_mem (by omega)) (ir (j+1+i) (by omega) (by omega)) hm
 have uy:(flatK (ts.take j)++(L++flatK (ts.drop (j+1)))).Nodup:=by
  rw[hL,hq]
  rw[jU] at iH
  split
  ·exact iH
  ·rename_i hh
   have pe:q ∉ (ts[j]).2.2.2.1:=λhm=>hh (cx.2 hm)
   have hp:(flatK (ts.take j)++((ts[j]).2.2.2.1++[q]++flatK (ts.drop (j+1)))).Perm (q::(flatK (ts.take j)++((ts[j]).2.2.2.1++flatK (ts.drop (j+1))))):=by
    rw[show flatK (ts.take j)++((ts[j]).2.2.2.1++[q]++flatK (ts.drop (j+1)))=(flatK (ts.take j)++(ts[j]).2.2.2.1)++q::flatK (ts.drop (j+1)) by simp,<- List.append_assoc]
    exact List.perm_middle
   rw[hp.nodup_iff,List.nodup_cons]
   refine ⟨λhm=>?_,iH⟩
   rcases List.mem_append.1 hm with g | g
   ·exact Ad.1 g
   ·rcases List.mem_append.1 g with g | g
    ·exact pe g
    ·exact Ad.2 g
 have EL:L.Nodup:=by
  rw[List.nodup_append] at uy
  exact (List.nodup_append.1 uy.2.1).1
 have F8:L.length<=12:=by
  refine Nat.le_trans (nV L (dd [] (dw rows ts++oT q)) EL λk hk=>?_) (by unfold kF at r3;exact_mod_cast r3)
  rw[qb]
  right
  rw[List.mem_append]
  rcases (sJ k).1 hk with g | g
  ·left
   unfold dw
   refine List.mem_append_right _ ?_
   rw[jU]
   exact List.mem_append_right _ (List.mem_append_left _ g)
  ·right
   unfold oT
   rw[if_neg EK,g]
   exact List.mem_singleton.2 rfl
 have Ae:iK L=0:=Ac (λk hk=>by
  rcases (sJ k).1 hk with g | g
  ·exact T.keys _ dy k g
  ·rw[g];exact sF) EL
 have Hu:q ∈ L:=(sJ q).2 (.inr rfl)
 have hy:iM (dJ ts[j] c)=0:=by
  have e:dJ ts[j] c=((ts[j]).1,(ts[j]).2.1++[c],(ts[j]).2.2.1,L,()):=by unfold dJ;rw[hL]
  rw[e]
  refine yn ⟨λd hd=>?_,X.ml,F8,?_,Ae⟩
  ·rcases List.mem_append.1 hd with g | g
   ·have h1:=X.qZ d g
    unfold iz at h1 ⊢
    split at h1
    ·rename_i Y
     split at h1
     ·rename_i h3
      rw[if_pos Y,if_pos (cx.2 ((sJ _).2 (.inl (cx.1 h3))))]
     ·cases h1
    ·rename_i Y;exact absurd h1 Y
   ·rw[List.mem_singleton] at g
    subst g
    unfold iz
    rw[if_pos fl,hq,if_pos (cx.2 Hu)]
  ·exact rg (by rw[List.length_append];omega) _ 0 0 X.marks
 have xh:=fD P.gK w1
 have Hv:=λr=>jc (xs:=rows) P.gK.1 c r
 obtain ⟨i1,i2⟩:=uu P.gK w1 w3
 have Hw:c.2.2.1=true->rk c.2.2.2.1=ck c:=(mt w1).1
 have Mu:eE ts < 12:=r4
 refine sH h hj xh rfl hy (by rw[no];exact uy) ?_ ?_ ?_ λi hi bG=>?_
 ·show (((ts[j]).2.1++[c]).length:Int)+eE ts<=_
  rw[List.length_append,List.length_cons,List.length_nil]
  omega
 ·refine Nat.le_trans (z_ (q:=q) EK λk hk=>?_) (by exact_mod_cast r3)
  unfold dw at hk ⊢
  rw[no] at hk
  rcases List.mem_append.1 hk with g | g
  ·unfold gw at g
   obtain ⟨r,hr,rfl⟩:=List.mem_map.1 g
   rcases (Hv r).1 hr with g1 | g1
   ·exact .inl (List.mem_append_left _ (List.mem_map.2 ⟨r,g1.1,rfl⟩))
   ·right
    have:=Hw g1.1
    rw[<-C8,<- this,g1.2]
    rfl
  ·rcases List.mem_append.1 g with g | g
   ·left
    rw[jU]
    exact List.mem_append_right _ (List.mem_append_left _ g)
   ·rcases List.mem_append.1 g with g | g
    ·rcases (sJ k).1 g with g | g
     ·left
      rw[jU]
      exact List.mem_append_right _ (List.mem_append_right _ (List.mem_append_left _ g))
     ·exact .inr g
    ·left
     rw[jU]
     exact List.mem_append_right _ (List.mem_append_right _ (List.mem_append_right _ g))
 ·obtain ⟨t0,wU⟩:=kO P hj
  have e:dC (dJ ts[j] c).2.1=gc c::dC (ts[j]).2.1:=by
   show dC ((ts[j]).2.1++[c])=_
   unfold dC
   rw[List.reverse_append]
   rfl
  rw[e]
  refine ⟨t0,?_⟩
  simp only[cE]
  rw[if_pos i1,i2]
  exact wU
 ·intro r hr
  obtain ⟨d,hd,Hs⟩:=hr
  have J3:rk r≠ck c:=λhe=>by
   obtain ⟨d0,EB,rfl⟩:=nU hd
   have F9:ts[i] ∈ ts:=List.getElem_mem hi
   have hl:=cx.1 (pz (R.each _ F9).2 d0 EB)
   have IW:=sB (T.ch _ F9 d0 EB)
   refine pw _ F9 (ir i hi bG) ?_
   have:cA d0=q:=by unfold cA;rw[<-IW,Hs,he];exact C8
   rw[<-this]
   exact hl
  rw[Hv]
  constructor
  ·exact λh1=>.inl ⟨h1,J3⟩
  ·rintro (h1 | h1)
   ·exact h1.1
   ·exact absurd (by rw[h1.2];exact Hw h1.1) J3
end OT
set_option linter.unusedVariables false
set_option linter.unusedSimpArgs false
set_option linter.unusedSectionVars false
namespace OT
open Go
inductive ke:Plain->Op->Int->Plain->Prop
 | vM {rows:List Row} {ts:List Tx} {n:Int} {o:Op} (hk:o.1=1) (hn:¬ n=100) (hl:ts.length < 4):ke (rows,ts,n,()) o n (rows,ts++[pO n],n+1,())
 | J4 {rows:List Row} {ts:List Tx} {n:Int} {o:Op} (hk:o.1=9):ke (rows,ts,n,()) o 0 (rows,ts,n,())
 | Hx {rows:List Row} {ts:List Tx} {n:Int} {o:Op} {j:Nat} (hk:o.1=5) (hj:j < ts.length) (ir:(ts[j]).1=o.2.1) (hm:List.length (ts[j]).2.2.1 < 8):ke (rows,ts,n,()) o (List.length (ts[j]).2.2.1:Int) (rows,ts.set j (ym ts[j]),n,())
 | Hy {rows t:List Row} {ts:List Tx} {n:Int} {o:Op} {j m k:Nat} (hk:o.1=6) (hj:j < ts.length) (ir:(ts[j]).1=o.2.1) (LL:o.2.2.2.1=(m:Int)) (hm:(ts[j]).2.2.1[m]?=some (k:Int)) (Ht:k<=List.length (ts[j]).2.1) (hb:cE rows (dC ((ts[j]).2.1.drop k))=some t):ke (rows,ts,n,()) o 0 (t,ts.set j (CX ts[j] k m),n,())
 | BL {rows:List Row} {ts:List Tx} {n:Int} {o:Op} {j:Nat} (hk:o.1=7) (hj:j < ts.length) (ir:(ts[j]).1=o.2.1):ke (rows,ts,n,()) o 0 (rows,ts.take j++ts.drop (j+1),n,())
 | EM {rows t:List Row} {ts:List Tx} {n:Int} {o:Op} {j:Nat} (hk:o.1=8) (hj:j < ts.length) (ir:(ts[j]).1=o.2.1) (hb:cE rows (dC (ts[j]).2.1)=some t):ke (rows,ts,n,()) o 0 (t,ts.take j++ts.drop (j+1),n,())
 | C9 {rows:List Row} {ts:List Tx} {n:Int} {o:Op} {j:Nat} (hk:jw o.1=true) (hj:j < ts.length) (ir:(ts[j]).1=o.2.1) (hr:cQ o.2.2.1=0) (ht:(hK rows ts o).2.1=true):ke (rows,ts,n,()) o 0 (dI rows (aU rows o).1,ts.set j (dJ ts[j] (aU rows o).1),n,())
 | Hz {rows:List Row} {ts:List Tx} {n:Int} {o:Op} {j:Nat} (hk:jw o.1=true) (hj:j < ts.length) (ir:(ts[j]).1=o.2.1) (ht:(jx rows ts o).2.1=false):ke (rows,ts,n,()) o 0 (rows,ts,n,())
section
variable {rows:List Row} {ts:List Tx} {n:Int} {o:Op} (h:dk (rows,ts,n,())=0) (Y:(jx rows ts o).1=0)
include h Y
end
theorem nP {p:Plain} {o:Op} {v:Int} {q:Plain} (h:dk p=0) (hs:ke p o v q):dk q=0:=by
 cases hs with
 | vM hk hn hl=>exact AP h hn hl
 | J4 hk=>exact h
 | Hx hk hj ir hm=>exact C6 h hj hm
 | Hy hk hj ir LL hm Ht hb=>exact EJ h hj hm Ht hb
 | BL hk hj ir=>exact C4 h hj
 | EM hk hj ir hb=>exact AQ h hj hb
 | C9 hk hj ir hr ht=>exact C7 h hr hj ir ht
 | Hz hk hj ir ht=>exact h
theorem uz {p:Plain} {o:Op} {v:Int} {q:Plain} (hp:BD p) (h:dk p=0) (hs:ke p o v q):BD q:=by
 have hq:=d8 (nP h hs)
 have P:=d8 h
 have T:j0 p.2.1:=gp P.l9
 refine ⟨by have:=hq.len;omega,λx hx=>by have:=k_ (hq.gK.2 x hx);unfold rl;rw[ak];omega,?_⟩
 obtain ⟨_,_,ht⟩:=hp
 cases hs with
 | vM hk hn hl=>exact Ih ht (Nat.le_of_lt hl) _
 | J4 hk=>exact ht
 | Hx hk hj ir hm=>exact wC ht _ (If (ht.2 _ (List.getElem_mem hj)) (Nat.le_of_lt hm))
 | Hy hk hj ir LL hm Ht hb=>exact wC ht _ (J0 (ht.2 _ (List.getElem_mem hj)) _ _)
 | BL hk hj ir=>exact zZ ht _
 | EM hk hj ir hb=>exact zZ ht _
 | @C9 rows ts n _ j hk hj ir hr KK=>
  obtain ⟨r1,r2,_⟩:=ld KK
  exact wC ht _ (Ig (ht.2 _ (List.getElem_mem hj)) (T.qZ _ (List.getElem_mem hj)) (T.locks _ (List.getElem_mem hj)) (j9 P.gK hr r2).2.2.2)
 | Hz hk hj ir pX=>exact ht
end OT
set_option linter.unusedVariables false
set_option linter.unusedSimpArgs false
set_option linter.unusedSectionVars false
namespace OT
open Go
section
variable {ps:N3} (hp:∀ p ∈ ps,p.length<=maxLen)
include hp
end
end OT
set_option linter.unusedVariables false
set_option linter.unusedSimpArgs false
set_option linter.unusedSectionVars false
namespace OT
open Go
end OT
set_option linter.unusedVariables false
set_option linter.unusedSimpArgs false
set_option linter.unusedSectionVars false
namespace OT
open Go
end OT
set_option linter.unusedVariables false
set_option linter.unusedSimpArgs false
set_option linter.unusedSectionVars false
namespace OT
open Go
end OT
set_option linter.unusedVariables false
set_option linter.unusedSimpArgs false
set_option linter.unusedSectionVars false
namespace OT
open Go
theorem Ij (x y:Row):Ty.eq aw x y=decide (x=y):=by
 cases h:Ty.eq aw x y with
 | true=>rw[Er h];simp
 | false=>
  have:¬ x=y:=λhe=>by
   subst he
   have e:Ty.eq aw x x=(decide (x.1=x.1)&&(decide (x.2.1=x.2.1)&&(decide (x.2.2.1=x.2.2.1)&&(decide (x.2.2.2.1=x.2.2.2.1)&&true)))):=rfl
   rw[e] at h
   simp at h
  rw[decide_eq_false this]
def sameAt {α:Type} [DecidableEq α] (ys:List α) (i:Nat) (x:α):Bool:=match ys[i]? with | some y=>decide (x=y) | none=>true
theorem vN {α:Type} [DecidableEq α] {ys:List α} {i:Nat} (h:i < ys.length) (x:α):sameAt ys i x=decide (x=ys[i]):=by unfold sameAt;rw[List.getElem?_eq_getElem h]
theorem xH {α:Type} [DecidableEq α] (ys:List α):∀ (l:List α) (j:Nat),j+l.length=ys.length->aX (λi (_:Unit) x=>if sameAt ys i x then .inr () else .inl (false,())) (λ_=>(true,())) j l ()=(decide (l=ys.drop j),())
 | [],j,h=>by
  have:ys.drop j=[]:=List.drop_eq_nil_of_le (by simpa using Nat.le_of_eq h.symm)
  simp[aX,this]
 | x::l,j,h=>by
  have hj:j < ys.length:=by simp only[List.length_cons] at h;omega
  have hd:ys.drop j=ys[j]::ys.drop (j+1):=(List.drop_eq_getElem_cons hj)
  simp only[aX,vN hj]
  by_cases hx:x=ys[j]
  ·rw[if_pos (by simpa using hx)]
   have:=xH ys l (j+1) (by simp only[List.length_cons] at h;omega)
   refine this.trans ?_
   rw[hd,hx]
   congr 1
   exact decide_eq_decide.2 ⟨λh=>by rw[h],λh=>by injection h⟩
  ·rw[if_neg (by simpa using hx),hd]
   have bG:¬ x::l=ys[j]::ys.drop (j+1):=λh=>hx (by injection h)
   rw[decide_eq_false bG]
theorem EN (xs ys:List Row) (h:xs.length<=1000):dH.aa (xs,ys,())=some (decide (xs=ys),()):=by
 refine ah (k:=1100) λk hk=>(dH.ab k _).trans ?_
 unfold dH.p
 by_cases hl:xs.length=ys.length
 rotate_left
 ·have Bs:¬ ((xs.length:Int)=(ys.length:Int)):=by omega
  have bG:¬ xs=ys:=λhe=>hl (by rw[he])
  rw[decide_eq_false Bs,Bool.not_false,cond_true,decide_eq_false bG]
 have Bs:(xs.length:Int)=(ys.length:Int):=by omega
 rw[decide_eq_true Bs,Bool.not_true,cond_false]
 have:=b_ (B:=λself v=>dH.B0 k self (λz=>dH.Q0 k (xs,ys,()) z) (xs,ys,()) v) xs (λ(_:Unit) (i:Int)=>i) (λi _ x=>if sameAt ys i x then .inr () else .inl (false,())) (λ_=>(true,())) (λ_ _=>True) (by rw[ak];omega)
  (λi hi s self _=>by
   show dH.b0 _ _ _ _=_
   unfold dH.b0
   have aH:(i:Int) < (xs.length:Int):=by omega
   rw[decide_eq_true aH,cond_true,if_pos (Int.natCast_nonneg i)]
   simp only[Int.toNat_natCast,List.getElem?_eq_getElem hi,List.getElem?_eq_getElem (show i < ys.length by omega),Option.bind_some,Ij]
   rw[if_pos (Int.natCast_nonneg i)]
   rw[vN (show i < ys.length by omega)]
   by_cases hx:xs[i]=ys[i]'(by omega)
   ·rw[decide_eq_true hx];rfl
   ·rw[decide_eq_false hx];rfl)
  (λ_ _ _ _ _ _=>trivial) (λs self _=>by
   show dH.b0 _ _ _ _=_
   unfold dH.b0
   rw[decide_eq_false (Int.lt_irrefl _),cond_false]
   rfl) () trivial k (by omega)
 rw[xH ys xs 0 (by omega)] at this
 exact this
end OT
set_option linter.unusedVariables false
set_option linter.unusedSimpArgs false
set_option linter.unusedSectionVars false
namespace OT
open Go
end OT
set_option linter.unusedVariables false
set_option linter.unusedSimpArgs false
set_option linter.unusedSectionVars false
namespace OT
open Go
end OT
set_option linter.unusedVariables false
set_option linter.unusedSimpArgs false
set_option linter.unusedSectionVars false
namespace OT
open Go
def bA (s:aD) (b:Int):Prop:=List.length s.1<=1048576/\0<=s.2.1/\s.2.1<=b
theorem bA.mono {s:aD} {a b:Int} (h:bA s a) (hb:a<=b):bA s b:=⟨h.1,h.2.1,Int.le_trans h.2.2 hb⟩
theorem qf {v n:Int} (hv:0<=v) (hn:1<=n):0<=v.tmod n/\v.tmod n < n:=by
 rw[Int.tmod_eq_emod_of_nonneg hv]
 exact ⟨Int.emod_nonneg _ (by omega),Int.emod_lt_of_pos _ (by omega)⟩
theorem gB {s:aD} {b n:Int} (h:bA s b) (hb:b<=1000000) (hn:1<=n) (pe:n<=1000000):∃ v t,aj.aa (s,n,())=some (v,t,())/\0<=v/\v < n/\bA t (b+1):=by
 obtain ⟨c,a,⟨⟩⟩:=s
 obtain ⟨hc,ha,zQ⟩:=h
 replace hc:c.length<=1048576:=hc
 replace ha:0<=a:=ha
 replace zQ:a<=b:=zQ
 have h1:ap (a+1)=a+1:=dz (by omega)
 have Y:ap (a+1 - 1)=a:=by rw[dz (by omega)];omega
 suffices hs:∃ v,(0<=v/\v < n)/\aj.p ((c,a,()),n,())=some (v,(c,a+1,()),()) by
  obtain ⟨v,hv,hp⟩:=hs
  exact ⟨v,(c,a+1,()),ah (k:=0) λk _=>(aj.ab k _).trans hp,hv.1,hv.2,hc,by show 0<=a+1;omega,by show a+1<=b+1;omega⟩
 unfold aj.p
 have n1:¬ n < 1:=by omega
 have n0:¬ n=0:=by omega
 simp only[n1,n0,h1,Y,decide_false,cond_false,if_false]
 by_cases hl:c.length=0
 ·have e:(c.length:Int)=0:=by omega
  simp only[e,decide_true,cond_true]
  exact ⟨_,qf (by rw[dz (by omega)];omega) hn,rfl⟩
 have e:¬ (c.length:Int)=0:=by omega
 have q0:=qf (v:=a) (n:=(c.length:Int)) ha (by omega)
 have q1:=qf (v:=a+1) (n:=(c.length:Int)) (by omega) (by omega)
 have i0:(a.tmod (c.length:Int)).toNat < c.length:=by omega
 have i1:((a+1).tmod (c.length:Int)).toNat < c.length:=by omega
 simp only[e,decide_false,cond_false,if_false,q0.1,q1.1,if_true,List.getElem?_eq_getElem i0,List.getElem?_eq_getElem i1,Option.bind_some]
 have hd:0<=a.tdiv (c.length:Int)/\a.tdiv (c.length:Int)<=a:=by
  rw[Int.tdiv_eq_ediv_of_nonneg ha]
  exact ⟨Int.ediv_nonneg ha (by omega),Int.ediv_le_self _ ha⟩
 have b0:(c[(a.tmod (c.length:Int)).toNat]).toNat < 256:=UInt8.toNat_lt _
 have b1:(c[((a+1).tmod (c.length:Int)).toNat]).toNat < 256:=UInt8.toNat_lt _
 generalize (c[(a.tmod (c.length:Int)).toNat]).toNat=x at b0 ⊢
 generalize (c[((a+1).tmod (c.length:Int)).toNat]).toNat=y at b1 ⊢
 generalize a.tdiv (c.length:Int)=d at hd ⊢
 have w1:ap (x:Int)=(x:Int):=dz (by omega)
 have w0:ap d=d:=dz (by omega)
 have w2:ap (d*37)=d*37:=dz (by omega)
 have w3:ap ((x:Int)+d*37)=(x:Int)+d*37:=dz (by omega)
 by_cases J5:200 < n
 ·simp only[J5,decide_true,cond_true,w0,w1,w2,w3]
  have w4:ap (((x:Int)+d*37)*251)=((x:Int)+d*37)*251:=dz (by omega)
  have w5:ap (y:Int)=(y:Int):=dz (by omega)
  have w6:ap ((y:Int)*13)=(y:Int)*13:=dz (by omega)
  have w7:ap (((x:Int)+d*37)*251+(y:Int)*13)=((x:Int)+d*37)*251+(y:Int)*13:=dz (by omega)
  have w8:ap (((x:Int)+d*37)*251+(y:Int)*13+a)=((x:Int)+d*37)*251+(y:Int)*13+a:=dz (by omega)
  simp only[w4,w5,w6,w7,w8]
  exact ⟨_,qf (by omega) hn,rfl⟩
 ·simp only[J5,decide_false,cond_false,w0,w1,w2,w3]
  exact ⟨_,qf (by omega) hn,rfl⟩
theorem xI {s:aD} {b n:Int} (h:bA s b) (hb:b<=1000000) (hn:1<=n) (pe:n<=1000000):∃ v t,bK.aa (s,n,())=some (v,t,())/\bA t (b+1):=by
 obtain ⟨v,t,h1,_,_,Y⟩:=gB h hb hn pe
 refine ⟨decide (v=0),t,ah (k:=0) λk _=>(bK.ab k _).trans ?_,Y⟩
 unfold bK.p
 rw[h1]
 rfl
theorem qg {s:aD} {b:Int} (h:bA s b) (hb:b<=1000000) (l:List Int) (hn:1<=l.length) (pe:l.length<=1000000):∃ v t,aM.aa (s,l,())=some (v,t,())/\v ∈ l/\bA t (b+1):=by
 obtain ⟨v,t,h1,Y,h3,h4⟩:=gB (n:=(l.length:Int)) h hb (by omega) (by omega)
 have hi:v.toNat < l.length:=by omega
 refine ⟨l[v.toNat],t,ah (k:=0) λk _=>(aM.ab k _).trans ?_,List.getElem_mem hi,h4⟩
 unfold aM.p
 rw[h1]
 simp only[Option.bind_some,Y,if_true,List.getElem?_eq_getElem hi]
theorem BM {α:Type} (l:List α) {v:Int} (h:0<=v/\v < (l.length:Int)):∃ x,l[v.toNat]?=some x/\x ∈ l:=by
 have hi:v.toNat < l.length:=by omega
 exact ⟨l[v.toNat],List.getElem?_eq_getElem hi,List.getElem_mem hi⟩
theorem o3 {m:Nat} (h:m<=1000):ap (((m+1:Nat):Int) - 1)=(m:Int):=by rw[dz (by omega)];omega
theorem uA {X O V:Type} (M:Int) {B:(V->Option O)->V->Option O} (enc:aD->X->Int->V) (I:Int->X->Prop) (d:Int) (hd:0<=d) (G:aD->X->Option O)
  (dy:∀ (n:Nat) (s:aD) (x:X) (b:Int),n<=1000->bA s b->b<=M->I b x->∃ s' x',bA s' (b+d)/\I (b+d) x'/\∀ self,B self (enc s x ((n+1:Nat):Int))=self (enc s' x' (n:Int)))
  (qQ:∀ (s:aD) (x:X) (b:Int),bA s b->I b x->∀ self,B self (enc s x 0)=G s x) :
  ∀ (n:Nat) (s:aD) (x:X) (b:Int),n<=1000->bA s b->I b x->b+d*n<=M->∃ s' x',bA s' (b+d*n)/\I (b+d*n) x'/\∀ k,n < k->au B k (enc s x (n:Int))=G s' x'
 | 0,s,x,b,_,hs,hI,_=>⟨s,x,by simpa using hs,by simpa using hI,λk hk=>by
   obtain ⟨j,rfl⟩:∃ j,k=j+1:=⟨k - 1,by omega⟩
   rw[lK]
   exact qQ s x b hs hI _⟩
 | n+1,s,x,b,hn,hs,hI,hb=>by
  have hm:d*((n+1:Nat):Int)=d+d*(n:Int):=by rw[Int.natCast_succ,Int.mul_add,Int.mul_one,Int.add_comm]
  have hp:0<=d*(n:Int):=Int.mul_nonneg hd (by omega)
  obtain ⟨s1,x1,J,a2,a3⟩:=dy n s x b (by omega) hs (by omega) hI
  obtain ⟨s2,x2,c1,c2,c3⟩:=uA M enc I d hd G dy qQ n s1 x1 (b+d) (by omega) J a2 (by omega)
  have e:b+d*((n+1:Nat):Int)=b+d+d*(n:Int):=by omega
  refine ⟨s2,x2,e ▸ c1,e ▸ c2,λk hk=>?_⟩
  obtain ⟨j,rfl⟩:∃ j,k=j+1:=⟨k - 1,by omega⟩
  rw[lK,a3]
  exact c3 j (by omega)
theorem BN {X O V:Type} (M:Int) {B:(V->Option O)->V->Option O} (enc:aD->X->Int->V) (I:Int->X->Prop) (d:Int) (hd:0<=d) (fin:aD->X->O)
  (dy:∀ (n:Nat) (s:aD) (x:X) (b:Int),n<=1000->bA s b->b<=M->I b x->∃ s' x',bA s' (b+d)/\I (b+d) x'/\∀ self,B self (enc s x ((n+1:Nat):Int))=self (enc s' x' (n:Int)))
  (qQ:∀ (s:aD) (x:X) (b:Int),bA s b->I b x->∀ self,B self (enc s x 0)=some (fin s x)) (n:Nat) (s:aD) (x:X) (b:Int) (hn:n<=1000) (hs:bA s b) (hI:I b x) (hb:b+d*n<=M) :
  ∃ s' x',bA s' (b+d*n)/\I (b+d*n) x'/\∀ k,n < k->au B k (enc s x (n:Int))=some (fin s' x'):=
 uA M enc I d hd (λs x=>some (fin s x)) dy qQ n s x b hn hs hI hb
end OT
set_option linter.unusedVariables false
set_option linter.unusedSimpArgs false
set_option linter.unusedSectionVars false
namespace OT
open Go
end OT
set_option linter.unusedVariables false
set_option linter.unusedSimpArgs false
set_option linter.unusedSectionVars false
namespace OT
open Go
theorem nQ {s:aD} {b:Int} (h:bA s b) (hb:b<=900000):∃ r t,cF.aa (s,())=some (r,t,())/\cQ r=0/\bA t (b+5):=by
 obtain ⟨v1,t1,e1,J,c1,s1⟩:=gB (n:=3) h (by omega) (by omega) (by omega)
 obtain ⟨v2,t2,e2,a2,c2,s2⟩:=gB (n:=6) s1 (by omega) (by omega) (by omega)
 obtain ⟨v3,t3,e3,a3,c3,s3⟩:=gB (n:=9) s2 (by omega) (by omega) (by omega)
 obtain ⟨v4,t4,e4,m4,s4⟩:=qg s3 (by omega) [v3,(300:Int),(999:Int)] (by simp) (by simp)
 obtain ⟨v5,t5,e5,a5,c5,s5⟩:=gB (n:=4) s4 (by omega) (by omega) (by omega)
 obtain ⟨x,hx,mx⟩:=BM [([]:List UInt8),([97]:List UInt8),([97,98,99]:List UInt8),([97,98,99,100,101,102,103,104]:List UInt8)] (v:=v5) ⟨a5,by simpa using c5⟩
 have w1:ap (1+v2)=1+v2:=dz (by omega)
 refine ⟨(v1,1+v2,v4,x,()),t5,ah (k:=0) λk _=>(cF.ab k _).trans ?_,?_,s5.mono (by omega)⟩
 ·unfold cF.p
  rw[e1]
  simp only[Option.bind_some,e2,e3,e4,e5,w1,hx]
  rw[if_pos ⟨a5,by simpa using c5⟩]
 ·have LM:0<=v4/\v4<=999:=by
   simp only[List.mem_cons,List.not_mem_nil,or_false] at m4
   omega
  have g0:mH x=true:=by
   simp only[List.mem_cons,List.not_mem_nil,or_false] at mx
   rcases mx with rfl | rfl | rfl | rfl <;> decide
  unfold cQ cr
  have i1:v1<=3:=by omega
  have i2:(1:Int)<=1+v2:=by omega
  have i3:1+v2<=99:=by omega
  simp only[J,i1,i2,i3,LM.1,LM.2,g0,decide_true,Bool.and_self,if_true]
theorem sK {r:Row} (h:cQ r=0):List.length r.2.2.2.1<=8:=EG (mu h).2.2.2
theorem ri {s:aD} {b:Int} (h:bA s b) (hb:b<=800000):∃ r t,dE.aa (s,())=some (r,t,())/\List.length r.2.2.2.1<=9/\bA t (b+7):=by
 obtain ⟨r,t1,e1,hr,s1⟩:=nQ h (by omega)
 have hs:=sK hr
 obtain ⟨v,t2,e2,a2,c2,s2⟩:=gB (n:=12) s1 (by omega) (by omega) (by omega)
 suffices hp:∃ r' t',dE.p (s,())=some (r',t',())/\List.length r'.2.2.2.1<=9/\bA t' (b+7) by
  obtain ⟨r',t',p1,p2,p3⟩:=hp
  exact ⟨r',t',ah (k:=0) λk _=>(dE.ab k _).trans p1,p2,p3⟩
 unfold dE.p
 rw[e1]
 simp only[Option.bind_some,e2]
 by_cases h0:v=0
 ·obtain ⟨u,t3,e3,_,s3⟩:=qg s2 (by omega) [(-1:Int),(3:Int),(4:Int)] (by simp) (by simp)
  simp only[h0,decide_true,cond_true,e3,Option.bind_some]
  exact ⟨_,_,rfl,by show List.length r.2.2.2.1<=9;omega,s3.mono (by omega)⟩
 by_cases h1:v=1
 ·obtain ⟨u,t3,e3,_,s3⟩:=qg s2 (by omega) [(0:Int),(99:Int),(100:Int)] (by simp) (by simp)
  simp only[h1,show ¬ (1:Int)=0 by omega,decide_true,decide_false,cond_true,cond_false,e3,Option.bind_some]
  exact ⟨_,_,rfl,by show List.length r.2.2.2.1<=9;omega,s3.mono (by omega)⟩
 by_cases Y:v=2
 ·obtain ⟨u,t3,e3,_,s3⟩:=qg s2 (by omega) [(-1:Int),(1000:Int)] (by simp) (by simp)
  simp only[Y,show ¬ (2:Int)=0 by omega,show ¬ (2:Int)=1 by omega,decide_true,decide_false,cond_true,cond_false,e3,Option.bind_some]
  exact ⟨_,_,rfl,by show List.length r.2.2.2.1<=9;omega,s3.mono (by omega)⟩
 by_cases h3:v=3
 ·obtain ⟨u,t3,e3,a3,c3,s3⟩:=gB (n:=3) s2 (by omega) (by omega) (by omega)
  obtain ⟨x,hx,mx⟩:=BM [([65]:List UInt8),([97,98,99,100,101,102,103,104,105]:List UInt8),([97,32,98]:List UInt8)] (v:=u) ⟨a3,by simpa using c3⟩
  simp only[h3,show ¬ (3:Int)=0 by omega,show ¬ (3:Int)=1 by omega,show ¬ (3:Int)=2 by omega,decide_true,decide_false,cond_true,cond_false,e3,Option.bind_some]
  rw[if_pos ⟨a3,by simpa using c3⟩,hx]
  refine ⟨_,_,rfl,?_,s3.mono (by omega)⟩
  show List.length x<=9
  simp only[List.mem_cons,List.not_mem_nil,or_false] at mx
  rcases mx with rfl | rfl | rfl <;> decide
 simp only[h0,h1,Y,h3,decide_false,cond_false]
 exact ⟨_,_,rfl,by omega,s2.mono (by omega)⟩
theorem Af (xs:List Row) (r:Row):(jN xs r).length=xs.length+1:=by
 unfold jN
 simp only[List.length_append,List.length_take,List.length_drop,List.length_cons,List.length_nil]
 omega
theorem EO {x:List Row} {r:Row} (hu:up x) (hf:kg x (r.1,r.2.1) < 0):∀ y ∈ x,rk y≠rk r:=λy hy he=>by
 obtain ⟨i,hi,hx⟩:=List.getElem_of_mem hy
 have:=(oP hu hi (k:=(r.1,r.2.1)) (by rw[hx];exact he)).1
 unfold kg at hf
 rw[this] at hf
 simp only[if_true] at hf
 omega
theorem AS {s:aD} {b:Int} (h:bA s b) (hb:b<=500000):∃ xs t,cJ.aa (s,())=some (xs,t,())/\xs.length<=6/\(∀ r ∈ xs,cQ r=0)/\bA t (b+100):=by
 have Gw:0<=b:=Int.le_trans h.2.1 h.2.2
 obtain ⟨v,t1,e1,J,c1,s1⟩:=gB (n:=7) h (by omega) (by omega) (by omega)
 have:=BN 700000 (B:=λw v=>cJ.b0 w (cJ.q0 (s,())) (s,()) v) (λs (l:List Row) i=>(s,l,i)) (λc l=>up l/\(∀ r ∈ l,cQ r=0)/\5*(l.length:Int)<=c - b - 1) 5 (by omega) (λs l=>(l,s,()))
  (λm s x c hm hs hc hI=>by
   obtain ⟨r,t,e1,hr,s1⟩:=nQ hs (by omega)
   have aH:(0:Int) < ((m+1:Nat):Int):=by omega
   have np:=hs.2
   have hA:=mX x r.1 r.2.1 hI.1 (by omega)
   have hP:=qX x r (by omega)
   by_cases hf:kg x (r.1,r.2.1) < 0
   ·refine ⟨t,jN x r,s1,⟨BI hI.1 (EO hI.1 hf),?_,by rw[Af];omega⟩,λself=>?_⟩
    ·intro y hy
     rcases List.mem_cons.1 ((xB x r).mem_iff.1 hy) with h1 | h1
     ·rw[h1];exact hr
     ·exact hI.2.1 y h1
    ·unfold cJ.b0
     simp only[aH,decide_true,cond_true,e1,Option.bind_some,o3 hm,hA,hP,hf]
   ·refine ⟨t,x,s1,⟨hI.1,hI.2.1,by omega⟩,λself=>?_⟩
    unfold cJ.b0
    simp only[aH,decide_true,cond_true,e1,Option.bind_some,o3 hm,hA,hf,decide_false,cond_false])
  (λs x c _ _ self=>by
   unfold cJ.b0
   rw[decide_eq_false (Int.lt_irrefl _),cond_false]
   rfl) v.toNat t1 [] (b+1) (by omega) s1 ⟨List.Pairwise.nil,λ_ h=>(by cases h),by simp only[List.length_nil];omega⟩ (by omega)
 obtain ⟨t,l,xJ,a2,a3⟩:=this
 have hv:((v.toNat:Nat):Int)=v:=by omega
 rw[hv] at a3 xJ a2
 refine ⟨l,t,ah (k:=8) λk hk=>(cJ.ab k _).trans ?_,by have:=a2.2.2;omega,a2.2.1,xJ.mono (by omega)⟩
 unfold cJ.p
 rw[e1]
 exact a3 k (by omega)
end OT
set_option linter.unusedVariables false
set_option linter.unusedSimpArgs false
set_option linter.unusedSectionVars false
namespace OT
open Go
def Gv {O:Type} (P:O->Prop) (x:Option O):Prop:=∃ y,x=some y/\P y
theorem Gv.some {O:Type} {P:O->Prop} {y:O} (h:P y):Gv P (some y):=⟨y,rfl,h⟩
theorem Gv.bif {O:Type} {P:O->Prop} {c:Bool} {x y:Option O} (h1:c=true->Gv P x) (Y:c=false->Gv P y):Gv P (bif c then x else y):=by
 cases c
 ·exact Y rfl
 ·exact h1 rfl
theorem Gv.bind {O Q:Type} {P:O->Prop} {R:Q->Prop} {x:Option Q} {f:Q->Option O} (h:Gv R x) (Y:∀ y,R y->Gv P (f y)):Gv P (x.bind f):=by
 obtain ⟨y,e,hy⟩:=h
 rw[e]
 exact Y y hy
theorem Gv.ite {O:Type} {P:O->Prop} {c:Prop} [Decidable c] {x y:Option O} (hc:c) (h:Gv P x):Gv P (if c then x else y):=by
 rw[if_pos hc]
 exact h
theorem Gv.get {O α:Type} {P:O->Prop} {l:List α} {i:Nat} {f:α->Option O} (hi:i < l.length) (h:∀ x,l[i]?=Option.some x->x ∈ l->Gv P (f x)):Gv P ((l[i]?).bind f):=by
 have e:=List.getElem?_eq_getElem hi
 rw[e]
 exact h _ e (List.getElem_mem hi)
theorem Gv.next {O:Type} {P:O->Prop} {s:aD} {b n:Int} {f:Int×aD×Unit->Option O} (h:bA s b) (hb:b<=1000000) (hn:1<=n) (pe:n<=1000000) (Y:∀ v t,0<=v->v < n->bA t (b+1)->Gv P (f (v,t,()))):Gv P ((aj.aa (s,n,())).bind f):=by
 obtain ⟨v,t,e,a,c,s1⟩:=gB h hb hn pe
 rw[e]
 exact Y v t a c s1
theorem Gv.vO {O:Type} {P:O->Prop} {s:aD} {b n:Int} {f:Bool×aD×Unit->Option O} (h:bA s b) (hb:b<=1000000) (hn:1<=n) (pe:n<=1000000) (Y:∀ v t,bA t (b+1)->Gv P (f (v,t,()))):Gv P ((bK.aa (s,n,())).bind f):=by
 obtain ⟨v,t,e,s1⟩:=xI h hb hn pe
 rw[e]
 exact Y v t s1
theorem Gv.pick {O:Type} {P:O->Prop} {s:aD} {b:Int} {l:List Int} {f:Int×aD×Unit->Option O} (h:bA s b) (hb:b<=1000000) (hn:1<=l.length) (pe:l.length<=1000000) (Y:∀ v t,v ∈ l->bA t (b+1)->Gv P (f (v,t,()))):Gv P ((aM.aa (s,l,())).bind f):=by
 obtain ⟨v,t,e,m,s1⟩:=qg h hb l hn pe
 rw[e]
 exact Y v t m s1
def F_ (rows:List Row) (r:Row):Prop:=List.length r.2.2.2.1<=9/\((∀ x ∈ rows,cQ x=0)->cQ r=0)
def vP (rows:List Row) (B:Int) (y:Op×aD×Unit):Prop:=List.length y.1.2.2.1.2.2.2.1<=9/\bA y.2.1 B/\cr y.1.1 1 9=true/\((∀ x ∈ rows,cQ x=0)->jw y.1.1=true->cQ y.1.2.2.1=0)
theorem my {a b c:Int} {x:List UInt8} (h1:0<=a/\a<=3) (Y:1<=b/\b<=99) (h3:0<=c/\c<=999) (h4:mH x=true):cQ (a,b,c,x,())=0:=by
 unfold cQ cr
 simp only[h1.1,h1.2,Y.1,Y.2,h3.1,h3.2,h4,decide_true,Bool.and_self,if_true]
set_option maxRecDepth 20000 in
theorem sL {s:aD} {b:Int} {rows:List Row} {ts:List Tx} (h:bA s b) (hb:b<=500000) (hr:rows.length<=1000000) (ht:ts.length<=1000000):Gv (vP rows (b+40)) (cZ.aa (s,rows,ts,())):=by
 suffices hq:Gv (vP rows (b+40)) (cZ.p (s,rows,ts,())) by
  obtain ⟨y,e,hy⟩:=hq
  exact ⟨y,ah (k:=0) λk _=>(cZ.ab k _).trans e,hy⟩
 unfold cZ.p
 refine Gv.next h (by omega) (by omega) (by omega) λv1 t1 J c1 s1=>?_
 extract_lets j1
 have h1:∀ (p:aD) (q:Int),bA p (b+5)->Gv (vP rows (b+40)) (j1 p q):=λp q s2=>by
  show Gv _ ((cF.aa (p,())).bind _)
  obtain ⟨r,t3,e3,Ds,s3⟩:=nQ s2 (by omega)
  have A7:=sK Ds
  obtain ⟨y1,y2,y3,y4⟩:=mu Ds
  rw[e3,Option.bind_some]
  refine Gv.pick s3 (by omega) (by simp) (by simp) λv4 t4 m4 s4=>?_
  extract_lets j3 j2
  have h3:∀ (p3:aD) (q3:Row),bA p3 (b+25)->F_ rows q3->Gv (vP rows (b+40)) (j3 p3 q3):=λp3 q3 s6 LN=>by
   dsimp -zeta only [j3]
   extract_lets j4
   have h4:∀ q4:Row,F_ rows q4->Gv (vP rows (b+40)) (j4 q4):=λq4 J6=>by
    show Gv _ ((aj.aa (p3,(12:Int),())).bind _)
    refine Gv.next s6 (by omega) (by omega) (by omega) λv7 t7 a7 c7 s7=>?_
    have m7:bA t7 (b+40):=s7.mono (by omega)
    have LO:b+25+1+1<=b+40:=by omega
    have Be:b+25+1<=1000000:=by omega
    have kz:∀ (k a m:Int),cr k 1 9=true->jw k=false->vP rows (b+40) ((k,a,((0:Int),(0:Int),(0:Int),([]:List UInt8),()),m,()),t7,()):=λk a m h1 Y=>⟨Nat.zero_le _,m7,h1,λ_ h=>by rw[show jw k=true from h] at Y;cases Y⟩
    have kr:∀ (k a m:Int),cr k 1 9=true->vP rows (b+40) ((k,a,q4,m,()),t7,()):=λk a m h1=>⟨J6.1,m7,h1,λh _=>J6.2 h⟩
    have kd:∀ (k a m:Int),cr k 1 9=true->vP rows (b+40) ((k,a,(q4.1,q4.2.1,(0:Int),([]:List UInt8),()),m,()),t7,()):=λk a m h1=>⟨Nat.zero_le _,m7,h1,λh _=>by
     obtain ⟨z1,z2,z3,z4⟩:=mu (J6.2 h)
     exact my z1 z2 (by decide) rfl⟩
    repeat' first
     | (with_reducible refine Gv.bif (λ_=>?_) λ_=>?_)
     | ((with_reducible refine Gv.some ?_);first | exact kz _ _ _ rfl rfl | exact kr _ _ _ rfl | exact kd _ _ _ rfl)
     | ((with_reducible refine Gv.next (n:=3) s7 Be (by decide) (by decide) λv8 t8 a8 c8 s8=>?_);exact Gv.some ⟨Nat.zero_le _,s8.mono LO,rfl,λ_ h=>absurd (show jw 6=true from h) (by decide)⟩)
     | ((with_reducible refine Gv.pick (l:=[(7:Int),(8:Int)]) s7 Be (by decide) (by decide) λv8 t8 m8 s8=>?_);exact Gv.some ⟨Nat.zero_le _,s8.mono LO,(by
       simp only[List.mem_cons,List.not_mem_nil,or_false] at m8
       rcases m8 with rfl | rfl <;> rfl),λ_ h=>by
       simp only[List.mem_cons,List.not_mem_nil,or_false] at m8
       rcases m8 with rfl | rfl
       ·exact absurd (show jw 7=true from h) (by decide)
       ·exact absurd (show jw 8=true from h) (by decide)⟩)
   clear_value j4
   refine Gv.bif (λhc=>h4 _ ⟨Nat.zero_le _,λh=>?_⟩) λ_=>h4 _ LN
   obtain ⟨z1,z2,z3,z4⟩:=mu (LN.2 h)
   exact my z1 z2 z3 rfl
  clear_value j3
  have Y:∀ (p2:aD) (q2:Row),bA p2 (b+20)->F_ rows q2->Gv (vP rows (b+40)) (j2 p2 q2):=λp2 q2 s5 Ag=>by
   dsimp -zeta only [j2]
   refine Gv.bif (λhc=>?_) λ_=>h3 _ _ (s5.mono (by omega)) Ag
   refine Gv.vO s5 (by omega) (by omega) (by omega) λv6 t6 s6=>?_
   have qA:(0:Int) < (rows.length:Int):=of_decide_eq_true hc
   refine Gv.bif (λ_=>?_) λ_=>h3 _ _ (s6.mono (by omega)) Ag
   refine Gv.next (n:=(rows.length:Int)) s6 (by omega) (by omega) (by omega) λv7 t7 a7 c7 s7=>?_
   refine Gv.ite a7 (Gv.get (show v7.toNat < rows.length by omega) λx _ hx=>?_)
   refine h3 _ _ (s7.mono (by omega)) ⟨Ag.1,λh=>?_⟩
   obtain ⟨z1,z2,z3,z4⟩:=mu (Ag.2 h)
   obtain ⟨w1,w2,_⟩:=mu (h x hx)
   exact my w1 w2 z3 z4
  clear_value j2
  refine Gv.bif (λ_=>?_) λ_=>Y _ _ (s4.mono (by omega)) ⟨by show List.length r.2.2.2.1<=9;omega,λ_=>my (by
   simp only[List.mem_cons,List.not_mem_nil,or_false] at m4
   show 0<=v4/\v4<=3
   omega) y2 y3 y4⟩
  refine Gv.pick s4 (by omega) (by simp) (by simp) λv5 t5 m5 s5=>?_
  refine Gv.pick s5 (by omega) (by simp) (by simp) λv6 t6 m6 s6=>?_
  refine Y _ _ (s6.mono (by omega)) ⟨Nat.zero_le _,λ_=>my (by decide) ?_ ?_ rfl⟩
  ·simp only[List.mem_cons,List.not_mem_nil,or_false] at m5
   show 1<=v5/\v5<=99
   omega
  ·simp only[List.mem_cons,List.not_mem_nil,or_false] at m6
   show 0<=v6/\v6<=999
   omega
 clear_value j1
 refine Gv.bif (λhc=>?_) λ_=>h1 _ _ (s1.mono (by omega))
 have qA:(0:Int) < (ts.length:Int):=of_decide_eq_true hc
 refine Gv.vO s1 (by omega) (by omega) (by omega) λv2 t2 s2=>?_
 refine Gv.bif (λ_=>?_) λ_=>h1 _ _ (s2.mono (by omega))
 refine Gv.next (n:=(ts.length:Int)) s2 (by omega) (by omega) (by omega) λv3 t3 a3 c3 s3=>?_
 refine Gv.ite a3 (Gv.get (show v3.toNat < ts.length by omega) λx _ _=>?_)
 exact h1 _ _ (s3.mono (by omega))
end OT
set_option linter.unusedVariables false
set_option linter.unusedSimpArgs false
set_option linter.unusedSectionVars false
namespace OT
open Go
end OT
set_option linter.unusedVariables false
set_option linter.unusedSimpArgs false
set_option linter.unusedSectionVars false
namespace OT
open Go
theorem AT {s:aD} {b:Int} (h:bA s b) (hb:b<=400000):Gv (λy:List Row×aD×Unit=>y.1.length<=61/\(∀ r ∈ y.1,List.length r.2.2.2.1<=9)/\bA y.2.1 (b+110)) (eJ.aa (s,())):=by
 suffices hq:Gv (λy:List Row×aD×Unit=>y.1.length<=61/\(∀ r ∈ y.1,List.length r.2.2.2.1<=9)/\bA y.2.1 (b+110)) (eJ.p (s,())) by
  obtain ⟨y,e,hy⟩:=hq
  exact ⟨y,ah (k:=0) λk _=>(eJ.ab k _).trans e,hy⟩
 obtain ⟨xs,t1,e1,hl,hr,s1⟩:=AS h (by omega)
 unfold eJ.p
 rw[e1,Option.bind_some]
 have h9:∀ r ∈ xs,List.length r.2.2.2.1<=9:=λr hm=>by have:=sK (hr r hm);omega
 refine Gv.next s1 (by omega) (by omega) (by omega) λv2 t2 a2 c2 s2=>?_
 refine Gv.bif (λ_=>?_) λ_=>Gv.bif (λ_=>?_) λ_=>Gv.some ⟨by show xs.length<=61;omega,h9,s2.mono (by omega)⟩
 ·obtain ⟨r,t3,e3,h3,s3⟩:=ri s2 (by omega)
  rw[e3,Option.bind_some]
  refine Gv.ite (dA (by simp only[List.length_cons,List.length_nil];omega)) (Gv.some ⟨?_,λq hq=>?_,s3.mono (by omega)⟩)
  ·show (xs++[r]).length<=61
   rw[List.length_append,List.length_cons,List.length_nil]
   omega
  ·have hq:q ∈ xs++[r]:=hq
   rcases List.mem_append.1 hq with g | g
   ·exact h9 q g
   ·rw[List.mem_singleton] at g
    rw[g]
    exact h3
 ·refine Gv.ite ⟨by omega,by omega,by simp only[cU];omega⟩ (Gv.some ⟨by show (List.replicate 61 _).length<=61;rw[List.length_replicate];omega,λq hq=>?_,s2.mono (by omega)⟩)
  have hq:q ∈ List.replicate 61 ((0:Int),(0:Int),(0:Int),([]:List UInt8),()):=hq
  rw[List.eq_of_mem_replicate hq]
  exact Nat.zero_le _
theorem Ga {x:List Row} {r:Row} (hg:Good x) (hr:cQ r=0) (hf:kg x (r.1,r.2.1) < 0):Good (jN x r):=by
 refine ⟨BI hg.1 (EO hg.1 hf),λy hy=>?_⟩
 rcases List.mem_cons.1 ((xB x r).mem_iff.1 hy) with h1 | h1
 ·rw[h1];exact hr
 ·exact hg.2 y h1
theorem Gb {s:aD} {b:Int} (h:bA s b) (hb:b<=500000):Gv (λy:List Row×aD×Unit=>Good y.1/\y.1.length<=7/\bA y.2.1 (b+60)) (dD.aa (s,())):=by
 obtain ⟨v,t1,e1,J,c1,s1⟩:=gB (n:=6) h (by omega) (by omega) (by omega)
 have Gw:0<=b:=Int.le_trans h.2.1 h.2.2
 have:=BN 700000 (B:=λw v=>dD.b0 w (dD.q0 (s,())) (s,()) v) (λs (l:List Row) i=>(s,l,i)) (λc l=>Good l/\6*(l.length:Int)<=c - b - 1+12) 6 (by omega) (λs l=>(l,s,()))
  (λm s x c hm hs hc hI=>by
   obtain ⟨r,t,e1,hr,s1⟩:=nQ hs (by omega)
   obtain ⟨v2,t2,e2,a2,c2,s2⟩:=gB (n:=2) s1 (by omega) (by omega) (by omega)
   have aH:(0:Int) < ((m+1:Nat):Int):=by omega
   have np:=hs.2
   obtain ⟨y1,y2,y3,y4⟩:=mu hr
   have hw:ap (1+v2)=1+v2:=dz (by omega)
   have rZ:ap 2=2:=dz (by omega)
   have fin:∀ q:Row,cQ q=0->(∃ s' x',bA s' (c+6)/\(Good x'/\6*(List.length x':Int)<=c+6 - b - 1+12)/\∀ self:(aD×(List Row)×Int)->Option dD.Out,((bP.aa (x,q.1,q.2.1,())).bind λnh=>bif decide (nh.1 < (0:Int)) then ((ci.aa (x,q,())).bind λui=>self (t2,ui.1,ap (((m+1:Nat):Int) - (1:Int)))) else self (t2,x,ap (((m+1:Nat):Int) - (1:Int))))=self (s',x',(m:Int))):=λq hq=>by
    have hA:=mX x q.1 q.2.1 hI.1.1 (by omega)
    have hP:=qX x q (by omega)
    by_cases hf:kg x (q.1,q.2.1) < 0
    ·refine ⟨t2,jN x q,s2.mono (by omega),⟨Ga hI.1 hq hf,by rw[Af];omega⟩,λself=>?_⟩
     rw[hA,Option.bind_some,decide_eq_true hf,cond_true,hP,Option.bind_some,o3 hm]
    ·refine ⟨t2,x,s2.mono (by omega),⟨hI.1,by omega⟩,λself=>?_⟩
     rw[hA,Option.bind_some,decide_eq_false hf,cond_false,o3 hm]
   have Oa:cQ (1+v2,r.2.1,r.2.2.1,([]:List UInt8),())=0:=my (by omega) y2 y3 rfl
   have Ag:cQ (1+v2,r.2.1,r.2.2.1,r.2.2.2.1,())=0:=my (by omega) y2 y3 y4
   by_cases vK:1+v2=2
   ·by_cases wX:(3:Int) < (List.length r.2.2.2.1:Int)
    ·obtain ⟨s',x',g1,g2,g3⟩:=fin _ Oa
     refine ⟨s',x',g1,g2,λself=>?_⟩
     unfold dD.b0
     simp only[aH,decide_true,cond_true,e1,e2,Option.bind_some,hw,rZ,vK,wX]
     rw[<-g3 self,vK]
    ·obtain ⟨s',x',g1,g2,g3⟩:=fin _ Ag
     refine ⟨s',x',g1,g2,λself=>?_⟩
     unfold dD.b0
     simp only[aH,decide_true,cond_true,e1,e2,Option.bind_some,hw,rZ,vK,wX,decide_false,cond_false]
     rw[<-g3 self,vK]
   ·obtain ⟨s',x',g1,g2,g3⟩:=fin _ Ag
    refine ⟨s',x',g1,g2,λself=>?_⟩
    unfold dD.b0
    simp only[aH,decide_true,cond_true,e1,e2,Option.bind_some,hw,vK,decide_false,cond_false]
    rw[<-g3 self])
  (λs x c _ _ self=>by
   unfold dD.b0
   rw[decide_eq_false (Int.lt_irrefl _),cond_false]
   rfl) v.toNat t1 [((0:Int),(1:Int),(8:Int),([]:List UInt8),()),((0:Int),(2:Int),(3:Int),([]:List UInt8),())] (b+1) (by omega) s1 ⟨⟨by
    rw[mr]
    refine ⟨λy hy=>?_,?_⟩
    ·rw[List.mem_singleton] at hy
     rw[hy]
     rfl
    ·rw[mr]
     exact ⟨λy hy=>(by cases hy),List.Pairwise.nil⟩,λr hr=>by
    simp only[List.mem_cons,List.not_mem_nil,or_false] at hr
    rcases hr with rfl | rfl <;> rfl⟩,by simp only[List.length_cons,List.length_nil];omega⟩ (by omega)
 obtain ⟨t,l,xJ,a2,a3⟩:=this
 have hv:((v.toNat:Nat):Int)=v:=by omega
 rw[hv] at a3 xJ a2
 refine ⟨(l,t,()),ah (k:=8) λk hk=>(dD.ab k _).trans ?_,a2.1,by have:=a2.2;show List.length l<=7;omega,xJ.mono (by omega)⟩
 unfold dD.p
 rw[e1]
 exact a3 k (by omega)
end OT
set_option linter.unusedVariables false
set_option linter.unusedSimpArgs false
set_option linter.unusedSectionVars false
namespace OT
open Go
theorem HA:∀ (ks S:List Key),(dd S ks).length<=S.length+ks.length
 | [],S=>Nat.le_refl _
 | k::ks,S=>by
  show (dd (if cb S k then S else S++[k]) ks).length<=_
  refine Nat.le_trans (HA ks _) ?_
  split
  ·rw[List.length_cons];omega
  ·rw[List.length_append,List.length_cons,List.length_cons,List.length_nil];omega
theorem C_ {rows:List Row} (hg:Good rows) (hl:rows.length<=12):dk (rows,([]:List Tx),(1:Int),())=0:=by
 refine oX hg hl rfl rfl rfl ?_ λx hx=>by cases hx
 unfold fS
 refine Nat.le_trans (HA _ _) ?_
 unfold dw gw flatK
 simpa using hl
def EP (x:Tx):Prop:=List.length x.2.1<=13/\List.length x.2.2.1<=9/\List.length x.2.2.2.1<=24/\∀ c ∈ (x.2.1:List Change),cl c
theorem EP.tl {x:Tx} (h:EP x):tl x:=⟨by have:=h.1;omega,by have:=h.2.1;omega,by have:=h.2.2.1;omega,h.2.2.2⟩
def o4 (n:Nat) (ts:List Tx):Prop:=ts.length=n/\∀ x ∈ ts,EP x
theorem o4.fx {n:Nat} {ts:List Tx} (h:o4 n ts) (hn:n<=1000):fx ts:=⟨by have:=h.1;omega,λx hx=>(h.2 x hx).tl⟩
theorem o4.set {n:Nat} {ts:List Tx} (h:o4 n ts) (j:Nat) {y:Tx} (hy:EP y):o4 n (ts.set j y):=⟨by rw[List.length_set];exact h.1,λx hx=>by
 rcases List.mem_or_eq_of_mem_set hx with g | g
 ·exact h.2 x g
 ·rw[g];exact hy⟩
structure tM (rows:List Row) (ts:List Tx):Prop where
 right:dk (rows,ts,(3:Int),())=0
 small:BD (rows,ts,(3:Int),())
 two:ts.length=2
theorem tM.sm {rows:List Row} {ts:List Tx} (h:tM rows ts):∀ x ∈ ts,List.length x.2.1<=12/\List.length x.2.2.1<=8/\List.length x.2.2.2.1<=12/\∀ c ∈ (x.2.1:List Change),cl c:=λx hx=>by
 have P:=d8 h.right
 have T:j0 ts:=gp P.l9
 have R:jQ ts:=nN P.l9
 exact ⟨T.qZ x hx,(Ab (R.each x hx).2).ml,T.locks x hx,(h.small.2.2.2 x hx).2.2.2⟩
theorem xK {rows:List Row} {ts:List Tx} {o:Op} (h:(nk rows ts o).2.1=true):jw o.1=true/\¬ kB ts o.2.1 < 0/\nk rows ts o=hK rows ts o:=by
 unfold nk dp at h ⊢
 split at h
 ·split at h <;> cases h
 split at h
 ·cases h
 split at h
 ·cases h
 split at h
 ·split at h <;> cases h
 split at h
 ·split at h <;> cases h
 split at h
 ·rename_i h1 Y h3 h4 h5 h6
  refine ⟨h6,h3,?_⟩
  rw[if_neg h1,if_neg Y,if_neg h3,if_neg h4,if_neg h5,if_pos h6]
 ·cases h
theorem tM.wc {rows:List Row} {ts:List Tx} (h:tM rows ts) {o:Op} (ht:(nk rows ts o).2.1=true) (hr:jw o.1=true->cQ o.2.2.1=0):∃ (j:Nat) (c:Change),j < ts.length/\(nk rows ts o).2.2.1=c/\kB ts o.2.1=(j:Int)/\ja rows c=true/\eM c=0/\tM (dI rows c) (kH ts j c):=by
 obtain ⟨k1,k2,k3⟩:=xK ht
 have P:=d8 h.right
 obtain ⟨j,hj,iq,tK⟩:=at_mem k2
 rw[k3] at ht
 obtain ⟨r1,r2,r3,r4,r5,r6⟩:=ld ht
 obtain ⟨w1,w2,w3,w4⟩:=j9 P.gK (hr k1) r2
 have hn:kH ts j (aU rows o).1=ts.set j (dJ ts[j] (aU rows o).1):=by
  unfold kH
  rw[List.getElem?_eq_getElem hj]
 have hs:ke (rows,ts,(3:Int),()) o 0 (dI rows (aU rows o).1,ts.set j (dJ ts[j] (aU rows o).1),(3:Int),()):=.C9 k1 hj tK (hr k1) ht
 refine ⟨j,(aU rows o).1,hj,by rw[k3,r6],iq,w3,w1,?_⟩
 rw[hn]
 exact ⟨nP h.right hs,uz h.small h.right hs,by rw[List.length_set];exact h.two⟩
theorem Gc {s:aD} {b:Int} (h:bA s b) (hb:b<=100000):Gv (λy:List Row×List Tx×aD×Unit=>y.1.length<=12/\(∀ r ∈ y.1,List.length r.2.2.2.1<=9)/\o4 2 y.2.1/\(∀ x ∈ y.2.1,List.length x.2.1<=12/\List.length x.2.2.1<=8/\List.length x.2.2.2.1<=12)/\bA y.2.2.1 (b+500)) (bF.aa (s,())):=by
 obtain ⟨⟨rows,t1,⟨⟩⟩,e1,hg,hl,s1⟩:=Gb h (by omega)
 simp only at hg hl s1
 obtain ⟨v,t2,e2,a2,c2,s2⟩:=gB (n:=9) s1 (by omega) (by omega) (by omega)
 have Gw:0<=b:=Int.le_trans h.2.1 h.2.2
 have h0:tM rows [pO 1,pO 2]:=by
  have p1:=C_ hg (by omega)
  have o1:BD (rows,([]:List Tx),(1:Int),()):=⟨by show rows.length<=_;omega,λx hx=>by have:=k_ (hg.2 x hx);unfold rl;rw[ak];omega,Nat.zero_le _,λx hx=>by cases hx⟩
  obtain ⟨ob,LP⟩:∃ ob:Op,ob=((1:Int),(0:Int),((0:Int),(0:Int),(0:Int),([]:List UInt8),()),(0:Int),()):=⟨_,rfl⟩
  have q1:ke (rows,([]:List Tx),(1:Int),()) ob 1 (rows,[]++[pO 1],1+1,()):=.vM (by rw[LP]) (by decide) (by decide)
  have p2:=nP p1 q1
  have o2:=uz o1 p1 q1
  have q2:ke (rows,[pO 1],(2:Int),()) ob 2 (rows,[pO 1]++[pO 2],2+1,()):=.vM (by rw[LP]) (by decide) (by decide)
  exact ⟨nP p2 q2,uz o2 p2 q2,rfl⟩
 have:=uA 200000 (B:=λw v=>bF.b0 w (bF.q0 (s,())) (s,()) v) (λs (l:List Row×List Tx) i=>(s,l.1,l.2,i)) (λc l=>tM l.1 l.2) 40 (by omega) (λs' l=>bF.q0 (s,()) (s',l.1,l.2))
  (λm s0 x c hm hs hc hI=>by
   obtain ⟨rs,ts⟩:=x
   have hI:tM rs ts:=hI
   have P:=d8 hI.right
   have Pd:rs.length<=12:=P.len
   have T:j0 ts:=gp P.l9
   obtain ⟨⟨o,t3,⟨⟩⟩,e3,k1,s3,k2,k3⟩:=sL (rows:=rs) (ts:=ts) hs (by omega) (by omega) (by have:=hI.two;omega)
   simp only at k1 s3 k2 k3
   have aH:(0:Int) < ((m+1:Nat):Int):=by omega
   have hC:=sA rs ts o P.gK (by omega) hI.small.2.2 T k2
   have stay:(∀ self:(aD×(List Row)×(List Tx)×Int)->Option bF.Out,bF.b0 self (bF.q0 (s,())) (s,()) (s0,rs,ts,((m+1:Nat):Int))=self (t3,rs,ts,(m:Int)))->∃ s' x',bA s' (c+40)/\tM (x':List Row×List Tx).1 x'.2/\∀ self,bF.b0 self (bF.q0 (s,())) (s,()) (s0,rs,ts,((m+1:Nat):Int))=self (s',x'.1,x'.2,(m:Int)):=λhh=>⟨t3,(rs,ts),s3,hI,hh⟩
   by_cases h1:(nk rs ts o).1=0
   rotate_left
   ·refine stay λself=>?_
    unfold bF.b0
    rw[decide_eq_true aH,cond_true,e3]
    simp only[Option.bind_some]
    rw[hC]
    simp only[Option.bind_some,h1,decide_false,Bool.not_false,cond_true]
    rw[o3 hm]
   cases Y:(nk rs ts o).2.1 with
   | false=>
    refine stay λself=>?_
    unfold bF.b0
    rw[decide_eq_true aH,cond_true,e3]
    simp only[Option.bind_some]
    rw[hC]
    simp only[Option.bind_some,h1,decide_true,Bool.not_true,cond_false,Y,Bool.not_false,cond_true]
    rw[o3 hm]
   | true=>
    obtain ⟨j,ch,hj,oW,iq,hf,Ob,hN⟩:=hI.wc Y (k3 P.gK.2)
    refine ⟨t3,(dI rs ch,kH ts j ch),s3,hN,λself=>?_⟩
    show bF.b0 self _ _ _=_
    unfold bF.b0
    rw[decide_eq_true aH,cond_true,e3]
    simp only[Option.bind_some]
    rw[hC]
    simp only[Option.bind_some,h1,decide_true,Bool.not_true,cond_false,Y,oW]
    rw[En rs ch P.gK.1 (by omega) (mt Ob).1,hf]
    simp only[Option.bind_some,if_true]
    rw[tH ts _ hI.small.2.2.1,iq]
    simp only[Option.bind_some]
    rw[AM ts j ch hI.small.2.2 hj]
    simp only[Option.bind_some]
    rw[o3 hm])
  (λs0 x c _ _ self=>by
   unfold bF.b0
   rw[decide_eq_false (Int.lt_irrefl _),cond_false]) v.toNat t2 (rows,[pO 1,pO 2]) (b+60+1) (by omega) s2 h0 (by omega)
 obtain ⟨t,⟨rs,ts⟩,xJ,hI,a3⟩:=this
 have hI:tM rs ts:=hI
 have hv:((v.toNat:Nat):Int)=v:=by omega
 rw[hv] at a3 xJ
 suffices hq:Gv (λy:List Row×List Tx×aD×Unit=>y.1.length<=12/\(∀ r ∈ y.1,List.length r.2.2.2.1<=9)/\o4 2 y.2.1/\(∀ x ∈ y.2.1,List.length x.2.1<=12/\List.length x.2.2.1<=8/\List.length x.2.2.2.1<=12)/\bA y.2.2.1 (b+500)) (bF.q0 (s,()) (t,rs,ts)) by
  obtain ⟨y,e,hy⟩:=hq
  refine ⟨y,ah (k:=11) λk hk=>(bF.ab k _).trans ?_,hy⟩
  unfold bF.p
  rw[e1]
  simp only[Option.bind_some]
  rw[e2]
  exact (a3 k (by omega)).trans e
 have P:=d8 hI.right
 have lJ:=hI.sm
 have hS:o4 2 ts:=⟨hI.two,λx hx=>⟨by have:=(lJ x hx).1;omega,by have:=(lJ x hx).2.1;omega,by have:=(lJ x hx).2.2.1;omega,(lJ x hx).2.2.2⟩⟩
 have hR:∀ r ∈ rs,List.length r.2.2.2.1<=9:=λr hr=>by have:=k_ (P.gK.2 r hr);omega
 have Y:=hI.two
 unfold bF.q0
 refine Gv.vO xJ (by omega) (by omega) (by omega) λv3 t3 s3=>?_
 refine Gv.bif (λ_=>?_) λ_=>Gv.some ⟨P.len,hR,hS,λx hx=>⟨(lJ x hx).1,(lJ x hx).2.1,(lJ x hx).2.2.1⟩,s3.mono (by omega)⟩
 have hz:(0:Int)<=(0:Int)/\(0:Int) < (ts.length:Int):=by omega
 refine Gv.ite hz (Gv.get (l:=ts) (i:=0) (by omega) λx1 _ m1=>Gv.get (l:=ts) (i:=0) (by omega) λx2 _ m2=>Gv.ite hz (Gv.get (l:=ts) (i:=0) (by omega) λx3 _ m3=>?_))
 have n3:=lJ x3 m3
 have hy:EP (x3.1,x3.2.1,[(0:Int),(List.length x2.2.1:Int)],x3.2.2.2):=⟨by show List.length x3.2.1<=13;omega,by show 2<=9;omega,by show List.length x3.2.2.2.1<=24;omega,n3.2.2.2⟩
 refine Gv.some ⟨P.len,hR,hS.set 0 hy,λx hx=>?_,s3.mono (by omega)⟩
 have hx:x ∈ ts.set 0 (x3.1,x3.2.1,[(0:Int),(List.length x2.2.1:Int)],x3.2.2.2):=hx
 rcases List.mem_or_eq_of_mem_set hx with g | g
 ·exact ⟨(lJ x g).1,(lJ x g).2.1,(lJ x g).2.2.1⟩
 ·rw[g]
  exact ⟨n3.1,by show 2<=8;omega,n3.2.2.1⟩
end OT
set_option linter.unusedVariables false
set_option linter.unusedSimpArgs false
set_option linter.unusedSectionVars false
namespace OT
open Go
def LQ (B:Int) (y:Op×aD×Unit):Prop:=List.length y.1.2.2.1.2.2.2.1<=9/\bA y.2.1 B
theorem EQ {s:aD} {b:Int} (h:bA s b) (hb:b<=400000):Gv (LQ (b+60)) (fY.aa (s,())):=by
 suffices hq:Gv (LQ (b+60)) (fY.p (s,())) by
  obtain ⟨y,e,hy⟩:=hq
  exact ⟨y,ah (k:=0) λk _=>(fY.ab k _).trans e,hy⟩
 obtain ⟨⟨o,t1,⟨⟩⟩,e1,k1,s1,_,_⟩:=sL (rows:=[]) (ts:=[]) h (by omega) (by simp) (by simp)
 simp only at k1 s1
 unfold fY.p
 rw[e1,Option.bind_some]
 refine Gv.next s1 (by omega) (by omega) (by omega) λv2 t2 a2 c2 s2=>?_
 refine Gv.bif (λ_=>?_) λ_=>Gv.bif (λ_=>?_) λ_=>Gv.bif (λ_=>?_) λ_=>Gv.bif (λ_=>?_) λ_=>Gv.some ⟨k1,s2.mono (by omega)⟩
 ·exact Gv.pick s2 (by omega) (by simp) (by simp) λv3 t3 m3 s3=>Gv.some ⟨k1,s3.mono (by omega)⟩
 ·exact Gv.pick s2 (by omega) (by simp) (by simp) λv3 t3 m3 s3=>Gv.some ⟨k1,s3.mono (by omega)⟩
 ·exact Gv.pick s2 (by omega) (by simp) (by simp) λv3 t3 m3 s3=>Gv.some ⟨k1,s3.mono (by omega)⟩
 ·obtain ⟨r,t3,e3,h3,s3⟩:=ri s2 (by omega)
  rw[e3,Option.bind_some]
  exact Gv.some ⟨h3,s3.mono (by omega)⟩
theorem LR {r:Row} (h:List.length r.2.2.2.1<=9):rl r:=by
 unfold rl
 rw[ak]
 omega
end OT
set_option linter.unusedVariables false
set_option linter.unusedSimpArgs false
set_option linter.unusedSectionVars false
namespace OT
open Go
theorem Gd (c:List UInt8):jY.aa (c,())=some (decide ((1048576:Int) < (c.length:Int)),()):=ah (k:=0) λk _=>(jY.ab k _).trans rfl
end OT
set_option linter.unusedVariables false
set_option linter.unusedSimpArgs false
set_option linter.unusedSectionVars false
namespace OT
open Go
def Ge (B:Int) (y:List Row×List Tx×aD×Unit):Prop:=y.1.length<=61/\(∀ r ∈ y.1,List.length r.2.2.2.1<=9)/\(∃ n,(1<=n/\n<=5)/\o4 n y.2.1)/\bA y.2.2.1 B
theorem xL {s:aD} {b:Int} (h:bA s b) (hb:b<=100000):Gv (Ge (b+1000)) (dY.aa (s,())):=by
 suffices hq:Gv (Ge (b+1000)) (dY.p (s,())) by
  obtain ⟨y,e,hy⟩:=hq
  exact ⟨y,ah (k:=0) λk _=>(dY.ab k _).trans e,hy⟩
 obtain ⟨⟨rs,ts,t1,⟨⟩⟩,e1,hl,hr,hS,lJ,s1⟩:=Gc h hb
 simp only at hl hr hS lJ s1
 have Y:=hS.1
 unfold dY.p
 rw[e1,Option.bind_some]
 have hz:(0:Int)<=(0:Int)/\(0:Int) < (ts.length:Int):=by omega
 have ho:(0:Int)<=(1:Int)/\(1:Int) < (ts.length:Int):=by omega
 have wD:rs.length<=61:=by omega
 have fin:∀ (ER:List Row) (kx:List Tx) (t:aD) (n:Nat),ER.length<=61->(∀ r ∈ ER,List.length r.2.2.2.1<=9)->1<=n/\n<=5->o4 n kx->bA t (b+1000)->Gv (Ge (b+1000)) (some (ER,kx,t,())):=λER kx t n J a2 a3 a4 a5=>Gv.some ⟨J,a2,⟨n,a3,a4⟩,a5⟩
 refine Gv.next s1 (by omega) (by omega) (by omega) λv2 t2 a2 c2 s2=>?_
 have m2:bA t2 (b+1000):=s2.mono (by omega)
 refine Gv.bif (λ_=>?_) λ_=>Gv.bif (λ_=>?_) λ_=>Gv.bif (λ_=>?_) λ_=>Gv.bif (λ_=>?_) λ_=>Gv.bif (λ_=>?_) λ_=>Gv.bif (λ_=>?_) λ_=>fin rs _ _ 2 wD hr (by omega) hS m2
 ·refine Gv.pick s2 (by omega) (by simp) (by simp) λv3 t3 m3 s3=>?_
  refine Gv.next s3 (by omega) (by omega) (by omega) λv4 t4 a4 c4 s4=>?_
  refine Gv.ite (dA (by simp only[List.length_cons,List.length_nil];omega)) ?_
  refine fin rs (ts++[(v3,([]:List Change),([]:List Int),[((1:Int),v4,())],())]) t4 3 wD hr (by omega) ⟨by rw[List.length_append,List.length_cons,List.length_nil];omega,λx hx=>?_⟩ (s4.mono (by omega))
  rcases List.mem_append.1 hx with g | g
  ·exact hS.2 x g
  ·rw[List.mem_singleton] at g
   rw[g]
   exact ⟨Nat.zero_le _,Nat.zero_le _,by show 1<=24;omega,λc hc=>by cases hc⟩
 ·refine Gv.ite hz (Gv.get (l:=ts) (i:=0) (by omega) λx1 _ n1=>?_)
  refine Gv.pick s2 (by omega) (by simp) (by simp) λv3 t3 m3 s3=>?_
  refine Gv.get (l:=ts) (i:=0) (by omega) λx2 _ n2=>Gv.get (l:=ts) (i:=0) (by omega) λx3 _ n3=>?_
  have q2:=lJ x2 n2
  have q3:=lJ x3 n3
  refine Gv.ite (dA (by simp only[List.length_cons,List.length_nil];omega)) (Gv.ite (by rw[List.length_set];exact hz) (Gv.ite rfl (Gv.get (l:=ts.set 0 x3) (i:=0) (by rw[List.length_set];omega) λx4 _ n4=>?_)))
  have S1:=hS.set 0 (hS.2 x3 n3)
  have q4:=S1.2 x4 n4
  refine fin rs _ _ 2 wD hr (by omega) (S1.set 0 ⟨q4.1,?_,q4.2.2.1,q4.2.2.2⟩) (s3.mono (by omega))
  show (x2.2.2.1++[v3]).length<=9
  rw[List.length_append,List.length_cons,List.length_nil]
  omega
 ·refine Gv.ite ho (Gv.get (l:=ts) (i:=1) (by omega) λx1 _ n1=>?_)
  obtain ⟨r,t3,e3,h3,s3⟩:=ri s2 (by omega)
  rw[e3,Option.bind_some]
  refine Gv.get (l:=ts) (i:=1) (by omega) λx2 _ n2=>Gv.get (l:=ts) (i:=1) (by omega) λx3 _ n3=>?_
  have q2:=lJ x2 n2
  refine Gv.ite (dA (by simp only[List.length_cons,List.length_nil];omega)) (Gv.ite (by rw[List.length_set];exact ho) (Gv.ite rfl (Gv.get (l:=ts.set 1 x3) (i:=1) (by rw[List.length_set];omega) λx4 _ n4=>?_)))
  have S1:=hS.set 1 (hS.2 x3 n3)
  have q4:=S1.2 x4 n4
  refine fin rs _ _ 2 wD hr (by omega) (S1.set 1 ⟨?_,q4.2.1,q4.2.2.1,λc hc=>?_⟩) (s3.mono (by omega))
  ·show (x2.2.1++[(false,((0:Int),(0:Int),(0:Int),([]:List UInt8),()),true,r,())]).length<=13
   rw[List.length_append,List.length_cons,List.length_nil]
   omega
  ·have hc:c ∈ (x2.2.1:List Change)++[(false,((0:Int),(0:Int),(0:Int),([]:List UInt8),()),true,r,())]:=hc
   rcases List.mem_append.1 hc with g | g
   ·exact (hS.2 x2 n2).2.2.2 c g
   ·rw[List.mem_singleton] at g
    rw[g]
    exact ⟨Nat.zero_le _,by show List.length r.2.2.2.1<=maxLen;rw[ak];omega⟩
 ·refine Gv.ite ⟨by omega,by omega,by simp only[cU];omega⟩ (fin rs _ _ 5 wD hr (by omega) ⟨List.length_replicate,λx hx=>?_⟩ m2)
  rw[List.eq_of_mem_replicate hx]
  exact ⟨Nat.zero_le _,Nat.zero_le _,Nat.zero_le _,λc hc=>by cases hc⟩
 ·obtain ⟨⟨ER,t3,⟨⟩⟩,e3,g1,g2,s3⟩:=AT s2 (by omega)
  rw[e3,Option.bind_some]
  exact fin _ _ _ 2 g1 g2 (by omega) hS (s3.mono (by omega))
 ·refine Gv.ite ho (Gv.get (l:=ts) (i:=1) (by omega) λx0 _ n0=>Gv.ite hz (Gv.get (l:=ts) (i:=0) (by omega) λx1 _ n1=>Gv.get (l:=ts) (i:=0) (by omega) λx2 _ n2=>Gv.get (l:=ts) (i:=0) (by omega) λx3 _ n3=>Gv.get (l:=ts) (i:=1) (by omega) λx4 _ n4=>Gv.get (l:=ts) (i:=1) (by omega) λx5 _ n5=>?_))
  have q2:=lJ x2 n2
  have q4:=lJ x4 n4
  refine Gv.ite (dA (by omega)) (Gv.ite (by rw[List.length_set];exact ho) (Gv.ite rfl (Gv.get (l:=ts.set 1 x5) (i:=1) (by rw[List.length_set];omega) λx6 _ n6=>?_)))
  have S1:=hS.set 1 (hS.2 x5 n5)
  have q6:=S1.2 x6 n6
  refine fin rs _ _ 2 wD hr (by omega) (S1.set 1 ⟨q6.1,q6.2.1,?_,q6.2.2.2⟩) m2
  show (x4.2.2.2.1++x2.2.2.2.1).length<=24
  rw[List.length_append]
  omega
theorem Gf {rows:List Row} {ts:List Tx} {o:Op} (hg:Good rows) (vo:cu ts=0) (qd:cQ o.2.2.1=0) {j:Nat} (hj:j < ts.length) (tK:(ts[j]).1=o.2.1) (ht:(hK rows ts o).2.1=true) :
  cu (ts.set j (dJ ts[j] (aU rows o).1))=0/\fS (dI rows (aU rows o).1) (ts.set j (dJ ts[j] (aU rows o).1))<=12/\(c_ ts (o.2.2.1.1,o.2.2.1.2.1,())=0\/c_ ts (o.2.2.1.1,o.2.2.1.2.1,())=o.2.1) /\
  c_ (ts.set j (dJ ts[j] (aU rows o).1)) (o.2.2.1.1,o.2.2.1.2.1,())=o.2.1/\gv (o.2.2.1.1,o.2.2.1.2.1,())=true:=by
 have R:jQ ts:=nN vo
 have T:j0 ts:=gp vo
 have dy:ts[j] ∈ ts:=List.getElem_mem hj
 have hx:=(R.each _ dy).2
 have X:=Ab hx
 have oW:=T.ch _ dy
 obtain ⟨r1,r2,r3,r4,r5,r6⟩:=ld ht
 obtain ⟨w1,w2,w3,w4⟩:=j9 hg qd r2
 have hq:cA (aU rows o).1=(o.2.2.1.1,o.2.2.1.2.1,()):=by unfold cA;rw[w2];rfl
 have fl:k9 (aU rows o).1=0:=by
  unfold k9
  rw[if_pos w1,Bool.and_assoc,if_neg (by rw[r5];decide)]
 generalize (aU rows o).1=c at *
 have tZ:¬ (o.2.2.1.2.1=0):=by have:=ut qd;omega
 have sF:gv (o.2.2.1.1,o.2.2.1.2.1,())=true:=by
  grind [cQ,gv]
 obtain ⟨q,tL⟩:∃ q:Key,q=(o.2.2.1.1,o.2.2.1.2.1,()):=⟨_,rfl⟩
 have pw:∀ x ∈ ts,x.1≠o.2.1->q ∉ (x.2.2.2.1:List Key):=λx g0 bG hm=>by
  have:l8 ts o.2.1 (o.2.2.1.1,o.2.2.1.2.1,())=true:=by
   unfold l8
   rw[List.any_eq_true]
   refine ⟨x,g0,?_⟩
   rw[decide_eq_false bG,Bool.not_false,Bool.true_and,List.any_eq_true]
   exact ⟨q,hm,by rw[tL];unfold kG;rw[decide_eq_true rfl,Bool.true_or]⟩
  rw[this] at r1
  cases r1
 have ir:∀ i (hi:i < ts.length),i≠j->(ts[i]).1≠o.2.1:=λi hi bG=>by
  rw[<-tK]
  rcases Nat.lt_or_gt_of_ne bG with h1 | h1
  ·have:=List.pairwise_iff_getElem.1 R.oY i j hi hj h1
   omega
  ·have:=List.pairwise_iff_getElem.1 R.oY j i hj hi h1
   omega
 rw[<-tL] at hq sF r3
 have EK:¬ q.2.1=0:=by rw[tL];exact tZ
 have C8:((ck c).1,(ck c).2,())=q:=hq
 obtain ⟨L,hL⟩:∃ L,L=(if cb (ts[j]).2.2.2.1 (cA c) then (ts[j]).2.2.2.1 else (ts[j]).2.2.2.1++[cA c]):=⟨_,rfl⟩
 have sJ:∀ k,k ∈ L↔k ∈ (ts[j]).2.2.2.1\/k=q:=λk=>by
  rw[hL,hq]
  split
  ·rename_i hh
   have:=cx.1 hh
   constructor
   ·exact .inl
   ·rintro (h1 | h1)
    ·exact h1
    ·rw[h1];exact this
  ·rw[List.mem_append,List.mem_singleton]
 have jU:=kb hj
 have iH:=R.apart
 have no:flatK (ts.set j (dJ ts[j] c))=flatK (ts.take j)++(L++flatK (ts.drop (j+1))):=by
  rw[rh hj,hL]
  rfl
 have Ad:q ∉ flatK (ts.take j)/\q ∉ flatK (ts.drop (j+1)):=by
  unfold flatK
  constructor
  ·intro hm
   obtain ⟨x,g0,hm⟩:=List.mem_flatMap.1 hm
   obtain ⟨i,hi,rfl⟩:=List.getElem_of_mem g0
   rw[List.length_take] at hi
   rw[List.getElem_take] at hm
   exact pw _ (List.getElem_mem (by omega)) (ir i (by omega) (by omega)) hm
  ·intro hm
   obtain ⟨x,g0,hm⟩:=List.mem_flatMap.1 hm
   obtain ⟨i,hi,rfl⟩:=List.getElem_of_mem g0
   rw[List.length_drop] at hi
   rw[List.getElem_drop] at hm
   exact pw _ (List.getElem_mem (by omega)) (ir (j+1+i) (by omega) (by omega)) hm
 have uy:(flatK (ts.take j)++(L++flatK (ts.drop (j+1)))).Nodup:=by
  rw[hL,hq]
  rw[jU] at iH
  split
  ·exact iH
  ·rename_i hh
   have pe:q ∉ (ts[j]).2.2.2.1:=λhm=>hh (cx.2 hm)
   have hp:(flatK (ts.take j)++((ts[j]).2.2.2.1++[q]++flatK (ts.drop (j+1)))).Perm (q::(flatK (ts.take j)++((ts[j]).2.2.2.1++flatK (ts.drop (j+1))))):=by
    rw[show flatK (ts.take j)++((ts[j]).2.2.2.1++[q]++flatK (ts.drop (j+1)))=(flatK (ts.take j)++(ts[j]).2.2.2.1)++q::flatK (ts.drop (j+1)) by simp,<- List.append_assoc]
    exact List.perm_middle
   rw[hp.nodup_iff,List.nodup_cons]
   refine ⟨λhm=>?_,iH⟩
   rcases List.mem_append.1 hm with g | g
   ·exact Ad.1 g
   ·rcases List.mem_append.1 g with g | g
    ·exact pe g
    ·exact Ad.2 g
 have EL:L.Nodup:=by
  rw[List.nodup_append] at uy
  exact (List.nodup_append.1 uy.2.1).1
 have F8:L.length<=12:=by
  refine Nat.le_trans (nV L (dd [] (dw rows ts++oT q)) EL λk hk=>?_) (by unfold kF at r3;exact_mod_cast r3)
  rw[qb]
  right
  rw[List.mem_append]
  rcases (sJ k).1 hk with g | g
  ·left
   unfold dw
   refine List.mem_append_right _ ?_
   rw[jU]
   exact List.mem_append_right _ (List.mem_append_left _ g)
  ·right
   unfold oT
   rw[if_neg EK,g]
   exact List.mem_singleton.2 rfl
 have Ae:iK L=0:=Ac (λk hk=>by
  rcases (sJ k).1 hk with g | g
  ·exact T.keys _ dy k g
  ·rw[g];exact sF) EL
 have Hu:q ∈ L:=(sJ q).2 (.inr rfl)
 have hy:iM (dJ ts[j] c)=0:=by
  have e:dJ ts[j] c=((ts[j]).1,(ts[j]).2.1++[c],(ts[j]).2.2.1,L,()):=by unfold dJ;rw[hL]
  rw[e]
  refine yn ⟨λd hd=>?_,X.ml,F8,?_,Ae⟩
  ·rcases List.mem_append.1 hd with g | g
   ·have h1:=X.qZ d g
    unfold iz at h1 ⊢
    split at h1
    ·rename_i Y
     split at h1
     ·rename_i h3
      rw[if_pos Y,if_pos (cx.2 ((sJ _).2 (.inl (cx.1 h3))))]
     ·cases h1
    ·rename_i Y;exact absurd h1 Y
   ·rw[List.mem_singleton] at g
    subst g
    unfold iz
    rw[if_pos fl,hq,if_pos (cx.2 Hu)]
  ·exact rg (by rw[List.length_append];omega) _ 0 0 X.marks
 have xh:=fD hg w1
 have Hv:=λr=>jc (xs:=rows) hg.1 c r
 have Hw:c.2.2.1=true->rk c.2.2.2.1=ck c:=(mt w1).1
 have Mu:eE ts < 12:=r4
 have xE:(dJ ts[j] c).1=(ts[j]).1:=rfl
 have hR:jQ (ts.set j (dJ ts[j] c)):=by
  refine ⟨by rw[List.length_set];exact R.len,λx hx=>?_,?_,by rw[no];exact uy,?_⟩
  ·rcases List.mem_or_eq_of_mem_set hx with g | g
   ·exact R.each x g
   ·rw[g,xE]
    exact ⟨(R.each _ (List.getElem_mem hj)).1,hy⟩
  ·rw[List.pairwise_iff_getElem]
   intro a b ha hb zQ
   rw[List.length_set] at ha hb
   rw[qe hj xE a ha,qe hj xE b hb]
   exact List.pairwise_iff_getElem.1 R.oY a b ha hb zQ
  ·have h1:=m_ hj
   have Y:=m_ (xs:=ts.set j (dJ ts[j] c)) (j:=j) (by rw[List.length_set];exact hj)
   rw[List.getElem_set_self,List.take_set_of_le (Nat.le_refl j),List.drop_set_of_lt (by omega)] at Y
   have h3:(List.length (dJ ts[j] c).2.1:Int)=(List.length (ts[j]).2.1:Int)+1:=by
    show (((ts[j]).2.1++[c]).length:Int)=_
    rw[List.length_append,List.length_cons,List.length_nil]
    omega
   omega
 have hT:=sG hR
 refine ⟨hT,?_,?_,?_,by rw[<-tL];exact sF⟩
 ·refine Nat.le_trans (z_ (q:=q) EK λk hk=>?_) (by exact_mod_cast r3)
  unfold dw at hk ⊢
  rw[no] at hk
  rcases List.mem_append.1 hk with g | g
  ·unfold gw at g
   obtain ⟨r,hr,rfl⟩:=List.mem_map.1 g
   rcases (Hv r).1 hr with g1 | g1
   ·exact .inl (List.mem_append_left _ (List.mem_map.2 ⟨r,g1.1,rfl⟩))
   ·right
    have:=Hw g1.1
    rw[<-C8,<- this,g1.2]
    rfl
  ·rcases List.mem_append.1 g with g | g
   ·left
    rw[jU]
    exact List.mem_append_right _ (List.mem_append_left _ g)
   ·rcases List.mem_append.1 g with g | g
    ·rcases (sJ k).1 g with g | g
     ·left
      rw[jU]
      exact List.mem_append_right _ (List.mem_append_right _ (List.mem_append_left _ g))
     ·exact .inr g
    ·left
     rw[jU]
     exact List.mem_append_right _ (List.mem_append_right _ (List.mem_append_right _ g))
 ·rw[<-tL]
  by_cases hz:c_ ts q=0
  ·exact .inl hz
  ·right
   obtain ⟨x,g0,GT,J7⟩:=rf hz
   by_cases bG:x.1=o.2.1
   ·rw[<-GT];exact bG
   ·exact absurd (cx.1 J7) (pw x g0 bG)
 ·rw[<-tL]
  have hz:c_ (ts.set j (dJ ts[j] c)) q≠0:=λhz=>by
   have:=vJ hz (λx g0=>(sY hT x g0).1) (dJ ts[j] c) (by
    rw[List.mem_iff_getElem]
    exact ⟨j,by rw[List.length_set];exact hj,List.getElem_set_self _⟩)
   have e:(dJ ts[j] c).2.2.2.1=L:=by rw[hL];rfl
   rw[e,cx.2 Hu] at this
   cases this
  obtain ⟨x,g0,GT,J7⟩:=rf hz
  rw[<-GT]
  rcases List.mem_or_eq_of_mem_set g0 with g | g
  ·by_cases bG:x.1=o.2.1
   ·exact bG
   ·exact absurd (cx.1 J7) (pw x g bG)
  ·rw[g]
   exact tK
theorem Da {rows:List Row} {ts:List Tx} (hg:Good rows) (vo:cu ts=0) {o:Op} (qd:cQ o.2.2.1=0) {j:Nat} (hj:j < ts.length) (iq:kB ts o.2.1=(j:Int)) (tK:(ts[j]).1=o.2.1) (ht:(hK rows ts o).2.1=true) :
  oV ts o.2.1 (aU rows o).1=((0:Int),kH ts j (aU rows o).1,()):=by
 obtain ⟨r1,r2,r3,r4,r5,r6⟩:=ld ht
 obtain ⟨w1,w2,w3,w4⟩:=j9 hg qd r2
 have hk:cA (aU rows o).1=(o.2.2.1.1,o.2.2.1.2.1,()):=by unfold cA;rw[w2];rfl
 have fl:k9 (aU rows o).1=0:=by
  grind [k9]
 have pw:∀ x ∈ ts,x.1≠o.2.1->cb x.2.2.2.1 (o.2.2.1.1,o.2.2.1.2.1,())=false:=λx hx bG=>by
  grind [cb,l8,kG]
 have KL:¬ (c_ ts (cA (aU rows o).1)≠0/\c_ ts (cA (aU rows o).1)≠o.2.1):=by
  grind [rf]
 have nw:¬ (c_ ts (cA (aU rows o).1)=0/\12<=List.length ((ts.getD (kB ts o.2.1).toNat (0,[],[],[],())).2.2.2.1:List Key)):=by
  rintro ⟨J,a2⟩
  rw[iq,Int.toNat_natCast,List.getD_eq_getElem?_getD,List.getElem?_eq_getElem hj,Option.getD_some] at a2
  rw[hk] at J
  have hz:=vJ J (λx hx=>(sY vo x hx).1) _ (List.getElem_mem hj)
  have iH:((ts[j]).2.2.2.1:List Key).Nodup:=by
   have:=sC vo
   grind [flatK]
  have tZ:¬ (o.2.2.1.2.1=0):=by have:=(ut qd);omega
  have qt:=nV ((o.2.2.1.1,o.2.2.1.2.1,())::(ts[j]).2.2.2.1) (dd [] (dw rows ts++oT (o.2.2.1.1,o.2.2.1.2.1,()))) (List.nodup_cons.2 ⟨λhm=>(by rw[cx.2 hm] at hz;cases hz),iH⟩) (λq hq=>by
   grind [qb,oT,dw,flatK])
  grind [kF]
 unfold oV
 rw[if_pos vo,if_neg (by grind),if_pos fl,if_neg KL,if_neg (by omega),if_neg nw,iq,Int.toNat_natCast]
theorem Db (c:List UInt8) (h:c.length<=1048576):∃ rows ts o,en.aa (c,())=some (rows,ts,o,())/\rows.length<=61/\(∀ r ∈ rows,List.length r.2.2.2.1<=9)/\(∃ n,(1<=n/\n<=5)/\o4 n ts)/\List.length o.2.2.1.2.2.2.1<=9:=by
 have h0:bA (c,(0:Int),()) 0:=⟨h,Int.le_refl 0,Int.le_refl 0⟩
 have e0:dV.aa (c,())=some ((c,(0:Int),()),()):=ah (k:=0) λk _=>(dV.ab k _).trans rfl
 obtain ⟨⟨rows,ts,t,⟨⟩⟩,e1,J,a2,a3,s1⟩:=xL h0 (by omega)
 simp only at J a2 a3 s1
 obtain ⟨n,hn,hS⟩:=a3
 have aH:ts.length<=5:=by have:=hS.1;omega
 obtain ⟨v,t2,e2,s2⟩:=xI (n:=10) s1 (by omega) (by omega) (by omega)
 suffices hq:∃ o,en.p (c,())=some (rows,ts,o,())/\List.length o.2.2.1.2.2.2.1<=9 by
  obtain ⟨o,p1,p2⟩:=hq
  exact ⟨rows,ts,o,ah (k:=0) λk _=>(en.ab k _).trans p1,J,a2,⟨n,hn,hS⟩,p2⟩
 unfold en.p
 rw[e0]
 simp only[Option.bind_some]
 rw[e1]
 simp only[Option.bind_some]
 rw[e2]
 simp only[Option.bind_some]
 cases v with
 | true=>
  obtain ⟨⟨o,t3,⟨⟩⟩,e3,k1,s3⟩:=EQ s2 (by omega)
  rw[cond_true,e3]
  exact ⟨o,rfl,k1⟩
 | false=>
  obtain ⟨⟨o,t3,⟨⟩⟩,e3,k1,s3,_,_⟩:=sL (rows:=rows) (ts:=ts) s2 (by omega) (by omega) (by omega)
  rw[cond_false,e3]
  exact ⟨o,rfl,k1⟩
theorem AU (c:List UInt8) (h:c.length<=1048576):∃ ts k,eK.aa (c,())=some (ts,k,())/\fx ts:=by
 have h0:bA (c,(0:Int),()) 0:=⟨h,Int.le_refl 0,Int.le_refl 0⟩
 have e0:dV.aa (c,())=some ((c,(0:Int),()),()):=ah (k:=0) λk _=>(dV.ab k _).trans rfl
 obtain ⟨⟨rows,ts,t,⟨⟩⟩,e1,J,a2,a3,s1⟩:=xL h0 (by omega)
 simp only at J a2 a3 s1
 obtain ⟨n,hn,hS⟩:=a3
 have aH:=hS.1
 have hz:(0:Int)<=(0:Int)/\(0:Int) < (ts.length:Int):=by omega
 suffices hq:Gv (λy:List Tx×Key×Unit=>y.1=ts) (eK.p (c,())) by
  obtain ⟨⟨J8,k,⟨⟩⟩,p1,p2⟩:=hq
  have p2:J8=ts:=p2
  subst p2
  exact ⟨J8,k,ah (k:=0) λk _=>(eK.ab k _).trans p1,hS.fx (by omega)⟩
 unfold eK.p
 rw[e0]
 simp only[Option.bind_some]
 rw[e1]
 simp only[Option.bind_some]
 refine Gv.pick s1 (by omega) (by simp) (by simp) λv3 t3 m3 s3=>?_
 refine Gv.next s3 (by omega) (by omega) (by omega) λv4 t4 a4 c4 s4=>?_
 refine Gv.ite hz (Gv.get (l:=ts) (i:=0) (by omega) λx6 _ n6=>Gv.get (l:=ts) (i:=0) (by omega) λx7 e7 n7=>?_)
 refine Gv.bif (λhc=>?_) λ_=>Gv.some rfl
 have qA:(0:Int) < (List.length x7.2.2.2.1:Int):=of_decide_eq_true hc
 refine Gv.vO s4 (by omega) (by omega) (by omega) λv8 t8 s8=>?_
 refine Gv.bif (λ_=>?_) λ_=>Gv.some rfl
 refine Gv.ite hz (Gv.get (l:=ts) (i:=0) (by omega) λx9 _ n9=>Gv.get (l:=ts) (i:=0) (by omega) λtw HB n10=>?_)
 have KM:tw=x7:=by rw[e7] at HB;injection HB with HB;exact HB.symm
 subst KM
 refine Gv.ite ⟨by omega,qA⟩ (Gv.get (l:=ts) (i:=0) (by omega) λvu HC n11=>?_)
 have KN:vu=tw:=by rw[e7] at HC;injection HC with HC;exact HC.symm
 subst KN
 exact Gv.get (l:=vu.2.2.2.1) (i:=0) (by omega) λBv _ _=>Gv.some rfl
end OT
