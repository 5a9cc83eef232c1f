/- The proof's parts, merged: A change folded into changes, in plain words  no conditions but that the changes rise.. No conditions but those that each states. -/
import Derived.Test.YtljankkghppaiaaGreatVf
set_option linter.unusedVariables false
set_option linter.unusedSimpArgs false
set_option linter.unusedSectionVars false
namespace OT
open Go
def pC (cs:List Change) (k:Int×Int):Nat:=pos (cs.map keyRow) k
def fC (cs:List Change) (k:Int×Int):Bool:=fnd (cs.map keyRow) k
def upC (cs:List Change):Prop:=up (cs.map keyRow)
theorem upC_cons {x:Change} {cs:List Change}:upC (x::cs)↔(∀ y ∈ cs,befB (ck x) (ck y)=true)/\upC cs:=by
 unfold upC
 rw[List.map_cons,up_cons]
 simp only[List.mem_map,forall_exists_index,and_imp,forall_apply_eq_imp_iff₂,rk_key]
theorem pC_le (cs:List Change) (k:Int×Int):pC cs k<=cs.length:=by
 have:=pos_le (cs.map keyRow) k
 rwa [List.length_map] at this
theorem foldF_good {xs:List Change} (h:foldF xs=0):upC xs/\(∀ c ∈ xs,chS c=0)/\xs.length<=60:=by
 unfold foldF at h
 split at h
 ·cases h
 ·rename_i hl
  have hn:=forI_none (f:=fun i (_:Unit) x=>foldStep xs i x) (fun i s x o ho=>by
   unfold foldStep at ho
   split at ho
   ·split at ho
    ·split at ho
     ·split at ho
      ·cases ho
      ·injection ho with ho;rw[<-ho];decide
     ·injection ho with ho;rw[<-ho];decide
    ·cases ho
   ·rename_i hx
    injection ho with ho;rw[<-ho];exact hx) xs 0 h
  have h1:∀ i (hi:i < xs.length),chS xs[i]=0:=fun i hi=>by
   have:=hn i hi
   unfold foldStep at this
   split at this
   ·assumption
   ·cases this
  refine ⟨up_adj _ fun i hi h0=>?_,fun x hx=>?_,by omega⟩
  ·rw[List.length_map] at hi
   have:=hn i hi
   unfold foldStep at this
   rw[if_pos (h1 i hi),Nat.zero_add,if_pos h0,List.getElem?_eq_getElem (show i - 1 < xs.length by omega)] at this
   simp only at this
   simp only[List.getElem_map,rk_key]
   split at this
   ·assumption
   ·cases this
  ·obtain ⟨i,hi,rfl⟩:=List.mem_iff_getElem.1 hx
   exact h1 i hi
def turnC (x c:Change):Change:=(x.1,x.2.1,c.2.2.1,c.2.2.2.1,())
def goneC (x:Change):Bool:=(!x.1&&!x.2.2.1)||(x.1&&(x.2.2.1&&Ty.eq tRow x.2.1 x.2.2.2.1))
def badC (x c:Change):Bool:=!(c.1 == x.2.2.1)||(c.1&&!Ty.eq tRow c.2.1 x.2.2.2.1)
def fold1 (cs:List Change) (c:Change):Option (List Change):=
 match (if fC cs (ck c) then cs[pC cs (ck c)]? else none) with
 | none=>some (cs.take (pC cs (ck c))++[c]++cs.drop (pC cs (ck c)))
 | some x=>if badC x c then none else if goneC (turnC x c) then some (cs.take (pC cs (ck c))++cs.drop (pC cs (ck c)+1)) else some (cs.set (pC cs (ck c)) (turnC x c))
theorem pC_lt {x:Change} {cs:List Change} {k:Int×Int} (h:befB (ck x) k=true):pC (x::cs) k=pC cs k+1/\fC (x::cs) k=fC cs k:=by
 have h':befB (rk (keyRow x)) k=true:=by rw[rk_key];exact h
 refine ⟨?_,?_⟩
 ·unfold pC
  rw[List.map_cons]
  simp only[pos,h',if_true]
 ·unfold fC
  rw[List.map_cons]
  exact fnd_cons_lt h'
theorem pC_ge {x:Change} {cs:List Change} {k:Int×Int} (h:befB (ck x) k=false):pC (x::cs) k=0/\fC (x::cs) k=decide (ck x=k):=by
 have h':befB (rk (keyRow x)) k=false:=by rw[rk_key];exact h
 have h0:pos ((x::cs).map keyRow) k=0:=by rw[List.map_cons];simp[pos,h']
 refine ⟨h0,?_⟩
 unfold fC fnd
 rw[h0]
 simp only[List.map_cons,List.getElem?_cons_zero,rk_key]
theorem fold1_lt {x:Change} {cs:List Change} {c:Change} (h:befB (ck x) (ck c)=true):fold1 (x::cs) c=(fold1 cs c).map (x::·):=by
 obtain ⟨h1,h2⟩:=pC_lt (cs:=cs) h
 unfold fold1
 rw[h1,h2]
 simp only[List.getElem?_cons_succ,List.take_succ_cons,List.drop_succ_cons,List.set_cons_succ]
 cases (if fC cs (ck c)=true then cs[pC cs (ck c)]? else none) with
 | none=>rfl
 | some y=>
  simp only
  split
  ·rfl
  ·split <;> rfl
theorem fold1_gt {x:Change} {cs:List Change} {c:Change} (h:befB (ck c) (ck x)=true):fold1 (x::cs) c=some (c::x::cs):=by
 have hne:¬ ck x=ck c:=fun e=>by rw[e,befB_irr] at h;cases h
 obtain ⟨h1,h2⟩:=pC_ge (cs:=cs) (befB_asym h)
 unfold fold1
 rw[h1,h2]
 simp[hne]
theorem fold1_eq {x:Change} {cs:List Change} {c:Change} (h:ck x=ck c):fold1 (x::cs) c=if badC x c then none else if goneC (turnC x c) then some cs else some (turnC x c::cs):=by
 obtain ⟨h1,h2⟩:=pC_ge (cs:=cs) (k:=ck c) (x:=x) (by rw[h];exact befB_irr _)
 unfold fold1
 rw[h1,h2]
 simp[h]
theorem fold1_nil (c:Change):fold1 [] c=some [c]:=by simp[fold1,fC,fnd,pC,pos]
theorem fold1_len {cs:List Change} {c:Change} {r:List Change} (h:fold1 cs c=some r):r.length<=cs.length+1:=by
 unfold fold1 at h
 split at h
 ·injection h with h;subst h
  simp only[List.length_append,List.length_take,List.length_drop,List.length_cons,List.length_nil];omega
 ·split at h
  ·cases h
  ·split at h
   ·injection h with h;subst h
    simp only[List.length_append,List.length_take,List.length_drop];omega
   ·injection h with h;subst h
    simp
theorem fold1_all {q:Change->Prop} {cs:List Change} {c:Change} {r:List Change} (h:fold1 cs c=some r) (h1:∀ x ∈ cs,q x) (h2:q c) (h3:∀ x ∈ cs,q (turnC x c)):∀ x ∈ r,q x:=by
 unfold fold1 at h
 split at h
 ·injection h with h;subst h
  intro x hx
  simp only[List.mem_append,List.mem_singleton] at hx
  rcases hx with (hx | rfl) | hx
  ·exact h1 x (List.mem_of_mem_take hx)
  ·exact h2
  ·exact h1 x (List.mem_of_mem_drop hx)
 ·rename_i y hy
  have hy':y ∈ cs:=by
   split at hy
   ·exact List.mem_of_getElem? hy
   ·cases hy
  split at h
  ·cases h
  ·split at h
   ·injection h with h;subst h
    intro x hx
    rcases List.mem_append.1 hx with hx | hx
    ·exact h1 x (List.mem_of_mem_take hx)
    ·exact h1 x (List.mem_of_mem_drop hx)
   ·injection h with h;subst h
    intro x hx
    rcases List.mem_or_eq_of_mem_set hx with hx | rfl
    ·exact h1 x hx
    ·exact h3 y hy'
theorem keyOrder_eq (c:Change) (r:Row):impl_keyOrder.sem (c,r,())=some (if befB (ck c) (rk r) then -1 else if befB (rk r) (ck c) then 1 else 0,()):=by
 refine lift_eq (k:=0) fun k _=>(impl_keyOrder.raw_eq k _).trans ?_
 show impl_keyOrder.p _=_
 unfold impl_keyOrder.p
 simp only[implKey_eq,order_eq,keyRow_ck,Option.bind_some]
 rfl
theorem ord_neg (a b:Int×Int):decide ((if befB a b then (-1:Int) else if befB b a then 1 else 0) < 0)=befB a b:=by
 cases befB a b <;> cases befB b a <;> rfl
theorem ord_nul (a b:Int×Int):decide ((if befB a b then (-1:Int) else if befB b a then 1 else 0)=0)=decide (a=b):=by
 cases h1:befB a b with
 | true=>
  have:¬ a=b:=fun e=>by rw[e,befB_irr] at h1;cases h1
  simp[this]
 | false=>
  cases h2:befB b a with
  | true=>
   have:¬ a=b:=fun e=>by rw[e,befB_irr] at h2;cases h2
   simp[this]
  | false=>simp[befB_tri h1 h2]
theorem searchC_eq (xs:List Change) (key:Row) (f:Nat×Int) (hu:upC xs) (hl:xs.length<=2000000):slices_BinarySearchFunc_Change.sem (xs,key,f,())=some ((pC xs (rk key):Int),fC xs (rk key),()):=by
 have hp:=pC_le xs (rk key)
 have hq:slices_BinarySearchFunc_Change.Q0 0 (xs,key,f,()) (pC xs (rk key):Int)=some ((pC xs (rk key):Int),fC xs (rk key),()):=by
  show slices_BinarySearchFunc_Change.q0 _ _=_
  unfold slices_BinarySearchFunc_Change.q0
  by_cases hlt:pC xs (rk key) < xs.length
  ·have h1:((pC xs (rk key):Nat):Int) < (xs.length:Int):=by omega
   have h2:fC xs (rk key)=decide (ck xs[pC xs (rk key)]=rk key):=by
    unfold fC fnd
    have h3:(xs.map keyRow)[pos (xs.map keyRow) (rk key)]?=some (keyRow xs[pC xs (rk key)]):=by
     rw[List.getElem?_map]
     show Option.map keyRow xs[pC xs (rk key)]?=_
     rw[List.getElem?_eq_getElem hlt];rfl
    rw[h3]
    simp only[rk_key]
   simp only[h1,decide_true,cond_true,Int.natCast_nonneg,if_true,Int.toNat_natCast,List.getElem?_eq_getElem hlt,Option.bind_some,keyOrder_eq,ord_nul,h2]
  ·have h1:¬ ((pC xs (rk key):Nat):Int) < (xs.length:Int):=by omega
   simp only[h1,decide_false,cond_false]
   have h3:(xs.map keyRow)[pos (xs.map keyRow) (rk key)]?=none:=List.getElem?_eq_none (by rw[List.length_map];show xs.length<=pC xs (rk key);omega)
   unfold fC fnd
   rw[h3]
 refine lift_eq (k:=xs.length+1) fun k hk=>(slices_BinarySearchFunc_Change.raw_eq k _).trans ?_
 refine rawIter_eq (B:=fun self v=>slices_BinarySearchFunc_Change.B0 0 self (fun z=>slices_BinarySearchFunc_Change.Q0 0 (xs,key,f,()) z) (xs,key,f,()) v) (fun _=>((pC xs (rk key):Int),fC xs (rk key),()))
  (fun v=>∃ lo hi:Nat,v=((lo:Int),(hi:Int))/\lo<=pC xs (rk key)/\pC xs (rk key)<=hi/\hi<=xs.length) (fun v=>(v.2 - v.1).toNat) (fun v hv self=>?_) k (0,(xs.length:Int)) ⟨0,xs.length,rfl,by omega,hp,by omega⟩ (by simp;omega)
 obtain ⟨lo,hi,rfl,h1,h2,h3⟩:=hv
 by_cases hlt:lo < hi
 ·right
  have hlt':(lo:Int) < (hi:Int):=by omega
  have hm:(lo+hi) / 2 < xs.length:=by omega
  have hm':(lo+hi) / 2 < (xs.map keyRow).length:=by rw[List.length_map];exact hm
  have hb:∀ self,slices_BinarySearchFunc_Change.B0 0 self (fun z=>slices_BinarySearchFunc_Change.Q0 0 (xs,key,f,()) z) (xs,key,f,()) ((lo:Int),(hi:Int))=if befB (ck xs[(lo+hi) / 2]) (rk key) then self (w64 ((((lo+hi) / 2:Nat):Int)+1),(hi:Int)) else self ((lo:Int),(((lo+hi) / 2:Nat):Int)):=fun self=>by
   show slices_BinarySearchFunc_Change.b0 _ _ _ _=_
   unfold slices_BinarySearchFunc_Change.b0
   simp only[hlt',decide_true,cond_true,half lo hi (by omega),Int.natCast_nonneg,if_true,Int.toNat_natCast,List.getElem?_eq_getElem hm,Option.bind_some,keyOrder_eq,ord_neg]
   cases befB (ck xs[(lo+hi) / 2]) (rk key) <;> rfl
  have hkey:rk (xs.map keyRow)[(lo+hi) / 2]=ck xs[(lo+hi) / 2]:=by rw[List.getElem_map,rk_key]
  cases hc:befB (ck xs[(lo+hi) / 2]) (rk key) with
  | true=>
   refine ⟨((((lo+hi) / 2+1:Nat):Int),(hi:Int)),?_,rfl,⟨_,_,rfl,?_,h2,h3⟩,by simp only;omega⟩
   ·rw[hb,hc,if_pos rfl,w64_in (by omega)];rfl
   ·rcases Nat.lt_or_ge ((lo+hi) / 2) (pC xs (rk key)) with h | h
    ·omega
    ·have:=up_not (xs.map keyRow) (rk key) _ hm' hu h
     rw[hkey] at this;rw[this] at hc;cases hc
  | false=>
   refine ⟨((lo:Int),(((lo+hi) / 2:Nat):Int)),?_,rfl,⟨_,_,rfl,h1,?_,by omega⟩,by simp only;omega⟩
   ·rw[hb,hc];rfl
   ·rcases Nat.lt_or_ge ((lo+hi) / 2) (pC xs (rk key)) with h | h
    ·have:=pos_lt (xs.map keyRow) (rk key) _ hm' h
     rw[hkey] at this;rw[this] at hc;cases hc
    ·exact h
 ·left
  have e:lo=pC xs (rk key):=by omega
  have hlt':¬ (lo:Int) < (hi:Int):=by omega
  show slices_BinarySearchFunc_Change.b0 _ _ _ _=_
  unfold slices_BinarySearchFunc_Change.b0
  simp only[hlt',decide_false,cond_false]
  rw[e]
  exact hq
def foldC (xs:List Change) (c:Change):Buffer:=if foldF xs=0 then (if chS c=0 then (match fold1 xs c with | none=>((8:Int),([]:List Change),()) | some r=>((0:Int),r,())) else (chS c,([]:List Change),())) else (foldF xs,([]:List Change),())
theorem insC_eq (xs:List Change) (i:Nat) (c:Change) (hi:i<=xs.length) (hl:xs.length<=1000):slices_Insert_Change.sem (xs,(i:Int),[c],())=some (xs.take i++[c]++xs.drop i,()):=by
 have h1:(0:Int)<=(i:Int)/\(i:Int)<=(xs.length:Int)/\xs.length+[c].length<=CAP:=⟨by omega,by omega,cap_ok (by simp only[List.length_cons,List.length_nil];omega)⟩
 show (if (0:Int)<=(i:Int)/\(i:Int)<=(xs.length:Int)/\xs.length+[c].length<=CAP then some (xs.take (i:Int).toNat++[c]++xs.drop (i:Int).toNat,()) else none)=_
 rw[if_pos h1]
 rfl
theorem delC_eq (xs:List Change) (i:Nat) (hi:i < xs.length) (hl:xs.length<=1000):slices_Delete_Change.sem (xs,(i:Int),w64 ((i:Int)+1),())=some (xs.take i++xs.drop (i+1),()):=by
 rw[w64_in (by omega)]
 have h1:(0:Int)<=(i:Int)/\(i:Int)<=(i:Int)+1/\(i:Int)+1<=(xs.length:Int):=⟨by omega,by omega,by omega⟩
 show (if (0:Int)<=(i:Int)/\(i:Int)<=(i:Int)+1/\(i:Int)+1<=(xs.length:Int) then some (xs.take (i:Int).toNat++xs.drop ((i:Int)+1).toNat,()) else none)=_
 rw[if_pos h1]
 rfl
theorem implFold_eq (xs:List Change) (c:Change) (hl:xs.length<=1048576) (h:∀ x ∈ xs,cl x) (hc:cl c):impl_FoldChange.sem (xs,c,())=some (foldC xs c,()):=by
 refine lift_eq (k:=0) fun k _=>(impl_FoldChange.raw_eq k _).trans ?_
 show impl_FoldChange.p _=_
 unfold impl_FoldChange.p foldC
 simp only[folded_eq xs (by rw[maxLen_val];omega) h,single_eq c hc,Option.bind_some]
 by_cases h1:foldF xs=0
 ·obtain ⟨hu,_,h60⟩:=foldF_good h1
  simp only[h1,decide_true,Bool.not_true,cond_false,if_true]
  by_cases h2:chS c=0
  ·have hp:=pC_le xs (ck c)
   simp only[h2,decide_true,Bool.not_true,cond_false,if_true,implKey_eq,searchC_eq xs _ _ hu (by omega),rk_key,cloneChange_eq xs hl,Option.bind_some]
   unfold fold1
   cases hf:fC xs (ck c) with
   | false=>
    simp only[Bool.not_false,cond_true,Bool.false_eq_true,if_false,insC_eq xs _ c hp (by omega),Option.bind_some]
   | true=>
    have hlt:pC xs (ck c) < xs.length:=by
     obtain ⟨hp,_⟩:=fnd_lt hf
     rw[List.length_map] at hp
     exact hp
    have hi:(0:Int)<=(pC xs (ck c):Int)/\((pC xs (ck c):Nat):Int) < (xs.length:Int):=⟨by omega,by omega⟩
    simp only[Bool.not_true,cond_false,if_true,if_pos hi,Int.toNat_natCast,List.getElem?_eq_getElem hlt,Option.bind_some,delC_eq xs _ hlt (by omega)]
    generalize xs[pC xs (ck c)]=x
    unfold badC goneC turnC
    cases c.1 <;> cases x.2.2.1 <;> cases x.1 <;> cases c.2.2.1 <;> simp <;> (try (cases Ty.eq tRow c.2.1 x.2.2.2.1 <;> simp)) <;> (try (cases Ty.eq tRow x.2.1 c.2.2.2.1 <;> simp))
  ·simp only[h2,decide_false,Bool.not_false,cond_true,if_false]
 ·simp only[h1,decide_false,Bool.not_false,cond_true,if_false]
def foldS (c:Change) (s:List Change×Bool) (x:Change):Sum (List Change×Bool×Unit) (List Change×Bool):=
 let s':=if !s.2&&befB (ck c) (ck x) then (s.1++[c],true) else s
 if befB (ck x) (ck c) then .inr (s'.1++[x],s'.2) else if befB (ck c) (ck x) then .inr (s'.1++[x],s'.2) else
 if badC x c then .inl ([],false,()) else if goneC (turnC x c) then .inr (s'.1,true) else .inr (s'.1++[turnC x c],true)
def foldE (c:Change) (s:List Change×Bool):List Change×Bool×Unit:=if s.2 then (s.1,true,()) else (s.1++[c],true,())
theorem foldS_done (c:Change):∀ (xs:List Change) (i:Nat) (s:List Change),(∀ x ∈ xs,befB (ck c) (ck x)=true)->forI (fun _ s x=>foldS c s x) (foldE c) i xs (s,true)=(s++xs,true,())
 | [],_,s,_=>by simp[forI,foldE]
 | x::xs,i,s,h=>by
  have hx:=h x List.mem_cons_self
  have:foldS c (s,true) x=.inr (s++[x],true):=by simp[foldS,hx,befB_asym hx]
  simp only[forI,this]
  rw[foldS_done c xs (i+1) _ (fun y hy=>h y (List.mem_cons_of_mem _ hy))]
  simp
theorem foldS_eq (c:Change):∀ (xs:List Change) (i:Nat) (s:List Change),upC xs->forI (fun _ s x=>foldS c s x) (foldE c) i xs (s,false)=match fold1 xs c with | none=>([],false,()) | some r=>(s++r,true,())
 | [],_,s,_=>by simp[forI,foldE,fold1_nil]
 | x::xs,i,s,hu=>by
  have hu2:=upC_cons.1 hu
  cases h1:befB (ck x) (ck c) with
  | true=>
   have:foldS c (s,false) x=.inr (s++[x],false):=by simp[foldS,h1,befB_asym h1]
   simp only[forI,this]
   rw[foldS_eq c xs (i+1) _ hu2.2,fold1_lt h1]
   cases fold1 xs c <;> simp
  | false=>
   cases h2:befB (ck c) (ck x) with
   | true=>
    have:foldS c (s,false) x=.inr (s++[c]++[x],true):=by simp[foldS,h1,h2]
    simp only[forI,this]
    rw[foldS_done c xs (i+1) _ (fun y hy=>befB_trans h2 (hu2.1 y hy)),fold1_gt h2]
    simp
   | false=>
    have he:=befB_tri h1 h2
    have hgt:∀ y ∈ xs,befB (ck c) (ck y)=true:=fun y hy=>by rw[<-he];exact hu2.1 y hy
    rw[fold1_eq he]
    cases h3:badC x c with
    | true=>
     have:foldS c (s,false) x=.inl ([],false,()):=by simp[foldS,h1,h2,h3]
     simp only[forI,this]
     rfl
    | false=>
     cases h4:goneC (turnC x c) with
     | true=>
      have:foldS c (s,false) x=.inr (s,true):=by simp[foldS,h1,h2,h3,h4]
      simp only[forI,this]
      rw[foldS_done c xs (i+1) _ hgt]
      simp
     | false=>
      have:foldS c (s,false) x=.inr (s++[turnC x c],true):=by simp[foldS,h1,h2,h3,h4]
      simp only[forI,this]
      rw[foldS_done c xs (i+1) _ hgt]
      simp
theorem ty_symm {a b:Row}:Ty.eq tRow a b=Ty.eq tRow b a:=by
 cases h1:Ty.eq tRow a b with
 | true=>
  have:=row_eq h1
  subst this;exact h1.symm
 | false=>
  cases h2:Ty.eq tRow b a with
  | true=>
   have:=row_eq h2
   subst this;rw[h1] at h2;cases h2
  | false=>rfl
theorem specFold1_eq (xs:List Change) (c:Change) (hu:upC xs) (hl:xs.length<=1000):spec_l9Fold.sem (xs,c,())=some (match fold1 xs c with | none=>(([]:List Change),false,()) | some r=>(r,true,())):=by
 refine lift_eq (k:=xs.length+1) fun k hk=>(spec_l9Fold.raw_eq k _).trans ?_
 have:=for_loop (B:=fun self v=>spec_l9Fold.B0 k self (fun z=>spec_l9Fold.Q0 k (xs,c,()) z) (xs,c,()) v) xs (fun (s:List Change×Bool) (i:Int)=>(s.1,s.2,i)) (fun _ s x=>foldS c s x) (foldE c) (fun i s=>s.1.length<=2*i) (by rw[maxLen_val];omega)
  (fun i hi s self hI=>by
   show spec_l9Fold.b0 _ _ _ _=_
   unfold spec_l9Fold.b0 foldS
   have hlt:(i:Int) < (xs.length:Int):=by omega
   obtain ⟨s1,s2⟩:=s
   simp only at hI
   have c1:∀ y:Change,s1.length+[y].length<=CAP:=fun y=>cap_ok (by simp only[List.length_cons,List.length_nil];omega)
   have c2:∀ y:Change,(s1++[c]).length+[y].length<=CAP:=fun y=>cap_ok (by simp only[List.length_append,List.length_cons,List.length_nil];omega)
   simp only[hlt,decide_true,cond_true,Int.natCast_nonneg,if_true,Int.toNat_natCast,List.getElem?_eq_getElem hi,Option.bind_some,ahead_eq,c1,c2]
   generalize xs[i]=x
   unfold badC goneC turnC
   rw[ty_symm (a:=x.2.2.2.1) (b:=c.2.1)]
   cases befB (ck c) (ck x) <;> cases befB (ck x) (ck c) <;> cases s2 <;> cases x.2.2.1 <;> cases c.1 <;> cases x.1 <;> cases c.2.2.1 <;> simp <;> (try (cases Ty.eq tRow c.2.1 x.2.2.2.1 <;> simp)) <;> (try (cases Ty.eq tRow x.2.1 c.2.2.2.1 <;> simp)))
  (fun i hi s s' hI hf=>by
   obtain ⟨s1,s2⟩:=s
   unfold foldS at hf
   simp only at hf hI
   have hlen:(if (!s2&&befB (ck c) (ck xs[i]))=true then (s1++[c],true) else (s1,s2)).1.length<=s1.length+1:=by split <;> simp
   split at hf
   ·injection hf with hf;subst hf;simp only[List.length_append,List.length_cons,List.length_nil];omega
   ·split at hf
    ·injection hf with hf;subst hf;simp only[List.length_append,List.length_cons,List.length_nil];omega
    ·split at hf
     ·cases hf
     ·split at hf
      ·injection hf with hf;subst hf;simp only;omega
      ·injection hf with hf;subst hf;simp only[List.length_append,List.length_cons,List.length_nil];omega) (fun s self hI=>by
   show spec_l9Fold.b0 _ _ _ _=_
   unfold spec_l9Fold.b0
   simp only[Int.lt_irrefl,decide_false,cond_false]
   show spec_l9Fold.q0 _ _=_
   unfold spec_l9Fold.q0 foldE
   obtain ⟨s1,s2⟩:=s
   simp only at hI
   have c1:∀ y:Change,s1.length+[y].length<=CAP:=fun y=>cap_ok (by simp only[List.length_cons,List.length_nil];omega)
   simp only[c1,if_true]
   cases s2 <;> rfl) ([],false) (by simp) k (by omega)
 rw[foldS_eq c xs 0 [] hu] at this
 refine (this:spec_l9Fold.r0 k (xs,c,()) ([],false,0)=_).trans ?_
 cases fold1 xs c <;> rfl
theorem specFold_eq (xs:List Change) (c:Change) (hl:xs.length<=1048576) (h:∀ x ∈ xs,cl x) (hc:cl c):spec_FoldChange.sem (xs,c,())=some (foldC xs c,()):=by
 refine lift_eq (k:=0) fun k _=>(spec_FoldChange.raw_eq k _).trans ?_
 show spec_FoldChange.p _=_
 unfold spec_FoldChange.p foldC
 simp only[specList_eq xs (by rw[maxLen_val];omega) h,specChangeS_eq c hc,Option.bind_some]
 by_cases h1:foldF xs=0
 ·obtain ⟨hu,_,h60⟩:=foldF_good h1
  simp only[h1,decide_true,Bool.not_true,cond_false,if_true]
  by_cases h2:chS c=0
  ·simp only[h2,decide_true,Bool.not_true,cond_false,if_true,specFold1_eq xs c hu (by omega),Option.bind_some]
   cases fold1 xs c <;> rfl
  ·simp only[h2,decide_false,Bool.not_false,cond_true,if_false]
 ·simp only[h1,decide_false,Bool.not_false,cond_true,if_false]
end OT
set_option linter.unusedVariables false
set_option linter.unusedSimpArgs false
namespace OT
open Go
theorem for_loopE {V S O α:Type} {B:(V->Option O)->V->Option O} (xs:List α) (enc:S->Int->V) (f:Nat->S->α->Sum (Option O) S) (fin:S->Option O) (I:Nat->S->Prop) (hmax:xs.length<=maxLen)
  (hin:∀ (i:Nat) (hi:i < xs.length) (s:S) self,I i s->B self (enc s (i:Int))=match f i s xs[i] with | .inl o=>o | .inr s'=>self (enc s' (w64 ((i:Int)+1))))
  (hI:∀ (i:Nat) (hi:i < xs.length) (s s':S),I i s->f i s xs[i]=.inr s'->I (i+1) s')
  (hout:∀ (s:S) self,I xs.length s->B self (enc s (xs.length:Int))=fin s) (s:S) (h0:I 0 s):∀ k,xs.length < k->rawIter B k (enc s 0)=forI f fin 0 xs s:=by
 have main:∀ (m i:Nat) (s:S),xs.length - i=m->i<=xs.length->I i s->∀ k,m < k->rawIter B k (enc s (i:Int))=forI f fin i (xs.drop i) s:=by
  intro m
  induction m with
  | zero=>
   intro i s hm hi hs k hk
   have hi':i=xs.length:=by omega
   subst hi'
   cases k with
   | zero=>omega
   | succ k=>
    show B (rawIter B k) _=_
    rw[hout s _ hs]
    simp[forI]
  | succ m ih=>
   intro i s hm hi hs k hk
   have hlt:i < xs.length:=by omega
   cases k with
   | zero=>omega
   | succ k=>
    show B (rawIter B k) _=_
    rw[hin i hlt s _ hs,List.drop_eq_getElem_cons hlt]
    simp only[forI]
    cases hf:f i s xs[i] with
    | inl o=>rfl
    | inr s'=>
     have hw:w64 ((i:Int)+1)=((i+1:Nat):Int):=by rw[w64_in (by rw[maxLen_val] at hmax;omega)];omega
     simp only[hw]
     exact ih (i+1) s' (by omega) (by omega) (hI i hlt s s' hs hf) k (by omega)
 intro k hk
 simpa using main xs.length 0 s (by omega) (by omega) h0 k hk
theorem forI_any {O α:Type} (p:α->Bool) (a:O) (fin:Unit->O):∀ (xs:List α) (i:Nat),forI (fun _ _ x=>if p x then .inl a else .inr ()) fin i xs ()=if xs.any p then a else fin ()
 | [],_=>rfl
 | x::xs,i=>by
  simp only[forI,List.any_cons]
  by_cases h:p x=true
  ·simp[h]
  ·simp[h,forI_any p a fin xs (i+1)]
def whereF {α:Type} (p:α->Bool):Nat->List α->Int
 | _,[]=>-1
 | i,x::xs=>if p x then (i:Int) else whereF p (i+1) xs
theorem forI_where {α:Type} (p:α->Bool):∀ (xs:List α) (i:Nat),forI (fun i _ x=>if p x then .inl ((i:Int),()) else .inr ()) (fun _=>((-1:Int),())) i xs ()=(whereF p i xs,())
 | [],_=>rfl
 | x::xs,i=>by
  simp only[forI,whereF]
  by_cases h:p x=true
  ·simp[h]
  ·simp[h,forI_where p xs (i+1)]
def keyB2 (k:Key):Bool:=inB k.1 0 3&&inB k.2.1 1 99
def tl (x:Tx):Prop:=List.length x.2.1<=1048576/\List.length x.2.2.1<=1048576/\List.length x.2.2.2.1<=1048576/\∀ c ∈ x.2.1,cl c
end OT
set_option linter.unusedVariables false
set_option linter.unusedSimpArgs false
namespace OT
open Go
def pb (D:List UInt8) (i:Nat):Nat:=(D.getD i 0).toNat
theorem pb_lt (D:List UInt8) (i:Nat):pb D i < 256:=UInt8.toNat_lt _
theorem pb_get {D:List UInt8} {i:Nat} (h:i < D.length):D[i]?=some D[i]/\(D[i]).toNat=pb D i:=⟨List.getElem?_eq_getElem h,by simp[pb,h]⟩
theorem pb_ext {A B:List UInt8} (h:A.length=B.length) (h2:∀ j,j < A.length->pb A j=pb B j):A=B:=by
 refine List.ext_getElem h fun i h1 h3=>?_
 have:=h2 i h1
 rw[<-(pb_get h1).2,<- (pb_get h3).2] at this
 exact UInt8.toNat_inj.1 this
theorem pb_piece (D:List UInt8) (a n j:Nat) (h:j < n):pb ((D.drop a).take n) j=pb D (a+j):=by
 unfold pb
 simp only[List.getD_eq_getElem?_getD,List.getElem?_take,h,if_true,List.getElem?_drop]
def pn (p:List UInt8):Nat:=pb p 0
def plo (p:List UInt8):Nat:=pb p 1
def pat (p:List UInt8) (i:Nat):Nat:=pb p (2+2*i)
def psz (p:List UInt8) (i:Nat):Nat:=pb p (3+2*i)
def slotB (p:List UInt8) (i:Nat):Bool:=if pat p i=0\/psz p i=0 then decide (pat p i=psz p i) else decide (plo p<=pat p i)&&decide (pat p i+psz p i<=64)
def apartP (p:List UInt8) (i k:Nat):Bool:=(decide (psz p i=0)||decide (psz p k=0))||(decide (pat p i+psz p i<=pat p k)||decide (pat p k+psz p k<=pat p i))
def pageF (p:List UInt8):Int:=
 if p.length=64 then
  if pn p<=16/\2+2*pn p<=plo p/\plo p<=64 then
   if (List.range (pn p)).all (slotB p) then
    if (List.range (pn p)).all (fun i=>(List.range i).all (apartP p i)) then
     if 0 < pn p/\psz p (pn p - 1)=0 then 8 else 0
    else 8
   else 3
  else 3
 else 1
structure PageOk (p:List UInt8):Prop where
 len:p.length=64
 n:pn p<=16
 lo:2+2*pn p<=plo p
 hi:plo p<=64
 slot:∀ i,i < pn p->psz p i≠0->plo p<=pat p i/\pat p i+psz p i<=64
 zero:∀ i,i < pn p->psz p i=0->pat p i=0
 apart:∀ i k,i < pn p->k < pn p->i≠k->psz p i≠0->psz p k≠0->pat p i+psz p i<=pat p k\/pat p k+psz p k<=pat p i
 last:0 < pn p->psz p (pn p - 1)≠0
theorem slotB_iff {p:List UInt8} {i:Nat} (hlo:2<=plo p):slotB p i=true↔(psz p i≠0->plo p<=pat p i/\pat p i+psz p i<=64)/\(psz p i=0->pat p i=0):=by
 unfold slotB
 by_cases h1:psz p i=0
 ·simp[h1]
 ·by_cases h2:pat p i=0
  ·simp[h1,h2]
   omega
  ·simp[h1,h2]
theorem apartP_iff {p:List UInt8} {i k:Nat}:apartP p i k=true↔(psz p i≠0->psz p k≠0->pat p i+psz p i<=pat p k\/pat p k+psz p k<=pat p i):=by
 unfold apartP
 by_cases h1:psz p i=0
 ·simp[h1]
 ·by_cases h2:psz p k=0
  ·simp[h2]
  ·simp[h1,h2]
theorem pageF_iff {p:List UInt8}:pageF p=0↔PageOk p:=by
 constructor
 ·intro h
  unfold pageF at h
  split at h
  ·rename_i h1
   split at h
   ·rename_i h2
    split at h
    ·rename_i h3
     split at h
     ·rename_i h4
      split at h
      ·cases h
      ·rename_i h5
       have hs:∀ i,i < pn p->(psz p i≠0->plo p<=pat p i/\pat p i+psz p i<=64)/\(psz p i=0->pat p i=0):=fun i hi=>(slotB_iff (by omega)).1 (List.all_eq_true.1 h3 i (List.mem_range.2 hi))
       have ha:∀ i k,i < pn p->k < i->psz p i≠0->psz p k≠0->pat p i+psz p i<=pat p k\/pat p k+psz p k<=pat p i:=fun i k hi hk=>apartP_iff.1 (List.all_eq_true.1 (List.all_eq_true.1 h4 i (List.mem_range.2 hi)) k (List.mem_range.2 hk))
       refine ⟨h1,h2.1,h2.2.1,h2.2.2,fun i hi=>(hs i hi).1,fun i hi=>(hs i hi).2,fun i k hi hk hik z1 z2=>?_,fun hn hz=>h5 ⟨hn,hz⟩⟩
       rcases Nat.lt_or_gt_of_ne hik with h6 | h6
       ·exact (ha k i hk h6 z2 z1).symm
       ·exact ha i k hi h6 z1 z2
     ·cases h
    ·cases h
   ·cases h
  ·cases h
 ·intro h
  unfold pageF
  rw[if_pos h.len,if_pos ⟨h.n,h.lo,h.hi⟩,if_pos,if_pos,if_neg]
  ·intro ⟨h1,h2⟩
   exact h.last h1 h2
  ·refine List.all_eq_true.2 fun i hi=>List.all_eq_true.2 fun k hk=>apartP_iff.2 ?_
   have:=List.mem_range.1 hi
   have:=List.mem_range.1 hk
   exact h.apart i k (by omega) (by omega) (by omega)
  ·exact List.all_eq_true.2 fun i hi=>(slotB_iff (by have:=h.lo;omega)).2 ⟨h.slot i (List.mem_range.1 hi),h.zero i (List.mem_range.1 hi)⟩
def cellP (p:List UInt8) (i:Nat):List UInt8:=(p.drop (pat p i)).take (psz p i)
def cellOf (p:List UInt8) (i:Nat):List UInt8:=if i < pn p then cellP p i else []
theorem cellP_len {p:List UInt8} (h:PageOk p) {i:Nat} (hi:i < pn p):(cellP p i).length=psz p i:=by
 unfold cellP
 by_cases hz:psz p i=0
 ·simp[hz]
 ·have:=h.slot i hi hz
  have:=h.len
  simp only[List.length_take,List.length_drop]
  omega
theorem cellP_pb (p:List UInt8) (i j:Nat) (h:j < psz p i):pb (cellP p i) j=pb p (pat p i+j):=pb_piece p _ _ j h
theorem cellP_eq {p q:List UInt8} {i k:Nat} (hp:(cellP p i).length=psz p i) (hq:(cellP q k).length=psz q k) (hs:psz p i=psz q k) (hb:∀ j,j < psz p i->pb p (pat p i+j)=pb q (pat q k+j)):cellP p i=cellP q k:=by
 refine pb_ext (by omega) fun j hj=>?_
 rw[cellP_pb p i j (by omega),cellP_pb q k j (by omega)]
 exact hb j (by omega)
theorem cellP_is {p c:List UInt8} {i:Nat} (hp:(cellP p i).length=psz p i) (hs:psz p i=c.length) (hb:∀ j,j < c.length->pb p (pat p i+j)=pb c j):cellP p i=c:=by
 refine pb_ext (by omega) fun j hj=>?_
 rw[cellP_pb p i j (by omega)]
 exact hb j (by omega)
def stand (p:List UInt8) (s a:Nat) (c:List UInt8):List UInt8:=((over p a c.length c).set (2+2*s) (UInt8.ofNat a)).set (3+2*s) (UInt8.ofNat c.length)
structure Turned (p q:List UInt8) (s a m:Nat):Prop where
 len:q.length=64
 n:pn q=pn p\/(pn q=pn p+1/\s=pn p)
 s_lt:s < pn q
 n16:pn q<=16
 lo:2+2*pn q<=plo q
 lo2:plo q<=plo p
 at_:pat q s=a
 sz:psz q s=m
 pos:0 < m
 a_lo:plo q<=a
 a_hi:a+m<=64
 oth:∀ i,i < pn q->i≠s->pat q i=pat p i/\psz q i=psz p i
 free:∀ i,i < pn p->i≠s->psz p i≠0->a+m<=pat p i\/pat p i+psz p i<=a
 same:∀ j,plo p<=j->j < 64->(j < a\/a+m<=j)->pb q j=pb p j
theorem Turned.ok {p q:List UInt8} {s a m:Nat} (t:Turned p q s a m) (h:PageOk p):PageOk q:=by
 have hlt:∀ i,i < pn q->i≠s->i < pn p:=fun i hi hs=>by rcases t.n with h1 | ⟨h1,h2⟩ <;> omega
 have ha:=t.at_
 have hm:=t.sz
 have hpos:=t.pos
 have hlo:=t.a_lo
 have hhi:=t.a_hi
 have hlo2:=t.lo2
 have hh:=h.hi
 refine ⟨t.len,t.n16,t.lo,by omega,fun i hi hz=>?_,fun i hi hz=>?_,fun i k hi hk hik z1 z2=>?_,fun hn=>?_⟩
 ·by_cases hs:i=s
  ·subst hs;omega
  ·obtain ⟨h1,h2⟩:=t.oth i hi hs
   have:=h.slot i (hlt i hi hs) (by omega)
   omega
 ·by_cases hs:i=s
  ·subst hs;omega
  ·obtain ⟨h1,h2⟩:=t.oth i hi hs
   have:=h.zero i (hlt i hi hs) (by omega)
   omega
 ·by_cases hs:i=s
  ·subst hs
   have hks:k≠i:=fun e=>hik e.symm
   obtain ⟨h1,h2⟩:=t.oth k hk hks
   have:=t.free k (hlt k hk hks) hks (by omega)
   omega
  ·obtain ⟨h1,h2⟩:=t.oth i hi hs
   by_cases hs2:k=s
   ·subst hs2
    have:=t.free i (hlt i hi hs) hs (by omega)
    omega
   ·obtain ⟨h3,h4⟩:=t.oth k hk hs2
    have:=h.apart i k (hlt i hi hs) (hlt k hk hs2) hik (by omega) (by omega)
    omega
 ·by_cases hs:pn q - 1=s
  ·rw[hs];omega
  ·obtain ⟨h1,h2⟩:=t.oth (pn q - 1) (by omega) hs
   have hq:pn q=pn p:=by
    rcases t.n with h3 | ⟨h3,h4⟩
    ·exact h3
    ·omega
   rw[h2,hq]
   exact h.last (by omega)
theorem Turned.cell_other {p q:List UInt8} {s a m:Nat} (t:Turned p q s a m) (h:PageOk p) {i:Nat} (hi:i < pn q) (hs:i≠s):cellP q i=cellP p i:=by
 have hip:i < pn p:=by rcases t.n with h1 | ⟨h1,h2⟩ <;> omega
 obtain ⟨h1,h2⟩:=t.oth i hi hs
 refine cellP_eq (cellP_len (t.ok h) hi) (cellP_len h hip) h2 fun j hj=>?_
 have hz:psz p i≠0:=by omega
 have h3:=h.slot i hip hz
 have h4:=t.free i hip hs hz
 rw[h1]
 exact t.same _ (by omega) (by omega) (by omega)
theorem Turned.cell_this {p q:List UInt8} {s a:Nat} {c:List UInt8} (t:Turned p q s a c.length) (h:PageOk p) (hc:∀ j,j < c.length->pb q (a+j)=pb c j):cellP q s=c:=
 cellP_is (cellP_len (t.ok h) t.s_lt) t.sz fun j hj=>by rw[t.at_];exact hc j hj
theorem Turned.cells {p q:List UInt8} {s a:Nat} {c:List UInt8} (t:Turned p q s a c.length) (h:PageOk p) (hc:∀ j,j < c.length->pb q (a+j)=pb c j) (i:Nat):cellOf q i=if i=s then c else cellOf p i:=by
 have hs:=t.s_lt
 unfold cellOf
 by_cases his:i=s
 ·subst his
  rw[if_pos hs,if_pos rfl,t.cell_this h hc]
 ·rw[if_neg his]
  by_cases hi:i < pn q
  ·have hip:i < pn p:=by rcases t.n with h1 | ⟨h1,h2⟩ <;> omega
   rw[if_pos hi,if_pos hip,t.cell_other h hi his]
  ·have hip:¬ i < pn p:=by rcases t.n with h1 | ⟨h1,h2⟩ <;> omega
   rw[if_neg hi,if_neg hip]
end OT
set_option linter.unusedVariables false
set_option linter.unusedSimpArgs false
namespace OT
open Go
def sumZ (p:List UInt8):Nat->Nat
 | 0=>0
 | m+1=>sumZ p m+psz p m
def covP (p:List UInt8):Nat->Nat->Bool
 | 0,_=>false
 | k+1,j=>covP p k j||decide (pat p k<=j/\j < pat p k+psz p k)
structure CompI (p:List UInt8) (k:Nat) (o:List UInt8) (a:Nat):Prop where
 len:o.length=64
 n:pb o 0=pn p
 a:a=64 - sumZ p k
 sz:∀ i,i < pn p->psz o i=psz p i
 old:∀ i,i < pn p->(k<=i\/psz p i=0)->pat o i=pat p i
 new:∀ i,i < k->psz p i≠0->pat o i=64 - sumZ p (i+1)/\∀ j,j < psz p i->pb o (64 - sumZ p (i+1)+j)=pb p (pat p i+j)
end OT
set_option linter.unusedVariables false
set_option linter.unusedSimpArgs false
namespace OT
open Go
theorem ix3 {i:Nat} (h:i < 1000):w64 ((3:Int)+w64 ((2:Int)*(i:Int)))=((3+2*i:Nat):Int):=by
 rw[w64_in (n:=(2:Int)*(i:Int)) (by omega),w64_in (by omega)];omega
theorem ix2 {i:Nat} (h:i < 1000):w64 ((2:Int)+w64 ((2:Int)*(i:Int)))=((2+2*i:Nat):Int):=by
 rw[w64_in (n:=(2:Int)*(i:Int)) (by omega),w64_in (by omega)];omega
theorem wpb (p:List UInt8) (i:Nat):w64 ((pb p i:Nat):Int)=((pb p i:Nat):Int):=by
 have:=pb_lt p i
 exact w64_in (by omega)
theorem read_pb {R:Type} {p:List UInt8} {i:Nat} (h:i < p.length) (K:UInt8->Option R):(p[i]?).bind K=K p[i]:=by rw[(pb_get h).1];rfl
section
variable {p:List UInt8} (hp:p.length=64)
include hp
theorem pCount_eq:spec_l2Count.sem (p,())=some ((pn p:Int),()):=by
 refine lift_eq (k:=0) fun k _=>(spec_l2Count.raw_eq k _).trans ?_
 show spec_l2Count.p _=_
 unfold spec_l2Count.p
 simp only[read_pb (show 0 < p.length by omega),(pb_get (show 0 < p.length by omega)).2,wpb]
 rfl
theorem pSlots_eq:impl_slots.sem (p,())=some ((pn p:Int),()):=by
 refine lift_eq (k:=0) fun k _=>(impl_slots.raw_eq k _).trans ?_
 show impl_slots.p _=_
 unfold impl_slots.p
 simp only[read_pb (show 0 < p.length by omega),(pb_get (show 0 < p.length by omega)).2,wpb]
 rfl
theorem pLow_eq:spec_l2Low.sem (p,())=some ((plo p:Int),()):=by
 refine lift_eq (k:=0) fun k _=>(spec_l2Low.raw_eq k _).trans ?_
 show spec_l2Low.p _=_
 unfold spec_l2Low.p
 simp only[read_pb (show 1 < p.length by omega),(pb_get (show 1 < p.length by omega)).2,wpb]
 rfl
theorem pSize_eq {i:Nat} (hi:i < 16):spec_l2Size.sem (p,(i:Int),())=some ((psz p i:Int),()):=by
 refine lift_eq (k:=0) fun k _=>(spec_l2Size.raw_eq k _).trans ?_
 show spec_l2Size.p _=_
 unfold spec_l2Size.p
 simp only[ix3 (show i < 1000 by omega),Int.natCast_nonneg,if_true,Int.toNat_natCast,read_pb (show 3+2*i < p.length by omega),(pb_get (show 3+2*i < p.length by omega)).2,wpb]
 rfl
theorem pPlace_eq {i:Nat} (hi:i < 16):spec_l2Place.sem (p,(i:Int),())=some ((pat p i:Int),()):=by
 refine lift_eq (k:=0) fun k _=>(spec_l2Place.raw_eq k _).trans ?_
 show spec_l2Place.p _=_
 unfold spec_l2Place.p
 simp only[ix2 (show i < 1000 by omega),Int.natCast_nonneg,if_true,Int.toNat_natCast,read_pb (show 2+2*i < p.length by omega),(pb_get (show 2+2*i < p.length by omega)).2,wpb]
 rfl
theorem pSpot_eq {i:Nat} (hi:i < 16):impl_spot.sem (p,(i:Int),())=some ((pat p i:Int),(psz p i:Int),()):=by
 refine lift_eq (k:=0) fun k _=>(impl_spot.raw_eq k _).trans ?_
 show impl_spot.p _=_
 unfold impl_spot.p
 simp only[ix2 (show i < 1000 by omega),ix3 (show i < 1000 by omega),Int.natCast_nonneg,if_true,Int.toNat_natCast,read_pb (show 2+2*i < p.length by omega),(pb_get (show 2+2*i < p.length by omega)).2,read_pb (show 3+2*i < p.length by omega),(pb_get (show 3+2*i < p.length by omega)).2,wpb]
 rfl
theorem pSlot_eq {i:Nat} (hi:i < 16):spec_l2Slot.sem (p,(i:Int),())=some (slotB p i,()):=by
 refine lift_eq (k:=0) fun k _=>(spec_l2Slot.raw_eq k _).trans ?_
 show spec_l2Slot.p _=_
 unfold spec_l2Slot.p slotB
 have h1:=pb_lt p (2+2*i)
 have h2:=pb_lt p (3+2*i)
 have hw:w64 ((pat p i:Int)+(psz p i:Int))=((pat p i+psz p i:Nat):Int):=by
  have:pat p i < 256:=h1
  have:psz p i < 256:=h2
  rw[w64_in (by omega)];omega
 simp only[pPlace_eq hp hi,pSize_eq hp hi,pLow_eq hp,Option.bind_some,hw]
 have e1:decide ((pat p i:Int)=0)=decide (pat p i=0):=by rw[decide_eq_decide];omega
 have e2:decide ((psz p i:Int)=0)=decide (psz p i=0):=by rw[decide_eq_decide];omega
 have e3:decide ((pat p i:Int)=(psz p i:Int))=decide (pat p i=psz p i):=by rw[decide_eq_decide];omega
 have e4:decide ((plo p:Int)<=(pat p i:Int))=decide (plo p<=pat p i):=by rw[decide_eq_decide];omega
 have e5:decide (((pat p i+psz p i:Nat):Int)<=64)=decide (pat p i+psz p i<=64):=by rw[decide_eq_decide];omega
 rw[e1,e2,e3,e4,e5]
 by_cases c1:pat p i=0
 ·simp[c1]
 ·by_cases c2:psz p i=0
  ·simp[c1,c2]
  ·simp only[c1,c2,decide_false,cond_false,or_self,if_false]
   cases decide (plo p<=pat p i) <;> rfl
theorem pApart_eq {i j:Nat} (hi:i < 16) (hj:j < 16):spec_l2Apart.sem (p,(i:Int),(j:Int),())=some (apartP p i j,()):=by
 refine lift_eq (k:=0) fun k _=>(spec_l2Apart.raw_eq k _).trans ?_
 show spec_l2Apart.p _=_
 unfold spec_l2Apart.p apartP
 have h1:pat p i < 256:=pb_lt p _
 have h2:psz p i < 256:=pb_lt p _
 have h3:pat p j < 256:=pb_lt p _
 have h4:psz p j < 256:=pb_lt p _
 have hw:w64 ((pat p i:Int)+(psz p i:Int))=((pat p i+psz p i:Nat):Int):=by rw[w64_in (by omega)];omega
 have hw2:w64 ((pat p j:Int)+(psz p j:Int))=((pat p j+psz p j:Nat):Int):=by rw[w64_in (by omega)];omega
 simp only[pPlace_eq hp hi,pSize_eq hp hi,pPlace_eq hp hj,pSize_eq hp hj,Option.bind_some,hw,hw2]
 have e1:decide ((psz p i:Int)=0)=decide (psz p i=0):=by rw[decide_eq_decide];omega
 have e2:decide ((psz p j:Int)=0)=decide (psz p j=0):=by rw[decide_eq_decide];omega
 have e3:decide (((pat p i+psz p i:Nat):Int)<=(pat p j:Int))=decide (pat p i+psz p i<=pat p j):=by rw[decide_eq_decide];omega
 have e4:decide (((pat p j+psz p j:Nat):Int)<=(pat p i:Int))=decide (pat p j+psz p j<=pat p i):=by rw[decide_eq_decide];omega
 rw[e1,e2,e3,e4]
 cases decide (psz p i=0) <;> cases decide (psz p j=0) <;> cases decide (pat p i+psz p i<=pat p j) <;> rfl
end
theorem forI_checkN {O:Type} (q:Nat->Bool) (bad e:O):∀ (xs:List Nat) (i:Nat),forI (fun _ (_:Unit) x=>if q x then .inr () else .inl bad) (fun _=>e) i xs ()=if xs.all q then e else bad:=fun xs i=>forI_check q bad (fun _=>e) xs i
theorem specPage_eq (p:List UInt8) (hl:p.length<=maxLen):spec_l2Fault.sem (p,())=some (pageF p,()):=by
 refine lift_eq (k:=100) fun k hk=>(spec_l2Fault.raw_eq k _).trans ?_
 unfold spec_l2Fault.p pageF
 have e0:decide ((p.length:Int)=64)=decide (p.length=64):=by rw[decide_eq_decide];omega
 rw[e0]
 by_cases hp:p.length=64
 rotate_left
 ·simp only[hp,decide_false,Bool.not_false,cond_true,if_false]
 have hn:pn p < 256:=pb_lt p 0
 have hlo:plo p < 256:=pb_lt p 1
 have hw:w64 ((2:Int)+w64 ((2:Int)*(pn p:Int)))=((2+2*pn p:Nat):Int):=ix2 (by omega)
 simp only[hp,decide_true,Bool.not_true,cond_false,pCount_eq hp,pLow_eq hp,Option.bind_some,hw,if_true]
 by_cases c1:pn p<=16
 rotate_left
 ·have:((16:Int) < (pn p:Int)):=by omega
  simp only[this,decide_true,cond_true,c1,false_and,if_false]
 have n1:¬ ((16:Int) < (pn p:Int)):=by omega
 simp only[n1,decide_false,cond_false,c1,true_and]
 by_cases c2:2+2*pn p<=plo p
 rotate_left
 ·have:((plo p:Int) < ((2+2*pn p:Nat):Int)):=by omega
  simp only[this,decide_true,cond_true,c2,false_and,if_false]
 have n2:¬ ((plo p:Int) < ((2+2*pn p:Nat):Int)):=by omega
 simp only[n2,decide_false,cond_false,c2,true_and]
 by_cases c3:plo p<=64
 rotate_left
 ·have:((64:Int) < (plo p:Int)):=by omega
  simp only[this,decide_true,cond_true,c3,if_false]
 have n3:¬ ((64:Int) < (plo p:Int)):=by omega
 simp only[n3,decide_false,cond_false,c3,if_true]
 have inner:∀ (self:((List UInt8)×Int×Int)->Option spec_l2Fault.Out) (e2:((List UInt8)×Int)->Option spec_l2Fault.Out) (i:Nat) (hi:i < pn p),spec_l2Fault.r2 k self e2 (p,()) p (pn p:Int) (i:Int) (0:Int)=if (List.range i).all (apartP p i) then self (p,(pn p:Int),w64 ((i:Int)+1)) else some ((8:Int),()):=fun self e2 i hi=>by
  have:=for_loopE (B:=fun self' v=>spec_l2Fault.B2 k self' (fun z=>spec_l2Fault.Q1 k self e2 (p,()) p (pn p:Int) (i:Int) z) (p,()) p (pn p:Int) (i:Int) v) (List.range i) (fun (_:Unit) (j:Int)=>j) (fun _ _ x=>if apartP p i x then .inr () else .inl (some ((8:Int),()))) (fun _=>self (p,(pn p:Int),w64 ((i:Int)+1))) (fun _ _=>True) (by rw[maxLen_val,List.length_range];omega)
   (fun j hj s self' _=>by
    rw[List.length_range] at hj
    show spec_l2Fault.b2 _ _ _ _ _ _ _=_
    unfold spec_l2Fault.b2
    have hlt:(j:Int) < (i:Int):=by omega
    simp only[hlt,decide_true,cond_true,pApart_eq hp (show i < 16 by omega) (show j < 16 by omega),Option.bind_some,List.getElem_range]
    cases apartP p i j <;> rfl)
   (fun _ _ _ _ _ _=>trivial) (fun s self' _=>by
    rw[List.length_range]
    show spec_l2Fault.b2 _ _ _ _ _ _ _=_
    unfold spec_l2Fault.b2
    simp only[Int.lt_irrefl,decide_false,cond_false]
    rfl) () trivial k (by rw[List.length_range];omega)
  rw[forI_checkN] at this
  exact this
 have outer:spec_l2Fault.r1 k (p,()) (pn p:Int) (p,(pn p:Int),(0:Int))=if (List.range (pn p)).all (fun i=>(List.range i).all (apartP p i)) then spec_l2Fault.Q2 k (p,()) (p,(pn p:Int)) else some ((8:Int),()):=by
  have:=for_loopE (B:=fun self v=>spec_l2Fault.B1 k self (fun z=>spec_l2Fault.Q2 k (p,()) z) (p,()) v) (List.range (pn p)) (fun (_:Unit) (i:Int)=>(p,(pn p:Int),i)) (fun _ _ x=>if (List.range x).all (apartP p x) then .inr () else .inl (some ((8:Int),()))) (fun _=>spec_l2Fault.Q2 k (p,()) (p,(pn p:Int))) (fun _ _=>True) (by rw[maxLen_val,List.length_range];omega)
   (fun i hi s self _=>by
    rw[List.length_range] at hi
    show spec_l2Fault.b1 _ _ _ _ _=_
    unfold spec_l2Fault.b1
    have hlt:(i:Int) < (pn p:Int):=by omega
    simp only[hlt,decide_true,cond_true,inner self _ i hi,List.getElem_range]
    cases (List.range i).all (apartP p i) <;> rfl)
   (fun _ _ _ _ _ _=>trivial) (fun s self _=>by
    rw[List.length_range]
    show spec_l2Fault.b1 _ _ _ _ _=_
    unfold spec_l2Fault.b1
    simp only[Int.lt_irrefl,decide_false,cond_false]) () trivial k (by rw[List.length_range];omega)
  rw[forI_checkN] at this
  exact this
 have first:spec_l2Fault.r0 k (p,()) (pn p:Int) (0:Int)=if (List.range (pn p)).all (slotB p) then spec_l2Fault.r1 k (p,()) (pn p:Int) (p,(pn p:Int),(0:Int)) else some ((3:Int),()):=by
  have:=for_loopE (B:=fun self v=>spec_l2Fault.B0 k self (fun z=>spec_l2Fault.Q0 k (p,()) (pn p:Int) z) (p,()) (pn p:Int) v) (List.range (pn p)) (fun (_:Unit) (i:Int)=>i) (fun _ _ x=>if slotB p x then .inr () else .inl (some ((3:Int),()))) (fun _=>spec_l2Fault.r1 k (p,()) (pn p:Int) (p,(pn p:Int),(0:Int))) (fun _ _=>True) (by rw[maxLen_val,List.length_range];omega)
   (fun i hi s self _=>by
    rw[List.length_range] at hi
    show spec_l2Fault.b0 _ _ _ _ _=_
    unfold spec_l2Fault.b0
    have hlt:(i:Int) < (pn p:Int):=by omega
    simp only[hlt,decide_true,cond_true,pSlot_eq hp (show i < 16 by omega),Option.bind_some,List.getElem_range]
    cases slotB p i <;> rfl)
   (fun _ _ _ _ _ _=>trivial) (fun s self _=>by
    rw[List.length_range]
    show spec_l2Fault.b0 _ _ _ _ _=_
    unfold spec_l2Fault.b0
    simp only[Int.lt_irrefl,decide_false,cond_false]
    rfl) () trivial k (by rw[List.length_range];omega)
  rw[forI_checkN] at this
  exact this
 rw[first]
 split
 ·rw[outer]
  split
  ·show spec_l2Fault.q2 _ _=_
   unfold spec_l2Fault.q2
   by_cases h0:0 < pn p
   ·have hlt:(0:Int) < (pn p:Int):=by omega
    have hwm:w64 ((pn p:Int) - 1)=((pn p - 1:Nat):Int):=by rw[w64_in (by omega)];omega
    simp only[hlt,decide_true,cond_true,hwm,pSize_eq hp (show pn p - 1 < 16 by omega),Option.bind_some,h0,true_and]
    by_cases hz:psz p (pn p - 1)=0
    ·simp[hz]
    ·have:¬ ((psz p (pn p - 1):Int)=0):=by omega
     simp only[this,decide_false,cond_false,hz,if_false]
   ·have hlt:¬ ((0:Int) < (pn p:Int)):=by omega
    simp only[hlt,decide_false,cond_false,h0,false_and,if_false]
  ·rfl
 ·rfl
theorem forI_anyS {S O:Type} (q:Nat->Bool) (g:Nat->S) (bad e:O):∀ (xs:List Nat) (i:Nat) (s:S),forI (fun _ s x=>if q x then .inl bad else .inr (g x)) (fun _=>e) i xs s=if xs.any q then bad else e
 | [],_,_=>rfl
 | x::xs,i,s=>by
  simp only[forI,List.any_cons]
  by_cases h:q x=true
  ·simp[h]
  ·simp[h,forI_anyS q g bad e xs (i+1)]
def covS (p:List UInt8) (i t:Nat):List Bool:=(List.range 64).map fun j=>covP p i j||decide (pat p i<=j/\j < pat p i+t)
def overB (p:List UInt8) (i:Nat):Bool:=(List.range (psz p i)).any fun t=>covP p i (pat p i+t)
theorem covS_zero (p:List UInt8) (i:Nat):covS p i 0=(List.range 64).map (covP p i):=by
 unfold covS
 refine List.map_congr_left fun j _=>?_
 have:¬ (pat p i<=j/\j < pat p i+0):=by omega
 simp only[this,decide_false,Bool.or_false]
theorem covS_full (p:List UInt8) (i:Nat):covS p i (psz p i)=(List.range 64).map (covP p (i+1)):=rfl
theorem covS_get (p:List UInt8) (i t j:Nat) (h:j < 64):(covS p i t)[j]?=some (covP p i j||decide (pat p i<=j/\j < pat p i+t)):=by
 unfold covS
 simp[h]
theorem covS_len (p:List UInt8) (i t:Nat):(covS p i t).length=64:=by simp[covS]
theorem covS_succ (p:List UInt8) (i t:Nat) (h:pat p i+t < 64):(covS p i t).set (pat p i+t) true=covS p i (t+1):=by
 refine List.ext_getElem? fun j=>?_
 rw[List.getElem?_set,covS_len]
 by_cases hj:j < 64
 ·rw[covS_get p i t j hj,covS_get p i (t+1) j hj]
  by_cases e:pat p i+t=j
  ·subst e
   have:pat p i<=pat p i+t/\pat p i+t < pat p i+(t+1):=by omega
   simp[h,this]
  ·rw[if_neg e]
   have:(pat p i<=j/\j < pat p i+t)↔(pat p i<=j/\j < pat p i+(t+1)):=by omega
   simp only[this]
 ·have h1:(covS p i t)[j]?=none:=List.getElem?_eq_none (by rw[covS_len];omega)
  have h2:(covS p i (t+1))[j]?=none:=List.getElem?_eq_none (by rw[covS_len];omega)
  rw[h1,h2,if_neg (by omega)]
theorem covP_iff {p:List UInt8}:∀ {k j:Nat},covP p k j=true↔∃ i,i < k/\pat p i<=j/\j < pat p i+psz p i
 | 0,j=>by simp[covP]
 | k+1,j=>by
  simp only[covP,Bool.or_eq_true,decide_eq_true_eq,covP_iff (k:=k)]
  constructor
  ·rintro (⟨i,h1,h2⟩ | h)
   ·exact ⟨i,by omega,h2⟩
   ·exact ⟨k,by omega,h⟩
  ·rintro ⟨i,h1,h2⟩
   by_cases e:i=k
   ·subst e;exact .inr h2
   ·exact .inl ⟨i,by omega,h2⟩
theorem over_apart (p:List UInt8) (i:Nat):overB p i=!(List.range i).all (apartP p i):=by
 rw[Bool.eq_iff_iff]
 simp only[overB,List.any_eq_true,List.mem_range,covP_iff,Bool.not_eq_true',List.all_eq_false,Bool.not_eq_true]
 constructor
 ·rintro ⟨t,ht,k,hk,h1,h2⟩
  refine ⟨k,hk,?_⟩
  cases h:apartP p i k with
  | false=>rfl
  | true=>have:=apartP_iff.1 h (by omega) (by omega);omega
 ·rintro ⟨k,hk,h⟩
  have hn:¬ (psz p i≠0->psz p k≠0->pat p i+psz p i<=pat p k\/pat p k+psz p k<=pat p i):=fun h2=>by rw[apartP_iff.2 h2] at h;cases h
  by_cases c1:psz p i=0
  ·exact absurd (fun h=>absurd c1 h) hn
  ·by_cases c2:psz p k=0
   ·exact absurd (fun _ h=>absurd c2 h) hn
   ·have c3:¬ (pat p i+psz p i<=pat p k):=fun h3=>hn fun _ _=>.inl h3
    have c4:¬ (pat p k+psz p k<=pat p i):=fun h3=>hn fun _ _=>.inr h3
    exact ⟨max (pat p i) (pat p k) - pat p i,by omega,k,hk,by omega,by omega⟩
theorem any_over (p:List UInt8) (n:Nat):(List.range n).any (overB p)=!(List.range n).all (fun i=>(List.range i).all (apartP p i)):=by
 rw[List.not_all_eq_any_not]
 congr 1
 funext i
 exact over_apart p i
theorem implPage_eq (p:List UInt8) (hl:p.length<=maxLen):impl_PageFault.sem (p,())=some (pageF p,()):=by
 refine lift_eq (k:=300) fun k hk=>(impl_PageFault.raw_eq k _).trans ?_
 unfold impl_PageFault.p pageF
 have e0:decide ((p.length:Int)=64)=decide (p.length=64):=by rw[decide_eq_decide];omega
 rw[e0]
 by_cases hp:p.length=64
 rotate_left
 ·simp only[hp,decide_false,Bool.not_false,cond_true,if_false]
 have hn:pn p < 256:=pb_lt p 0
 have hlo:plo p < 256:=pb_lt p 1
 have hw:w64 ((2:Int)+w64 ((2:Int)*(pn p:Int)))=((2+2*pn p:Nat):Int):=ix2 (by omega)
 have hb1:((p[1]'(by omega)).toNat)=plo p:=(pb_get (show 1 < p.length by omega)).2
 have hwl:w64 (plo p:Int)=(plo p:Int):=wpb p 1
 simp only[hp,decide_true,Bool.not_true,cond_false,read_pb (show 1 < p.length by omega),hb1,hwl,pSlots_eq hp,Option.bind_some,hw,if_true]
 by_cases c1:pn p<=16
 rotate_left
 ·have:((16:Int) < (pn p:Int)):=by omega
  simp only[this,decide_true,cond_true,c1,false_and,if_false]
 have n1:¬ ((16:Int) < (pn p:Int)):=by omega
 simp only[n1,decide_false,cond_false,c1,true_and]
 by_cases c2:2+2*pn p<=plo p
 rotate_left
 ·have:((plo p:Int) < ((2+2*pn p:Nat):Int)):=by omega
  simp only[this,decide_true,cond_true,c2,false_and,if_false]
 have n2:¬ ((plo p:Int) < ((2+2*pn p:Nat):Int)):=by omega
 simp only[n2,decide_false,cond_false,c2,true_and]
 by_cases c3:plo p<=64
 rotate_left
 ·have:((64:Int) < (plo p:Int)):=by omega
  simp only[this,decide_true,cond_true,c3,if_false]
 have n3:¬ ((64:Int) < (plo p:Int)):=by omega
 simp only[n3,decide_false,cond_false,c3,if_true]
 have first:impl_PageFault.r0 k (p,()) (pn p:Int) (plo p:Int) (0:Int)=if (List.range (pn p)).all (slotB p) then impl_PageFault.Q0 k (p,()) (pn p:Int) (plo p:Int) () else some ((3:Int),()):=by
  have:=for_loopE (B:=fun self v=>impl_PageFault.B0 k self (fun z=>impl_PageFault.Q0 k (p,()) (pn p:Int) (plo p:Int) z) (p,()) (pn p:Int) (plo p:Int) v) (List.range (pn p)) (fun (_:Unit) (i:Int)=>i) (fun _ _ x=>if slotB p x then .inr () else .inl (some ((3:Int),()))) (fun _=>impl_PageFault.Q0 k (p,()) (pn p:Int) (plo p:Int) ()) (fun _ _=>True) (by rw[maxLen_val,List.length_range];omega)
   (fun i hi s self _=>by
    rw[List.length_range] at hi
    show impl_PageFault.b0 _ _ _ _ _ _=_
    unfold impl_PageFault.b0
    have hlt:(i:Int) < (pn p:Int):=by omega
    have h1:pat p i < 256:=pb_lt p _
    have h2:psz p i < 256:=pb_lt p _
    have hw2:w64 ((pat p i:Int)+(psz p i:Int))=((pat p i+psz p i:Nat):Int):=by rw[w64_in (by omega)];omega
    simp only[hlt,decide_true,cond_true,pSpot_eq hp (show i < 16 by omega),Option.bind_some,List.getElem_range,hw2]
    have e1:decide ((pat p i:Int)=0)=decide (pat p i=0):=by rw[decide_eq_decide];omega
    have e2:decide ((psz p i:Int)=0)=decide (psz p i=0):=by rw[decide_eq_decide];omega
    have e4:decide ((pat p i:Int) < (plo p:Int))=decide (pat p i < plo p):=by rw[decide_eq_decide];omega
    have e5:decide ((64:Int) < ((pat p i+psz p i:Nat):Int))=decide (64 < pat p i+psz p i):=by rw[decide_eq_decide];omega
    rw[e1,e2,e4,e5]
    unfold slotB
    by_cases d1:pat p i=0
    ·by_cases d2:psz p i=0
     ·simp[d1,d2]
     ·have:¬ (0=psz p i):=fun e=>d2 e.symm
      simp[d1,d2,this]
    ·by_cases d2:psz p i=0
     ·simp[d1,d2]
     ·by_cases d3:pat p i < plo p
      ·have d3':¬ (plo p<=pat p i):=by omega
       simp[d1,d2,d3,d3']
      ·by_cases d4:64 < pat p i+psz p i
       ·have d4':¬ (pat p i+psz p i<=64):=by omega
        simp[d1,d2,d3,d4,d4']
       ·have d3':plo p<=pat p i:=by omega
        have d4':pat p i+psz p i<=64:=by omega
        simp[d1,d2,d3,d4,d3',d4'])
   (fun _ _ _ _ _ _=>trivial) (fun s self _=>by
    rw[List.length_range]
    show impl_PageFault.b0 _ _ _ _ _ _=_
    unfold impl_PageFault.b0
    simp only[Int.lt_irrefl,decide_false,cond_false]) () trivial k (by rw[List.length_range];omega)
  rw[forI_checkN] at this
  exact this
 rw[first]
 by_cases hsl:(List.range (pn p)).all (slotB p)=true
 rotate_left
 ·simp only[hsl,Bool.false_eq_true,if_false]
 simp only[hsl,if_true]
 have hs:∀ i,i < pn p->psz p i≠0->plo p<=pat p i/\pat p i+psz p i<=64:=fun i hi=>((slotB_iff (by omega)).1 (List.all_eq_true.1 hsl i (List.mem_range.2 hi))).1
 have inner:∀ (self:((List UInt8)×Int×(List Bool)×Int×Int)->Option impl_PageFault.Out) (e2:((List UInt8)×Int)->Option impl_PageFault.Out) (i:Nat) (hi:i < pn p),impl_PageFault.r2 k self e2 (p,()) p (pn p:Int) (pat p i:Int) (psz p i:Int) (pn p:Int) (i:Int) ((List.range 64).map (covP p i),(pat p i:Int))=if overB p i then some ((8:Int),()) else self (p,(pn p:Int),(List.range 64).map (covP p (i+1)),(pn p:Int),w64 ((i:Int)+1)):=fun self e2 i hi=>by
  have h1:pat p i < 256:=pb_lt p _
  have h2:psz p i < 256:=pb_lt p _
  have hw2:w64 ((pat p i:Int)+(psz p i:Int))=((pat p i+psz p i:Nat):Int):=by rw[w64_in (by omega)];omega
  have:=for_loopE (B:=fun self' v=>impl_PageFault.B2 k self' (fun z=>impl_PageFault.Q1 k self e2 (p,()) p (pn p:Int) (pat p i:Int) (psz p i:Int) (pn p:Int) (i:Int) z) (p,()) p (pn p:Int) (pat p i:Int) (psz p i:Int) (pn p:Int) (i:Int) v) (List.range (psz p i)) (fun (s:List Bool) (t:Int)=>(s,(pat p i:Int)+t)) (fun _ s t=>if covP p i (pat p i+t) then .inl (some ((8:Int),())) else .inr (covS p i (t+1))) (fun _=>self (p,(pn p:Int),(List.range 64).map (covP p (i+1)),(pn p:Int),w64 ((i:Int)+1))) (fun t s=>s=covS p i t) (by rw[maxLen_val,List.length_range];omega)
   (fun t ht s self' hI=>by
    rw[List.length_range] at ht
    subst hI
    obtain ⟨g1,g2⟩:=hs i hi (by omega)
    show impl_PageFault.b2 _ _ _ _ _ _ _ _ _ _=_
    unfold impl_PageFault.b2
    have hlt:(pat p i:Int)+(t:Int) < ((pat p i+psz p i:Nat):Int):=by omega
    have hnn:(0:Int)<=(pat p i:Int)+(t:Int):=by omega
    have hlen:(pat p i:Int)+(t:Int) < ((covS p i t).length:Int):=by rw[covS_len];omega
    have htn:((pat p i:Int)+(t:Int)).toNat=pat p i+t:=by omega
    have hnot:¬ (pat p i<=pat p i+t/\pat p i+t < pat p i+t):=by omega
    have hwt:w64 ((pat p i:Int)+(t:Int)+1)=(pat p i:Int)+w64 ((t:Int)+1):=by rw[w64_in (by omega),w64_in (by omega)];omega
    simp only[hw2,hlt,decide_true,cond_true,hnn,hlen,and_self,if_true,htn,covS_get p i t (pat p i+t) (by omega),hnot,decide_false,Bool.or_false,Option.bind_some,List.getElem_range,covS_succ p i t (by omega),hwt]
    cases covP p i (pat p i+t) <;> rfl)
   (fun t ht s s' hI hf=>by
    simp only[List.getElem_range] at hf
    split at hf
    ·cases hf
    ·injection hf with hf;exact hf.symm) (fun s self' hI=>by
    rw[List.length_range] at hI ⊢
    show impl_PageFault.b2 _ _ _ _ _ _ _ _ _ _=_
    unfold impl_PageFault.b2
    have hlt:¬ ((pat p i:Int)+(psz p i:Int) < ((pat p i+psz p i:Nat):Int)):=by omega
    simp only[hw2,hlt,decide_false,cond_false]
    rw[hI,covS_full]
    rfl) (covS p i 0) rfl k (by rw[List.length_range];omega)
  rw[forI_anyS] at this
  rw[<-covS_zero]
  simp only[Int.add_zero] at this
  exact this
 have outer:impl_PageFault.r1 k (p,()) (pn p:Int) (plo p:Int) (p,(pn p:Int),List.replicate 64 false,(pn p:Int),(0:Int))=if (List.range (pn p)).any (overB p) then some ((8:Int),()) else impl_PageFault.Q2 k (p,()) (p,(pn p:Int)):=by
  have:=for_loopE (B:=fun self v=>impl_PageFault.B1 k self (fun z=>impl_PageFault.Q2 k (p,()) z) (p,()) v) (List.range (pn p)) (fun (s:List Bool) (i:Int)=>(p,(pn p:Int),s,(pn p:Int),i)) (fun _ s x=>if overB p x then .inl (some ((8:Int),())) else .inr ((List.range 64).map (covP p (x+1)))) (fun _=>impl_PageFault.Q2 k (p,()) (p,(pn p:Int))) (fun i s=>s=(List.range 64).map (covP p i)) (by rw[maxLen_val,List.length_range];omega)
   (fun i hi s self hI=>by
    rw[List.length_range] at hi
    subst hI
    show impl_PageFault.b1 _ _ _ _ _=_
    unfold impl_PageFault.b1
    have hlt:(i:Int) < (pn p:Int):=by omega
    simp only[hlt,decide_true,cond_true,pSpot_eq hp (show i < 16 by omega),Option.bind_some,inner self _ i hi,List.getElem_range]
    cases overB p i <;> rfl)
   (fun i hi s s' hI hf=>by
    simp only[List.getElem_range] at hf
    split at hf
    ·cases hf
    ·injection hf with hf;exact hf.symm) (fun s self _=>by
    rw[List.length_range]
    show impl_PageFault.b1 _ _ _ _ _=_
    unfold impl_PageFault.b1
    simp only[Int.lt_irrefl,decide_false,cond_false]) (List.replicate 64 false) (by show _=(List.range 64).map (fun _=>false);decide) k (by rw[List.length_range];omega)
  rw[forI_anyS] at this
  exact this
 show impl_PageFault.q0 _ _ _ _ _=_
 unfold impl_PageFault.q0
 rw[outer,any_over]
 by_cases hap:(List.range (pn p)).all (fun i=>(List.range i).all (apartP p i))=true
 rotate_left
 ·simp only[hap,Bool.not_false,if_true,Bool.false_eq_true,if_false]
 simp only[hap,Bool.not_true,Bool.false_eq_true,if_false,if_true]
 show impl_PageFault.q2 _ _=_
 unfold impl_PageFault.q2
 by_cases h0:0 < pn p
 ·have hlt:(0:Int) < (pn p:Int):=by omega
  have hwm:w64 (w64 ((2:Int)*(pn p:Int))+1)=((2*pn p+1:Nat):Int):=by rw[w64_in (n:=(2:Int)*(pn p:Int)) (by omega),w64_in (by omega)];omega
  have hz:((p[2*pn p+1]'(by omega)).toNat)=psz p (pn p - 1):=by
   rw[(pb_get (show 2*pn p+1 < p.length by omega)).2]
   show pb p _=pb p _
   congr 1;omega
  simp only[hlt,decide_true,cond_true,hwm,Int.natCast_nonneg,if_true,Int.toNat_natCast,read_pb (show 2*pn p+1 < p.length by omega),hz,h0,true_and]
  by_cases hz:psz p (pn p - 1)=0
  ·simp[hz]
  ·have:¬ ((psz p (pn p - 1):Int)=0):=by omega
   simp only[this,decide_false,cond_false,hz,if_false]
 ·have hlt:¬ ((0:Int) < (pn p:Int)):=by omega
  simp only[hlt,decide_false,cond_false,h0,false_and,if_false]
end OT
set_option linter.unusedVariables false
set_option linter.unusedSimpArgs false
namespace OT
open Go
theorem range_loop {V S O:Type} {B:(V->Option O)->V->Option O} (n:Nat) (enc:S->Int->V) (f:Nat->S->Sum (Option O) S) (fin:S->Option O) (I:Nat->S->Prop) (hn:n<=1048576)
  (hin:∀ (i:Nat),i < n->∀ (s:S) self,I i s->B self (enc s (i:Int))=match f i s with | .inl o=>o | .inr s'=>self (enc s' (w64 ((i:Int)+1))))
  (hI:∀ (i:Nat),i < n->∀ (s s':S),I i s->f i s=.inr s'->I (i+1) s')
  (hout:∀ (s:S) self,I n s->B self (enc s (n:Int))=fin s) (s:S) (h0:I 0 s) (k:Nat) (hk:n < k):rawIter B k (enc s 0)=forI (fun _ s x=>f x s) fin 0 (List.range n) s:=
 for_loopE (List.range n) enc (fun _ s x=>f x s) fin I (by rw[maxLen_val,List.length_range];omega)
  (fun i hi s self h=>by rw[List.length_range] at hi;simp only[List.getElem_range];exact hin i hi s self h)
  (fun i hi s s' h hf=>by rw[List.length_range] at hi;simp only[List.getElem_range] at hf;exact hI i hi s s' h hf)
  (fun s self h=>by rw[List.length_range] at h ⊢;exact hout s self h) s h0 k (by rw[List.length_range];exact hk)
theorem forI_app {O α β:Type} (g:α->List β) (fin:List β->O):∀ (xs:List α) (i:Nat) (s:List β),forI (fun _ s x=>.inr (s++g x)) fin i xs s=fin (s++xs.flatMap g)
 | [],_,s=>by simp[forI]
 | x::xs,i,s=>by simp only[forI];rw[forI_app g fin xs (i+1)];simp[List.append_assoc]
abbrev row0:Row:=((0:Int),(0:Int),(0:Int),([]:List UInt8),())
abbrev cell0:CellResult:=((0:Int),(0:Int),(0:Int),(0:Int),row0,())
abbrev cell5:CellResult:=((5:Int),(0:Int),(0:Int),(0:Int),row0,())
def rowB (d:List UInt8):Row:=((pb d 1:Int),(pb d 2:Int),(pb d 3:Int)*256+(pb d 4:Int),d.drop 6,())
def cellF (d:List UInt8):CellResult×Bool:=
 if d.length=3/\pb d 0=1 then (((0:Int),(1:Int),(pb d 1:Int),(pb d 2:Int),row0,()),decide (pb d 1<=11)&&decide (pb d 2<=15))
 else if d.length < 6\/pb d 0=1\/2 < pb d 0\/d.length≠6+pb d 5 then (cell0,false)
 else (((0:Int),(pb d 0:Int),(0:Int),(0:Int),rowB d,()),decide (rowF (rowB d)=0))
theorem or_bytes {a b:Nat} (ha:a < 256) (hb:b < 256):((BitVec.ofInt 64 (w64 ((a:Int)*2 ^ 8)) ||| BitVec.ofInt 64 (b:Int)).toNat:Int)=(a:Int)*256+(b:Int):=by
 have e1:w64 ((a:Int)*2 ^ 8)=((2 ^ 8*a:Nat):Int):=by rw[w64_in (by omega)];omega
 rw[e1,BitVec.toNat_or]
 have e2:(BitVec.ofInt 64 ((2 ^ 8*a:Nat):Int)).toNat=2 ^ 8*a:=by
  rw[BitVec.toNat_ofInt];omega
 have e3:(BitVec.ofInt 64 (b:Int)).toNat=b:=by
  rw[BitVec.toNat_ofInt];omega
 rw[e2,e3,<- Nat.two_pow_add_eq_or_of_lt (by omega) a]
 omega
theorem specRead1_eq (d:List UInt8) (hd:d.length<=100):spec_l1Read.sem (d,())=some ((cellF d).1,(cellF d).2,()):=by
 refine lift_eq (k:=0) fun k _=>(spec_l1Read.raw_eq k _).trans ?_
 show spec_l1Read.p _=_
 unfold spec_l1Read.p cellF
 have b0:=pb_lt d 0
 have b1:=pb_lt d 1
 have b2:=pb_lt d 2
 have b3:=pb_lt d 3
 have b4:=pb_lt d 4
 have b5:=pb_lt d 5
 by_cases h3:d.length=3
 ·have e3:decide ((d.length:Int)=3)=true:=decide_eq_true (by omega)
  have e6:decide ((d.length:Int) < 6)=true:=decide_eq_true (by omega)
  have hl6:d.length < 6:=by omega
  simp only[e3,e6,cond_true,read_pb (show 0 < d.length by omega),(pb_get (show 0 < d.length by omega)).2]
  by_cases h1:pb d 0=1
  ·have e1:decide ((pb d 0:Int)=1)=true:=decide_eq_true (by omega)
   rw[if_pos ⟨h3,h1⟩]
   simp only[e1,cond_true,read_pb (show 1 < d.length by omega),(pb_get (show 1 < d.length by omega)).2,read_pb (show 2 < d.length by omega),(pb_get (show 2 < d.length by omega)).2,wpb]
   have hpl:spec_l1Place.sem ((pb d 1:Int),(pb d 2:Int),())=some (decide (pb d 1<=11)&&decide (pb d 2<=15),()):=by
    refine lift_eq (k:=0) fun k _=>(spec_l1Place.raw_eq k _).trans ?_
    show spec_l1Place.p _=_
    unfold spec_l1Place.p
    simp only[specIn_eq,Option.bind_some]
    have g1:decide ((0:Int)<=(pb d 1:Int))=true:=decide_eq_true (by omega)
    have g2:decide ((0:Int)<=(pb d 2:Int))=true:=decide_eq_true (by omega)
    have g3:decide ((pb d 1:Int)<=11)=decide (pb d 1<=11):=by rw[decide_eq_decide];omega
    have g4:decide ((pb d 2:Int)<=15)=decide (pb d 2<=15):=by rw[decide_eq_decide];omega
    rw[g1,g2,g3,g4]
    cases decide (pb d 1<=11) <;> rfl
   simp only[hpl,Option.bind_some]
  ·have e1:decide ((pb d 0:Int)=1)=false:=decide_eq_false (by omega)
   rw[if_neg (fun h=>h1 h.2),if_pos (Or.inl hl6)]
   simp only[e1,cond_false]
 ·have e3:decide ((d.length:Int)=3)=false:=decide_eq_false (by omega)
  simp only[e3,cond_false,h3,false_and,if_false]
  by_cases h6:d.length < 6
  ·have e6:decide ((d.length:Int) < 6)=true:=decide_eq_true (by omega)
   simp only[e6,cond_true,h6,true_or,if_true]
  ·have e6:decide ((d.length:Int) < 6)=false:=decide_eq_false (by omega)
   simp only[e6,cond_false,read_pb (show 0 < d.length by omega),(pb_get (show 0 < d.length by omega)).2,h6,false_or]
   by_cases h1:pb d 0=1
   ·have e1:decide ((pb d 0:Int)=1)=true:=decide_eq_true (by omega)
    rw[if_pos (Or.inl h1)]
    simp only[e1,cond_true]
   have e1:decide ((pb d 0:Int)=1)=false:=decide_eq_false (by omega)
   simp only[e1,cond_false,h1,false_or]
   by_cases h2:2 < pb d 0
   ·have e2:decide ((2:Int) < (pb d 0:Int))=true:=decide_eq_true (by omega)
    simp only[e2,cond_true,h2,true_or,if_true]
   have e2:decide ((2:Int) < (pb d 0:Int))=false:=decide_eq_false (by omega)
   have w6:w64 ((6:Int)+(pb d 5:Int))=((6+pb d 5:Nat):Int):=by rw[w64_in (by omega)];omega
   simp only[e2,cond_false,h2,false_or,read_pb (show 5 < d.length by omega),(pb_get (show 5 < d.length by omega)).2,wpb,w6]
   by_cases h5:d.length=6+pb d 5
   rotate_left
   ·have e5:decide ((d.length:Int)=((6+pb d 5:Nat):Int))=false:=decide_eq_false (by omega)
    simp only[e5,Bool.not_false,cond_true,h5,ne_eq,not_false_eq_true,if_true]
   have e5:decide ((d.length:Int)=((6+pb d 5:Nat):Int))=true:=decide_eq_true (by omega)
   have h6':(0:Int)<=6/\(6:Int)<=(d.length:Int):=by omega
   have w3:w64 (w64 ((pb d 3:Int)*256)+(pb d 4:Int))=(pb d 3:Int)*256+(pb d 4:Int):=by rw[w64_in (n:=(pb d 3:Int)*256) (by omega),w64_in (by omega)]
   have ht:(d.take d.length).drop 6=d.drop 6:=by rw[List.take_length]
   have hr:spec_l1Fault.sem (rowB d,())=some (rowF (rowB d),()):=specRow_eq (rowB d) (by rw[maxLen_val];simp only[rowB,List.length_drop];omega)
   unfold rowB at hr
   rw[if_neg (fun h=>h h5)]
   simp only[e5,Bool.not_true,cond_false,read_pb (show 1 < d.length by omega),(pb_get (show 1 < d.length by omega)).2,read_pb (show 2 < d.length by omega),(pb_get (show 2 < d.length by omega)).2,
    read_pb (show 3 < d.length by omega),(pb_get (show 3 < d.length by omega)).2,read_pb (show 4 < d.length by omega),(pb_get (show 4 < d.length by omega)).2,wpb,w3,ht,hr,Option.bind_some]
   rw[if_pos (by omega)]
   rfl
theorem implUnpack_eq (d:List UInt8) (hd:d.length<=100):impl_UnpackCell.sem (d,())=some (if (cellF d).2 then (cellF d).1 else cell5,()):=by
 refine lift_eq (k:=0) fun k _=>(impl_UnpackCell.raw_eq k _).trans ?_
 show impl_UnpackCell.p _=_
 unfold impl_UnpackCell.p
 have b0:=pb_lt d 0
 have b1:=pb_lt d 1
 have b2:=pb_lt d 2
 have b3:=pb_lt d 3
 have b4:=pb_lt d 4
 have b5:=pb_lt d 5
 by_cases h3:d.length=3
 ·have e3:decide ((d.length:Int)=3)=true:=decide_eq_true (by omega)
  have e6:decide ((d.length:Int) < 6)=true:=decide_eq_true (by omega)
  have hl6:d.length < 6:=by omega
  simp only[e3,e6,cond_true,read_pb (show 0 < d.length by omega),(pb_get (show 0 < d.length by omega)).2]
  by_cases h1:pb d 0=1
  ·have e1:decide ((pb d 0:Int)=1)=true:=decide_eq_true (by omega)
   have hc:cellF d=(((0:Int),(1:Int),(pb d 1:Int),(pb d 2:Int),row0,()),decide (pb d 1<=11)&&decide (pb d 2<=15)):=by unfold cellF;rw[if_pos ⟨h3,h1⟩]
   rw[hc]
   simp only[e1,cond_true,read_pb (show 1 < d.length by omega),(pb_get (show 1 < d.length by omega)).2,read_pb (show 2 < d.length by omega),(pb_get (show 2 < d.length by omega)).2,wpb]
   by_cases c1:pb d 1<=11
   ·have d1:decide ((pb d 1:Int) < 12)=true:=decide_eq_true (by omega)
    by_cases c2:pb d 2<=15
    ·have d2:decide ((pb d 2:Int) < 16)=true:=decide_eq_true (by omega)
     simp[d1,d2,c1,c2]
    ·have d2:decide ((pb d 2:Int) < 16)=false:=decide_eq_false (by omega)
     simp[d1,d2,c1,c2]
   ·have d1:decide ((pb d 1:Int) < 12)=false:=decide_eq_false (by omega)
    simp[d1,c1]
  ·have e1:decide ((pb d 0:Int)=1)=false:=decide_eq_false (by omega)
   have hc:cellF d=(cell0,false):=by unfold cellF;rw[if_neg (fun h=>h1 h.2),if_pos (Or.inl hl6)]
   rw[hc]
   simp only[e1,cond_false,Bool.false_eq_true,if_false]
 ·have e3:decide ((d.length:Int)=3)=false:=decide_eq_false (by omega)
  simp only[e3,cond_false]
  by_cases h6:d.length < 6
  ·have e6:decide ((d.length:Int) < 6)=true:=decide_eq_true (by omega)
   have hc:cellF d=(cell0,false):=by unfold cellF;rw[if_neg (fun h=>h3 h.1),if_pos (Or.inl h6)]
   rw[hc]
   simp only[e6,cond_true,Bool.false_eq_true,if_false]
  ·have e6:decide ((d.length:Int) < 6)=false:=decide_eq_false (by omega)
   have hc:cellF d=if pb d 0=1\/2 < pb d 0\/d.length≠6+pb d 5 then (cell0,false) else (((0:Int),(pb d 0:Int),(0:Int),(0:Int),rowB d,()),decide (rowF (rowB d)=0)):=by
    unfold cellF
    rw[if_neg (fun h=>h3 h.1)]
    simp only[h6,false_or]
   have hlen:∀ i,i < 6->i < d.length:=fun i hi=>by omega
   have w6:w64 ((6:Int)+(pb d 5:Int))=((6+pb d 5:Nat):Int):=by rw[w64_in (by omega)];omega
   have h6':(0:Int)<=6/\(6:Int)<=(d.length:Int):=by omega
   have w3:w64 ((BitVec.ofInt 64 (w64 ((pb d 3:Int)*2 ^ 8)) ||| BitVec.ofInt 64 (pb d 4:Int)).toNat:Int)=(pb d 3:Int)*256+(pb d 4:Int):=by rw[or_bytes b3 b4,w64_in (by omega)]
   have ht:(d.take d.length).drop 6=d.drop 6:=by rw[List.take_length]
   have hr:impl_RowFault.sem (rowB d,())=some (rowF (rowB d),()):=implRow_eq (rowB d) (by rw[maxLen_val];simp only[rowB,List.length_drop];omega)
   unfold rowB at hr
   simp only[e6,cond_false,read_pb (show 0 < d.length by omega),(pb_get (show 0 < d.length by omega)).2,read_pb (show 5 < d.length by omega),(pb_get (show 5 < d.length by omega)).2,read_pb (show 1 < d.length by omega),(pb_get (show 1 < d.length by omega)).2,read_pb (show 2 < d.length by omega),(pb_get (show 2 < d.length by omega)).2,
    read_pb (show 3 < d.length by omega),(pb_get (show 3 < d.length by omega)).2,read_pb (show 4 < d.length by omega),(pb_get (show 4 < d.length by omega)).2,wpb,w6,h6'.2,show (0:Int)<=6 by omega,and_self,if_true,w3,ht,hr,Option.bind_some]
   have e5:decide ((d.length:Int)=((6+pb d 5:Nat):Int))=decide (d.length=6+pb d 5):=by rw[decide_eq_decide];omega
   have e0:decide ((pb d 0:Int)=0)=decide (pb d 0=0):=by rw[decide_eq_decide];omega
   have e2:decide ((pb d 0:Int)=2)=decide (pb d 0=2):=by rw[decide_eq_decide];omega
   rw[e5,e0,e2]
   have fin:∀ (c5:d.length=6+pb d 5) (c0:¬ (pb d 0=1\/2 < pb d 0\/d.length≠6+pb d 5)),(bif !decide (rowF ((pb d 1:Int),(pb d 2:Int),(pb d 3:Int)*256+(pb d 4:Int),d.drop 6,())=0) then some (cell5,()) else some (((0:Int),(pb d 0:Int),(0:Int),(0:Int),((pb d 1:Int),(pb d 2:Int),(pb d 3:Int)*256+(pb d 4:Int),d.drop 6,()),()),()))=some (if (cellF d).2 then (cellF d).1 else cell5,()):=fun c5 c0=>by
    rw[hc,if_neg c0]
    show (bif !decide (rowF (rowB d)=0) then some (cell5,()) else some (((0:Int),(pb d 0:Int),(0:Int),(0:Int),rowB d,()),()))=some (if decide (rowF (rowB d)=0)=true then ((0:Int),(pb d 0:Int),(0:Int),(0:Int),rowB d,()) else cell5,())
    cases decide (rowF (rowB d)=0) <;> rfl
   have bad:(pb d 0=1\/2 < pb d 0\/d.length≠6+pb d 5)->(some (cell5,()):Option impl_UnpackCell.Out)=some (if (cellF d).2 then (cellF d).1 else cell5,()):=fun h=>by
    rw[hc,if_pos h];rfl
   by_cases c5:d.length=6+pb d 5
   ·rw[decide_eq_true c5]
    by_cases c0:pb d 0=0
    ·rw[decide_eq_true c0]
     exact fin c5 (by omega)
    ·rw[decide_eq_false c0]
     by_cases c2:pb d 0=2
     ·rw[decide_eq_true c2]
      exact fin c5 (by omega)
     ·rw[decide_eq_false c2]
      exact bad (by omega)
   ·rw[decide_eq_false c5]
    have hb:=bad (.inr (.inr c5))
    cases decide (pb d 0=0) <;> cases decide (pb d 0=2) <;> exact hb
section
variable {p:List UInt8} (hp:PageOk p)
include hp
theorem implHas_eq (s:Nat):impl_hasSlot.sem (p,(s:Int),())=some (decide (s < pn p)&&!decide (psz p s=0),()):=by
 refine lift_eq (k:=0) fun k _=>(impl_hasSlot.raw_eq k _).trans ?_
 show impl_hasSlot.p _=_
 unfold impl_hasSlot.p
 have h0:(0:Int)<=(s:Int):=by omega
 have hn:=hp.n
 have hl:=hp.len
 simp only[h0,decide_true,cond_true,pSlots_eq hl,Option.bind_some]
 by_cases hs:s < pn p
 ·have e1:(s:Int) < (pn p:Int):=by omega
  have e2:decide ((psz p s:Int)=0)=decide (psz p s=0):=by rw[decide_eq_decide];omega
  have e3:(p[3+2*s]'(by omega)).toNat=psz p s:=(pb_get (show 3+2*s < p.length by omega)).2
  simp only[e1,hs,decide_true,cond_true,ix3 (show s < 1000 by omega),Int.natCast_nonneg,if_true,Int.toNat_natCast,read_pb (show 3+2*s < p.length by omega),e3,e2,Bool.true_and]
 ·have e1:¬ ((s:Int) < (pn p:Int)):=by omega
  simp only[e1,hs,decide_false,cond_false,Bool.false_and]
theorem specHas_eq (s:Nat):spec_l2Has.sem (p,(s:Int),())=some (decide (s < pn p)&&!decide (psz p s=0),()):=by
 refine lift_eq (k:=0) fun k _=>(spec_l2Has.raw_eq k _).trans ?_
 show spec_l2Has.p _=_
 unfold spec_l2Has.p
 have hn:=hp.n
 have hl:=hp.len
 have hw:w64 ((pn p:Int) - 1)=(pn p:Int) - 1:=w64_in (by omega)
 have h0:decide ((0:Int)<=(s:Int))=true:=decide_eq_true (by omega)
 have h1:decide ((s:Int)<=(pn p:Int) - 1)=decide (s < pn p):=by rw[decide_eq_decide];omega
 simp only[pCount_eq hl,Option.bind_some,hw,specIn_eq,h0,h1,Bool.true_and]
 by_cases hs:s < pn p
 ·have e2:decide ((0:Int) < (psz p s:Int))=!decide (psz p s=0):=by
   by_cases hz:psz p s=0
   ·simp[hz]
   ·have:(0:Int) < (psz p s:Int):=by omega
    rw[decide_eq_true this,decide_eq_false hz];rfl
  simp only[hs,decide_true,cond_true,pSize_eq hl (show s < 16 by omega),Option.bind_some,e2,Bool.true_and]
 ·simp only[hs,decide_false,cond_false,Bool.false_and]
theorem cell_in {s:Nat} (hs:s < pn p):pat p s+psz p s<=64:=by
 by_cases hz:psz p s=0
 ·have:=hp.zero s hs hz;omega
 ·exact (hp.slot s hs hz).2
theorem implCellAt_eq {s:Nat} (hs:s < pn p):impl_cellAt.sem (p,(s:Int),())=some (cellP p s,()):=by
 refine lift_eq (k:=0) fun k _=>(impl_cellAt.raw_eq k _).trans ?_
 show impl_cellAt.p _=_
 unfold impl_cellAt.p cellP
 have hn:=hp.n
 have hl:=hp.len
 have hc:=cell_in hp hs
 have hw:w64 ((pat p s:Int)+(psz p s:Int))=((pat p s+psz p s:Nat):Int):=by rw[w64_in (by omega)];omega
 have hb:(0:Int)<=(pat p s:Int)/\(pat p s:Int)<=((pat p s+psz p s:Nat):Int)/\((pat p s+psz p s:Nat):Int)<=(p.length:Int):=by omega
 simp only[pSpot_eq hl (show s < 16 by omega),Option.bind_some,hw]
 rw[if_pos hb]
 simp only[Int.toNat_natCast,List.drop_take]
 rw[show pat p s+psz p s - pat p s=psz p s by omega]
theorem specCellAt_eq {s:Nat} (hs:s < pn p):spec_l2Cell.sem (p,(s:Int),())=some (cellP p s,()):=by
 refine lift_eq (k:=0) fun k _=>(spec_l2Cell.raw_eq k _).trans ?_
 show spec_l2Cell.p _=_
 unfold spec_l2Cell.p cellP
 have hn:=hp.n
 have hl:=hp.len
 have hc:=cell_in hp hs
 have hw:w64 ((pat p s:Int)+(psz p s:Int))=((pat p s+psz p s:Nat):Int):=by rw[w64_in (by omega)];omega
 have hb:(0:Int)<=(pat p s:Int)/\(pat p s:Int)<=((pat p s+psz p s:Nat):Int)/\((pat p s+psz p s:Nat):Int)<=(p.length:Int):=by omega
 simp only[pPlace_eq hl (show s < 16 by omega),pSize_eq hl (show s < 16 by omega),Option.bind_some,hw]
 rw[if_pos hb,if_pos (cap_ok (by simp only[List.length_nil,List.length_drop,List.length_take];omega))]
 simp only[Int.toNat_natCast,List.drop_take,List.nil_append]
 rw[show pat p s+psz p s - pat p s=psz p s by omega]
end
theorem cellP_small {p:List UInt8} (hp:PageOk p) {s:Nat} (hs:s < pn p):(cellP p s).length<=64:=by
 have:=cellP_len hp hs
 have:=cell_in hp hs
 omega
end OT
set_option linter.unusedVariables false
set_option linter.unusedSimpArgs false
namespace OT
open Go
theorem forI_dup {α β O:Type} [DecidableEq β] (g:α->Option β) (bad:O) (fin:Unit->O) (p:α->α->Bool) (hp:∀ x y,p x y=true↔∃ b,g x=some b/\g y=some b) (all:List α):∀ (xs pre:List α),all=pre++xs->(pre.filterMap g).Nodup->forI (fun i _ x=>if (all.take i).any (p x) then .inl bad else .inr ()) fin pre.length xs ()=if (all.filterMap g).Nodup then fin () else bad
 | [],pre,h,hn=>by
  rw[List.append_nil] at h
  subst h
  simp only[forI,hn,if_true]
 | x::xs,pre,h,hn=>by
  have ht:all.take pre.length=pre:=by rw[h];exact List.take_left
  simp only[forI,ht]
  have hall:all.filterMap g=pre.filterMap g++([x].filterMap g++xs.filterMap g):=by rw[h,<- List.singleton_append (x:=x),List.filterMap_append,List.filterMap_append]
  cases hc:pre.any (p x) with
  | true=>
   simp only[if_true]
   obtain ⟨y,hy,hpy⟩:=List.any_eq_true.1 hc
   obtain ⟨b,h1,h2⟩:=(hp x y).1 hpy
   rw[if_neg]
   intro hnd
   rw[hall,List.nodup_append] at hnd
   exact hnd.2.2 b (List.mem_filterMap.2 ⟨y,hy,h2⟩) b (by simp[h1]) rfl
  | false=>
   simp only[Bool.false_eq_true,if_false]
   have:=forI_dup g bad fin p hp all xs (pre++[x]) (by rw[h];simp) (by
    rw[List.filterMap_append,List.nodup_append]
    refine ⟨hn,?_,fun a ha b hb e=>?_⟩
    ·cases hg:g x with
     | none=>simp[hg]
     | some b=>simp[hg]
    ·subst e
     obtain ⟨y,hy,hgy⟩:=List.mem_filterMap.1 ha
     obtain ⟨z,hz,hgz⟩:=List.mem_filterMap.1 hb
     rw[List.mem_singleton] at hz
     subst hz
     have:pre.any (p z)=true:=List.any_eq_true.2 ⟨y,hy,(hp z y).2 ⟨a,hgz,hgy⟩⟩
     rw[this] at hc;cases hc)
   rw[List.length_append] at this
   exact this
theorem forI_dup0 {α β O:Type} [DecidableEq β] (g:α->Option β) (bad:O) (fin:Unit->O) (p:α->α->Bool) (hp:∀ x y,p x y=true↔∃ b,g x=some b/\g y=some b) (xs:List α):forI (fun i _ x=>if (xs.take i).any (p x) then .inl bad else .inr ()) fin 0 xs ()=if (xs.filterMap g).Nodup then fin () else bad:=
 forI_dup g bad fin p hp xs xs [] rfl List.nodup_nil
theorem sorted_unique {α:Type} {lt:α->α->Prop} (has:∀ a b,lt a b->¬ lt b a):∀ (xs ys:List α),xs.Perm ys->xs.Pairwise lt->ys.Pairwise lt->xs=ys
 | [],ys,h,_,_=>(List.nil_perm.1 h).symm
 | x::xs,[],h,_,_=>by have:=h.length_eq;cases this
 | x::xs,y::ys,h,h1,h2=>by
  obtain ⟨a1,a2⟩:=List.pairwise_cons.1 h1
  obtain ⟨b1,b2⟩:=List.pairwise_cons.1 h2
  by_cases hxy:x=y
  ·subst hxy
   rw[sorted_unique has xs ys ((List.perm_cons x).1 h) a2 b2]
  ·have hx:x ∈ ys:=by
    have:=h.mem_iff.1 (List.mem_cons_self (a:=x) (l:=xs))
    rcases List.mem_cons.1 this with e | e
    ·exact absurd e hxy
    ·exact e
   have hy:y ∈ xs:=by
    have:=h.mem_iff.2 (List.mem_cons_self (a:=y) (l:=ys))
    rcases List.mem_cons.1 this with e | e
    ·exact absurd e.symm hxy
    ·exact e
   exact absurd (b1 x hx) (has _ _ (a1 y hy))
theorem put1_perm (xs:List Row) (r:Row):(put1 xs r).Perm (r::xs):=by
 unfold put1
 rw[List.append_assoc]
 have:=List.perm_middle (a:=r) (l₁:=xs.take (pos xs (rk r))) (l₂:=xs.drop (pos xs (rk r)))
 rw[List.take_append_drop] at this
 exact this
theorem pos_bef {xs:List Row} {k:Int×Int} {x:Row} (hu:up xs) (h:x ∈ xs.drop (pos xs k)):befB (rk x) k=false:=by
 obtain ⟨i,hi,e⟩:=List.mem_iff_getElem.1 h
 rw[List.length_drop] at hi
 rw[List.getElem_drop] at e
 rw[<-e]
 exact up_not xs k _ _ hu (by omega)
theorem up_put1 {xs:List Row} {r:Row} (hu:up xs) (hn:∀ x ∈ xs,rk x≠rk r):up (put1 xs r):=by
 unfold put1 up
 rw[List.append_assoc,List.pairwise_append]
 have hd:=hu.drop (i:=pos xs (rk r))
 refine ⟨hu.take,?_,fun a ha b hb=>?_⟩
 ·rw[List.singleton_append,List.pairwise_cons]
  refine ⟨fun b hb=>?_,hd⟩
  have h1:=pos_bef hu hb
  have h2:=hn b (List.mem_of_mem_drop hb)
  cases h3:befB (rk r) (rk b) with
  | true=>rfl
  | false=>exact absurd (befB_tri h1 h3) h2
 ·have h1:=take_bef ha
  rw[List.singleton_append] at hb
  rcases List.mem_cons.1 hb with e | e
  ·subst e;exact h1
  ·have h2:=pos_bef hu e
   have h3:=hn b (List.mem_of_mem_drop e)
   cases h4:befB (rk a) (rk b) with
   | true=>rfl
   | false=>
    cases h5:befB (rk b) (rk a) with
    | true=>rw[befB_trans h5 h1] at h2;cases h2
    | false=>
     have:=befB_tri h4 h5
     rw[this] at h1
     rw[h1] at h2;cases h2
def sortR (l:List Row):List Row:=l.foldl put1 []
theorem foldl_put1:∀ (l acc:List Row),(l.foldl put1 acc).Perm (l++acc)
 | [],acc=>List.Perm.refl _
 | r::l,acc=>by
  have h1:=foldl_put1 l (put1 acc r)
  have h2:(l++put1 acc r).Perm (l++r::acc):=(List.Perm.refl l).append (put1_perm acc r)
  exact h1.trans (h2.trans List.perm_middle)
theorem sortR_perm (l:List Row):(sortR l).Perm l:=by
 have:=foldl_put1 l []
 rw[List.append_nil] at this
 exact this
theorem foldl_up:∀ (l acc:List Row),up acc->(l.map rk++acc.map rk).Nodup->up (l.foldl put1 acc)
 | [],acc,h,_=>h
 | r::l,acc,h,hn=>by
  simp only[List.map_cons,List.cons_append,List.nodup_cons,List.mem_append,not_or] at hn
  refine foldl_up l (put1 acc r) (up_put1 h fun x hx e=>hn.1.2 (List.mem_map.2 ⟨x,hx,e⟩)) ?_
  have:(l.map rk++(put1 acc r).map rk).Perm (rk r::(l.map rk++acc.map rk)):=by
   refine ((List.Perm.refl _).append ((put1_perm acc r).map rk)).trans ?_
   rw[List.map_cons]
   exact List.perm_middle
  rw[this.nodup_iff,List.nodup_cons,List.mem_append,not_or]
  exact hn
theorem sortR_up {l:List Row} (h:(l.map rk).Nodup):up (sortR l):=foldl_up l [] List.Pairwise.nil (by simpa using h)
theorem befB_not {a b:Int×Int} (h:befB a b=true):¬ befB b a=true:=by rw[befB_asym h];exact fun h=>by cases h
theorem up_nodup {xs:List Row} (h:up xs):(xs.map rk).Nodup:=by
 unfold List.Nodup
 rw[List.pairwise_map]
 refine h.imp fun h1 e=>?_
 rw[e,befB_irr] at h1
 cases h1
end OT
set_option linter.unusedVariables false
set_option linter.unusedSimpArgs false
namespace OT
open Go
abbrev Pgs:Type:=List (List UInt8)
def goI {α β:Type} (g:Nat->α->List β):Nat->List α->List β
 | _,[]=>[]
 | i,x::xs=>g i x++goI g (i+1) xs
theorem forI_appI {O α β:Type} (g:Nat->α->List β) (fin:List β->O):∀ (xs:List α) (i:Nat) (s:List β),forI (fun i s x=>.inr (s++g i x)) fin i xs s=fin (s++goI g i xs)
 | [],_,s=>by simp[forI,goI]
 | x::xs,i,s=>by simp only[forI,goI];rw[forI_appI g fin xs (i+1)];simp[List.append_assoc]
theorem goI_len {α β:Type} {g:Nat->α->List β} {n:Nat}:∀ (xs:List α) (i:Nat),(∀ i x,x ∈ xs->(g i x).length<=n)->(goI g i xs).length<=n*xs.length
 | [],_,_=>by simp[goI]
 | x::xs,i,h=>by
  have h1:=h i x List.mem_cons_self
  have h2:=goI_len xs (i+1) fun i y hy=>h i y (List.mem_cons_of_mem _ hy)
  simp only[goI,List.length_append,List.length_cons,Nat.mul_add]
  omega
theorem goI_mem {α β:Type} {g:Nat->α->List β} {y:β}:∀ {xs:List α} {i:Nat},y ∈ goI g i xs↔∃ (j:Nat) (x:α),xs[j]?=some x/\y ∈ g (i+j) x
 | [],i=>by simp[goI]
 | x::xs,i=>by
  simp only[goI,List.mem_append,goI_mem (xs:=xs)]
  constructor
  ·rintro (h | ⟨j,z,h1,h2⟩)
   ·exact ⟨0,x,rfl,h⟩
   ·exact ⟨j+1,z,h1,by rw[show i+(j+1)=i+1+j by omega];exact h2⟩
  ·rintro ⟨j,z,h1,h2⟩
   cases j with
   | zero=>injection h1 with h1;subst h1;exact .inl h2
   | succ j=>exact .inr ⟨j,z,h1,by rw[show i+1+j=i+(j+1) by omega];exact h2⟩
def sFlag (x:L6Spot):Int:=x.2.2.1.2.1
def sTp (x:L6Spot):Int:=x.2.2.1.2.2.1
def sTs (x:L6Spot):Int:=x.2.2.1.2.2.2.1
def sRow (x:L6Spot):Row:=x.2.2.1.2.2.2.2.1
def spot1 (P:Nat) (p:List UInt8) (s:Nat):List L6Spot:=if psz p s=0 then [] else [((P:Int),(s:Int),(cellF (cellP p s)).1,())]
def spotsPg (P:Nat) (p:List UInt8):List L6Spot:=(List.range (pn p)).flatMap (spot1 P p)
def spotsF (ps:Pgs):List L6Spot:=goI spotsPg 0 ps
def cellG (ps:Pgs) (a b:Int):CellResult×Bool:=match ps[a.toNat]? with
 | some p=>if b.toNat < pn p/\psz p b.toNat≠0 then cellF (cellP p b.toNat) else (cell0,false)
 | none=>(cell0,false)
def okCell (p:List UInt8) (s:Nat):Bool:=decide (psz p s=0)||(cellF (cellP p s)).2
def pgC (p:List UInt8):Int:=if pageF p=0 then (if (List.range (pn p)).all (okCell p) then 0 else 5) else pageF p
def stubOk (ps:Pgs) (x:L6Spot):Bool:=!decide (sFlag x=1)||((cellG ps (sTp x) (sTs x)).2&&decide ((cellG ps (sTp x) (sTs x)).1.2.1=2))
def sTgt (x:L6Spot):Option (Int×Int):=if sFlag x=1 then some (sTp x,sTs x) else none
def withRow (x:L6Spot) (r:Row):L6Spot:=(x.1,x.2.1,(x.2.2.1.1,x.2.2.1.2.1,x.2.2.1.2.2.1,x.2.2.1.2.2.2.1,r,x.2.2.1.2.2.2.2.2),x.2.2.2)
def seen1 (ps:Pgs) (x:L6Spot):L6Spot:=if sFlag x=1 then withRow x (cellG ps (sTp x) (sTs x)).1.2.2.2.2.1 else x
def seenX (ps:Pgs) (x:L6Spot):List L6Spot:=if sFlag x=2 then [] else [seen1 ps x]
def seenF (ps:Pgs):List L6Spot:=(spotsF ps).flatMap (seenX ps)
def lookC (ps:Pgs):Int:=
 if (spotsF ps).all (stubOk ps) then
  if ((spotsF ps).filterMap sTgt).Nodup then (if ((seenF ps).map fun x=>rk (sRow x)).Nodup then 0 else 8) else 6
 else 4
def viewC (ps:Pgs):Int:=if 12 < ps.length then 2 else if firstF pgC ps=0 then lookC ps else firstF pgC ps
def rightP (ps:Pgs):Prop:=ps.length<=12/\∀ p ∈ ps,PageOk p
theorem pgC_ok {p:List UInt8} (h:pgC p=0):PageOk p/\∀ s,s < pn p->psz p s≠0->(cellF (cellP p s)).2=true:=by
 unfold pgC at h
 split at h
 ·rename_i h1
  split at h
  ·rename_i h2
   refine ⟨pageF_iff.1 h1,fun s hs hz=>?_⟩
   have:=List.all_eq_true.1 h2 s (List.mem_range.2 hs)
   simpa [okCell,hz] using this
  ·cases h
 ·rename_i h1;exact absurd h h1
theorem firstF_all {α:Type} {c:α->Int}:∀ {xs:List α},firstF c xs=0->∀ x ∈ xs,c x=0
 | [],_,_,hx=>by cases hx
 | y::xs,h,x,hx=>by
  simp only[firstF] at h
  split at h
  ·rename_i hy
   rcases List.mem_cons.1 hx with rfl | hx
   ·exact hy
   ·exact firstF_all h x hx
  ·rename_i hy;exact absurd h hy
theorem view_right {ps:Pgs} (h:viewC ps=0):rightP ps/\firstF pgC ps=0/\lookC ps=0:=by
 unfold viewC at h
 split at h
 ·cases h
 ·rename_i h1
  split at h
  ·rename_i h2
   exact ⟨⟨by omega,fun p hp=>(pgC_ok (firstF_all h2 p hp)).1⟩,h2,h⟩
  ·rename_i h2;exact absurd h h2
theorem spotsPg_len {p:List UInt8} (h:PageOk p) (P:Nat):(spotsPg P p).length<=16:=by
 have:∀ n,((List.range n).flatMap (spot1 P p)).length<=n:=by
  intro n
  induction n with
  | zero=>simp
  | succ n ih=>
   rw[List.range_succ,List.flatMap_append,List.length_append]
   have:(([n]:List Nat).flatMap (spot1 P p)).length<=1:=by
    simp only[List.flatMap_cons,List.flatMap_nil,List.append_nil,spot1]
    split <;> simp
   omega
 have h1:=this (pn p)
 have h2:=h.n
 unfold spotsPg;omega
theorem spots_len {ps:Pgs} (h:rightP ps):(spotsF ps).length<=192:=by
 have:=goI_len (g:=spotsPg) (n:=16) ps 0 fun i p hp=>spotsPg_len (h.2 p hp) i
 unfold spotsF;have:=h.1;omega
theorem seen_len {ps:Pgs} (h:rightP ps):(seenF ps).length<=192:=by
 have:∀ xs:List L6Spot,(xs.flatMap (seenX ps)).length<=xs.length:=by
  intro xs
  induction xs with
  | nil=>simp
  | cons x xs ih=>
   have:(seenX ps x).length<=1:=by unfold seenX;split <;> simp
   simp only[List.flatMap_cons,List.length_append,List.length_cons];omega
 have h1:=this (spotsF ps)
 have h2:=spots_len h
 unfold seenF;omega
theorem cellF_nonneg (d:List UInt8):0<=(cellF d).1.2.2.1/\0<=(cellF d).1.2.2.2.1:=by
 unfold cellF
 split
 ·exact ⟨Int.natCast_nonneg _,Int.natCast_nonneg _⟩
 ·split
  ·exact ⟨Int.le_refl _,Int.le_refl _⟩
  ·exact ⟨Int.le_refl _,Int.le_refl _⟩
theorem spot_mem {ps:Pgs} {x:L6Spot}:x ∈ spotsF ps↔∃ (P:Nat) (p:List UInt8) (s:Nat),ps[P]?=some p/\s < pn p/\psz p s≠0/\x=((P:Int),(s:Int),(cellF (cellP p s)).1,()):=by
 unfold spotsF
 rw[goI_mem]
 constructor
 ·rintro ⟨j,p,h1,h2⟩
  obtain ⟨s,h3,h4⟩:=List.mem_flatMap.1 h2
  unfold spot1 at h4
  split at h4
  ·cases h4
  ·rename_i hz
   rw[List.mem_singleton] at h4
   rw[Nat.zero_add] at h4
   exact ⟨j,p,s,h1,List.mem_range.1 h3,hz,h4⟩
 ·rintro ⟨P,p,s,h1,h2,h3,rfl⟩
  refine ⟨P,p,h1,List.mem_flatMap.2 ⟨s,List.mem_range.2 h2,?_⟩⟩
  unfold spot1
  rw[if_neg h3,Nat.zero_add]
  exact List.mem_singleton.2 rfl
theorem spot_nonneg {ps:Pgs} {x:L6Spot} (h:x ∈ spotsF ps):0<=sTp x/\0<=sTs x:=by
 obtain ⟨P,p,s,_,_,_,rfl⟩:=spot_mem.1 h
 exact cellF_nonneg _
theorem specSpots_eq (ps:Pgs) (h:rightP ps):spec_l6Spots.sem (ps,())=some (spotsF ps,()):=by
 obtain ⟨hl,hp⟩:=h
 refine lift_eq (k:=100) fun k hk=>(spec_l6Spots.raw_eq k _).trans ?_
 have inner:∀ (self:(Pgs×(List L6Spot)×Int)->Option spec_l6Spots.Out) (e0:(List L6Spot)->Option spec_l6Spots.Out) (i:Nat) (hi:i < ps.length) (s:List L6Spot),s.length<=1000->spec_l6Spots.r1 k self e0 (ps,()) ps (i:Int) (s,(0:Int))=self (ps,s++spotsPg i ps[i],w64 ((i:Int)+1)):=fun self e0 i hi s0 hs0=>by
  have hok:=hp _ (List.getElem_mem hi)
  have hn:=hok.n
  have hlen:=hok.len
  have:=range_loop (B:=fun self' v=>spec_l6Spots.B1 k self' (fun z=>spec_l6Spots.Q0 k self e0 (ps,()) ps (i:Int) z) (ps,()) ps (i:Int) v) (pn ps[i]) (fun (s:List L6Spot) (j:Int)=>(s,j)) (fun j s=>.inr (s++spot1 i ps[i] j)) (fun s=>self (ps,s,w64 ((i:Int)+1))) (fun j s=>s.length<=1000+j) (by omega)
   (fun j hj s self' hI=>by
    show spec_l6Spots.b1 _ _ _ _ _ _=_
    unfold spec_l6Spots.b1 spot1
    have hlt:(j:Int) < (pn ps[i]:Int):=by omega
    simp only[Int.natCast_nonneg,if_true,Int.toNat_natCast,List.getElem?_eq_getElem hi,Option.bind_some,pCount_eq hlen,hlt,decide_true,cond_true,pSize_eq hlen (show j < 16 by omega)]
    by_cases hz:psz ps[i] j=0
    ·have:¬ ((0:Int) < (psz ps[i] j:Int)):=by omega
     rw[decide_eq_false this]
     simp only[cond_false,hz,if_true,List.append_nil]
    ·have:((0:Int) < (psz ps[i] j:Int)):=by omega
     rw[decide_eq_true this]
     simp only[cond_true,specCellAt_eq hok hj,specRead1_eq _ (Nat.le_trans (cellP_small hok hj) (by omega)),Option.bind_some,hz,if_false]
     rw[if_pos (cap_ok (by simp only[List.length_cons,List.length_nil];omega))])
   (fun j hj s s' hI hf=>by
    injection hf with hf
    subst hf
    have:(spot1 i ps[i] j).length<=1:=by unfold spot1;split <;> simp
    rw[List.length_append];omega) (fun s self' hI=>by
    show spec_l6Spots.b1 _ _ _ _ _ _=_
    unfold spec_l6Spots.b1
    simp only[Int.natCast_nonneg,if_true,Int.toNat_natCast,List.getElem?_eq_getElem hi,Option.bind_some,pCount_eq hlen,Int.lt_irrefl,decide_false,cond_false]
    rfl) s0 (by omega) k (by omega)
  rw[forI_app (spot1 i ps[i])] at this
  exact this
 have:=for_loopE (B:=fun self v=>spec_l6Spots.B0 k self (fun z=>spec_l6Spots.Q1 k (ps,()) z) (ps,()) v) ps (fun (s:List L6Spot) (i:Int)=>(ps,s,i)) (fun i s p=>.inr (s++spotsPg i p)) (fun s=>some (s,())) (fun i s=>s.length<=16*i) (by rw[maxLen_val];omega)
  (fun i hi s self hI=>by
   show spec_l6Spots.b0 _ _ _ _ _=_
   unfold spec_l6Spots.b0
   have hlt:(i:Int) < (ps.length:Int):=by omega
   simp only[hlt,decide_true,cond_true,inner self _ i hi s (by omega)])
  (fun i hi s s' hI hf=>by
   injection hf with hf
   subst hf
   have:=spotsPg_len (hp _ (List.getElem_mem hi)) i
   rw[List.length_append];omega) (fun s self _=>by
   show spec_l6Spots.b0 _ _ _ _ _=_
   unfold spec_l6Spots.b0
   simp only[Int.lt_irrefl,decide_false,cond_false]
   rfl) [] (by simp) k (by omega)
 rw[forI_appI] at this
 exact this
theorem specCells_eq (ps:Pgs) (hl:ps.length<=12) (hp:∀ p ∈ ps,p.length<=maxLen):spec_l6Cells.sem (ps,())=some (firstF pgC ps,()):=by
 refine lift_eq (k:=100) fun k hk=>(spec_l6Cells.raw_eq k _).trans ?_
 have inner:∀ (self:(Pgs×Int)->Option spec_l6Cells.Out) (e0:Unit->Option spec_l6Cells.Out) (i:Nat) (hi:i < ps.length),PageOk ps[i]->spec_l6Cells.r1 k self e0 (ps,()) ps (i:Int) (0:Int)=if (List.range (pn ps[i])).all (okCell ps[i]) then self (ps,w64 ((i:Int)+1)) else some ((5:Int),()):=fun self e0 i hi hok=>by
  have hn:=hok.n
  have hlen:=hok.len
  have:=range_loop (B:=fun self' v=>spec_l6Cells.B1 k self' (fun z=>spec_l6Cells.Q0 k self e0 (ps,()) ps (i:Int) z) (ps,()) ps (i:Int) v) (pn ps[i]) (fun (_:Unit) (j:Int)=>j) (fun j _=>if okCell ps[i] j then .inr () else .inl (some ((5:Int),()))) (fun s=>self (ps,w64 ((i:Int)+1))) (fun _ _=>True) (by omega)
   (fun j hj s self' hI=>by
    show spec_l6Cells.b1 _ _ _ _ _ _=_
    unfold spec_l6Cells.b1 okCell
    have hlt:(j:Int) < (pn ps[i]:Int):=by omega
    simp only[Int.natCast_nonneg,if_true,Int.toNat_natCast,List.getElem?_eq_getElem hi,Option.bind_some,pCount_eq hlen,hlt,decide_true,cond_true,pSize_eq hlen (show j < 16 by omega)]
    by_cases hz:psz ps[i] j=0
    ·have:¬ ((0:Int) < (psz ps[i] j:Int)):=by omega
     rw[decide_eq_false this]
     simp only[cond_false,hz,decide_true,Bool.true_or,if_true]
    ·have:((0:Int) < (psz ps[i] j:Int)):=by omega
     rw[decide_eq_true this]
     simp only[cond_true,specCellAt_eq hok hj,specRead1_eq _ (Nat.le_trans (cellP_small hok hj) (by omega)),Option.bind_some,hz,decide_false,Bool.false_or]
     cases (cellF (cellP ps[i] j)).2 <;> rfl)
   (fun _ _ _ _ _ _=>trivial) (fun s self' hI=>by
    show spec_l6Cells.b1 _ _ _ _ _ _=_
    unfold spec_l6Cells.b1
    simp only[Int.natCast_nonneg,if_true,Int.toNat_natCast,List.getElem?_eq_getElem hi,Option.bind_some,pCount_eq hlen,Int.lt_irrefl,decide_false,cond_false]
    rfl) () trivial k (by omega)
  rw[forI_checkN] at this
  exact this
 have:=for_loopE (B:=fun self v=>spec_l6Cells.B0 k self (fun z=>spec_l6Cells.Q1 k (ps,()) z) (ps,()) v) ps (fun (_:Unit) (i:Int)=>(ps,i)) (fun i _ p=>if pgC p=0 then .inr () else .inl (some (pgC p,()))) (fun _=>some ((0:Int),())) (fun _ _=>True) (by rw[maxLen_val];omega)
  (fun i hi s self hI=>by
   show spec_l6Cells.b0 _ _ _ _ _=_
   unfold spec_l6Cells.b0 pgC
   have hlt:(i:Int) < (ps.length:Int):=by omega
   simp only[hlt,decide_true,cond_true,Int.natCast_nonneg,if_true,Int.toNat_natCast,List.getElem?_eq_getElem hi,Option.bind_some,specPage_eq _ (hp _ (List.getElem_mem hi))]
   by_cases h0:pageF ps[i]=0
   ·rw[decide_eq_true h0]
    simp only[Bool.not_true,cond_false,inner self _ i hi (pageF_iff.1 h0),h0,if_true]
    by_cases hc:(List.range (pn ps[i])).all (okCell ps[i])=true
    ·simp only[hc,if_true]
    ·simp only[hc,Bool.false_eq_true,if_false]
     rfl
   ·rw[decide_eq_false h0]
    simp only[Bool.not_false,cond_true,h0,if_false])
  (fun _ _ _ _ _ _=>trivial) (fun s self _=>by
   show spec_l6Cells.b0 _ _ _ _ _=_
   unfold spec_l6Cells.b0
   simp only[Int.lt_irrefl,decide_false,cond_false]
   rfl) () trivial k (by omega)
 rw[forI_first pgC (fun c=>some (c,())) (fun _=>some ((0:Int),()))] at this
 refine Eq.trans this ?_
 split
 ·rename_i h;rw[h]
 ·rfl
theorem specCell6_eq (ps:Pgs) (h:rightP ps) (a b:Int) (ha:0<=a) (hb:0<=b):spec_l6Cell.sem (ps,a,b,())=some ((cellG ps a b).1,(cellG ps a b).2,()):=by
 obtain ⟨hl,hp⟩:=h
 obtain ⟨a,rfl⟩:=Int.eq_ofNat_of_zero_le ha
 obtain ⟨b,rfl⟩:=Int.eq_ofNat_of_zero_le hb
 refine lift_eq (k:=0) fun k hk=>(spec_l6Cell.raw_eq k _).trans ?_
 show spec_l6Cell.p _=_
 unfold spec_l6Cell.p cellG
 have hw:w64 ((ps.length:Int) - 1)=(ps.length:Int) - 1:=w64_in (by omega)
 have h0:decide ((0:Int)<=(a:Int))=true:=decide_eq_true (by omega)
 have h1:decide ((a:Int)<=(ps.length:Int) - 1)=decide (a < ps.length):=by rw[decide_eq_decide];omega
 simp only[specIn_eq,hw,h0,h1,Option.bind_some,Bool.true_and,Int.toNat_natCast]
 by_cases hal:a < ps.length
 rotate_left
 ·rw[decide_eq_false hal,List.getElem?_eq_none (by omega)]
  rfl
 rw[decide_eq_true hal]
 have hok:=hp _ (List.getElem_mem hal)
 simp only[Bool.not_true,cond_false,Int.natCast_nonneg,if_true,List.getElem?_eq_getElem hal,Option.bind_some,specHas_eq hok]
 by_cases hc:b < pn ps[a]/\psz ps[a] b≠0
 ·rw[decide_eq_true hc.1,decide_eq_false hc.2,if_pos hc]
  simp only[Bool.not_false,Bool.and_self,Bool.not_true,cond_false,specCellAt_eq hok hc.1,specRead1_eq _ (Nat.le_trans (cellP_small hok hc.1) (by omega)),Option.bind_some]
 ·rw[if_neg hc]
  have:(decide (b < pn ps[a])&&!decide (psz ps[a] b=0))=false:=by
   rw[Bool.and_eq_false_iff]
   by_cases h2:b < pn ps[a]
   ·right
    have:psz ps[a] b=0:=by
     by_cases h3:psz ps[a] b=0
     ·exact h3
     ·exact absurd ⟨h2,h3⟩ hc
    rw[decide_eq_true this];rfl
   ·left;exact decide_eq_false h2
  rw[this]
  rfl
theorem specStubs_eq (ps:Pgs) (h:rightP ps):spec_l6Stubs.sem (spotsF ps,ps,())=some (if (spotsF ps).all (stubOk ps) then (if ((spotsF ps).filterMap sTgt).Nodup then 0 else 6) else 4,()):=by
 have hsl:=spots_len h
 have hnn:∀ x ∈ spotsF ps,0<=sTp x/\0<=sTs x:=fun x hx=>spot_nonneg hx
 generalize spotsF ps=xs at hsl hnn ⊢
 refine lift_eq (k:=300) fun k hk=>(spec_l6Stubs.raw_eq k _).trans ?_
 have inner:∀ (self:(List L6Spot×Int)->Option spec_l6Stubs.Out) (e2:Unit->Option spec_l6Stubs.Out) (i:Nat) (hi:i < xs.length),spec_l6Stubs.r2 k self e2 (xs,ps,()) xs (i:Int) (0:Int)=if (xs.take i).any (fun y=>decide (sFlag xs[i]=1)&&(decide (sFlag y=1)&&(decide (sTp xs[i]=sTp y)&&decide (sTs xs[i]=sTs y)))) then some ((6:Int),()) else self (xs,w64 ((i:Int)+1)):=fun self e2 i hi=>by
  have hti:(xs.take i).length=i:=by rw[List.length_take];omega
  have:=for_loopE (B:=fun self' v=>spec_l6Stubs.B2 k self' (fun z=>spec_l6Stubs.Q1 k self e2 (xs,ps,()) xs (i:Int) z) (xs,ps,()) xs (i:Int) v) (xs.take i) (fun (_:Unit) (j:Int)=>j) (fun _ _ y=>if decide (sFlag xs[i]=1)&&(decide (sFlag y=1)&&(decide (sTp xs[i]=sTp y)&&decide (sTs xs[i]=sTs y))) then .inl (some ((6:Int),())) else .inr ()) (fun _=>self (xs,w64 ((i:Int)+1))) (fun _ _=>True) (by rw[maxLen_val];omega)
   (fun j hj s self' _=>by
    have hji:j < i:=by omega
    have hj2:j < xs.length:=by omega
    show spec_l6Stubs.b2 _ _ _ _ _ _=_
    unfold spec_l6Stubs.b2
    have hlt:(j:Int) < (i:Int):=by omega
    have hg:(xs.take i)[j]=xs[j]:=List.getElem_take
    rw[hg]
    simp only[hlt,decide_true,cond_true,Int.natCast_nonneg,if_true,Int.toNat_natCast,List.getElem?_eq_getElem hi,List.getElem?_eq_getElem hj2,Option.bind_some]
    show (bif decide (sFlag xs[i]=1) then bif decide (sFlag xs[j]=1) then bif decide (sTp xs[i]=sTp xs[j]) then bif decide (sTs xs[i]=sTs xs[j]) then _ else _ else _ else _ else _)=_
    cases decide (sFlag xs[i]=1) <;> cases decide (sFlag xs[j]=1) <;> cases decide (sTp xs[i]=sTp xs[j]) <;> cases decide (sTs xs[i]=sTs xs[j]) <;> rfl)
   (fun _ _ _ _ _ _=>trivial) (fun s self' _=>by
    rw[hti]
    show spec_l6Stubs.b2 _ _ _ _ _ _=_
    unfold spec_l6Stubs.b2
    simp only[Int.lt_irrefl,decide_false,cond_false]
    rfl) () trivial k (by omega)
  rw[forI_any] at this
  exact this
 have second:spec_l6Stubs.r1 k (xs,ps,()) (xs,(0:Int))=if (xs.filterMap sTgt).Nodup then some ((0:Int),()) else some ((6:Int),()):=by
  have:=for_loopE (B:=fun self v=>spec_l6Stubs.B1 k self (fun z=>spec_l6Stubs.Q2 k (xs,ps,()) z) (xs,ps,()) v) xs (fun (_:Unit) (i:Int)=>(xs,i)) (fun i _ x=>if (xs.take i).any (fun y=>decide (sFlag x=1)&&(decide (sFlag y=1)&&(decide (sTp x=sTp y)&&decide (sTs x=sTs y)))) then .inl (some ((6:Int),())) else .inr ()) (fun _=>some ((0:Int),())) (fun _ _=>True) (by rw[maxLen_val];omega)
   (fun i hi s self _=>by
    show spec_l6Stubs.b1 _ _ _ _ _=_
    unfold spec_l6Stubs.b1
    have hlt:(i:Int) < (xs.length:Int):=by omega
    simp only[hlt,decide_true,cond_true,inner self _ i hi]
    split <;> rfl)
   (fun _ _ _ _ _ _=>trivial) (fun s self _=>by
    show spec_l6Stubs.b1 _ _ _ _ _=_
    unfold spec_l6Stubs.b1
    simp only[Int.lt_irrefl,decide_false,cond_false]
    rfl) () trivial k (by omega)
  rw[forI_dup0 sTgt (some ((6:Int),())) (fun _=>some ((0:Int),())) (fun x y=>decide (sFlag x=1)&&(decide (sFlag y=1)&&(decide (sTp x=sTp y)&&decide (sTs x=sTs y)))) (fun x y=>?_) xs] at this
  ·exact this
  ·unfold sTgt
   simp only[Bool.and_eq_true,decide_eq_true_eq]
   constructor
   ·rintro ⟨h1,h2,h3,h4⟩
    exact ⟨(sTp x,sTs x),by rw[if_pos h1],by rw[if_pos h2,h3,h4]⟩
   ·rintro ⟨b,h1,h2⟩
    by_cases c1:sFlag x=1
    ·by_cases c2:sFlag y=1
     ·rw[if_pos c1] at h1
      rw[if_pos c2] at h2
      injection h1 with h1
      injection h2 with h2
      rw[<-h2] at h1
      injection h1 with h3 h4
      exact ⟨c1,c2,h3,h4⟩
     ·rw[if_neg c2] at h2;cases h2
    ·rw[if_neg c1] at h1;cases h1
 have:=for_loopE (B:=fun self v=>spec_l6Stubs.B0 k self (fun z=>spec_l6Stubs.Q0 k (xs,ps,()) z) (xs,ps,()) v) xs (fun (_:Unit) (i:Int)=>i) (fun i _ x=>if stubOk ps x then .inr () else .inl (some ((4:Int),()))) (fun _=>spec_l6Stubs.r1 k (xs,ps,()) (xs,(0:Int))) (fun _ _=>True) (by rw[maxLen_val];omega)
  (fun i hi s self _=>by
   show spec_l6Stubs.b0 _ _ _ _=_
   unfold spec_l6Stubs.b0 stubOk
   have hlt:(i:Int) < (xs.length:Int):=by omega
   obtain ⟨g1,g2⟩:=hnn _ (List.getElem_mem hi)
   have hcc:spec_l6Cell.sem (ps,(xs[i]).2.2.1.2.2.1,(xs[i]).2.2.1.2.2.2.1,())=some ((cellG ps (sTp xs[i]) (sTs xs[i])).1,(cellG ps (sTp xs[i]) (sTs xs[i])).2,()):=specCell6_eq ps h _ _ g1 g2
   simp only[hlt,decide_true,cond_true,Int.natCast_nonneg,if_true,Int.toNat_natCast,List.getElem?_eq_getElem hi,Option.bind_some,hcc]
   show (bif !decide (sFlag xs[i]=1) then _ else _)=_
   cases decide (sFlag xs[i]=1) <;> cases (cellG ps (sTp xs[i]) (sTs xs[i])).2 <;> cases decide ((cellG ps (sTp xs[i]) (sTs xs[i])).1.2.1=2) <;> rfl)
  (fun _ _ _ _ _ _=>trivial) (fun s self _=>by
   show spec_l6Stubs.b0 _ _ _ _=_
   unfold spec_l6Stubs.b0
   simp only[Int.lt_irrefl,decide_false,cond_false]
   rfl) () trivial k (by omega)
 rw[forI_check (stubOk ps) (some ((4:Int),())) (fun _=>spec_l6Stubs.r1 k (xs,ps,()) (xs,(0:Int)))] at this
 refine Eq.trans this ?_
 rw[second]
 split
 ·split <;> rfl
 ·rfl
theorem specSeen_eq (ps:Pgs) (h:rightP ps):spec_l6Seen.sem (ps,())=some (seenF ps,()):=by
 refine lift_eq (k:=300) fun k hk=>(spec_l6Seen.raw_eq k _).trans ?_
 unfold spec_l6Seen.p
 rw[specSpots_eq ps h]
 simp only[Option.bind_some]
 have hsl:=spots_len h
 have hnn:∀ x ∈ spotsF ps,0<=sTp x/\0<=sTs x:=fun x hx=>spot_nonneg hx
 unfold seenF
 generalize spotsF ps=xs at hsl hnn ⊢
 have:=for_loopE (B:=fun self v=>spec_l6Seen.B0 k self (fun z=>spec_l6Seen.Q0 k (ps,()) xs z) (ps,()) xs v) xs (fun (s:List L6Spot) (i:Int)=>(s,i)) (fun i s x=>.inr (s++seenX ps x)) (fun s=>some (s,())) (fun i s=>s.length<=i) (by rw[maxLen_val];omega)
  (fun i hi s self hI=>by
   show spec_l6Seen.b0 _ _ _ _ _=_
   unfold spec_l6Seen.b0 seenX
   have hlt:(i:Int) < (xs.length:Int):=by omega
   obtain ⟨g1,g2⟩:=hnn _ (List.getElem_mem hi)
   have hcc:spec_l6Cell.sem (ps,(xs[i]).2.2.1.2.2.1,(xs[i]).2.2.1.2.2.2.1,())=some ((cellG ps (sTp xs[i]) (sTs xs[i])).1,(cellG ps (sTp xs[i]) (sTs xs[i])).2,()):=specCell6_eq ps h _ _ g1 g2
   have hcap:∀ y:L6Spot,s.length+[y].length<=CAP:=fun y=>cap_ok (by simp only[List.length_cons,List.length_nil];omega)
   simp only[hlt,decide_true,cond_true,Int.natCast_nonneg,and_self,if_true,Int.toNat_natCast,List.getElem?_eq_getElem hi,Option.bind_some,hcc,hcap]
   show (bif decide (sFlag xs[i]=2) then _ else bif decide (sFlag xs[i]=1) then _ else _)=_
   unfold seen1
   by_cases c2:sFlag xs[i]=2
   ·simp only[c2,decide_true,cond_true,if_true,List.append_nil]
   ·by_cases c1:sFlag xs[i]=1
    ·simp only[c1,c2,decide_true,decide_false,cond_true,cond_false,if_true,if_false]
     rfl
    ·simp only[c1,c2,decide_false,cond_false,if_false])
  (fun i hi s s' hI hf=>by
   injection hf with hf
   subst hf
   have:(seenX ps xs[i]).length<=1:=by unfold seenX;split <;> simp
   rw[List.length_append];omega) (fun s self _=>by
   show spec_l6Seen.b0 _ _ _ _ _=_
   unfold spec_l6Seen.b0
   simp only[Int.lt_irrefl,decide_false,cond_false]
   rfl) [] (by simp) k (by omega)
 rw[forI_app (seenX ps)] at this
 exact this
def sKey (x:L6Spot):Option (Int×Int):=some (rk (sRow x))
theorem specView_eq (ps:Pgs) (hp:∀ p ∈ ps,p.length<=maxLen):spec_l6Fault.sem (ps,())=some (viewC ps,()):=by
 refine lift_eq (k:=300) fun k hk=>(spec_l6Fault.raw_eq k _).trans ?_
 unfold spec_l6Fault.p viewC
 by_cases hl:12 < ps.length
 ·have:(12:Int) < (ps.length:Int):=by omega
  simp only[this,decide_true,cond_true,hl,if_true]
 have hl':¬ ((12:Int) < (ps.length:Int)):=by omega
 simp only[hl',decide_false,cond_false,hl,if_false,specCells_eq ps (by omega) hp,Option.bind_some]
 by_cases hc:firstF pgC ps=0
 rotate_left
 ·simp only[hc,decide_false,Bool.not_false,cond_true,if_false]
 have h:rightP ps:=⟨by omega,fun p hp=>(pgC_ok (firstF_all hc p hp)).1⟩
 simp only[hc,decide_true,Bool.not_true,cond_false,if_true,specSpots_eq ps h,specStubs_eq ps h,specSeen_eq ps h,Option.bind_some]
 unfold lookC
 by_cases h1:(spotsF ps).all (stubOk ps)=true
 rotate_left
 ·simp only[h1,Bool.false_eq_true,if_false]
  rfl
 by_cases h2:((spotsF ps).filterMap sTgt).Nodup
 rotate_left
 ·simp only[h1,h2,if_true,if_false]
  rfl
 simp only[h1,h2,if_true,decide_true,Bool.not_true,cond_false]
 have hsl:=seen_len h
 generalize seenF ps=xs at hsl ⊢
 have inner:∀ (self:(List L6Spot×Int)->Option spec_l6Fault.Out) (e0:Unit->Option spec_l6Fault.Out) (i:Nat) (hi:i < xs.length),spec_l6Fault.r1 k self e0 (ps,()) xs (i:Int) (0:Int)=if (xs.take i).any (fun y=>decide ((sRow xs[i]).1=(sRow y).1)&&decide ((sRow xs[i]).2.1=(sRow y).2.1)) then some ((8:Int),()) else self (xs,w64 ((i:Int)+1)):=fun self e0 i hi=>by
  have hti:(xs.take i).length=i:=by rw[List.length_take];omega
  have:=for_loopE (B:=fun self' v=>spec_l6Fault.B1 k self' (fun z=>spec_l6Fault.Q0 k self e0 (ps,()) xs (i:Int) z) (ps,()) xs (i:Int) v) (xs.take i) (fun (_:Unit) (j:Int)=>j) (fun _ _ y=>if decide ((sRow xs[i]).1=(sRow y).1)&&decide ((sRow xs[i]).2.1=(sRow y).2.1) then .inl (some ((8:Int),())) else .inr ()) (fun _=>self (xs,w64 ((i:Int)+1))) (fun _ _=>True) (by rw[maxLen_val];omega)
   (fun j hj s self' _=>by
    have hji:j < i:=by omega
    have hj2:j < xs.length:=by omega
    show spec_l6Fault.b1 _ _ _ _ _ _=_
    unfold spec_l6Fault.b1
    have hlt:(j:Int) < (i:Int):=by omega
    have hlt1:(i:Int) < (xs.length:Int):=by omega
    have hlt2:(j:Int) < (xs.length:Int):=by omega
    have hg:(xs.take i)[j]=xs[j]:=List.getElem_take
    rw[hg]
    simp only[hlt,hlt1,hlt2,decide_true,cond_true,Int.natCast_nonneg,and_self,if_true,Int.toNat_natCast,List.getElem?_eq_getElem hi,List.getElem?_eq_getElem hj2,Option.bind_some]
    show (bif decide ((sRow xs[i]).1=(sRow xs[j]).1) then bif decide ((sRow xs[i]).2.1=(sRow xs[j]).2.1) then _ else _ else _)=_
    cases decide ((sRow xs[i]).1=(sRow xs[j]).1) <;> cases decide ((sRow xs[i]).2.1=(sRow xs[j]).2.1) <;> rfl)
   (fun _ _ _ _ _ _=>trivial) (fun s self' _=>by
    rw[hti]
    show spec_l6Fault.b1 _ _ _ _ _ _=_
    unfold spec_l6Fault.b1
    simp only[Int.lt_irrefl,decide_false,cond_false]
    rfl) () trivial k (by omega)
  rw[forI_any] at this
  exact this
 have:=for_loopE (B:=fun self v=>spec_l6Fault.B0 k self (fun z=>spec_l6Fault.Q1 k (ps,()) z) (ps,()) v) xs (fun (_:Unit) (i:Int)=>(xs,i)) (fun i _ x=>if (xs.take i).any (fun y=>decide ((sRow x).1=(sRow y).1)&&decide ((sRow x).2.1=(sRow y).2.1)) then .inl (some ((8:Int),())) else .inr ()) (fun _=>some ((0:Int),())) (fun _ _=>True) (by rw[maxLen_val];omega)
  (fun i hi s self _=>by
   show spec_l6Fault.b0 _ _ _ _ _=_
   unfold spec_l6Fault.b0
   have hlt:(i:Int) < (xs.length:Int):=by omega
   simp only[hlt,decide_true,cond_true,inner self _ i hi]
   split <;> rfl)
  (fun _ _ _ _ _ _=>trivial) (fun s self _=>by
   show spec_l6Fault.b0 _ _ _ _ _=_
   unfold spec_l6Fault.b0
   simp only[Int.lt_irrefl,decide_false,cond_false]
   rfl) () trivial k (by omega)
 rw[forI_dup0 sKey (some ((8:Int),())) (fun _=>some ((0:Int),())) (fun x y=>decide ((sRow x).1=(sRow y).1)&&decide ((sRow x).2.1=(sRow y).2.1)) (fun x y=>?_) xs] at this
 ·refine Eq.trans this ?_
  have:xs.filterMap sKey=xs.map fun x=>rk (sRow x):=by
   unfold sKey
   rw[<-List.filterMap_eq_map]
   rfl
  rw[this]
  split <;> rfl
 ·unfold sKey rk
  simp only[Bool.and_eq_true,decide_eq_true_eq]
  constructor
  ·rintro ⟨h1,h2⟩;exact ⟨_,rfl,by rw[h1,h2]⟩
  ·rintro ⟨b,h1,h2⟩
   injection h1 with h1
   injection h2 with h2
   rw[<-h2] at h1
   injection h1 with h3 h4
   exact ⟨h3,h4⟩
end OT
set_option linter.unusedVariables false
set_option linter.unusedSimpArgs false
namespace OT
open Go Go.Sort
abbrev tK2:Ty:=.arr 2 i64
theorem key2_eq (a b c d:Int):Ty.eq tK2 [a,b] [c,d]=(decide (a=c)&&decide (b=d)):=by
 show ([(a,c),(b,d)]:List (Int×Int)).all (fun p=>Ty.eq i64 p.1 p.2)=_
 simp only[List.all_cons,List.all_nil,Bool.and_true]
 rfl
theorem key2_lay (a b:Int):((List.replicate 2 (0:Int)).set 0 a).set 1 b=[a,b]:=rfl
theorem mapPut_fresh {α:Type} (k:Ty) (m:List (k.den×α)) (x:k.den) (y:α) (h:∀ e ∈ m,k.eq x e.1=false):mapPut k m x y=m++[(x,y)]:=by
 have:m.findIdx? (fun e=>k.eq x e.1)=none:=by
  rw[List.findIdx?_eq_none_iff]
  exact h
 unfold mapPut
 rw[this]
def rowsOf1 (x:L6Spot):List Seen:=if sFlag x=0 then [(sRow x,x.1,x.2.1,false,x.1,x.2.1,())] else []
def stubOf1 (x:L6Spot):List Seen:=if sFlag x=1 then [(row0,x.1,x.2.1,true,sTp x,sTs x,())] else []
def movOf1 (x:L6Spot):List (List Int×Row):=if sFlag x=2 then [([x.1,x.2.1],sRow x)] else []
theorem cellF_flag (d:List UInt8):(cellF d).2=true->(cellF d).1.1=0/\((cellF d).1.2.1=0\/(cellF d).1.2.1=1\/(cellF d).1.2.1=2):=by
 unfold cellF
 split
 ·intro _;exact ⟨rfl,.inr (.inl rfl)⟩
 ·split
  ·intro h;cases h
  ·rename_i h
   intro _
   refine ⟨rfl,?_⟩
   show ((pb d 0:Int)=0\/(pb d 0:Int)=1\/(pb d 0:Int)=2)
   omega
def cellsOk (ps:Pgs):Prop:=rightP ps/\∀ p ∈ ps,∀ s,s < pn p->psz p s≠0->(cellF (cellP p s)).2=true
theorem cells_of {ps:Pgs} (hl:ps.length<=12) (h:firstF pgC ps=0):cellsOk ps:=
 ⟨⟨hl,fun p hp=>(pgC_ok (firstF_all h p hp)).1⟩,fun p hp=>(pgC_ok (firstF_all h p hp)).2⟩
theorem spot_flag {ps:Pgs} (h:cellsOk ps) {x:L6Spot} (hx:x ∈ spotsF ps):sFlag x=0\/sFlag x=1\/sFlag x=2:=by
 obtain ⟨P,p,s,h1,h2,h3,rfl⟩:=spot_mem.1 hx
 exact (cellF_flag _ (h.2 p (List.mem_of_getElem? h1) s h2 h3)).2
theorem gather_len (S:List L6Spot):(S.flatMap rowsOf1).length<=S.length/\(S.flatMap stubOf1).length<=S.length:=by
 induction S with
 | nil=>exact ⟨Nat.le_refl _,Nat.le_refl _⟩
 | cons x S ih=>
  have h1:(rowsOf1 x).length<=1:=by unfold rowsOf1;split <;> simp
  have h2:(stubOf1 x).length<=1:=by unfold stubOf1;split <;> simp
  simp only[List.flatMap_cons,List.length_append,List.length_cons]
  omega
theorem mov_get {ps:Pgs} (h:cellsOk ps) (a b:Int) (ha:0<=a) (hb:0<=b):mapGet tK2 ((spotsF ps).flatMap movOf1) [a,b]=if (cellG ps a b).2&&decide ((cellG ps a b).1.2.1=2) then some (cellG ps a b).1.2.2.2.2.1 else none:=by
 obtain ⟨a,rfl⟩:=Int.eq_ofNat_of_zero_le ha
 obtain ⟨b,rfl⟩:=Int.eq_ofNat_of_zero_le hb
 unfold mapGet
 have at_:∀ x ∈ spotsF ps,x.1=(a:Int)->x.2.1=(b:Int)->cellG ps (a:Int) (b:Int)=(x.2.2.1,true):=fun x hx e1 e2=>by
  obtain ⟨P,p,s,h1,h2,h3,rfl⟩:=spot_mem.1 hx
  have e1:(P:Int)=(a:Int):=e1
  have e2:(s:Int)=(b:Int):=e2
  have e1:P=a:=by omega
  have e2:s=b:=by omega
  subst e1;subst e2
  unfold cellG
  simp only[Int.toNat_natCast,h1]
  rw[if_pos ⟨h2,h3⟩]
  have:=h.2 p (List.mem_of_getElem? h1) s h2 h3
  rw[<-this]
 cases hf:((spotsF ps).flatMap movOf1).find? (fun e=>Ty.eq tK2 [(a:Int),(b:Int)] e.1) with
 | some e=>
  have hm:=List.mem_of_find?_eq_some hf
  have hp:=List.find?_some hf
  obtain ⟨x,hx,hxe⟩:=List.mem_flatMap.1 hm
  unfold movOf1 at hxe
  split at hxe
  ·rename_i h2
   rw[List.mem_singleton] at hxe
   subst hxe
   rw[key2_eq,Bool.and_eq_true,decide_eq_true_eq,decide_eq_true_eq] at hp
   have hg:=at_ x hx hp.1.symm hp.2.symm
   rw[hg]
   have:(x.2.2.1).2.1=2:=h2
   simp only[this,decide_true,Bool.and_self,if_true,Option.map_some]
   rfl
  ·cases hxe
 | none=>
  rw[if_neg]
  ·rfl
  ·intro hc
   rw[Bool.and_eq_true,decide_eq_true_eq] at hc
   obtain ⟨c1,c2⟩:=hc
   have:∃ x ∈ spotsF ps,x.1=(a:Int)/\x.2.1=(b:Int)/\sFlag x=2:=by
    unfold cellG at c1 c2
    simp only[Int.toNat_natCast] at c1 c2
    cases hpa:ps[a]? with
    | none=>rw[hpa] at c1;cases c1
    | some p=>
     rw[hpa] at c1 c2
     simp only at c1 c2
     by_cases hc:b < pn p/\psz p b≠0
     ·rw[if_pos hc] at c2
      exact ⟨_,spot_mem.2 ⟨a,p,b,hpa,hc.1,hc.2,rfl⟩,rfl,rfl,c2⟩
     ·rw[if_neg hc] at c1;cases c1
   obtain ⟨x,hx,e1,e2,e3⟩:=this
   have hm:([x.1,x.2.1],sRow x) ∈ (spotsF ps).flatMap movOf1:=List.mem_flatMap.2 ⟨x,hx,by unfold movOf1;rw[if_pos e3];exact List.mem_singleton.2 rfl⟩
   have:=List.find?_eq_none.1 hf _ hm
   rw[key2_eq,e1,e2] at this
   simp at this
def convS (x:L6Spot):Seen:=(sRow x,x.1,x.2.1,decide (sFlag x=1),(if sFlag x=1 then sTp x else x.1),(if sFlag x=1 then sTs x else x.2.1),())
def fillS (ps:Pgs) (y:Seen):Seen:=(orZ (mapGet tK2 ((spotsF ps).flatMap movOf1) [y.2.2.2.2.1,y.2.2.2.2.2.1]) row0,y.2)
def listV (ps:Pgs):List Seen:=(spotsF ps).flatMap rowsOf1++((spotsF ps).flatMap stubOf1).map (fillS ps)
theorem listV_perm {ps:Pgs} (h:cellsOk ps) (hs:(spotsF ps).all (stubOk ps)=true):(listV ps).Perm ((seenF ps).map convS):=by
 unfold listV seenF
 have hall:=List.all_eq_true.1 hs
 have hfl:∀ x ∈ spotsF ps,sFlag x=0\/sFlag x=1\/sFlag x=2:=fun x hx=>spot_flag h hx
 have hnn:∀ x ∈ spotsF ps,0<=sTp x/\0<=sTs x:=fun x hx=>spot_nonneg hx
 have key:∀ S:List L6Spot,(∀ x ∈ S,x ∈ spotsF ps)->(S.flatMap rowsOf1++(S.flatMap stubOf1).map (fillS ps)).Perm ((S.flatMap (seenX ps)).map convS):=by
  intro S
  induction S with
  | nil=>intro _;exact List.Perm.refl _
  | cons x S ih=>
   intro hS
   have ih:=ih fun y hy=>hS y (List.mem_cons_of_mem _ hy)
   have hx:=hS x List.mem_cons_self
   simp only[List.flatMap_cons,List.map_append]
   rcases hfl x hx with h0 | h1 | h2
   ·have e1:rowsOf1 x=[convS (seen1 ps x)]:=by
     unfold rowsOf1 convS seen1
     have n1:¬ sFlag x=1:=by omega
     rw[if_pos h0,if_neg n1,if_neg n1,if_neg n1,decide_eq_false n1]
    have e2:stubOf1 x=[]:=by unfold stubOf1;rw[if_neg (by omega)]
    have e3:seenX ps x=[seen1 ps x]:=by unfold seenX;rw[if_neg (by omega)]
    rw[e1,e2,e3]
    simp only[List.map_nil,List.nil_append,List.map_cons,List.cons_append]
    exact List.Perm.cons _ ih
   ·have e1:rowsOf1 x=[]:=by unfold rowsOf1;rw[if_neg (by omega)]
    have e3:seenX ps x=[seen1 ps x]:=by unfold seenX;rw[if_neg (by omega)]
    have e2:(stubOf1 x).map (fillS ps)=[convS (seen1 ps x)]:=by
     unfold stubOf1
     rw[if_pos h1]
     simp only[List.map_cons,List.map_nil]
     obtain ⟨g1,g2⟩:=hnn x hx
     have hst:=hall x hx
     unfold stubOk at hst
     rw[decide_eq_true h1] at hst
     simp only[Bool.not_true,Bool.false_or] at hst
     have hg:=mov_get h (sTp x) (sTs x) g1 g2
     rw[if_pos hst] at hg
     unfold fillS
     simp only[hg,orZ]
     unfold seen1
     rw[if_pos h1]
     have hfl1:sFlag (withRow x (cellG ps (sTp x) (sTs x)).1.2.2.2.2.1)=1:=h1
     unfold convS
     rw[if_pos hfl1,if_pos hfl1,decide_eq_true hfl1]
     rfl
    rw[e1,e2,e3]
    simp only[List.nil_append,List.map_cons,List.map_nil,List.cons_append]
    exact (List.perm_middle).trans (List.Perm.cons _ ih)
   ·have e1:rowsOf1 x=[]:=by unfold rowsOf1;rw[if_neg (by omega)]
    have e2:stubOf1 x=[]:=by unfold stubOf1;rw[if_neg (by omega)]
    have e3:seenX ps x=[]:=by unfold seenX;rw[if_pos h2]
    rw[e1,e2,e3]
    simpa using ih
 exact key (spotsF ps) fun x hx=>hx
def ltS (x y:Seen):Bool:=befB (rk x.1) (rk y.1)
def cfS (x y:Seen):Int:=if befB (x.1.1,x.1.2.1) (y.1.1,y.1.2.1) then -1 else if befB (y.1.1,y.1.2.1) (x.1.1,x.1.2.1) then 1 else 0
theorem cfS_lt:Go.Proofs.ltOf cfS=ltS:=by
 funext x y
 exact ord_lt x.1 y.1
theorem look1_eq (x y:Seen):impl_look_1.sem (x,y,())=some (cfS x y,()):=by
 refine lift_eq (k:=0) fun k hk=>(impl_look_1.raw_eq k _).trans ?_
 show impl_look_1.p _=_
 unfold impl_look_1.p
 rw[order_eq]
 rfl
theorem swoS:SWO ltS where
 irrefl x:=befB_irr _
 trans x y z h1 h2:=befB_trans h1 h2
 ntrans x y z h1 h2:=by
  cases h3:ltS x z with
  | false=>rfl
  | true=>
   unfold ltS at h1 h2 h3
   cases h4:befB (rk y.1) (rk x.1) with
   | true=>
    have:=befB_trans h4 h3
    rw[this] at h2;cases h2
   | false=>
    have:=befB_tri h1 h4
    rw[this] at h3
    rw[h3] at h2;cases h2
def putS (xs:List Seen) (x:Seen):List Seen:=xs.take (pos (xs.map (·.1)) (rk x.1))++[x]++xs.drop (pos (xs.map (·.1)) (rk x.1))
def sortS (l:List Seen):List Seen:=l.foldl putS []
theorem putS_map (xs:List Seen) (x:Seen):(putS xs x).map (·.1)=put1 (xs.map (·.1)) x.1:=by
 unfold putS put1
 simp only[List.map_append,List.map_take,List.map_drop,List.map_cons,List.map_nil]
theorem putS_perm (xs:List Seen) (x:Seen):(putS xs x).Perm (x::xs):=by
 unfold putS
 rw[List.append_assoc]
 have:=List.perm_middle (a:=x) (l₁:=xs.take (pos (xs.map (·.1)) (rk x.1))) (l₂:=xs.drop (pos (xs.map (·.1)) (rk x.1)))
 rw[List.take_append_drop] at this
 exact this
theorem sortS_map (l:List Seen):(sortS l).map (·.1)=sortR (l.map (·.1)):=by
 have main:∀ (l acc:List Seen),(l.foldl putS acc).map (·.1)=(l.map (·.1)).foldl put1 (acc.map (·.1)):=by
  intro l
  induction l with
  | nil=>intro acc;rfl
  | cons x l ih=>intro acc;simp only[List.foldl_cons,List.map_cons,ih,putS_map]
 exact main l []
theorem sortS_perm (l:List Seen):(sortS l).Perm l:=by
 have main:∀ (l acc:List Seen),(l.foldl putS acc).Perm (l++acc):=by
  intro l
  induction l with
  | nil=>intro acc;exact List.Perm.refl _
  | cons x l ih=>
   intro acc
   exact (ih (putS acc x)).trans (((List.Perm.refl l).append (putS_perm acc x)).trans List.perm_middle)
 have:=main l []
 rw[List.append_nil] at this
 exact this
def upS (xs:List Seen):Prop:=xs.Pairwise fun x y=>ltS x y=true
theorem upS_iff {xs:List Seen}:upS xs↔up (xs.map (·.1)):=by
 unfold upS up
 rw[List.pairwise_map]
 rfl
theorem sortS_unique {l r:List Seen} (hp:r.Perm l) (hr:upS r) (hn:(l.map fun x=>rk x.1).Nodup):r=sortS l:=by
 refine sorted_unique (lt:=fun x y=>ltS x y=true) (fun a b h=>befB_not h) r (sortS l) (hp.trans (sortS_perm l).symm) hr (upS_iff.2 ?_)
 rw[sortS_map]
 refine sortR_up ?_
 rw[List.map_map]
 exact hn
theorem upS_nodup {r:List Seen} (h:upS r):(r.map fun x=>rk x.1).Nodup:=by
 have:=up_nodup (upS_iff.1 h)
 rw[List.map_map] at this
 exact this
def adjB:List Seen->Bool
 | x::y::l=>ltS x y&&adjB (y::l)
 | _=>true
theorem adj_up:∀ (l:List Seen),adjB l=true->upS l
 | [],_=>List.Pairwise.nil
 | [x],_=>List.pairwise_singleton _ _
 | x::y::l,h=>by
  simp only[adjB,Bool.and_eq_true] at h
  have ih:=adj_up (y::l) h.2
  refine List.pairwise_cons.2 ⟨fun z hz=>?_,ih⟩
  rcases List.mem_cons.1 hz with rfl | hz
  ·exact h.1
  ·exact befB_trans h.1 ((List.pairwise_cons.1 ih).1 z hz)
theorem up_adjB:∀ (l:List Seen),upS l->adjB l=true
 | [],_=>rfl
 | [x],_=>rfl
 | x::y::l,h=>by
  obtain ⟨h1,h2⟩:=List.pairwise_cons.1 h
  simp only[adjB,Bool.and_eq_true]
  exact ⟨h1 y List.mem_cons_self,up_adjB (y::l) h2⟩
theorem sorted_up {r:List Seen} (h:r.Pairwise fun x y=>ltS y x=false) (hn:(r.map fun x=>rk x.1).Nodup):upS r:=by
 unfold upS
 have h2:r.Pairwise fun x y=>rk x.1≠rk y.1:=by
  unfold List.Nodup at hn
  rw[List.pairwise_map] at hn
  exact hn
 refine (h.and h2).imp fun {x y} ⟨g1,g2⟩=>?_
 cases h3:ltS x y with
 | true=>rfl
 | false=>exact absurd (befB_tri h3 g1) g2
end OT
set_option linter.unusedVariables false
set_option linter.unusedSimpArgs false
namespace OT
open Go Go.Sort
theorem sort_sem (z:List Seen) (hl:z.length<=1000):∃ r:List Seen,(∀ f:Nat×Int,slices_SortFunc_seen.sem (z,f,())=some (r,()))/\r.Perm z/\r.Pairwise fun x y=>ltS y x=false:=by
 have hs:SWO (Go.Proofs.ltOf cfS):=by rw[cfS_lt];exact swoS
 have h1:=sortF_eq (e:=tSeen) (cs:=impl_look_1.sem) (cf:=cfS) (fun x y=>look1_eq x y) hs z (cap_ok (Nat.le_trans hl (by omega)))
 have h2:=pdq_spec (α:=tSeen.den) (lt:=Go.Proofs.ltOf cfS) hs z
 refine ⟨_,fun f=>?_,h2.1,?_⟩
 ·show (sortF tSeen impl_look_1.sem z).map (fun r=>(r,()))=_
  rw[h1]
  rfl
 ·exact h2.2.imp fun {x y} (h:Go.Proofs.ltOf (α:=Seen) cfS y x=false)=>by rw[cfS_lt] at h;exact h
theorem forI_adj {O:Type} (r:List Seen) (bad e:O):∀ (l pre:List Seen) (x:Seen),r=pre++x::l->forI (fun i (_:Unit) y=>if (match r[i]? with | some z=>ltS z y | none=>true) then .inr () else .inl bad) (fun _=>e) pre.length l ()=if adjB (x::l) then e else bad
 | [],pre,x,_=>by simp[forI,adjB]
 | y::l,pre,x,h=>by
  have hx:r[pre.length]?=some x:=by rw[h,List.getElem?_append_right (Nat.le_refl _)];simp
  simp only[forI,hx,adjB]
  by_cases hc:ltS x y=true
  rotate_left
  ·have hc':ltS x y=false:=by simpa using hc
   simp only[hc',Bool.false_eq_true,if_false,Bool.false_and]
  ·simp only[hc,if_true,Bool.true_and]
   have:=forI_adj r bad e l (pre++[x]) y (by rw[h];simp)
   rw[List.length_append] at this
   exact this
theorem adj_walk (ps:Pgs) (k:Nat) (hk:300<=k) (r:List Seen) (hl:r.length<=192):rawIter (fun self v=>impl_look.B4 k self (fun z=>impl_look.Q4 k (ps,()) r z) (ps,()) r v) k 1=if adjB r then some (r,(0:Int),()) else some (([]:List Seen),(8:Int),()):=by
 have:=for_loopE (B:=fun self v=>impl_look.B4 k self (fun z=>impl_look.Q4 k (ps,()) r z) (ps,()) r v) (r.drop 1) (fun (_:Unit) (i:Int)=>i+1) (fun i _ y=>if (match r[i]? with | some z=>ltS z y | none=>true) then .inr () else .inl (some (([]:List Seen),(8:Int),()))) (fun _=>some (r,(0:Int),())) (fun _ _=>True) (by rw[maxLen_val,List.length_drop];omega)
  (fun i hi s self _=>by
   rw[List.length_drop] at hi
   show impl_look.b4 _ _ _ _ _=_
   unfold impl_look.b4
   have hlt:(i:Int)+1 < (r.length:Int):=by omega
   have hlt2:(i:Int) < (r.length:Int):=by omega
   have hnn:(0:Int)<=(i:Int)+1:=by omega
   have hw1:w64 ((i:Int)+1 - 1)=(i:Int):=by rw[w64_in (by omega)];omega
   have hw2:w64 ((i:Int)+1+1)=w64 ((i:Int)+1)+1:=by rw[w64_in (by omega),w64_in (by omega)]
   have htn:((i:Int)+1).toNat=i+1:=by omega
   have hg:(r.drop 1)[i]'(by rw[List.length_drop];omega)=r[i+1]'(by omega):=by rw[List.getElem_drop];congr 1;omega
   rw[hg]
   simp only[hlt,hlt2,hnn,hw1,hw2,htn,decide_true,cond_true,Int.natCast_nonneg,and_self,if_true,Int.toNat_natCast,List.getElem?_eq_getElem (show i < r.length by omega),List.getElem?_eq_getElem (show i+1 < r.length by omega),Option.bind_some,isBefore_eq]
   show (bif !ltS r[i] (r[i+1]'(by omega)) then _ else _)=_
   cases ltS r[i] (r[i+1]'(by omega)) <;> rfl)
  (fun _ _ _ _ _ _=>trivial) (fun s self _=>by
   rw[List.length_drop]
   show impl_look.b4 _ _ _ _ _=_
   unfold impl_look.b4
   have hlt:¬ (((r.length - 1:Nat):Int)+1 < (r.length:Int)):=by omega
   simp only[hlt,decide_false,cond_false]
   rfl) () trivial k (by rw[List.length_drop];omega)
 refine Eq.trans this ?_
 cases r with
 | nil=>rfl
 | cons x l=>
  exact forI_adj (x::l) _ _ l [] x rfl
def viewL (ps:Pgs):List Seen:=if viewC ps=0 then sortS ((seenF ps).map convS) else []
def lookL (ps:Pgs):List Seen:=if lookC ps=0 then sortS ((seenF ps).map convS) else []
def keyS2 (y:Seen):Option (Int×Int):=some (y.2.2.2.2.1,y.2.2.2.2.2.1)
def toldE (y:Seen):List Int×Bool:=([y.2.2.2.2.1,y.2.2.2.2.2.1],true)
theorem told_get (T:List Seen) (a b:Int):orZ (mapGet tK2 (T.map toldE) [a,b]) false=T.any fun y=>decide (a=y.2.2.2.2.1)&&decide (b=y.2.2.2.2.2.1):=by
 induction T with
 | nil=>rfl
 | cons y T ih=>
  have hk:Ty.eq tK2 [a,b] (toldE y).1=(decide (a=y.2.2.2.2.1)&&decide (b=y.2.2.2.2.2.1)):=key2_eq _ _ _ _
  unfold mapGet at ih ⊢
  rw[List.map_cons,List.find?_cons,List.any_cons,hk]
  cases (decide (a=y.2.2.2.2.1)&&decide (b=y.2.2.2.2.2.1)) with
  | true=>rfl
  | false=>simpa using ih
theorem tgt_keys (S:List L6Spot):(S.flatMap stubOf1).filterMap keyS2=S.filterMap sTgt:=by
 induction S with
 | nil=>rfl
 | cons x S ih=>
  rw[List.flatMap_cons,List.filterMap_append,ih]
  unfold stubOf1
  by_cases h:sFlag x=1
  ·rw[if_pos h]
   have:sTgt x=some (sTp x,sTs x):=by unfold sTgt;rw[if_pos h]
   simp[List.filterMap_cons,this,keyS2]
  ·rw[if_neg h]
   have:sTgt x=none:=by unfold sTgt;rw[if_neg h]
   simp[List.filterMap_cons,this]
theorem implLook_eq (ps:Pgs) (h:cellsOk ps):impl_look.sem (ps,())=some (lookL ps,lookC ps,()):=by
 obtain ⟨hl,hp⟩:=h.1
 have hsl:=spots_len h.1
 refine lift_eq (k:=300) fun k hk=>(impl_look.raw_eq k _).trans ?_
 have inner:∀ (self:(List Seen×List Seen×List (List Int×Row)×Pgs×Int×Int)->Option impl_look.Out) (e0:(List Seen×List Seen×List (List Int×Row))->Option impl_look.Out) (i:Nat) (hi:i < ps.length) (S:List L6Spot),S.length<=16*i->(∀ x ∈ S,x.1 < (i:Int)) ->
   impl_look.r1 k self e0 (ps,()) (i:Int) ps[i] ps (ps.length:Int) (pn ps[i]:Int) (S.flatMap rowsOf1,S.flatMap stubOf1,S.flatMap movOf1,(0:Int))=self ((S++spotsPg i ps[i]).flatMap rowsOf1,(S++spotsPg i ps[i]).flatMap stubOf1,(S++spotsPg i ps[i]).flatMap movOf1,ps,(ps.length:Int),w64 ((i:Int)+1)):=fun self e0 i hi S0 hS0 hfr=>by
  have hok:=hp _ (List.getElem_mem hi)
  have hn:=hok.n
  have hlen:=hok.len
  have hcell:=h.2 _ (List.getElem_mem hi)
  have:=range_loop (B:=fun self' v=>impl_look.B1 k self' (fun z=>impl_look.Q0 k self e0 (ps,()) (i:Int) ps[i] ps (ps.length:Int) (pn ps[i]:Int) z) (ps,()) (i:Int) ps[i] ps (ps.length:Int) (pn ps[i]:Int) v) (pn ps[i]) (fun (S:List L6Spot) (j:Int)=>(S.flatMap rowsOf1,S.flatMap stubOf1,S.flatMap movOf1,j)) (fun j S=>.inr (S++spot1 i ps[i] j)) (fun S=>self (S.flatMap rowsOf1,S.flatMap stubOf1,S.flatMap movOf1,ps,(ps.length:Int),w64 ((i:Int)+1))) (fun j S=>S.length<=16*i+j/\∀ x ∈ S,x.1 < (i:Int)\/(x.1=(i:Int)/\x.2.1 < (j:Int))) (by omega)
   (fun j hj S self' ⟨hI1,hI2⟩=>by
    show impl_look.b1 _ _ _ _ _ _ _ _ _=_
    unfold impl_look.b1 spot1
    have hlt:(j:Int) < (pn ps[i]:Int):=by omega
    simp only[hlt,decide_true,cond_true,implHas_eq hok,hj,Bool.true_and,Option.bind_some]
    by_cases hz:psz ps[i] j=0
    ·simp only[hz,decide_true,Bool.not_true,Bool.not_false,cond_true,if_true,List.append_nil]
    ·have hc2:=hcell j hj hz
     obtain ⟨f1,f2⟩:=cellF_flag _ hc2
     obtain ⟨l1,l2⟩:=gather_len S
     have hcap:∀ (T:List Seen) (y:Seen),T.length<=S.length->T.length+[y].length<=CAP:=fun T y hT=>cap_ok (by simp only[List.length_cons,List.length_nil];omega)
     simp only[hz,decide_false,Bool.not_false,Bool.not_true,cond_false,implCellAt_eq hok hj,implUnpack_eq _ (Nat.le_trans (cellP_small hok hj) (by omega)),hc2,if_true,if_false,Option.bind_some,f1,decide_true,hcap _ _ l1,hcap _ _ l2,key2_lay]
     obtain ⟨x,hx⟩:∃ x:L6Spot,x=((i:Int),(j:Int),(cellF (cellP ps[i] j)).1,()):=⟨_,rfl⟩
     have hxf:sFlag x=(cellF (cellP ps[i] j)).1.2.1:=by rw[hx];rfl
     rw[<-hx]
     simp only[List.flatMap_append,List.flatMap_cons,List.flatMap_nil,List.append_nil]
     rcases f2 with g | g | g
     ·have e1:rowsOf1 x=[((cellF (cellP ps[i] j)).1.2.2.2.2.1,(i:Int),(j:Int),false,(i:Int),(j:Int),())]:=by unfold rowsOf1;rw[if_pos (hxf.trans g),hx];rfl
      have e2:stubOf1 x=[]:=by unfold stubOf1;rw[if_neg (by omega)]
      have e3:movOf1 x=[]:=by unfold movOf1;rw[if_neg (by omega)]
      rw[e1,e2,e3]
      simp only[g,decide_true,cond_true,List.append_nil,List.length_cons,List.length_nil,Nat.zero_lt_succ,List.length_replicate,List.length_set,if_true]
     ·have e1:rowsOf1 x=[]:=by unfold rowsOf1;rw[if_neg (by omega)]
      have e2:stubOf1 x=[(row0,(i:Int),(j:Int),true,(cellF (cellP ps[i] j)).1.2.2.1,(cellF (cellP ps[i] j)).1.2.2.2.1,())]:=by unfold stubOf1;rw[if_pos (hxf.trans g),hx];rfl
      have e3:movOf1 x=[]:=by unfold movOf1;rw[if_neg (by omega)]
      rw[e1,e2,e3]
      have n1:¬ ((1:Int)=0):=by decide
      have n2:¬ ((1:Int)=2):=by decide
      simp only[g,n1,n2,decide_false,cond_false,List.append_nil,List.length_cons,List.length_nil,Nat.zero_lt_succ,List.length_replicate,List.length_set,if_true]
     ·have e1:rowsOf1 x=[]:=by unfold rowsOf1;rw[if_neg (by omega)]
      have e2:stubOf1 x=[]:=by unfold stubOf1;rw[if_neg (by omega)]
      have e3:movOf1 x=[([(i:Int),(j:Int)],(cellF (cellP ps[i] j)).1.2.2.2.2.1)]:=by unfold movOf1;rw[if_pos (hxf.trans g),hx];rfl
      rw[e1,e2,e3]
      have n1:¬ ((2:Int)=0):=by decide
      have hput:mapPut tK2 (S.flatMap movOf1) [(i:Int),(j:Int)] (cellF (cellP ps[i] j)).1.2.2.2.2.1=S.flatMap movOf1++[([(i:Int),(j:Int)],(cellF (cellP ps[i] j)).1.2.2.2.2.1)]:=mapPut_fresh tK2 _ _ _ fun e he=>by
       obtain ⟨y,hy,hye⟩:=List.mem_flatMap.1 he
       unfold movOf1 at hye
       split at hye
       ·rw[List.mem_singleton] at hye
        subst hye
        rw[key2_eq]
        rcases hI2 y hy with c | ⟨c,d⟩
        ·rw[decide_eq_false (show ¬ (i:Int)=y.1 by omega)];rfl
        ·rw[decide_eq_false (show ¬ (j:Int)=y.2.1 by omega),Bool.and_false]
       ·cases hye
      simp only[g,n1,decide_false,decide_true,cond_false,cond_true,hput,List.append_nil,List.length_cons,List.length_nil,Nat.zero_lt_succ,List.length_replicate,List.length_set,if_true]
      rfl)
   (fun j hj S S' ⟨hI1,hI2⟩ hf=>by
    injection hf with hf
    subst hf
    have:(spot1 i ps[i] j).length<=1:=by unfold spot1;split <;> simp
    refine ⟨by rw[List.length_append];omega,fun x hx=>?_⟩
    rcases List.mem_append.1 hx with hx | hx
    ·rcases hI2 x hx with c | ⟨c,d⟩
     ·exact .inl c
     ·exact .inr ⟨c,by omega⟩
    ·unfold spot1 at hx
     split at hx
     ·cases hx
     ·rw[List.mem_singleton] at hx
      subst hx
      exact .inr ⟨rfl,by show (j:Int) < ((j+1:Nat):Int);omega⟩) (fun S self' hI=>by
    show impl_look.b1 _ _ _ _ _ _ _ _ _=_
    unfold impl_look.b1
    simp only[Int.lt_irrefl,decide_false,cond_false]
    rfl) S0 ⟨by omega,fun x hx=>.inl (hfr x hx)⟩ k (by omega)
  rw[forI_app (spot1 i ps[i])] at this
  exact this
 have outer:impl_look.r0 k (ps,()) (([]:List Seen),([]:List Seen),([]:List (List Int×Row)),ps,(ps.length:Int),(0:Int))=impl_look.Q1 k (ps,()) ((spotsF ps).flatMap rowsOf1,(spotsF ps).flatMap stubOf1,(spotsF ps).flatMap movOf1):=by
  have:=for_loopE (B:=fun self v=>impl_look.B0 k self (fun z=>impl_look.Q1 k (ps,()) z) (ps,()) v) ps (fun (S:List L6Spot) (i:Int)=>(S.flatMap rowsOf1,S.flatMap stubOf1,S.flatMap movOf1,ps,(ps.length:Int),i)) (fun i S p=>.inr (S++spotsPg i p)) (fun S=>impl_look.Q1 k (ps,()) (S.flatMap rowsOf1,S.flatMap stubOf1,S.flatMap movOf1)) (fun i S=>S.length<=16*i/\∀ x ∈ S,x.1 < (i:Int)) (by rw[maxLen_val];omega)
   (fun i hi S self ⟨hI1,hI2⟩=>by
    show impl_look.b0 _ _ _ _ _=_
    unfold impl_look.b0
    have hlt:(i:Int) < (ps.length:Int):=by omega
    have hlen:=(hp _ (List.getElem_mem hi)).len
    simp only[hlt,decide_true,cond_true,Int.natCast_nonneg,if_true,Int.toNat_natCast,List.getElem?_eq_getElem hi,Option.bind_some,pSlots_eq hlen,inner self _ i hi S hI1 hI2])
   (fun i hi S S' ⟨hI1,hI2⟩ hf=>by
    injection hf with hf
    subst hf
    have:=spotsPg_len (hp _ (List.getElem_mem hi)) i
    refine ⟨by rw[List.length_append];omega,fun x hx=>?_⟩
    rcases List.mem_append.1 hx with hx | hx
    ·have:=hI2 x hx;omega
    ·obtain ⟨s,_,hs⟩:=List.mem_flatMap.1 hx
     unfold spot1 at hs
     split at hs
     ·cases hs
     ·rw[List.mem_singleton] at hs
      subst hs
      show (i:Int) < ((i+1:Nat):Int)
      omega) (fun S self hI=>by
    show impl_look.b0 _ _ _ _ _=_
    unfold impl_look.b0
    simp only[Int.lt_irrefl,decide_false,cond_false]) [] ⟨by simp,fun x hx=>by cases hx⟩ k (by omega)
  rw[forI_appI] at this
  exact this
 show impl_look.r0 k (ps,()) (([]:List Seen),([]:List Seen),([]:List (List Int×Row)),ps,(ps.length:Int),(0:Int))=_
 rw[outer]
 show impl_look.q1 _ _ _=_
 unfold impl_look.q1
 obtain ⟨gl1,gl2⟩:=gather_len (spotsF ps)
 have hT:∀ y ∈ (spotsF ps).flatMap stubOf1,∃ x ∈ spotsF ps,sFlag x=1/\y=(row0,x.1,x.2.1,true,sTp x,sTs x,()):=fun y hy=>by
  obtain ⟨x,hx,hxy⟩:=List.mem_flatMap.1 hy
  unfold stubOf1 at hxy
  split at hxy
  ·rename_i hf
   exact ⟨x,hx,hf,List.mem_singleton.1 hxy⟩
  ·cases hxy
 have l2w:impl_look.r2 k (ps,()) ((spotsF ps).flatMap rowsOf1) ((spotsF ps).flatMap stubOf1) ((spotsF ps).flatMap movOf1) (((spotsF ps).flatMap stubOf1).length:Int) (0:Int)=if (spotsF ps).all (stubOk ps) then impl_look.Q2 k (ps,()) ((spotsF ps).flatMap rowsOf1) ((spotsF ps).flatMap stubOf1) ((spotsF ps).flatMap movOf1) (((spotsF ps).flatMap stubOf1).length:Int) () else some (([]:List Seen),(4:Int),()):=by
  obtain ⟨T,hTd⟩:∃ T,T=(spotsF ps).flatMap stubOf1:=⟨_,rfl⟩
  obtain ⟨M,hM⟩:∃ M,M=(spotsF ps).flatMap movOf1:=⟨_,rfl⟩
  rw[<-hTd,<- hM]
  have hTl:T.length<=192:=by rw[hTd];omega
  have:=for_loopE (B:=fun self v=>impl_look.B2 k self (fun z=>impl_look.Q2 k (ps,()) ((spotsF ps).flatMap rowsOf1) T M (T.length:Int) z) (ps,()) ((spotsF ps).flatMap rowsOf1) T M (T.length:Int) v) T (fun (_:Unit) (i:Int)=>i) (fun i _ y=>if (mapGet tK2 M [y.2.2.2.2.1,y.2.2.2.2.2.1]).isSome then .inr () else .inl (some (([]:List Seen),(4:Int),()))) (fun _=>impl_look.Q2 k (ps,()) ((spotsF ps).flatMap rowsOf1) T M (T.length:Int) ()) (fun _ _=>True) (by rw[maxLen_val];omega)
   (fun i hi s self _=>by
    show impl_look.b2 _ _ _ _ _ _ _ _=_
    unfold impl_look.b2
    have hlt:(i:Int) < (T.length:Int):=by omega
    simp only[hlt,decide_true,cond_true,Int.natCast_nonneg,and_self,if_true,Int.toNat_natCast,List.getElem?_eq_getElem hi,Option.bind_some,key2_lay,List.length_replicate,List.length_set,show (0:Nat) < 2 by omega,show (1:Nat) < 2 by omega]
    cases (mapGet tK2 M [(T[i]).2.2.2.2.1,(T[i]).2.2.2.2.2.1]).isSome <;> rfl)
   (fun _ _ _ _ _ _=>trivial) (fun s self _=>by
    show impl_look.b2 _ _ _ _ _ _ _ _=_
    unfold impl_look.b2
    simp only[Int.lt_irrefl,decide_false,cond_false]) () trivial k (by omega)
  rw[forI_check (fun y:Seen=>(mapGet tK2 M [y.2.2.2.2.1,y.2.2.2.2.2.1]).isSome) (some (([]:List Seen),(4:Int),())) (fun _=>impl_look.Q2 k (ps,()) ((spotsF ps).flatMap rowsOf1) T M (T.length:Int) ())] at this
  refine Eq.trans this ?_
  have hb:T.all (fun y:Seen=>(mapGet tK2 M [y.2.2.2.2.1,y.2.2.2.2.2.1]).isSome)=(spotsF ps).all (stubOk ps):=by
   have hone:∀ x ∈ spotsF ps,sFlag x=1->(mapGet tK2 M [sTp x,sTs x]).isSome=stubOk ps x:=fun x hx hf=>by
    obtain ⟨g1,g2⟩:=spot_nonneg hx
    rw[hM,mov_get h _ _ g1 g2]
    unfold stubOk
    rw[decide_eq_true hf]
    cases ((cellG ps (sTp x) (sTs x)).2&&decide ((cellG ps (sTp x) (sTs x)).1.2.1=2)) <;> rfl
   rw[Bool.eq_iff_iff,List.all_eq_true,List.all_eq_true]
   constructor
   ·intro hall x hx
    by_cases hf:sFlag x=1
    ·rw[<-hone x hx hf]
     have hy:(row0,x.1,x.2.1,true,sTp x,sTs x,()) ∈ T:=by
      rw[hTd]
      exact List.mem_flatMap.2 ⟨x,hx,by unfold stubOf1;rw[if_pos hf];exact List.mem_singleton.2 rfl⟩
     exact hall _ hy
    ·unfold stubOk;rw[decide_eq_false hf];rfl
   ·intro hall y hy
    obtain ⟨x,hx,hf,e⟩:=hT y (hTd ▸ hy)
    subst e
    exact (hone x hx hf).trans (hall x hx)
  rw[hb]
 rw[l2w]
 unfold lookL lookC
 by_cases hst:(spotsF ps).all (stubOk ps)=true
 rotate_left
 ·simp only[hst,Bool.false_eq_true,if_false]
  rfl
 simp only[hst,if_true]
 show impl_look.q2 _ _ _ _ _ _ _=_
 unfold impl_look.q2
 have l3w:impl_look.r3 k (ps,()) ((spotsF ps).flatMap rowsOf1) ((spotsF ps).flatMap stubOf1) ((spotsF ps).flatMap movOf1) (((spotsF ps).flatMap stubOf1).length:Int) ((spotsF ps).flatMap stubOf1) ((spotsF ps).flatMap movOf1) (((spotsF ps).flatMap stubOf1).length:Int) ((spotsF ps).flatMap rowsOf1,([]:List (List Int×Bool)),(0:Int))=if ((spotsF ps).filterMap sTgt).Nodup then impl_look.Q3 k (ps,()) ((spotsF ps).flatMap stubOf1) ((spotsF ps).flatMap movOf1) (((spotsF ps).flatMap stubOf1).length:Int) (listV ps) else some (([]:List Seen),(6:Int),()):=by
  have hkeys:=tgt_keys (spotsF ps)
  unfold listV
  obtain ⟨T,hTd⟩:∃ T,T=(spotsF ps).flatMap stubOf1:=⟨_,rfl⟩
  obtain ⟨M,hM⟩:∃ M,M=(spotsF ps).flatMap movOf1:=⟨_,rfl⟩
  obtain ⟨L,hL⟩:∃ L,L=(spotsF ps).flatMap rowsOf1:=⟨_,rfl⟩
  have hfill:∀ y:Seen,fillS ps y=(orZ (mapGet tK2 M [y.2.2.2.2.1,y.2.2.2.2.2.1]) row0,y.2):=fun y=>by unfold fillS;rw[hM]
  rw[<-hTd,<- hM,<- hL]
  rw[<-hTd] at hkeys
  have hTl:T.length<=192:=by rw[hTd];omega
  have hLl:L.length<=192:=by rw[hL];omega
  have:=for_loopE (B:=fun self v=>impl_look.B3 k self (fun z=>impl_look.Q3 k (ps,()) T M (T.length:Int) z) (ps,()) T M (T.length:Int) v) T (fun (_:Unit) (i:Int)=>(L++(T.take i.toNat).map (fillS ps),(T.take i.toNat).map toldE,i)) (fun i _ y=>if (T.take i).any (fun z=>decide (y.2.2.2.2.1=z.2.2.2.2.1)&&decide (y.2.2.2.2.2.1=z.2.2.2.2.2.1)) then .inl (some (([]:List Seen),(6:Int),())) else .inr ()) (fun _=>impl_look.Q3 k (ps,()) T M (T.length:Int) (L++T.map (fillS ps))) (fun _ _=>True) (by rw[maxLen_val];omega)
   (fun i hi s self _=>by
    show impl_look.b3 _ _ _ _ _ _ _=_
    unfold impl_look.b3
    have hlt:(i:Int) < (T.length:Int):=by omega
    have hcap:∀ y:Seen,(L++(T.take i).map (fillS ps)).length+[y].length<=CAP:=fun y=>cap_ok (by simp only[List.length_append,List.length_map,List.length_take,List.length_cons,List.length_nil];omega)
    have hw:(w64 ((i:Int)+1)).toNat=i+1:=by rw[w64_in (by omega)];omega
    have htk:T.take (i+1)=T.take i++[T[i]]:=List.take_succ_eq_append_getElem hi
    simp only[hlt,decide_true,cond_true,Int.natCast_nonneg,and_self,if_true,Int.toNat_natCast,List.getElem?_eq_getElem hi,Option.bind_some,key2_lay,List.length_replicate,List.length_set,show (0:Nat) < 2 by omega,show (1:Nat) < 2 by omega,told_get,hcap,hw,htk,List.map_append,List.map_cons,List.map_nil]
    have htg:=told_get (T.take i) (T[i]).2.2.2.2.1 (T[i]).2.2.2.2.2.1
    refine Eq.trans (congrArg (fun b:Bool=>bif b then (some (([]:List Seen),(6:Int),()):Option impl_look.Out) else self (L++(T.take i).map (fillS ps)++[(orZ (mapGet tK2 M [(T[i]).2.2.2.2.1,(T[i]).2.2.2.2.2.1]) ((0:Int),(0:Int),(0:Int),([]:List UInt8),()),(T[i]).2)],mapPut tK2 ((T.take i).map toldE) [(T[i]).2.2.2.2.1,(T[i]).2.2.2.2.2.1] true,w64 ((i:Int)+1))) htg) ?_
    cases hc:(T.take i).any (fun z=>decide ((T[i]).2.2.2.2.1=z.2.2.2.2.1)&&decide ((T[i]).2.2.2.2.2.1=z.2.2.2.2.2.1)) with
    | true=>rfl
    | false=>
     simp only[cond_false,Bool.false_eq_true,if_false]
     have hput:mapPut tK2 ((T.take i).map toldE) [(T[i]).2.2.2.2.1,(T[i]).2.2.2.2.2.1] true=(T.take i).map toldE++[toldE T[i]]:=mapPut_fresh tK2 _ _ _ fun e he=>by
      obtain ⟨z,hz,rfl⟩:=List.mem_map.1 he
      have h1:=List.any_eq_false.1 hc z hz
      have:Ty.eq tK2 [(T[i]).2.2.2.2.1,(T[i]).2.2.2.2.2.1] (toldE z).1=_:=key2_eq _ _ _ _
      rw[this]
      simpa using h1
     rw[hput,hfill,List.append_assoc])
   (fun _ _ _ _ _ _=>trivial) (fun s self _=>by
    show impl_look.b3 _ _ _ _ _ _ _=_
    unfold impl_look.b3
    simp only[Int.lt_irrefl,decide_false,cond_false,Int.toNat_natCast,List.take_length]) () trivial k (by omega)
  rw[forI_dup0 keyS2 (some (([]:List Seen),(6:Int),())) (fun _=>impl_look.Q3 k (ps,()) T M (T.length:Int) (L++T.map (fillS ps))) (fun y z=>decide (y.2.2.2.2.1=z.2.2.2.2.1)&&decide (y.2.2.2.2.2.1=z.2.2.2.2.2.1)) (fun y z=>?_) T,hkeys] at this
  ·simp only[Int.toNat_zero,List.take_zero,List.map_nil,List.append_nil] at this
   exact this
  ·unfold keyS2
   simp only[Bool.and_eq_true,decide_eq_true_eq]
   constructor
   ·rintro ⟨h1,h2⟩;exact ⟨_,rfl,by rw[h1,h2]⟩
   ·rintro ⟨b,h1,h2⟩
    injection h1 with h1
    injection h2 with h2
    rw[<-h2] at h1
    injection h1 with h3 h4
    exact ⟨h3,h4⟩
 rw[l3w]
 by_cases htk:((spotsF ps).filterMap sTgt).Nodup
 rotate_left
 ·simp only[htk,if_false]
  rfl
 simp only[htk,if_true]
 show impl_look.q3 _ _ _ _ _ _=_
 unfold impl_look.q3
 have hperm:=listV_perm h hst
 have hvl:(listV ps).length<=192:=by
  have:=hperm.length_eq
  rw[List.length_map] at this
  have:=seen_len h.1
  omega
 obtain ⟨r,hr1,hr2,hr3⟩:=sort_sem (listV ps) (by omega)
 rw[hr1]
 simp only[Option.bind_some]
 have hrl:r.length<=192:=by have:=hr2.length_eq;omega
 have hrp:=hr2.trans hperm
 have hkn:(r.map fun x=>rk x.1).Nodup↔((seenF ps).map fun x=>rk (sRow x)).Nodup:=by
  have h1:(r.map fun x=>rk x.1).Perm (((seenF ps).map convS).map fun x=>rk x.1):=hrp.map _
  rw[h1.nodup_iff,List.map_map]
  exact Iff.rfl
 refine (adj_walk ps k hk r hrl).trans ?_
 by_cases hnd:((seenF ps).map fun x=>rk (sRow x)).Nodup
 ·have hup:=sorted_up hr3 (hkn.2 hnd)
  have hun:=sortS_unique hrp hup (by rw[List.map_map];exact hnd)
  simp only[hnd,if_true,up_adjB r hup]
  rw[hun]
 ·have:¬ adjB r=true:=fun ha=>hnd (hkn.1 (upS_nodup (adj_up r ha)))
  simp only[hnd,this,if_false]
  rfl
theorem implView_eq (ps:Pgs) (hp:∀ p ∈ ps,p.length<=maxLen):impl_view.sem (ps,())=some (viewL ps,viewC ps,()):=by
 refine lift_eq (k:=300) fun k hk=>(impl_view.raw_eq k _).trans ?_
 unfold impl_view.p viewL viewC
 by_cases hl:12 < ps.length
 ·have:(12:Int) < (ps.length:Int):=by omega
  simp only[this,decide_true,cond_true,hl,if_true]
  rfl
 have hl':¬ ((12:Int) < (ps.length:Int)):=by omega
 simp only[hl',decide_false,cond_false,hl,if_false]
 have inner:∀ (self:(Pgs×Pgs×Int×Int)->Option impl_view.Out) (e0:Pgs->Option impl_view.Out) (i:Nat) (hi:i < ps.length),PageOk ps[i]->impl_view.r1 k self e0 (ps,()) ps ps[i] ps (ps.length:Int) (i:Int) (pn ps[i]:Int) (0:Int)=if (List.range (pn ps[i])).all (okCell ps[i]) then self (ps,ps,(ps.length:Int),w64 ((i:Int)+1)) else some (([]:List Seen),(5:Int),()):=fun self e0 i hi hok=>by
  have hn:=hok.n
  have hlen:=hok.len
  have:=range_loop (B:=fun self' v=>impl_view.B1 k self' (fun z=>impl_view.Q0 k self e0 (ps,()) ps ps[i] ps (ps.length:Int) (i:Int) (pn ps[i]:Int) z) (ps,()) ps ps[i] ps (ps.length:Int) (i:Int) (pn ps[i]:Int) v) (pn ps[i]) (fun (_:Unit) (j:Int)=>j) (fun j _=>if okCell ps[i] j then .inr () else .inl (some (([]:List Seen),(5:Int),()))) (fun _=>self (ps,ps,(ps.length:Int),w64 ((i:Int)+1))) (fun _ _=>True) (by omega)
   (fun j hj s self' hI=>by
    show impl_view.b1 _ _ _ _ _ _ _ _ _ _=_
    unfold impl_view.b1 okCell
    have hlt:(j:Int) < (pn ps[i]:Int):=by omega
    simp only[hlt,decide_true,cond_true,implHas_eq hok,hj,Bool.true_and,Option.bind_some]
    by_cases hz:psz ps[i] j=0
    ·simp only[hz,decide_true,Bool.not_true,cond_false,Bool.true_or,if_true]
    ·simp only[hz,decide_false,Bool.not_false,cond_true,implCellAt_eq hok hj,implUnpack_eq _ (Nat.le_trans (cellP_small hok hj) (by omega)),Option.bind_some,Bool.false_or]
     cases hc:(cellF (cellP ps[i] j)).2 with
     | true=>
      have:=(cellF_flag _ hc).1
      simp only[if_true,this,decide_true,Bool.not_true,cond_false]
     | false=>rfl)
   (fun _ _ _ _ _ _=>trivial) (fun s self' hI=>by
    show impl_view.b1 _ _ _ _ _ _ _ _ _ _=_
    unfold impl_view.b1
    simp only[Int.lt_irrefl,decide_false,cond_false]
    rfl) () trivial k (by omega)
  rw[forI_checkN] at this
  exact this
 have outer:impl_view.r0 k (ps,()) (ps,ps,(ps.length:Int),(0:Int))=if firstF pgC ps=0 then impl_view.Q1 k (ps,()) ps else some (([]:List Seen),firstF pgC ps,()):=by
  have:=for_loopE (B:=fun self v=>impl_view.B0 k self (fun z=>impl_view.Q1 k (ps,()) z) (ps,()) v) ps (fun (_:Unit) (i:Int)=>(ps,ps,(ps.length:Int),i)) (fun i _ p=>if pgC p=0 then .inr () else .inl (some (([]:List Seen),pgC p,()))) (fun _=>impl_view.Q1 k (ps,()) ps) (fun _ _=>True) (by rw[maxLen_val];omega)
   (fun i hi s self hI=>by
    show impl_view.b0 _ _ _ _ _=_
    unfold impl_view.b0 pgC
    have hlt:(i:Int) < (ps.length:Int):=by omega
    simp only[hlt,decide_true,cond_true,Int.natCast_nonneg,if_true,Int.toNat_natCast,List.getElem?_eq_getElem hi,Option.bind_some,implPage_eq _ (hp _ (List.getElem_mem hi))]
    by_cases h0:pageF ps[i]=0
    ·have hok:=pageF_iff.1 h0
     rw[decide_eq_true h0]
     simp only[Bool.not_true,cond_false,pSlots_eq hok.len,Option.bind_some,inner self _ i hi hok,h0,if_true]
     by_cases hc:(List.range (pn ps[i])).all (okCell ps[i])=true
     ·simp only[hc,if_true]
     ·simp only[hc,Bool.false_eq_true,if_false]
      rfl
    ·rw[decide_eq_false h0]
     simp only[Bool.not_false,cond_true,h0,if_false])
   (fun _ _ _ _ _ _=>trivial) (fun s self _=>by
    show impl_view.b0 _ _ _ _ _=_
    unfold impl_view.b0
    simp only[Int.lt_irrefl,decide_false,cond_false]) () trivial k (by omega)
  rw[forI_first pgC (fun c=>some (([]:List Seen),c,())) (fun _=>impl_view.Q1 k (ps,()) ps)] at this
  exact this
 rw[outer]
 by_cases hc:firstF pgC ps=0
 ·simp only[hc,if_true]
  show impl_view.q1 _ _=_
  unfold impl_view.q1
  rw[implLook_eq ps (cells_of (by omega) hc)]
  rfl
 ·simp only[hc,if_false]
end OT
set_option linter.unusedVariables false
set_option linter.unusedSimpArgs false
set_option linter.unusedSectionVars false
namespace OT
open Go
structure viewR (ps:Pgs):Prop where
 right:rightP ps
 cells:cellsOk ps
 stubs:(spotsF ps).all (stubOk ps)=true
 tgts:((spotsF ps).filterMap sTgt).Nodup
 keys:((seenF ps).map fun x=>rk (sRow x)).Nodup
 list:viewL ps=sortS ((seenF ps).map convS)
theorem view_ok {ps:Pgs} (h:viewC ps=0):viewR ps:=by
 obtain ⟨h1,h2,h3⟩:=view_right h
 have hc:=cells_of h1.1 h2
 unfold lookC at h3
 split at h3
 ·rename_i a1
  split at h3
  ·rename_i a2
   split at h3
   ·rename_i a3
    exact ⟨h1,hc,a1,a2,a3,by unfold viewL;rw[if_pos h]⟩
   ·cases h3
  ·cases h3
 ·cases h3
theorem viewL_perm {ps:Pgs} (h:viewR ps):(viewL ps).Perm ((seenF ps).map convS):=by rw[h.list];exact sortS_perm _
theorem viewL_len {ps:Pgs} (h:viewR ps):(viewL ps).length<=192:=by
 have:=(viewL_perm h).length_eq
 rw[List.length_map] at this
 have:=seen_len h.right
 omega
def rowsV (ps:Pgs):List Row:=(viewL ps).map (·.1)
theorem rowsV_eq {ps:Pgs} (h:viewR ps):rowsV ps=sortR ((seenF ps).map sRow):=by
 unfold rowsV
 rw[h.list,sortS_map,List.map_map]
 rfl
theorem rowsV_up {ps:Pgs} (h:viewR ps):up (rowsV ps):=by
 rw[rowsV_eq h]
 refine sortR_up ?_
 rw[List.map_map]
 exact h.keys
theorem seenRows_eq (l:List Seen) (hl:l.length<=1000):impl_plain.sem (l,())=some (l.map (·.1),()):=by
 refine lift_eq (k:=1100) fun q hq=>(impl_plain.raw_eq q _).trans ?_
 have:=for_loop (B:=fun self v=>impl_plain.B0 q self (fun z=>impl_plain.Q0 q (l,()) z) (l,()) v) l (fun (s:List Row) (i:Int)=>(s,i)) (fun _ s x=>.inr (s++[x.1])) (fun s=>(s,())) (fun i s=>s.length=i) (by rw[maxLen_val];omega)
  (fun i hi s self hs=>by
   show impl_plain.b0 _ _ _ _=_
   unfold impl_plain.b0
   have hlt:(i:Int) < (l.length:Int):=by omega
   rw[decide_eq_true hlt,cond_true,if_pos (Int.natCast_nonneg i)]
   simp only[Int.toNat_natCast,List.getElem?_eq_getElem hi,Option.bind_some]
   rw[if_pos (cap_ok (by simp only[List.length_cons,List.length_nil];omega))])
  (fun i hi s s' hs hf=>by injection hf with hf;subst hf;simp[hs]) (fun s self _=>by
   show impl_plain.b0 _ _ _ _=_
   unfold impl_plain.b0
   rw[decide_eq_false (Int.lt_irrefl _),cond_false]
   rfl) [] rfl q (by omega)
 rw[forI_fold (g:=fun (s:List Row) (x:Seen)=>s++[x.1])] at this
 refine this.trans ?_
 have hm:∀ (xs:List Seen) (s:List Row),xs.foldl (fun s x=>s++[x.1]) s=s++xs.map (·.1):=by
  intro xs
  induction xs with
  | nil=>intro s;simp
  | cons x xs ih=>intro s;rw[List.foldl_cons,ih];simp
 rw[hm,List.nil_append]
theorem specRowsIn_eq {ps:Pgs} (h:viewC ps=0):spec_l6RowsIn.sem (ps,())=some (rowsV ps,()):=by
 have hr:=view_right h
 have hl:=seen_len hr.1
 refine lift_eq (k:=300) fun k hk=>(spec_l6RowsIn.raw_eq k _).trans ?_
 unfold spec_l6RowsIn.p
 rw[specSeen_eq ps hr.1]
 simp only[Option.bind_some]
 have:=for_loop (B:=fun self v=>spec_l6RowsIn.B0 k self (fun z=>spec_l6RowsIn.Q0 k (ps,()) (seenF ps) z) (ps,()) (seenF ps) v) (seenF ps) (fun (s:List Row) (i:Int)=>(s,i)) (fun _ s x=>.inr (put1 s (sRow x))) (fun s=>(s,())) (fun i s=>s.length<=i) (by rw[maxLen_val];omega)
  (fun i hi s self hs=>by
   show spec_l6RowsIn.b0 _ _ _ _ _=_
   unfold spec_l6RowsIn.b0
   have hlt:(i:Int) < ((seenF ps).length:Int):=by omega
   rw[decide_eq_true hlt,cond_true,if_pos ⟨Int.natCast_nonneg i,hlt⟩]
   simp only[Int.toNat_natCast,List.getElem?_eq_getElem hi,Option.bind_some]
   rw[specPut_eq _ _ (by omega)]
   rfl)
  (fun i hi s s' hs hf=>by
   injection hf with hf
   subst hf
   unfold put1
   simp only[List.length_append,List.length_take,List.length_drop,List.length_cons,List.length_nil]
   omega) (fun s self _=>by
   show spec_l6RowsIn.b0 _ _ _ _ _=_
   unfold spec_l6RowsIn.b0
   rw[decide_eq_false (Int.lt_irrefl _),cond_false]
   rfl) [] (Nat.le_refl 0) k (by omega)
 rw[forI_fold (g:=fun (s:List Row) (x:L6Spot)=>put1 s (sRow x))] at this
 refine this.trans ?_
 rw[rowsV_eq (view_ok h)]
 unfold sortR
 rw[List.foldl_map]
end OT
set_option linter.unusedVariables false
set_option linter.unusedSimpArgs false
namespace OT
open Go
def bl (x:Run):Int:=(List.length x.2.1:Int)
def runStep (s:Int) (x:Run):Sum (Int×Unit) Int:=
 if inB x.1 0 63 then (if inB (bl x) 1 64 then (if 64 < x.1+bl x then .inl (3,()) else if x.1 < s then .inl (1,()) else .inr (x.1+bl x+1)) else .inl (3,())) else .inl (3,())
def runsL (s:Int) (xs:List Run):Int:=(forI (fun _ s x=>runStep s x) (fun _=>((0:Int),())) 0 xs s).1
def runsF (xs:List Run):Int:=if 64 < xs.length then 2 else runsL 0 xs
theorem step_good {s s':Int} {x:Run} (h:runStep s x=.inr s'):0<=x.1/\x.1<=63/\1<=bl x/\bl x<=64/\x.1+bl x<=64/\s<=x.1/\s'=x.1+bl x+1:=by
 unfold runStep at h
 split at h
 ·rename_i h1
  split at h
  ·rename_i h2
   split at h
   ·cases h
   ·split at h
    ·cases h
    ·injection h with h
     simp only[inB,Bool.and_eq_true,decide_eq_true_eq] at h1 h2
     omega
  ·cases h
 ·cases h
theorem step_bad {s:Int} {x:Run} {o:Int×Unit} (h:runStep s x=.inl o):o.1≠0:=by
 unfold runStep at h
 split at h
 ·split at h
  ·split at h
   ·injection h with h;subst h;decide
   ·split at h
    ·injection h with h;subst h;decide
    ·cases h
  ·injection h with h;subst h;decide
 ·injection h with h;subst h;decide
theorem forI_ix {S O α:Type} {f:S->α->Sum O S} {fin:S->O}:∀ (xs:List α) (i j:Nat) (s:S),forI (fun _ s x=>f s x) fin i xs s=forI (fun _ s x=>f s x) fin j xs s
 | [],_,_,_=>rfl
 | x::xs,i,j,s=>by
  simp only[forI]
  split
  ·rfl
  ·exact forI_ix xs _ _ _
theorem runsL_cons (s:Int) (x:Run) (xs:List Run):runsL s (x::xs)=match runStep s x with | .inl o=>o.1 | .inr s'=>runsL s' xs:=by
 unfold runsL
 simp only[forI]
 cases h:runStep s x with
 | inl o=>rfl
 | inr s'=>simp only;rw[forI_ix xs 1 0]
theorem runsL_good:∀ (xs:List Run) (s:Int),runsL s xs=0->∀ x ∈ xs,0<=x.1/\x.1<=63/\1<=bl x/\bl x<=64
 | [],_,_,_,hx=>by cases hx
 | y::ys,s,h,x,hx=>by
  rw[runsL_cons] at h
  cases hs:runStep s y with
  | inl o=>rw[hs] at h;exact absurd h (step_bad hs)
  | inr s'=>
   rw[hs] at h
   have:=step_good hs
   rcases List.mem_cons.1 hx with e | e
   ·subst e;omega
   ·exact runsL_good ys s' h x e
theorem runsF_good {xs:List Run} (h:runsF xs=0):List.length xs<=64/\∀ x ∈ xs,0<=x.1/\x.1<=63/\1<=bl x/\bl x<=64:=by
 unfold runsF at h
 split at h
 ·cases h
 ·exact ⟨by omega,runsL_good xs 0 h⟩
theorem runsF_one {y z:Run} {ys:List Run} (h:runsF (y::z::ys)=0):List.length y.2.1≠64:=by
 unfold runsF at h
 split at h
 ·cases h
 ·rw[runsL_cons] at h
  cases hs:runStep 0 y with
  | inl o=>rw[hs] at h;exact absurd h (step_bad hs)
  | inr s'=>
   rw[hs] at h
   have h1:=step_good hs
   simp only[runsL_cons] at h
   cases hs2:runStep s' z with
   | inl o=>rw[hs2] at h;exact absurd h (step_bad hs2)
   | inr s2=>
    have h2:=step_good hs2
    have:bl y=(List.length y.2.1:Int):=rfl
    omega
theorem implRuns_eq (xs:List Run):impl_RunsFault.sem (xs,())=some (runsF xs,()):=by
 refine lift_eq (k:=66) fun k hk=>(impl_RunsFault.raw_eq k _).trans ?_
 unfold impl_RunsFault.p runsF
 by_cases hl:64 < xs.length
 ·have:(64:Int) < (xs.length:Int):=by omega
  simp only[hl,this,decide_true,cond_true,if_true]
 have hl':¬ (64:Int) < (xs.length:Int):=by omega
 have:=for_loop (B:=fun self v=>impl_RunsFault.B0 0 self (fun z=>impl_RunsFault.Q0 0 (xs,()) z) (xs,()) v) xs (fun (s:Int) (i:Int)=>(s,i)) (fun _ s x=>runStep s x) (fun _=>(0,())) (fun _ _=>True) (by rw[maxLen_val];omega)
  (fun i hi s self _=>by
   show impl_RunsFault.b0 _ _ _ _=_
   unfold impl_RunsFault.b0
   have hlt:(i:Int) < (xs.length:Int):=by omega
   simp only[hlt,decide_true,cond_true,Int.natCast_nonneg,if_true,Int.toNat_natCast,List.getElem?_eq_getElem hi,Option.bind_some,implIn_eq]
   generalize xs[i]=x
   unfold runStep bl inB
   by_cases a1:(0:Int)<=x.1
   rotate_left
   ·simp[a1]
   by_cases a2:x.1<=63
   rotate_left
   ·simp[a2]
   by_cases a3:(1:Int)<=(List.length x.2.1:Int)
   rotate_left
   ·simp[a1,a2,a3]
   by_cases a4:(List.length x.2.1:Int)<=64
   rotate_left
   ·simp[a1,a2,a4]
   have e1:w64 (x.1+(List.length x.2.1:Int))=x.1+(List.length x.2.1:Int):=w64_in (by omega)
   have e2:w64 (x.1+(List.length x.2.1:Int)+1)=x.1+(List.length x.2.1:Int)+1:=w64_in (by omega)
   simp only[a1,a2,a3,a4,e1,e2,decide_true,Bool.and_self,Bool.not_true,cond_false,if_true]
   by_cases a5:64 < x.1+(List.length x.2.1:Int)
   ·simp[a5]
   by_cases a6:x.1 < s
   ·simp[a5,a6]
   simp[a5,a6]) (fun _ _ _ _ _ _=>trivial) (fun s self _=>by
   show impl_RunsFault.b0 _ _ _ _=_
   unfold impl_RunsFault.b0
   simp[impl_RunsFault.Q0,impl_RunsFault.q0]) 0 trivial k (by omega)
 simp only[hl,if_false,hl',decide_false,cond_false]
 exact this
theorem specRuns_eq (xs:List Run):spec_l3Fault.sem (xs,())=some (runsF xs,()):=by
 refine lift_eq (k:=66) fun k hk=>(spec_l3Fault.raw_eq k _).trans ?_
 unfold spec_l3Fault.p runsF
 by_cases hl:64 < xs.length
 ·have:(64:Int) < (xs.length:Int):=by omega
  simp only[hl,this,decide_true,cond_true,if_true]
 have hl':¬ (64:Int) < (xs.length:Int):=by omega
 have:=for_loop (B:=fun self v=>spec_l3Fault.B0 0 self (fun z=>spec_l3Fault.Q0 0 (xs,()) z) (xs,()) v) xs (fun (s:Int) (i:Int)=>i) (fun _ s x=>runStep s x) (fun _=>(0,()))
  (fun i s=>(i=0->s=0)/\∀ y,0 < i->xs[i - 1]?=some y->0<=y.1/\y.1<=63/\bl y<=64/\s=y.1+bl y+1) (by rw[maxLen_val];omega)
  (fun i hi s self hI=>by
   show spec_l3Fault.b0 _ _ _ _=_
   unfold spec_l3Fault.b0
   have hlt:(i:Int) < (xs.length:Int):=by omega
   simp only[hlt,decide_true,cond_true,Int.natCast_nonneg,if_true,Int.toNat_natCast,List.getElem?_eq_getElem hi,Option.bind_some,specIn_eq]
   generalize xs[i]=x
   unfold runStep bl inB
   by_cases a1:(0:Int)<=x.1
   rotate_left
   ·simp[a1]
   by_cases a2:x.1<=63
   rotate_left
   ·simp[a2]
   by_cases a3:(1:Int)<=(List.length x.2.1:Int)
   rotate_left
   ·simp[a1,a2,a3]
   by_cases a4:(List.length x.2.1:Int)<=64
   rotate_left
   ·simp[a1,a2,a4]
   have e1:w64 (x.1+(List.length x.2.1:Int))=x.1+(List.length x.2.1:Int):=w64_in (by omega)
   simp only[a1,a2,a3,a4,e1,decide_true,Bool.and_self,Bool.not_true,cond_false,if_true]
   by_cases a5:64 < x.1+(List.length x.2.1:Int)
   ·simp[a5]
   by_cases h0:i=0
   ·subst h0
    have:=hI.1 rfl
    subst this
    have a6:¬ x.1 < 0:=by omega
    simp[a5,a6]
   ·have hi1:i - 1 < xs.length:=by omega
    obtain ⟨y0,y1,y2,y3⟩:=hI.2 xs[i - 1] (by omega) (List.getElem?_eq_getElem hi1)
    have hp:(0:Int) < (i:Int):=by omega
    have ew:w64 ((i:Int) - 1)=((i - 1:Nat):Int):=by rw[w64_in (by omega)];omega
    unfold bl at y2 y3
    have e2:w64 ((xs[i - 1]).1+(List.length (xs[i - 1]).2.1:Int))=(xs[i - 1]).1+(List.length (xs[i - 1]).2.1:Int):=w64_in (by omega)
    simp only[a5,hp,ew,e2,decide_true,decide_false,cond_true,cond_false,Int.natCast_nonneg,if_true,if_false,Int.toNat_natCast,List.getElem?_eq_getElem hi1,Option.bind_some]
    by_cases a6:x.1 < s
    ·have:x.1<=(xs[i - 1]).1+(List.length (xs[i - 1]).2.1:Int):=by omega
     simp[a6,this]
    ·have:¬ x.1<=(xs[i - 1]).1+(List.length (xs[i - 1]).2.1:Int):=by omega
     simp[a6,this])
  (fun i hi s s' _ hs=>⟨fun e=>by omega,fun y _ hy=>by
   rw[Nat.add_sub_cancel,List.getElem?_eq_getElem hi] at hy
   injection hy with hy;subst hy
   have:=step_good hs
   omega⟩) (fun s self _=>by
   show spec_l3Fault.b0 _ _ _ _=_
   unfold spec_l3Fault.b0
   simp[spec_l3Fault.Q0,spec_l3Fault.q0]) 0 ⟨fun _=>rfl,fun y h=>by omega⟩ k (by omega)
 simp only[hl,if_false,hl',decide_false,cond_false]
 exact this
def headF (k:Int) (xs:List Run):Int:=match xs with
 | []=>1
 | y::_=>if decide (k=4)&&!decide (List.length y.2.1=64) then 1 else 0
def recF (r:Record):Int:=
 if !inB r.1 1 6||(!inB r.1 2 4&&(!decide (r.2.2.1=0)||decide (0 < List.length r.2.2.2.1)))||(decide (r.1=4)&&!decide (r.2.1=0)) then 1
 else if (!decide (r.1=4)&&!inB r.2.1 1 99)||!inB r.2.2.1 0 11 then 3
 else if !inB r.1 2 4 then 0
 else if runsF r.2.2.2.1=0 then headF r.1 r.2.2.2.1 else runsF r.2.2.2.1
theorem spec4Runs_eq (k:Int):spec_l4Runs.sem (k,())=some (inB k 2 4,()):=by
 refine lift_eq (k:=0) fun n _=>(spec_l4Runs.raw_eq n _).trans ?_
 show spec_l4Runs.p _=_
 unfold spec_l4Runs.p
 simp[specIn_eq,inB]
theorem turns_eq (k:Int):impl_turns.sem (k,())=some (inB k 2 4,()):=by
 refine lift_eq (k:=0) fun n _=>(impl_turns.raw_eq n _).trans ?_
 show impl_turns.p _=_
 unfold impl_turns.p inB
 by_cases h1:k=2
 ·subst h1;rfl
 by_cases h2:k=3
 ·subst h2;rfl
 by_cases h3:k=4
 ·subst h3;rfl
 have:(decide ((2:Int)<=k)&&decide (k<=4))=false:=by
  by_cases h4:(2:Int)<=k
  ·have:¬ k<=4:=by omega
   simp[this]
  ·simp[h4]
 simp[h1,h2,h3,this]
theorem specRec_eq (r:Record):spec_l4Fault.sem (r,())=some (recF r,()):=by
 obtain ⟨k,t,p,xs,⟨⟩⟩:=r
 refine lift_eq (k:=0) fun n _=>(spec_l4Fault.raw_eq n _).trans ?_
 show spec_l4Fault.p _=_
 unfold spec_l4Fault.p recF
 simp only[specIn_eq,spec4Runs_eq,specRuns_eq,Option.bind_some,show ∀ a b c:Int,(decide (b<=a)&&decide (a<=c))=inB a b c from fun _ _ _=>rfl]
 have h0:decide ((0:Int) < (xs.length:Int))=decide (0 < xs.length):=by simp
 have hj:(spec_l3Fault.sem (xs,()))=some (runsF xs,()):=specRuns_eq xs
 rw[h0]
 have hh:(bif decide ((List.length xs:Int)=0) then some ((1:Int),()) else bif decide (k=4) then (xs[0]?).bind fun x23=>bif !decide ((List.length x23.2.1:Int)=64) then some ((1:Int),()) else some (0,()) else some (0,()))=some (headF k xs,()):=by
  cases xs with
  | nil=>rfl
  | cons y ys=>
   have:¬ ((List.length (y::ys):Int)=0):=by simp only[List.length_cons];omega
   simp only[this,decide_false,cond_false,headF,List.getElem?_cons_zero,Option.bind_some]
   have h64:decide ((List.length y.2.1:Int)=64)=decide (List.length y.2.1=64):=by
    by_cases h:List.length y.2.1=64
    ·simp[h]
    ·have:¬ ((List.length y.2.1:Int)=64):=by omega
     simp[h,this]
   rw[h64]
   cases decide (k=4) <;> cases decide (List.length y.2.1=64) <;> rfl
 rw[hh]
 by_cases hr:runsF xs=0
 ·simp only[hr,decide_true,Bool.not_true,cond_false,if_true]
  cases inB k 1 6 <;> cases inB k 2 4 <;> cases decide (p=0) <;> cases decide (0 < xs.length) <;> cases decide (k=4) <;> cases decide (t=0) <;> cases inB t 1 99 <;> cases inB p 0 11 <;> rfl
 ·simp only[hr,decide_false,Bool.not_false,cond_true,if_false]
  cases inB k 1 6 <;> cases inB k 2 4 <;> cases decide (p=0) <;> cases decide (0 < xs.length) <;> cases decide (k=4) <;> cases decide (t=0) <;> cases inB t 1 99 <;> cases inB p 0 11 <;> rfl
theorem implRec_eq (r:Record):impl_RecordFault.sem (r,())=some (recF r,()):=by
 obtain ⟨k,t,p,xs,⟨⟩⟩:=r
 refine lift_eq (k:=0) fun n _=>(impl_RecordFault.raw_eq n _).trans ?_
 show impl_RecordFault.p _=_
 unfold impl_RecordFault.p recF
 simp only[implIn_eq,turns_eq,isTx_eq,implRuns_eq,Option.bind_some,show ∀ a b c:Int,(decide (b<=a)&&decide (a<=c))=inB a b c from fun _ _ _=>rfl]
 have h0:decide ((0:Int) < (xs.length:Int))=decide (0 < xs.length):=by simp
 rw[h0]
 have hk:inB k 2 4=false->decide (k=4)=false:=by
  intro h
  by_cases e:k=4
  ·subst e;cases h
  ·simp[e]
 have h64:∀ y:Run,decide ((List.length y.2.1:Int)=64)=decide (List.length y.2.1=64):=fun y=>by
  by_cases h:List.length y.2.1=64
  ·simp[h]
  ·have:¬ ((List.length y.2.1:Int)=64):=by omega
   simp[h,this]
 have hz:decide (0 < xs.length)=false->xs=[]:=by
  intro h
  cases xs with
  | nil=>rfl
  | cons _ _=>simp at h
 have hh:runsF xs=0->(bif decide ((List.length xs:Int)=0) then some ((1:Int),()) else bif decide (k=4) then bif !decide ((List.length xs:Int)=1) then some ((1:Int),()) else (xs[0]?).bind fun x23=>bif !decide ((List.length x23.2.1:Int)=64) then some ((1:Int),()) else some (0,()) else some (0,()))=some (headF k xs,()):=by
  intro hr
  cases xs with
  | nil=>rfl
  | cons y ys=>
   have:¬ ((List.length (y::ys):Int)=0):=by simp only[List.length_cons];omega
   simp only[this,decide_false,cond_false,headF,List.getElem?_cons_zero,Option.bind_some,h64]
   cases ys with
   | nil=>cases decide (k=4) <;> cases decide (List.length y.2.1=64) <;> rfl
   | cons z ys=>
    have h1:=runsF_one hr
    have h2:¬ ((List.length (y::z::ys):Int)=1):=by simp only[List.length_cons];omega
    simp only[h1,h2,decide_false]
    cases decide (k=4) <;> rfl
 cases hk2:inB k 2 4 with
 | false=>
  have hk4:=hk hk2
  have hr0:runsF ([]:List Run)=0:=rfl
  simp only[hk4]
  by_cases hx:xs=[]
  ·subst hx
   cases inB k 1 6 <;> cases decide (p=0) <;> cases inB t 1 99 <;> cases inB p 0 11 <;> rfl
  ·have hx':decide (0 < xs.length)=true:=by
    cases xs with
    | nil=>exact absurd rfl hx
    | cons _ _=>simp
   simp only[hx']
   cases inB k 1 6 <;> cases decide (p=0) <;> rfl
 | true=>
  by_cases hr:runsF xs=0
  ·have hh:=hh hr
   simp only[hr,decide_true,Bool.not_true,cond_false,cond_true,if_true,hh]
   cases inB k 1 6 <;> cases decide (k=4) <;> cases decide (t=0) <;> cases inB t 1 99 <;> cases inB p 0 11 <;> rfl
  ·simp only[hr,decide_false,Bool.not_false,cond_true,if_false]
   cases inB k 1 6 <;> cases decide (k=4) <;> cases decide (t=0) <;> cases inB t 1 99 <;> cases inB p 0 11 <;> rfl
theorem recF_good {r:Record} (h:recF r=0):1<=r.1/\r.1<=6/\0<=r.2.1/\r.2.1<=99/\0<=r.2.2.1/\r.2.2.1<=11/\List.length r.2.2.2.1<=64/\∀ x ∈ r.2.2.2.1,0<=x.1/\x.1<=63/\1<=bl x/\bl x<=64:=by
 obtain ⟨k,t,p,xs,⟨⟩⟩:=r
 unfold recF at h
 split at h
 ·cases h
 rename_i h1
 split at h
 ·cases h
 rename_i h2
 have hx:List.length xs<=64/\∀ x ∈ xs,0<=x.1/\x.1<=63/\1<=bl x/\bl x<=64:=by
  split at h
  ·rename_i h3
   simp only[Bool.or_eq_true,Bool.and_eq_true,not_or,not_and,h3,forall_const] at h1
   cases xs with
   | nil=>exact ⟨by simp,fun x hx=>by cases hx⟩
   | cons y ys=>exact absurd (by simp) h1.1.2.2
  ·split at h
   ·rename_i h4;exact runsF_good h4
   ·rename_i h4;exact absurd h h4
 simp only[Bool.or_eq_true,Bool.and_eq_true,not_or,not_and,inB,Bool.not_eq_true',Bool.and_eq_false_iff,decide_eq_false_iff_not,decide_eq_true_eq] at h1 h2
 refine ⟨?_,?_,?_,?_,?_,?_,hx⟩ <;> by_cases hk:k=4 <;> simp_all <;> omega
end OT
set_option linter.unusedVariables false
set_option linter.unusedSimpArgs false
namespace OT
open Go
end OT
set_option linter.unusedVariables false
set_option linter.unusedSimpArgs false
namespace OT
open Go
def at8 (D:List UInt8) (i:Nat):Nat:=(D.getD i 0).toNat
def piece (D:List UInt8) (at' n:Nat):Run:=((at8 D at':Int),(D.take (at'+2+n)).drop (at'+2),())
end OT
set_option linter.unusedVariables false
set_option linter.unusedSimpArgs false
namespace OT
open Go
end OT
set_option linter.unusedVariables false
set_option linter.unusedSimpArgs false
namespace OT
open Go
theorem implNew_eq:impl_newPage.sem ((0:UInt8),())=some (newF,()):=by
 refine lift_eq (k:=66) fun k hk=>(impl_newPage.raw_eq k _).trans ?_
 unfold impl_newPage.p
 have:=for_loop (B:=fun self v=>impl_newPage.B0 0 self (fun z=>impl_newPage.Q0 0 ((0:UInt8),()) z) ((0:UInt8),()) v) (List.replicate 64 (0:UInt8)) (fun (s:List UInt8) (i:Int)=>(s,i)) (fun _ s _=>.inr s) (fun s=>(newF,())) (fun _ s=>s=List.replicate 64 (0:UInt8)) (by rw[maxLen_val];simp)
  (fun i hi s self hI=>by
   show impl_newPage.b0 _ _ _ _=_
   unfold impl_newPage.b0
   subst hI
   simp only[List.length_replicate] at hi ⊢
   have hlt:(i:Int) < ((64:Nat):Int):=by omega
   have hin:(0:Int)<=(i:Int)/\(i:Int) < ((64:Nat):Int):=by omega
   have hg:(List.replicate 64 (0:UInt8))[i]?=some 0:=(List.getElem?_replicate (n:=64) (i:=i) (a:=(0:UInt8))).trans (if_pos hi)
   have hs:(List.replicate 64 (0:UInt8)).set i 0=List.replicate 64 (0:UInt8):=List.set_replicate_self
   simp only[hlt,hin,and_self,decide_true,cond_true,if_true,Int.toNat_natCast,hg,Option.bind_some,hs])
  (fun i hi s s' hI hs=>by injection hs with hs;rw[<-hs,hI]) (fun s self hI=>by
   show impl_newPage.b0 _ _ _ _=_
   unfold impl_newPage.b0
   subst hI
   simp only[List.length_replicate,Int.lt_irrefl,decide_false,cond_false]
   rfl) (List.replicate 64 (0:UInt8)) rfl k (by simp;omega)
 rw[forI_fold (g:=fun s _=>s)] at this
 have hc:(0:Int)<=64/\(64:Int)<=64/\(64:Int)<=(CAP:Int):=⟨by omega,by omega,by simp only[CAP];omega⟩
 rw[if_pos hc]
 exact this
theorem specNew_eq:spec_l2New.sem ((0:UInt8),())=some (newF,()):=by
 refine lift_eq (k:=66) fun k hk=>(spec_l2New.raw_eq k _).trans ?_
 unfold spec_l2New.p
 have:=for_loop (B:=fun self v=>spec_l2New.B0 0 self (fun z=>spec_l2New.Q0 0 ((0:UInt8),()) z) ((0:UInt8),()) v) (List.replicate 64 (0:UInt8)) (fun (s:List UInt8) (i:Int)=>(s,i)) (fun _ s _=>.inr s) (fun s=>(newF,())) (fun _ s=>s=List.replicate 64 (0:UInt8)) (by rw[maxLen_val];simp)
  (fun i hi s self hI=>by
   show spec_l2New.b0 _ _ _ _=_
   unfold spec_l2New.b0
   subst hI
   simp only[List.length_replicate] at hi ⊢
   have hlt:(i:Int) < (64:Int):=by omega
   have hin:(0:Int)<=(i:Int)/\(i:Int) < ((64:Nat):Int):=by omega
   have hg:(List.replicate 64 (0:UInt8))[i]?=some 0:=(List.getElem?_replicate (n:=64) (i:=i) (a:=(0:UInt8))).trans (if_pos hi)
   have hs:(List.replicate 64 (0:UInt8)).set i 0=List.replicate 64 (0:UInt8):=List.set_replicate_self
   simp only[hlt,hin,and_self,decide_true,cond_true,if_true,Int.toNat_natCast,hg,Option.bind_some,hs])
  (fun i hi s s' hI hs=>by injection hs with hs;rw[<-hs,hI]) (fun s self hI=>by
   show spec_l2New.b0 _ _ _ _=_
   unfold spec_l2New.b0
   subst hI
   have:¬ (((64:Nat):Int) < 64):=by omega
   simp only[List.length_replicate,this,decide_false,cond_false]
   rfl) (List.replicate 64 (0:UInt8)) rfl k (by simp;omega)
 rw[forI_fold (g:=fun s _=>s)] at this
 have hc:(0:Int)<=64/\(64:Int)<=64/\(64:Int)<=(CAP:Int):=⟨by omega,by omega,by simp only[CAP];omega⟩
 rw[if_pos hc]
 exact this
end OT
set_option linter.unusedVariables false
set_option linter.unusedSimpArgs false
namespace OT
open Go
def lay1 (p:List UInt8) (r:Run):List UInt8:=over p r.1.toNat (min (List.length r.2.1) (p.length - r.1.toNat)) r.2.1
def applyR (p:List UInt8) (rs:List Run):List UInt8:=rs.foldl lay1 p
theorem lay1_len {p:List UInt8} {r:Run} (h:r.1.toNat<=p.length):(lay1 p r).length=p.length:=over_length _ _ (by omega) (by omega)
theorem applyR_len:∀ (rs:List Run) (p:List UInt8),p.length=64->(∀ r ∈ rs,0<=r.1/\r.1<=63)->(applyR p rs).length=64
 | [],p,h,_=>h
 | r::rs,p,h,hr=>by
  have:=hr r (by simp)
  exact applyR_len rs _ (by rw[lay1_len (by omega)];exact h) (fun x hx=>hr x (by simp[hx]))
theorem implApplied_eq (p:List UInt8) (rs:List Run) (hp:p.length=64) (hl:rs.length<=64) (hr:∀ r ∈ rs,0<=r.1/\r.1<=63):impl_applied.sem (p,rs,())=some (applyR p rs,()):=by
 refine lift_eq (k:=66) fun k hk=>(impl_applied.raw_eq k _).trans ?_
 unfold impl_applied.p
 rw[implCopied_eq _ (by show p.length<=_;omega)]
 have:=for_loop (B:=fun self v=>impl_applied.B0 0 self (fun z=>impl_applied.Q0 0 (p,rs,()) z) (p,rs,()) v) rs (fun (s:List UInt8) (i:Int)=>(s,i)) (fun _ s r=>.inr (lay1 s r)) (fun s=>(s,())) (fun _ s=>s.length=64) (by rw[maxLen_val];omega)
  (fun i hi s self hI=>by
   show impl_applied.b0 _ _ _ _=_
   unfold impl_applied.b0
   have hlt:(i:Int) < (rs.length:Int):=by omega
   have hx:=hr rs[i] (List.getElem_mem hi)
   have hin:(0:Int)<=(rs[i]).1/\(rs[i]).1<=(s.length:Int):=by omega
   simp only[hlt,decide_true,cond_true,Int.natCast_nonneg,if_true,Int.toNat_natCast,List.getElem?_eq_getElem hi,Option.bind_some,hin,and_self]
   rfl)
  (fun i hi s s' hI hs=>by
   injection hs with hs
   have hx:=hr rs[i] (List.getElem_mem hi)
   rw[<-hs,lay1_len (by omega)];exact hI) (fun s self hI=>by
   show impl_applied.b0 _ _ _ _=_
   unfold impl_applied.b0
   simp only[Int.lt_irrefl,decide_false,cond_false]
   rfl) p hp k (by omega)
 rw[forI_fold] at this
 exact this
theorem specApplied_eq (p:List UInt8) (rs:List Run) (hp:p.length=64) (hl:rs.length<=64) (hr:∀ r ∈ rs,0<=r.1/\r.1<=63):spec_l3Apply.sem (p,rs,())=some (applyR p rs,()):=by
 refine lift_eq (k:=66) fun k hk=>(spec_l3Apply.raw_eq k _).trans ?_
 unfold spec_l3Apply.p
 rw[specCopy_eq _ (by show p.length<=_;omega)]
 have:=for_loop (B:=fun self v=>spec_l3Apply.B0 0 self (fun z=>spec_l3Apply.Q0 0 (p,rs,()) z) (p,rs,()) v) rs (fun (s:List UInt8) (i:Int)=>(s,i)) (fun _ s r=>.inr (lay1 s r)) (fun s=>(s,())) (fun _ s=>s.length=64) (by rw[maxLen_val];omega)
  (fun i hi s self hI=>by
   show spec_l3Apply.b0 _ _ _ _=_
   unfold spec_l3Apply.b0
   have hlt:(i:Int) < (rs.length:Int):=by omega
   have hx:=hr rs[i] (List.getElem_mem hi)
   have hin:(0:Int)<=(rs[i]).1/\(rs[i]).1<=(s.length:Int):=by omega
   simp only[hlt,decide_true,cond_true,Int.natCast_nonneg,if_true,Int.toNat_natCast,List.getElem?_eq_getElem hi,Option.bind_some,hin,and_self]
   rfl)
  (fun i hi s s' hI hs=>by
   injection hs with hs
   have hx:=hr rs[i] (List.getElem_mem hi)
   rw[<-hs,lay1_len (by omega)];exact hI) (fun s self hI=>by
   show spec_l3Apply.b0 _ _ _ _=_
   unfold spec_l3Apply.b0
   simp only[Int.lt_irrefl,decide_false,cond_false]
   rfl) p hp k (by omega)
 rw[forI_fold] at this
 exact this
theorem clone_eq (ps:Pages) (h:ps.length<=12):slices_Clone_bytes.sem (ps,())=some (ps,()):=by
 refine lift_eq (k:=0) fun k _=>(slices_Clone_bytes.raw_eq k _).trans ?_
 show slices_Clone_bytes.p _=_
 unfold slices_Clone_bytes.p
 refine nilB_eq (fun e=>by rw[show ps=[] from e]) ?_
 have:([]:List (List UInt8)).length+ps.length<=CAP:=cap_ok (by simp only[List.length_nil];omega)
 rw[if_pos this,List.nil_append]
def putR (q:Pages) (r:Record):Pages:=q.set r.2.2.1.toNat (applyR (q.getD r.2.2.1.toNat []) r.2.2.2.1)
def stepF (ps:Pages) (r:Record):Sum Int Pages:=
 if recF r=0 then (if inB r.1 2 4 then (if (ps.length:Int) < r.2.2.1 then .inl 1 else .inr (putR (if r.2.2.1=(ps.length:Int) then ps++[newF] else ps) r)) else .inr ps) else .inl (recF r)
theorem stepF_bad {ps:Pages} {r:Record} {c:Int} (h:stepF ps r=.inl c):c≠0:=by
 unfold stepF at h
 split at h
 ·split at h
  ·split at h
   ·injection h with h;subst h;decide
   ·cases h
  ·cases h
 ·rename_i hr
  injection h with h;subst h;exact hr
theorem putR_good {q:Pages} {r:Record} (hq:gp q) (hr:recF r=0) (hp:r.2.2.1.toNat < q.length):gp (putR q r):=by
 have hg:=recF_good hr
 refine ⟨by simp[putR];exact hq.1,fun p hm=>?_⟩
 rcases List.mem_or_eq_of_mem_set hm with h | h
 ·exact hq.2 p h
 ·subst h
  have hx:q.getD r.2.2.1.toNat []=q[r.2.2.1.toNat]:=by simp[hp]
  rw[hx]
  exact applyR_len _ _ (hq.2 _ (List.getElem_mem hp)) (fun x hx=>by have:=hg.2.2.2.2.2.2.2 x hx;omega)
theorem stepF_good {ps ps':Pages} {r:Record} (hp:gp ps) (h:stepF ps r=.inr ps'):gp ps':=by
 unfold stepF at h
 split at h
 ·rename_i hr
  have hg:=recF_good hr
  split at h
  ·split at h
   ·cases h
   ·rename_i hl
    injection h with h
    subst h
    split
    ·rename_i he
     refine putR_good ⟨by simp;omega,fun p hm=>?_⟩ hr (by simp;omega)
     rcases List.mem_append.1 hm with hm | hm
     ·exact hp.2 p hm
     ·simp only[List.mem_singleton] at hm;subst hm;exact newF_len
    ·rename_i he
     exact putR_good hp hr (by omega)
  ·injection h with h;subst h;exact hp
 ·cases h
theorem implRecorded_eq (ps:Pages) (r:Record) (hp:gp ps) (hr:recF r=0):impl_recorded.sem (ps,r,())=some (match stepF ps r with | .inl c=>(([]:Pages),c,()) | .inr ps'=>(ps',(0:Int),())):=by
 refine lift_eq (k:=0) fun k _=>(impl_recorded.raw_eq k _).trans ?_
 show impl_recorded.p _=_
 have hg:=recF_good hr
 unfold impl_recorded.p stepF
 simp only[turns_eq,hr,if_true,Option.bind_some]
 cases ht:inB r.1 2 4 with
 | false=>rfl
 | true=>
  simp only[Bool.not_true,cond_false,if_true]
  by_cases hl:(ps.length:Int) < r.2.2.1
  ·simp only[hl,decide_true,cond_true,if_true]
  have h12:¬ r.2.2.1=12:=by omega
  simp only[hl,h12,decide_false,cond_false,if_false,clone_eq ps hp.1,Option.bind_some]
  have key:∀ q:Pages,gp q->r.2.2.1.toNat < q.length->(if 0<=r.2.2.1/\r.2.2.1 < (q.length:Int) then ((q[r.2.2.1.toNat]?).bind fun x11=>(impl_applied.sem (x11,r.2.2.2.1,())).bind fun r12=>if 0<=r.2.2.1/\r.2.2.1 < (q.length:Int) then ((q[r.2.2.1.toNat]?).bind fun x13=>some (q.set r.2.2.1.toNat r12.1,(0:Int),())) else none) else none:Option impl_recorded.Out)=some (putR q r,(0:Int),()):=fun q hq hlt=>by
   have hc:0<=r.2.2.1/\r.2.2.1 < (q.length:Int):=by omega
   simp only[hc,and_self,if_true,List.getElem?_eq_getElem hlt,Option.bind_some]
   rw[implApplied_eq _ _ (hq.2 _ (List.getElem_mem hlt)) hg.2.2.2.2.2.2.1 (fun x hx=>by have:=hg.2.2.2.2.2.2.2 x hx;omega)]
   have hx:q.getD r.2.2.1.toNat []=q[r.2.2.1.toNat]:=by simp[hlt]
   unfold putR
   rw[hx]
   rfl
  by_cases he:r.2.2.1=(ps.length:Int)
  ·have hcc:ps.length+[newF].length<=CAP:=cap_ok (by have:=hp.1;simp only[List.length_cons,List.length_nil];omega)
   rw[if_pos he]
   simp only[he,decide_true,cond_true,implNew_eq,Option.bind_some,hcc,if_true]
   rw[<-he]
   refine key _ ⟨by simp;omega,fun p hm=>?_⟩ (by simp;omega)
   rcases List.mem_append.1 hm with hm | hm
   ·exact hp.2 p hm
   ·simp only[List.mem_singleton] at hm;subst hm;exact newF_len
  ·rw[if_neg he]
   simp only[he,decide_false,cond_false]
   exact key ps hp (by omega)
theorem editsBad_eq (c:Int):spec_l7Bad.sem (c,())=some ((c,([]:List Run),([]:List (List UInt8)),()),()):=by
 refine lift_eq (k:=0) fun k _=>(spec_l7Bad.raw_eq k _).trans ?_
 rfl
theorem specRecord_eq (ps:Pages) (r:Record) (hp:gp ps):spec_ApplyRecord.sem (ps,r,())=some (match stepF ps r with | .inl c=>((c,([]:List Run),([]:Pages),()),()) | .inr ps'=>(((0:Int),([]:List Run),ps',()),())):=by
 refine lift_eq (k:=14) fun k hk=>(spec_ApplyRecord.raw_eq k _).trans ?_
 unfold spec_ApplyRecord.p
 have h12:¬ (12:Int) < (ps.length:Int):=by have:=hp.1;omega
 simp only[h12,decide_false,cond_false]
 have main:spec_ApplyRecord.Q0 0 (ps,r,()) ()=some (match stepF ps r with | .inl c=>((c,([]:List Run),([]:Pages),()),()) | .inr ps'=>(((0:Int),([]:List Run),ps',()),())):=by
  show spec_ApplyRecord.q0 _ _=_
  unfold spec_ApplyRecord.q0 stepF
  simp only[specRec_eq,editsBad_eq,specCopies_eq ps hp,spec4Runs_eq,Option.bind_some]
  by_cases hr:recF r=0
  rotate_left
  ·simp only[hr,decide_false,Bool.not_false,cond_true,if_false]
  have hg:=recF_good hr
  simp only[hr,decide_true,Bool.not_true,cond_false,if_true]
  cases ht:inB r.1 2 4 with
  | false=>rfl
  | true=>
   simp only[Bool.not_true,cond_false,if_true]
   by_cases hl:(ps.length:Int) < r.2.2.1
   ·simp only[hl,decide_true,cond_true,if_true]
   have h12:¬ r.2.2.1=12:=by omega
   simp only[hl,h12,decide_false,cond_false,if_false]
   have key:∀ q:Pages,gp q->r.2.2.1.toNat < q.length->(if 0<=r.2.2.1/\r.2.2.1 < (q.length:Int) then ((q[r.2.2.1.toNat]?).bind fun x621=>(q[r.2.2.1.toNat]?).bind fun x622=>(spec_l3Apply.sem (x622,r.2.2.2.1,())).bind fun r623=>if 0<=r.2.2.1/\r.2.2.1 < (q.length:Int) then ((q[r.2.2.1.toNat]?).bind fun x624=>some (((0:Int),([]:List Run),q.set r.2.2.1.toNat r623.1,()),())) else none) else none:Option spec_ApplyRecord.Out)=some (((0:Int),([]:List Run),putR q r,()),()):=fun q hq hlt=>by
    have hc:0<=r.2.2.1/\r.2.2.1 < (q.length:Int):=by omega
    simp only[hc,and_self,if_true,List.getElem?_eq_getElem hlt,Option.bind_some]
    rw[specApplied_eq _ _ (hq.2 _ (List.getElem_mem hlt)) hg.2.2.2.2.2.2.1 (fun x hx=>by have:=hg.2.2.2.2.2.2.2 x hx;omega)]
    have hx:q.getD r.2.2.1.toNat []=q[r.2.2.1.toNat]:=by simp[hlt]
    unfold putR
    rw[hx]
    rfl
   by_cases he:r.2.2.1=(ps.length:Int)
   ·have hcc:ps.length+[newF].length<=CAP:=cap_ok (by have:=hp.1;simp only[List.length_cons,List.length_nil];omega)
    rw[if_pos he]
    simp only[he,decide_true,cond_true,specNew_eq,Option.bind_some,hcc,if_true]
    rw[<-he]
    refine key _ ⟨by simp;omega,fun p hm=>?_⟩ (by simp;omega)
    rcases List.mem_append.1 hm with hm | hm
    ·exact hp.2 p hm
    ·simp only[List.mem_singleton] at hm;subst hm;exact newF_len
   ·rw[if_neg he]
    simp only[he,decide_false,cond_false]
    exact key ps hp (by omega)
 have:=for_loop (B:=fun self v=>spec_ApplyRecord.B0 0 self (fun z=>spec_ApplyRecord.Q0 0 (ps,r,()) z) (ps,r,()) v) ps (fun (s:Unit) (i:Int)=>i) (fun _ s x=>.inr s) (fun s=>(match stepF ps r with | .inl c=>((c,([]:List Run),([]:Pages),()),()) | .inr ps'=>(((0:Int),([]:List Run),ps',()),()))) (fun i s=>True) (by have:=hp.1;rw[maxLen_val];omega)
  (fun i hi s self hI=>by
   show spec_ApplyRecord.b0 _ _ _ _=_
   unfold spec_ApplyRecord.b0
   have hlt:(i:Int) < (ps.length:Int):=by omega
   have hx:((ps[i].length:Nat):Int)=64:=by have:=hp.2 ps[i] (List.getElem_mem hi);omega
   simp only[hlt,decide_true,cond_true,Int.natCast_nonneg,if_true,Int.toNat_natCast,List.getElem?_eq_getElem hi,Option.bind_some,hx,Bool.not_true,cond_false])
  (fun _ _ _ _ _ _=>trivial) (fun s self hI=>by
   show spec_ApplyRecord.b0 _ _ _ _=_
   unfold spec_ApplyRecord.b0
   simp only[Int.lt_irrefl,decide_false,cond_false]
   exact main) () trivial k (by have:=hp.1;omega)
 rw[forI_fold (g:=fun s _=>s)] at this
 exact this
theorem zz_pages (ps:Pages) (h:gp ps):zz (.slc (.slc u8)) ps<=12*65:=by
 obtain ⟨h1,h2⟩:=h
 have main:∀ ps:Pages,(∀ p ∈ ps,p.length=64)->zz (.slc (.slc u8)) ps=65*ps.length:=by
  intro ps
  induction ps with
  | nil=>intro _;rfl
  | cons p ps ih=>
   intro h
   have h3:zz (.slc (.slc u8)) (p::ps)=zz (.slc u8) p+1+zz (.slc (.slc u8)) ps:=zz_cons (e:=.slc u8) p ps
   have h4:zz (.slc u8) p=p.length+sumW (zz u8) p:=rfl
   have h5:sumW (zz u8) p=0:=sumW_zero _ (fun _=>rfl) p
   have h6:=ih fun q hq=>h q (by simp[hq])
   have h7:=h p (by simp)
   rw[h3,h4,h5,h6,h7,List.length_cons]
   omega
 rw[main ps h2]
 omega
end OT
set_option linter.unusedVariables false
set_option linter.unusedSimpArgs false
namespace OT
open Go
def flatK (xs:List Tx):List Key:=xs.flatMap fun x=>x.2.2.2.1
end OT
set_option linter.unusedVariables false
set_option linter.unusedSimpArgs false
namespace OT
open Go
end OT
set_option linter.unusedVariables false
set_option linter.unusedSimpArgs false
namespace OT
open Go
structure TxsOk (xs:List Tx):Prop where
 len:xs.length<=4
 ch:∀ x ∈ xs,∀ c ∈ (x.2.1:List Change),chF c=0
 locks:∀ x ∈ xs,List.length x.2.2.2.1<=12
 undo:∀ x ∈ xs,List.length x.2.1<=12
 keys:∀ x ∈ xs,∀ k ∈ (x.2.2.2.1:List Key),keyB2 k=true
end OT
set_option linter.unusedVariables false
set_option linter.unusedSimpArgs false
namespace OT
open Go
end OT
set_option linter.unusedVariables false
set_option linter.unusedSimpArgs false
namespace OT
open Go
end OT
set_option linter.unusedVariables false
set_option linter.unusedSimpArgs false
set_option linter.unusedSectionVars false
namespace OT
open Go
theorem rl_cellF {d:List UInt8} (h:d.length<=64):List.length (cellF d).1.2.2.2.2.1.2.2.2.1<=64:=by
 unfold cellF
 split
 ·exact Nat.zero_le _
 ·split
  ·exact Nat.zero_le _
  ·show (d.drop 6).length<=64
   rw[List.length_drop]
   omega
theorem cellP_le {p:List UInt8} (s:Nat) (h:p.length<=64):(cellP p s).length<=64:=by
 unfold cellP
 rw[List.length_take,List.length_drop]
 omega
theorem rl_cellG {ps:Pgs} (h:rightP ps) (a b:Int):List.length (cellG ps a b).1.2.2.2.2.1.2.2.2.1<=64:=by
 unfold cellG
 cases hp:ps[a.toNat]? with
 | none=>exact Nat.zero_le _
 | some p=>
  have hm:=h.2 p (List.mem_of_getElem? hp)
  simp only
  split
  ·exact rl_cellF (cellP_le _ (by rw[hm.len];omega))
  ·exact Nat.zero_le _
theorem rt_rows {ps:Pgs} (h:viewC ps=0):∀ r ∈ rowsV ps,List.length r.2.2.2.1<=64:=fun r hr=>by
 have hv:=view_right h
 rw[rowsV_eq (view_ok h),(sortR_perm _).mem_iff,List.mem_map] at hr
 obtain ⟨x,hx,rfl⟩:=hr
 unfold seenF at hx
 rw[List.mem_flatMap] at hx
 obtain ⟨y,hy,hx⟩:=hx
 unfold seenX at hx
 split at hx
 ·cases hx
 ·rw[List.mem_singleton] at hx
  subst hx
  unfold seen1
  split
  ·exact rl_cellG hv.1 _ _
  ·obtain ⟨P,p,t,h1,h2,h3,rfl⟩:=spot_mem.1 hy
   exact rl_cellF (cellP_le _ (by rw[(hv.1.2 p (List.mem_of_getElem? h1)).len];omega))
theorem rows_len {ps:Pgs} (h:viewC ps=0):(rowsV ps).length<=192:=by
 unfold rowsV
 rw[List.length_map]
 exact viewL_len (view_ok h)
end OT
set_option linter.unusedVariables false
set_option linter.unusedSimpArgs false
namespace OT
open Go
def txB (xs:List Buffer) (t:Int):Int:=whereF (fun b=>decide (b.1=t)) 0 xs
structure okM (m:Miner):Prop where
 pl:List.length m.1<=1048576
 pages:∀ p ∈ (m.1:Pgs),p.length<=maxLen
 bl:List.length m.2.1<=1048576
 buf:∀ b ∈ (m.2.1:List Buffer),List.length b.2.1<=1048576/\∀ c ∈ (b.2.1:List Change),cl c
theorem specMAt_eq (m:Miner) (t:Int) (h:List.length m.2.1<=1048576):spec_l9At.sem (m,t,())=some (txB m.2.1 t,()):=by
 refine lift_eq (k:=1048577) fun k hk=>(spec_l9At.raw_eq k _).trans ?_
 have:=for_loop (B:=fun self v=>spec_l9At.B0 k self (fun z=>spec_l9At.Q0 k (m,t,()) z) (m,t,()) v) m.2.1 (fun (_:Unit) (i:Int)=>i) (fun i _ b=>if decide (b.1=t) then .inl ((i:Int),()) else .inr ()) (fun _=>((-1:Int),())) (fun _ _=>True) (by rw[maxLen_val];omega)
  (fun i hi s self _=>by
   show spec_l9At.b0 _ _ _ _=_
   unfold spec_l9At.b0
   have hlt:(i:Int) < (List.length m.2.1:Int):=by omega
   simp only[hlt,decide_true,cond_true,Int.natCast_nonneg,if_true,Int.toNat_natCast,List.getElem?_eq_getElem hi,Option.bind_some]
   cases decide ((m.2.1[i]).1=t) <;> rfl)
  (fun _ _ _ _ _ _=>trivial) (fun s self _=>by
   show spec_l9At.b0 _ _ _ _=_
   unfold spec_l9At.b0
   simp only[Int.lt_irrefl,decide_false,cond_false]
   rfl) () trivial k (by omega)
 rw[forI_where (fun b:Buffer=>decide (b.1=t))] at this
 exact this
theorem implMAt_eq (m:Miner) (t:Int) (h:List.length m.2.1<=1048576):impl_Miner_open.sem (m,t,())=some (txB m.2.1 t,()):=by
 have hone:∀ b:Buffer,impl_Miner_open_1.sem (b,t,())=some (decide (b.1=t),()):=fun b=>by
  refine lift_eq (k:=0) fun k hk=>(impl_Miner_open_1.raw_eq k _).trans ?_
  rfl
 have hidx:∀ f:Nat,slices_IndexFunc_Buffer.sem (m.2.1,((f,t):Nat×Int),())=some (txB m.2.1 t,()):=fun f=>by
  refine lift_eq (k:=1048577) fun k hk=>(slices_IndexFunc_Buffer.raw_eq k _).trans ?_
  have:=for_loop (B:=fun self v=>slices_IndexFunc_Buffer.B0 k self (fun z=>slices_IndexFunc_Buffer.Q0 k (m.2.1,(f,t),()) z) (m.2.1,(f,t),()) v) m.2.1 (fun (_:Unit) (i:Int)=>i) (fun i _ b=>if decide (b.1=t) then .inl ((i:Int),()) else .inr ()) (fun _=>((-1:Int),())) (fun _ _=>True) (by rw[maxLen_val];omega)
   (fun i hi s self _=>by
    show slices_IndexFunc_Buffer.b0 _ _ _ _=_
    unfold slices_IndexFunc_Buffer.b0
    have hlt:(i:Int) < (List.length m.2.1:Int):=by omega
    simp only[hlt,decide_true,cond_true,Int.natCast_nonneg,if_true,Int.toNat_natCast,List.getElem?_eq_getElem hi,Option.bind_some,hone]
    cases decide ((m.2.1[i]).1=t) <;> rfl)
   (fun _ _ _ _ _ _=>trivial) (fun s self _=>by
    show slices_IndexFunc_Buffer.b0 _ _ _ _=_
    unfold slices_IndexFunc_Buffer.b0
    simp only[Int.lt_irrefl,decide_false,cond_false]
    rfl) () trivial k (by omega)
  rw[forI_where (fun b:Buffer=>decide (b.1=t))] at this
  exact this
 refine lift_eq (k:=0) fun k hk=>(impl_Miner_open.raw_eq k _).trans ?_
 show impl_Miner_open.p _=_
 unfold impl_Miner_open.p
 rw[hidx]
 rfl
theorem right_gp {ps:Pgs} (h:rightP ps):gp ps:=⟨h.1,fun p hp=>(h.2 p hp).len⟩
structure fineM (m:Miner):Prop where
 pages:gp m.1
 bl:List.length m.2.1<=1048576
 buf:∀ b ∈ (m.2.1:List Buffer),List.length b.2.1<=1048576
abbrev miner0:Miner:=(([]:List (List UInt8)),([]:List Buffer),())
end OT
set_option linter.unusedVariables false
set_option linter.unusedSimpArgs false
set_option linter.unusedSectionVars false
namespace OT
open Go
theorem specBuffers_eq (xs:List Buffer) (hl:xs.length<=1048576) (h:∀ b ∈ xs,List.length b.2.1<=1048576):spec_l9Buffers.sem (xs,())=some (xs,()):=by
 refine lift_eq (k:=1048577) fun k hk=>(spec_l9Buffers.raw_eq k _).trans ?_
 have:=for_loop (B:=fun self v=>spec_l9Buffers.B0 k self (fun z=>spec_l9Buffers.Q0 k (xs,()) z) (xs,()) v) xs (fun (s:List Buffer) (i:Int)=>(s,i)) (fun _ s b=>.inr (s++[b])) (fun s=>(s,())) (fun i s=>s.length<=i) (by rw[maxLen_val];omega)
  (fun i hi s self hI=>by
   show spec_l9Buffers.b0 _ _ _ _=_
   unfold spec_l9Buffers.b0
   have hlt:(i:Int) < (xs.length:Int):=by omega
   have hb:=h _ (List.getElem_mem hi)
   simp only[hlt,decide_true,cond_true,Int.natCast_nonneg,if_true,Int.toNat_natCast,List.getElem?_eq_getElem hi,Option.bind_some]
   rw[if_pos (cap_ok (by simp only[List.length_nil];omega)),if_pos (cap_ok (by simp only[List.length_cons,List.length_nil];omega))]
   rfl)
  (fun i hi s s' hI hf=>by
   injection hf with hf;subst hf
   rw[List.length_append,List.length_cons,List.length_nil];omega) (fun s self _=>by
   show spec_l9Buffers.b0 _ _ _ _=_
   unfold spec_l9Buffers.b0
   simp only[Int.lt_irrefl,decide_false,cond_false]
   rfl) [] (by simp) k (by omega)
 rw[forI_fold,fold_self] at this
 exact this
theorem specMCopy_eq (m:Miner) (h:fineM m):spec_l9Copy.sem (m,())=some (m,()):=by
 refine lift_eq (k:=0) fun k hk=>(spec_l9Copy.raw_eq k _).trans ?_
 show spec_l9Copy.p _=_
 unfold spec_l9Copy.p
 simp only[specCopies_eq m.1 h.pages,specBuffers_eq m.2.1 h.bl h.buf,Option.bind_some]
end OT
set_option linter.unusedVariables false
set_option linter.unusedSimpArgs false
namespace OT
open Go
theorem implMOwn_eq (m:Miner) (h:fineM m):impl_Miner_own.sem (m,())=some (m,()):=by
 refine lift_eq (k:=1048577) fun k hk=>(impl_Miner_own.raw_eq k _).trans ?_
 unfold impl_Miner_own.p
 rw[implCopies_eq m.1 h.pages]
 simp only[Option.bind_some]
 have hone:∀ b:Buffer,List.length b.2.1<=1048576->impl_ownBuffer.sem (b,())=some (b,()):=fun b hb=>by
  refine lift_eq (k:=0) fun k hk=>(impl_ownBuffer.raw_eq k _).trans ?_
  show impl_ownBuffer.p _=_
  unfold impl_ownBuffer.p
  rw[cloneChange_eq _ hb]
  rfl
 have hb:=h.bl
 have:=for_loop (B:=fun self v=>impl_Miner_own.B0 k self (fun z=>impl_Miner_own.Q0 k (m,()) z) (m,()) v) m.2.1 (fun (s:List Buffer) (i:Int)=>(((m.1,s,()):Miner),i)) (fun _ s b=>.inr (s++[b])) (fun s=>(((m.1,s,()):Miner),())) (fun i s=>s.length<=i) (by rw[maxLen_val];omega)
  (fun i hi s self hI=>by
   show impl_Miner_own.b0 _ _ _ _=_
   unfold impl_Miner_own.b0
   have hlt:(i:Int) < (List.length m.2.1:Int):=by omega
   simp only[hlt,decide_true,cond_true,Int.natCast_nonneg,if_true,Int.toNat_natCast,List.getElem?_eq_getElem hi,Option.bind_some,hone _ (h.buf _ (List.getElem_mem hi))]
   rw[if_pos (cap_ok (by simp only[List.length_cons,List.length_nil];omega))])
  (fun i hi s s' hI hf=>by
   injection hf with hf;subst hf
   rw[List.length_append,List.length_cons,List.length_nil];omega) (fun s self _=>by
   show impl_Miner_own.b0 _ _ _ _=_
   unfold impl_Miner_own.b0
   simp only[Int.lt_irrefl,decide_false,cond_false]
   rfl) [] (by simp) k (by omega)
 rw[forI_fold,fold_self] at this
 exact this
end OT
set_option linter.unusedVariables false
set_option linter.unusedSimpArgs false
set_option linter.unusedSectionVars false
namespace OT
open Go
theorem pathB_self:∀ p:Path,pathB p p=true
 | []=>rfl
 | .fst::p=>pathB_self p
 | .snd::p=>pathB_self p
 | .idx i::p=>by simp[pathB,pathB_self p]
 | .aix i::p=>by simp[pathB,pathB_self p]
theorem where_some {α:Type} (p:α->Bool):∀ (xs:List α) (i:Nat),whereF p i xs=-1\/∃ (j:Nat) (hj:j < xs.length),whereF p i xs=((i+j:Nat):Int)/\p xs[j]=true
 | [],i=>.inl rfl
 | x::xs,i=>by
  simp only[whereF]
  by_cases hx:p x=true
  ·rw[if_pos hx];exact .inr ⟨0,by simp,by simp,hx⟩
  ·rw[if_neg hx]
   rcases where_some p xs (i+1) with h | ⟨j,hj,h1,h2⟩
   ·exact .inl h
   ·exact .inr ⟨j+1,by simpa using hj,by rw[h1];congr 1;omega,h2⟩
theorem txB_some (xs:List Buffer) (t:Int):txB xs t=-1\/∃ (j:Nat) (hj:j < xs.length),txB xs t=(j:Int)/\(xs[j]).1=t:=by
 rcases where_some (fun b:Buffer=>decide (b.1=t)) xs 0 with h | ⟨j,hj,h1,h2⟩
 ·exact .inl h
 ·exact .inr ⟨j,hj,by rw[txB,h1,Nat.zero_add],by simpa using h2⟩
abbrev badM (k:Int):MinerResult:=(k,false,false,(0:Int),([]:List Change),miner0,())
def tl2 (T:Nat) (c:Change):Prop:=List.length c.2.1.2.2.2.1<=T/\List.length c.2.2.2.1.2.2.2.1<=T
abbrev okB2 (T:Nat) (b:Buffer):Prop:=List.length b.2.1<=61/\∀ c ∈ (b.2.1:List Change),tl2 T c
theorem tl2_cl {T:Nat} {c:Change} (hT:T<=1048576) (h:tl2 T c):cl c:=⟨by unfold rl;rw[maxLen_val];have:=h.1;omega,by unfold rl;rw[maxLen_val];have:=h.2;omega⟩
structure goodM (T:Nat) (m:Miner):Prop where
 lo:64<=T
 hi:T<=1048576
 view:viewC m.1=0
 bl:List.length m.2.1<=8
 buf:∀ b ∈ (m.2.1:List Buffer),okB2 T b
theorem goodM.gp {T:Nat} {m:Miner} (h:goodM T m):gp m.1:=right_gp (view_ok h.view).right
theorem goodM.fine {T:Nat} {m:Miner} (h:goodM T m):fineM m:=⟨h.gp,by have:=h.bl;omega,fun b hb=>by have:=(h.buf b hb).1;omega⟩
theorem gp_max {ps:Pgs} (h:gp ps):∀ p ∈ ps,p.length<=maxLen:=fun p hp=>by rw[h.2 p hp,maxLen_val];omega
def bufG (j:Nat) (s:List Buffer) (c:Change):Sum (MinerResult×Unit) (List Buffer):=match s[j]? with
 | some b=>if (foldC b.2.1 c).1=0 then .inr (s.set j (b.1,(foldC b.2.1 c).2.1,b.2.2)) else .inl (badM (foldC b.2.1 c).1,())
 | none=>.inl (badM 4,())
def bufZ (ps:Pgs) (s:List Buffer):MinerResult×Unit:=(((0:Int),false,false,(0:Int),([]:List Change),(ps,s,()),()),())
def bufsF (j:Nat) (ps:Pgs) (s:List Buffer) (list:List Change):MinerResult:=(forI (fun _ s c=>bufG j s c) (bufZ ps) 0 list s).1
def bufsOk (T n:Nat) (s:List Buffer):Prop:=s.length=n/\∀ b ∈ s,okB2 T b
theorem foldC_ok {T:Nat} {xs:List Change} {c:Change} (hx:∀ x ∈ xs,tl2 T x) (hc:tl2 T c):okB2 T ((0:Int),(foldC xs c).2.1,()):=by
 unfold foldC
 split
 ·rename_i hf
  have h60:=(foldF_good hf).2.2
  split
  ·cases h:fold1 xs c with
   | none=>exact ⟨Nat.zero_le _,fun x hx=>by cases hx⟩
   | some r=>
    have:=fold1_len h
    exact ⟨by simp only;omega,fold1_all h hx hc fun x hx'=>⟨(hx x hx').1,hc.2⟩⟩
  ·exact ⟨Nat.zero_le _,fun x hx=>by cases hx⟩
 ·exact ⟨Nat.zero_le _,fun x hx=>by cases hx⟩
theorem bufG_ok {T j n:Nat} {s s':List Buffer} {c:Change} (h:bufsOk T n s) (hc:tl2 T c) (he:bufG j s c=.inr s'):bufsOk T n s':=by
 unfold bufG at he
 split at he
 ·rename_i b hb
  split at he
  ·injection he with he;subst he
   have hbm:=h.2 b (List.mem_of_getElem? hb)
   have hf:=foldC_ok (c:=c) hbm.2 hc
   refine ⟨by rw[List.length_set];exact h.1,fun y hy=>?_⟩
   rcases List.mem_or_eq_of_mem_set hy with hy | rfl
   ·exact h.2 y hy
   ·exact hf
  ·cases he
 ·cases he
def endM (m:Miner) (r:Record):MinerResult:=match m.2.1[(txB m.2.1 r.2.1).toNat]? with
 | some b=>((0:Int),true,decide (r.1=5),r.2.1,b.2.1,(m.1,m.2.1.take (txB m.2.1 r.2.1).toNat++m.2.1.drop ((txB m.2.1 r.2.1).toNat+1),()),())
 | none=>badM 4
def turnM (m:Miner) (r:Record):MinerResult:=match stepF m.1 r with
 | .inl c=>badM c
 | .inr ps=>if viewC ps=0 then (if r.1=4 then (if mrgF (rowsV m.1) (rowsV ps)=[] then ((0:Int),false,false,(0:Int),([]:List Change),(ps,m.2.1,()),()) else badM 8) else
   if txB m.2.1 r.2.1 < 0 then badM 4 else bufsF (txB m.2.1 r.2.1).toNat ps m.2.1 (mrgF (rowsV m.1) (rowsV ps))) else badM (viewC ps)
def stepM (m:Miner) (r:Record):MinerResult:=if recF r=0 then
    (if r.1=1 then (if 0<=txB m.2.1 r.2.1 then badM 6 else if 8<=(List.length m.2.1:Int) then badM 2 else ((0:Int),false,false,(0:Int),([]:List Change),(m.1,m.2.1++[(r.2.1,([]:List Change),())],()),()))
     else if r.1=5\/r.1=6 then (if txB m.2.1 r.2.1 < 0 then badM 4 else endM m r) else turnM m r)
 else badM (recF r)
theorem stepF_ps {ps ps':Pgs} {r:Record} (hp:gp ps) (h:stepF ps r=.inr ps'):gp ps':=stepF_good hp h
theorem mrg_tl {T:Nat} (hT:64<=T) {B A:Pgs} (hB:viewC B=0) (hA:viewC A=0):∀ c ∈ mrgF (rowsV B) (rowsV A),tl2 T c:=fun c hc=>by
 have:=mrg_rows (q:=fun r=>List.length r.2.2.2.1<=64) (Nat.zero_le _) _ _ _ (rt_rows hB) (rt_rows hA) c hc
 exact ⟨by have:=this.1;omega,by have:=this.2;omega⟩
theorem mrg_small {B A:Pgs} (hB:viewC B=0) (hA:viewC A=0):(mrgF (rowsV B) (rowsV A)).length<=384:=by
 have h1:=rows_len hB;have h2:=rows_len hA
 have:=mrgF_len ((rowsV B).length+(rowsV A).length) (rowsV B) (rowsV A)
 unfold mrgF;omega
theorem delB_eq (xs:List Buffer) (i:Nat) (hi:i < xs.length) (hl:xs.length<=1000):slices_Delete_Buffer.sem (xs,(i:Int),w64 ((i:Int)+1),())=some (xs.take i++xs.drop (i+1),()):=by
 rw[w64_in (by omega)]
 have h1:(0:Int)<=(i:Int)/\(i:Int)<=(i:Int)+1/\(i:Int)+1<=(xs.length:Int):=⟨by omega,by omega,by omega⟩
 show (if (0:Int)<=(i:Int)/\(i:Int)<=(i:Int)+1/\(i:Int)+1<=(xs.length:Int) then some (xs.take (i:Int).toNat++xs.drop ((i:Int)+1).toNat,()) else none)=_
 rw[if_pos h1]
 rfl
theorem delIn_one (j:Nat) (h:j<=1000):delIn (j:Int) (w64 ((j:Int)+1)) j=true:=by
 rw[w64_in (by omega)]
 simp only[delIn,Bool.and_eq_true,decide_eq_true_eq]
 omega
theorem kinds {r:Record} (h:recF r=0) (h1:¬ r.1=1) (h5:¬ r.1=5) (h6:¬ r.1=6):r.1=2\/r.1=3\/r.1=4:=by
 have:=recF_good h;omega
theorem implStep_eq {T:Nat} {m:Miner} (r:Record) (h:goodM T m):impl_Miner_step.sem (m,r,())=some (stepM m r,()):=by
 have hbl:=h.bl
 refine lift_eq (k:=3000) fun k hk=>(impl_Miner_step.raw_eq k _).trans ?_
 unfold impl_Miner_step.p stepM
 simp only[implRec_eq,Option.bind_some]
 by_cases hr:recF r=0
 rotate_left
 ·simp only[hr,decide_false,Bool.not_false,cond_true,if_false]
 simp only[hr,decide_true,Bool.not_true,cond_false,if_true,implMAt_eq m _ (show List.length m.2.1<=1048576 by omega),implMOwn_eq m h.fine,Option.bind_some]
 have hend:∀ b:Bool,¬ txB m.2.1 r.2.1 < 0->b=decide (r.1=5)->(if 0<=txB m.2.1 r.2.1/\txB m.2.1 r.2.1 < (List.length m.2.1:Int) then ((m.2.1[(txB m.2.1 r.2.1).toNat]?).bind fun x6=>(m.2.1[(txB m.2.1 r.2.1).toNat]?).bind fun x7=>(m.2.1[(txB m.2.1 r.2.1).toNat]?).bind fun x8=>bif delIn (txB m.2.1 r.2.1) (w64 (txB m.2.1 r.2.1+(1:Int))) (txB m.2.1 r.2.1).toNat then ((slices_Delete_Buffer.sem (m.2.1.set (txB m.2.1 r.2.1).toNat x8,txB m.2.1 r.2.1,w64 (txB m.2.1 r.2.1+(1:Int)),())).bind fun r9=>some (((0:Int),true,b,x7.1,x7.2.1,(m.1,r9.1,m.2.2),()),())) else none) else none)=some (endM m r,()):=fun b h0 hb=>by
  rcases txB_some m.2.1 r.2.1 with e | ⟨j,hj,e,ht⟩
  ·rw[e] at h0;exact absurd (by decide) h0
  ·unfold endM
   rw[e]
   simp only[Int.toNat_natCast,List.getElem?_eq_getElem hj,Option.bind_some,delIn_one j (by omega),cond_true,List.set_getElem_self,delB_eq m.2.1 j hj (by omega),ht,hb]
   rw[if_pos ⟨by omega,by omega⟩]
 by_cases h1:r.1=1
 ·simp only[h1,decide_true,cond_true,if_true]
  by_cases h2:0<=txB m.2.1 r.2.1
  ·simp only[h2,decide_true,cond_true,if_true]
  ·simp only[h2,decide_false,cond_false,if_false]
   by_cases h3:8<=(List.length m.2.1:Int)
   ·simp only[h3,decide_true,cond_true,if_true]
   ·simp only[h3,decide_false,cond_false,if_false]
    rw[if_pos (cap_ok (by simp only[List.length_cons,List.length_nil];omega))]
 simp only[h1,decide_false,cond_false,if_false]
 by_cases h5:r.1=5
 ·simp only[h5,decide_true,cond_true,true_or,if_true]
  by_cases h2:txB m.2.1 r.2.1 < 0
  ·simp only[h2,decide_true,cond_true,if_true]
  ·simp only[h2,decide_false,cond_false,if_false]
   exact hend true h2 (by rw[h5];rfl)
 simp only[h5,decide_false,cond_false,false_or]
 by_cases h6:r.1=6
 ·simp only[h6,decide_true,cond_true,if_true]
  by_cases h2:txB m.2.1 r.2.1 < 0
  ·simp only[h2,decide_true,cond_true,if_true]
  ·simp only[h2,decide_false,cond_false,if_false]
   exact hend _ h2 (by rw[h6];rfl)
 simp only[h6,decide_false,cond_false,if_false]
 unfold turnM
 simp only[implRecorded_eq m.1 r h.gp hr,Option.bind_some]
 cases hs:stepF m.1 r with
 | inl c=>
  have:=stepF_bad hs
  simp only[this,decide_false,Bool.not_false,cond_true]
 | inr ps=>
  have hgp:=stepF_ps h.gp hs
  simp only[decide_true,Bool.not_true,cond_false,implView_eq ps (gp_max hgp),Option.bind_some]
  by_cases hv:viewC ps=0
  rotate_left
  ·simp only[hv,decide_false,Bool.not_false,cond_true,if_false]
  have hl1:=viewL_len (view_ok h.view);have hl2:=viewL_len (view_ok hv)
  simp only[hv,decide_true,Bool.not_true,cond_false,if_true,implView_eq m.1 (gp_max h.gp),seenRows_eq _ (show (viewL m.1).length<=1000 by omega),seenRows_eq _ (show (viewL ps).length<=1000 by omega),Option.bind_some]
  have hbt:impl_between.sem ((viewL m.1).map (·.1),(viewL ps).map (·.1),())=some (mrgF (rowsV m.1) (rowsV ps),()):=implBetween_eq (rowsV m.1) (rowsV ps) (by have:=rows_len h.view;omega) (by have:=rows_len hv;omega)
  simp only[hbt,implCopies_eq ps hgp,Option.bind_some]
  by_cases h4:r.1=4
  ·simp only[h4,decide_true,Bool.not_true,cond_true,cond_false,if_true]
   cases hm:mrgF (rowsV m.1) (rowsV ps) with
   | nil=>rfl
   | cons x xs=>
    have:(0:Int) < ((x::xs).length:Int):=by simp only[List.length_cons];omega
    simp only[this,decide_true,cond_true,reduceCtorEq,if_false]
  simp only[h4,decide_false,Bool.not_false,cond_true,cond_false,if_false]
  by_cases h2:txB m.2.1 r.2.1 < 0
  ·simp only[h2,decide_true,cond_true,if_true]
  simp only[h2,decide_false,cond_false,if_false]
  rcases txB_some m.2.1 r.2.1 with e | ⟨j,hj,e,ht⟩
  ·rw[e] at h2;exact absurd (by decide) h2
  rw[e]
  simp only[Int.toNat_natCast]
  have hcl:=mrg_tl h.lo h.view hv
  have hsm:=mrg_small h.view hv
  generalize mrgF (rowsV m.1) (rowsV ps)=list at hcl hsm
  have:=for_loop (B:=fun self v=>impl_Miner_step.B0 k self (fun z=>impl_Miner_step.Q0 k (m,r,()) (j:Int) list (list.length:Int) z) (m,r,()) (j:Int) list (list.length:Int) v) list (fun (s:List Buffer) (i:Int)=>(((ps,s,()):Miner),i)) (fun _ s c=>bufG j s c) (bufZ ps) (fun i s=>bufsOk T (List.length m.2.1) s) (by rw[maxLen_val];omega)
   (fun i hi s self hI=>by
    show impl_Miner_step.b0 _ _ _ _ _ _ _=_
    unfold impl_Miner_step.b0 bufG
    have hlt:(i:Int) < (list.length:Int):=by omega
    have hjs:j < s.length:=by rw[hI.1];exact hj
    have hjs':(j:Int) < (s.length:Int):=by omega
    have hb:=hI.2 _ (List.getElem_mem hjs)
    simp only[hlt,hjs',decide_true,cond_true,Int.natCast_nonneg,true_and,if_true,Int.toNat_natCast,List.getElem?_eq_getElem hi,List.getElem?_eq_getElem hjs,Option.bind_some,pathB_self,Bool.and_self,implFold_eq _ _ (show List.length (s[j]).2.1<=1048576 by have:=hb.1;omega) (fun x hx=>tl2_cl h.hi (hb.2 x hx)) (tl2_cl h.hi (hcl _ (List.getElem_mem hi)))]
    by_cases hf:(foldC (s[j]).2.1 list[i]).1=0
    ·simp only[hf,decide_true,Bool.not_true,cond_false,if_true]
    ·simp only[hf,decide_false,Bool.not_false,cond_true,if_false])
   (fun i hi s s' hI hf=>bufG_ok hI (hcl _ (List.getElem_mem hi)) hf) (fun s self _=>by
    show impl_Miner_step.b0 _ _ _ _ _ _ _=_
    unfold impl_Miner_step.b0
    simp only[Int.lt_irrefl,decide_false,cond_false]
    rfl) m.2.1 ⟨rfl,h.buf⟩ k (by omega)
  exact this
theorem specBadM_eq (c:Int):spec_l9Bad.sem (c,())=some (badM c,()):=by
 refine lift_eq (k:=0) fun k hk=>(spec_l9Bad.raw_eq k _).trans ?_
 rfl
theorem specEnd_eq {T:Nat} {m:Miner} (r:Record) (h:goodM T m):spec_l9End.sem (m,r,())=some (if txB m.2.1 r.2.1 < 0 then badM 4 else endM m r,()):=by
 have hbl:=h.bl
 refine lift_eq (k:=0) fun k hk=>(spec_l9End.raw_eq k _).trans ?_
 show spec_l9End.p _=_
 unfold spec_l9End.p endM
 simp only[specMAt_eq m _ (show List.length m.2.1<=1048576 by omega),specBadM_eq,Option.bind_some]
 by_cases h2:txB m.2.1 r.2.1 < 0
 ·simp only[h2,decide_true,cond_true,if_true]
 simp only[h2,decide_false,cond_false,if_false,specMCopy_eq m h.fine,Option.bind_some]
 rcases txB_some m.2.1 r.2.1 with e | ⟨j,hj,e,ht⟩
 ·rw[e] at h2;exact absurd (by decide) h2
 rw[e,w64_in (by omega)]
 have hcap:∀ l:List Buffer,l.length<=1000->([]:List Buffer).length+l.length<=CAP:=fun l hl=>cap_ok (by simp only[List.length_nil];omega)
 rw[if_pos ⟨by omega,by omega⟩]
 simp only[Int.toNat_natCast,show ((j:Int)+1).toNat=j+1 from by omega,List.drop_zero,List.nil_append,List.take_length]
 rw[if_pos (hcap _ (by rw[List.length_take];omega)),if_pos (by omega),List.getElem?_eq_getElem hj]
 simp only[Option.bind_some]
 rw[if_pos ⟨by omega,by omega⟩,if_pos (cap_ok (by rw[List.length_take,List.length_drop];omega))]
theorem specTurn_eq {T:Nat} {m:Miner} (r:Record) (h:goodM T m) (hr:recF r=0):spec_l9Turn.sem (m,r,())=some (turnM m r,()):=by
 have hbl:=h.bl
 refine lift_eq (k:=3000) fun k hk=>(spec_l9Turn.raw_eq k _).trans ?_
 unfold spec_l9Turn.p turnM
 simp only[specRecord_eq m.1 r h.gp,specBadM_eq,Option.bind_some]
 cases hs:stepF m.1 r with
 | inl c=>
  have:=stepF_bad hs
  simp only[this,decide_false,Bool.not_false,cond_true]
 | inr ps=>
  have hgp:=stepF_ps h.gp hs
  simp only[decide_true,Bool.not_true,cond_false,specView_eq ps (gp_max hgp),Option.bind_some]
  by_cases hv:viewC ps=0
  rotate_left
  ·simp only[hv,decide_false,Bool.not_false,cond_true,if_false]
  simp only[hv,decide_true,Bool.not_true,cond_false,if_true,specRowsIn_eq h.view,specRowsIn_eq hv,specChanges_eq (rowsV m.1) (rowsV ps) (rowsV_up (view_ok h.view)) (rowsV_up (view_ok hv)) (by have:=rows_len h.view;omega) (by have:=rows_len hv;omega),specMCopy_eq m h.fine,specMAt_eq m _ (show List.length m.2.1<=1048576 by omega),Option.bind_some]
  by_cases h4:r.1=4
  ·simp only[h4,decide_true,cond_true,if_true]
   cases hm:mrgF (rowsV m.1) (rowsV ps) with
   | nil=>rfl
   | cons x xs=>
    have:(0:Int) < ((x::xs).length:Int):=by simp only[List.length_cons];omega
    simp only[this,decide_true,cond_true,reduceCtorEq,if_false]
  simp only[h4,decide_false,cond_false,if_false]
  by_cases h2:txB m.2.1 r.2.1 < 0
  ·simp only[h2,decide_true,cond_true,if_true]
  simp only[h2,decide_false,cond_false,if_false]
  rcases txB_some m.2.1 r.2.1 with e | ⟨j,hj,e,ht⟩
  ·rw[e] at h2;exact absurd (by decide) h2
  rw[e]
  simp only[Int.toNat_natCast]
  have hcl:=mrg_tl h.lo h.view hv
  have hsm:=mrg_small h.view hv
  generalize mrgF (rowsV m.1) (rowsV ps)=list at hcl hsm
  have:=for_loop (B:=fun self v=>spec_l9Turn.B0 k self (fun z=>spec_l9Turn.Q0 k (m,r,()) list (j:Int) z) (m,r,()) list (j:Int) v) list (fun (s:List Buffer) (i:Int)=>(((ps,s,()):Miner),i)) (fun _ s c=>bufG j s c) (bufZ ps) (fun i s=>bufsOk T (List.length m.2.1) s) (by rw[maxLen_val];omega)
   (fun i hi s self hI=>by
    show spec_l9Turn.b0 _ _ _ _ _ _=_
    unfold spec_l9Turn.b0 bufG
    have hlt:(i:Int) < (list.length:Int):=by omega
    have hjs:j < s.length:=by rw[hI.1];exact hj
    have hjs':(j:Int) < (s.length:Int):=by omega
    have hb:=hI.2 _ (List.getElem_mem hjs)
    simp only[hlt,hjs',decide_true,cond_true,Int.natCast_nonneg,true_and,if_true,Int.toNat_natCast,List.getElem?_eq_getElem hi,List.getElem?_eq_getElem hjs,Option.bind_some,pathB_self,Bool.and_self,specFold_eq _ _ (show List.length (s[j]).2.1<=1048576 by have:=hb.1;omega) (fun x hx=>tl2_cl h.hi (hb.2 x hx)) (tl2_cl h.hi (hcl _ (List.getElem_mem hi))),specBadM_eq]
    by_cases hf:(foldC (s[j]).2.1 list[i]).1=0
    ·simp only[hf,decide_true,Bool.not_true,cond_false,if_true]
    ·simp only[hf,decide_false,Bool.not_false,cond_true,if_false])
   (fun i hi s s' hI hf=>bufG_ok hI (hcl _ (List.getElem_mem hi)) hf) (fun s self _=>by
    show spec_l9Turn.b0 _ _ _ _ _ _=_
    unfold spec_l9Turn.b0
    simp only[Int.lt_irrefl,decide_false,cond_false]
    rfl) m.2.1 ⟨rfl,h.buf⟩ k (by omega)
  exact this
theorem specStep_eq {T:Nat} {m:Miner} (r:Record) (h:goodM T m) (hr:recF r=0):spec_l9Step.sem (m,r,())=some (stepM m r,()):=by
 have hbl:=h.bl
 refine lift_eq (k:=0) fun k hk=>(spec_l9Step.raw_eq k _).trans ?_
 show spec_l9Step.p _=_
 unfold spec_l9Step.p stepM
 simp only[hr,if_true,specEnd_eq r h,specTurn_eq r h hr,specMAt_eq m _ (show List.length m.2.1<=1048576 by omega),specMCopy_eq m h.fine,specBadM_eq,Option.bind_some]
 have hcap:List.length m.2.1+[((r.2.1,([]:List Change),()):Buffer)].length<=CAP:=cap_ok (by simp only[List.length_cons,List.length_nil];omega)
 by_cases h5:r.1=5
 ·simp only[h5,decide_true,cond_true,true_or,if_true,show ¬ ((5:Int)=1) from by decide,if_false]
 by_cases h6:r.1=6
 ·simp only[h6,decide_true,decide_false,cond_true,cond_false,or_true,if_true,show ¬ ((6:Int)=1) from by decide,show ¬ ((6:Int)=5) from by decide,if_false]
 by_cases h1:r.1=1
 ·simp only[h1,decide_true,cond_true,if_true,show ¬ ((1:Int)=5) from by decide,show ¬ ((1:Int)=6) from by decide,decide_false,cond_false]
  by_cases h2:0<=txB m.2.1 r.2.1
  ·simp only[h2,decide_true,cond_true,if_true]
  ·simp only[h2,decide_false,cond_false,if_false]
   by_cases h3:8<=(List.length m.2.1:Int)
   ·simp only[h3,decide_true,cond_true,if_true]
   ·simp only[h3,decide_false,cond_false,if_false,if_pos hcap]
 simp only[h1,h5,h6,decide_false,cond_false,or_self,if_false]
end OT
set_option linter.unusedVariables false
set_option linter.unusedSimpArgs false
set_option linter.unusedSectionVars false
namespace OT
open Go
def goodR (T:Nat) (R:MinerResult):Prop:=(R.1=0->goodM T R.2.2.2.2.2.1)/\okB2 T ((0:Int),R.2.2.2.2.1,())/\zz tMiner R.2.2.2.2.2.1<=2000*T
theorem zz_change {T:Nat} {c:Change} (h:tl2 T c):zz tChange c<=2*T:=by
 have h1:zz tChange c=0+((0+(0+(0+(List.length c.2.1.2.2.2.1+0))))+(0+((0+(0+(0+(List.length c.2.2.2.1.2.2.2.1+0))))+0))):=rfl
 have:=h.1;have:=h.2
 omega
theorem zz_changes {T:Nat}:∀ {xs:List Change},(∀ c ∈ xs,tl2 T c)->zz (.slc tChange) xs<=(2*T+1)*xs.length
 | [],_=>Nat.zero_le _
 | c::xs,h=>by
  have h1:zz (.slc tChange) (c::xs)=zz tChange c+1+zz (.slc tChange) xs:=zz_cons (e:=tChange) c xs
  have h2:=zz_change (h c List.mem_cons_self)
  have h3:=zz_changes (xs:=xs) fun x hx=>h x (List.mem_cons_of_mem _ hx)
  refine Nat.le_trans (Nat.le_of_eq h1) ?_
  rw[List.length_cons,Nat.mul_succ]
  omega
theorem zz_buffer {T:Nat} {b:Buffer} (h:okB2 T b):zz tBuffer b<=61*(2*T+1):=by
 have h1:zz tBuffer b=0+(zz (.slc tChange) b.2.1+0):=rfl
 have h2:=zz_changes h.2
 have h3:(2*T+1)*List.length b.2.1<=(2*T+1)*61:=Nat.mul_le_mul_left _ h.1
 omega
theorem zz_buffers {T:Nat}:∀ {xs:List Buffer},(∀ b ∈ xs,okB2 T b)->zz (.slc tBuffer) xs<=(61*(2*T+1)+1)*xs.length
 | [],_=>Nat.zero_le _
 | b::xs,h=>by
  have h1:zz (.slc tBuffer) (b::xs)=zz tBuffer b+1+zz (.slc tBuffer) xs:=zz_cons (e:=tBuffer) b xs
  have h2:=zz_buffer (h b List.mem_cons_self)
  have h3:=zz_buffers (xs:=xs) fun x hx=>h x (List.mem_cons_of_mem _ hx)
  refine Nat.le_trans (Nat.le_of_eq h1) ?_
  rw[List.length_cons,Nat.mul_succ]
  omega
theorem zz_miner {T:Nat} {m:Miner} (h:goodM T m):zz tMiner m<=2000*T:=by
 have h1:zz tMiner m=zz (.slc (.slc u8)) m.1+(zz (.slc tBuffer) m.2.1+0):=rfl
 have h2:=zz_pages m.1 h.gp
 have h3:=zz_buffers h.buf
 have h4:(61*(2*T+1)+1)*List.length m.2.1<=(61*(2*T+1)+1)*8:=Nat.mul_le_mul_left _ h.bl
 have:=h.lo
 omega
theorem bad_good {T:Nat} {k:Int} (hk:k≠0):goodR T (badM k):=⟨fun h=>absurd h hk,⟨Nat.zero_le _,fun _ h=>by cases h⟩,Nat.zero_le _⟩
theorem good_of {T:Nat} {m:Miner} {a b:Bool} {t:Int} {l:List Change} (h:goodM T m) (hl:okB2 T ((0:Int),l,())):goodR T ((0:Int),a,b,t,l,m,()):=⟨fun _=>h,hl,zz_miner h⟩
theorem bufs_good {T j n:Nat} {ps:Pgs} (hlo:64<=T) (hhi:T<=1048576) (hv:viewC ps=0) (hn:n<=8):∀ (list:List Change) (i:Nat) (s:List Buffer),(∀ c ∈ list,tl2 T c)->bufsOk T n s->goodR T (forI (fun _ s c=>bufG j s c) (bufZ ps) i list s).1
 | [],i,s,_,h=>good_of ⟨hlo,hhi,hv,by show s.length<=8;rw[h.1];exact hn,h.2⟩ ⟨Nat.zero_le _,fun _ h=>by cases h⟩
 | c::list,i,s,hc,h=>by
  simp only[forI]
  cases hg:bufG j s c with
  | inl o=>
   simp only
   unfold bufG at hg
   split at hg
   ·split at hg
    ·cases hg
    ·rename_i hf
     injection hg with hg;subst hg
     exact bad_good hf
   ·injection hg with hg;subst hg
    exact bad_good (by decide)
  | inr s'=>exact bufs_good hlo hhi hv hn list (i+1) s' (fun x hx=>hc x (List.mem_cons_of_mem _ hx)) (bufG_ok h (hc c List.mem_cons_self) hg)
theorem stepM_good {T:Nat} {m:Miner} (r:Record) (h:goodM T m):goodR T (stepM m r):=by
 have hnil:okB2 T ((0:Int),([]:List Change),()):=⟨Nat.zero_le _,fun _ h=>by cases h⟩
 unfold stepM
 split
 rotate_left
 ·rename_i hr;exact bad_good hr
 rename_i hr
 split
 ·split
  ·exact bad_good (by decide)
  ·split
   ·exact bad_good (by decide)
   ·rename_i h8
    refine good_of ⟨h.lo,h.hi,h.view,?_,fun b hb=>?_⟩ hnil
    ·show (m.2.1++[((r.2.1,([]:List Change),()):Buffer)]).length<=8
     rw[List.length_append,List.length_cons,List.length_nil]
     omega
    ·rcases List.mem_append.1 hb with hb | hb
     ·exact h.buf b hb
     ·rw[List.mem_singleton] at hb;subst hb;exact hnil
 split
 ·split
  ·exact bad_good (by decide)
  ·unfold endM
   split
   ·rename_i b hb
    refine good_of ⟨h.lo,h.hi,h.view,?_,fun y hy=>?_⟩ (h.buf b (List.mem_of_getElem? hb))
    ·have:=h.bl
     show (m.2.1.take _++m.2.1.drop _).length<=8
     rw[List.length_append,List.length_take,List.length_drop]
     omega
    ·rcases List.mem_append.1 hy with hy | hy
     ·exact h.buf y (List.mem_of_mem_take hy)
     ·exact h.buf y (List.mem_of_mem_drop hy)
   ·exact bad_good (by decide)
 unfold turnM
 cases hs:stepF m.1 r with
 | inl c=>exact bad_good (stepF_bad hs)
 | inr ps=>
  simp only
  split
  rotate_left
  ·rename_i hv;exact bad_good hv
  rename_i hv
  split
  ·split
   ·exact good_of ⟨h.lo,h.hi,hv,h.bl,h.buf⟩ hnil
   ·exact bad_good (by decide)
  split
  ·exact bad_good (by decide)
  exact bufs_good h.lo h.hi hv h.bl _ 0 _ (mrg_tl h.lo h.view hv) ⟨rfl,h.buf⟩
theorem miner0_good:goodM 64 miner0:=⟨Nat.le_refl _,by decide,by decide,Nat.zero_le _,fun _ h=>by cases h⟩
end OT
set_option linter.unusedVariables false
set_option linter.unusedSimpArgs false
set_option linter.unusedSectionVars false
namespace OT
open Go
abbrev badMd (k:Int):MinedResult:=(k,([]:List Buffer),miner0,())
def mineG (s:List Buffer×Miner) (r:Record):Sum MinedResult (List Buffer×Miner):=if (stepM s.2 r).1=0 then
    .inr (if (stepM s.2 r).2.2.1 then (s.1++[((stepM s.2 r).2.2.2.1,(stepM s.2 r).2.2.2.2.1,())],(stepM s.2 r).2.2.2.2.2.1) else (s.1,(stepM s.2 r).2.2.2.2.2.1))
 else .inl (badMd (stepM s.2 r).1)
def mineZ (s:List Buffer×Miner):MinedResult:=((0:Int),s.1,s.2,())
def mineF (xs:List Record):MinedResult:=forI (fun _ s r=>mineG s r) mineZ 0 xs ([],miner0)
def mineI (i:Nat) (s:List Buffer×Miner):Prop:=s.1.length<=i/\(∀ b ∈ s.1,okB2 64 b)/\goodM 64 s.2
theorem mine_next {i:Nat} {s s':List Buffer×Miner} {r:Record} (h:mineI i s) (he:mineG s r=.inr s'):mineI (i+1) s':=by
 obtain ⟨h1,h2,h3⟩:=h
 have hg:=stepM_good r h3
 unfold mineG at he
 split at he
 ·rename_i h0
  injection he with he;subst he
  split
  ·refine ⟨by simp only[List.length_append,List.length_cons,List.length_nil];omega,fun b hb=>?_,hg.1 h0⟩
   rcases List.mem_append.1 hb with hb | hb
   ·exact h2 b hb
   ·rw[List.mem_singleton] at hb;subst hb;exact hg.2.1
  ·exact ⟨Nat.le_succ_of_le h1,h2,hg.1 h0⟩
 ·cases he
theorem mine0_ok:mineI 0 ([],miner0):=⟨Nat.le_refl _,fun _ h=>(by cases h),miner0_good⟩
theorem mineF_good:∀ (xs:List Record) (i:Nat) (s:List Buffer×Miner),mineI i s->((forI (fun _ s r=>mineG s r) mineZ i xs s).1≠0/\(forI (fun _ s r=>mineG s r) mineZ i xs s)=badMd (forI (fun _ s r=>mineG s r) mineZ i xs s).1)\/((forI (fun _ s r=>mineG s r) mineZ i xs s).1=0/\mineI (i+xs.length) ((forI (fun _ s r=>mineG s r) mineZ i xs s).2.1,(forI (fun _ s r=>mineG s r) mineZ i xs s).2.2.1))
 | [],i,s,h=>.inr ⟨rfl,h⟩
 | r::xs,i,s,h=>by
  simp only[forI]
  cases hg:mineG s r with
  | inl o=>
   left
   unfold mineG at hg
   split at hg
   ·cases hg
   ·rename_i h0
    injection hg with hg;subst hg
    exact ⟨h0,rfl⟩
  | inr s'=>
   have:=mineF_good xs (i+1) s' (mine_next h hg)
   rw[List.length_cons,show i+(xs.length+1)=i+1+xs.length by omega]
   exact this
theorem implMine_eq (xs:List Record) (hx:xs.length<=1048576):impl_mine.sem (xs,())=some ((mineF xs).2.1,(mineF xs).2.2.1,(mineF xs).1,()):=by
 refine lift_eq (k:=xs.length+1) fun k hk=>(impl_mine.raw_eq k _).trans ?_
 have:=for_loop (B:=fun self v=>impl_mine.B0 k self (fun z=>impl_mine.Q0 k (xs,()) z) (xs,()) v) xs (fun (s:List Buffer×Miner) (i:Int)=>(s.1,s.2,i)) (fun _ s r=>match mineG s r with | .inl o=>.inl (o.2.1,o.2.2.1,o.1,()) | .inr s'=>.inr s') (fun s=>(s.1,s.2,(0:Int),())) mineI (by rw[maxLen_val];omega)
  (fun i hi s self hI=>by
   show impl_mine.b0 _ _ _ _=_
   unfold impl_mine.b0 mineG
   have hlt:(i:Int) < (xs.length:Int):=by omega
   have c1:∀ y:Buffer,s.1.length+[y].length<=CAP:=fun y=>cap_ok (by have:=hI.1;simp only[List.length_cons,List.length_nil];omega)
   simp only[hlt,decide_true,cond_true,Int.natCast_nonneg,if_true,Int.toNat_natCast,List.getElem?_eq_getElem hi,Option.bind_some,implStep_eq xs[i] hI.2.2,c1]
   by_cases h0:(stepM s.2 xs[i]).1=0
   ·simp only[h0,decide_true,Bool.not_true,cond_false,if_true]
    cases (stepM s.2 xs[i]).2.2.1 <;> rfl
   ·simp only[h0,decide_false,Bool.not_false,cond_true,if_false])
  (fun i hi s s' hI hf=>by
   refine mine_next (r:=xs[i]) hI ?_
   cases hg:mineG s xs[i] with
   | inl o=>rw[hg] at hf;cases hf
   | inr q=>
    rw[hg] at hf
    simp only at hf
    injection hf with hf
    rw[hf]) (fun s self _=>by
   show impl_mine.b0 _ _ _ _=_
   unfold impl_mine.b0
   simp only[Int.lt_irrefl,decide_false,cond_false]
   rfl) ([],miner0) mine0_ok k (by omega)
 have hq:∀ (xs:List Record) (i:Nat) (s:List Buffer×Miner),forI (fun _ s r=>match mineG s r with | .inl o=>.inl (o.2.1,o.2.2.1,o.1,()) | .inr s'=>.inr s') (fun s=>(s.1,s.2,(0:Int),())) i xs s=((forI (fun _ s r=>mineG s r) mineZ i xs s).2.1,(forI (fun _ s r=>mineG s r) mineZ i xs s).2.2.1,(forI (fun _ s r=>mineG s r) mineZ i xs s).1,()):=by
  intro xs
  induction xs with
  | nil=>intro i s;rfl
  | cons r xs ih=>
   intro i s
   simp only[forI]
   cases hg:mineG s r with
   | inl o=>rfl
   | inr s'=>exact ih (i+1) s'
 rw[hq] at this
 exact this
theorem specAll9_eq (xs:List Record) (hx:xs.length<=1048576):spec_l9All.sem (xs,())=some (mineF xs,()):=by
 refine lift_eq (k:=xs.length+1) fun k hk=>(spec_l9All.raw_eq k _).trans ?_
 have:=for_loop (B:=fun self v=>spec_l9All.B0 k self (fun z=>spec_l9All.Q0 k (xs,()) z) (xs,()) v) xs (fun (s:List Buffer×Miner) (i:Int)=>(((0:Int),s.1,s.2,()),i)) (fun _ s r=>match mineG s r with | .inl o=>.inl (o,()) | .inr s'=>.inr s') (fun s=>(mineZ s,())) mineI (by rw[maxLen_val];omega)
  (fun i hi s self hI=>by
   show spec_l9All.b0 _ _ _ _=_
   unfold spec_l9All.b0 mineG
   have hlt:(i:Int) < (xs.length:Int):=by omega
   have c1:∀ y:Buffer,s.1.length+[y].length<=CAP:=fun y=>cap_ok (by have:=hI.1;simp only[List.length_cons,List.length_nil];omega)
   simp only[hlt,decide_true,cond_true,Int.natCast_nonneg,if_true,Int.toNat_natCast,List.getElem?_eq_getElem hi,Option.bind_some,specRec_eq,c1]
   by_cases hr:recF xs[i]=0
   ·simp only[hr,decide_true,Bool.not_true,cond_false,specStep_eq xs[i] hI.2.2 hr,Option.bind_some]
    by_cases h0:(stepM s.2 xs[i]).1=0
    ·simp only[h0,decide_true,Bool.not_true,cond_false,if_true]
     cases (stepM s.2 xs[i]).2.2.1 <;> rfl
    ·simp only[h0,decide_false,Bool.not_false,cond_true,if_false]
   ·have hs:stepM s.2 xs[i]=badM (recF xs[i]):=by rw[stepM,if_neg hr]
    simp only[hs,hr,decide_false,Bool.not_false,cond_true,if_false])
  (fun i hi s s' hI hf=>by
   refine mine_next (r:=xs[i]) hI ?_
   cases hg:mineG s xs[i] with
   | inl o=>rw[hg] at hf;cases hf
   | inr q=>
    rw[hg] at hf
    simp only at hf
    injection hf with hf
    rw[hf]) (fun s self _=>by
   show spec_l9All.b0 _ _ _ _=_
   unfold spec_l9All.b0
   simp only[Int.lt_irrefl,decide_false,cond_false]
   rfl) ([],miner0) mine0_ok k (by omega)
 have hq:∀ (xs:List Record) (i:Nat) (s:List Buffer×Miner),forI (fun _ s r=>match mineG s r with | .inl o=>.inl (o,()) | .inr s'=>.inr s') (fun s=>(mineZ s,())) i xs s=(forI (fun _ s r=>mineG s r) mineZ i xs s,()):=by
  intro xs
  induction xs with
  | nil=>intro i s;rfl
  | cons r xs ih=>
   intro i s
   simp only[forI]
   cases hg:mineG s r with
   | inl o=>rfl
   | inr s'=>exact ih (i+1) s'
 rw[hq] at this
 exact this
def losersF (xs:List Record):MinedResult:=if (mineF xs).1=0 then ((0:Int),(mineF xs).2.2.1.2.1,(mineF xs).2.2.1,()) else badMd (mineF xs).1
theorem mine_cases (xs:List Record):((mineF xs).1≠0/\mineF xs=badMd (mineF xs).1)\/((mineF xs).1=0/\mineI xs.length ((mineF xs).2.1,(mineF xs).2.2.1)):=by
 have:=mineF_good xs 0 _ mine0_ok
 rw[Nat.zero_add] at this
 exact this
theorem implLosers_eq (xs:List Record) (hx:xs.length<=1048576):impl_LosersIn.sem (xs,())=some (losersF xs,()):=by
 refine lift_eq (k:=0) fun k hk=>(impl_LosersIn.raw_eq k _).trans ?_
 show impl_LosersIn.p _=_
 unfold impl_LosersIn.p losersF
 rw[implMine_eq xs hx]
 simp only[Option.bind_some]
 rcases mine_cases xs with ⟨h,_⟩ | ⟨h,_,_,hg⟩
 ·simp only[h,decide_false,Bool.not_false,cond_true,if_false]
 ·simp only[h,decide_true,Bool.not_true,cond_false,if_true,implMOwn_eq _ hg.fine,Option.bind_some]
theorem specLosers_eq (xs:List Record) (hx:xs.length<=1048576):spec_LosersIn.sem (xs,())=some (losersF xs,()):=by
 refine lift_eq (k:=0) fun k hk=>(spec_LosersIn.raw_eq k _).trans ?_
 show spec_LosersIn.p _=_
 unfold spec_LosersIn.p losersF
 rw[specAll9_eq xs hx]
 simp only[Option.bind_some]
 rcases mine_cases xs with ⟨h,_⟩ | ⟨h,_,_,hg⟩
 ·simp only[h,decide_false,Bool.not_false,cond_true,if_false]
 ·have hf:=hg.fine
  simp only[h,decide_true,Bool.not_true,cond_false,if_true,specBuffers_eq _ hf.bl hf.buf,Option.bind_some]
theorem losers_small (xs:List Record):zz tMinedResult (losersF xs)<=1000000:=by
 unfold losersF
 split
 ·rename_i h0
  rcases mine_cases xs with ⟨h,_⟩ | ⟨h,_,_,hg⟩
  ·exact absurd h0 h
  ·have h1:=zz_miner hg
   have hz:zz tMinedResult ((0:Int),(mineF xs).2.2.1.2.1,(mineF xs).2.2.1,())=0+(zz (.slc tBuffer) (mineF xs).2.2.1.2.1+(zz tMiner (mineF xs).2.2.1+0)):=rfl
   have hm:zz tMiner (mineF xs).2.2.1=zz (.slc (.slc u8)) (mineF xs).2.2.1.1+(zz (.slc tBuffer) (mineF xs).2.2.1.2.1+0):=rfl
   simp only at h1
   refine Nat.le_trans (Nat.le_of_eq hz) ?_
   omega
 ·exact Nat.zero_le _
theorem losersIn_true (v:laws_FnExactLosersIn.Arg) (hv:okA laws_FnExactLosersIn.ps v):laws_FnExactLosersIn.sem v=some (true,()):=by
 obtain ⟨xs,⟨⟩⟩:=v
 obtain ⟨hv_xs,_⟩:=hv
 refine lift_eq (k:=0) fun k _=>(laws_FnExactLosersIn.raw_eq k _).trans ?_
 show laws_FnExactLosersIn.p _=_
 unfold laws_FnExactLosersIn.p
 simp only[szRecordS_eq xs 1048576 hv_xs (show (0:Int)<=1048576 by omega) (by omega),Option.bind_some]
 by_cases hz1:((zz (.slc tRecord) xs:Nat):Int)<=1048576
 rotate_left
 ·have:lft (1048576) (zz (.slc tRecord) xs)=-1:=if_neg hz1
  simp only[this]
  rfl
 have e1:lft (1048576) (zz (.slc tRecord) xs)=1048576 - ((zz (.slc tRecord) xs:Nat):Int):=if_pos hz1
 have n1:¬ (1048576 - ((zz (.slc tRecord) xs:Nat):Int) < 0):=by omega
 have hx:xs.length<=1048576:=Nat.le_trans (zz_len (e:=tRecord) xs) (by omega)
 have hR:=losers_small xs
 have hB:BIG=4611686018427387904:=rfl
 obtain ⟨k',y,a1,a2,a3,a4⟩:=mhMinedResult (losersF xs) 1 (by omega) (by omega)
 obtain ⟨l1,w1,b1,c1,d1⟩:=mkRecordS xs 1 (by omega) (by omega)
 simp only[e1,n1,decide_false,cond_false,toRecordS_eq xs (by omega),specLosers_eq xs hx,implLosers_eq xs hx,eqMinedResult_self (losersF xs) (by omega),a1,a2,show ¬ k' < 0 by omega,eqRecordS_self xs (by omega),b1,show ¬ l1 < 0 by omega,Option.bind_some,Bool.not_true,decide_true,cond_true]
end OT
