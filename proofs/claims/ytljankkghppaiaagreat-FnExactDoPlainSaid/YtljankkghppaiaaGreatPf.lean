/- The proof's parts, merged: What ApplyChanges and the faults of rows are  no conditions but the lengths.. No conditions but those that each states. -/
import Derived.Test.YtljankkghppaiaaGreatPe
set_option linter.unusedVariables false
set_option linter.unusedSimpArgs false
namespace OT
open Go
def rowsStep (xs:List Row) (i:Nat) (x:Row):Sum (Int×Unit) Unit:=
 if rowF x=0 then (if 0 < i then (match xs[i - 1]? with | some y=>if befB (rk y) (rk x) then .inr () else .inl (1,()) | none=>.inl (1,())) else .inr ()) else .inl (rowF x,())
def rowsF (xs:List Row):Int:=if 60 < xs.length then 2 else (forI (fun i (_:Unit) x=>rowsStep xs i x) (fun _=>((0:Int),())) 0 xs ()).1
theorem specRows_eq (xs:List Row) (hl:xs.length<=maxLen) (h:∀ c ∈ xs,rl c):spec_l6Rows.sem (xs,())=some (rowsF xs,()):=by
 refine lift_eq (k:=xs.length+1) fun k hk=>(spec_l6Rows.raw_eq k _).trans ?_
 have:=for_loop (B:=fun self v=>spec_l6Rows.B0 0 self (fun z=>spec_l6Rows.Q0 0 (xs,()) z) (xs,()) v) xs (fun (_:Unit) (i:Int)=>i) (fun i _ x=>rowsStep xs i x) (fun _=>(0,())) (fun _ _=>True) hl
  (fun i hi _ self _=>by
   show spec_l6Rows.b0 _ _ _ _=_
   unfold spec_l6Rows.b0 rowsStep
   have hlt:(i:Int) < (xs.length:Int):=by omega
   simp only[hlt,decide_true,cond_true,Int.natCast_nonneg,if_true,Int.toNat_natCast,List.getElem?_eq_getElem hi,Option.bind_some,specRow_eq _ (h _ (List.getElem_mem hi))]
   by_cases h1:rowF xs[i]=0
   ·simp only[h1,decide_true,Bool.not_true,cond_false,if_true]
    by_cases h0:0 < i
    ·have h0':(0:Int) < (i:Int):=by omega
     have hi':i - 1 < xs.length:=by omega
     simp only[h0,h0',decide_true,cond_true,if_true,wprev h0 (by omega),Int.natCast_nonneg,Int.toNat_natCast,List.getElem?_eq_getElem hi',Option.bind_some,specBefore_eq]
     cases befB (rk xs[i - 1]) (rk xs[i]) <;> rfl
    ·have h0':¬ (0:Int) < (i:Int):=by omega
     simp[h0,h0']
   ·simp[h1]) (fun _ _ _ _ _ _=>trivial) (fun _ self _=>by
   show spec_l6Rows.b0 _ _ _ _=_
   unfold spec_l6Rows.b0
   simp[spec_l6Rows.Q0,spec_l6Rows.q0]) () trivial k (by omega)
 have this:spec_l6Rows.r0 k (xs,()) 0=_:=this
 unfold spec_l6Rows.p rowsF
 rw[this,show (60:Int)=((60:Nat):Int) from rfl]
 simp only[len60]
 by_cases h1:60 < xs.length <;> simp[h1] <;> rfl
theorem implRows_eq (xs:List Row) (hl:xs.length<=maxLen) (h:∀ c ∈ xs,rl c):impl_RowsFault.sem (xs,())=some (rowsF xs,()):=by
 refine lift_eq (k:=xs.length+1) fun k hk=>(impl_RowsFault.raw_eq k _).trans ?_
 have:=for_loop (B:=fun self v=>impl_RowsFault.B0 0 self (fun z=>impl_RowsFault.Q0 0 (xs,()) z) (xs,()) v) xs (fun (_:Unit) (i:Int)=>i) (fun i _ x=>rowsStep xs i x) (fun _=>(0,())) (fun _ _=>True) hl
  (fun i hi _ self _=>by
   show impl_RowsFault.b0 _ _ _ _=_
   unfold impl_RowsFault.b0 rowsStep rk
   have hlt:(i:Int) < (xs.length:Int):=by omega
   simp only[hlt,decide_true,cond_true,Int.natCast_nonneg,if_true,Int.toNat_natCast,List.getElem?_eq_getElem hi,Option.bind_some,implRow_eq _ (h _ (List.getElem_mem hi))]
   by_cases h1:rowF xs[i]=0
   ·simp only[h1,decide_true,Bool.not_true,cond_false,if_true]
    by_cases h0:0 < i
    ·have h0':(0:Int) < (i:Int):=by omega
     have hi':i - 1 < xs.length:=by omega
     simp only[h0,h0',decide_true,cond_true,if_true,wprev h0 (by omega),Int.natCast_nonneg,Int.toNat_natCast,List.getElem?_eq_getElem hi',Option.bind_some,isBefore_eq]
     cases befB (xs[i - 1].1,xs[i - 1].2.1) (xs[i].1,xs[i].2.1) <;> rfl
    ·have h0':¬ (0:Int) < (i:Int):=by omega
     simp[h0,h0']
   ·simp[h1]) (fun _ _ _ _ _ _=>trivial) (fun _ self _=>by
   show impl_RowsFault.b0 _ _ _ _=_
   unfold impl_RowsFault.b0
   simp[impl_RowsFault.Q0,impl_RowsFault.q0]) () trivial k (by omega)
 have this:impl_RowsFault.r0 k (xs,()) 0=_:=this
 unfold impl_RowsFault.p rowsF
 rw[this,show (60:Int)=((60:Nat):Int) from rfl]
 simp only[len60]
 by_cases h1:60 < xs.length <;> simp[h1] <;> rfl
theorem forI_none {α:Type} {f:Nat->Unit->α->Sum (Int×Unit) Unit} (hf:∀ i s x o,f i s x=.inl o->o.1≠0):∀ (xs:List α) (j:Nat),(forI f (fun _=>((0:Int),())) j xs ()).1=0->∀ i (hi:i < xs.length),f (j+i) () xs[i]=.inr ()
 | x::xs,j,h,i,hi=>by
  simp only[forI] at h
  cases hx:f j () x with
  | inl o=>rw[hx] at h;exact absurd h (hf _ _ _ _ hx)
  | inr u=>
   rw[hx] at h
   cases i with
   | zero=>exact hx
   | succ i=>
    have:=forI_none hf xs (j+1) h i (by simpa using hi)
    rw[show j+(i+1)=j+1+i by omega]
    exact this
theorem up_adj:∀ (xs:List Row),(∀ i (hi:i < xs.length),0 < i->befB (rk (xs[i - 1]'(by omega))) (rk xs[i])=true)->up xs
 | [],_=>List.Pairwise.nil
 | [x],_=>List.pairwise_singleton _ _
 | x::y::xs,h=>by
  have hu:up (y::xs):=up_adj (y::xs) fun i hi h0=>by
   have:=h (i+1) (by simp at hi ⊢;omega) (by omega)
   simp only[Nat.add_sub_cancel] at this
   have e:(x::y::xs)[i]'(by simp at hi ⊢;omega)=(y::xs)[i - 1]'(by simp at hi ⊢;omega):=by
    cases i with
    | zero=>omega
    | succ i=>rfl
   rw[e] at this
   exact this
  have hxy:befB (rk x) (rk y)=true:=h 1 (by simp) (by omega)
  refine up_cons.2 ⟨fun z hz=>?_,hu⟩
  rcases List.mem_cons.1 hz with rfl | hz
  ·exact hxy
  ·exact befB_trans hxy ((up_cons.1 hu).1 z hz)
theorem rowF_text {x:Row} (h:rowF x=0):List.length x.2.2.2.1<=8:=by
 unfold rowF at h
 split at h
 ·split at h
  ·rename_i ht
   unfold textB at ht
   simp only[Bool.and_eq_true,decide_eq_true_eq] at ht
   exact ht.2
  ·cases h
 ·cases h
structure Good (xs:List Row):Prop where
 up:up xs
 ok:∀ x ∈ xs,rowF x=0
theorem rowsF_good {xs:List Row} (h:rowsF xs=0):Good xs/\xs.length<=60:=by
 unfold rowsF at h
 split at h
 ·cases h
 ·rename_i hl
  have hn:=forI_none (f:=fun i (_:Unit) x=>rowsStep xs i x) (fun i s x o ho=>by
   unfold rowsStep at ho
   split at ho
   ·split at ho
    ·split at ho
     ·split at ho
      ·cases ho
      ·injection ho with ho;rw[<-ho];decide
     ·injection ho with ho;rw[<-ho];decide
    ·cases ho
   ·rename_i hx
    injection ho with ho;rw[<-ho];exact hx) xs 0 h
  have h1:∀ i (hi:i < xs.length),rowF xs[i]=0:=fun i hi=>by
   have:=hn i hi
   unfold rowsStep at this
   split at this
   ·assumption
   ·cases this
  refine ⟨⟨up_adj xs fun i hi h0=>?_,fun x hx=>?_⟩,by omega⟩
  ·have:=hn i hi
   unfold rowsStep at this
   rw[if_pos (h1 i hi),Nat.zero_add,if_pos h0,List.getElem?_eq_getElem (show i - 1 < xs.length by omega)] at this
   simp only at this
   split at this
   ·assumption
   ·cases this
  ·obtain ⟨i,hi,rfl⟩:=List.mem_iff_getElem.1 hx
   exact h1 i hi
theorem chF_key {c:Change} (h:chF c=0):(c.2.2.1=true->rk c.2.2.2.1=ck c)/\(c.2.2.1=true->rowF c.2.2.2.1=0):=by
 refine ⟨fun hi=>by unfold rk ck;rw[hi];rfl,fun hi=>?_⟩
 unfold chF at h
 split at h
 ·cases h
 ·split at h
  ·rename_i h2
   simp only[Bool.and_eq_true,Bool.not_eq_true',decide_eq_false_iff_not] at h2
   exact absurd h h2.2
  ·first | exact h | (rw[if_pos hi] at h;exact h)
theorem good_done {xs:List Row} {c:Change} (h:Good xs) (hc:chF c=0):Good (done1 xs c):=by
 obtain ⟨hk,hr⟩:=chF_key hc
 have hb:=h.up
 constructor
 ·unfold done1 up
  have h1:(xs.take (pos xs (ck c))).Pairwise (fun a b=>befB (rk a) (rk b)=true):=hb.sublist (List.take_sublist _ _)
  have hdr:∀ n,(xs.drop n).Pairwise (fun a b=>befB (rk a) (rk b)=true):=fun n=>hb.sublist (List.drop_sublist _ _)
  have hafter:∀ y ∈ xs.drop (pos xs (ck c)+if fnd xs (ck c) then 1 else 0),befB (ck c) (rk y)=true:=fun y hy=>by
   obtain ⟨i,e⟩:=List.mem_iff_getElem?.1 hy
   rw[List.getElem?_drop] at e
   obtain ⟨hlt,e1⟩:=List.getElem?_eq_some_iff.1 e
   have hn:=up_not xs (ck c) _ hlt hb (by omega)
   rw[e1] at hn
   clear e1 hlt
   cases hbb:befB (ck c) (rk y) with
   | true=>rfl
   | false=>
    have he:=befB_tri hbb hn
    exfalso
    cases hf:fnd xs (ck c) with
    | true=>
     obtain ⟨hp,hkk⟩:=fnd_lt hf
     rw[hf] at e
     simp only[if_true] at e
     obtain ⟨hlt,e⟩:=List.getElem?_eq_some_iff.1 e
     have:=List.pairwise_iff_getElem.1 hb (pos xs (ck c)) (pos xs (ck c)+1+i) hp hlt (by omega)
     rw[e,hkk,he] at this
     rw[befB_irr] at this;cases this
    | false=>
     rw[hf] at e
     simp only[Bool.false_eq_true,if_false,Nat.add_zero] at e
     obtain ⟨hlt,e⟩:=List.getElem?_eq_some_iff.1 e
     have hp:pos xs (ck c) < xs.length:=by omega
     have hn0:=up_not xs (ck c) _ hp hb (Nat.le_refl _)
     have hne:rk xs[pos xs (ck c)]≠ck c:=fun e2=>by
      unfold fnd at hf
      rw[List.getElem?_eq_getElem hp] at hf
      simp[e2] at hf
     have hlt0:befB (ck c) (rk xs[pos xs (ck c)])=true:=by
      cases hb0:befB (ck c) (rk xs[pos xs (ck c)]) with
      | true=>rfl
      | false=>exact absurd (befB_tri hb0 hn0).symm hne
     cases i with
     | zero=>
      simp only[Nat.add_zero] at e
      rw[e,<- he,befB_irr] at hlt0;cases hlt0
     | succ i=>
      have:=List.pairwise_iff_getElem.1 hb (pos xs (ck c)) (pos xs (ck c)+(i+1)) hp hlt (by omega)
      rw[e] at this
      have:=befB_trans hlt0 this
      rw[<-he,befB_irr] at this;cases this
  have hcross:∀ a ∈ xs.take (pos xs (ck c)),∀ y ∈ xs.drop (pos xs (ck c)+if fnd xs (ck c) then 1 else 0),befB (rk a) (rk y)=true:=fun a ha y hy=>befB_trans (take_bef ha) (hafter y hy)
  cases hi:c.2.2.1 with
  | true=>
   have hkc:=hk hi
   simp only[if_true]
   refine List.pairwise_append.2 ⟨List.pairwise_append.2 ⟨h1,List.pairwise_singleton _ _,fun a ha b hb=>?_⟩,hdr _,fun a ha y hy=>?_⟩
   ·rw[List.mem_singleton] at hb;subst hb;rw[hkc];exact take_bef ha
   ·rcases List.mem_append.1 ha with ha | ha
    ·exact hcross a ha y hy
    ·rw[List.mem_singleton] at ha;subst ha;rw[hkc];exact hafter y hy
  | false=>
   simp only[Bool.false_eq_true,if_false,List.append_nil]
   exact List.pairwise_append.2 ⟨h1,hdr _,hcross⟩
 ·intro x hx
  unfold done1 at hx
  rcases List.mem_append.1 hx with hx | hx
  ·rcases List.mem_append.1 hx with hx | hx
   ·exact h.ok x (List.mem_of_mem_take hx)
   ·split at hx
    ·rename_i hi
     rw[List.mem_singleton] at hx
     rw[hx];exact hr hi
    ·cases hx
  ·exact h.ok x (List.mem_of_mem_drop hx)
theorem done_len (xs:List Row) (c:Change):(done1 xs c).length<=xs.length+1:=by
 unfold done1
 rw[List.length_append,List.length_append,List.length_take,List.length_drop]
 have:(if c.2.2.1=true then [c.2.2.2.1] else []).length<=1:=by split <;> simp
 omega
def applyStep (i:Nat) (s:List Row) (c:Change):Sum (RowsResult×Unit) (List Row):=if chF c=0 then (if fits1 s c then .inr (done1 s c) else .inl ((8,[],()),())) else .inl ((chF c,[],()),())
def applyFin (s:List Row):RowsResult×Unit:=if 60 < s.length then ((2,[],()),()) else ((0,s,()),())
def applyF (xs:List Row) (cs:List Change):RowsResult:=if rowsF xs=0 then (forI applyStep applyFin 0 cs xs).1 else (rowsF xs,[],())
theorem applyInv (n i:Nat) (s s':List Row) (c:Change) (h:Good s/\s.length<=60+i) (hf:applyStep n s c=.inr s'):Good s'/\s'.length<=60+(i+1):=by
 unfold applyStep at hf
 split at hf
 ·rename_i hc
  split at hf
  ·injection hf with hf
   subst hf
   exact ⟨good_done h.1 hc,by have:=done_len s c;omega⟩
  ·cases hf
 ·cases hf
theorem cloneRow_eq (xs:List Row) (h:xs.length<=1048576):slices_Clone_Row.sem (xs,())=some (xs,()):=by
 refine lift_eq (k:=0) fun k _=>(slices_Clone_Row.raw_eq k _).trans ?_
 show slices_Clone_Row.p _=_
 unfold slices_Clone_Row.p
 have c1:([]:List Row).length+xs.length<=CAP:=cap_ok (by simp only[List.length_nil];omega)
 exact nilB_eq (fun e=>by have e:xs=[]:=e;subst e;rfl) (by rw[if_pos c1];rfl)
theorem implApply_eq (xs:List Row) (cs:List Change) (hl:xs.length<=maxLen) (h:∀ x ∈ xs,rl x) (hcl:cs.length<=1048576) (hc:∀ c ∈ cs,cl c):impl_ApplyChanges.sem (xs,cs,())=some (applyF xs cs,()):=by
 refine lift_eq (k:=cs.length+1) fun k hk=>(impl_ApplyChanges.raw_eq k _).trans ?_
 unfold impl_ApplyChanges.p applyF
 simp only[implRows_eq xs hl h,Option.bind_some]
 by_cases h0:rowsF xs=0
 ·obtain ⟨hg,hn⟩:=rowsF_good h0
  simp only[h0,decide_true,Bool.not_true,cond_false,if_true,cloneRow_eq xs (by omega),Option.bind_some]
  exact for_loop (B:=fun self v=>impl_ApplyChanges.B0 0 self (fun z=>impl_ApplyChanges.Q0 0 (xs,cs,()) z) (xs,cs,()) v) cs (fun (s:List Row) (i:Int)=>(s,i)) applyStep applyFin (fun i s=>Good s/\s.length<=60+i) (by rw[maxLen_val];omega)
   (fun i hi s self hI=>by
    show impl_ApplyChanges.b0 _ _ _ _=_
    unfold impl_ApplyChanges.b0 applyStep
    have hlt:(i:Int) < (cs.length:Int):=by omega
    simp only[hlt,decide_true,cond_true,Int.natCast_nonneg,if_true,Int.toNat_natCast,List.getElem?_eq_getElem hi,Option.bind_some,implChange_eq _ (hc _ (List.getElem_mem hi)),fitsTo_eq _ s hI.1.up (by omega),changed_eq s _ hI.1.up (by omega)]
    by_cases h1:chF cs[i]=0
    ·simp only[h1,decide_true,Bool.not_true,cond_false,if_true]
     cases fits1 s cs[i] <;> rfl
    ·simp[h1]) (fun i hi s s' hI hf=>applyInv _ i s s' _ hI hf) (fun s self hI=>by
    show impl_ApplyChanges.b0 _ _ _ _=_
    unfold impl_ApplyChanges.b0 applyFin
    have hlt:¬ (cs.length:Int) < (cs.length:Int):=by omega
    simp only[hlt,decide_false,cond_false,impl_ApplyChanges.Q0,impl_ApplyChanges.q0]
    rw[show (60:Int)=((60:Nat):Int) from rfl,len60]
    by_cases h1:60 < s.length <;> simp[h1]) xs ⟨hg,by omega⟩ k (by omega)
 ·simp[h0];(try rfl)
theorem good_zz:∀ {xs:List Row},(∀ x ∈ xs,rowF x=0)->zz (.slc tRow) xs<=9*xs.length
 | [],_=>Nat.le_refl _
 | x::xs,h=>by
  have h1:zz (.slc tRow) (x::xs:List Row)=zz tRow x+1+zz (.slc tRow) xs:=zz_cons (e:=tRow) x xs
  have h2:=rowF_text (h x List.mem_cons_self)
  have h3:zz tRow x=0+(0+(0+(List.length x.2.2.2.1+0))):=rfl
  have h4:=good_zz fun y hy=>h y (List.mem_cons_of_mem _ hy)
  simp only[List.length_cons]
  omega
end OT
set_option linter.unusedVariables false
set_option linter.unusedSimpArgs false
set_option linter.unusedSectionVars false
namespace OT
open Go
theorem fnd_at {xs:List Row} {k:Int×Int} (hu:up xs) {i:Nat} (hi:i < xs.length) (hk:rk xs[i]=k):fnd xs k=true/\pos xs k=i:=by
 have h1:¬ i < pos xs k:=fun hlt=>by
  have:=pos_lt xs k i hi hlt
  rw[hk,befB_irr] at this
  cases this
 have hp:pos xs k < xs.length:=by omega
 have h2:pos xs k=i:=by
  by_cases he:pos xs k=i
  ·exact he
  ·have h3:=List.pairwise_iff_getElem.1 hu (pos xs k) i hp hi (by omega)
   have h4:=up_not xs k (pos xs k) hp hu (Nat.le_refl _)
   rw[hk] at h3
   rw[h3] at h4
   cases h4
 refine ⟨?_,h2⟩
 unfold fnd
 rw[h2,List.getElem?_eq_getElem hi]
 simpa using hk
theorem done_mem {xs:List Row} (hu:up xs) (c:Change) (r:Row):r ∈ done1 xs c↔(r ∈ xs/\rk r≠ck c)\/(c.2.2.1=true/\r=c.2.2.2.1):=by
 have key:(r ∈ xs.take (pos xs (ck c))\/r ∈ xs.drop (pos xs (ck c)+if fnd xs (ck c) then 1 else 0))↔(r ∈ xs/\rk r≠ck c):=by
  constructor
  ·rintro (h | h)
   ·exact ⟨List.mem_of_mem_take h,fun he=>by have:=take_bef h;rw[he,befB_irr] at this;cases this⟩
   ·refine ⟨List.mem_of_mem_drop h,fun he=>?_⟩
    obtain ⟨i,hi,hr⟩:=List.getElem_of_mem h
    rw[List.getElem_drop] at hr
    rw[List.length_drop] at hi
    obtain ⟨f1,f2⟩:=fnd_at hu (i:=pos xs (ck c)+(if fnd xs (ck c) then 1 else 0)+i) (k:=ck c) (by omega) (by rw[hr];exact he)
    rw[f1] at f2
    simp only[if_true] at f2
    omega
  ·rintro ⟨h,hne⟩
   obtain ⟨i,hi,hr⟩:=List.getElem_of_mem h
   by_cases h1:i < pos xs (ck c)
   ·left
    rw[List.mem_take_iff_getElem]
    exact ⟨i,by omega,hr⟩
   ·right
    rw[List.mem_drop_iff_getElem]
    by_cases hf:fnd xs (ck c)=true
    ·rw[if_pos hf]
     obtain ⟨hp,hk⟩:=fnd_lt hf
     have:i≠pos xs (ck c):=fun he=>hne (by subst he;rw[<-hr];exact hk)
     exact ⟨i - (pos xs (ck c)+1),by omega,by rw[<-hr];congr 1;omega⟩
    ·rw[if_neg hf]
     exact ⟨i - (pos xs (ck c)+0),by omega,by rw[<-hr];congr 1;omega⟩
 unfold done1
 rw[List.mem_append,List.mem_append]
 constructor
 ·rintro ((h | h) | h)
  ·exact .inl (key.1 (.inl h))
  ·cases hi:c.2.2.1 with
   | true=>rw[hi] at h;exact .inr ⟨rfl,List.mem_singleton.1 h⟩
   | false=>rw[hi] at h;cases h
  ·exact .inl (key.1 (.inr h))
 ·rintro (h | ⟨hi,rfl⟩)
  ·rcases key.2 h with h | h
   ·exact .inl (.inl h)
   ·exact .inr h
  ·rw[hi];exact .inl (.inr (List.mem_singleton.2 rfl))
theorem row_eq {a b:Row} (h:Ty.eq tRow a b=true):a=b:=by
 have e:Ty.eq tRow a b=(decide (a.1=b.1)&&(decide (a.2.1=b.2.1)&&(decide (a.2.2.1=b.2.2.1)&&(decide (a.2.2.2.1=b.2.2.2.1)&&true)))):=rfl
 rw[e] at h
 simp only[Bool.and_eq_true,decide_eq_true_eq,and_true] at h
 obtain ⟨a1,a2,a3,a4,⟨⟩⟩:=a
 obtain ⟨b1,b2,b3,b4,⟨⟩⟩:=b
 obtain ⟨h1,h2,h3,h4⟩:=h
 simp only at h1 h2 h3 h4
 rw[h1,h2,h3,h4]
end OT
set_option linter.unusedVariables false
set_option linter.unusedSimpArgs false
namespace OT
open Go
theorem for_loopE {V S O α:Type} {B:(V->Option O)->V->Option O} (xs:List α) (enc:S->Int->V) (f:Nat->S->α->Sum (Option O) S) (fin:S->Option O) (I:Nat->S->Prop) (hmax:xs.length<=maxLen)
  (hin:∀ (i:Nat) (hi:i < xs.length) (s:S) self,I i s->B self (enc s (i:Int))=match f i s xs[i] with | .inl o=>o | .inr s'=>self (enc s' (w64 ((i:Int)+1))))
  (hI:∀ (i:Nat) (hi:i < xs.length) (s s':S),I i s->f i s xs[i]=.inr s'->I (i+1) s')
  (hout:∀ (s:S) self,I xs.length s->B self (enc s (xs.length:Int))=fin s) (s:S) (h0:I 0 s):∀ k,xs.length < k->rawIter B k (enc s 0)=forI f fin 0 xs s:=by
 have main:∀ (m i:Nat) (s:S),xs.length - i=m->i<=xs.length->I i s->∀ k,m < k->rawIter B k (enc s (i:Int))=forI f fin i (xs.drop i) s:=by
  intro m
  induction m with
  | zero=>
   intro i s hm hi hs k hk
   have hi':i=xs.length:=by omega
   subst hi'
   cases k with
   | zero=>omega
   | succ k=>
    show B (rawIter B k) _=_
    rw[hout s _ hs]
    simp[forI]
  | succ m ih=>
   intro i s hm hi hs k hk
   have hlt:i < xs.length:=by omega
   cases k with
   | zero=>omega
   | succ k=>
    show B (rawIter B k) _=_
    rw[hin i hlt s _ hs,List.drop_eq_getElem_cons hlt]
    simp only[forI]
    cases hf:f i s xs[i] with
    | inl o=>rfl
    | inr s'=>
     have hw:w64 ((i:Int)+1)=((i+1:Nat):Int):=by rw[w64_in (by rw[maxLen_val] at hmax;omega)];omega
     simp only[hw]
     exact ih (i+1) s' (by omega) (by omega) (hI i hlt s s' hs hf) k (by omega)
 intro k hk
 simpa using main xs.length 0 s (by omega) (by omega) h0 k hk
theorem forI_any {O α:Type} (p:α->Bool) (a:O) (fin:Unit->O):∀ (xs:List α) (i:Nat),forI (fun _ _ x=>if p x then .inl a else .inr ()) fin i xs ()=if xs.any p then a else fin ()
 | [],_=>rfl
 | x::xs,i=>by
  simp only[forI,List.any_cons]
  by_cases h:p x=true
  ·simp[h]
  ·simp[h,forI_any p a fin xs (i+1)]
def whereF {α:Type} (p:α->Bool):Nat->List α->Int
 | _,[]=>-1
 | i,x::xs=>if p x then (i:Int) else whereF p (i+1) xs
theorem forI_where {α:Type} (p:α->Bool):∀ (xs:List α) (i:Nat),forI (fun i _ x=>if p x then .inl ((i:Int),()) else .inr ()) (fun _=>((-1:Int),())) i xs ()=(whereF p i xs,())
 | [],_=>rfl
 | x::xs,i=>by
  simp only[forI,whereF]
  by_cases h:p x=true
  ·simp[h]
  ·simp[h,forI_where p xs (i+1)]
theorem where_any {α:Type} (p:α->Bool):∀ (xs:List α) (i:Nat),decide (0<=whereF p i xs)=xs.any p
 | [],_=>rfl
 | x::xs,i=>by
  simp only[whereF,List.any_cons]
  by_cases h:p x=true
  ·simp[h]
  ·simp[h,where_any p xs (i+1)]
theorem where_spec {α:Type} (p:α->Bool):∀ (xs:List α) (i:Nat),0<=whereF p i xs->∃ (j:Nat) (hj:j < xs.length),whereF p i xs=((i+j:Nat):Int)/\p xs[j]=true
 | [],_,h=>by simp[whereF] at h
 | x::xs,i,h=>by
  simp only[whereF] at h ⊢
  by_cases hp:p x=true
  ·exact ⟨0,by simp,by simp[hp],hp⟩
  ·rw[if_neg hp] at h ⊢
   obtain ⟨j,hj,h1,h2⟩:=where_spec p xs (i+1) h
   exact ⟨j+1,by simp;omega,by rw[h1];omega,by simpa using h2⟩
theorem kq_eq (a b:Key):Ty.eq tKey a b=decide (a=b):=by
 obtain ⟨a1,a2,⟨⟩⟩:=a
 obtain ⟨b1,b2,⟨⟩⟩:=b
 show (decide (a1=b1)&&(decide (a2=b2)&&true))=decide ((a1,a2,())=(b1,b2,()))
 by_cases h1:a1=b1 <;> by_cases h2:a2=b2 <;> simp[h1,h2]
def keyOfC (c:Change):Key:=((ck c).1,(ck c).2,())
def hasK (ks:List Key) (k:Key):Bool:=ks.any fun x=>decide (x=k)
theorem hasK_iff {ks:List Key} {k:Key}:hasK ks k=true↔k ∈ ks:=by simp[hasK]
def keyB2 (k:Key):Bool:=inB k.1 0 3&&inB k.2.1 1 99
theorem specKeyOf_eq (c:Change):spec_l10KeyOf.sem (c,())=some (keyOfC c,()):=by
 refine lift_eq (k:=0) fun k _=>(spec_l10KeyOf.raw_eq k _).trans ?_
 show spec_l10KeyOf.p _=_
 unfold spec_l10KeyOf.p
 simp only[specKey_eq,Option.bind_some]
 rfl
theorem lock_eq (c:Change):impl_Change_lock.sem (c,())=some (keyOfC c,()):=by
 refine lift_eq (k:=0) fun k _=>(impl_Change_lock.raw_eq k _).trans ?_
 show impl_Change_lock.p _=_
 unfold impl_Change_lock.p keyOfC
 simp only[implKey_eq,Option.bind_some,<- keyRow_ck]
theorem specKeyB_eq (x:Key):spec_l10Key.sem (x,())=some (keyB2 x,()):=by
 refine lift_eq (k:=0) fun k _=>(spec_l10Key.raw_eq k _).trans ?_
 show spec_l10Key.p _=_
 unfold spec_l10Key.p keyB2 inB
 simp only[specIn_eq,Option.bind_some]
 cases decide ((0:Int)<=x.1) <;> cases decide (x.1<=3) <;> rfl
theorem isKey_eq (x:Key):impl_isKey.sem (x.1,x.2.1,())=some (keyB2 x,()):=by
 refine lift_eq (k:=0) fun k _=>(impl_isKey.raw_eq k _).trans ?_
 show impl_isKey.p _=_
 unfold impl_isKey.p keyB2 inB
 simp only[implIn_eq,Option.bind_some]
 cases decide ((0:Int)<=x.1) <;> cases decide (x.1<=3) <;> rfl
theorem locks_eq (x:Tx) (k0:Key) (h:List.length x.2.2.2.1<=maxLen):spec_l10Locks.sem (x,k0,())=some (hasK x.2.2.2.1 k0,()):=by
 refine lift_eq (k:=List.length x.2.2.2.1+1) fun k hk=>(spec_l10Locks.raw_eq k _).trans ?_
 have:=for_loop (B:=fun self v=>spec_l10Locks.B0 0 self (fun z=>spec_l10Locks.Q0 0 (x,k0,()) z) (x,k0,()) v) x.2.2.2.1 (fun (_:Unit) (i:Int)=>i) (fun _ _ y=>if decide (y=k0) then .inl (true,()) else .inr ()) (fun _=>(false,())) (fun _ _=>True) h
  (fun i hi s self _=>by
   show spec_l10Locks.b0 _ _ _ _=_
   unfold spec_l10Locks.b0
   have hlt:(i:Int) < (List.length x.2.2.2.1:Int):=by omega
   simp only[hlt,decide_true,cond_true,Int.natCast_nonneg,if_true,Int.toNat_natCast,List.getElem?_eq_getElem hi,Option.bind_some,kq_eq]
   by_cases hh:(x.2.2.2.1)[i]=k0
   ·simp only[hh,decide_true,cond_true,if_true]
   ·simp only[hh,decide_false,cond_false,Bool.false_eq_true,if_false])
  (fun _ _ _ _ _ _=>trivial) (fun s self _=>by
   show spec_l10Locks.b0 _ _ _ _=_
   unfold spec_l10Locks.b0
   simp only[Int.lt_irrefl,decide_false,cond_false]
   rfl) () trivial k (by omega)
 rw[forI_any] at this
 refine Eq.trans this ?_
 unfold hasK
 cases x.2.2.2.1.any (fun y=>decide (y=k0)) <;> rfl
theorem contains_eq (ks:List Key) (k0:Key) (h:ks.length<=maxLen):slices_Contains_Key.sem (ks,k0,())=some (hasK ks k0,()):=by
 have hix:slices_Index_Key.sem (ks,k0,())=some (whereF (fun y=>decide (k0=y)) 0 ks,()):=by
  refine lift_eq (k:=ks.length+1) fun k hk=>(slices_Index_Key.raw_eq k _).trans ?_
  have:=for_loop (B:=fun self v=>slices_Index_Key.B0 0 self (fun z=>slices_Index_Key.Q0 0 (ks,k0,()) z) (ks,k0,()) v) ks (fun (_:Unit) (i:Int)=>i) (fun i _ y=>if decide (k0=y) then .inl ((i:Int),()) else .inr ()) (fun _=>((-1:Int),())) (fun _ _=>True) h
   (fun i hi s self _=>by
    show slices_Index_Key.b0 _ _ _ _=_
    unfold slices_Index_Key.b0
    have hlt:(i:Int) < (ks.length:Int):=by omega
    simp only[hlt,decide_true,cond_true,Int.natCast_nonneg,if_true,Int.toNat_natCast,List.getElem?_eq_getElem hi,Option.bind_some,kq_eq]
    by_cases hh:k0=ks[i]
    ·simp only[<-hh,decide_true,cond_true,if_true]
    ·simp only[hh,decide_false,cond_false,Bool.false_eq_true,if_false])
   (fun _ _ _ _ _ _=>trivial) (fun s self _=>by
    show slices_Index_Key.b0 _ _ _ _=_
    unfold slices_Index_Key.b0
    simp only[Int.lt_irrefl,decide_false,cond_false]
    rfl) () trivial k (by omega)
  rw[forI_where] at this
  exact this
 refine lift_eq (k:=0) fun k _=>(slices_Contains_Key.raw_eq k _).trans ?_
 show slices_Contains_Key.p _=_
 unfold slices_Contains_Key.p
 rw[hix]
 simp only[Option.bind_some,where_any]
 congr 2
 unfold hasK
 congr 1
 funext y
 by_cases hh:k0=y
 ·simp[hh]
 ·have:¬ y=k0:=fun e=>hh e.symm
  simp[hh,this]
def tl (x:Tx):Prop:=List.length x.2.1<=1048576/\List.length x.2.2.1<=1048576/\List.length x.2.2.2.1<=1048576/\∀ c ∈ x.2.1,cl c
def undoC (ks:List Key) (c:Change):Int:=if chS c=0 then (if hasK ks (keyOfC c) then 0 else 8) else chS c
def marksL (n last:Int) (ms:List Int):Bool:=forI (fun _ last m=>if inB m last n then .inr m else .inl false) (fun _=>true) 0 ms last
def lockC (ks:List Key) (i:Nat) (k:Key):Int:=if keyB2 k then (if hasK (ks.take i) k then 6 else 0) else 3
def locksL (ks:List Key):Int:=forI (fun i (_:Unit) k=>if lockC ks i k=0 then .inr () else .inl (lockC ks i k)) (fun _=>(0:Int)) 0 ks ()
def marksF (x:Tx):Int:=if decide (8 < List.length x.2.2.1)||decide (12 < List.length x.2.2.2.1) then 2 else if marksL (List.length x.2.1:Int) 0 x.2.2.1 then locksL x.2.2.2.1 else 3
def undoF (x:Tx):Int:=firstF (undoC x.2.2.2.1) x.2.1
theorem marksE (n:Int) (E:Option (Int×Unit)):∀ (ms:List Int) (i:Nat) (last:Int),forI (fun _ last m=>if inB m last n then .inr m else .inl (some ((3:Int),()))) (fun _=>E) i ms last=if forI (fun _ last m=>if inB m last n then .inr m else .inl false) (fun _=>true) i ms last then E else some ((3:Int),())
 | [],_,_=>rfl
 | m::ms,i,last=>by
  simp only[forI]
  by_cases hb:inB m last n=true
  ·simp only[hb,if_true];exact marksE n E ms _ _
  ·simp[hb]
theorem specUndo_eq (x:Tx) (h:tl x):spec_l10Undo.sem (x,())=some (undoF x,()):=by
 obtain ⟨h1,h2,h3,h4⟩:=h
 refine lift_eq (k:=List.length x.2.1+1) fun k hk=>(spec_l10Undo.raw_eq k _).trans ?_
 have:=for_loop (B:=fun self v=>spec_l10Undo.B0 0 self (fun z=>spec_l10Undo.Q0 0 (x,()) z) (x,()) v) x.2.1 (fun (_:Unit) (i:Int)=>i) (fun _ _ c=>if undoC x.2.2.2.1 c=0 then .inr () else .inl (undoC x.2.2.2.1 c,())) (fun _=>(0,())) (fun _ _=>True) (by rw[maxLen_val];omega)
  (fun i hi s self _=>by
   show spec_l10Undo.b0 _ _ _ _=_
   unfold spec_l10Undo.b0
   have hlt:(i:Int) < (List.length x.2.1:Int):=by omega
   simp only[hlt,decide_true,cond_true,Int.natCast_nonneg,if_true,Int.toNat_natCast,List.getElem?_eq_getElem hi,Option.bind_some,specChangeS_eq _ (h4 _ (List.getElem_mem hi)),specKeyOf_eq]
   rw[locks_eq x _ (by rw[maxLen_val];omega)]
   unfold undoC
   by_cases hc:chS (x.2.1)[i]=0
   ·simp only[hc,decide_true,Bool.not_true,cond_false,if_true,Option.bind_some]
    cases hasK x.2.2.2.1 (keyOfC (x.2.1)[i]) <;> rfl
   ·simp only[hc,decide_false,Bool.not_false,cond_true,if_false])
  (fun _ _ _ _ _ _=>trivial) (fun s self _=>by
   show spec_l10Undo.b0 _ _ _ _=_
   unfold spec_l10Undo.b0
   simp only[Int.lt_irrefl,decide_false,cond_false]
   rfl) () trivial k (by omega)
 rw[forI_first (undoC x.2.2.2.1) (fun c=>(c,())) (fun _=>((0:Int),()))] at this
 refine Eq.trans this ?_
 unfold undoF
 split
 ·rename_i h0;rw[h0]
 ·rfl
theorem inB_last {m last n:Int} (h:0<=last):(inB m 0 n&&decide (last<=m))=inB m last n:=by
 unfold inB
 by_cases h1:last<=m
 ·have:(0:Int)<=m:=by omega
  simp[h1,this]
 ·simp[h1]
theorem specMarks_eq (x:Tx) (h:tl x):spec_l10Marks.sem (x,())=some (marksF x,()):=by
 obtain ⟨h1,h2,h3,h4⟩:=h
 refine lift_eq (k:=20) fun k hk=>(spec_l10Marks.raw_eq k _).trans ?_
 unfold spec_l10Marks.p marksF
 by_cases hm:8 < List.length x.2.2.1
 ·have:(8:Int) < (List.length x.2.2.1:Int):=by omega
  simp only[this,hm,decide_true,cond_true,Bool.true_or,if_true]
  (try rfl)
 have hm':¬ (8:Int) < (List.length x.2.2.1:Int):=by omega
 by_cases hk2:12 < List.length x.2.2.2.1
 ·have:(12:Int) < (List.length x.2.2.2.1:Int):=by omega
  simp only[this,hm,hm',hk2,decide_true,decide_false,cond_true,cond_false,Bool.false_or,if_true]
  (try rfl)
 have hk':¬ (12:Int) < (List.length x.2.2.2.1:Int):=by omega
 simp only[hm,hm',hk',hk2,decide_false,cond_false,Bool.or_self,Bool.false_eq_true,if_false]
 have second:spec_l10Marks.r1 k (x,()) (x,(0:Int))=some (locksL x.2.2.2.1,()):=by
  have inner:∀ (self:(Tx×Int)->Option spec_l10Marks.Out) (e2:Unit->Option spec_l10Marks.Out) (i:Nat) (hi:i < List.length x.2.2.2.1),spec_l10Marks.r2 k self e2 (x,()) x (i:Int) (0:Int)=if hasK (x.2.2.2.1.take i) (x.2.2.2.1)[i] then some ((6:Int),()) else self (x,w64 ((i:Int)+1)):=fun self e2 i hi=>by
   have hti:(x.2.2.2.1.take i).length=i:=by simp;omega
   have:=for_loopE (B:=fun self' v=>spec_l10Marks.B2 k self' (fun z=>spec_l10Marks.Q1 k self e2 (x,()) x (i:Int) z) (x,()) x (i:Int) v) (x.2.2.2.1.take i) (fun (_:Unit) (j:Int)=>j) (fun _ _ y=>if decide (y=(x.2.2.2.1)[i]) then .inl (some ((6:Int),())) else .inr ()) (fun _=>self (x,w64 ((i:Int)+1))) (fun _ _=>True) (by rw[maxLen_val];omega)
    (fun j hj s self' _=>by
     show spec_l10Marks.b2 _ _ _ _ _ _=_
     unfold spec_l10Marks.b2
     rw[hti] at hj
     have hlt:(j:Int) < (i:Int):=by omega
     have hjl:j < List.length x.2.2.2.1:=by omega
     simp only[hlt,decide_true,cond_true,Int.natCast_nonneg,if_true,Int.toNat_natCast,List.getElem?_eq_getElem hjl,List.getElem?_eq_getElem hi,Option.bind_some,kq_eq,List.getElem_take]
     by_cases hh:(x.2.2.2.1)[j]=(x.2.2.2.1)[i]
     ·simp only[hh,decide_true,cond_true,if_true]
     ·simp only[hh,decide_false,cond_false,Bool.false_eq_true,if_false])
    (fun _ _ _ _ _ _=>trivial) (fun s self' _=>by
     show spec_l10Marks.b2 _ _ _ _ _ _=_
     unfold spec_l10Marks.b2
     simp only[hti,Int.lt_irrefl,decide_false,cond_false]
     rfl) () trivial k (by omega)
   rw[forI_any] at this
   exact this
  have:=for_loop (B:=fun self v=>spec_l10Marks.B1 k self (fun z=>spec_l10Marks.Q2 k (x,()) z) (x,()) v) x.2.2.2.1 (fun (_:Unit) (i:Int)=>(x,i)) (fun i _ y=>if lockC x.2.2.2.1 i y=0 then .inr () else .inl (lockC x.2.2.2.1 i y,())) (fun _=>(0,())) (fun _ _=>True) (by rw[maxLen_val];omega)
   (fun i hi s self _=>by
    show spec_l10Marks.b1 _ _ _ _ _=_
    unfold spec_l10Marks.b1 lockC
    have hlt:(i:Int) < (List.length x.2.2.2.1:Int):=by omega
    simp only[hlt,decide_true,cond_true,Int.natCast_nonneg,if_true,Int.toNat_natCast,List.getElem?_eq_getElem hi,Option.bind_some,specKeyB_eq]
    rw[inner self _ i hi]
    cases keyB2 (x.2.2.2.1)[i] <;> cases hasK (x.2.2.2.1.take i) (x.2.2.2.1)[i] <;> rfl)
   (fun _ _ _ _ _ _=>trivial) (fun s self _=>by
    show spec_l10Marks.b1 _ _ _ _ _=_
    unfold spec_l10Marks.b1
    simp only[Int.lt_irrefl,decide_false,cond_false]
    rfl) () trivial k (by omega)
  refine Eq.trans this ?_
  unfold locksL
  generalize hks:x.2.2.2.1=ks
  have gen:∀ (f:Nat->Key->Int) (ys:List Key) (i:Nat),forI (fun i (_:Unit) y=>if f i y=0 then .inr () else .inl (f i y,())) (fun _=>((0:Int),())) i ys ()=(forI (fun i (_:Unit) y=>if f i y=0 then .inr () else .inl (f i y)) (fun _=>(0:Int)) i ys (),()):=by
   intro f ys
   induction ys with
   | nil=>intro i;rfl
   | cons y ys ih=>intro i;simp only[forI];by_cases h0:f i y=0 <;> simp[h0,ih]
  rw[gen (lockC ks)]
 have:=for_loopE (B:=fun self v=>spec_l10Marks.B0 k self (fun z=>spec_l10Marks.Q0 k (x,()) z) (x,()) v) x.2.2.1 (fun (_:Int) (i:Int)=>i) (fun i last m=>if inB m last (List.length x.2.1:Int) then .inr m else .inl (some ((3:Int),()))) (fun _=>some (locksL x.2.2.2.1,()))
  (fun i last=>0<=last/\(i=0->last=0)/\∀ y,0 < i->x.2.2.1[i - 1]?=some y->last=y) (by rw[maxLen_val];omega)
  (fun i hi last self hI=>by
   obtain ⟨i1,i2,i3⟩:=hI
   show spec_l10Marks.b0 _ _ _ _=_
   unfold spec_l10Marks.b0
   have hlt:(i:Int) < (List.length x.2.2.1:Int):=by omega
   simp only[hlt,decide_true,cond_true,Int.natCast_nonneg,if_true,Int.toNat_natCast,List.getElem?_eq_getElem hi,Option.bind_some,specIn_eq]
   generalize hmm:(x.2.2.1)[i]=m
   rw[<-inB_last i1]
   show (bif !inB m 0 (List.length x.2.1:Int) then _ else _)=_
   cases hb0:inB m 0 (List.length x.2.1:Int) with
   | false=>rfl
   | true=>
    have hm0:0<=m:=by
     simp only[inB,Bool.and_eq_true,decide_eq_true_eq] at hb0
     exact hb0.1
    simp only[Bool.not_true,cond_false,Bool.true_and]
    by_cases h0:i=0
    ·subst h0
     have:=i2 rfl
     subst this
     have hz:¬ (0:Int) < ((0:Nat):Int):=by omega
     simp only[hz,hm0,decide_true,decide_false,cond_false,if_true]
    ·have hi1:i - 1 < List.length x.2.2.1:=by omega
     have hl:=i3 (x.2.2.1)[i - 1] (by omega) (List.getElem?_eq_getElem hi1)
     have hp:(0:Int) < (i:Int):=by omega
     simp only[hp,decide_true,cond_true,wprev (show 0 < i by omega) (by rw[maxLen_val];omega),Int.natCast_nonneg,if_true,Int.toNat_natCast,List.getElem?_eq_getElem hi1,Option.bind_some]
     rw[<-hl]
     by_cases hc:last<=m
     ·have:¬ m < last:=by omega
      simp only[hc,this,decide_true,decide_false,cond_false,if_true]
     ·have:m < last:=by omega
      simp only[hc,this,decide_true,decide_false,cond_true,Bool.false_eq_true,if_false])
  (fun i hi last last' hI hs=>by
   split at hs
   ·rename_i hb
    injection hs with hs
    subst hs
    simp only[inB,Bool.and_eq_true,decide_eq_true_eq] at hb
    refine ⟨by omega,fun e=>by omega,fun y _ hy=>?_⟩
    rw[Nat.add_sub_cancel,List.getElem?_eq_getElem hi] at hy
    injection hy
   ·cases hs)
  (fun last self hI=>by
   show spec_l10Marks.b0 _ _ _ _=_
   unfold spec_l10Marks.b0
   simp only[Int.lt_irrefl,decide_false,cond_false]
   exact second) 0 ⟨Int.le_refl _,fun _=>rfl,fun _ h=>by omega⟩ k (by omega)
 refine Eq.trans this ?_
 unfold marksL
 rw[marksE]
 cases forI (fun _ last m=>if inB m last (List.length x.2.1:Int) then .inr m else .inl false) (fun _=>true) 0 x.2.2.1 0 <;> rfl
end OT
set_option linter.unusedVariables false
set_option linter.unusedSimpArgs false
namespace OT
open Go
def txF (x:Tx):Int:=if undoF x=0 then marksF x else undoF x
theorem forI_pack {α:Type} (c:Nat->α->Int):∀ (xs:List α) (i:Nat),forI (fun i (_:Unit) y=>if c i y=0 then .inr () else .inl (c i y,())) (fun _=>((0:Int),())) i xs ()=(forI (fun i (_:Unit) y=>if c i y=0 then .inr () else .inl (c i y)) (fun _=>(0:Int)) i xs (),())
 | [],_=>rfl
 | y::ys,i=>by simp only[forI];by_cases h0:c i y=0 <;> simp[h0,forI_pack c ys (i+1)]
theorem forI_codeE {α:Type} (c:Nat->α->Int) (E:Option (Int×Unit)):∀ (xs:List α) (i:Nat),forI (fun i (_:Unit) y=>if c i y=0 then .inr () else .inl (some (c i y,()))) (fun _=>E) i xs () =
  if forI (fun i (_:Unit) y=>if c i y=0 then .inr () else .inl (c i y)) (fun _=>(0:Int)) i xs ()=0 then E else some (forI (fun i (_:Unit) y=>if c i y=0 then .inr () else .inl (c i y)) (fun _=>(0:Int)) i xs (),())
 | [],_=>rfl
 | y::ys,i=>by simp only[forI];by_cases h0:c i y=0 <;> simp[h0,forI_codeE c E ys (i+1)]
theorem forI_firstF {α:Type} (c:α->Int):∀ (xs:List α) (i:Nat),forI (fun _ (_:Unit) y=>if c y=0 then .inr () else .inl (c y)) (fun _=>(0:Int)) i xs ()=firstF c xs
 | [],_=>rfl
 | y::ys,i=>by simp only[forI,firstF];by_cases h0:c y=0 <;> simp[h0,forI_firstF c ys (i+1)]
theorem txFault_eq (x:Tx) (h:tl x):impl_txFault.sem (x,())=some (txF x,()):=by
 obtain ⟨h1,h2,h3,h4⟩:=h
 refine lift_eq (k:=1048577) fun k hk=>(impl_txFault.raw_eq k _).trans ?_
 have third:List.length x.2.2.2.1<=12->impl_txFault.r2 k (x,()) (0:Int)=some (locksL x.2.2.2.1,()):=fun hl=>by
  have:=for_loop (B:=fun self v=>impl_txFault.B2 k self (fun z=>impl_txFault.Q2 k (x,()) z) (x,()) v) x.2.2.2.1 (fun (_:Unit) (i:Int)=>i) (fun i _ y=>if lockC x.2.2.2.1 i y=0 then .inr () else .inl (lockC x.2.2.2.1 i y,())) (fun _=>(0,())) (fun _ _=>True) (by rw[maxLen_val];omega)
   (fun i hi s self _=>by
    show impl_txFault.b2 _ _ _ _=_
    unfold impl_txFault.b2 lockC
    have hlt:(i:Int) < (List.length x.2.2.2.1:Int):=by omega
    have hin:(0:Int)<=(i:Int)/\(i:Int)<=(List.length x.2.2.2.1:Int):=by omega
    simp only[hlt,hin,and_self,decide_true,cond_true,Int.natCast_nonneg,if_true,Int.toNat_natCast,List.getElem?_eq_getElem hi,Option.bind_some,isKey_eq,List.drop_zero]
    rw[contains_eq _ _ (by rw[maxLen_val];simp;omega)]
    cases keyB2 (x.2.2.2.1)[i] <;> cases hasK (x.2.2.2.1.take i) (x.2.2.2.1)[i] <;> rfl)
   (fun _ _ _ _ _ _=>trivial) (fun s self _=>by
    show impl_txFault.b2 _ _ _ _=_
    unfold impl_txFault.b2
    simp only[Int.lt_irrefl,decide_false,cond_false]
    rfl) () trivial k (by omega)
  rw[forI_pack (lockC x.2.2.2.1)] at this
  exact this
 have second:List.length x.2.2.1<=8->List.length x.2.2.2.1<=12->impl_txFault.r1 k (x,()) ((0:Int),(0:Int))=some (if marksL (List.length x.2.1:Int) 0 x.2.2.1 then locksL x.2.2.2.1 else 3,()):=fun hm hl=>by
  have:=for_loopE (B:=fun self v=>impl_txFault.B1 k self (fun z=>impl_txFault.Q1 k (x,()) z) (x,()) v) x.2.2.1 (fun (last:Int) (i:Int)=>(last,i)) (fun _ last m=>if inB m last (List.length x.2.1:Int) then .inr m else .inl (some ((3:Int),()))) (fun _=>some (locksL x.2.2.2.1,())) (fun _ _=>True) (by rw[maxLen_val];omega)
   (fun i hi last self _=>by
    show impl_txFault.b1 _ _ _ _=_
    unfold impl_txFault.b1
    have hlt:(i:Int) < (List.length x.2.2.1:Int):=by omega
    simp only[hlt,decide_true,cond_true,Int.natCast_nonneg,if_true,Int.toNat_natCast,List.getElem?_eq_getElem hi,Option.bind_some,implIn_eq]
    show (bif !inB (x.2.2.1)[i] last (List.length x.2.1:Int) then _ else _)=_
    cases inB (x.2.2.1)[i] last (List.length x.2.1:Int) <;> rfl)
   (fun _ _ _ _ _ _=>trivial) (fun last self _=>by
    show impl_txFault.b1 _ _ _ _=_
    unfold impl_txFault.b1
    simp only[Int.lt_irrefl,decide_false,cond_false]
    exact third hl) 0 trivial k (by omega)
  rw[marksE] at this
  refine Eq.trans this ?_
  unfold marksL
  cases forI (fun _ last m=>if inB m last (List.length x.2.1:Int) then .inr m else .inl false) (fun _=>true) 0 x.2.2.1 0 <;> rfl
 have after:impl_txFault.Q0 k (x,()) ()=some (marksF x,()):=by
  show impl_txFault.q0 _ _ _=_
  unfold impl_txFault.q0 marksF
  by_cases hm:8 < List.length x.2.2.1
  ·have:(8:Int) < (List.length x.2.2.1:Int):=by omega
   simp only[this,hm,decide_true,cond_true,Bool.true_or,if_true]
   try rfl
  have hm':¬ (8:Int) < (List.length x.2.2.1:Int):=by omega
  by_cases hk2:12 < List.length x.2.2.2.1
  ·have:(12:Int) < (List.length x.2.2.2.1:Int):=by omega
   simp only[this,hm,hm',hk2,decide_true,decide_false,cond_true,cond_false,Bool.false_or,if_true]
   try rfl
  have hk':¬ (12:Int) < (List.length x.2.2.2.1:Int):=by omega
  simp only[hm,hm',hk',hk2,decide_false,cond_false,Bool.or_self,Bool.false_eq_true,if_false]
  exact second (by omega) (by omega)
 have:=for_loopE (B:=fun self v=>impl_txFault.B0 k self (fun z=>impl_txFault.Q0 k (x,()) z) (x,()) v) x.2.1 (fun (_:Unit) (i:Int)=>i) (fun _ _ c=>if undoC x.2.2.2.1 c=0 then .inr () else .inl (some (undoC x.2.2.2.1 c,()))) (fun _=>some (marksF x,())) (fun _ _=>True) (by rw[maxLen_val];omega)
  (fun i hi s self _=>by
   show impl_txFault.b0 _ _ _ _=_
   unfold impl_txFault.b0
   have hlt:(i:Int) < (List.length x.2.1:Int):=by omega
   simp only[hlt,decide_true,cond_true,Int.natCast_nonneg,if_true,Int.toNat_natCast,List.getElem?_eq_getElem hi,Option.bind_some,single_eq _ (h4 _ (List.getElem_mem hi)),lock_eq]
   rw[contains_eq _ _ (by rw[maxLen_val];omega)]
   unfold undoC
   by_cases hc:chS (x.2.1)[i]=0
   ·simp only[hc,decide_true,Bool.not_true,cond_false,if_true,Option.bind_some]
    cases hasK x.2.2.2.1 (keyOfC (x.2.1)[i]) <;> rfl
   ·simp only[hc,decide_false,Bool.not_false,cond_true,if_false])
  (fun _ _ _ _ _ _=>trivial) (fun s self _=>by
   show impl_txFault.b0 _ _ _ _=_
   unfold impl_txFault.b0
   simp only[Int.lt_irrefl,decide_false,cond_false]
   exact after) () trivial k (by omega)
 rw[forI_codeE (fun _=>undoC x.2.2.2.1),forI_firstF] at this
 refine Eq.trans this ?_
 unfold txF undoF
 split <;> rfl
def lockF (xs:List Tx) (k:Key):Int:=match xs with
 | []=>0
 | x::xs=>if hasK x.2.2.2.1 k then x.1 else lockF xs k
def tls (xs:List Tx):Prop:=xs.length<=1048576/\∀ x ∈ xs,tl x
theorem forI_lock (k:Key):∀ (xs:List Tx) (i:Nat),forI (fun _ (_:Unit) x=>if hasK x.2.2.2.1 k then .inl (x.1,()) else .inr ()) (fun _=>((0:Int),())) i xs ()=(lockF xs k,())
 | [],_=>rfl
 | x::xs,i=>by simp only[forI,lockF];cases hasK x.2.2.2.1 k <;> simp[forI_lock k xs (i+1)]
theorem tl_locks {x:Tx} (h:tl x):List.length x.2.2.2.1<=maxLen:=by rw[maxLen_val];have:=h.2.2.1;omega
theorem specLock_eq (xs:List Tx) (k0:Key) (h:tls xs):spec_l10Lock.sem (xs,k0,())=some (lockF xs k0,()):=by
 obtain ⟨h1,h2⟩:=h
 refine lift_eq (k:=xs.length+1) fun k hk=>(spec_l10Lock.raw_eq k _).trans ?_
 have:=for_loop (B:=fun self v=>spec_l10Lock.B0 0 self (fun z=>spec_l10Lock.Q0 0 (xs,k0,()) z) (xs,k0,()) v) xs (fun (_:Unit) (i:Int)=>i) (fun _ _ x=>if hasK x.2.2.2.1 k0 then .inl (x.1,()) else .inr ()) (fun _=>(0,())) (fun _ _=>True) (by rw[maxLen_val];omega)
  (fun i hi s self _=>by
   show spec_l10Lock.b0 _ _ _ _=_
   unfold spec_l10Lock.b0
   have hlt:(i:Int) < (xs.length:Int):=by omega
   simp only[hlt,decide_true,cond_true,Int.natCast_nonneg,if_true,Int.toNat_natCast,List.getElem?_eq_getElem hi,Option.bind_some,locks_eq _ _ (tl_locks (h2 _ (List.getElem_mem hi)))]
   cases hasK (xs[i]).2.2.2.1 k0 <;> rfl)
  (fun _ _ _ _ _ _=>trivial) (fun s self _=>by
   show spec_l10Lock.b0 _ _ _ _=_
   unfold spec_l10Lock.b0
   simp only[Int.lt_irrefl,decide_false,cond_false]
   rfl) () trivial k (by omega)
 rw[forI_lock] at this
 exact this
def cntF (xs:List Tx):Int:=xs.foldl (fun n x=>n+(List.length x.2.1:Int)) 0
theorem specCount_eq (xs:List Tx) (h:tls xs):spec_l10Count.sem (xs,())=some (cntF xs,()):=by
 obtain ⟨h1,h2⟩:=h
 refine lift_eq (k:=xs.length+1) fun k hk=>(spec_l10Count.raw_eq k _).trans ?_
 have:=for_loop (B:=fun self v=>spec_l10Count.B0 0 self (fun z=>spec_l10Count.Q0 0 (xs,()) z) (xs,()) v) xs (fun (n:Int) (i:Int)=>(n,i)) (fun _ n x=>.inr (n+(List.length x.2.1:Int))) (fun n=>(n,())) (fun i n=>0<=n/\n<=1048576*(i:Int)) (by rw[maxLen_val];omega)
  (fun i hi n self hI=>by
   show spec_l10Count.b0 _ _ _ _=_
   unfold spec_l10Count.b0
   have hlt:(i:Int) < (xs.length:Int):=by omega
   have hx:=(h2 _ (List.getElem_mem hi)).1
   simp only[hlt,decide_true,cond_true,Int.natCast_nonneg,if_true,Int.toNat_natCast,List.getElem?_eq_getElem hi,Option.bind_some]
   rw[w64_in (n:=n+_) (by omega)])
  (fun i hi n n' hI hs=>by
   injection hs with hs
   have hx:=(h2 _ (List.getElem_mem hi)).1
   omega) (fun s self _=>by
   show spec_l10Count.b0 _ _ _ _=_
   unfold spec_l10Count.b0
   simp only[Int.lt_irrefl,decide_false,cond_false]
   rfl) 0 (by omega) k (by omega)
 rw[forI_fold] at this
 exact this
theorem implCount_eq (xs:List Tx) (h:tls xs):impl_undone.sem (xs,())=some (cntF xs,()):=by
 obtain ⟨h1,h2⟩:=h
 refine lift_eq (k:=xs.length+1) fun k hk=>(impl_undone.raw_eq k _).trans ?_
 have:=for_loop (B:=fun self v=>impl_undone.B0 0 self (fun z=>impl_undone.Q0 0 (xs,()) z) (xs,()) v) xs (fun (n:Int) (i:Int)=>(n,i)) (fun _ n x=>.inr (n+(List.length x.2.1:Int))) (fun n=>(n,())) (fun i n=>0<=n/\n<=1048576*(i:Int)) (by rw[maxLen_val];omega)
  (fun i hi n self hI=>by
   show impl_undone.b0 _ _ _ _=_
   unfold impl_undone.b0
   have hlt:(i:Int) < (xs.length:Int):=by omega
   have hx:=(h2 _ (List.getElem_mem hi)).1
   simp only[hlt,decide_true,cond_true,Int.natCast_nonneg,if_true,Int.toNat_natCast,List.getElem?_eq_getElem hi,Option.bind_some]
   rw[w64_in (n:=n+_) (by omega)])
  (fun i hi n n' hI hs=>by
   injection hs with hs
   have hx:=(h2 _ (List.getElem_mem hi)).1
   omega) (fun s self _=>by
   show impl_undone.b0 _ _ _ _=_
   unfold impl_undone.b0
   simp only[Int.lt_irrefl,decide_false,cond_false]
   rfl) 0 (by omega) k (by omega)
 rw[forI_fold] at this
 exact this
def oneC (xs:List Tx) (i:Nat) (x:Tx):Int:=if inB x.1 1 99 then (if 0 < i then (match xs[i - 1]? with
    | some y=>if x.1<=y.1 then 1 else txF x
    | none=>1) else txF x) else 3
def eachF (xs:List Tx):Int:=forI (fun i (_:Unit) x=>if oneC xs i x=0 then .inr () else .inl (oneC xs i x)) (fun _=>(0:Int)) 0 xs ()
def flatK (xs:List Tx):List Key:=xs.flatMap fun x=>x.2.2.2.1
def apartB (xs:List Tx):Bool:=decide (flatK xs).Nodup
def txsF (xs:List Tx):Int:=if 4 < xs.length then 2 else if eachF xs=0 then (if apartB xs then (if 12 < cntF xs then 2 else 0) else 7) else eachF xs
theorem each_good (xs:List Tx) (h:eachF xs=0):∀ i (hi:i < xs.length),oneC xs i xs[i]=0:=by
 have main:∀ (ys:List Tx) (j:Nat),(forI (fun i (_:Unit) x=>if oneC xs i x=0 then .inr () else .inl (oneC xs i x)) (fun _=>(0:Int)) j ys ())=0->∀ i (hi:i < ys.length),oneC xs (j+i) ys[i]=0:=by
  intro ys
  induction ys with
  | nil=>intro j _ i hi;simp at hi
  | cons y ys ih=>
   intro j hf i hi
   simp only[forI] at hf
   by_cases h0:oneC xs j y=0
   ·rw[if_pos h0] at hf
    cases i with
    | zero=>simpa using h0
    | succ i=>
     have:=ih (j+1) hf i (by simpa using hi)
     rw[show j+(i+1)=j+1+i by omega]
     simpa using this
   ·rw[if_neg h0] at hf
    exact absurd hf h0
 intro i hi
 have:=main xs 0 h i hi
 rwa [Nat.zero_add] at this
theorem one_good {xs:List Tx} {i:Nat} {x:Tx} (h:oneC xs i x=0):1<=x.1/\txF x=0/\∀ y,0 < i->xs[i - 1]?=some y->y.1 < x.1:=by
 unfold oneC at h
 split at h
 ·rename_i hb
  simp only[inB,Bool.and_eq_true,decide_eq_true_eq] at hb
  split at h
  ·rename_i h0
   split at h
   ·rename_i y hy
    split at h
    ·cases h
    ·exact ⟨hb.1,h,fun z _ hz=>by rw[hy] at hz;injection hz with hz;subst hz;omega⟩
   ·cases h
  ·exact ⟨hb.1,h,fun y h0=>by omega⟩
 ·cases h
theorem each_rise {xs:List Tx} (h:eachF xs=0):xs.Pairwise fun x y=>x.1 < y.1:=by
 rw[List.pairwise_iff_getElem]
 intro i j hi hj hij
 have key:∀ d (hd:i+d+1 < xs.length),(xs[i]).1 < (xs[i+d+1]).1:=by
  intro d
  induction d with
  | zero=>
   intro hd
   exact (one_good (each_good xs h (i+1) hd)).2.2 xs[i] (by omega) (by simp[hi])
  | succ d ih=>
   intro hd
   have h1:=ih (by omega)
   have h2:=(one_good (each_good xs h (i+d+1+1) hd)).2.2 xs[i+d+1] (by omega) (by rw[Nat.add_sub_cancel];exact List.getElem?_eq_getElem (by omega))
   exact Int.lt_trans h1 h2
 have:=key (j - i - 1) (by omega)
 have e:i+(j - i - 1)+1=j:=by omega
 simpa only [e] using this
theorem locks_nodup {ks:List Key} (h:locksL ks=0):ks.Nodup:=by
 have main:∀ (ys:List Key) (j:Nat),(forI (fun i (_:Unit) k=>if lockC ks i k=0 then .inr () else .inl (lockC ks i k)) (fun _=>(0:Int)) j ys ())=0->∀ i (hi:i < ys.length),lockC ks (j+i) ys[i]=0:=by
  intro ys
  induction ys with
  | nil=>intro j _ i hi;simp at hi
  | cons y ys ih=>
   intro j hf i hi
   simp only[forI] at hf
   by_cases h0:lockC ks j y=0
   ·rw[if_pos h0] at hf
    cases i with
    | zero=>simpa using h0
    | succ i=>
     have:=ih (j+1) hf i (by simpa using hi)
     rw[show j+(i+1)=j+1+i by omega]
     simpa using this
   ·rw[if_neg h0] at hf
    exact absurd hf h0
 rw[List.nodup_iff_pairwise_ne,List.pairwise_iff_getElem]
 intro i j hi hj hij e
 have h1:=main ks 0 h j hj
 rw[Nat.zero_add] at h1
 unfold lockC at h1
 split at h1
 ·split at h1
  ·cases h1
  ·rename_i hn
   refine hn (hasK_iff.2 ?_)
   rw[<-e]
   exact List.mem_take_iff_getElem.2 ⟨i,by omega,rfl⟩
 ·cases h1
theorem tx_nodup {x:Tx} (h:txF x=0):(x.2.2.2.1:List Key).Nodup:=by
 unfold txF at h
 split at h
 ·unfold marksF at h
  split at h
  ·cases h
  ·split at h
   ·exact locks_nodup h
   ·cases h
 ·rename_i hn;exact absurd h hn
end OT
set_option linter.unusedVariables false
set_option linter.unusedSimpArgs false
namespace OT
open Go
def apartS (xs:List Tx):Bool:=xs.all fun x=>x.2.2.2.1.all fun k=>decide (lockF xs k=x.1)
theorem apart_eq {xs:List Tx} (hr:xs.Pairwise fun x y=>x.1 < y.1) (hn:∀ x ∈ xs,(x.2.2.2.1:List Key).Nodup):apartS xs=apartB xs:=by
 have main:∀ (xs:List Tx),(xs.Pairwise fun x y=>x.1 < y.1)->(∀ x ∈ xs,(x.2.2.2.1:List Key).Nodup)->((∀ x ∈ xs,∀ k ∈ (x.2.2.2.1:List Key),lockF xs k=x.1)↔(flatK xs).Nodup):=by
  intro xs
  induction xs with
  | nil=>intro _ _;simp[flatK]
  | cons x xs ih=>
   intro hr hn
   obtain ⟨h1,h2⟩:=List.pairwise_cons.1 hr
   have ih:=ih h2 (fun y hy=>hn y (by simp[hy]))
   have hfl:flatK (x::xs)=x.2.2.2.1++flatK xs:=by simp[flatK]
   rw[hfl,List.nodup_append]
   constructor
   ·intro hall
    have hd:∀ y ∈ xs,∀ k ∈ (y.2.2.2.1:List Key),k ∉ (x.2.2.2.1:List Key):=fun y hy k hk hx=>by
     have e1:=hall y (by simp[hy]) k hk
     simp only[lockF,hasK_iff.2 hx,if_true] at e1
     have:=h1 y hy
     omega
    refine ⟨hn x (by simp),ih.1 fun y hy k hk=>?_,fun a ha b hb e=>?_⟩
    ·have e1:=hall y (by simp[hy]) k hk
     have:hasK x.2.2.2.1 k=false:=by
      cases hh:hasK x.2.2.2.1 k with
      | false=>rfl
      | true=>exact absurd (hasK_iff.1 hh) (hd y hy k hk)
     simp only[lockF,this,Bool.false_eq_true,if_false] at e1
     exact e1
    ·subst e
     obtain ⟨y,hy,hk⟩:=List.mem_flatMap.1 hb
     exact hd y hy a hk ha
   ·rintro ⟨g1,g2,g3⟩ y hy k hk
    rcases List.mem_cons.1 hy with e | e
    ·subst e
     simp only[lockF,hasK_iff.2 hk,if_true]
    ·have hkf:k ∈ flatK xs:=List.mem_flatMap.2 ⟨y,e,hk⟩
     have:hasK x.2.2.2.1 k=false:=by
      cases hh:hasK x.2.2.2.1 k with
      | false=>rfl
      | true=>exact absurd rfl (g3 k (hasK_iff.1 hh) k hkf)
     simp only[lockF,this,Bool.false_eq_true,if_false]
     exact ih.2 g2 y e k hk
 have hm:=main xs hr hn
 unfold apartS apartB
 rw[Bool.eq_iff_iff]
 simp only[List.all_eq_true,decide_eq_true_eq]
 exact hm
theorem specApart_eq (xs:List Tx) (h:tls xs):spec_l10Apart.sem (xs,())=some (apartS xs,()):=by
 have ht:=h
 obtain ⟨h1,h2⟩:=h
 refine lift_eq (k:=1048577) fun k hk=>(spec_l10Apart.raw_eq k _).trans ?_
 have inner:∀ (self:((List Tx)×Int)->Option spec_l10Apart.Out) (e0:Unit->Option spec_l10Apart.Out) (i:Nat) (hi:i < xs.length),spec_l10Apart.r1 k self e0 (xs,()) xs (i:Int) (0:Int)=if (xs[i]).2.2.2.1.any (fun y=>!decide (lockF xs y=(xs[i]).1)) then some (false,()) else self (xs,w64 ((i:Int)+1)):=fun self e0 i hi=>by
  have htx:=h2 _ (List.getElem_mem hi)
  have hlk:=htx.2.2.1
  have:=for_loopE (B:=fun self' v=>spec_l10Apart.B1 k self' (fun z=>spec_l10Apart.Q0 k self e0 (xs,()) xs (i:Int) z) (xs,()) xs (i:Int) v) (xs[i]).2.2.2.1 (fun (_:Unit) (j:Int)=>j) (fun _ _ y=>if !decide (lockF xs y=(xs[i]).1) then .inl (some (false,())) else .inr ()) (fun _=>self (xs,w64 ((i:Int)+1))) (fun _ _=>True) (by rw[maxLen_val];omega)
   (fun j hj s self' _=>by
    show spec_l10Apart.b1 _ _ _ _ _ _=_
    unfold spec_l10Apart.b1
    have hlt:(j:Int) < (List.length (xs[i]).2.2.2.1:Int):=by omega
    simp only[Int.natCast_nonneg,if_true,Int.toNat_natCast,List.getElem?_eq_getElem hi,Option.bind_some,hlt,decide_true,cond_true,List.getElem?_eq_getElem hj,specLock_eq xs _ ht]
    cases decide (lockF xs ((xs[i]).2.2.2.1)[j]=(xs[i]).1) <;> rfl)
   (fun _ _ _ _ _ _=>trivial) (fun s self' _=>by
    show spec_l10Apart.b1 _ _ _ _ _ _=_
    unfold spec_l10Apart.b1
    simp only[Int.natCast_nonneg,if_true,Int.toNat_natCast,List.getElem?_eq_getElem hi,Option.bind_some,Int.lt_irrefl,decide_false,cond_false]
    rfl) () trivial k (by omega)
  rw[forI_any] at this
  exact this
 have:=for_loop (B:=fun self v=>spec_l10Apart.B0 k self (fun z=>spec_l10Apart.Q1 k (xs,()) z) (xs,()) v) xs (fun (_:Unit) (i:Int)=>(xs,i)) (fun _ _ x=>if x.2.2.2.1.all (fun y=>decide (lockF xs y=x.1)) then .inr () else .inl (false,())) (fun _=>(true,())) (fun _ _=>True) (by rw[maxLen_val];omega)
  (fun i hi s self _=>by
   show spec_l10Apart.b0 _ _ _ _ _=_
   unfold spec_l10Apart.b0
   have hlt:(i:Int) < (xs.length:Int):=by omega
   simp only[hlt,decide_true,cond_true]
   rw[inner self _ i hi]
   have:(xs[i]).2.2.2.1.any (fun y=>!decide (lockF xs y=(xs[i]).1))=!(xs[i]).2.2.2.1.all (fun y=>decide (lockF xs y=(xs[i]).1)):=by rw[List.not_all_eq_any_not]
   rw[this]
   cases (xs[i]).2.2.2.1.all (fun y=>decide (lockF xs y=(xs[i]).1)) <;> rfl)
  (fun _ _ _ _ _ _=>trivial) (fun s self _=>by
   show spec_l10Apart.b0 _ _ _ _ _=_
   unfold spec_l10Apart.b0
   simp only[Int.lt_irrefl,decide_false,cond_false]
   rfl) () trivial k (by omega)
 rw[forI_check (fun (x:Tx)=>x.2.2.2.1.all (fun y=>decide (lockF xs y=x.1))) (false,()) (fun _=>(true,()))] at this
 refine Eq.trans this ?_
 unfold apartS
 cases xs.all fun x=>x.2.2.2.1.all (fun y=>decide (lockF xs y=x.1)) <;> rfl
def seenM (S:List Key):List (Key×Bool):=S.map fun k=>(k,true)
theorem mapGet_cons {α:Type} (k:Ty) (e:k.den×α) (m:List (k.den×α)) (x:k.den):mapGet k (e::m) x=if k.eq x e.1 then some e.2 else mapGet k m x:=by
 unfold mapGet
 rw[List.find?_cons]
 cases k.eq x e.1 <;> rfl
theorem mapPut_new {α:Type} (k:Ty) (m:List (k.den×α)) (x:k.den) (y:α) (h:∀ e ∈ m,k.eq x e.1=false):mapPut k m x y=m++[(x,y)]:=by
 have:m.findIdx? (fun e=>k.eq x e.1)=none:=by
  rw[List.findIdx?_eq_none_iff]
  intro e he
  exact h e he
 unfold mapPut
 rw[this]
theorem mapGet_seen (S:List Key) (k:Key):mapGet tKey (seenM S) k=if hasK S k then some true else none:=by
 induction S with
 | nil=>rfl
 | cons s S ih=>
  refine (mapGet_cons tKey (s,true) (seenM S) k).trans ?_
  have hk:tKey.eq k (s,true).1=decide (k=s):=kq_eq k s
  rw[hk]
  have hc:hasK (s::S) k=(decide (s=k)||hasK S k):=rfl
  rw[hc]
  by_cases h:k=s
  ·have h2:s=k:=h.symm
   simp[h2]
  ·have h2:¬ s=k:=fun e=>h e.symm
   simp only[h,h2,decide_false,Bool.false_or,Bool.false_eq_true,if_false]
   exact ih
theorem get_seen (S:List Key) (k:Key):orZ (mapGet tKey (seenM S) k) false=hasK S k:=by
 refine Eq.trans (congrArg (fun o=>orZ o false) (mapGet_seen S k)) ?_
 cases hasK S k <;> rfl
theorem put_seen {S:List Key} {k:Key} (h:hasK S k=false):mapPut tKey (seenM S) k true=seenM (S++[k]):=by
 refine (mapPut_new tKey (seenM S) k true fun e he=>?_).trans ?_
 ·obtain ⟨s,hs,rfl⟩:=List.mem_map.1 he
  have hk:tKey.eq k (s,true).1=decide (k=s):=kq_eq k s
  rw[hk]
  simp only[hasK,List.any_eq_false,decide_eq_true_eq] at h
  have:=h s hs
  simp only[decide_eq_false_iff_not]
  exact fun e=>this e.symm
 ·simp only[seenM,List.map_append,List.map_cons,List.map_nil]
  rfl
def getM (m:List (Key×Bool)) (k:Key):Bool:=orZ (mapGet tKey m k) false
def putM (m:List (Key×Bool)) (k:Key):List (Key×Bool):=mapPut tKey m k true
def walkM:List (Key×Bool)->List Key->Option (List (Key×Bool))
 | m,[]=>some m
 | m,k::ks=>if getM m k then none else walkM (putM m k) ks
theorem walk_append:∀ (m:List (Key×Bool)) (a b:List Key),walkM m (a++b)=(walkM m a).bind fun m'=>walkM m' b
 | m,[],b=>rfl
 | m,k::a,b=>by
  simp only[List.cons_append,walkM]
  split
  ·rfl
  ·exact walk_append _ a b
theorem walk_seen:∀ (ks S:List Key),S.Nodup->walkM (seenM S) ks=if (S++ks).Nodup then some (seenM (S++ks)) else none
 | [],S,h=>by simp[walkM,h]
 | k::ks,S,h=>by
  have hg:getM (seenM S) k=hasK S k:=get_seen S k
  simp only[walkM,hg]
  cases hh:hasK S k with
  | true=>
   have:¬ (S++k::ks).Nodup:=fun hn=>by
    rw[List.nodup_append] at hn
    exact hn.2.2 k (hasK_iff.1 hh) k (by simp) rfl
   simp[this]
  | false=>
   have hk:k ∉ S:=fun hm=>by rw[hasK_iff.2 hm] at hh;cases hh
   simp only[Bool.false_eq_true,if_false]
   have hp:putM (seenM S) k=seenM (S++[k]):=put_seen hh
   rw[hp,walk_seen ks (S++[k]) (by rw[List.nodup_append];exact ⟨h,by simp,fun a ha b hb e=>by simp at hb;subst hb;subst e;exact hk ha⟩)]
   simp only[List.append_assoc,List.cons_append,List.nil_append]
theorem forI_walk {O:Type} (bad:Option O) (E:List (Key×Bool)->Option O):∀ (ks:List Key) (i:Nat) (m:List (Key×Bool)),forI (fun _ m k=>if getM m k then .inl bad else .inr (putM m k)) E i ks m=match walkM m ks with | none=>bad | some m'=>E m'
 | [],_,_=>rfl
 | k::ks,i,m=>by
  simp only[forI,walkM]
  by_cases h:getM m k=true
  ·simp[h]
  ·simp only[h,if_false]
   exact forI_walk bad E ks _ _
theorem forI_walks {O:Type} (bad:Option O) (E:Option O):∀ (xs:List Tx) (i:Nat) (m:List (Key×Bool)),forI (fun _ m x=>match walkM m x.2.2.2.1 with | none=>.inl bad | some m'=>.inr m') (fun _=>E) i xs m=match walkM m (flatK xs) with | none=>bad | some _=>E
 | [],_,_=>rfl
 | x::xs,i,m=>by
  have hfl:flatK (x::xs)=x.2.2.2.1++flatK xs:=by simp[flatK]
  rw[hfl,walk_append]
  simp only[forI]
  cases h:walkM m x.2.2.2.1 with
  | none=>rfl
  | some m'=>
   simp only[Option.bind_some]
   exact forI_walks bad E xs _ _
theorem implTxs_eq (xs:List Tx) (h:tls xs):impl_TxsFault.sem (xs,())=some (txsF xs,()):=by
 have ht:=h
 obtain ⟨h1,h2⟩:=h
 refine lift_eq (k:=1048577) fun k hk=>(impl_TxsFault.raw_eq k _).trans ?_
 unfold impl_TxsFault.p txsF
 by_cases h4:4 < xs.length
 ·have:(4:Int) < (xs.length:Int):=by omega
  simp only[this,h4,decide_true,cond_true,if_true]
  (try rfl)
 have h4':¬ (4:Int) < (xs.length:Int):=by omega
 simp only[h4,h4',decide_false,cond_false,if_false]
 have last:impl_TxsFault.Q2 k (xs,()) xs=some (if 12 < cntF xs then 2 else 0,()):=by
  show impl_TxsFault.q2 _ _=_
  unfold impl_TxsFault.q2
  simp only[implCount_eq xs ht,Option.bind_some]
  by_cases hc:12 < cntF xs <;> simp[hc]
 have inner:∀ (self:((List Tx)×(List (Key×Bool))×(List Tx)×Int×Int)->Option impl_TxsFault.Out) (e2:List Tx->Option impl_TxsFault.Out) (i:Nat) (hi:i < xs.length) (m:List (Key×Bool)),impl_TxsFault.r2 k self e2 (xs,()) xs xs (xs.length:Int) (i:Int) (xs[i]).2.2.2.1 (List.length (xs[i]).2.2.2.1:Int) (m,(0:Int))=match walkM m (xs[i]).2.2.2.1 with | none=>some ((7:Int),()) | some m'=>self (xs,m',xs,(xs.length:Int),w64 ((i:Int)+1)):=fun self e2 i hi m=>by
  have hlk:=(h2 _ (List.getElem_mem hi)).2.2.1
  have:=for_loopE (B:=fun self' v=>impl_TxsFault.B2 k self' (fun z=>impl_TxsFault.Q1 k self e2 (xs,()) xs xs (xs.length:Int) (i:Int) (xs[i]).2.2.2.1 (List.length (xs[i]).2.2.2.1:Int) z) (xs,()) xs xs (xs.length:Int) (i:Int) (xs[i]).2.2.2.1 (List.length (xs[i]).2.2.2.1:Int) v) (xs[i]).2.2.2.1 (fun (m:List (Key×Bool)) (j:Int)=>(m,j)) (fun _ m y=>if getM m y then .inl (some ((7:Int),())) else .inr (putM m y)) (fun m=>self (xs,m,xs,(xs.length:Int),w64 ((i:Int)+1))) (fun _ _=>True) (by rw[maxLen_val];omega)
   (fun j hj s self' _=>by
    show impl_TxsFault.b2 _ _ _ _ _ _ _ _ _ _=_
    unfold impl_TxsFault.b2
    have hlt:(j:Int) < (List.length (xs[i]).2.2.2.1:Int):=by omega
    simp only[hlt,decide_true,cond_true,Int.natCast_nonneg,if_true,Int.toNat_natCast,List.getElem?_eq_getElem hj,Option.bind_some]
    show (bif getM s ((xs[i]).2.2.2.1)[j] then some ((7:Int),()) else self' (putM s ((xs[i]).2.2.2.1)[j],w64 ((j:Int)+1)))=_
    cases getM s ((xs[i]).2.2.2.1)[j] <;> rfl)
   (fun _ _ _ _ _ _=>trivial) (fun s self' _=>by
    show impl_TxsFault.b2 _ _ _ _ _ _ _ _ _ _=_
    unfold impl_TxsFault.b2
    simp only[Int.lt_irrefl,decide_false,cond_false]
    rfl) m trivial k (by omega)
  rw[forI_walk] at this
  exact this
 have apart:impl_TxsFault.Q0 k (xs,()) ()=some (if apartB xs then (if 12 < cntF xs then 2 else 0) else 7,()):=by
  have:=for_loopE (B:=fun self v=>impl_TxsFault.B1 k self (fun z=>impl_TxsFault.Q2 k (xs,()) z) (xs,()) v) xs (fun (m:List (Key×Bool)) (i:Int)=>(xs,m,xs,(xs.length:Int),i)) (fun _ m x=>match walkM m x.2.2.2.1 with | none=>.inl (some ((7:Int),())) | some m'=>.inr m') (fun _=>some (if 12 < cntF xs then 2 else 0,())) (fun _ _=>True) (by rw[maxLen_val];omega)
   (fun i hi m self _=>by
    show impl_TxsFault.b1 _ _ _ _ _=_
    unfold impl_TxsFault.b1
    have hlt:(i:Int) < (xs.length:Int):=by omega
    simp only[hlt,decide_true,cond_true,Int.natCast_nonneg,if_true,Int.toNat_natCast,List.getElem?_eq_getElem hi,Option.bind_some]
    rw[inner self _ i hi m]
    cases walkM m (xs[i]).2.2.2.1 <;> rfl)
   (fun _ _ _ _ _ _=>trivial) (fun s self _=>by
    show impl_TxsFault.b1 _ _ _ _ _=_
    unfold impl_TxsFault.b1
    simp only[Int.lt_irrefl,decide_false,cond_false]
    exact last) (seenM []) trivial k (by omega)
  rw[forI_walks,walk_seen _ _ List.nodup_nil] at this
  refine Eq.trans this ?_
  unfold apartB
  simp only[List.nil_append]
  by_cases hn:(flatK xs).Nodup <;> simp[hn]
 have:=for_loopE (B:=fun self v=>impl_TxsFault.B0 k self (fun z=>impl_TxsFault.Q0 k (xs,()) z) (xs,()) v) xs (fun (_:Unit) (i:Int)=>i) (fun i _ x=>if oneC xs i x=0 then .inr () else .inl (some (oneC xs i x,()))) (fun _=>some (if apartB xs then (if 12 < cntF xs then 2 else 0) else 7,())) (fun _ _=>True) (by rw[maxLen_val];omega)
  (fun i hi s self _=>by
   show impl_TxsFault.b0 _ _ _ _=_
   unfold impl_TxsFault.b0 oneC
   have hlt:(i:Int) < (xs.length:Int):=by omega
   simp only[hlt,decide_true,cond_true,Int.natCast_nonneg,if_true,Int.toNat_natCast,List.getElem?_eq_getElem hi,Option.bind_some,isTx_eq,txFault_eq _ (h2 _ (List.getElem_mem hi))]
   show (bif !inB (xs[i]).1 1 99 then _ else _)=_
   cases inB (xs[i]).1 1 99 with
   | false=>rfl
   | true=>
    simp only[Bool.not_true,cond_false,if_true]
    by_cases h0:i=0
    ·subst h0
     have hz:¬ (0:Int) < ((0:Nat):Int):=by omega
     simp only[hz,decide_false,cond_false,Nat.lt_irrefl,if_false]
     by_cases hc:txF xs[0]=0
     ·simp only[hc,decide_true,Bool.not_true,cond_false,if_true]
     ·simp only[hc,decide_false,Bool.not_false,cond_true,if_false]
    ·have hi1:i - 1 < xs.length:=by omega
     have hp:(0:Int) < (i:Int):=by omega
     have hp2:0 < i:=by omega
     simp only[hp,hp2,decide_true,cond_true,wprev (show 0 < i by omega) (by rw[maxLen_val];omega),Int.natCast_nonneg,if_true,Int.toNat_natCast,List.getElem?_eq_getElem hi1,Option.bind_some]
     by_cases hle:(xs[i]).1<=(xs[i - 1]).1
     ·simp only[hle,decide_true,cond_true,if_true]
      rfl
     ·simp only[hle,decide_false,cond_false,if_false]
      by_cases hc:txF xs[i]=0
      ·simp only[hc,decide_true,Bool.not_true,cond_false,if_true]
      ·simp only[hc,decide_false,Bool.not_false,cond_true,if_false])
  (fun _ _ _ _ _ _=>trivial) (fun s self _=>by
   show impl_TxsFault.b0 _ _ _ _=_
   unfold impl_TxsFault.b0
   simp only[Int.lt_irrefl,decide_false,cond_false]
   exact apart) () trivial k (by omega)
 rw[forI_codeE (oneC xs)] at this
 refine Eq.trans this ?_
 unfold eachF
 split <;> rfl
theorem specTxs_eq (xs:List Tx) (h:tls xs):spec_l10Fault.sem (xs,())=some (txsF xs,()):=by
 have ht:=h
 obtain ⟨h1,h2⟩:=h
 refine lift_eq (k:=1048577) fun k hk=>(spec_l10Fault.raw_eq k _).trans ?_
 unfold spec_l10Fault.p txsF
 by_cases h4:4 < xs.length
 ·have:(4:Int) < (xs.length:Int):=by omega
  simp only[this,h4,decide_true,cond_true,if_true]
  (try rfl)
 have h4':¬ (4:Int) < (xs.length:Int):=by omega
 simp only[h4,h4',decide_false,cond_false,if_false]
 have last:spec_l10Fault.Q0 k (xs,()) ()=some (if apartS xs then (if 12 < cntF xs then 2 else 0) else 7,()):=by
  show spec_l10Fault.q0 _ _=_
  unfold spec_l10Fault.q0
  simp only[specApart_eq xs ht,specCount_eq xs ht,Option.bind_some]
  cases apartS xs with
  | false=>rfl
  | true=>by_cases hc:12 < cntF xs <;> simp[hc]
 have:=for_loopE (B:=fun self v=>spec_l10Fault.B0 k self (fun z=>spec_l10Fault.Q0 k (xs,()) z) (xs,()) v) xs (fun (_:Unit) (i:Int)=>i) (fun i _ x=>if oneC xs i x=0 then .inr () else .inl (some (oneC xs i x,()))) (fun _=>some (if apartS xs then (if 12 < cntF xs then 2 else 0) else 7,())) (fun _ _=>True) (by rw[maxLen_val];omega)
  (fun i hi s self _=>by
   show spec_l10Fault.b0 _ _ _ _=_
   unfold spec_l10Fault.b0 oneC
   have hlt:(i:Int) < (xs.length:Int):=by omega
   simp only[hlt,decide_true,cond_true,Int.natCast_nonneg,if_true,Int.toNat_natCast,List.getElem?_eq_getElem hi,Option.bind_some,specIn_eq,specUndo_eq _ (h2 _ (List.getElem_mem hi)),specMarks_eq _ (h2 _ (List.getElem_mem hi))]
   have hj:(bif !decide (undoF xs[i]=0) then some (undoF xs[i],()) else bif !decide (marksF xs[i]=0) then some (marksF xs[i],()) else self (w64 ((i:Int)+1)))=match (generalizing:=false) (if txF xs[i]=0 then .inr () else .inl (some (txF xs[i],())):Sum (Option (Int×Unit)) Unit) with | .inl o=>o | .inr _=>self (w64 ((i:Int)+1)):=by
    unfold txF
    by_cases hu:undoF xs[i]=0
    ·simp only[hu,decide_true,Bool.not_true,cond_false,if_true]
     by_cases hm:marksF xs[i]=0
     ·simp only[hm,decide_true,Bool.not_true,cond_false,if_true]
     ·simp only[hm,decide_false,Bool.not_false,cond_true,if_false]
    ·simp only[hu,decide_false,Bool.not_false,cond_true,if_false]
   show (bif !inB (xs[i]).1 1 99 then _ else _)=_
   cases inB (xs[i]).1 1 99 with
   | false=>rfl
   | true=>
    simp only[Bool.not_true,cond_false,if_true]
    by_cases h0:i=0
    ·subst h0
     have hz:¬ (0:Int) < ((0:Nat):Int):=by omega
     simp only[hz,decide_false,cond_false,Nat.lt_irrefl,if_false]
     refine hj.trans ?_
     by_cases hc:txF xs[0]=0 <;> simp only[hc,if_true,if_false]
    ·have hi1:i - 1 < xs.length:=by omega
     have hp:(0:Int) < (i:Int):=by omega
     have hp2:0 < i:=by omega
     simp only[hp,hp2,decide_true,cond_true,wprev (show 0 < i by omega) (by rw[maxLen_val];omega),Int.natCast_nonneg,if_true,Int.toNat_natCast,List.getElem?_eq_getElem hi1,Option.bind_some]
     by_cases hle:(xs[i]).1<=(xs[i - 1]).1
     ·simp only[hle,decide_true,cond_true,if_true]
      rfl
     ·simp only[hle,decide_false,cond_false,if_false]
      refine hj.trans ?_
      by_cases hc:txF xs[i]=0 <;> simp only[hc,if_true,if_false])
  (fun _ _ _ _ _ _=>trivial) (fun s self _=>by
   show spec_l10Fault.b0 _ _ _ _=_
   unfold spec_l10Fault.b0
   simp only[Int.lt_irrefl,decide_false,cond_false]
   exact last) () trivial k (by omega)
 rw[forI_codeE (oneC xs)] at this
 refine Eq.trans this ?_
 show (if eachF xs=0 then _ else some (eachF xs,()))=_
 by_cases he:eachF xs=0
 ·rw[if_pos he,if_pos he,apart_eq (each_rise he) (fun x hx=>by
   obtain ⟨i,hi,rfl⟩:=List.mem_iff_getElem.1 hx
   exact tx_nodup (one_good (each_good xs he i hi)).2.1)]
 ·rw[if_neg he,if_neg he]
end OT
set_option linter.unusedVariables false
set_option linter.unusedSimpArgs false
namespace OT
open Go
def dd (S:List Key) (ks:List Key):List Key:=ks.foldl (fun S k=>if hasK S k then S else S++[k]) S
def rowKs (rows:List Row):List Key:=rows.map fun r=>(r.1,r.2.1,())
def allKs (rows:List Row) (xs:List Tx):List Key:=rowKs rows++flatK xs
theorem mapPut_some {α:Type} (k:Ty) (m:List (k.den×α)) (x:k.den) (y:α) {i:Nat} (h:m.findIdx? (fun e=>k.eq x e.1)=some i):mapPut k m x y=m.set i (x,y):=by
 unfold mapPut
 rw[h]
theorem putM_same {S:List Key} {k:Key} (h:hasK S k=true):putM (seenM S) k=seenM S:=by
 have key:∀ (S:List Key) (i:Nat),(seenM S).findIdx? (fun e=>Ty.eq tKey k e.1)=some i->(seenM S)[i]?=some (k,true):=by
  intro S i hi
  have h1:=List.findIdx?_eq_some_iff_findIdx_eq.1 hi
  have hlt:i < (seenM S).length:=h1.1
  have h2:(seenM S).findIdx (fun e=>Ty.eq tKey k e.1) < (seenM S).length:=by rw[h1.2];exact hlt
  have h3:=List.findIdx_getElem (xs:=seenM S) (p:=fun e=>Ty.eq tKey k e.1) (w:=h2)
  simp only[h1.2] at h3
  have h4:Ty.eq tKey k (seenM S)[i].1=decide (k=(seenM S)[i].1):=kq_eq k _
  have h3:Ty.eq tKey k (seenM S)[i].1=true:=h3
  rw[h4,decide_eq_true_eq] at h3
  rw[List.getElem?_eq_getElem hlt]
  have h5:(seenM S)[i]=((seenM S)[i].1,true):=by simp[seenM]
  rw[h5,<- h3]
 show mapPut tKey (seenM S) k true=seenM S
 cases hf:(seenM S).findIdx? (fun e=>Ty.eq tKey k e.1) with
 | none=>
  exfalso
  have h1:mapGet tKey (seenM S) k=none:=by
   unfold mapGet
   have h2:=List.findIdx?_eq_none_iff.1 hf
   have:(seenM S).find? (fun e=>Ty.eq tKey k e.1)=none:=List.find?_eq_none.2 fun e he=>by rw[h2 e he];simp
   exact congrArg _ this
  have h2:=mapGet_seen S k
  rw[h] at h2
  exact absurd (h1.symm.trans h2) (by simp)
 | some i=>
  have h1:=key S i hf
  have hlt:=(List.getElem?_eq_some_iff.1 h1).1
  refine (mapPut_some tKey (seenM S) k true hf).trans ?_
  show (seenM S).set i (k,true)=seenM S
  have:(seenM S)[i]=(k,true):=(List.getElem?_eq_some_iff.1 h1).2
  rw[<-this]
  exact List.set_getElem_self hlt
theorem put_step (S:List Key) (k:Key):putM (seenM S) k=seenM (if hasK S k then S else S++[k]):=by
 cases h:hasK S k with
 | true=>simp only[if_true];exact putM_same h
 | false=>simp only[Bool.false_eq_true,if_false];exact put_seen h
theorem puts_dd:∀ (ks S:List Key),ks.foldl putM (seenM S)=seenM (dd S ks)
 | [],S=>rfl
 | k::ks,S=>by
  rw[List.foldl_cons,put_step,puts_dd ks]
  rfl
theorem dd_append (S a b:List Key):dd S (a++b)=dd (dd S a) b:=List.foldl_append
theorem dd_mem:∀ (ks S:List Key) (k:Key),k ∈ dd S ks↔k ∈ S\/k ∈ ks
 | [],S,k=>by simp[dd]
 | x::ks,S,k=>by
  show k ∈ dd (if hasK S x then S else S++[x]) ks↔_
  rw[dd_mem ks]
  cases h:hasK S x with
  | true=>
   have:=hasK_iff.1 h
   simp only[if_true,List.mem_cons]
   constructor
   ·rintro (h1 | h1)
    ·exact .inl h1
    ·exact .inr (.inr h1)
   ·rintro (h1 | h1 | h1)
    ·exact .inl h1
    ·subst h1;exact .inl this
    ·exact .inr h1
  | false=>
   simp only[Bool.false_eq_true,if_false,List.mem_append,List.mem_cons,List.not_mem_nil,or_false]
   exact or_assoc
theorem dd_len:∀ (ks S:List Key),S.length<=(dd S ks).length
 | [],S=>Nat.le_refl _
 | x::ks,S=>by
  refine Nat.le_trans ?_ (dd_len ks (if hasK S x then S else S++[x]))
  split
  ·exact Nat.le_refl _
  ·simp
theorem dd_nodup:∀ (ks S:List Key),(S++ks).Nodup->dd S ks=S++ks
 | [],S,_=>by simp[dd]
 | x::ks,S,h=>by
  have hx:hasK S x=false:=by
   cases hh:hasK S x with
   | false=>rfl
   | true=>
    rw[List.nodup_append] at h
    exact absurd rfl (h.2.2 x (hasK_iff.1 hh) x (by simp))
  show dd (if hasK S x then S else S++[x]) ks=_
  rw[hx]
  simp only[Bool.false_eq_true,if_false]
  rw[dd_nodup ks (S++[x]) (by simpa using h)]
  simp
theorem rowKs_nodup {rows:List Row} (h:up rows):(rowKs rows).Nodup:=by
 unfold rowKs
 rw[List.nodup_iff_pairwise_ne,List.pairwise_map]
 refine h.imp fun {a b} hab e=>?_
 have:rk a=rk b:=by
  simp only[Prod.mk.injEq,and_true] at e
  exact Prod.ext e.1 e.2
 rw[this,befB_irr] at hab
 cases hab
theorem rows_room {rows:List Row} {xs:List Tx} (h:up rows):rows.length<=(dd [] (allKs rows xs)).length:=by
 unfold allKs
 rw[dd_append,dd_nodup (rowKs rows) [] (by simpa using rowKs_nodup h)]
 refine Nat.le_trans ?_ (dd_len _ _)
 simp[rowKs]
def newN:List Key->List Key->Nat
 | _,[]=>0
 | S,k::ks=>(if hasK S k then 0 else 1)+newN (S++[k]) ks
theorem newN_dd:∀ (ks S T:List Key),(∀ k,k ∈ S↔k ∈ T)->(dd S ks).length=S.length+newN T ks
 | [],S,T,_=>rfl
 | x::ks,S,T,h=>by
  have hx:hasK S x=hasK T x:=by rw[Bool.eq_iff_iff,hasK_iff,hasK_iff];exact h x
  show (dd (if hasK S x then S else S++[x]) ks).length=_
  simp only[newN,<- hx]
  cases hh:hasK S x with
  | true=>
   simp only[if_true]
   rw[newN_dd ks S (T++[x]) fun k=>?_]
   ·omega
   ·simp only[List.mem_append,List.mem_singleton,<- h k]
    constructor
    ·exact .inl
    ·rintro (h1 | h1)
     ·exact h1
     ·subst h1;exact hasK_iff.1 hh
  | false=>
   simp only[Bool.false_eq_true,if_false]
   rw[newN_dd ks (S++[x]) (T++[x]) fun k=>by simp only[List.mem_append,h k]]
   simp only[List.length_append,List.length_cons,List.length_nil]
   omega
def roomF (rows:List Row) (xs:List Tx):Nat:=(dd [] (allKs rows xs)).length
theorem keysOf_eq (rows:List Row) (xs:List Tx) (hr:rows.length<=1048576) (h:tls xs):impl_keysOf.sem (rows,xs,())=some (seenM (dd [] (allKs rows xs)),()):=by
 obtain ⟨h1,h2⟩:=h
 refine lift_eq (k:=1048577) fun k hk=>(impl_keysOf.raw_eq k _).trans ?_
 have inner:∀ (self:((List (Key×Bool))×(List Tx)×Int×Int)->Option impl_keysOf.Out) (e2:(List (Key×Bool))->Option impl_keysOf.Out) (i:Nat) (hi:i < xs.length) (m:List (Key×Bool)),impl_keysOf.r2 k self e2 (rows,xs,()) xs (xs.length:Int) (i:Int) (xs[i]).2.2.2.1 (List.length (xs[i]).2.2.2.1:Int) (m,(0:Int))=self ((xs[i]).2.2.2.1.foldl putM m,xs,(xs.length:Int),w64 ((i:Int)+1)):=fun self e2 i hi m=>by
  have hlk:=(h2 _ (List.getElem_mem hi)).2.2.1
  have:=for_loopE (B:=fun self' v=>impl_keysOf.B2 k self' (fun z=>impl_keysOf.Q1 k self e2 (rows,xs,()) xs (xs.length:Int) (i:Int) (xs[i]).2.2.2.1 (List.length (xs[i]).2.2.2.1:Int) z) (rows,xs,()) xs (xs.length:Int) (i:Int) (xs[i]).2.2.2.1 (List.length (xs[i]).2.2.2.1:Int) v) (xs[i]).2.2.2.1 (fun (m:List (Key×Bool)) (j:Int)=>(m,j)) (fun _ m y=>.inr (putM m y)) (fun m=>self (m,xs,(xs.length:Int),w64 ((i:Int)+1))) (fun _ _=>True) (by rw[maxLen_val];omega)
   (fun j hj s self' _=>by
    show impl_keysOf.b2 _ _ _ _ _ _ _ _ _=_
    unfold impl_keysOf.b2
    have hlt:(j:Int) < (List.length (xs[i]).2.2.2.1:Int):=by omega
    simp only[hlt,decide_true,cond_true,Int.natCast_nonneg,if_true,Int.toNat_natCast,List.getElem?_eq_getElem hj,Option.bind_some]
    rfl)
   (fun _ _ _ _ _ _=>trivial) (fun s self' _=>by
    show impl_keysOf.b2 _ _ _ _ _ _ _ _ _=_
    unfold impl_keysOf.b2
    simp only[Int.lt_irrefl,decide_false,cond_false]
    rfl) m trivial k (by omega)
  rw[forI_fold (g:=putM)] at this
  exact this
 have second:∀ m,impl_keysOf.r1 k (rows,xs,()) (m,xs,(xs.length:Int),(0:Int))=some ((flatK xs).foldl putM m,()):=fun m=>by
  have:=for_loop (B:=fun self v=>impl_keysOf.B1 k self (fun z=>impl_keysOf.Q2 k (rows,xs,()) z) (rows,xs,()) v) xs (fun (m:List (Key×Bool)) (i:Int)=>(m,xs,(xs.length:Int),i)) (fun _ m x=>.inr (x.2.2.2.1.foldl putM m)) (fun m=>(m,())) (fun _ _=>True) (by rw[maxLen_val];omega)
   (fun i hi m self _=>by
    show impl_keysOf.b1 _ _ _ _ _=_
    unfold impl_keysOf.b1
    have hlt:(i:Int) < (xs.length:Int):=by omega
    simp only[hlt,decide_true,cond_true,Int.natCast_nonneg,if_true,Int.toNat_natCast,List.getElem?_eq_getElem hi,Option.bind_some]
    exact inner self _ i hi m)
   (fun _ _ _ _ _ _=>trivial) (fun s self _=>by
    show impl_keysOf.b1 _ _ _ _ _=_
    unfold impl_keysOf.b1
    simp only[Int.lt_irrefl,decide_false,cond_false]
    rfl) m trivial k (by omega)
  rw[forI_fold (g:=fun m (x:Tx)=>x.2.2.2.1.foldl putM m)] at this
  refine Eq.trans this ?_
  have:∀ (xs:List Tx) (m:List (Key×Bool)),xs.foldl (fun m (x:Tx)=>x.2.2.2.1.foldl putM m) m=(flatK xs).foldl putM m:=by
   intro xs
   induction xs with
   | nil=>intro m;rfl
   | cons x xs ih=>intro m;rw[List.foldl_cons,ih];simp[flatK,List.foldl_append]
  rw[this]
 have:=for_loopE (B:=fun self v=>impl_keysOf.B0 k self (fun z=>impl_keysOf.Q0 k (rows,xs,()) z) (rows,xs,()) v) rows (fun (m:List (Key×Bool)) (i:Int)=>(m,i)) (fun _ m r=>.inr (putM m (r.1,r.2.1,()))) (fun m=>some ((flatK xs).foldl putM m,())) (fun _ _=>True) (by rw[maxLen_val];omega)
  (fun i hi m self _=>by
   show impl_keysOf.b0 _ _ _ _=_
   unfold impl_keysOf.b0
   have hlt:(i:Int) < (rows.length:Int):=by omega
   simp only[hlt,decide_true,cond_true,Int.natCast_nonneg,if_true,Int.toNat_natCast,List.getElem?_eq_getElem hi,Option.bind_some]
   rfl)
  (fun _ _ _ _ _ _=>trivial) (fun s self _=>by
   show impl_keysOf.b0 _ _ _ _=_
   unfold impl_keysOf.b0
   simp only[Int.lt_irrefl,decide_false,cond_false]
   exact second s) (seenM []) trivial k (by omega)
 rw[forI_fold (g:=fun m (r:Row)=>putM m (r.1,r.2.1,()))] at this
 refine Eq.trans this ?_
 have e1:rows.foldl (fun m (r:Row)=>putM m (r.1,r.2.1,())) (seenM [])=(rowKs rows).foldl putM (seenM []):=by unfold rowKs;rw[List.foldl_map]
 rw[e1,<- List.foldl_append]
 exact congrArg (fun m=>some (m,())) (puts_dd (allKs rows xs) [])
theorem forI_firsts {O:Type} (x:Key) (E:Bool->Option O):∀ (ys:List Key) (j:Nat) (b:Bool),forI (fun _ b y=>if b then .inr (!decide (y=x)) else .inl (E false)) E j ys b=if b then E (!hasK ys x) else E false
 | [],_,b=>by cases b <;> rfl
 | y::ys,j,b=>by
  cases b with
  | false=>simp[forI]
  | true=>
   simp only[forI,if_true]
   rw[forI_firsts x E ys]
   have:hasK (y::ys) x=(decide (y=x)||hasK ys x):=rfl
   rw[this]
   cases decide (y=x) <;> simp
theorem forI_new {O:Type} (all:List Key) (E:Int->O):∀ (ys pre:List Key) (n:Int),all=pre++ys->forI (fun i n x=>.inr (if hasK (all.take i) x then n else n+1)) E pre.length ys n=E (n+(newN pre ys:Int))
 | [],pre,n,_=>by simp[forI,newN]
 | y::ys,pre,n,h=>by
  simp only[forI]
  have ht:all.take pre.length=pre:=by rw[h];simp
  rw[ht]
  have:=forI_new all E ys (pre++[y]) (if hasK pre y then n else n+1) (by rw[h];simp)
  rw[List.length_append] at this
  refine Eq.trans this ?_
  congr 1
  simp only[newN]
  cases hasK pre y <;> simp <;> omega
def exK (k:Key):List Key:=if k.2.1=0 then [] else [k]
def roomK (rows:List Row) (xs:List Tx) (k:Key):Nat:=(dd [] (allKs rows xs++exK k)).length
theorem specRoomK_eq (rows:List Row) (xs:List Tx) (kk:Key) (hr:rows.length<=1048576) (hx:xs.length<=1000) (h:∀ x ∈ xs,List.length x.2.2.2.1<=1000):spec_l10Room.sem (rows,xs,kk,())=some ((roomK rows xs kk:Int),()):=by
 refine lift_eq (k:=3000000) fun k hk=>(spec_l10Room.raw_eq k _).trans ?_
 have hfl:(flatK xs).length<=1000*xs.length:=by
  clear hx
  induction xs with
  | nil=>simp[flatK]
  | cons x xs ih=>
   have h1:=h x (by simp)
   have h2:=ih fun y hy=>h y (by simp[hy])
   have:flatK (x::xs)=x.2.2.2.1++flatK xs:=by simp[flatK]
   rw[this,List.length_append,List.length_cons]
   omega
 have third:∀ all:List Key,all.length<=2100000->spec_l10Room.r2 k (rows,xs,kk,()) (all,(0:Int),(0:Int))=some ((newN [] all:Int),()):=fun all hall=>by
  have inner:∀ (self:((List Key)×Int×Int)->Option spec_l10Room.Out) (e4:Int->Option spec_l10Room.Out) (i:Nat) (hi:i < all.length) (n:Int),spec_l10Room.r3 k self e4 (rows,xs,kk,()) all n (i:Int) (true,(0:Int))=if hasK (all.take i) all[i] then self (all,n,w64 ((i:Int)+1)) else self (all,w64 (n+1),w64 ((i:Int)+1)):=fun self e4 i hi n=>by
   have hti:(all.take i).length=i:=by simp;omega
   have:=for_loopE (B:=fun self' v=>spec_l10Room.B3 k self' (fun z=>spec_l10Room.Q2 k self e4 (rows,xs,kk,()) all n (i:Int) z) (rows,xs,kk,()) all n (i:Int) v) (all.take i) (fun (b:Bool) (j:Int)=>(b,j)) (fun _ b y=>if b then .inr (!decide (y=all[i])) else .inl (if false then self (all,w64 (n+1),w64 ((i:Int)+1)) else self (all,n,w64 ((i:Int)+1)))) (fun b=>if b then self (all,w64 (n+1),w64 ((i:Int)+1)) else self (all,n,w64 ((i:Int)+1))) (fun _ _=>True) (by rw[maxLen_val];omega)
    (fun j hj b self' _=>by
     show spec_l10Room.b3 _ _ _ _ _ _ _=_
     unfold spec_l10Room.b3
     rw[hti] at hj
     have hlt:(j:Int) < (i:Int):=by omega
     have hjl:j < all.length:=by omega
     have c1:(0:Int)<=(j:Int)/\(j:Int) < (all.length:Int):=by omega
     have c2:(0:Int)<=(i:Int)/\(i:Int) < (all.length:Int):=by omega
     simp only[hlt,c1,c2,and_self,decide_true,cond_true,if_true,Int.toNat_natCast,List.getElem?_eq_getElem hjl,List.getElem?_eq_getElem hi,Option.bind_some,kq_eq,List.getElem_take]
     cases b <;> rfl)
    (fun _ _ _ _ _ _=>trivial) (fun b self' _=>by
     show spec_l10Room.b3 _ _ _ _ _ _ _=_
     unfold spec_l10Room.b3
     simp only[hti,Int.lt_irrefl,decide_false,cond_false]
     cases b <;> rfl) true trivial k (by omega)
   have e:=forI_firsts all[i] (fun b=>if b then self (all,w64 (n+1),w64 ((i:Int)+1)) else self (all,n,w64 ((i:Int)+1))) (all.take i) 0 true
   refine (Eq.trans this e).trans ?_
   cases hasK (all.take i) all[i] <;> rfl
  have:=for_loop (B:=fun self v=>spec_l10Room.B2 k self (fun z=>spec_l10Room.Q3 k (rows,xs,kk,()) z) (rows,xs,kk,()) v) all (fun (n:Int) (i:Int)=>(all,n,i)) (fun i n x=>.inr (if hasK (all.take i) x then n else n+1)) (fun n=>(n,())) (fun i n=>0<=n/\n<=(i:Int)) (by rw[maxLen_val];omega)
   (fun i hi n self hI=>by
    show spec_l10Room.b2 _ _ _ _ _=_
    unfold spec_l10Room.b2
    have hlt:(i:Int) < (all.length:Int):=by omega
    simp only[hlt,decide_true,cond_true]
    rw[inner self _ i hi n,w64_in (n:=n+1) (by omega)]
    cases hasK (all.take i) all[i] <;> rfl)
   (fun i hi n n' hI hs=>by
    injection hs with hs
    rw[<-hs]
    split <;> omega) (fun s self _=>by
    show spec_l10Room.b2 _ _ _ _ _=_
    unfold spec_l10Room.b2
    simp only[Int.lt_irrefl,decide_false,cond_false]
    rfl) 0 (by omega) k (by omega)
  have e:=forI_new all (fun n=>(n,())) all [] 0 rfl
  refine (Eq.trans this (congrArg some e)).trans ?_
  rw[Int.zero_add]
 have second:spec_l10Room.r1 k (rows,xs,kk,()) (rowKs rows,(0:Int))=some ((newN [] (allKs rows xs++exK kk):Int),()):=by
  have hrl:(rowKs rows).length=rows.length:=by simp[rowKs]
  have:=for_loopE (B:=fun self v=>spec_l10Room.B1 k self (fun z=>spec_l10Room.Q1 k (rows,xs,kk,()) z) (rows,xs,kk,()) v) xs (fun (s:List Key) (i:Int)=>(s,i)) (fun _ s x=>.inr (s++x.2.2.2.1)) (fun s=>spec_l10Room.r2 k (rows,xs,kk,()) (s++exK kk,(0:Int),(0:Int))) (fun i s=>s.length<=1048576+1000*i) (by rw[maxLen_val];omega)
   (fun i hi s self hI=>by
    show spec_l10Room.b1 _ _ _ _=_
    unfold spec_l10Room.b1
    have hlt:(i:Int) < (xs.length:Int):=by omega
    have hlk:=h _ (List.getElem_mem hi)
    have hc:s.length+List.length (xs[i]).2.2.2.1<=CAP:=cap_ok (by omega)
    simp only[hlt,decide_true,cond_true,Int.natCast_nonneg,if_true,Int.toNat_natCast,List.getElem?_eq_getElem hi,Option.bind_some,hc])
   (fun i hi s s' hI hs=>by
    injection hs with hs
    have hlk:=h _ (List.getElem_mem hi)
    rw[<-hs,List.length_append];omega) (fun s self hI=>by
    show spec_l10Room.b1 _ _ _ _=_
    unfold spec_l10Room.b1
    simp only[Int.lt_irrefl,decide_false,cond_false]
    show spec_l10Room.q1 _ _ _=_
    unfold spec_l10Room.q1 exK
    have hc:s.length+[kk].length<=CAP:=cap_ok (by simp only[List.length_cons,List.length_nil];omega)
    by_cases h0:kk.2.1=0
    ·simp only[h0,decide_true,Bool.not_true,cond_false,if_true,List.append_nil]
    ·simp only[h0,decide_false,Bool.not_false,cond_true,if_false,hc,if_true]) (rowKs rows) (by omega) k (by omega)
  rw[forI_fold (g:=fun s (x:Tx)=>s++x.2.2.2.1)] at this
  refine Eq.trans this ?_
  have e:∀ (xs:List Tx) (s:List Key),xs.foldl (fun s (x:Tx)=>s++x.2.2.2.1) s=s++flatK xs:=by
   intro xs
   induction xs with
   | nil=>intro s;simp[flatK]
   | cons x xs ih=>intro s;rw[List.foldl_cons,ih];simp[flatK]
  rw[e]
  have hex:(exK kk).length<=1:=by unfold exK;split <;> simp
  exact third _ (by rw[List.length_append,List.length_append,hrl];omega)
 have:=for_loopE (B:=fun self v=>spec_l10Room.B0 k self (fun z=>spec_l10Room.Q0 k (rows,xs,kk,()) z) (rows,xs,kk,()) v) rows (fun (s:List Key) (i:Int)=>(s,i)) (fun _ s r=>.inr (s++[(r.1,r.2.1,())])) (fun s=>spec_l10Room.r1 k (rows,xs,kk,()) (s,(0:Int))) (fun i s=>s.length=i) (by rw[maxLen_val];omega)
  (fun i hi s self hI=>by
   show spec_l10Room.b0 _ _ _ _=_
   unfold spec_l10Room.b0
   have hlt:(i:Int) < (rows.length:Int):=by omega
   have hc:s.length+[((rows[i]).1,(rows[i]).2.1,())].length<=CAP:=cap_ok (by simp only[List.length_cons,List.length_nil];omega)
   simp only[hlt,decide_true,cond_true,Int.natCast_nonneg,if_true,Int.toNat_natCast,List.getElem?_eq_getElem hi,Option.bind_some]
   rw[if_pos hc])
  (fun i hi s s' hI hs=>by injection hs with hs;rw[<-hs];simp[hI]) (fun s self _=>by
   show spec_l10Room.b0 _ _ _ _=_
   unfold spec_l10Room.b0
   simp only[Int.lt_irrefl,decide_false,cond_false]
   rfl) [] rfl k (by omega)
 rw[forI_fold (g:=fun s (r:Row)=>s++[(r.1,r.2.1,())])] at this
 have e:∀ (rows:List Row) (s:List Key),rows.foldl (fun s (r:Row)=>s++[(r.1,r.2.1,())]) s=s++rowKs rows:=by
  intro rows
  induction rows with
  | nil=>intro s;simp[rowKs]
  | cons r rows ih=>intro s;rw[List.foldl_cons,ih];simp[rowKs]
 rw[e,List.nil_append,second] at this
 refine Eq.trans this ?_
 have:=newN_dd (allKs rows xs++exK kk) [] [] (fun _=>Iff.rfl)
 simp only[List.length_nil,Nat.zero_add] at this
 unfold roomK
 rw[this]
theorem specRoom_eq (rows:List Row) (xs:List Tx) (hr:rows.length<=1048576) (hx:xs.length<=1000) (h:∀ x ∈ xs,List.length x.2.2.2.1<=1000):spec_l10Room.sem (rows,xs,((0:Int),(0:Int),()),())=some ((roomF rows xs:Int),()):=by
 rw[specRoomK_eq rows xs _ hr hx h]
 unfold roomK exK
 simp only[if_true,List.append_nil]
 rfl
theorem locks_key {ks:List Key} (h:locksL ks=0):∀ k ∈ ks,keyB2 k=true:=by
 have main:∀ (ys:List Key) (j:Nat),(forI (fun i (_:Unit) k=>if lockC ks i k=0 then .inr () else .inl (lockC ks i k)) (fun _=>(0:Int)) j ys ())=0->∀ y ∈ ys,keyB2 y=true:=by
  intro ys
  induction ys with
  | nil=>intro j _ y hy;cases hy
  | cons y ys ih=>
   intro j hf z hz
   simp only[forI] at hf
   by_cases h0:lockC ks j y=0
   ·rw[if_pos h0] at hf
    rcases List.mem_cons.1 hz with rfl | hz
    ·unfold lockC at h0
     split at h0
     ·assumption
     ·cases h0
    ·exact ih (j+1) hf z hz
   ·rw[if_neg h0] at hf
    exact absurd hf h0
 exact main ks 0 h
structure TxsOk (xs:List Tx):Prop where
 len:xs.length<=4
 ch:∀ x ∈ xs,∀ c ∈ (x.2.1:List Change),chF c=0
 locks:∀ x ∈ xs,List.length x.2.2.2.1<=12
 undo:∀ x ∈ xs,List.length x.2.1<=12
 keys:∀ x ∈ xs,∀ k ∈ (x.2.2.2.1:List Key),keyB2 k=true
theorem firstF_zero {α:Type} {c:α->Int}:∀ {xs:List α},firstF c xs=0->∀ x ∈ xs,c x=0
 | [],_,_,h=>by cases h
 | y::ys,h,x,hx=>by
  simp only[firstF] at h
  split at h
  ·rcases List.mem_cons.1 hx with e | e
   ·subst e;assumption
   ·exact firstF_zero h x e
  ·rename_i hn;exact absurd h hn
theorem cnt_mem:∀ (xs:List Tx) (n:Int),0<=n->n<=xs.foldl (fun n x=>n+(List.length x.2.1:Int)) n/\∀ x ∈ xs,(List.length x.2.1:Int)<=xs.foldl (fun n x=>n+(List.length x.2.1:Int)) n
 | [],n,h=>⟨Int.le_refl _,fun x hx=>by cases hx⟩
 | y::ys,n,h=>by
  obtain ⟨h1,h2⟩:=cnt_mem ys (n+(List.length y.2.1:Int)) (by omega)
  simp only[List.foldl_cons]
  refine ⟨by omega,fun x hx=>?_⟩
  rcases List.mem_cons.1 hx with e | e
  ·subst e;omega
  ·exact h2 x e
theorem txs_ok {xs:List Tx} (h:txsF xs=0):TxsOk xs:=by
 unfold txsF at h
 split at h
 ·cases h
 ·rename_i hl
  split at h
  ·rename_i he
   split at h
   ·split at h
    ·cases h
    ·rename_i hc
     have each:∀ x ∈ xs,txF x=0:=fun x hx=>by
      obtain ⟨i,hi,rfl⟩:=List.mem_iff_getElem.1 hx
      exact (one_good (each_good xs he i hi)).2.1
     refine ⟨by omega,fun x hx c hcm=>?_,fun x hx=>?_,fun x hx=>?_,fun x hx=>?_⟩
     ·have h1:=each x hx
      unfold txF at h1
      split at h1
      ·rename_i hu
       have h2:=firstF_zero hu c hcm
       unfold undoC at h2
       split at h2
       ·rename_i hs
        unfold chS at hs
        split at hs
        ·assumption
        ·rename_i hn;exact absurd hs hn
       ·rename_i hn;exact absurd h2 hn
      ·rename_i hn;exact absurd h1 hn
     ·have h1:=each x hx
      unfold txF at h1
      split at h1
      ·unfold marksF at h1
       split at h1
       ·cases h1
       ·rename_i hm
        simp only[Bool.or_eq_true,decide_eq_true_eq,not_or] at hm
        omega
      ·rename_i hn;exact absurd h1 hn
     ·have:=(cnt_mem xs 0 (Int.le_refl _)).2 x hx
      unfold cntF at hc
      omega
     ·have h1:=each x hx
      unfold txF at h1
      split at h1
      ·unfold marksF at h1
       split at h1
       ·cases h1
       ·split at h1
        ·exact locks_key h1
        ·cases h1
      ·rename_i hn;exact absurd h1 hn
   ·cases h
  ·rename_i hn;exact absurd h hn
end OT
set_option linter.unusedVariables false
set_option linter.unusedSimpArgs false
namespace OT
open Go
def invC (c:Change):Change:=(c.2.2.1,c.2.2.2.1,c.1,c.2.1,())
def invF (cs:List Change):List Change:=cs.reverse.map invC
theorem inv_len (cs:List Change):(invF cs).length=cs.length:=by simp[invF]
theorem inv_mem {cs:List Change} {c:Change} (h:c ∈ invF cs):∃ d ∈ cs,c=invC d:=by
 unfold invF at h
 obtain ⟨d,h1,h2⟩:=List.mem_map.1 h
 exact ⟨d,List.mem_reverse.1 h1,h2.symm⟩
theorem sameKey_comm (a b:Row):sameKey a b=sameKey b a:=by
 rw[sameKey_rk,sameKey_rk]
 by_cases h:rk a=rk b
 ·simp[h]
 ·have:¬ rk b=rk a:=fun e=>h e.symm
  simp[h,this]
theorem chF_inv {c:Change} (h:chF c=0):chF (invC c)=0:=by
 obtain ⟨a,ra,b,rb,⟨⟩⟩:=c
 unfold chF at h ⊢
 simp only[invC]
 have hk:=sameKey_comm ra rb
 cases a <;> cases b
 ·exact h
 ·simp at h ⊢
  by_cases hr:rowF rb=0
  ·exact fun _=>hr
  ·simp[hr] at h
 ·simp at h ⊢
  by_cases hr:rowF ra=0
  ·exact hr
  ·simp[hr] at h
 ·simp only[hk] at h
  by_cases hs:sameKey rb ra=true
  ·by_cases hr:rowF ra=0
   ·by_cases hb:rowF rb=0
    ·simp[hs,hr,hb] at h ⊢
     try omega
    ·simp[hs,hr,hb] at h ⊢
   ·by_cases hb:rowF rb=0
    ·simp[hs,hr,hb] at h ⊢
    ·simp[hs,hr,hb] at h ⊢
  ·simp[hs] at h
theorem inverse_loop (cs:List Change) (hl:cs.length<=1048576) {O:Type} {B:((List Change×Int)->Option O)->(List Change×Int)->Option O} {E:List Change->Option O}
  (hin:∀ (m:Nat) (hm:m < cs.length) acc self,acc.length<=1048576->B self (acc,(m:Int))=self (acc++[invC cs[m]],w64 ((m:Int) - 1))) (hout:∀ acc self,B self (acc,(-1:Int))=E acc) :
  ∀ k,cs.length < k->rawIter B k ([],w64 ((cs.length:Int) - 1))=E (invF cs):=by
 have main:∀ (m:Nat) (acc:List Change),m<=cs.length->acc.length+m<=cs.length->∀ k,m < k->rawIter B k (acc,(m:Int) - 1)=E (acc++(cs.take m).reverse.map invC):=by
  intro m
  induction m with
  | zero=>
   intro acc _ _ k hk
   cases k with
   | zero=>omega
   | succ k=>
    show B (rawIter B k) _=_
    have:((0:Nat):Int) - 1=-1:=by omega
    rw[this,hout]
    simp
  | succ m ih=>
   intro acc hm ha k hk
   cases k with
   | zero=>omega
   | succ k=>
    show B (rawIter B k) _=_
    have e:((m+1:Nat):Int) - 1=(m:Int):=by omega
    rw[e,hin m (by omega) acc _ (by omega),w64_in (by omega),ih _ (by omega) (by simp;omega) k (by omega),List.take_succ_eq_append_getElem (by omega),List.reverse_append,List.map_append,List.append_assoc]
    rfl
 intro k hk
 have:=main cs.length [] (Nat.le_refl _) (by simp) k hk
 rw[w64_in (by omega)]
 simpa [invF] using this
theorem specInv_eq (cs:List Change) (hl:cs.length<=1048576):spec_l10Inverse.sem (cs,())=some (invF cs,()):=by
 refine lift_eq (k:=cs.length+1) fun k hk=>(spec_l10Inverse.raw_eq k _).trans ?_
 refine inverse_loop cs hl (B:=fun self v=>spec_l10Inverse.B0 0 self (fun z=>spec_l10Inverse.Q0 0 (cs,()) z) (cs,()) v) (E:=fun z=>some (z,())) (fun m hm acc self ha=>?_) (fun acc self=>?_) k (by omega)
 ·show spec_l10Inverse.b0 _ _ _ _=_
  unfold spec_l10Inverse.b0
  have hc:acc.length+[invC cs[m]].length<=CAP:=cap_ok (by simp only[List.length_cons,List.length_nil];omega)
  simp only[Int.natCast_nonneg,decide_true,cond_true,if_true,Int.toNat_natCast,List.getElem?_eq_getElem hm,Option.bind_some]
  exact if_pos hc
 ·show spec_l10Inverse.b0 _ _ _ _=_
  unfold spec_l10Inverse.b0
  rfl
theorem implInv_eq (cs:List Change) (hl:cs.length<=1048576):impl_inverse.sem (cs,())=some (invF cs,()):=by
 refine lift_eq (k:=cs.length+1) fun k hk=>(impl_inverse.raw_eq k _).trans ?_
 refine inverse_loop cs hl (B:=fun self v=>impl_inverse.B0 0 self (fun z=>impl_inverse.Q0 0 (cs,()) z) (cs,()) v) (E:=fun z=>some (z,())) (fun m hm acc self ha=>?_) (fun acc self=>?_) k (by omega)
 ·show impl_inverse.b0 _ _ _ _=_
  unfold impl_inverse.b0
  have hc:acc.length+[invC cs[m]].length<=CAP:=cap_ok (by simp only[List.length_cons,List.length_nil];omega)
  simp only[Int.natCast_nonneg,decide_true,cond_true,if_true,Int.toNat_natCast,List.getElem?_eq_getElem hm,Option.bind_some]
  exact if_pos hc
 ·show impl_inverse.b0 _ _ _ _=_
  unfold impl_inverse.b0
  rfl
def backL:List Row->List Change->Option (List Row)
 | s,[]=>some s
 | s,c::cs=>if fits1 s c then backL (done1 s c) cs else none
theorem back_append:∀ (a b:List Change) (s:List Row),backL s (a++b)=(backL s a).bind fun t=>backL t b
 | [],b,s=>rfl
 | c::a,b,s=>by
  simp only[List.cons_append,backL]
  split
  ·exact back_append a b _
  ·rfl
theorem forI_back {O:Type} (bad:O) (fin:List Row->O):∀ (cs:List Change) (i:Nat) (s:List Row),forI (fun _ s c=>if fits1 s c then .inr (done1 s c) else .inl bad) fin i cs s=match backL s cs with | some t=>fin t | none=>bad
 | [],_,_=>rfl
 | c::cs,i,s=>by
  simp only[forI,backL]
  by_cases h:fits1 s c=true
  ·simp only[h,if_true];exact forI_back bad fin cs _ _
  ·simp[h]
theorem back_good:∀ (cs:List Change) (s t:List Row),Good s->(∀ c ∈ cs,chF c=0)->backL s cs=some t->Good t/\t.length<=s.length+cs.length
 | [],s,t,h,_,hb=>by injection hb with hb;subst hb;exact ⟨h,by simp⟩
 | c::cs,s,t,h,hc,hb=>by
  simp only[backL] at hb
  split at hb
  ·have h1:=back_good cs (done1 s c) t (good_done h (hc c (by simp))) (fun d hd=>hc d (by simp[hd])) hb
   have h2:=done_len s c
   exact ⟨h1.1,by simp only[List.length_cons];omega⟩
  ·cases hb
theorem forI_inr {O α:Type} {f:Nat->Unit->α->Sum O Unit} {fin:Unit->O}:∀ (xs:List α) (j:Nat),(∀ i (hi:i < xs.length),f (j+i) () xs[i]=.inr ())->forI f fin j xs ()=fin ()
 | [],_,_=>rfl
 | x::xs,j,h=>by
  have h0:=h 0 (by simp)
  simp only[Nat.add_zero,List.getElem_cons_zero] at h0
  simp only[forI,h0]
  exact forI_inr xs (j+1) fun i hi=>by
   have:=h (i+1) (by simp;omega)
   rw[show j+1+i=j+(i+1) by omega]
   simpa using this
theorem good_rowsF {xs:List Row} (h:Good xs) (hl:xs.length<=60):rowsF xs=0:=by
 unfold rowsF
 rw[if_neg (by omega),forI_inr xs 0 fun i hi=>?_]
 unfold rowsStep
 rw[if_pos (h.ok _ (List.getElem_mem hi)),Nat.zero_add]
 by_cases h0:0 < i
 ·rw[if_pos h0,List.getElem?_eq_getElem (show i - 1 < xs.length by omega)]
  have hu:=h.up
  unfold up at hu
  rw[List.pairwise_iff_getElem] at hu
  have:=hu (i - 1) i (by omega) hi (by omega)
  simp only[this,if_true]
 ·rw[if_neg h0]
theorem apply_back {s:List Row} {cs:List Change} (h:Good s) (hc:∀ c ∈ cs,chF c=0) (hl:s.length+cs.length<=60):applyF s cs=match backL s cs with | some t=>((0:Int),t,()) | none=>((8:Int),([]:List Row),()):=by
 unfold applyF
 rw[if_pos (good_rowsF h (by omega))]
 have main:∀ (cs:List Change) (s:List Row) (i:Nat),Good s->(∀ c ∈ cs,chF c=0)->s.length+cs.length<=60->(forI applyStep applyFin i cs s).1=match backL s cs with | some t=>((0:Int),t,()) | none=>((8:Int),([]:List Row),()):=by
  intro cs
  induction cs with
  | nil=>
   intro s i h _ hl
   simp only[forI,applyFin,backL]
   rw[if_neg (by simp at hl;omega)]
  | cons c cs ih=>
   intro s i h hc hl
   simp only[forI,applyStep,backL,hc c (by simp),if_true]
   by_cases hf:fits1 s c=true
   ·simp only[hf,if_true]
    have:=done_len s c
    exact ih _ _ (good_done h (hc c (by simp))) (fun d hd=>hc d (by simp[hd])) (by simp at hl;omega)
   ·simp[hf]
 exact main cs s 0 h hc hl
def backs (xs:List Tx):List Change:=xs.flatMap fun x=>invF x.2.1
theorem forI_backs {O:Type} (bad:O) (fin:List Row->O):∀ (xs:List Tx) (i:Nat) (s:List Row),forI (fun _ s x=>match backL s (invF x.2.1) with | some t=>.inr t | none=>.inl bad) fin i xs s=match backL s (backs xs) with | some t=>fin t | none=>bad
 | [],_,_=>rfl
 | x::xs,i,s=>by
  have hb:backs (x::xs)=invF x.2.1++backs xs:=by simp[backs]
  rw[hb,back_append]
  simp only[forI]
  cases backL s (invF x.2.1) with
  | none=>rfl
  | some t=>simp only[Option.bind_some];exact forI_backs bad fin xs _ _
theorem inv_ch {cs:List Change} (h:∀ c ∈ cs,chF c=0):∀ c ∈ invF cs,chF c=0:=fun c hc=>by
 obtain ⟨d,h1,rfl⟩:=inv_mem hc
 exact chF_inv (h d h1)
theorem inv_cl {cs:List Change} (h:∀ c ∈ cs,cl c):∀ c ∈ invF cs,cl c:=fun c hc=>by
 obtain ⟨d,h1,rfl⟩:=inv_mem hc
 exact ⟨(h d h1).2,(h d h1).1⟩
theorem good_rl {s:List Row} (h:Good s):∀ x ∈ s,rl x:=fun x hx=>by
 have:=rowF_text (h.ok x hx)
 unfold rl
 rw[maxLen_val]
 omega
theorem specUndoL_eq (s:List Row) (cs:List Change) (h:Good s) (hc:∀ c ∈ cs,chF c=0) (hl:s.length+cs.length<=1000):spec_l11Undo.sem (s,cs,())=some (match backL s (invF cs) with | some t=>(t,true,()) | none=>(([]:List Row),false,())):=by
 refine lift_eq (k:=1001) fun k hk=>(spec_l11Undo.raw_eq k _).trans ?_
 unfold spec_l11Undo.p
 rw[specInv_eq cs (by omega)]
 simp only[Option.bind_some]
 have hlen:=inv_len cs
 have hch:=inv_ch hc
 have:=for_loop (B:=fun self v=>spec_l11Undo.B0 0 self (fun z=>spec_l11Undo.Q0 0 (s,cs,()) (invF cs) z) (s,cs,()) (invF cs) v) (invF cs) (fun (s:List Row) (i:Int)=>(s,i)) (fun _ s c=>if fits1 s c then .inr (done1 s c) else .inl (([]:List Row),false,())) (fun s=>(s,true,())) (fun i t=>Good t/\t.length<=s.length+i) (by rw[maxLen_val];omega)
  (fun i hi t self hI=>by
   show spec_l11Undo.b0 _ _ _ _ _=_
   unfold spec_l11Undo.b0
   have hlt:(i:Int) < ((invF cs).length:Int):=by omega
   have hin:(0:Int)<=(i:Int)/\(i:Int) < ((invF cs).length:Int):=by omega
   simp only[hlt,hin,and_self,decide_true,cond_true,if_true,Int.toNat_natCast,List.getElem?_eq_getElem hi,Option.bind_some]
   rw[specDo_eq t _ hI.1.up (by omega) (chF_key (hch _ (List.getElem_mem hi))).1]
   cases fits1 t (invF cs)[i] <;> rfl)
  (fun i hi t t' hI hs=>by
   split at hs
   ·injection hs with hs
    subst hs
    have:=done_len t (invF cs)[i]
    exact ⟨good_done hI.1 (hch _ (List.getElem_mem hi)),by omega⟩
   ·cases hs) (fun t self _=>by
   show spec_l11Undo.b0 _ _ _ _ _=_
   unfold spec_l11Undo.b0
   simp only[Int.lt_irrefl,decide_false,cond_false]
   rfl) s ⟨h,by omega⟩ k (by omega)
 rw[forI_back] at this
 refine Eq.trans this ?_
 cases backL s (invF cs) <;> rfl
theorem specBack_eq (rows:List Row) (xs:List Tx) (h:Good rows) (hl:rows.length<=12) (hx:TxsOk xs):spec_l11Back.sem (rows,xs,())=some (match backL rows (backs xs) with | some t=>(t,true,()) | none=>(([]:List Row),false,())):=by
 refine lift_eq (k:=10) fun k hk=>(spec_l11Back.raw_eq k _).trans ?_
 unfold spec_l11Back.p
 have hc:([]:List Row).length+rows.length<=CAP:=cap_ok (by simp only[List.length_nil];omega)
 rw[if_pos hc,List.nil_append]
 have hx4:=hx.len
 have:=for_loop (B:=fun self v=>spec_l11Back.B0 0 self (fun z=>spec_l11Back.Q0 0 (rows,xs,()) z) (rows,xs,()) v) xs (fun (s:List Row) (i:Int)=>(s,i)) (fun _ s x=>match backL s (invF x.2.1) with | some t=>.inr t | none=>.inl (([]:List Row),false,())) (fun s=>(s,true,())) (fun i t=>Good t/\t.length<=12+12*i) (by rw[maxLen_val];omega)
  (fun i hi t self hI=>by
   show spec_l11Back.b0 _ _ _ _=_
   unfold spec_l11Back.b0
   have hlt:(i:Int) < (xs.length:Int):=by omega
   have hu:=hx.undo _ (List.getElem_mem hi)
   simp only[hlt,decide_true,cond_true,Int.natCast_nonneg,if_true,Int.toNat_natCast,List.getElem?_eq_getElem hi,Option.bind_some]
   rw[specUndoL_eq t _ hI.1 (hx.ch _ (List.getElem_mem hi)) (by omega)]
   cases backL t (invF (xs[i]).2.1) <;> rfl)
  (fun i hi t t' hI hs=>by
   have hu:=hx.undo _ (List.getElem_mem hi)
   cases hb:backL t (invF (xs[i]).2.1) with
   | none=>rw[hb] at hs;cases hs
   | some q=>
    rw[hb] at hs
    injection hs with hs
    subst hs
    have:=back_good _ _ _ hI.1 (inv_ch (hx.ch _ (List.getElem_mem hi))) hb
    rw[inv_len] at this
    exact ⟨this.1,by omega⟩) (fun t self _=>by
   show spec_l11Back.b0 _ _ _ _=_
   unfold spec_l11Back.b0
   simp only[Int.lt_irrefl,decide_false,cond_false]
   rfl) rows ⟨h,by omega⟩ k (by omega)
 rw[forI_backs] at this
 refine Eq.trans this ?_
 cases backL rows (backs xs) <;> rfl
theorem committed_eq (rows:List Row) (xs:List Tx) (h:Good rows) (hl:rows.length<=12) (hx:TxsOk xs) (ht:tls xs):impl_committed.sem (rows,xs,())=some (match backL rows (backs xs) with | some t=>(t,(0:Int),()) | none=>(([]:List Row),(8:Int),())):=by
 refine lift_eq (k:=10) fun k hk=>(impl_committed.raw_eq k _).trans ?_
 unfold impl_committed.p
 have hx4:=hx.len
 have:=for_loop (B:=fun self v=>impl_committed.B0 0 self (fun z=>impl_committed.Q0 0 (rows,xs,()) z) (rows,xs,()) v) xs (fun (s:List Row) (i:Int)=>(s,i)) (fun _ s x=>match backL s (invF x.2.1) with | some t=>.inr t | none=>.inl (([]:List Row),(8:Int),())) (fun s=>(s,(0:Int),())) (fun i t=>Good t/\t.length<=12+12*i) (by rw[maxLen_val];omega)
  (fun i hi t self hI=>by
   show impl_committed.b0 _ _ _ _=_
   unfold impl_committed.b0
   have hlt:(i:Int) < (xs.length:Int):=by omega
   have hu:=hx.undo _ (List.getElem_mem hi)
   have hch:=inv_ch (hx.ch _ (List.getElem_mem hi))
   have htl:=ht.2 _ (List.getElem_mem hi)
   simp only[hlt,decide_true,cond_true,Int.natCast_nonneg,if_true,Int.toNat_natCast,List.getElem?_eq_getElem hi,Option.bind_some]
   rw[implInv_eq _ htl.1]
   simp only[Option.bind_some]
   have hil:=inv_len (xs[i]).2.1
   rw[implApply_eq t _ (by rw[maxLen_val];omega) (good_rl hI.1) (by omega) (inv_cl htl.2.2.2),apply_back hI.1 hch (by omega)]
   cases backL t (invF (xs[i]).2.1) <;> rfl)
  (fun i hi t t' hI hs=>by
   have hu:=hx.undo _ (List.getElem_mem hi)
   cases hb:backL t (invF (xs[i]).2.1) with
   | none=>rw[hb] at hs;cases hs
   | some q=>
    rw[hb] at hs
    injection hs with hs
    subst hs
    have:=back_good _ _ _ hI.1 (inv_ch (hx.ch _ (List.getElem_mem hi))) hb
    rw[inv_len] at this
    exact ⟨this.1,by omega⟩) (fun t self hI=>by
   show impl_committed.b0 _ _ _ _=_
   unfold impl_committed.b0
   simp only[Int.lt_irrefl,decide_false,cond_false,impl_committed.Q0,impl_committed.q0]
   rw[cloneRow_eq t (by omega)]
   rfl) rows ⟨h,by omega⟩ k (by omega)
 rw[forI_backs] at this
 refine Eq.trans this ?_
 cases backL rows (backs xs) <;> rfl
def nextB (n:Int) (xs:List Tx):Bool:=match xs[xs.length - 1]? with
 | some x=>decide (n<=x.1)
 | none=>false
def plainF (p:Plain):Int:=
 if rowsF p.1=0 then
  if txsF p.2.1=0 then
   if inB p.2.2.1 1 100&&!nextB p.2.2.1 p.2.1 then
    if 12 < roomF p.1 p.2.1 then 2 else (match backL p.1 (backs p.2.1) with | some _=>0 | none=>8)
   else 3
  else txsF p.2.1
 else rowsF p.1
def okP (p:Plain):Prop:=List.length p.1<=1048576/\(∀ x ∈ (p.1:List Row),rl x)/\tls p.2.1
theorem last_eq {O:Type} (n:Int) (xs:List Tx) (hl:xs.length<=1048576) (bad j:Option O) :
  (bif decide ((0:Int) < (xs.length:Int)) then (if 0<=w64 ((xs.length:Int) - (1:Int)) then ((xs[(w64 ((xs.length:Int) - (1:Int))).toNat]?).bind fun x5=>bif decide (n<=x5.1) then bad else j) else none) else j)=if nextB n xs then bad else j:=by
 unfold nextB
 by_cases h:0 < xs.length
 ·have h1:(0:Int) < (xs.length:Int):=by omega
  have h2:w64 ((xs.length:Int) - 1)=((xs.length - 1:Nat):Int):=by rw[w64_in (by omega)];omega
  have h3:xs.length - 1 < xs.length:=by omega
  simp only[h1,h2,decide_true,cond_true,Int.natCast_nonneg,if_true,Int.toNat_natCast,List.getElem?_eq_getElem h3,Option.bind_some]
  cases decide (n<=(xs[xs.length - 1]).1) <;> rfl
 ·have h0:xs=[]:=List.eq_nil_of_length_eq_zero (by omega)
  subst h0
  rfl
theorem implPlain_eq (p:Plain) (h:okP p):impl_PlainFault.sem (p,())=some (plainF p,()):=by
 obtain ⟨rows,xs,n,⟨⟩⟩:=p
 obtain ⟨h1,h2,h3⟩:=h
 simp only at h1 h2 h3
 refine lift_eq (k:=0) fun k _=>(impl_PlainFault.raw_eq k _).trans ?_
 show impl_PlainFault.p _=_
 unfold impl_PlainFault.p plainF
 simp only[implRows_eq rows (by rw[maxLen_val];omega) h2,implTxs_eq xs h3,implIn_eq,keysOf_eq rows xs h1 h3,Option.bind_some]
 by_cases hr:rowsF rows=0
 rotate_left
 ·simp only[hr,decide_false,Bool.not_false,cond_true,if_false]
 by_cases ht:txsF xs=0
 rotate_left
 ·simp only[hr,ht,decide_true,decide_false,Bool.not_true,Bool.not_false,cond_true,cond_false,if_true,if_false]
 obtain ⟨hg,_⟩:=rowsF_good hr
 have hok:=txs_ok ht
 simp only[hr,ht,decide_true,Bool.not_true,cond_false,if_true]
 have hin:(decide ((1:Int)<=n)&&decide (n<=100))=inB n 1 100:=rfl
 rw[hin]
 cases inB n 1 100 with
 | false=>rfl
 | true=>
  simp only[Bool.not_true,cond_false,Bool.true_and]
  rw[last_eq n xs h3.1]
  cases nextB n xs with
  | true=>rfl
  | false=>
   simp only[Bool.not_false,Bool.false_eq_true,if_false,if_true]
   have hlen:(seenM (dd [] (allKs rows xs))).length=roomF rows xs:=by simp[seenM,roomF]
   by_cases hroom:12 < roomF rows xs
   ·have:(12:Int) < ((seenM (dd [] (allKs rows xs))).length:Int):=by rw[hlen];omega
    simp only[this,hroom,decide_true,cond_true,if_true]
   ·have:¬ (12:Int) < ((seenM (dd [] (allKs rows xs))).length:Int):=by rw[hlen];omega
    have hrl:rows.length<=12:=by
     have:=rows_room (xs:=xs) hg.up
     unfold roomF at hroom
     omega
    simp only[this,hroom,decide_false,cond_false,if_false,committed_eq rows xs hg hrl hok h3,Option.bind_some]
    cases backL rows (backs xs) <;> rfl
theorem specFault_eq (p:Plain) (h:okP p):spec_l11Fault.sem (p,())=some (plainF p,()):=by
 obtain ⟨rows,xs,n,⟨⟩⟩:=p
 obtain ⟨h1,h2,h3⟩:=h
 simp only at h1 h2 h3
 refine lift_eq (k:=0) fun k _=>(spec_l11Fault.raw_eq k _).trans ?_
 show spec_l11Fault.p _=_
 unfold spec_l11Fault.p plainF
 simp only[specRows_eq rows (by rw[maxLen_val];omega) h2,specTxs_eq xs h3,specIn_eq,Option.bind_some]
 by_cases hr:rowsF rows=0
 rotate_left
 ·simp only[hr,decide_false,Bool.not_false,cond_true,if_false]
 by_cases ht:txsF xs=0
 rotate_left
 ·simp only[hr,ht,decide_true,decide_false,Bool.not_true,Bool.not_false,cond_true,cond_false,if_true,if_false]
 obtain ⟨hg,_⟩:=rowsF_good hr
 have hok:=txs_ok ht
 have hroomE:=specRoom_eq rows xs h1 (by have:=hok.len;omega) (fun x hx=>by have:=hok.locks x hx;omega)
 simp only[hr,ht,decide_true,Bool.not_true,cond_false,if_true,hroomE,Option.bind_some]
 have hin:(decide ((1:Int)<=n)&&decide (n<=100))=inB n 1 100:=rfl
 rw[hin]
 cases inB n 1 100 with
 | false=>rfl
 | true=>
  simp only[Bool.not_true,cond_false,Bool.true_and]
  rw[last_eq n xs h3.1]
  cases nextB n xs with
  | true=>rfl
  | false=>
   simp only[Bool.not_false,Bool.false_eq_true,if_false,if_true]
   by_cases hroom:12 < roomF rows xs
   ·have:(12:Int) < (roomF rows xs:Int):=by omega
    simp only[this,hroom,decide_true,cond_true,if_true]
   ·have:¬ (12:Int) < (roomF rows xs:Int):=by omega
    have hrl:rows.length<=12:=by
     have:=rows_room (xs:=xs) hg.up
     unfold roomF at hroom
     omega
    simp only[this,hroom,decide_false,cond_false,if_false,specBack_eq rows xs hg hrl hok,Option.bind_some]
    cases backL rows (backs xs) <;> rfl
theorem plain_ok {p:Plain} (hv:okD tPlain p) (hz:zz tPlain p<=1048576):okP p:=by
 obtain ⟨rows,xs,n,⟨⟩⟩:=p
 obtain ⟨hr,hx,_⟩:=hv
 replace hz:zz (.slc tRow) rows+(zz (.slc tTx) xs+(0+0))<=1048576:=hz
 refine ⟨Nat.le_trans (zz_len (e:=tRow) rows) (by omega),fun x hm=>rl_ok (hr.2 x hm),Nat.le_trans (zz_len (e:=tTx) xs) (by omega),fun x hm=>?_⟩
 have h1:zz tTx x+1<=zz (.slc tTx) xs:=zz_mem (e:=tTx) hm
 have h2:zz tTx x=0+(zz (.slc tChange) x.2.1+(zz (.slc i64) x.2.2.1+(zz (.slc tKey) x.2.2.2.1+0))):=rfl
 have h3:List.length x.2.1<=zz (.slc tChange) x.2.1:=zz_len (e:=tChange) x.2.1
 have h4:List.length x.2.2.1<=zz (.slc i64) x.2.2.1:=zz_len (e:=i64) x.2.2.1
 have h5:List.length x.2.2.2.1<=zz (.slc tKey) x.2.2.2.1:=zz_len (e:=tKey) x.2.2.2.1
 exact ⟨by omega,by omega,by omega,fun c hc=>cl_ok ((hx.2 x hm).2.1.2 c hc)⟩
end OT
set_option linter.unusedVariables false
set_option linter.unusedSimpArgs false
set_option linter.unusedSectionVars false
namespace OT
open Go
theorem ch_before {c:Change} (hc:chF c=0) (h:c.1=true):rk c.2.1=ck c:=by
 unfold chF at hc
 rw[h] at hc
 unfold ck
 cases hi:c.2.2.1 with
 | false=>rfl
 | true=>
  rw[hi] at hc
  simp only[Bool.not_true,Bool.false_and,Bool.and_self,Bool.true_and,Bool.false_or] at hc
  split at hc
  ·cases hc
  ·rename_i hn
   have hs:sameKey c.2.1 c.2.2.2.1=true:=by simpa using hn
   rw[sameKey_rk] at hs
   exact of_decide_eq_true hs
theorem rowE_refl (x:Row):Ty.eq tRow x x=true:=by
 have e:Ty.eq tRow x x=(decide (x.1=x.1)&&(decide (x.2.1=x.2.1)&&(decide (x.2.2.1=x.2.2.1)&&(decide (x.2.2.2.1=x.2.2.2.1)&&true)))):=rfl
 rw[e]
 simp
theorem fits_mem {xs:List Row} (hu:up xs) {c:Change} (hc:chF c=0):fits1 xs c=true↔(if c.1=true then c.2.1 ∈ xs else ∀ r ∈ xs,rk r≠ck c):=by
 unfold fits1
 cases hw:c.1 with
 | true=>
  have hk:=ch_before hc hw
  rw[if_pos rfl]
  constructor
  ·intro h
   simp only[Bool.and_eq_true,beq_iff_eq] at h
   obtain ⟨h1,h2⟩:=h
   obtain ⟨hp,_⟩:=fnd_lt h1
   rw[h1,List.getElem?_eq_getElem hp] at h2
   simp only[Bool.not_true,Bool.false_or] at h2
   have:=row_eq h2
   rw[<-this]
   exact List.getElem_mem hp
  ·intro h
   obtain ⟨i,hi,hx⟩:=List.getElem_of_mem h
   obtain ⟨f1,f2⟩:=fnd_at hu hi (k:=ck c) (by rw[hx];exact hk)
   rw[f1,f2,List.getElem?_eq_getElem hi,hx]
   simp[rowE_refl]
 | false=>
  rw[if_neg (by decide)]
  constructor
  ·intro h r hr he
   obtain ⟨i,hi,hx⟩:=List.getElem_of_mem hr
   have f1:=(fnd_at hu hi (k:=ck c) (by rw[hx];exact he)).1
   rw[f1] at h
   simp at h
  ·intro h
   have:fnd xs (ck c)=false:=by
    cases hf:fnd xs (ck c) with
    | false=>rfl
    | true=>
     obtain ⟨y,hy,hk⟩:=fnd_mem hf
     exact absurd hk (h y hy)
   rw[this]
   rfl
def agree (K:Int×Int->Prop) (s s':List Row):Prop:=∀ r,K (rk r)->(r ∈ s↔r ∈ s')
theorem agree_done {K:Int×Int->Prop} {s s':List Row} (hs:up s) (hs':up s') (h:agree K s s') (c:Change):agree K (done1 s c) (done1 s' c):=fun r hr=>by
 rw[done_mem hs,done_mem hs',h r hr]
theorem agree_fits {K:Int×Int->Prop} {s s':List Row} (hs:up s) (hs':up s') (h:agree K s s') {c:Change} (hc:chF c=0) (hk:K (ck c)) (hf:fits1 s c=true):fits1 s' c=true:=by
 rw[fits_mem hs hc] at hf
 rw[fits_mem hs' hc]
 by_cases hw:c.1=true
 ·rw[if_pos hw] at hf ⊢
  exact (h _ (by rw[ch_before hc hw];exact hk)).1 hf
 ·rw[if_neg hw] at hf ⊢
  exact fun r hr he=>hf r ((h r (by rw[he];exact hk)).2 hr) he
theorem back_agree {K:Int×Int->Prop}:∀ (cs:List Change) (s s' t:List Row),Good s->Good s'->(∀ c ∈ cs,chF c=0)->(∀ c ∈ cs,K (ck c))->agree K s s'->backL s cs=some t->∃ t',backL s' cs=some t'
 | [],s,s',t,_,_,_,_,_,_=>⟨s',rfl⟩
 | c::cs,s,s',t,hs,hs',hc,hk,h,hb=>by
  simp only[backL] at hb ⊢
  split at hb
  ·rename_i hf
   have hc0:=hc c List.mem_cons_self
   rw[if_pos (agree_fits hs.1 hs'.1 h hc0 (hk c List.mem_cons_self) hf)]
   exact back_agree cs _ _ t (good_done hs hc0) (good_done hs' hc0) (fun d hd=>hc d (List.mem_cons_of_mem _ hd)) (fun d hd=>hk d (List.mem_cons_of_mem _ hd)) (agree_done hs.1 hs'.1 h c) hb
  ·cases hb
theorem back_frame:∀ (cs:List Change) (s t:List Row),Good s->(∀ c ∈ cs,chF c=0)->backL s cs=some t->agree (fun k=>∀ c ∈ cs,ck c≠k) s t
 | [],s,t,_,_,hb=>by injection hb with hb;subst hb;exact fun r _=>Iff.rfl
 | c::cs,s,t,hs,hc,hb=>by
  simp only[backL] at hb
  split at hb
  ·have hc0:=hc c List.mem_cons_self
   have ih:=back_frame cs _ t (good_done hs hc0) (fun d hd=>hc d (List.mem_cons_of_mem _ hd)) hb
   intro r hr
   rw[<-ih r fun d hd=>hr d (List.mem_cons_of_mem _ hd),done_mem hs.1]
   constructor
   ·exact fun h=>.inl ⟨h,fun e=>hr c List.mem_cons_self e.symm⟩
   ·rintro (h | ⟨hi,rfl⟩)
    ·exact h.1
    ·exact absurd ((chF_key hc0).1 hi).symm (hr c List.mem_cons_self)
  ·cases hb
theorem one_undo {rows:List Row} {xs:List Tx} {t:List Row} (hg:Good rows) (hc:∀ x ∈ xs,∀ c ∈ (x.2.1:List Change),chF c=0) (hb:backL rows (backs xs)=some t) {i:Nat} (hi:i < xs.length)
  (hd:∀ j (hj:j < i),∀ c ∈ invF xs[j].2.1,∀ d ∈ invF xs[i].2.1,ck c≠ck d):∃ t',backL rows (invF xs[i].2.1)=some t':=by
 have hx:xs=xs.take i++xs[i]::xs.drop (i+1):=by rw[List.getElem_cons_drop,List.take_append_drop]
 have hbk:backs xs=backs (xs.take i)++(invF xs[i].2.1++backs (xs.drop (i+1))):=by
  conv=>lhs;rw[hx]
  unfold backs
  rw[List.flatMap_append,List.flatMap_cons]
 rw[hbk,back_append] at hb
 have hcp:∀ c ∈ backs (xs.take i),chF c=0:=fun c h=>by
  unfold backs at h
  obtain ⟨x,hx,hm⟩:=List.mem_flatMap.1 h
  exact inv_ch (hc x (List.mem_of_mem_take hx)) c hm
 cases h1:backL rows (backs (xs.take i)) with
 | none=>rw[h1] at hb;cases hb
 | some s1=>
  rw[h1,Option.bind_some,back_append] at hb
  cases h2:backL s1 (invF xs[i].2.1) with
  | none=>rw[h2] at hb;cases hb
  | some s2=>
   have hf:=back_frame _ rows s1 hg hcp h1
   refine back_agree (K:=fun k=>∀ c ∈ backs (xs.take i),ck c≠k) _ s1 rows s2 (back_good _ _ _ hg hcp h1).1 hg (inv_ch (hc _ (List.getElem_mem hi))) (fun d hd2 c hc2=>?_) (fun r hr=>(hf r hr).symm) h2
   unfold backs at hc2
   obtain ⟨x,hx,hm⟩:=List.mem_flatMap.1 hc2
   obtain ⟨j,hj,hxj⟩:=List.getElem_of_mem hx
   rw[List.length_take] at hj
   rw[List.getElem_take] at hxj
   subst hxj
   exact hd j (by omega) c hm d hd2
theorem inv_split (cs:List Change) (n:Nat):invF cs=invF (cs.drop n)++invF (cs.take n):=by
 unfold invF
 rw[<-List.map_append,<- List.reverse_append,List.take_append_drop]
theorem part_undo {rows:List Row} {cs:List Change} {t:List Row} (h:backL rows (invF cs)=some t) (n:Nat):∃ t',backL rows (invF (cs.drop n))=some t':=by
 rw[inv_split cs n,back_append] at h
 cases h1:backL rows (invF (cs.drop n)) with
 | none=>rw[h1] at h;cases h
 | some s=>exact ⟨s,rfl⟩
end OT
set_option linter.unusedVariables false
set_option linter.unusedSimpArgs false
namespace OT
open Go
def atF (xs:List Tx) (t:Int):Int:=whereF (fun x=>decide (x.1=t)) 0 xs
theorem specTxAt_eq (xs:List Tx) (t:Int) (h:xs.length<=1048576):spec_l10At.sem (xs,t,())=some (atF xs t,()):=by
 refine lift_eq (k:=xs.length+1) fun k hk=>(spec_l10At.raw_eq k _).trans ?_
 have:=for_loop (B:=fun self v=>spec_l10At.B0 0 self (fun z=>spec_l10At.Q0 0 (xs,t,()) z) (xs,t,()) v) xs (fun (_:Unit) (i:Int)=>i) (fun i _ x=>if decide (x.1=t) then .inl ((i:Int),()) else .inr ()) (fun _=>((-1:Int),())) (fun _ _=>True) (by rw[maxLen_val];omega)
  (fun i hi s self _=>by
   show spec_l10At.b0 _ _ _ _=_
   unfold spec_l10At.b0
   have hlt:(i:Int) < (xs.length:Int):=by omega
   simp only[hlt,decide_true,cond_true,Int.natCast_nonneg,if_true,Int.toNat_natCast,List.getElem?_eq_getElem hi,Option.bind_some]
   cases decide ((xs[i]).1=t) <;> rfl)
  (fun _ _ _ _ _ _=>trivial) (fun s self _=>by
   show spec_l10At.b0 _ _ _ _=_
   unfold spec_l10At.b0
   simp only[Int.lt_irrefl,decide_false,cond_false]
   rfl) () trivial k (by omega)
 rw[forI_where] at this
 exact this
theorem implAt_eq (xs:List Tx) (t:Int) (h:xs.length<=1048576):impl_txAt.sem (xs,t,())=some (atF xs t,()):=by
 have h1:∀ x:Tx,impl_txAt_1.sem (x,t,())=some (decide (x.1=t),()):=fun x=>by
  refine lift_eq (k:=0) fun k _=>(impl_txAt_1.raw_eq k _).trans ?_
  rfl
 have h2:∀ m:Nat,slices_IndexFunc_Tx.sem (xs,((m,t):Nat×Int),())=some (atF xs t,()):=fun m=>by
  refine lift_eq (k:=xs.length+1) fun k hk=>(slices_IndexFunc_Tx.raw_eq k _).trans ?_
  have:=for_loop (B:=fun self v=>slices_IndexFunc_Tx.B0 0 self (fun z=>slices_IndexFunc_Tx.Q0 0 (xs,((m,t):Nat×Int),()) z) (xs,((m,t):Nat×Int),()) v) xs (fun (_:Unit) (i:Int)=>i) (fun i _ x=>if decide (x.1=t) then .inl ((i:Int),()) else .inr ()) (fun _=>((-1:Int),())) (fun _ _=>True) (by rw[maxLen_val];omega)
   (fun i hi s self _=>by
    show slices_IndexFunc_Tx.b0 _ _ _ _=_
    unfold slices_IndexFunc_Tx.b0
    have hlt:(i:Int) < (xs.length:Int):=by omega
    simp only[hlt,decide_true,cond_true,Int.natCast_nonneg,if_true,Int.toNat_natCast,List.getElem?_eq_getElem hi,Option.bind_some,h1]
    cases decide ((xs[i]).1=t) <;> rfl)
   (fun _ _ _ _ _ _=>trivial) (fun s self _=>by
    show slices_IndexFunc_Tx.b0 _ _ _ _=_
    unfold slices_IndexFunc_Tx.b0
    simp only[Int.lt_irrefl,decide_false,cond_false]
    rfl) () trivial k (by omega)
  rw[forI_where] at this
  exact this
 refine lift_eq (k:=0) fun k _=>(impl_txAt.raw_eq k _).trans ?_
 show impl_txAt.p _=_
 unfold impl_txAt.p
 rw[h2]
 rfl
end OT
set_option linter.unusedVariables false
set_option linter.unusedSimpArgs false
namespace OT
open Go
def onR (k:Int):Bool:=decide (k=2)||(decide (k=3)||decide (k=4))
def freeK (k:Int):Bool:=decide (k=1)||decide (k=9)
abbrev noRow:Row:=((0:Int),(0:Int),(0:Int),([]:List UInt8),())
abbrev noChange:Change:=(false,noRow,false,noRow,())
def opF (o:Op):Int:=
 if !inB o.1 1 9||(freeK o.1&&!decide (o.2.1=0))||(!onR o.1&&!Ty.eq tRow o.2.2.1 ((0:Int),(0:Int),(0:Int),([]:List UInt8),()))||(!decide (o.1=6)&&!decide (o.2.2.2.1=0))||(decide (o.1=4)&&!(decide (o.2.2.1.2.2.1=0)&&decide (o.2.2.1.2.2.2.1=([]:List UInt8)))) then 1
 else if (!freeK o.1&&!inB o.2.1 1 99)||!inB o.2.2.2.1 0 7 then 3
 else if onR o.1 then rowF o.2.2.1 else 0
theorem onRow_eq (k:Int):impl_onRow.sem (k,())=some (onR k,()):=by
 refine lift_eq (k:=0) fun f _=>(impl_onRow.raw_eq f _).trans ?_
 show impl_onRow.p _=_
 unfold impl_onRow.p onR
 simp only
 cases decide (k=2) <;> cases decide (k=3) <;> rfl
theorem specOnRow_eq (k:Int):spec_l10Row.sem (k,())=some (onR k,()):=by
 refine lift_eq (k:=0) fun f _=>(spec_l10Row.raw_eq f _).trans ?_
 show spec_l10Row.p _=_
 unfold spec_l10Row.p onR
 simp only[specIn_eq,Option.bind_some]
 congr 2
 rw[Bool.eq_iff_iff]
 simp only[Bool.and_eq_true,Bool.or_eq_true,decide_eq_true_eq]
 omega
theorem opFault_eq (o:Op) (h:rl o.2.2.1):impl_OpFault.sem (o,())=some (opF o,()):=by
 refine lift_eq (k:=0) fun f _=>(impl_OpFault.raw_eq f _).trans ?_
 show impl_OpFault.p _=_
 unfold impl_OpFault.p opF freeK inB
 simp only[implIn_eq,isTx_eq,onRow_eq,implRow_eq _ h,Option.bind_some]
 generalize (decide ((1:Int)<=o.1)&&decide (o.1<=9))=b1
 generalize decide (o.1=1)=b2
 generalize decide (o.1=9)=b3
 generalize decide (o.1=4)=b4
 generalize decide (o.1=6)=b5
 generalize onR o.1=b6
 generalize decide (o.2.1=0)=b7
 generalize Ty.eq tRow o.2.2.1 ((0:Int),(0:Int),(0:Int),([]:List UInt8),())=b8
 generalize decide (o.2.2.2.1=0)=b9
 generalize decide (o.2.2.1.2.2.1=0)=c1
 generalize decide (o.2.2.1.2.2.2.1=([]:List UInt8))=c2
 generalize (decide ((1:Int)<=o.2.1)&&decide (o.2.1<=99))=c3
 generalize (decide ((0:Int)<=o.2.2.2.1)&&decide (o.2.2.2.1<=7))=c4
 cases b1
 ·cases b2 <;> rfl
 cases b2 <;> cases b3 <;> cases b7 <;> cases b6 <;> cases b8 <;> cases b5 <;> cases b9 <;> (try rfl) <;> cases b4 <;> (try rfl) <;> cases c1 <;> (try rfl) <;> cases c2 <;> (try rfl) <;> cases c3 <;> (try rfl) <;> cases c4 <;> rfl
theorem specForm_eq (o:Op):spec_l10Form.sem (o,())=some (!(!inB o.1 1 9||(freeK o.1&&!decide (o.2.1=0))||(!onR o.1&&!Ty.eq tRow o.2.2.1 ((0:Int),(0:Int),(0:Int),([]:List UInt8),()))||(!decide (o.1=6)&&!decide (o.2.2.2.1=0))||(decide (o.1=4)&&!(decide (o.2.2.1.2.2.1=0)&&decide (o.2.2.1.2.2.2.1=([]:List UInt8))))),()):=by
 refine lift_eq (k:=0) fun f _=>(spec_l10Form.raw_eq f _).trans ?_
 show spec_l10Form.p _=_
 unfold spec_l10Form.p freeK inB
 have h4:decide (o.1=4)=true->onR o.1=true:=fun h=>by unfold onR;simp only[h,Bool.or_true]
 simp only[specIn_eq,specOnRow_eq,Option.bind_some]
 generalize (decide ((1:Int)<=o.1)&&decide (o.1<=9))=b1
 generalize decide (o.1=1)=b2
 generalize decide (o.1=9)=b3
 generalize decide (o.1=4)=b4 at *
 generalize decide (o.1=6)=b5
 generalize onR o.1=b6 at *
 generalize decide (o.2.1=0)=b7
 generalize Ty.eq tRow o.2.2.1 ((0:Int),(0:Int),(0:Int),([]:List UInt8),())=b8
 generalize decide (o.2.2.2.1=0)=b9
 generalize decide (o.2.2.1.2.2.1=0)=c1
 generalize decide (o.2.2.1.2.2.2.1=([]:List UInt8))=c2
 cases b1
 ·rfl
 cases b4
 ·cases b2 <;> cases b3 <;> cases b7 <;> cases b6 <;> cases b8 <;> cases b5 <;> cases b9 <;> rfl
 ·have:=h4 rfl
  subst this
  cases b2 <;> cases b3 <;> cases b7 <;> cases b8 <;> cases b5 <;> cases b9 <;> cases c1 <;> cases c2 <;> rfl
theorem specOp_eq (o:Op) (h:rl o.2.2.1):spec_l10Op.sem (o,())=some (opF o,()):=by
 refine lift_eq (k:=0) fun f _=>(spec_l10Op.raw_eq f _).trans ?_
 show spec_l10Op.p _=_
 unfold spec_l10Op.p opF
 rw[specForm_eq]
 simp only[Option.bind_some]
 generalize (!inB o.1 1 9||(freeK o.1&&!decide (o.2.1=0))||(!onR o.1&&!Ty.eq tRow o.2.2.1 ((0:Int),(0:Int),(0:Int),([]:List UInt8),()))||(!decide (o.1=6)&&!decide (o.2.2.2.1=0))||(decide (o.1=4)&&!(decide (o.2.2.1.2.2.1=0)&&decide (o.2.2.1.2.2.2.1=([]:List UInt8)))))=b0
 unfold freeK inB
 simp only[specIn_eq,specOnRow_eq,specRow_eq _ h,Option.bind_some]
 generalize decide (o.1=1)=b2
 generalize decide (o.1=9)=b3
 generalize onR o.1=b6
 generalize (decide ((1:Int)<=o.2.1)&&decide (o.2.1<=99))=c3
 generalize (decide ((0:Int)<=o.2.2.2.1)&&decide (o.2.2.2.1<=7))=c4
 cases b0
 ·cases b2 <;> cases b3 <;> cases b6 <;> cases c3 <;> cases c4 <;> rfl
 ·rfl
theorem opF_row {o:Op} (h:opF o=0) (hr:onR o.1=true):rowF o.2.2.1=0:=by
 unfold opF at h
 split at h
 ·cases h
 ·split at h
  ·cases h
  ·exact h
theorem opF_range {o:Op} (h:opF o=0):inB o.1 1 9=true/\inB o.2.2.2.1 0 7=true:=by
 unfold opF at h
 split at h
 ·cases h
 ·rename_i h1
  split at h
  ·cases h
  ·rename_i h2
   simp only[Bool.or_eq_true,not_or,Bool.not_eq_true',Bool.not_eq_false] at h1 h2
   exact ⟨h1.1.1.1.1,h2.2⟩
def catC (c:Change) (x:Row):Bool:=decide (x.1=(ck c).2)&&(!decide (x.1=0)&&(!c.2.2.1||decide (c.2.2.2.1.2.2.1 < (List.length x.2.2.2.1:Int))))
def catF (xs:List Row) (c:Change):Int:=
 if c.2.2.1&&(!inB (ck c).2 1 3||(decide (8 < c.2.2.2.1.2.2.1)||!decide (c.2.2.2.1.2.2.2.1=([]:List UInt8)))) then 10 else if xs.any (catC c) then 8 else 0
def longF (xs:List Row) (t:Int):Int×Bool:=match xs.find? fun x=>decide (x.1=0)&&decide (x.2.1=t) with
 | some x=>(x.2.2.1,true)
 | none=>(0,false)
def mayF (xs:List Row) (c:Change):Int:=
 if (ck c).1=0 then catF xs c else if c.2.2.1 then (if (longF xs (ck c).1).2 then (if (longF xs (ck c).1).1 < (List.length c.2.2.2.1.2.2.2.1:Int) then 10 else 0) else 4) else 0
theorem specCat_eq (xs:List Row) (c:Change) (hl:xs.length<=1048576):spec_l8Catalog.sem (xs,c,())=some (catF xs c,()):=by
 refine lift_eq (k:=1048577) fun k hk=>(spec_l8Catalog.raw_eq k _).trans ?_
 unfold spec_l8Catalog.p
 have lp:spec_l8Catalog.r0 k (xs,c,()) (ck c).2 (0:Int)=some (if xs.any (catC c) then 8 else 0,()):=by
  have:=for_loop (B:=fun self v=>spec_l8Catalog.B0 0 self (fun z=>spec_l8Catalog.Q0 0 (xs,c,()) (ck c).2 z) (xs,c,()) (ck c).2 v) xs (fun (_:Unit) (i:Int)=>i) (fun _ _ x=>if catC c x then .inl ((8:Int),()) else .inr ()) (fun _=>((0:Int),())) (fun _ _=>True) (by rw[maxLen_val];omega)
   (fun i hi s self _=>by
    show spec_l8Catalog.b0 _ _ _ _ _=_
    unfold spec_l8Catalog.b0 catC
    have hlt:(i:Int) < (xs.length:Int):=by omega
    simp only[hlt,decide_true,cond_true,Int.natCast_nonneg,if_true,Int.toNat_natCast,List.getElem?_eq_getElem hi,Option.bind_some]
    cases decide ((xs[i]).1=(ck c).2) <;> cases decide ((xs[i]).1=0) <;> cases c.2.2.1 <;> cases decide (c.2.2.2.1.2.2.1 < (List.length (xs[i]).2.2.2.1:Int)) <;> rfl)
   (fun _ _ _ _ _ _=>trivial) (fun s self _=>by
    show spec_l8Catalog.b0 _ _ _ _ _=_
    unfold spec_l8Catalog.b0
    simp only[Int.lt_irrefl,decide_false,cond_false]
    rfl) () trivial k (by omega)
  rw[forI_any] at this
  refine Eq.trans this ?_
  cases xs.any (catC c) <;> rfl
 simp only[specKey_eq,Option.bind_some,specIn_eq,lp]
 unfold catF inB
 generalize (decide ((1:Int)<=(ck c).2)&&decide ((ck c).2<=3))=b1
 cases c.2.2.1 <;> cases b1 <;> cases decide (8 < c.2.2.2.1.2.2.1) <;> cases decide (c.2.2.2.1.2.2.2.1=([]:List UInt8)) <;> rfl
theorem tableMay_eq (xs:List Row) (c:Change) (hl:xs.length<=1048576):impl_tableMayBe.sem (xs,c,())=some (catF xs c,()):=by
 refine lift_eq (k:=1048577) fun k hk=>(impl_tableMayBe.raw_eq k _).trans ?_
 unfold impl_tableMayBe.p
 have lp:impl_tableMayBe.r0 k (xs,c,()) (0:Int)=some (if xs.any (catC c) then 8 else 0,()):=by
  have:=for_loop (B:=fun self v=>impl_tableMayBe.B0 0 self (fun z=>impl_tableMayBe.Q0 0 (xs,c,()) z) (xs,c,()) v) xs (fun (_:Unit) (i:Int)=>i) (fun _ _ x=>if catC c x then .inl ((8:Int),()) else .inr ()) (fun _=>((0:Int),())) (fun _ _=>True) (by rw[maxLen_val];omega)
   (fun i hi s self _=>by
    show impl_tableMayBe.b0 _ _ _ _=_
    unfold impl_tableMayBe.b0 catC
    have hlt:(i:Int) < (xs.length:Int):=by omega
    have e2:(keyRow c).2.1=(ck c).2:=congrArg Prod.snd (keyRow_ck c)
    simp only[hlt,decide_true,cond_true,Int.natCast_nonneg,if_true,Int.toNat_natCast,List.getElem?_eq_getElem hi,Option.bind_some,implKey_eq,e2]
    cases decide ((xs[i]).1=(ck c).2) <;> cases decide ((xs[i]).1=0) <;> cases c.2.2.1 <;> cases decide (c.2.2.2.1.2.2.1 < (List.length (xs[i]).2.2.2.1:Int)) <;> rfl)
   (fun _ _ _ _ _ _=>trivial) (fun s self _=>by
    show impl_tableMayBe.b0 _ _ _ _=_
    unfold impl_tableMayBe.b0
    simp only[Int.lt_irrefl,decide_false,cond_false]
    rfl) () trivial k (by omega)
  rw[forI_any] at this
  refine Eq.trans this ?_
  cases xs.any (catC c) <;> rfl
 simp only[Option.bind_some,implIn_eq,lp]
 unfold catF inB
 have e:c.2.2.1=true->(ck c).2=c.2.2.2.1.2.1:=fun h=>by unfold ck;rw[if_pos h]
 cases hc:c.2.2.1 with
 | false=>rfl
 | true=>
  rw[e hc]
  generalize (decide ((1:Int)<=c.2.2.2.1.2.1)&&decide (c.2.2.2.1.2.1<=3))=b1
  cases b1 <;> cases decide (8 < c.2.2.2.1.2.2.1) <;> cases decide (c.2.2.2.1.2.2.2.1=([]:List UInt8)) <;> rfl
theorem longest_eq (xs:List Row) (t:Int) (hl:xs.length<=1048576):impl_longest.sem (xs,t,())=some ((longF xs t).1,(longF xs t).2,()):=by
 refine lift_eq (k:=1048577) fun k hk=>(impl_longest.raw_eq k _).trans ?_
 have:=for_loop (B:=fun self v=>impl_longest.B0 0 self (fun z=>impl_longest.Q0 0 (xs,t,()) z) (xs,t,()) v) xs (fun (_:Unit) (i:Int)=>i) (fun _ _ x=>if decide (x.1=0)&&decide (x.2.1=t) then .inl (x.2.2.1,true,()) else .inr ()) (fun _=>((0:Int),false,())) (fun _ _=>True) (by rw[maxLen_val];omega)
  (fun i hi s self _=>by
   show impl_longest.b0 _ _ _ _=_
   unfold impl_longest.b0
   have hlt:(i:Int) < (xs.length:Int):=by omega
   simp only[hlt,decide_true,cond_true,Int.natCast_nonneg,if_true,Int.toNat_natCast,List.getElem?_eq_getElem hi,Option.bind_some]
   cases decide ((xs[i]).1=0) <;> cases decide ((xs[i]).2.1=t) <;> rfl)
  (fun _ _ _ _ _ _=>trivial) (fun s self _=>by
   show impl_longest.b0 _ _ _ _=_
   unfold impl_longest.b0
   simp only[Int.lt_irrefl,decide_false,cond_false]
   rfl) () trivial k (by omega)
 refine Eq.trans this ?_
 have main:∀ (xs:List Row) (i:Nat),forI (fun _ (_:Unit) x=>if decide (x.1=0)&&decide (x.2.1=t) then .inl (x.2.2.1,true,()) else .inr ()) (fun _=>((0:Int),false,())) i xs ()=((longF xs t).1,(longF xs t).2,()):=by
  intro xs
  induction xs with
  | nil=>intro i;rfl
  | cons x xs ih=>
   intro i
   simp only[forI,longF,List.find?_cons]
   cases decide (x.1=0)&&decide (x.2.1=t) with
   | true=>rfl
   | false=>exact ih (i+1)
 rw[main]
theorem long_at {xs:List Row} (hu:up xs) (t:Int):longF xs t=if fnd xs (0,t) then ((xs[pos xs (0,t)]?.map fun x=>x.2.2.1).getD 0,true) else (0,false):=by
 have key:(fun x:Row=>decide (x.1=0)&&decide (x.2.1=t))=fun x=>decide (rk x=(0,t)):=by
  funext x
  unfold rk
  rw[Bool.eq_iff_iff]
  simp
 unfold longF
 rw[key]
 cases hf:fnd xs (0,t) with
 | true=>
  obtain ⟨hp,he⟩:=fnd_lt hf
  have:xs.find? (fun x=>decide (rk x=(0,t)))=some xs[pos xs (0,t)]:=by
   rw[List.find?_eq_some_iff_getElem]
   refine ⟨by simp[he],pos xs (0,t),hp,rfl,fun j hj=>?_⟩
   have:=pos_lt xs (0,t) j (by omega) hj
   simp only[Bool.not_eq_true',decide_eq_false_iff_not]
   intro e
   rw[e,befB_irr] at this
   cases this
  rw[this]
  simp[List.getElem?_eq_getElem hp]
 | false=>
  have:xs.find? (fun x=>decide (rk x=(0,t)))=none:=by
   rw[List.find?_eq_none]
   intro x hx
   simp only[decide_eq_true_eq]
   intro e
   obtain ⟨i,hi,rfl⟩:=List.mem_iff_getElem.1 hx
   have h1:fnd xs (0,t)=true:=by
    rcases Nat.lt_trichotomy (pos xs (0,t)) i with h | h | h
    ·exfalso
     have h2:=up_not xs (0,t) (pos xs (0,t)) (by omega) hu (Nat.le_refl _)
     have h3:befB (rk (xs[pos xs (0,t)]'(by omega))) (rk xs[i])=true:=by
      have hu':=hu
      unfold up at hu'
      rw[List.pairwise_iff_getElem] at hu'
      exact hu' _ _ (by omega) hi h
     rw[e,h2] at h3
     cases h3
    ·unfold fnd
     rw[h,List.getElem?_eq_getElem hi]
     simp[e]
    ·exfalso
     have:=pos_lt xs (0,t) i hi h
     rw[e,befB_irr] at this
     cases this
   rw[hf] at h1
   cases h1
  rw[this]
  rfl
theorem specLong_eq (xs:List Row) (t:Int) (hu:up xs) (hl:xs.length<=1048576) (hv:∀ x ∈ xs,0<=x.2.2.1):spec_l8Longest.sem (xs,t,())=some (if (longF xs t).2 then (longF xs t).1 else -1,()):=by
 refine lift_eq (k:=0) fun k hk=>(spec_l8Longest.raw_eq k _).trans ?_
 show spec_l8Longest.p _=_
 unfold spec_l8Longest.p
 rw[specAt_eq xs 0 t hu (by omega),long_at hu]
 simp only[Option.bind_some]
 unfold atI
 cases hf:fnd xs (0,t) with
 | false=>rfl
 | true=>
  obtain ⟨hp,he⟩:=fnd_lt hf
  have h1:¬ ((pos xs (0,t):Nat):Int) < 0:=by omega
  simp only[if_true,h1,decide_false,cond_false,Int.natCast_nonneg,Int.toNat_natCast,List.getElem?_eq_getElem hp,Option.bind_some,Option.map_some,Option.getD_some]
theorem mayBe_eq (xs:List Row) (c:Change) (hl:xs.length<=1048576):impl_mayBe.sem (xs,c,())=some (mayF xs c,()):=by
 refine lift_eq (k:=0) fun k hk=>(impl_mayBe.raw_eq k _).trans ?_
 show impl_mayBe.p _=_
 unfold impl_mayBe.p mayF
 have e1:(keyRow c).1=(ck c).1:=congrArg Prod.fst (keyRow_ck c)
 simp only[implKey_eq,e1,tableMay_eq xs c hl,longest_eq xs _ hl,Option.bind_some]
 by_cases h0:(ck c).1=0
 ·simp only[h0,decide_true,cond_true,if_true]
 ·simp only[h0,decide_false,cond_false,if_false]
  cases hc:c.2.2.1 with
  | false=>rfl
  | true=>
   have e:(ck c).1=c.2.2.2.1.1:=by unfold ck;rw[if_pos hc]
   rw[e]
   simp only[Bool.not_true,cond_false,if_true]
   cases (longF xs c.2.2.2.1.1).2 with
   | false=>rfl
   | true=>
    by_cases hlt:(longF xs c.2.2.2.1.1).1 < (List.length c.2.2.2.1.2.2.2.1:Int) <;> simp[hlt]
theorem specMay_eq (xs:List Row) (c:Change) (hu:up xs) (hl:xs.length<=1048576) (hv:∀ x ∈ xs,0<=x.2.2.1):spec_l8May.sem (xs,c,())=some (mayF xs c,()):=by
 refine lift_eq (k:=0) fun k hk=>(spec_l8May.raw_eq k _).trans ?_
 show spec_l8May.p _=_
 unfold spec_l8May.p mayF
 simp only[specKey_eq,specCat_eq xs c hl,specLong_eq xs _ hu hl hv,Option.bind_some]
 by_cases h0:(ck c).1=0
 ·simp only[h0,decide_true,cond_true,if_true]
 ·simp only[h0,decide_false,cond_false,if_false]
  cases hc:c.2.2.1 with
  | false=>rfl
  | true=>
   simp only[Bool.not_true,cond_false,if_true]
   rw[long_at hu]
   cases hf:fnd xs (0,(ck c).1) with
   | false=>rfl
   | true=>
    obtain ⟨hp,he⟩:=fnd_lt hf
    have h1:=hv _ (List.getElem_mem hp)
    have h2:¬ (xs[pos xs (0,(ck c).1)]).2.2.1 < 0:=by omega
    simp only[if_true,List.getElem?_eq_getElem hp,Option.map_some,Option.getD_some,h2,decide_false,cond_false]
    by_cases hlt:(xs[pos xs (0,(ck c).1)]).2.2.1 < (List.length c.2.2.2.1.2.2.2.1:Int) <;> simp[hlt]
end OT
set_option linter.unusedVariables false
set_option linter.unusedSimpArgs false
namespace OT
open Go
def heldC (k l:Key):Bool:=decide (l=k)||((decide (l.1=0)&&decide (l.2.1=k.1))||(decide (k.1=0)&&decide (l.1=k.2.1)))
def heldF (xs:List Tx) (t:Int) (k:Key):Bool:=xs.any fun x=>!decide (x.1=t)&&x.2.2.2.1.any (heldC k)
theorem specHeld_eq (xs:List Tx) (t:Int) (k0:Key) (h:tls xs):spec_l10Held.sem (xs,t,k0,())=some (heldF xs t k0,()):=by
 obtain ⟨h1,h2⟩:=h
 refine lift_eq (k:=1048577) fun k hk=>(spec_l10Held.raw_eq k _).trans ?_
 have inner:∀ (self:((List Tx)×Int×Key×Int)->Option spec_l10Held.Out) (e0:(Unit)->Option spec_l10Held.Out) (i:Nat) (hi:i < xs.length),spec_l10Held.r1 k self e0 (xs,t,k0,()) xs t k0 (i:Int) (0:Int)=if (xs[i]).2.2.2.1.any (heldC k0) then some (true,()) else self (xs,t,k0,w64 ((i:Int)+1)):=fun self e0 i hi=>by
  have hlk:=(h2 _ (List.getElem_mem hi)).2.2.1
  have:=for_loopE (B:=fun self' v=>spec_l10Held.B1 k self' (fun z=>spec_l10Held.Q0 k self e0 (xs,t,k0,()) xs t k0 (i:Int) z) (xs,t,k0,()) xs t k0 (i:Int) v) (xs[i]).2.2.2.1 (fun (_:Unit) (j:Int)=>j) (fun _ _ l=>if heldC k0 l then .inl (some (true,())) else .inr ()) (fun _=>self (xs,t,k0,w64 ((i:Int)+1))) (fun _ _=>True) (by rw[maxLen_val];omega)
   (fun j hj s self' _=>by
    show spec_l10Held.b1 _ _ _ _ _ _ _ _=_
    unfold spec_l10Held.b1 heldC
    have hlt:(j:Int) < (List.length (xs[i]).2.2.2.1:Int):=by omega
    simp only[Int.natCast_nonneg,if_true,Int.toNat_natCast,List.getElem?_eq_getElem hi,Option.bind_some,hlt,decide_true,cond_true,List.getElem?_eq_getElem hj,kq_eq]
    cases decide ((xs[i]).2.2.2.1[j]=k0) <;> cases decide (((xs[i]).2.2.2.1[j]).1=0) <;> cases decide (((xs[i]).2.2.2.1[j]).2.1=k0.1) <;> cases decide (k0.1=0) <;> cases decide (((xs[i]).2.2.2.1[j]).1=k0.2.1) <;> rfl)
   (fun _ _ _ _ _ _=>trivial) (fun s self' _=>by
    show spec_l10Held.b1 _ _ _ _ _ _ _ _=_
    unfold spec_l10Held.b1
    simp only[Int.natCast_nonneg,if_true,Int.toNat_natCast,List.getElem?_eq_getElem hi,Option.bind_some,Int.lt_irrefl,decide_false,cond_false]
    rfl) () trivial k (by omega)
  rw[forI_any] at this
  exact this
 have:=for_loopE (B:=fun self v=>spec_l10Held.B0 k self (fun z=>spec_l10Held.Q1 k (xs,t,k0,()) z) (xs,t,k0,()) v) xs (fun (_:Unit) (i:Int)=>(xs,t,k0,i)) (fun _ _ x=>if !decide (x.1=t)&&x.2.2.2.1.any (heldC k0) then .inl (some (true,())) else .inr ()) (fun _=>some (false,())) (fun _ _=>True) (by rw[maxLen_val];omega)
  (fun i hi s self _=>by
   show spec_l10Held.b0 _ _ _ _ _=_
   unfold spec_l10Held.b0
   have hlt:(i:Int) < (xs.length:Int):=by omega
   simp only[hlt,decide_true,cond_true,Int.natCast_nonneg,if_true,Int.toNat_natCast,List.getElem?_eq_getElem hi,Option.bind_some,inner self _ i hi]
   cases decide ((xs[i]).1=t) <;> cases (xs[i]).2.2.2.1.any (heldC k0) <;> rfl)
  (fun _ _ _ _ _ _=>trivial) (fun s self _=>by
   show spec_l10Held.b0 _ _ _ _ _=_
   unfold spec_l10Held.b0
   simp only[Int.lt_irrefl,decide_false,cond_false]
   rfl) () trivial k (by omega)
 rw[forI_any] at this
 refine Eq.trans this ?_
 show _=some (heldF xs t k0,())
 unfold heldF
 cases xs.any (fun x=>!decide (x.1=t)&&x.2.2.2.1.any (heldC k0)) <;> rfl
def wantF (rows:List Row) (o:Op):Change×Int:=
 let k:=(o.2.2.1.1,o.2.2.1.2.1)
 if decide (o.1=2)&&fnd rows k then (noChange,6)
 else if !decide (o.1=2)&&!fnd rows k then (noChange,4)
 else ((fnd rows k,(if fnd rows k then (rows[pos rows k]?).getD noRow else noRow),!decide (o.1=4),(if decide (o.1=4) then noRow else o.2.2.1),()),0)
theorem specWant_eq (rows:List Row) (o:Op) (hu:up rows) (hl:rows.length<=1048576):spec_l10Wanted.sem (rows,o,())=some ((wantF rows o).1,(wantF rows o).2,()):=by
 refine lift_eq (k:=0) fun k hk=>(spec_l10Wanted.raw_eq k _).trans ?_
 show spec_l10Wanted.p _=_
 unfold spec_l10Wanted.p wantF
 rw[specAt_eq rows _ _ hu (by omega)]
 simp only[Option.bind_some]
 unfold atI
 cases hf:fnd rows (o.2.2.1.1,o.2.2.1.2.1) with
 | false=>
  have h1:decide ((0:Int)<=-1)=false:=by decide
  have h2:decide ((-1:Int) < 0)=true:=by decide
  simp only[Bool.false_eq_true,if_false,h1,h2,Bool.and_false,Bool.not_false,Bool.and_true,cond_false,cond_true]
  cases decide (o.1=2) <;> cases decide (o.1=4) <;> rfl
 | true=>
  obtain ⟨hp,he⟩:=fnd_lt hf
  have h1:decide ((0:Int)<=(pos rows (o.2.2.1.1,o.2.2.1.2.1):Int))=true:=decide_eq_true (by omega)
  have h2:decide ((pos rows (o.2.2.1.1,o.2.2.1.2.1):Int) < 0)=false:=decide_eq_false (by omega)
  simp only[if_true,h1,h2,Bool.and_true,Bool.not_true,Bool.and_false,Bool.false_eq_true,if_false,cond_true,cond_false,Int.natCast_nonneg,Int.toNat_natCast,List.getElem?_eq_getElem hp,Option.bind_some,Option.getD_some]
  cases decide (o.1=2) <;> cases decide (o.1=4) <;> rfl
theorem row_val {x:Row} (h:rowF x=0):0<=x.2.2.1:=by
 unfold rowF at h
 split at h
 ·rename_i h1
  simp only[inB,Bool.and_eq_true,decide_eq_true_eq] at h1
  exact h1.2.2.1
 ·cases h
abbrev badR (c:Int):ChangeResult:=(c,false,noChange,())
def chkRow (rows:List Row) (xs:List Tx) (o:Op):ChangeResult:=
 let k:Key:=(o.2.2.1.1,o.2.2.1.2.1,())
 if heldF xs o.2.1 k then badR 7
 else if (wantF rows o).2=0 then
  if mayF rows (wantF rows o).1=0 then
   if decide (12 < roomK rows xs k)||decide (12<=cntF xs) then badR 9
   else if (wantF rows o).1.1&&((wantF rows o).1.2.2.1&&Ty.eq tRow (wantF rows o).1.2.1 (wantF rows o).1.2.2.2.1) then badR 0
   else (0,true,(wantF rows o).1,())
  else badR (mayF rows (wantF rows o).1)
 else badR (wantF rows o).2
theorem chBad_eq (c:Int):spec_l10Bad.sem (c,())=some (badR c,()):=by
 refine lift_eq (k:=0) fun k hk=>(spec_l10Bad.raw_eq k _).trans ?_
 rfl
theorem specChkRow_eq (rows:List Row) (xs:List Tx) (o:Op) (hg:Good rows) (hl:rows.length<=60) (ht:tls xs) (hx:TxsOk xs):spec_l10CheckRow.sem (rows,xs,o,())=some (chkRow rows xs o,()):=by
 refine lift_eq (k:=0) fun k hk=>(spec_l10CheckRow.raw_eq k _).trans ?_
 show spec_l10CheckRow.p _=_
 unfold spec_l10CheckRow.p chkRow
 have hx4:=hx.len
 have hv:∀ x ∈ rows,0<=x.2.2.1:=fun x hm=>row_val (hg.ok x hm)
 simp only[specHeld_eq xs _ _ ht,chBad_eq,specWant_eq rows o hg.up (by omega),specMay_eq rows _ hg.up (by omega) hv,specRoomK_eq rows xs _ (by omega) (by omega) (fun x hm=>by have:=hx.locks x hm;omega),specCount_eq xs ht,Option.bind_some]
 cases heldF xs o.2.1 (o.2.2.1.1,o.2.2.1.2.1,()) with
 | true=>rfl
 | false=>
  simp only[cond_false,Bool.false_eq_true,if_false]
  by_cases h1:(wantF rows o).2=0
  rotate_left
  ·simp only[h1,decide_false,Bool.not_false,cond_true,if_false]
  by_cases h2:mayF rows (wantF rows o).1=0
  rotate_left
  ·simp only[h1,h2,decide_true,decide_false,Bool.not_true,Bool.not_false,cond_true,cond_false,if_true,if_false]
  simp only[h1,h2,decide_true,Bool.not_true,cond_false,if_true]
  by_cases h3:12 < roomK rows xs (o.2.2.1.1,o.2.2.1.2.1,())
  ·have:(12:Int) < (roomK rows xs (o.2.2.1.1,o.2.2.1.2.1,()):Int):=by omega
   simp only[h3,this,decide_true,cond_true,Bool.true_or,if_true]
  ·have:¬ (12:Int) < (roomK rows xs (o.2.2.1.1,o.2.2.1.2.1,()):Int):=by omega
   simp only[h3,this,decide_false,cond_false,Bool.false_or]
   cases decide (12<=cntF xs) with
   | true=>rfl
   | false=>
    simp only[cond_false,Bool.false_eq_true,if_false]
    cases (wantF rows o).1.1 <;> cases (wantF rows o).1.2.2.1 <;> cases Ty.eq tRow (wantF rows o).1.2.1 (wantF rows o).1.2.2.2.1 <;> rfl
def tailF (rows:List Row) (xs:List Tx) (k:Key) (c:Change):ChangeResult:=
 if mayF rows c=0 then
  if decide (12 < roomK rows xs k)||decide (12<=cntF xs) then badR 9
  else if c.1&&(c.2.2.1&&Ty.eq tRow c.2.1 c.2.2.2.1) then badR 0
  else (0,true,c,())
 else badR (mayF rows c)
theorem chkRow_tail (rows:List Row) (xs:List Tx) (o:Op):chkRow rows xs o=if heldF xs o.2.1 (o.2.2.1.1,o.2.2.1.2.1,()) then badR 7 else if (wantF rows o).2=0 then tailF rows xs (o.2.2.1.1,o.2.2.1.2.1,()) (wantF rows o).1 else badR (wantF rows o).2:=rfl
theorem chk_tail (rows:List Row) (xs:List Tx) (kk:Key) (hk:¬ kk.2.1=0) (hl:rows.length<=1048576) (ht:tls xs) (c:Change):((impl_mayBe.sem (rows,c,())).bind fun r1274=>bif !decide (r1274.1=(0:Int)) then (some (badR r1274.1,())) else (impl_keysOf.sem (rows,xs,())).bind fun r1275=>bif decide ((12:Int) < ((mapPut tKey r1275.1 kk true).length:Int)) then (some (badR 9,())) else (impl_undone.sem (xs,())).bind fun r1276=>bif decide ((12:Int)<=r1276.1) then (some (badR 9,())) else bif c.1 then (bif c.2.2.1 then (bif (Ty.eq tRow c.2.1 c.2.2.2.1) then (some (badR 0,())) else some (((0:Int),true,c,()),())) else some (((0:Int),true,c,()),())) else some (((0:Int),true,c,()),()))=some (tailF rows xs kk c,()):=by
 unfold tailF
 have hr:(mapPut tKey (seenM (dd [] (allKs rows xs))) kk true).length=roomK rows xs kk:=by
  have h1:mapPut tKey (seenM (dd [] (allKs rows xs))) kk true=seenM (dd [] (allKs rows xs++[kk])):=by
   refine (put_step _ _).trans ?_
   rw[dd_append]
   rfl
  rw[h1]
  unfold roomK exK
  rw[if_neg hk]
  exact List.length_map ..
 simp only[mayBe_eq rows c hl,keysOf_eq rows xs hl ht,implCount_eq xs ht,Option.bind_some,hr]
 by_cases h2:mayF rows c=0
 rotate_left
 ·simp only[h2,decide_false,Bool.not_false,cond_true,if_false]
 simp only[h2,decide_true,Bool.not_true,cond_false,if_true]
 by_cases h3:12 < roomK rows xs kk
 ·have:(12:Int) < (roomK rows xs kk:Int):=by omega
  simp only[h3,this,decide_true,cond_true,Bool.true_or,if_true]
 ·have:¬ (12:Int) < (roomK rows xs kk:Int):=by omega
  simp only[h3,this,decide_false,cond_false,Bool.false_or]
  cases decide (12<=cntF xs) with
  | true=>rfl
  | false=>
   simp only[cond_false,Bool.false_eq_true,if_false]
   cases c.1 <;> cases c.2.2.1 <;> cases Ty.eq tRow c.2.1 c.2.2.2.1 <;> rfl
theorem chkChange_eq (rows:List Row) (xs:List Tx) (o:Op) (hg:Good rows) (hl:rows.length<=60) (ht:tls xs) (hx:TxsOk xs) (hk:¬ o.2.2.1.2.1=0):impl_checkChange.sem (rows,xs,o,())=some (chkRow rows xs o,()):=by
 refine lift_eq (k:=1048577) fun k hk2=>(impl_checkChange.raw_eq k _).trans ?_
 rw[chkRow_tail]
 have hq:∀ (k:Nat),impl_checkChange.Q1 k (rows,xs,o,()) (rows,xs,o,badR 0,(o.2.2.1.1,o.2.2.1.2.1,()))=some (if (wantF rows o).2=0 then tailF rows xs (o.2.2.1.1,o.2.2.1.2.1,()) (wantF rows o).1 else badR (wantF rows o).2,()):=fun k=>by
  show impl_checkChange.q1 _ _=_
  unfold impl_checkChange.q1 wantF
  have hs:=fun f:Nat×Int=>search_eq rows o.2.2.1 f hg.up (by omega)
  have e:rk o.2.2.1=(o.2.2.1.1,o.2.2.1.2.1):=rfl
  simp only[e] at hs
  have tl:=chk_tail rows xs (o.2.2.1.1,o.2.2.1.2.1,()) hk (by omega) ht
  simp only[hs,Option.bind_some]
  generalize decide (o.1=2)=d2
  generalize decide (o.1=4)=d4
  cases hf:fnd rows (o.2.2.1.1,o.2.2.1.2.1) with
  | false=>
   cases d2
   ·rfl
   ·cases d4
    ·exact tl _
    ·exact tl _
  | true=>
   obtain ⟨hp,he⟩:=fnd_lt hf
   simp only[Int.natCast_nonneg,if_true,Int.toNat_natCast,List.getElem?_eq_getElem hp,Option.bind_some,Option.getD_some]
   cases d2
   ·cases d4
    ·exact tl _
    ·exact tl _
   ·rfl
 have inner:∀ (self:((List Row)×(List Tx)×Op×ChangeResult×Key×(List Tx)×Int×Int)->Option impl_checkChange.Out) (e0:((List Row)×(List Tx)×Op×ChangeResult×Key)->Option impl_checkChange.Out) (i:Nat) (hi:i < xs.length),impl_checkChange.r1 k self e0 (rows,xs,o,()) rows xs o (badR 0) (o.2.2.1.1,o.2.2.1.2.1,()) xs (xs.length:Int) (i:Int) (xs[i]).2.2.2.1 (List.length (xs[i]).2.2.2.1:Int) (0:Int)=if (xs[i]).2.2.2.1.any (heldC (o.2.2.1.1,o.2.2.1.2.1,())) then some (badR 7,()) else self (rows,xs,o,badR 0,(o.2.2.1.1,o.2.2.1.2.1,()),xs,(xs.length:Int),w64 ((i:Int)+1)):=fun self e0 i hi=>by
  have hlk:=(ht.2 _ (List.getElem_mem hi)).2.2.1
  have hkeys:=hx.keys _ (List.getElem_mem hi)
  have:=for_loopE (B:=fun self' v=>impl_checkChange.B1 k self' (fun z=>impl_checkChange.Q0 k self e0 (rows,xs,o,()) rows xs o (badR 0) (o.2.2.1.1,o.2.2.1.2.1,()) xs (xs.length:Int) (i:Int) (xs[i]).2.2.2.1 (List.length (xs[i]).2.2.2.1:Int) z) (rows,xs,o,()) rows xs o (badR 0) (o.2.2.1.1,o.2.2.1.2.1,()) xs (xs.length:Int) (i:Int) (xs[i]).2.2.2.1 (List.length (xs[i]).2.2.2.1:Int) v) (xs[i]).2.2.2.1 (fun (_:Unit) (j:Int)=>j) (fun _ _ l=>if heldC (o.2.2.1.1,o.2.2.1.2.1,()) l then .inl (some (badR 7,())) else .inr ()) (fun _=>self (rows,xs,o,badR 0,(o.2.2.1.1,o.2.2.1.2.1,()),xs,(xs.length:Int),w64 ((i:Int)+1))) (fun _ _=>True) (by rw[maxLen_val];omega)
   (fun j hj s self' _=>by
    show impl_checkChange.b1 _ _ _ _ _ _ _ _ _ _ _ _ _ _=_
    unfold impl_checkChange.b1 heldC
    have hlt:(j:Int) < (List.length (xs[i]).2.2.2.1:Int):=by omega
    have hkey:=hkeys _ (List.getElem_mem hj)
    simp only[Int.natCast_nonneg,if_true,Int.toNat_natCast,Option.bind_some,hlt,decide_true,cond_true,List.getElem?_eq_getElem hj,kq_eq]
    generalize (xs[i]).2.2.2.1[j]=l at hkey
    obtain ⟨l1,l2,⟨⟩⟩:=l
    have hl2:¬ l2=0:=by
     unfold keyB2 inB at hkey
     simp only[Bool.and_eq_true,decide_eq_true_eq] at hkey
     omega
    generalize o.2.2.1.1=k1
    generalize o.2.2.1.2.1=k2
    have e1:decide (((l1,l2,()):Key)=(k1,k2,()))=(decide (l1=k1)&&decide (l2=k2)):=by
     rw[Bool.eq_iff_iff];simp
    have e2:decide (((l1,l2,()):Key)=((0:Int),k1,()))=(decide (l1=0)&&decide (l2=k1)):=by
     rw[Bool.eq_iff_iff];simp
    have e3:Ty.eq tKey ((l1,l2,()):Key) ((0:Int),k1,())=(decide (l1=0)&&decide (l2=k1)):=(kq_eq _ _).trans e2
    simp only[e1,e2,e3]
    by_cases h0:k1=0
    ·have:¬ l2=k1:=by omega
     simp only[h0,this,decide_true,decide_false,Bool.not_true,Bool.and_false,Bool.and_true,Bool.false_or,Bool.true_and,cond_false,cond_true]
     subst h0
     simp only[hl2,decide_false,Bool.and_false,Bool.false_or]
     cases decide (l1=0) <;> cases decide (l2=k2) <;> cases decide (l1=k2) <;> rfl
    ·simp only[h0,decide_false,Bool.not_false,Bool.false_and,Bool.or_false,cond_true,cond_false]
     cases decide (l1=k1) <;> cases decide (l2=k2) <;> cases decide (l1=0) <;> cases decide (l2=k1) <;> rfl)
   (fun _ _ _ _ _ _=>trivial) (fun s self' _=>by
    show impl_checkChange.b1 _ _ _ _ _ _ _ _ _ _ _ _ _ _=_
    unfold impl_checkChange.b1
    simp only[Int.lt_irrefl,decide_false,cond_false]
    rfl) () trivial k (by omega)
  rw[forI_any] at this
  exact this
 have:=for_loopE (B:=fun self v=>impl_checkChange.B0 k self (fun z=>impl_checkChange.Q1 k (rows,xs,o,()) z) (rows,xs,o,()) v) xs (fun (_:Unit) (i:Int)=>(rows,xs,o,badR 0,(o.2.2.1.1,o.2.2.1.2.1,()),xs,(xs.length:Int),i)) (fun _ _ x=>if !decide (x.1=o.2.1)&&x.2.2.2.1.any (heldC (o.2.2.1.1,o.2.2.1.2.1,())) then .inl (some (badR 7,())) else .inr ()) (fun _=>some (if (wantF rows o).2=0 then tailF rows xs (o.2.2.1.1,o.2.2.1.2.1,()) (wantF rows o).1 else badR (wantF rows o).2,())) (fun _ _=>True) (by rw[maxLen_val];have:=ht.1;omega)
  (fun i hi s self _=>by
   show impl_checkChange.b0 _ _ _ _ _=_
   unfold impl_checkChange.b0
   have hlt:(i:Int) < (xs.length:Int):=by omega
   simp only[hlt,decide_true,cond_true,Int.natCast_nonneg,if_true,Int.toNat_natCast,List.getElem?_eq_getElem hi,Option.bind_some,inner self _ i hi]
   cases decide ((xs[i]).1=o.2.1) <;> cases (xs[i]).2.2.2.1.any (heldC (o.2.2.1.1,o.2.2.1.2.1,())) <;> rfl)
  (fun _ _ _ _ _ _=>trivial) (fun s self _=>by
   show impl_checkChange.b0 _ _ _ _ _=_
   unfold impl_checkChange.b0
   simp only[Int.lt_irrefl,decide_false,cond_false]
   exact hq k) () trivial k (by have:=ht.1;omega)
 rw[forI_any] at this
 refine Eq.trans this ?_
 unfold heldF
 cases xs.any (fun x=>!decide (x.1=o.2.1)&&x.2.2.2.1.any (heldC (o.2.2.1.1,o.2.2.1.2.1,()))) <;> rfl
end OT
set_option linter.unusedVariables false
set_option linter.unusedSimpArgs false
namespace OT
open Go
def marksN (xs:List Tx) (t:Int):Int:=match xs[(atF xs t).toNat]? with
 | some x=>(List.length x.2.2.1:Int)
 | none=>0
def chkF (rows:List Row) (xs:List Tx) (o:Op):ChangeResult:=
 if o.1=1 then (if decide (4<=xs.length) then badR 2 else badR 0)
 else if o.1=9 then badR 0
 else if atF xs o.2.1 < 0 then badR 4
 else if o.1=5 then (if decide (8<=marksN xs o.2.1) then badR 2 else badR 0)
 else if o.1=6 then (if decide (marksN xs o.2.1<=o.2.2.2.1) then badR 3 else badR 0)
 else if onR o.1 then chkRow rows xs o else badR 0
def chkOp (rows:List Row) (xs:List Tx) (o:Op):ChangeResult:=
 if rowsF rows=0 then (if txsF xs=0 then (if opF o=0 then chkF rows xs o else badR (opF o)) else badR (txsF xs)) else badR (rowsF rows)
theorem at_mem {xs:List Tx} {t:Int} (h:¬ atF xs t < 0):∃ (j:Nat) (hj:j < xs.length),atF xs t=(j:Int)/\(xs[j]).1=t:=by
 obtain ⟨j,hj,h1,h2⟩:=where_spec (fun x:Tx=>decide (x.1=t)) xs 0 (by unfold atF at h;omega)
 exact ⟨j,hj,by unfold atF;rw[h1,Nat.zero_add],of_decide_eq_true h2⟩
theorem kinds {k:Int} (h:inB k 1 9=true):k=1\/k=2\/k=3\/k=4\/k=5\/k=6\/k=7\/k=8\/k=9:=by
 unfold inB at h
 simp only[Bool.and_eq_true,decide_eq_true_eq] at h
 omega
theorem specCheck_eq (rows:List Row) (xs:List Tx) (o:Op) (hg:Good rows) (hl:rows.length<=60) (ht:tls xs) (hx:TxsOk xs) (ho:inB o.1 1 9=true):spec_l10Check.sem (rows,xs,o,())=some (chkF rows xs o,()):=by
 refine lift_eq (k:=0) fun k hk=>(spec_l10Check.raw_eq k _).trans ?_
 show spec_l10Check.p _=_
 unfold spec_l10Check.p chkF
 have hx4:=hx.len
 have h4:decide ((4:Int)<=(xs.length:Int))=decide (4<=xs.length):=by
  by_cases h:4<=xs.length
  ·have:(4:Int)<=(xs.length:Int):=by omega
   simp[h,this]
  ·have:¬ (4:Int)<=(xs.length:Int):=by omega
   simp[h,this]
 simp only[chBad_eq,specTxAt_eq xs _ ht.1,specChkRow_eq rows xs o hg hl ht hx,Option.bind_some,h4]
 by_cases ha:atF xs o.2.1 < 0
 ·simp only[ha,decide_true,cond_true,if_true]
  rcases kinds ho with e | e | e | e | e | e | e | e | e <;> rw[e] <;> first | rfl | (cases decide (4<=xs.length) <;> rfl)
 ·obtain ⟨j,hj,e,_⟩:=at_mem ha
  have hm:marksN xs o.2.1=(List.length (xs[j]).2.2.1:Int):=by unfold marksN;rw[e,Int.toNat_natCast,List.getElem?_eq_getElem hj]
  rw[hm]
  simp only[ha,decide_false,cond_false,if_false,e,Int.natCast_nonneg,if_true,Int.toNat_natCast,List.getElem?_eq_getElem hj,Option.bind_some]
  rcases kinds ho with e | e | e | e | e | e | e | e | e <;> rw[e] <;> first | rfl | (cases decide (4<=xs.length) <;> rfl) | (cases decide ((8:Int)<=(List.length (xs[j]).2.2.1:Int)) <;> rfl) | (cases decide ((List.length (xs[j]).2.2.1:Int)<=o.2.2.2.1) <;> rfl)
theorem specChk_eq (rows:List Row) (xs:List Tx) (o:Op) (hl:rows.length<=1048576) (hr:∀ x ∈ rows,rl x) (ht:tls xs) (ho:rl o.2.2.1):spec_CheckOp.sem (rows,xs,o,())=some (chkOp rows xs o,()):=by
 refine lift_eq (k:=0) fun k hk=>(spec_CheckOp.raw_eq k _).trans ?_
 show spec_CheckOp.p _=_
 unfold spec_CheckOp.p chkOp
 simp only[specRows_eq rows (by rw[maxLen_val];omega) hr,specTxs_eq xs ht,specOp_eq o ho,chBad_eq,Option.bind_some]
 by_cases h1:rowsF rows=0
 rotate_left
 ·simp only[h1,decide_false,Bool.not_false,cond_true,if_false]
 by_cases h2:txsF xs=0
 rotate_left
 ·simp only[h1,h2,decide_true,decide_false,Bool.not_true,Bool.not_false,cond_true,cond_false,if_true,if_false]
 by_cases h3:opF o=0
 rotate_left
 ·simp only[h1,h2,h3,decide_true,decide_false,Bool.not_true,Bool.not_false,cond_true,cond_false,if_true,if_false]
 simp only[h1,h2,h3,decide_true,Bool.not_true,cond_false,if_true]
 rw[specCheck_eq rows xs o (rowsF_good h1).1 (rowsF_good h1).2 ht (txs_ok h2) (opF_range h3).1]
 rfl
theorem implChk_eq (rows:List Row) (xs:List Tx) (o:Op) (hl:rows.length<=1048576) (hr:∀ x ∈ rows,rl x) (ht:tls xs) (ho:rl o.2.2.1):impl_CheckOp.sem (rows,xs,o,())=some (chkOp rows xs o,()):=by
 refine lift_eq (k:=5) fun k hk=>(impl_CheckOp.raw_eq k _).trans ?_
 unfold impl_CheckOp.p
 simp only[implRows_eq rows (by rw[maxLen_val];omega) hr,implTxs_eq xs ht,opFault_eq o ho,Option.bind_some]
 have hq:rowsF rows=0->txsF xs=0->opF o=0->∀ (k:Nat) (z:Unit),impl_CheckOp.Q0 k (rows,xs,o,()) [rowsF rows,txsF xs,opF o] ([rowsF rows,txsF xs,opF o].length:Int) z=some (chkF rows xs o,()):=fun h1 h2 h3 k z=>by
  show impl_CheckOp.q0 _ _ _ _=_
  unfold impl_CheckOp.q0 chkF
  have hx:=txs_ok h2
  have hg:=(rowsF_good h1).1
  have hl:=(rowsF_good h1).2
  have hor:=(opF_range h3).1
  have h4:decide ((4:Int)<=(xs.length:Int))=decide (4<=xs.length):=by
   by_cases h:4<=xs.length
   ·have:(4:Int)<=(xs.length:Int):=by omega
    simp[h,this]
   ·have:¬ (4:Int)<=(xs.length:Int):=by omega
    simp[h,this]
  have hrow:onR o.1=true->impl_checkChange.sem (rows,xs,o,())=some (chkRow rows xs o,()):=fun hon=>chkChange_eq rows xs o hg hl ht hx (by
   have:=opF_row h3 hon
   unfold rowF at this
   split at this
   ·rename_i h5
    simp only[inB,Bool.and_eq_true,decide_eq_true_eq] at h5
    omega
   ·cases this)
  simp only[implAt_eq xs _ ht.1,Option.bind_some,h4]
  by_cases ha:atF xs o.2.1 < 0
  ·simp only[ha,decide_true,cond_true,if_true]
   rcases kinds hor with e | e | e | e | e | e | e | e | e <;> rw[e] <;> first | rfl | (cases decide (4<=xs.length) <;> rfl)
  ·obtain ⟨j,hj,e,_⟩:=at_mem ha
   have hm:marksN xs o.2.1=(List.length (xs[j]).2.2.1:Int):=by unfold marksN;rw[e,Int.toNat_natCast,List.getElem?_eq_getElem hj]
   rw[hm]
   simp only[ha,decide_false,cond_false,if_false,e,Int.natCast_nonneg,if_true,Int.toNat_natCast,List.getElem?_eq_getElem hj,Option.bind_some]
   rcases kinds hor with e | e | e | e | e | e | e | e | e
   ·rw[e];cases decide (4<=xs.length) <;> rfl
   ·rw[hrow (by rw[e];rfl),e];rfl
   ·rw[hrow (by rw[e];rfl),e];rfl
   ·rw[hrow (by rw[e];rfl),e];rfl
   ·rw[e];cases decide ((8:Int)<=(List.length (xs[j]).2.2.1:Int)) <;> rfl
   ·rw[e];cases decide ((List.length (xs[j]).2.2.1:Int)<=o.2.2.2.1) <;> rfl
   ·rw[e];rfl
   ·rw[e];rfl
   ·rw[e];rfl
 have:=for_loopE (B:=fun self v=>impl_CheckOp.B0 k self (fun z=>impl_CheckOp.Q0 k (rows,xs,o,()) [rowsF rows,txsF xs,opF o] ([rowsF rows,txsF xs,opF o].length:Int) z) (rows,xs,o,()) [rowsF rows,txsF xs,opF o] ([rowsF rows,txsF xs,opF o].length:Int) v) [rowsF rows,txsF xs,opF o] (fun (_:Unit) (i:Int)=>i) (fun _ _ x=>if x=0 then .inr () else .inl (some (badR x,()))) (fun _=>impl_CheckOp.Q0 k (rows,xs,o,()) [rowsF rows,txsF xs,opF o] ([rowsF rows,txsF xs,opF o].length:Int) ()) (fun _ _=>True) (by rw[maxLen_val];simp)
  (fun i hi s self _=>by
   show impl_CheckOp.b0 _ _ _ _ _ _=_
   unfold impl_CheckOp.b0
   have hlt:(i:Int) < ([rowsF rows,txsF xs,opF o].length:Int):=by omega
   have hin:(0:Int)<=(i:Int)/\(i:Int) < ([rowsF rows,txsF xs,opF o].length:Int):=by omega
   simp only[hlt,hin,and_self,decide_true,cond_true,if_true,Int.toNat_natCast,List.getElem?_eq_getElem hi,Option.bind_some]
   by_cases h0:[rowsF rows,txsF xs,opF o][i]=0
   ·simp only[h0,decide_true,Bool.not_true,cond_false,if_true]
   ·simp only[h0,decide_false,Bool.not_false,cond_true,if_false])
  (fun _ _ _ _ _ _=>trivial) (fun s self _=>by
   show impl_CheckOp.b0 _ _ _ _ _ _=_
   unfold impl_CheckOp.b0
   simp only[Int.lt_irrefl,decide_false,cond_false]) () trivial k (by simp;omega)
 refine Eq.trans this ?_
 unfold chkOp
 simp only[forI]
 by_cases h1:rowsF rows=0
 rotate_left
 ·simp only[h1,if_false]
 by_cases h2:txsF xs=0
 rotate_left
 ·simp only[h1,h2,if_true,if_false]
 by_cases h3:opF o=0
 rotate_left
 ·simp only[h1,h2,h3,if_true,if_false]
 have:=hq h1 h2 h3 k ()
 rw[if_pos h1]
 simp only
 rw[if_pos h2]
 simp only
 rw[if_pos h3]
 simp only
 rw[this,if_pos h1,if_pos h2,if_pos h3]
end OT
set_option linter.unusedVariables false
set_option linter.unusedSimpArgs false
namespace OT
open Go
theorem implLock_eq (xs:List Tx) (k0:Key) (h:tls xs):impl_lockOf.sem (xs,k0,())=some (lockF xs k0,()):=by
 obtain ⟨h1,h2⟩:=h
 refine lift_eq (k:=xs.length+1) fun k hk=>(impl_lockOf.raw_eq k _).trans ?_
 have:=for_loop (B:=fun self v=>impl_lockOf.B0 0 self (fun z=>impl_lockOf.Q0 0 (xs,k0,()) z) (xs,k0,()) v) xs (fun (_:Unit) (i:Int)=>i) (fun _ _ x=>if hasK x.2.2.2.1 k0 then .inl (x.1,()) else .inr ()) (fun _=>(0,())) (fun _ _=>True) (by rw[maxLen_val];omega)
  (fun i hi s self _=>by
   show impl_lockOf.b0 _ _ _ _=_
   unfold impl_lockOf.b0
   have hlt:(i:Int) < (xs.length:Int):=by omega
   simp only[hlt,decide_true,cond_true,Int.natCast_nonneg,if_true,Int.toNat_natCast,List.getElem?_eq_getElem hi,Option.bind_some,contains_eq _ _ (tl_locks (h2 _ (List.getElem_mem hi)))]
   cases hasK (xs[i]).2.2.2.1 k0 <;> rfl)
  (fun _ _ _ _ _ _=>trivial) (fun s self _=>by
   show impl_lockOf.b0 _ _ _ _=_
   unfold impl_lockOf.b0
   simp only[Int.lt_irrefl,decide_false,cond_false]
   rfl) () trivial k (by omega)
 rw[forI_lock] at this
 exact this
theorem cloneC_eq (s:List Change) (h:s.length<=1048576):slices_Clone_Change.sem (s,())=some (s,()):=by
 refine lift_eq (k:=0) fun k _=>(slices_Clone_Change.raw_eq k _).trans ?_
 show slices_Clone_Change.p _=_
 unfold slices_Clone_Change.p
 refine nilB_eq (fun e=>by rw[show s=[] from e]) ?_
 have:([]:List Change).length+s.length<=CAP:=cap_ok (by simp only[List.length_nil];omega)
 rw[if_pos this,List.nil_append]
theorem cloneI_eq (s:List Int) (h:s.length<=1048576):slices_Clone_int64.sem (s,())=some (s,()):=by
 refine lift_eq (k:=0) fun k _=>(slices_Clone_int64.raw_eq k _).trans ?_
 show slices_Clone_int64.p _=_
 unfold slices_Clone_int64.p
 refine nilB_eq (fun e=>by rw[show s=[] from e]) ?_
 have:([]:List Int).length+s.length<=CAP:=cap_ok (by simp only[List.length_nil];omega)
 rw[if_pos this,List.nil_append]
theorem cloneK_eq (s:List Key) (h:s.length<=1048576):slices_Clone_Key.sem (s,())=some (s,()):=by
 refine lift_eq (k:=0) fun k _=>(slices_Clone_Key.raw_eq k _).trans ?_
 show slices_Clone_Key.p _=_
 unfold slices_Clone_Key.p
 refine nilB_eq (fun e=>by rw[show s=[] from e]) ?_
 have:([]:List Key).length+s.length<=CAP:=cap_ok (by simp only[List.length_nil];omega)
 rw[if_pos this,List.nil_append]
theorem copyOne_eq (x:Tx) (h:tl x):spec_l10CopyOne.sem (x,())=some (x,()):=by
 obtain ⟨h1,h2,h3,_⟩:=h
 refine lift_eq (k:=0) fun k _=>(spec_l10CopyOne.raw_eq k _).trans ?_
 show spec_l10CopyOne.p _=_
 unfold spec_l10CopyOne.p
 have c1:([]:List Change).length+List.length x.2.1<=CAP:=cap_ok (by simp only[List.length_nil];omega)
 have c2:([]:List Int).length+List.length x.2.2.1<=CAP:=cap_ok (by simp only[List.length_nil];omega)
 have c3:([]:List Key).length+List.length x.2.2.2.1<=CAP:=cap_ok (by simp only[List.length_nil];omega)
 rw[if_pos c1,if_pos c2,if_pos c3]
 rfl
theorem specCopyT_eq (xs:List Tx) (h:tls xs):spec_l10Copy.sem (xs,())=some (xs,()):=by
 obtain ⟨h1,h2⟩:=h
 refine lift_eq (k:=xs.length+1) fun k hk=>(spec_l10Copy.raw_eq k _).trans ?_
 have:=for_loop (B:=fun self v=>spec_l10Copy.B0 0 self (fun z=>spec_l10Copy.Q0 0 (xs,()) z) (xs,()) v) xs (fun (s:List Tx) (i:Int)=>(s,i)) (fun _ s x=>.inr (s++[x])) (fun s=>(s,())) (fun i s=>s.length=i) (by rw[maxLen_val];omega)
  (fun i hi s self hI=>by
   show spec_l10Copy.b0 _ _ _ _=_
   unfold spec_l10Copy.b0
   have hlt:(i:Int) < (xs.length:Int):=by omega
   have hc:s.length+[xs[i]].length<=CAP:=cap_ok (by simp only[List.length_cons,List.length_nil];omega)
   simp only[hlt,decide_true,cond_true,Int.natCast_nonneg,if_true,Int.toNat_natCast,List.getElem?_eq_getElem hi,Option.bind_some,copyOne_eq _ (h2 _ (List.getElem_mem hi)),hc])
  (fun i hi s s' hI hs=>by injection hs with hs;rw[<-hs];simp[hI]) (fun s self hI=>by
   show spec_l10Copy.b0 _ _ _ _=_
   unfold spec_l10Copy.b0
   simp only[Int.lt_irrefl,decide_false,cond_false]
   rfl) [] rfl k (by omega)
 rw[forI_fold,fold_self] at this
 exact this
theorem ownTxs_eq (xs:List Tx) (h:tls xs):impl_ownTxs.sem (xs,())=some (xs,()):=by
 obtain ⟨h1,h2⟩:=h
 refine lift_eq (k:=xs.length+1) fun k hk=>(impl_ownTxs.raw_eq k _).trans ?_
 have:=for_loop (B:=fun self v=>impl_ownTxs.B0 0 self (fun z=>impl_ownTxs.Q0 0 (xs,()) z) (xs,()) v) xs (fun (s:List Tx) (i:Int)=>(s,i)) (fun _ s x=>.inr (s++[x])) (fun s=>(s,())) (fun i s=>s.length=i) (by rw[maxLen_val];omega)
  (fun i hi s self hI=>by
   show impl_ownTxs.b0 _ _ _ _=_
   unfold impl_ownTxs.b0
   have hlt:(i:Int) < (xs.length:Int):=by omega
   have hx:=h2 _ (List.getElem_mem hi)
   simp only[hlt,decide_true,cond_true,Int.natCast_nonneg,if_true,Int.toNat_natCast,List.getElem?_eq_getElem hi,Option.bind_some]
   generalize xs[i]=x at hx
   obtain ⟨g1,g2,g3,_⟩:=hx
   rw[cloneC_eq _ g1]
   simp only[Option.bind_some]
   rw[cloneI_eq _ g2]
   simp only[Option.bind_some]
   rw[cloneK_eq _ g3]
   have hc:s.length+[x].length<=CAP:=cap_ok (by simp only[List.length_cons,List.length_nil];omega)
   simp only[Option.bind_some]
   rw[if_pos hc])
  (fun i hi s s' hI hs=>by injection hs with hs;rw[<-hs];simp[hI]) (fun s self hI=>by
   show impl_ownTxs.b0 _ _ _ _=_
   unfold impl_ownTxs.b0
   simp only[Int.lt_irrefl,decide_false,cond_false]
   rfl) [] rfl k (by omega)
 rw[forI_fold,fold_self] at this
 exact this
def noteX (x:Tx) (c:Change):Tx:=(x.1,x.2.1++[c],x.2.2.1,if hasK x.2.2.2.1 (keyOfC c) then x.2.2.2.1 else x.2.2.2.1++[keyOfC c],())
def noteF (xs:List Tx) (j:Nat) (c:Change):List Tx:=match xs[j]? with
 | some x=>xs.set j (noteX x c)
 | none=>xs
theorem specNote_eq (xs:List Tx) (j:Nat) (c:Change) (h:tls xs) (hj:j < xs.length):spec_l10Note.sem (xs,(j:Int),c,())=some (noteF xs j c,()):=by
 refine lift_eq (k:=0) fun k _=>(spec_l10Note.raw_eq k _).trans ?_
 show spec_l10Note.p _=_
 unfold spec_l10Note.p noteF
 have hx:=h.2 _ (List.getElem_mem hj)
 have hin:(0:Int)<=(j:Int)/\(j:Int) < (xs.length:Int):=by omega
 simp only[specCopyT_eq xs h,Option.bind_some,hin,and_self,if_true,Int.toNat_natCast,List.getElem?_eq_getElem hj,specKeyOf_eq]
 generalize hxx:xs[j]=x at hx
 obtain ⟨g1,g2,g3,_⟩:=hx
 have hs1:xs.set j x=xs:=by rw[<-hxx];exact List.set_getElem_self hj
 have hg:xs[j]?=some x:=by rw[List.getElem?_eq_getElem hj,hxx]
 have c1:List.length x.2.1+[c].length<=CAP:=cap_ok (by simp only[List.length_cons,List.length_nil];omega)
 have c2:List.length x.2.2.2.1+[keyOfC c].length<=CAP:=cap_ok (by simp only[List.length_cons,List.length_nil];omega)
 have hq:∀ y:Tx,(xs.set j y)[j]?=some y:=fun y=>by simp[hj]
 rw[if_pos c1,hs1]
 simp only[hg,Option.bind_some,hq]
 rw[locks_eq _ _ (by rw[maxLen_val];show List.length x.2.2.2.1<=_;omega)]
 simp only[Option.bind_some]
 unfold noteX
 show (bif !hasK x.2.2.2.1 (keyOfC c) then _ else _)=_
 cases hasK x.2.2.2.1 (keyOfC c) with
 | true=>rfl
 | false=>
  simp only[Bool.not_false,cond_true]
  rw[if_pos c2]
  simp only[hq,Option.bind_some,List.set_set,Bool.false_eq_true,if_false]
theorem implNote_eq (xs:List Tx) (j:Nat) (c:Change) (h:tls xs) (hj:j < xs.length):impl_noted.sem (xs,(j:Int),c,())=some (noteF xs j c,()):=by
 refine lift_eq (k:=0) fun k _=>(impl_noted.raw_eq k _).trans ?_
 show impl_noted.p _=_
 unfold impl_noted.p noteF
 have hx:=h.2 _ (List.getElem_mem hj)
 have hin:(0:Int)<=(j:Int)/\(j:Int) < (xs.length:Int):=by omega
 simp only[ownTxs_eq xs h,Option.bind_some,hin,and_self,if_true,Int.toNat_natCast,List.getElem?_eq_getElem hj,lock_eq]
 generalize hxx:xs[j]=x at hx
 obtain ⟨g1,g2,g3,_⟩:=hx
 have hs1:xs.set j x=xs:=by rw[<-hxx];exact List.set_getElem_self hj
 have hg:xs[j]?=some x:=by rw[List.getElem?_eq_getElem hj,hxx]
 have c1:List.length x.2.1+[c].length<=CAP:=cap_ok (by simp only[List.length_cons,List.length_nil];omega)
 have c2:List.length x.2.2.2.1+[keyOfC c].length<=CAP:=cap_ok (by simp only[List.length_cons,List.length_nil];omega)
 have hq:∀ y:Tx,(xs.set j y)[j]?=some y:=fun y=>by simp[hj]
 rw[if_pos c1,hs1]
 simp only[hg,Option.bind_some,hq]
 rw[contains_eq _ _ (by rw[maxLen_val];show List.length x.2.2.2.1<=_;omega)]
 simp only[Option.bind_some]
 unfold noteX
 show (bif !hasK x.2.2.2.1 (keyOfC c) then _ else _)=_
 cases hasK x.2.2.2.1 (keyOfC c) with
 | true=>rfl
 | false=>
  simp only[Bool.not_false,cond_true]
  rw[if_pos c2]
  simp only[hq,Option.bind_some,List.set_set,Bool.false_eq_true,if_false]
def badT (c:Int):TxsResult:=(c,([]:List Tx),())
def noteAllF (xs:List Tx) (t:Int) (c:Change):TxsResult:=
 if txsF xs=0 then
  if atF xs t < 0 then badT 4
  else if chS c=0 then
   if lockF xs (keyOfC c)≠0/\lockF xs (keyOfC c)≠t then badT 7
   else if 12<=cntF xs then badT 2
   else if lockF xs (keyOfC c)=0/\12<=List.length ((xs.getD (atF xs t).toNat (0,[],[],[],())).2.2.2.1:List Key) then badT 2
   else ((0:Int),noteF xs (atF xs t).toNat c,())
  else badT (chS c)
 else badT (txsF xs)
theorem txs_good {xs:List Tx} (h:txsF xs=0):eachF xs=0/\xs.length<=4:=by
 unfold txsF at h
 split at h
 ·cases h
 ·split at h
  ·exact ⟨by assumption,by omega⟩
  ·rename_i hn;exact absurd h hn
theorem lockF_some {xs:List Tx} {k:Key} (h:lockF xs k≠0):∃ x ∈ xs,x.1=lockF xs k/\hasK x.2.2.2.1 k=true:=by
 induction xs with
 | nil=>exact absurd rfl h
 | cons x xs ih=>
  simp only[lockF] at h ⊢
  cases hh:hasK x.2.2.2.1 k with
  | true=>exact ⟨x,by simp,by simp,hh⟩
  | false=>
   simp only[hh,Bool.false_eq_true,if_false] at h ⊢
   obtain ⟨y,h1,h2,h3⟩:=ih h
   exact ⟨y,by simp[h1],h2,h3⟩
theorem lockF_zero {xs:List Tx} {k:Key} (h:lockF xs k=0) (hp:∀ x ∈ xs,1<=x.1):∀ x ∈ xs,hasK x.2.2.2.1 k=false:=by
 induction xs with
 | nil=>intro x hx;cases hx
 | cons x xs ih=>
  simp only[lockF] at h
  cases hh:hasK x.2.2.2.1 k with
  | true=>
   simp only[hh,if_true] at h
   have:=hp x (by simp)
   omega
  | false=>
   simp only[hh,Bool.false_eq_true,if_false] at h
   intro y hy
   rcases List.mem_cons.1 hy with e | e
   ·subst e;exact hh
   ·exact ih h (fun z hz=>hp z (by simp[hz])) y e
theorem implNoteC_eq (xs:List Tx) (t:Int) (c:Change) (h:tls xs) (hc:cl c):impl_NoteChange.sem (xs,t,c,())=some (noteAllF xs t c,()):=by
 refine lift_eq (k:=0) fun k _=>(impl_NoteChange.raw_eq k _).trans ?_
 show impl_NoteChange.p _=_
 unfold impl_NoteChange.p noteAllF badT
 simp only[implTxs_eq xs h,implAt_eq xs t h.1,single_eq c hc,lock_eq,implLock_eq xs _ h,implCount_eq xs h,Option.bind_some]
 by_cases h1:txsF xs=0
 rotate_left
 ·simp only[h1,decide_false,Bool.not_false,cond_true,if_false]
 simp only[h1,decide_true,Bool.not_true,cond_false,if_true]
 by_cases h2:atF xs t < 0
 ·simp only[h2,decide_true,cond_true,if_true]
 simp only[h2,decide_false,cond_false,if_false]
 by_cases h3:chS c=0
 rotate_left
 ·simp only[h3,decide_false,Bool.not_false,cond_true,if_false]
 simp only[h3,decide_true,Bool.not_true,cond_false,if_true]
 obtain ⟨j,hj,e1,e2⟩:=where_spec (fun x:Tx=>decide (x.1=t)) xs 0 (by show 0<=atF xs t;omega)
 have e1:atF xs t=(j:Int):=by show whereF _ 0 xs=_;rw[e1];omega
 rw[e1,Int.toNat_natCast]
 have hn:=implNote_eq xs j c h hj
 rw[hn]
 have hgd:xs.getD j (0,[],[],[],())=xs[j]:=by simp[hj]
 rw[hgd]
 simp only[Int.natCast_nonneg,if_true,List.getElem?_eq_getElem hj,Option.bind_some]
 have hlen:decide ((12:Int)<=(List.length (xs[j]).2.2.2.1:Int))=decide (12<=List.length ((xs[j]).2.2.2.1:List Key)):=by
  by_cases hh:12<=List.length ((xs[j]).2.2.2.1:List Key)
  ·have:(12:Int)<=(List.length (xs[j]).2.2.2.1:Int):=by omega
   simp only[hh,this,decide_true]
  ·have:¬ (12:Int)<=(List.length (xs[j]).2.2.2.1:Int):=by omega
   simp only[hh,this,decide_false]
 rw[hlen]
 by_cases h4:lockF xs (keyOfC c)=0
 ·simp only[h4,decide_true,Bool.not_true,cond_false,cond_true,ne_eq,not_true_eq_false,false_and,if_false,true_and]
  by_cases h5:12<=cntF xs
  ·simp only[h5,decide_true,cond_true,if_true]
  ·simp only[h5,decide_false,cond_false,if_false]
   by_cases h6:12<=List.length ((xs[j]).2.2.2.1:List Key)
   ·simp only[h6,decide_true,cond_true,if_true]
   ·simp only[h6,decide_false,cond_false,if_false]
 ·by_cases h5:lockF xs (keyOfC c)=t
  ·simp only[h4,h5,decide_true,decide_false,Bool.not_true,Bool.not_false,cond_false,cond_true,ne_eq,not_true_eq_false,and_false,if_false,false_and]
   have h4':¬ t=0:=fun e=>h4 (by rw[h5,e])
   simp only[h4',decide_false,cond_false,false_and,if_false]
   by_cases h6:12<=cntF xs
   ·simp only[h6,decide_true,cond_true,if_true,Bool.not_false]
   ·simp only[h6,decide_false,cond_false,if_false,Bool.not_false,cond_true]
  ·simp only[h4,h5,decide_false,Bool.not_false,cond_true,ne_eq,not_false_eq_true,and_self,if_true]
end OT
set_option linter.unusedVariables false
set_option linter.unusedSimpArgs false
set_option linter.unusedSectionVars false
namespace OT
open Go
def markX (x:Tx):Tx:=(x.1,x.2.1,x.2.2.1++[(List.length x.2.1:Int)],x.2.2.2)
def cutX (x:Tx) (n m:Nat):Tx:=(x.1,x.2.1.take n,x.2.2.1.take (m+1),x.2.2.2)
theorem implMarked_eq {xs:List Tx} {t:Int} (h:tls xs) {j:Nat} (hj:j < xs.length) (hat:atF xs t=(j:Int)) (hm:List.length (xs[j]).2.2.1<=8):impl_marked.sem (xs,t,())=some (xs.set j (markX xs[j]),(List.length (xs[j]).2.2.1:Int),()):=by
 refine lift_eq (k:=0) fun k _=>(impl_marked.raw_eq k _).trans ?_
 unfold impl_marked.p
 have hin:(0:Int)<=(j:Int)/\(j:Int) < (xs.length:Int):=by omega
 simp only[ownTxs_eq xs h,implAt_eq xs t h.1,hat,Option.bind_some,hin,and_self,if_true,Int.toNat_natCast,List.getElem?_eq_getElem hj]
 generalize hxx:xs[j]=x at hm ⊢
 have hs1:xs.set j x=xs:=by rw[<-hxx];exact List.set_getElem_self hj
 have hg:xs[j]?=some x:=by rw[List.getElem?_eq_getElem hj,hxx]
 have c1:List.length x.2.2.1+[(List.length x.2.1:Int)].length<=CAP:=cap_ok (by simp only[List.length_cons,List.length_nil];omega)
 have hq:∀ y:Tx,(xs.set j y)[j]?=some y:=fun y=>by simp[hj]
 rw[if_pos c1,hs1]
 simp only[hg,Option.bind_some,hq]
 have hw:w64 (((List.length (x.2.2.1++[(List.length x.2.1:Int)]):Nat):Int) - 1)=(List.length x.2.2.1:Int):=by
  rw[List.length_append,List.length_cons,List.length_nil,w64_in (by omega)];omega
 rw[hw]
 rfl
theorem implCutAll_eq {xs:List Tx} {o:Op} (h:tls xs) {j:Nat} (hj:j < xs.length) (hat:atF xs o.2.1=(j:Int)) (h6:¬ o.1=6):impl_cut.sem (xs,o,())=some (xs.take j++xs.drop (j+1),invF (xs[j]).2.1,()):=by
 refine lift_eq (k:=0) fun k _=>(impl_cut.raw_eq k _).trans ?_
 unfold impl_cut.p
 have hin:(0:Int)<=(j:Int)/\(j:Int) < (xs.length:Int):=by omega
 have hx:=h.2 _ (List.getElem_mem hj)
 have hl:=h.1
 have hw:w64 ((j:Int)+1)=((j+1:Nat):Int):=by rw[w64_in (by omega)];omega
 have hd:slices_Delete_Tx.sem (xs,(j:Int),((j+1:Nat):Int),())=some (xs.take j++xs.drop (j+1),()):=by
  show delF _ _=_
  unfold delF
  have:(0:Int)<=(j:Int)/\(j:Int)<=((j+1:Nat):Int)/\((j+1:Nat):Int)<=(xs.length:Int):=by omega
  exact if_pos this
 simp only[ownTxs_eq xs h,implAt_eq xs o.2.1 h.1,hat,Option.bind_some,hin,and_self,if_true,Int.toNat_natCast,List.getElem?_eq_getElem hj,h6,decide_false,cond_false,implInv_eq _ hx.1,hw,hd]
theorem implCutBack_eq {xs:List Tx} {o:Op} (h:tls xs) {j:Nat} (hj:j < xs.length) (hat:atF xs o.2.1=(j:Int)) (h6:o.1=6) {m n:Nat} (hm:o.2.2.2.1=(m:Int)) (hml:m < List.length (xs[j]).2.2.1) (hn:(xs[j]).2.2.1[m]?=some (n:Int)) (hnl:n<=List.length (xs[j]).2.1) :
  impl_cut.sem (xs,o,())=some (xs.set j (cutX xs[j] n m),invF ((xs[j]).2.1.drop n),()):=by
 refine lift_eq (k:=0) fun k _=>(impl_cut.raw_eq k _).trans ?_
 unfold impl_cut.p
 have hin:(0:Int)<=(j:Int)/\(j:Int) < (xs.length:Int):=by omega
 have hx:=h.2 _ (List.getElem_mem hj)
 simp only[ownTxs_eq xs h,implAt_eq xs o.2.1 h.1,hat,Option.bind_some,hin,and_self,if_true,Int.toNat_natCast,List.getElem?_eq_getElem hj,h6,hm,decide_true,cond_true]
 generalize hxx:xs[j]=x at hx hml hn hnl ⊢
 obtain ⟨g1,g2,g3,_⟩:=hx
 have hs1:xs.set j x=xs:=by rw[<-hxx];exact List.set_getElem_self hj
 have hg:xs[j]?=some x:=by rw[List.getElem?_eq_getElem hj,hxx]
 have hq:∀ y:Tx,(xs.set j y)[j]?=some y:=fun y=>by simp[hj]
 have k1:(0:Int)<=(m:Int)/\(m:Int) < (List.length x.2.2.1:Int):=by omega
 have k2:(0:Int)<=(n:Int)/\(n:Int)<=(List.length x.2.1:Int):=by omega
 have hw:w64 ((m:Int)+1)=((m+1:Nat):Int):=by rw[w64_in (by omega)];omega
 have k3:(0:Int)<=((m+1:Nat):Int)/\((m+1:Nat):Int)<=(List.length x.2.2.1:Int):=by omega
 rw[if_pos k1,hn]
 simp only[Option.bind_some]
 rw[if_pos k2,Int.toNat_natCast,List.take_length,implInv_eq _ (by rw[List.length_drop];omega)]
 simp only[Option.bind_some]
 rw[if_pos k2,hs1]
 simp only[hg,Option.bind_some,hq,hw]
 rw[if_pos k3]
 simp only[Int.toNat_natCast,List.set_set,hq,Option.bind_some,List.drop_zero]
 rfl
theorem turnV_eq {p:Plain} {cs:List Change} {t:List Row} (hg:Good p.1) (hl:List.length p.1<=12) (hc:∀ c ∈ cs,chF c=0) (hcl:∀ c ∈ cs,cl c) (hcs:cs.length<=12) (hb:backL p.1 cs=some t):impl_Plain_turn_v.sem (p,cs,())=some ((0:Int),(t,p.2),()):=by
 refine lift_eq (k:=0) fun k _=>(impl_Plain_turn_v.raw_eq k _).trans ?_
 unfold impl_Plain_turn_v.p
 rw[implApply_eq p.1 cs (by rw[maxLen_val];omega) (good_rl hg) (by omega) hcl,apply_back hg hc (by omega),hb]
 rfl
theorem ownP_eq {p:Plain} (hl:List.length p.1<=1048576) (h:tls p.2.1):impl_Plain_own.sem (p,())=some ((p.1,p.2.1,p.2.2.1,()),()):=by
 refine lift_eq (k:=0) fun k _=>(impl_Plain_own.raw_eq k _).trans ?_
 unfold impl_Plain_own.p
 rw[cloneRow_eq _ hl]
 simp only[Option.bind_some]
 rw[ownTxs_eq _ h]
 rfl
theorem copyP_eq {p:Plain} (hl:List.length p.1<=1048576) (h:tls p.2.1):spec_l11Copy.sem (p,())=some ((p.1,p.2.1,p.2.2.1,()),()):=by
 refine lift_eq (k:=0) fun k _=>(spec_l11Copy.raw_eq k _).trans ?_
 unfold spec_l11Copy.p
 rw[if_pos (show ([]:List Row).length+List.length p.1<=CAP from cap_ok (by rw[List.length_nil];omega)),specCopyT_eq _ h]
 rfl
theorem badP_eq (c:Int):spec_l11Bad.sem (c,())=some ((c,(0:Int),(([]:List Row),([]:List Tx),(0:Int),()),()),()):=lift_eq (k:=0) fun k _=>(spec_l11Bad.raw_eq k _).trans rfl
theorem specCut_eq {x:Tx} (h:tl x) {m n:Nat} (hml:m < List.length x.2.2.1) (hn:x.2.2.1[m]?=some (n:Int)) (hnl:n<=List.length x.2.1):spec_l11Cut.sem (x,(m:Int),())=some (x.2.1.drop n,cutX x n m,()):=by
 obtain ⟨g1,g2,g3,_⟩:=h
 refine lift_eq (k:=0) fun k _=>(spec_l11Cut.raw_eq k _).trans ?_
 unfold spec_l11Cut.p
 have k2:(0:Int)<=(n:Int)/\(n:Int)<=(List.length x.2.1:Int):=by omega
 have hw:w64 ((m:Int)+1)=((m+1:Nat):Int):=by rw[w64_in (by omega)];omega
 have k3:(0:Int)<=((m+1:Nat):Int)/\((m+1:Nat):Int)<=(List.length x.2.2.1:Int):=by omega
 rw[if_pos (Int.natCast_nonneg m),Int.toNat_natCast,hn]
 simp only[Option.bind_some]
 rw[if_pos k2,if_pos (cap_ok (by rw[List.length_nil,List.length_drop,List.length_take];omega)),if_pos k2,hw,if_pos k3]
 simp only[Int.toNat_natCast,List.nil_append,List.take_length,List.drop_zero]
 rfl
theorem specGone_eq {xs:List Tx} (hl:xs.length<=1048576) {j:Nat} (hj:j < xs.length):spec_l11Gone.sem (xs,(j:Int),())=some (xs.take j++xs.drop (j+1),()):=by
 refine lift_eq (k:=1048578) fun k hk=>(spec_l11Gone.raw_eq k _).trans ?_
 have:=for_loop (B:=fun self v=>spec_l11Gone.b0 self (spec_l11Gone.q0 (xs,(j:Int),())) (xs,(j:Int),()) v) xs (fun (s:List Tx) (i:Int)=>(s,i)) (fun i s x=>if (i:Int)=(j:Int) then .inr s else .inr (s++[x])) (fun s=>(s,())) (fun i s=>s.length<=i) (by rw[maxLen_val];omega)
  (fun i hi s self hI=>by
   have hlt:(i:Int) < (xs.length:Int):=by omega
   unfold spec_l11Gone.b0
   rw[decide_eq_true hlt,cond_true]
   by_cases he:(i:Int)=(j:Int)
   ·rw[decide_eq_true he,Bool.not_true,cond_false,if_pos he]
   ·rw[decide_eq_false he,Bool.not_false,cond_true,if_neg he,if_pos (Int.natCast_nonneg i),Int.toNat_natCast,List.getElem?_eq_getElem hi]
    simp only[Option.bind_some]
    rw[if_pos (cap_ok (by rw[List.length_cons,List.length_nil];omega))])
  (fun i hi s s' hI hf=>by
   split at hf
   ·injection hf with hf;subst hf;omega
   ·injection hf with hf;subst hf;rw[List.length_append,List.length_cons,List.length_nil];omega) (fun s self _=>by
   unfold spec_l11Gone.b0
   rw[decide_eq_false (Int.lt_irrefl _),cond_false]
   rfl) [] (Nat.zero_le _) k (by omega)
 have key:∀ (ys:List Tx) (i:Nat) (s:List Tx),forI (O:=List Tx×Unit) (fun i s x=>if (i:Int)=(j:Int) then .inr s else .inr (s++[x])) (fun s=>(s,())) i ys s=(s++(if i<=j then ys.take (j - i)++ys.drop (j - i+1) else ys),()):=by
  intro ys
  induction ys with
  | nil=>intro i s;simp[forI]
  | cons y ys ih=>
   intro i s
   simp only[forI]
   by_cases he:(i:Int)=(j:Int)
   ·rw[if_pos he]
    simp only
    rw[ih]
    have:i=j:=by omega
    subst this
    rw[if_neg (by omega),if_pos (Nat.le_refl _),Nat.sub_self]
    rfl
   ·rw[if_neg he]
    simp only
    rw[ih]
    by_cases hij:i<=j
    ·obtain ⟨d,hd⟩:∃ d,j - i=d+1:=⟨j - i - 1,by omega⟩
     rw[if_pos hij,if_pos (by omega),hd,show j - (i+1)=d by omega]
     simp[List.append_assoc]
    ·rw[if_neg hij,if_neg (by omega)]
     simp[List.append_assoc]
 rw[key xs 0 []] at this
 refine Eq.trans this ?_
 simp
end OT
set_option linter.unusedVariables false
set_option linter.unusedSimpArgs false
set_option linter.unusedSectionVars false
namespace OT
open Go
structure PlainOk (p:Plain):Prop where
 good:Good p.1
 len:List.length p.1<=12
 txs:txsF p.2.1=0
 next:inB p.2.2.1 1 100=true
 room:roomF p.1 p.2.1<=12
 back:∃ t,backL p.1 (backs p.2.1)=some t
theorem plain_facts {p:Plain} (h:plainF p=0):PlainOk p:=by
 unfold plainF at h
 split at h
 ·rename_i h1
  split at h
  ·rename_i h2
   split at h
   ·rename_i h3
    rw[Bool.and_eq_true] at h3
    split at h
    ·cases h
    ·rename_i h4
     have hg:=(rowsF_good h1).1
     have hr:=rows_room (xs:=p.2.1) hg.up
     unfold roomF at h4
     cases hb:backL p.1 (backs p.2.1) with
     | none=>rw[hb] at h;cases h
     | some t=>exact ⟨hg,by omega,h2,h3.1,by unfold roomF;omega,t,hb⟩
   ·cases h
  ·rename_i h2;exact absurd h h2
 ·rename_i h1;exact absurd h h1
theorem ck_inv {c:Change} (hc:chF c=0):ck (invC c)=ck c:=by
 have hi:ck (invC c)=if c.1=true then rk c.2.1 else (c.2.2.2.1.1,c.2.2.2.1.2.1):=by
  unfold ck invC
  cases c.1 <;> rfl
 rw[hi]
 by_cases hw:c.1=true
 ·rw[if_pos hw];exact ch_before hc hw
 ·rw[if_neg hw]
  have hw:c.1=false:=by simpa using hw
  unfold ck
  cases hi:c.2.2.1 with
  | true=>rfl
  | false=>
   unfold chF at hc
   rw[hw,hi] at hc
   cases hc
theorem tx_each {xs:List Tx} (h:txsF xs=0):∀ x ∈ xs,1<=x.1/\txF x=0:=fun x hx=>by
 have h1:=(txs_good h).1
 obtain ⟨i,hi,rfl⟩:=List.getElem_of_mem hx
 have:=one_good (each_good xs h1 i hi)
 exact ⟨this.1,this.2.1⟩
theorem undo_lock {x:Tx} (h:txF x=0):∀ c ∈ (x.2.1:List Change),hasK x.2.2.2.1 (keyOfC c)=true:=fun c hc=>by
 unfold txF at h
 split at h
 ·rename_i hu
  have h2:=firstF_zero hu c hc
  unfold undoC at h2
  split at h2
  ·split at h2
   ·assumption
   ·cases h2
  ·rename_i hn;exact absurd h2 hn
 ·rename_i hn;exact absurd h hn
theorem txs_nodup {xs:List Tx} (h:txsF xs=0):(flatK xs).Nodup:=by
 unfold txsF at h
 split at h
 ·cases h
 ·split at h
  ·split at h
   ·rename_i ha;exact of_decide_eq_true ha
   ·cases h
  ·rename_i hn;exact absurd h hn
theorem keys_apart {xs:List Tx} (h:txsF xs=0) {i j:Nat} (hi:i < xs.length) (hj:j < i) {c d:Change} (hc:c ∈ invF (xs[j]'(by omega)).2.1) (hd:d ∈ invF xs[i].2.1):ck c≠ck d:=by
 have hn:=txs_nodup h
 have hch:=(txs_ok h).ch
 obtain ⟨c0,hc0,rfl⟩:=inv_mem hc
 obtain ⟨d0,hd0,rfl⟩:=inv_mem hd
 have mj:xs[j]'(by omega) ∈ xs:=List.getElem_mem _
 have mi:xs[i] ∈ xs:=List.getElem_mem _
 rw[ck_inv (hch _ mj c0 hc0),ck_inv (hch _ mi d0 hd0)]
 have l1:=hasK_iff.1 (undo_lock (tx_each h _ mj).2 c0 hc0)
 have l2:=hasK_iff.1 (undo_lock (tx_each h _ mi).2 d0 hd0)
 intro he
 have hx:xs=xs.take i++xs[i]::xs.drop (i+1):=by rw[List.getElem_cons_drop,List.take_append_drop]
 unfold flatK at hn
 rw[hx,List.flatMap_append,List.flatMap_cons,List.nodup_append] at hn
 refine hn.2.2 (keyOfC c0) ?_ (keyOfC c0) ?_ rfl
 ·rw[List.mem_flatMap]
  refine ⟨xs[j]'(by omega),?_,l1⟩
  rw[List.mem_take_iff_getElem]
  exact ⟨j,by omega,rfl⟩
 ·rw[List.mem_append]
  left
  have:keyOfC c0=keyOfC d0:=by unfold keyOfC;rw[he]
  rw[this]
  exact l2
theorem undo_one {p:Plain} (h:PlainOk p) {i:Nat} (hi:i < List.length p.2.1):∃ t,backL p.1 (invF (p.2.1[i]).2.1)=some t:=by
 obtain ⟨t,ht⟩:=h.back
 exact one_undo h.good (txs_ok h.txs).ch ht hi fun j hj c hc d hd=>keys_apart h.txs hi hj hc hd
theorem sub_len {α:Type} [DecidableEq α]:∀ (l m:List α),l.Nodup->(∀ x ∈ l,x ∈ m)->l.length<=m.length
 | [],_,_,_=>Nat.zero_le _
 | x::l,m,hn,h=>by
  rw[List.nodup_cons] at hn
  have hx:=h x List.mem_cons_self
  have ih:=sub_len l (m.erase x) hn.2 fun y hy=>(List.mem_erase_of_ne (fun e=>hn.1 (by rw[<-e];exact hy))).2 (h y (List.mem_cons_of_mem _ hy))
  have:=List.length_erase_of_mem hx
  have:0 < m.length:=List.length_pos_of_mem hx
  simp only[List.length_cons]
  omega
theorem want_facts {rows:List Row} {o:Op} (hg:Good rows) (hr0:rowF o.2.2.1=0) (h:(wantF rows o).2=0):chF (wantF rows o).1=0/\ck (wantF rows o).1=rk o.2.2.1/\fits1 rows (wantF rows o).1=true/\cl (wantF rows o).1:=by
 have hrl:rl o.2.2.1:=by unfold rl;have:=rowF_text hr0;rw[maxLen_val];omega
 have hnl:rl noRow:=Nat.zero_le _
 have key:∀ c:Change,c=(wantF rows o).1->chF c=0/\ck c=rk o.2.2.1/\(if c.1=true then c.2.1 ∈ rows else ∀ r ∈ rows,rk r≠ck c)/\cl c:=by
  intro c hc
  unfold wantF at h hc
  have hrk:(o.2.2.1.1,o.2.2.1.2.1)=rk o.2.2.1:=rfl
  simp only[hrk] at h hc
  cases hf:fnd rows (rk o.2.2.1) with
  | true=>
   obtain ⟨hp,hk⟩:=fnd_lt hf
   have hm:rows[pos rows (rk o.2.2.1)] ∈ rows:=List.getElem_mem hp
   have hb:=hg.2 _ hm
   have hbl:rl rows[pos rows (rk o.2.2.1)]:=by unfold rl;have:=rowF_text hb;rw[maxLen_val];omega
   rw[hf,List.getElem?_eq_getElem hp] at h hc
   generalize hx:rows[pos rows (rk o.2.2.1)]=x at *
   cases h2:decide (o.1=2) with
   | true=>rw[h2] at h;cases h
   | false=>
    rw[h2] at hc
    simp only[Bool.false_and,Bool.not_true,Bool.and_false,Bool.false_eq_true,if_false,if_true,Option.getD_some] at hc
    cases h4:decide (o.1=4) with
    | true=>
     rw[h4] at hc
     subst hc
     refine ⟨?_,hk,?_,hbl,hnl⟩
     ·unfold chF
      simp[hb]
     ·exact hm
    | false=>
     rw[h4] at hc
     subst hc
     refine ⟨?_,rfl,?_,hbl,hrl⟩
     ·have hs:sameKey x o.2.2.1=true:=by rw[sameKey_rk,decide_eq_true hk]
      unfold chF
      simp[hb,hr0,hs]
     ·exact hm
  | false=>
   have hno:∀ r ∈ rows,rk r≠rk o.2.2.1:=fun r hr he=>by
    obtain ⟨i,hi,hx⟩:=List.getElem_of_mem hr
    have:=(fnd_at hg.1 hi (k:=rk o.2.2.1) (by rw[hx];exact he)).1
    rw[hf] at this
    cases this
   rw[hf] at h hc
   cases h2:decide (o.1=2) with
   | false=>rw[h2] at h;cases h
   | true=>
    have h4:decide (o.1=4)=false:=by
     have:o.1=2:=of_decide_eq_true h2
     rw[this];rfl
    rw[h2,h4] at hc
    simp only[Bool.and_false,Bool.not_true,Bool.not_false,Bool.false_and,Bool.false_eq_true,if_false] at hc
    subst hc
    refine ⟨?_,rfl,?_,hnl,hrl⟩
    ·unfold chF
     simp[hr0]
    ·exact hno
 obtain ⟨k1,k2,k3,k4⟩:=key _ rfl
 exact ⟨k1,k2,(fits_mem hg.1 k1).2 k3,k4⟩
theorem rowF_ok2 {r:Row} (h:rowF r=0):1<=r.2.1:=by
 unfold rowF at h
 split at h
 ·rename_i hh
  simp only[inB,Bool.and_eq_true,decide_eq_true_eq] at hh
  omega
 ·cases h
theorem row_facts {rows:List Row} {xs:List Tx} {o:Op} (ht:(chkRow rows xs o).2.1=true):heldF xs o.2.1 (o.2.2.1.1,o.2.2.1.2.1,())=false/\(wantF rows o).2=0/\roomK rows xs (o.2.2.1.1,o.2.2.1.2.1,())<=12/\cntF xs < 12/\((wantF rows o).1.1&&((wantF rows o).1.2.2.1&&Ty.eq tRow (wantF rows o).1.2.1 (wantF rows o).1.2.2.2.1))=false/\chkRow rows xs o=(0,true,(wantF rows o).1,()):=by
 unfold chkRow at ht ⊢
 simp only at ht ⊢
 split at ht
 ·cases ht
 rename_i h1
 split at ht
 rotate_left
 ·cases ht
 rename_i h2
 split at ht
 rotate_left
 ·cases ht
 rename_i h3
 split at ht
 ·cases ht
 rename_i h4
 split at ht
 ·cases ht
 rename_i h5
 simp only[Bool.or_eq_true,decide_eq_true_eq,not_or] at h4
 rw[if_neg h1,if_pos h2,if_pos h3,if_neg (by simp only[Bool.or_eq_true,decide_eq_true_eq,not_or];exact h4),if_neg h5]
 exact ⟨by simpa using h1,h2,by omega,by omega,by simpa using h5,rfl⟩
theorem turn_note {p:Plain} (h:PlainOk p) {o:Op} (hr0:rowF o.2.2.1=0) {j:Nat} (hj:j < List.length p.2.1) (hat:atF p.2.1 o.2.1=(j:Int)) (hjt:(p.2.1[j]).1=o.2.1) (ht:(chkRow p.1 p.2.1 o).2.1=true) :
  noteAllF p.2.1 o.2.1 (wantF p.1 o).1=((0:Int),noteF p.2.1 j (wantF p.1 o).1,()):=by
 obtain ⟨r1,r2,r3,r4,r5,r6⟩:=row_facts ht
 obtain ⟨w1,w2,w3,w4⟩:=want_facts h.good hr0 r2
 have hk:keyOfC (wantF p.1 o).1=(o.2.2.1.1,o.2.2.1.2.1,()):=by unfold keyOfC;rw[w2];rfl
 have hcs:chS (wantF p.1 o).1=0:=by
  unfold chS
  rw[if_pos w1,Bool.and_assoc,if_neg (by rw[r5];decide)]
 have hlk:∀ x ∈ (p.2.1:List Tx),x.1≠o.2.1->hasK x.2.2.2.1 (o.2.2.1.1,o.2.2.1.2.1,())=false:=fun x hx hne=>by
  cases hh:hasK x.2.2.2.1 (o.2.2.1.1,o.2.2.1.2.1,()) with
  | false=>rfl
  | true=>
   have hm:=hasK_iff.1 hh
   have:heldF p.2.1 o.2.1 (o.2.2.1.1,o.2.2.1.2.1,())=true:=by
    unfold heldF
    rw[List.any_eq_true]
    refine ⟨x,hx,?_⟩
    rw[decide_eq_false hne,Bool.not_false,Bool.true_and,List.any_eq_true]
    exact ⟨_,hm,by unfold heldC;rw[decide_eq_true rfl,Bool.true_or]⟩
   rw[this] at r1
   cases r1
 have hlock:¬ (lockF p.2.1 (keyOfC (wantF p.1 o).1)≠0/\lockF p.2.1 (keyOfC (wantF p.1 o).1)≠o.2.1):=by
  rintro ⟨a1,a2⟩
  obtain ⟨x,hx,h1,h2⟩:=lockF_some a1
  rw[hk] at h2 h1
  rw[hk] at a2
  rw[hlk x hx (by rw[h1];exact a2)] at h2
  cases h2
 have hroom:¬ (lockF p.2.1 (keyOfC (wantF p.1 o).1)=0/\12<=List.length (((p.2.1:List Tx).getD (atF p.2.1 o.2.1).toNat (0,[],[],[],())).2.2.2.1:List Key)):=by
  rintro ⟨a1,a2⟩
  rw[hat,Int.toNat_natCast,List.getD_eq_getElem?_getD,List.getElem?_eq_getElem hj,Option.getD_some] at a2
  rw[hk] at a1
  have hz:=lockF_zero a1 (fun x hx=>(tx_each h.txs x hx).1) _ (List.getElem_mem hj)
  have hnd:((p.2.1[j]).2.2.2.1:List Key).Nodup:=by
   have:=txs_nodup h.txs
   unfold flatK at this
   have hx:p.2.1=p.2.1.take j++p.2.1[j]::p.2.1.drop (j+1):=by rw[List.getElem_cons_drop,List.take_append_drop]
   rw[hx,List.flatMap_append,List.flatMap_cons,List.nodup_append] at this
   exact (List.nodup_append.1 this.2.1).1
  have hkey:¬ (o.2.2.1.2.1=0):=by have:=(rowF_ok2 hr0);omega
  have hsub:=sub_len ((o.2.2.1.1,o.2.2.1.2.1,())::(p.2.1[j]).2.2.2.1) (dd [] (allKs p.1 p.2.1++exK (o.2.2.1.1,o.2.2.1.2.1,()))) (List.nodup_cons.2 ⟨fun hm=>(by rw[hasK_iff.2 hm] at hz;cases hz),hnd⟩) (fun q hq=>by
   rw[dd_mem]
   right
   rcases List.mem_cons.1 hq with h1 | h1
   ·rw[List.mem_append]
    right
    unfold exK
    rw[h1,if_neg hkey]
    exact List.mem_singleton.2 rfl
   ·rw[List.mem_append]
    left
    unfold allKs flatK
    rw[List.mem_append]
    right
    exact List.mem_flatMap.2 ⟨_,List.getElem_mem hj,h1⟩)
  unfold roomK at r3
  rw[List.length_cons] at hsub
  omega
 unfold noteAllF
 rw[if_pos h.txs,if_neg (by rw[hat];omega),if_pos hcs,if_neg hlock,if_neg (by omega),if_neg hroom,hat,Int.toNat_natCast]
end OT
set_option linter.unusedVariables false
set_option linter.unusedSimpArgs false
set_option linter.unusedSectionVars false
namespace OT
open Go
abbrev badPl (k:Int):PlainResult:=(k,(0:Int),(([]:List Row),([]:List Tx),(0:Int),()),())
def sameDo (p:Plain) (o:Op) (R:PlainResult):Prop:=impl_DoPlain.sem (p,o,())=some (R,())/\spec_DoPlain.sem (p,o,())=some (R,())
theorem do_bad {p:Plain} {o:Op} (hp:okP p) (h:¬ plainF p=0):sameDo p o (badPl (plainF p)):=by
 constructor
 ·refine lift_eq (k:=0) fun k _=>(impl_DoPlain.raw_eq k _).trans ?_
  unfold impl_DoPlain.p
  rw[implPlain_eq p hp]
  simp only[Option.bind_some]
  rw[decide_eq_false h,Bool.not_false,cond_true]
 ·refine lift_eq (k:=0) fun k _=>(spec_DoPlain.raw_eq k _).trans ?_
  unfold spec_DoPlain.p
  rw[specFault_eq p hp]
  simp only[Option.bind_some]
  rw[decide_eq_false h,Bool.not_false,cond_true,badP_eq]
  rfl
theorem do_bad2 {p:Plain} {o:Op} (hp:okP p) (ho:rl o.2.2.1) (h:plainF p=0) (h2:¬ (chkOp p.1 p.2.1 o).1=0):sameDo p o (badPl (chkOp p.1 p.2.1 o).1):=by
 constructor
 ·refine lift_eq (k:=0) fun k _=>(impl_DoPlain.raw_eq k _).trans ?_
  unfold impl_DoPlain.p
  rw[implPlain_eq p hp]
  simp only[Option.bind_some]
  rw[h,decide_eq_true rfl,Bool.not_true,cond_false,implChk_eq _ _ _ hp.1 hp.2.1 hp.2.2 ho]
  simp only[Option.bind_some]
  rw[decide_eq_false h2,Bool.not_false,cond_true]
 ·refine lift_eq (k:=0) fun k _=>(spec_DoPlain.raw_eq k _).trans ?_
  unfold spec_DoPlain.p
  rw[specFault_eq p hp]
  simp only[Option.bind_some]
  rw[h,decide_eq_true rfl,Bool.not_true,cond_false,specChk_eq _ _ _ hp.1 hp.2.1 hp.2.2 ho]
  simp only[Option.bind_some]
  rw[decide_eq_false h2,Bool.not_false,cond_true,badP_eq]
  rfl
theorem do_ok {p:Plain} {o:Op} {R:PlainResult} (hp:okP p) (ho:rl o.2.2.1) (h:plainF p=0) (h2:(chkOp p.1 p.2.1 o).1=0)
  (hi:(bif decide (o.1=(1:Int)) then (bif decide (p.2.2.1=(100:Int)) then (some (badPl 9,()):Option impl_DoPlain.Out) else if List.length p.2.1+[(p.2.2.1,([]:List Change),([]:List Int),([]:List Key),())].length<=CAP then (let y5:=p.2.1++[(p.2.2.1,([]:List Change),([]:List Int),([]:List Key),())];some (((0:Int),p.2.2.1,(p.1,y5,w64 (p.2.2.1+(1:Int)),()),()),())) else none) else bif (chkOp p.1 p.2.1 o).2.1 then ((impl_Plain_turn_v.sem ((p.1,p.2.1,p.2.2.1,()),[(chkOp p.1 p.2.1 o).2.2.1],())).bind fun r6=>bif !decide (r6.1=(0:Int)) then (some (badPl r6.1,())) else (impl_NoteChange.sem (p.2.1,o.2.1,(chkOp p.1 p.2.1 o).2.2.1,())).bind fun r7=>bif !decide (r7.1.1=(0:Int)) then (some (badPl r7.1.1,())) else some (((0:Int),(0:Int),(r6.2.1.1,r7.1.2.1,r6.2.1.2.2),()),())) else bif decide (o.1=(5:Int)) then ((impl_marked.sem (p.2.1,o.2.1,())).bind fun r8=>some (((0:Int),r8.2.1,(p.1,r8.1,p.2.2.1,()),()),())) else bif decide (o.1=(6:Int)) then ((impl_cut.sem (p.2.1,o,())).bind fun r9=>(impl_Plain_turn_v.sem ((p.1,p.2.1,p.2.2.1,()),r9.2.1,())).bind fun r10=>bif !decide (r10.1=(0:Int)) then (some (badPl r10.1,())) else some (((0:Int),(0:Int),(r10.2.1.1,r9.1,r10.2.1.2.2),()),())) else bif decide (o.1=(8:Int)) then ((impl_cut.sem (p.2.1,o,())).bind fun r11=>(impl_Plain_turn_v.sem ((p.1,p.2.1,p.2.2.1,()),r11.2.1,())).bind fun r12=>bif !decide (r12.1=(0:Int)) then (some (badPl r12.1,())) else some (((0:Int),(0:Int),(r12.2.1.1,r11.1,r12.2.1.2.2),()),())) else bif decide (o.1=(7:Int)) then ((impl_cut.sem (p.2.1,o,())).bind fun r13=>some (((0:Int),(0:Int),(p.1,r13.1,p.2.2.1,()),()),())) else some (((0:Int),(0:Int),(p.1,p.2.1,p.2.2.1,()),()),()))=some (R,()))
  (hs:spec_l11Do.sem (p,o,chkOp p.1 p.2.1 o,())=some (R,())):sameDo p o R:=by
 constructor
 ·refine lift_eq (k:=0) fun k _=>(impl_DoPlain.raw_eq k _).trans ?_
  unfold impl_DoPlain.p
  rw[implPlain_eq p hp]
  simp only[Option.bind_some]
  rw[h,decide_eq_true rfl,Bool.not_true,cond_false,implChk_eq _ _ _ hp.1 hp.2.1 hp.2.2 ho]
  simp only[Option.bind_some]
  rw[h2,decide_eq_true rfl,Bool.not_true,cond_false,ownP_eq hp.1 hp.2.2]
  exact hi
 ·refine lift_eq (k:=0) fun k _=>(spec_DoPlain.raw_eq k _).trans ?_
  unfold spec_DoPlain.p
  rw[specFault_eq p hp]
  simp only[Option.bind_some]
  rw[h,decide_eq_true rfl,Bool.not_true,cond_false,specChk_eq _ _ _ hp.1 hp.2.1 hp.2.2 ho]
  simp only[Option.bind_some]
  rw[h2,decide_eq_true rfl,Bool.not_true,cond_false,hs]
  rfl
end OT
set_option linter.unusedVariables false
set_option linter.unusedSimpArgs false
set_option linter.unusedSectionVars false
namespace OT
open Go
theorem chk_at {p:Plain} {o:Op} (P:PlainOk p) (h2:(chkOp p.1 p.2.1 o).1=0):opF o=0/\inB o.1 1 9=true/\chkOp p.1 p.2.1 o=chkF p.1 p.2.1 o:=by
 have hr:rowsF p.1=0:=good_rowsF P.good (by have:=P.len;omega)
 unfold chkOp at h2 ⊢
 rw[if_pos hr,if_pos P.txs] at h2 ⊢
 by_cases ho:opF o=0
 rotate_left
 ·rw[if_neg ho] at h2;exact absurd h2 ho
 rw[if_pos ho]
 refine ⟨ho,?_,rfl⟩
 unfold opF at ho
 split at ho
 ·cases ho
 ·rename_i hn
  simp only[Bool.or_eq_true,not_or,Bool.not_eq_true',Bool.not_eq_false] at hn
  simpa using hn.1.1.1.1
section
variable {p:Plain} {o:Op} (hp:okP p) (ho:rl o.2.2.1) (h:plainF p=0) (h2:(chkOp p.1 p.2.1 o).1=0)
include hp ho h h2
theorem do_begin (hk:o.1=1):∃ R,sameDo p o R/\(R=badPl 9\/∃ n m:Int,R=((0:Int),n,(p.1,p.2.1++[(n,([]:List Change),([]:List Int),([]:List Key),())],m,()),())):=by
 have P:=plain_facts h
 have hn:=P.next
 unfold inB at hn
 simp only[Bool.and_eq_true,decide_eq_true_eq] at hn
 have hch:=chk_at P h2
 have hturn:(chkOp p.1 p.2.1 o).2.1=false:=by
  rw[hch.2.2]
  unfold chkF
  rw[if_pos hk]
  split <;> rfl
 have hl:=hp.2.2.1
 have hcap:List.length p.2.1+[(p.2.2.1,([]:List Change),([]:List Int),([]:List Key),())].length<=CAP:=cap_ok (by simp only[List.length_cons,List.length_nil];omega)
 by_cases h100:p.2.2.1=100
 ·refine ⟨badPl 9,do_ok hp ho h h2 ?_ ?_,.inl rfl⟩
  ·rw[decide_eq_true hk,cond_true,decide_eq_true h100,cond_true]
  ·refine lift_eq (k:=0) fun k _=>(spec_l11Do.raw_eq k _).trans ?_
   unfold spec_l11Do.p
   rw[copyP_eq hp.1 hp.2.2]
   simp only[Option.bind_some]
   rw[specTxAt_eq _ _ hl]
   simp only[Option.bind_some]
   have:(100:Int)<=p.2.2.1:=by omega
   rw[decide_eq_true hk,cond_true,decide_eq_true this,cond_true,badP_eq]
   rfl
 ·have hw:w64 (p.2.2.1+1)=p.2.2.1+1:=w64_in (by omega)
  refine ⟨((0:Int),p.2.2.1,(p.1,p.2.1++[(p.2.2.1,([]:List Change),([]:List Int),([]:List Key),())],p.2.2.1+1,()),()),do_ok hp ho h h2 ?_ ?_,.inr ⟨_,_,rfl⟩⟩
  ·rw[decide_eq_true hk,cond_true,decide_eq_false h100,cond_false,if_pos hcap,hw]
  ·refine lift_eq (k:=0) fun k _=>(spec_l11Do.raw_eq k _).trans ?_
   unfold spec_l11Do.p
   rw[copyP_eq hp.1 hp.2.2]
   simp only[Option.bind_some]
   rw[specTxAt_eq _ _ hl]
   simp only[Option.bind_some]
   have:¬ (100:Int)<=p.2.2.1:=by omega
   rw[decide_eq_true hk,cond_true,decide_eq_false this,cond_false,if_pos hcap,hturn,cond_false,hw]
theorem do_commit (hk:o.1=7) {j:Nat} (hj:j < List.length p.2.1) (hat:atF p.2.1 o.2.1=(j:Int)):sameDo p o ((0:Int),(0:Int),(p.1,p.2.1.take j++p.2.1.drop (j+1),p.2.2.1,()),()):=by
 have P:=plain_facts h
 have hch:=chk_at P h2
 have hl:=hp.2.2.1
 have n1:¬ o.1=1:=by omega
 have n5:¬ o.1=5:=by omega
 have n6:¬ o.1=6:=by omega
 have n8:¬ o.1=8:=by omega
 have n9:¬ o.1=9:=by omega
 have hturn:(chkOp p.1 p.2.1 o).2.1=false:=by
  rw[hch.2.2]
  unfold chkF
  rw[if_neg n1,if_neg n9,if_neg (by omega),if_neg n5,if_neg n6,if_neg (by unfold onR;rw[hk];decide)]
 refine do_ok hp ho h h2 ?_ ?_
 ·rw[decide_eq_false n1,cond_false,hturn,cond_false,decide_eq_false n5,cond_false,decide_eq_false n6,cond_false,decide_eq_false n8,cond_false,decide_eq_true hk,cond_true,implCutAll_eq hp.2.2 hj hat n6]
  rfl
 ·refine lift_eq (k:=0) fun k _=>(spec_l11Do.raw_eq k _).trans ?_
  unfold spec_l11Do.p
  rw[copyP_eq hp.1 hp.2.2]
  simp only[Option.bind_some]
  rw[specTxAt_eq _ _ hl]
  simp only[Option.bind_some]
  rw[decide_eq_false n1,cond_false,decide_eq_false n5,cond_false,decide_eq_false n6,cond_false,decide_eq_true hk,cond_true,hat,specGone_eq hl hj]
  simp only[Option.bind_some]
  rw[hturn,cond_false]
theorem do_abort (hk:o.1=8) {j:Nat} (hj:j < List.length p.2.1) (hat:atF p.2.1 o.2.1=(j:Int)):∃ t,Good t/\t.length<=24/\sameDo p o ((0:Int),(0:Int),(t,p.2.1.take j++p.2.1.drop (j+1),p.2.2.1,()),()):=by
 have P:=plain_facts h
 have hch:=chk_at P h2
 have hl:=hp.2.2.1
 have n1:¬ o.1=1:=by omega
 have n5:¬ o.1=5:=by omega
 have n6:¬ o.1=6:=by omega
 have n7:¬ o.1=7:=by omega
 have n9:¬ o.1=9:=by omega
 have hturn:(chkOp p.1 p.2.1 o).2.1=false:=by
  rw[hch.2.2]
  unfold chkF
  rw[if_neg n1,if_neg n9,if_neg (by omega),if_neg n5,if_neg n6,if_neg (by unfold onR;rw[hk];decide)]
 obtain ⟨t,ht⟩:=undo_one P hj
 have T:=txs_ok P.txs
 have hm:p.2.1[j] ∈ (p.2.1:List Tx):=List.getElem_mem hj
 have hu:=T.undo _ hm
 have hc:=inv_ch (T.ch _ hm)
 have hcl:=inv_cl (hp.2.2.2 _ hm).2.2.2
 have hg:=back_good _ _ _ P.good hc ht
 have hil:(invF (p.2.1[j]).2.1).length<=12:=by rw[inv_len];exact hu
 have hPl:=P.len
 refine ⟨t,hg.1,by omega,do_ok hp ho h h2 ?_ ?_⟩
 ·rw[decide_eq_false n1,cond_false,hturn,cond_false,decide_eq_false n5,cond_false,decide_eq_false n6,cond_false,decide_eq_true hk,cond_true,implCutAll_eq hp.2.2 hj hat n6]
  simp only[Option.bind_some]
  rw[turnV_eq (p:=(p.1,p.2.1,p.2.2.1,())) P.good P.len hc hcl hil ht]
  rfl
 ·refine lift_eq (k:=0) fun k _=>(spec_l11Do.raw_eq k _).trans ?_
  unfold spec_l11Do.p
  rw[copyP_eq hp.1 hp.2.2]
  simp only[Option.bind_some]
  rw[specTxAt_eq _ _ hl]
  simp only[Option.bind_some]
  have hin:(0:Int)<=(j:Int)/\(j:Int) < (List.length p.2.1:Int):=by omega
  have hs1:(p.2.1:List Tx).set j p.2.1[j]=p.2.1:=List.set_getElem_self hj
  rw[decide_eq_false n1,cond_false,decide_eq_false n5,cond_false,decide_eq_false n6,cond_false,decide_eq_false n7,cond_false,decide_eq_true hk,cond_true,hat,if_pos hin,Int.toNat_natCast]
  simp only[List.getElem?_eq_getElem hj,Option.bind_some,hs1]
  rw[specUndoL_eq _ _ P.good (T.ch _ hm) (by omega),ht]
  simp only[Option.bind_some]
  rw[specGone_eq hl hj]
  simp only[Option.bind_some]
  rw[hturn,cond_false]
theorem do_mark (hk:o.1=5) {j:Nat} (hj:j < List.length p.2.1) (hat:atF p.2.1 o.2.1=(j:Int)):sameDo p o ((0:Int),(List.length (p.2.1[j]).2.2.1:Int),(p.1,p.2.1.set j (markX p.2.1[j]),p.2.2.1,()),()):=by
 have P:=plain_facts h
 have hch:=chk_at P h2
 have hl:=hp.2.2.1
 have n1:¬ o.1=1:=by omega
 have n9:¬ o.1=9:=by omega
 have hF:=h2
 rw[hch.2.2] at hF
 have hturn:(chkOp p.1 p.2.1 o).2.1=false:=by
  rw[hch.2.2]
  unfold chkF
  rw[if_neg n1,if_neg n9,if_neg (by omega),if_pos hk]
  split <;> rfl
 have hm8:List.length (p.2.1[j]).2.2.1<=8:=by
  unfold chkF at hF
  rw[if_neg n1,if_neg n9,if_neg (by omega),if_pos hk] at hF
  split at hF
  ·cases hF
  ·rename_i hn
   unfold marksN at hn
   rw[hat,Int.toNat_natCast,List.getElem?_eq_getElem hj] at hn
   simp only[decide_eq_true_eq] at hn
   omega
 refine do_ok hp ho h h2 ?_ ?_
 ·rw[decide_eq_false n1,cond_false,hturn,cond_false,decide_eq_true hk,cond_true,implMarked_eq hp.2.2 hj hat hm8]
  rfl
 ·refine lift_eq (k:=0) fun k _=>(spec_l11Do.raw_eq k _).trans ?_
  unfold spec_l11Do.p
  rw[copyP_eq hp.1 hp.2.2]
  simp only[Option.bind_some]
  rw[specTxAt_eq _ _ hl]
  simp only[Option.bind_some]
  have hin:(0:Int)<=(j:Int)/\(j:Int) < (List.length p.2.1:Int):=by omega
  have hs1:(p.2.1:List Tx).set j p.2.1[j]=p.2.1:=List.set_getElem_self hj
  have c1:List.length (p.2.1[j]).2.2.1+[(List.length (p.2.1[j]).2.1:Int)].length<=CAP:=cap_ok (by simp only[List.length_cons,List.length_nil];omega)
  rw[decide_eq_false n1,cond_false,decide_eq_true hk,cond_true,hat]
  simp only[hin,and_self,if_true,Int.toNat_natCast,List.getElem?_eq_getElem hj,Option.bind_some,hs1]
  rw[if_pos c1]
  rw[hturn,cond_false]
  rfl
end
end OT
set_option linter.unusedVariables false
set_option linter.unusedSimpArgs false
set_option linter.unusedSectionVars false
namespace OT
open Go
theorem marks_in {n:Int}:∀ (ms:List Int) (i:Nat) (last:Int),0<=last->forI (fun _ last m=>if inB m last n then .inr m else .inl false) (fun _=>true) i ms last=true->∀ m ∈ ms,0<=m/\m<=n
 | [],_,_,_,_,_,h=>by cases h
 | x::ms,i,last,h0,h,m,hm=>by
  simp only[forI] at h
  by_cases hx:inB x last n=true
  ·rw[if_pos hx] at h
   unfold inB at hx
   simp only[Bool.and_eq_true,decide_eq_true_eq] at hx
   rcases List.mem_cons.1 hm with h1 | h1
   ·rw[h1];omega
   ·exact marks_in ms (i+1) x (by omega) h m h1
  ·rw[if_neg hx] at h
   cases h
theorem tx_marks {x:Tx} (h:txF x=0):∀ m ∈ (x.2.2.1:List Int),0<=m/\m<=(List.length x.2.1:Int):=by
 unfold txF at h
 split at h
 ·unfold marksF at h
  split at h
  ·cases h
  ·split at h
   ·rename_i hm
    exact marks_in _ 0 0 (Int.le_refl 0) hm
   ·cases h
 ·rename_i hn;exact absurd h hn
section
variable {p:Plain} {o:Op} (hp:okP p) (ho:rl o.2.2.1) (h:plainF p=0) (h2:(chkOp p.1 p.2.1 o).1=0)
include hp ho h h2
theorem do_back (hk:o.1=6) {j:Nat} (hj:j < List.length p.2.1) (hat:atF p.2.1 o.2.1=(j:Int)):∃ (t:List Row) (n m:Nat),Good t/\t.length<=24/\sameDo p o ((0:Int),(0:Int),(t,p.2.1.set j (cutX p.2.1[j] n m),p.2.2.1,()),()):=by
 have P:=plain_facts h
 have hch:=chk_at P h2
 have hl:=hp.2.2.1
 have n1:¬ o.1=1:=by omega
 have n5:¬ o.1=5:=by omega
 have n9:¬ o.1=9:=by omega
 have hF:=h2
 rw[hch.2.2] at hF
 have hturn:(chkOp p.1 p.2.1 o).2.1=false:=by
  rw[hch.2.2]
  unfold chkF
  rw[if_neg n1,if_neg n9,if_neg (by omega),if_neg n5,if_pos hk]
  split <;> rfl
 have hmk:o.2.2.2.1 < (List.length (p.2.1[j]).2.2.1:Int):=by
  unfold chkF at hF
  rw[if_neg n1,if_neg n9,if_neg (by omega),if_neg n5,if_pos hk] at hF
  split at hF
  ·cases hF
  ·rename_i hn
   unfold marksN at hn
   rw[hat,Int.toNat_natCast,List.getElem?_eq_getElem hj] at hn
   simp only[decide_eq_true_eq] at hn
   omega
 have hm0:0<=o.2.2.2.1:=by
  have:=hch.1
  unfold opF at this
  split at this
  ·cases this
  ·split at this
   ·cases this
   ·rename_i hn
    simp only[Bool.or_eq_true,not_or,Bool.not_eq_true',Bool.not_eq_false] at hn
    have h3:=hn.2
    unfold inB at h3
    simp only[Bool.and_eq_true,decide_eq_true_eq] at h3
    exact h3.1
 have T:=txs_ok P.txs
 have hm:p.2.1[j] ∈ (p.2.1:List Tx):=List.getElem_mem hj
 obtain ⟨m,hme⟩:∃ m:Nat,o.2.2.2.1=(m:Int):=⟨o.2.2.2.1.toNat,by omega⟩
 have hml:m < List.length (p.2.1[j]).2.2.1:=by omega
 have hmm:=tx_marks (tx_each P.txs _ hm).2 _ (List.getElem_mem hml)
 obtain ⟨n,hne⟩:∃ n:Nat,(p.2.1[j]).2.2.1[m]=(n:Int):=⟨((p.2.1[j]).2.2.1[m]).toNat,by omega⟩
 have hn:(p.2.1[j]).2.2.1[m]?=some (n:Int):=by rw[List.getElem?_eq_getElem hml,hne]
 have hnl:n<=List.length (p.2.1[j]).2.1:=by omega
 obtain ⟨t0,ht0⟩:=undo_one P hj
 obtain ⟨t,ht⟩:=part_undo ht0 n
 have hu:=T.undo _ hm
 have hcd:∀ c ∈ (p.2.1[j]).2.1.drop n,chF c=0:=fun c hc=>T.ch _ hm c (List.mem_of_mem_drop hc)
 have hc:=inv_ch hcd
 have hcl:=inv_cl (fun c hc=>(hp.2.2.2 _ hm).2.2.2 c (List.mem_of_mem_drop hc:c ∈ (p.2.1[j]).2.1):∀ c ∈ (p.2.1[j]).2.1.drop n,cl c)
 have hg:=back_good _ _ _ P.good hc ht
 have hil:(invF ((p.2.1[j]).2.1.drop n)).length<=12:=by rw[inv_len,List.length_drop];omega
 have hPl:=P.len
 refine ⟨t,n,m,hg.1,by omega,do_ok hp ho h h2 ?_ ?_⟩
 ·rw[decide_eq_false n1,cond_false,hturn,cond_false,decide_eq_false n5,cond_false,decide_eq_true hk,cond_true,implCutBack_eq hp.2.2 hj hat hk hme hml hn hnl]
  simp only[Option.bind_some]
  rw[turnV_eq (p:=(p.1,p.2.1,p.2.2.1,())) P.good P.len hc hcl hil ht]
  rfl
 ·refine lift_eq (k:=0) fun k _=>(spec_l11Do.raw_eq k _).trans ?_
  unfold spec_l11Do.p
  rw[copyP_eq hp.1 hp.2.2]
  simp only[Option.bind_some]
  rw[specTxAt_eq _ _ hl]
  simp only[Option.bind_some]
  have hin:(0:Int)<=(j:Int)/\(j:Int) < (List.length p.2.1:Int):=by omega
  have hs1:(p.2.1:List Tx).set j p.2.1[j]=p.2.1:=List.set_getElem_self hj
  rw[decide_eq_false n1,cond_false,decide_eq_false n5,cond_false,decide_eq_true hk,cond_true,hat,if_pos hin,Int.toNat_natCast]
  simp only[List.getElem?_eq_getElem hj,Option.bind_some,hs1]
  rw[hme,specCut_eq (hp.2.2.2 _ hm) hml hn hnl]
  simp only[Option.bind_some]
  rw[specUndoL_eq _ _ P.good hcd (by rw[List.length_drop];omega),ht]
  simp only[Option.bind_some]
  rw[hturn,cond_false]
theorem do_none (n1:¬ o.1=1) (n5:¬ o.1=5) (n6:¬ o.1=6) (n7:¬ o.1=7) (n8:¬ o.1=8) (hturn:(chkOp p.1 p.2.1 o).2.1=false):sameDo p o ((0:Int),(0:Int),(p.1,p.2.1,p.2.2.1,()),()):=by
 have hl:=hp.2.2.1
 refine do_ok hp ho h h2 ?_ ?_
 ·rw[decide_eq_false n1,cond_false,hturn,cond_false,decide_eq_false n5,cond_false,decide_eq_false n6,cond_false,decide_eq_false n8,cond_false,decide_eq_false n7,cond_false]
 ·refine lift_eq (k:=0) fun k _=>(spec_l11Do.raw_eq k _).trans ?_
  unfold spec_l11Do.p
  rw[copyP_eq hp.1 hp.2.2]
  simp only[Option.bind_some]
  rw[specTxAt_eq _ _ hl]
  simp only[Option.bind_some]
  rw[decide_eq_false n1,cond_false,decide_eq_false n5,cond_false,decide_eq_false n6,cond_false,decide_eq_false n7,cond_false,decide_eq_false n8,cond_false,hturn,cond_false]
theorem do_turn (hk:onR o.1=true) {j:Nat} (hj:j < List.length p.2.1) (hat:atF p.2.1 o.2.1=(j:Int)) (hjt:(p.2.1[j]).1=o.2.1) (hturn:(chkOp p.1 p.2.1 o).2.1=true):Good (done1 p.1 (wantF p.1 o).1)/\(done1 p.1 (wantF p.1 o).1).length<=24/\sameDo p o ((0:Int),(0:Int),(done1 p.1 (wantF p.1 o).1,noteF p.2.1 j (wantF p.1 o).1,p.2.2.1,()),()):=by
 have P:=plain_facts h
 have hch:=chk_at P h2
 have hl:=hp.2.2.1
 have hkk:o.1=2\/o.1=3\/o.1=4:=by
  unfold onR at hk
  simpa using hk
 have n1:¬ o.1=1:=by omega
 have n5:¬ o.1=5:=by omega
 have n6:¬ o.1=6:=by omega
 have n7:¬ o.1=7:=by omega
 have n8:¬ o.1=8:=by omega
 have n9:¬ o.1=9:=by omega
 have hF:chkF p.1 p.2.1 o=chkRow p.1 p.2.1 o:=by
  unfold chkF
  rw[if_neg n1,if_neg n9,if_neg (by omega),if_neg n5,if_neg n6,if_pos hk]
 have hr0:rowF o.2.2.1=0:=by
  have:=hch.1
  unfold opF at this
  split at this
  ·cases this
  ·split at this
   ·cases this
   ·exact this
 have ht:(chkRow p.1 p.2.1 o).2.1=true:=by rw[<-hF,<- hch.2.2];exact hturn
 obtain ⟨r1,r2,r3,r4,r5,r6⟩:=row_facts ht
 obtain ⟨w1,w2,w3,w4⟩:=want_facts P.good hr0 r2
 have hce:chkOp p.1 p.2.1 o=(0,true,(wantF p.1 o).1,()):=by rw[hch.2.2,hF,r6]
 have hN:=turn_note P hr0 hj hat hjt ht
 have hb:backL p.1 [(wantF p.1 o).1]=some (done1 p.1 (wantF p.1 o).1):=by
  simp only[backL,w3,if_true]
 have hPl:=P.len
 have hdl:=done_len p.1 (wantF p.1 o).1
 have hgd:=good_done P.good w1
 refine ⟨hgd,by omega,do_ok hp ho h h2 ?_ ?_⟩
 ·rw[hce]
  simp only
  rw[decide_eq_false n1,cond_false,cond_true,turnV_eq (p:=(p.1,p.2.1,p.2.2.1,())) P.good P.len (fun c hc=>by rw[List.mem_singleton] at hc;rw[hc];exact w1) (fun c hc=>by rw[List.mem_singleton] at hc;rw[hc];exact w4) (by simp) hb]
  simp only[Option.bind_some]
  rw[implNoteC_eq _ _ _ hp.2.2 w4,hN]
  rfl
 ·refine lift_eq (k:=0) fun k _=>(spec_l11Do.raw_eq k _).trans ?_
  unfold spec_l11Do.p
  rw[copyP_eq hp.1 hp.2.2]
  simp only[Option.bind_some]
  rw[specTxAt_eq _ _ hl,hce]
  simp only[Option.bind_some]
  rw[decide_eq_false n1,cond_false,decide_eq_false n5,cond_false,decide_eq_false n6,cond_false,decide_eq_false n7,cond_false,decide_eq_false n8,cond_false,cond_true,specDo_eq _ _ P.good.1 (by omega) (chF_key w1).1,w3]
  simp only[Option.bind_some,if_true]
  rw[hat,specNote_eq _ _ _ hp.2.2 hj]
  rfl
end
theorem zz_part {e:Ty} (xs:List e.den) (n:Nat):zz (.slc e) (xs.take n)<=zz (.slc e) xs/\zz (.slc e) (xs.drop n)<=zz (.slc e) xs:=by
 have:=zz_append (e:=e) (xs.take n) (xs.drop n)
 rw[List.take_append_drop] at this
 omega
theorem want_small (rows:List Row) (o:Op):zz tChange (wantF rows o).1<=zz (.slc tRow) rows+zz tOp o:=by
 have hc:∀ (a b:Bool) (x y:Row),zz tChange (a,x,b,y,())=zz tRow x+zz tRow y:=fun a b x y=>by
  show 0+(zz tRow x+(0+(zz tRow y+0)))=_
  omega
 have ho:zz tOp o=0+(0+(zz tRow o.2.2.1+(0+0))):=rfl
 have h0:zz tRow noRow=0:=rfl
 unfold wantF
 simp only
 split
 ·exact Nat.zero_le _
 split
 ·exact Nat.zero_le _
 refine Nat.le_trans (Nat.le_of_eq (hc _ _ _ _)) ?_
 have h1:∀ r:Row,(r=noRow\/r ∈ rows)->zz tRow r<=zz (.slc tRow) rows:=fun r hr=>by
  rcases hr with hr | hr
  ·rw[hr];exact Nat.zero_le _
  ·have:zz tRow r+1<=zz (.slc tRow) rows:=zz_mem (e:=tRow) hr
   omega
 refine Nat.add_le_add (h1 _ ?_) ?_
 ·split
  ·cases hg:rows[pos rows (o.2.2.1.1,o.2.2.1.2.1)]? with
   | none=>exact .inl rfl
   | some x=>exact .inr (List.mem_of_getElem? hg)
  ·exact .inl rfl
 ·split
  ·exact Nat.zero_le _
  ·omega
theorem zz_split {e:Ty} (xs:List e.den) (j:Nat) (hj:j < xs.length):zz (.slc e) xs=zz (.slc e) (xs.take j)+(zz e xs[j]+1)+zz (.slc e) (xs.drop (j+1)):=by
 have h1:=zz_append (e:=e) (xs.take j) (xs.drop j)
 rw[List.take_append_drop] at h1
 have h2:=zz_cons (e:=e) xs[j] (xs.drop (j+1))
 rw[<-List.drop_eq_getElem_cons hj] at h2
 omega
theorem zz_setx {e:Ty} (xs:List e.den) (j:Nat) (hj:j < xs.length) (y:e.den):zz (.slc e) (xs.set j y)+zz e xs[j]=zz (.slc e) xs+zz e y:=by
 have h1:=zz_split xs j hj
 have h2:=zz_split (xs.set j y) j (by rw[List.length_set];exact hj)
 rw[List.getElem_set_self,List.take_set_of_le (Nat.le_refl _),List.drop_set_of_lt (Nat.lt_succ_self _)] at h2
 have h3:zz (.slc e) (xs.drop j.succ)=zz (.slc e) (xs.drop (j+1)):=rfl
 omega
theorem zz_gone {e:Ty} (xs:List e.den) (j:Nat) (hj:j < xs.length):zz (.slc e) (xs.take j++xs.drop (j+1))+(zz e xs[j]+1)=zz (.slc e) xs:=by
 have h1:=zz_split xs j hj
 have h2:=zz_append (e:=e) (xs.take j) (xs.drop (j+1))
 omega
theorem do_same {p:Plain} {o:Op} (hp:okP p) (ho:rl o.2.2.1):∃ R,sameDo p o R/\zz tPlainResult R<=zz tPlain p+3000:=by
 have hz0:zz tPlain p=zz (.slc tRow) p.1+(zz (.slc tTx) p.2.1+(0+0)):=rfl
 have hR:∀ (c v n:Int) (rows:List Row) (xs:List Tx),zz tPlainResult (c,v,(rows,xs,n,()),())=zz (.slc tRow) rows+zz (.slc tTx) xs:=fun c v n rows xs=>by
  show 0+(0+((zz (.slc tRow) rows+(zz (.slc tTx) xs+(0+0)))+0))=_
  omega
 have hbad:∀ c:Int,zz tPlainResult (badPl c)<=zz tPlain p+3000:=fun c=>Nat.zero_le _
 by_cases h:plainF p=0
 rotate_left
 ·exact ⟨_,do_bad hp h,hbad _⟩
 by_cases h2:(chkOp p.1 p.2.1 o).1=0
 rotate_left
 ·exact ⟨_,do_bad2 hp ho h h2,hbad _⟩
 have P:=plain_facts h
 obtain ⟨c1,c2,c3⟩:=chk_at P h2
 have hrows:∀ t:List Row,Good t->t.length<=24->zz (.slc tRow) t<=1000:=fun t hg hl=>by
  have:=good_zz (xs:=t) hg.2
  omega
 by_cases k1:o.1=1
 ·obtain ⟨R,hs,hr | ⟨n,m,hr⟩⟩:=do_begin hp ho h h2 k1
  ·exact ⟨R,hs,by rw[hr];exact hbad _⟩
  ·refine ⟨R,hs,?_⟩
   rw[hr]
   refine Nat.le_trans (Nat.le_of_eq (hR _ _ _ _ _)) ?_
   have h1:zz (.slc tTx) (p.2.1++[(n,([]:List Change),([]:List Int),([]:List Key),())])=zz (.slc tTx) p.2.1+1:=zz_append (e:=tTx) p.2.1 [(n,([]:List Change),([]:List Int),([]:List Key),())]
   omega
 by_cases k9:o.1=9
 ·refine ⟨_,do_none hp ho h h2 (by omega) (by omega) (by omega) (by omega) (by omega) ?_,?_⟩
  ·rw[c3]
   unfold chkF
   rw[if_neg k1,if_pos k9]
  ·refine Nat.le_trans (Nat.le_of_eq (hR _ _ _ _ _)) ?_
   omega
 have hF:=h2
 rw[c3] at hF
 have hna:¬ atF p.2.1 o.2.1 < 0:=fun hn=>by
  unfold chkF at hF
  rw[if_neg k1,if_neg k9,if_pos hn] at hF
  cases hF
 obtain ⟨j,hj,hat,hjt⟩:=at_mem hna
 have hzx:zz tTx p.2.1[j]+1<=zz (.slc tTx) p.2.1:=zz_mem (e:=tTx) (List.getElem_mem hj)
 have hgone:zz (.slc tTx) (p.2.1.take j++p.2.1.drop (j+1))+(zz tTx p.2.1[j]+1)=zz (.slc tTx) p.2.1:=zz_gone (e:=tTx) p.2.1 j hj
 have hset:∀ y:Tx,zz (.slc tTx) ((p.2.1:List Tx).set j y)+zz tTx p.2.1[j]=zz (.slc tTx) p.2.1+zz tTx y:=fun y=>zz_setx (e:=tTx) p.2.1 j hj y
 have hrow0:zz (.slc tRow) p.1<=1000:=hrows p.1 P.good (by have:=P.len;omega)
 by_cases k5:o.1=5
 ·refine ⟨_,do_mark hp ho h h2 k5 hj hat,?_⟩
  refine Nat.le_trans (Nat.le_of_eq (hR _ _ _ _ _)) ?_
  have a:=hset (markX p.2.1[j])
  have b:zz tTx (markX p.2.1[j])<=zz tTx p.2.1[j]+10:=by
   have c:zz (.slc i64) ((p.2.1[j]).2.2.1++[(List.length (p.2.1[j]).2.1:Int)])=zz (.slc i64) (p.2.1[j]).2.2.1+1:=zz_append (e:=i64) (p.2.1[j]).2.2.1 [(List.length (p.2.1[j]).2.1:Int)]
   have d:zz tTx (markX p.2.1[j])=0+(zz (.slc tChange) (p.2.1[j]).2.1+(zz (.slc i64) ((p.2.1[j]).2.2.1++[(List.length (p.2.1[j]).2.1:Int)])+(zz (.slc tKey) (p.2.1[j]).2.2.2.1+0))):=rfl
   have e:zz tTx p.2.1[j]=0+(zz (.slc tChange) (p.2.1[j]).2.1+(zz (.slc i64) (p.2.1[j]).2.2.1+(zz (.slc tKey) (p.2.1[j]).2.2.2.1+0))):=rfl
   omega
  omega
 by_cases k6:o.1=6
 ·obtain ⟨t,n,m,hg,hl,hs⟩:=do_back hp ho h h2 k6 hj hat
  refine ⟨_,hs,?_⟩
  refine Nat.le_trans (Nat.le_of_eq (hR _ _ _ _ _)) ?_
  have:=hrows t hg hl
  have a:=hset (cutX p.2.1[j] n m)
  have b:zz tTx (cutX p.2.1[j] n m)<=zz tTx p.2.1[j]:=by
   have c:zz (.slc tChange) ((p.2.1[j]).2.1.take n)<=zz (.slc tChange) (p.2.1[j]).2.1:=(zz_part (e:=tChange) (p.2.1[j]).2.1 n).1
   have c':zz (.slc i64) ((p.2.1[j]).2.2.1.take (m+1))<=zz (.slc i64) (p.2.1[j]).2.2.1:=(zz_part (e:=i64) (p.2.1[j]).2.2.1 (m+1)).1
   have d:zz tTx (cutX p.2.1[j] n m)=0+(zz (.slc tChange) ((p.2.1[j]).2.1.take n)+(zz (.slc i64) ((p.2.1[j]).2.2.1.take (m+1))+(zz (.slc tKey) (p.2.1[j]).2.2.2.1+0))):=rfl
   have e:zz tTx p.2.1[j]=0+(zz (.slc tChange) (p.2.1[j]).2.1+(zz (.slc i64) (p.2.1[j]).2.2.1+(zz (.slc tKey) (p.2.1[j]).2.2.2.1+0))):=rfl
   omega
  omega
 by_cases k7:o.1=7
 ·refine ⟨_,do_commit hp ho h h2 k7 hj hat,?_⟩
  refine Nat.le_trans (Nat.le_of_eq (hR _ _ _ _ _)) ?_
  omega
 by_cases k8:o.1=8
 ·obtain ⟨t,hg,hl,hs⟩:=do_abort hp ho h h2 k8 hj hat
  refine ⟨_,hs,?_⟩
  refine Nat.le_trans (Nat.le_of_eq (hR _ _ _ _ _)) ?_
  have:=hrows t hg hl
  omega
 have hon:onR o.1=true:=by
  unfold inB at c2
  simp only[Bool.and_eq_true,decide_eq_true_eq] at c2
  have:o.1=2\/o.1=3\/o.1=4:=by omega
  unfold onR
  simpa using this
 cases ht:(chkOp p.1 p.2.1 o).2.1 with
 | false=>
  refine ⟨_,do_none hp ho h h2 k1 k5 k6 k7 k8 ht,?_⟩
  refine Nat.le_trans (Nat.le_of_eq (hR _ _ _ _ _)) ?_
  omega
 | true=>
  obtain ⟨hg,hl,hs⟩:=do_turn hp ho h h2 hon hj hat hjt ht
  refine ⟨_,hs,?_⟩
  refine Nat.le_trans (Nat.le_of_eq (hR _ _ _ _ _)) ?_
  have:=hrows _ hg hl
  unfold noteF
  rw[List.getElem?_eq_getElem hj]
  simp only
  have a:=hset (noteX p.2.1[j] (wantF p.1 o).1)
  have b:zz tTx (noteX p.2.1[j] (wantF p.1 o).1)<=zz tTx p.2.1[j]+1020:=by
   have hw:=want_small p.1 o
   have hop:zz tOp o<=8:=by
    have h1:rowF o.2.2.1=0:=by
     have:=c1
     unfold opF at this
     split at this
     ·cases this
     ·split at this
      ·cases this
      ·simpa [hon] using this
    have h2:=rowF_text h1
    have h3:zz tOp o=0+(0+((0+(0+(0+(List.length o.2.2.1.2.2.2.1+0))))+(0+0))):=rfl
    omega
   have c:zz (.slc tChange) ((p.2.1[j]).2.1++[(wantF p.1 o).1])=zz (.slc tChange) (p.2.1[j]).2.1+zz (.slc tChange) [(wantF p.1 o).1]:=zz_append (e:=tChange) _ _
   have c2:zz (.slc tChange) [(wantF p.1 o).1]=1+(zz tChange (wantF p.1 o).1+0):=rfl
   have d:zz tTx (noteX p.2.1[j] (wantF p.1 o).1)=0+(zz (.slc tChange) ((p.2.1[j]).2.1++[(wantF p.1 o).1])+(zz (.slc i64) (p.2.1[j]).2.2.1+(zz (.slc tKey) (if hasK (p.2.1[j]).2.2.2.1 (keyOfC (wantF p.1 o).1) then (p.2.1[j]).2.2.2.1 else (p.2.1[j]).2.2.2.1++[keyOfC (wantF p.1 o).1])+0))):=rfl
   have e:zz tTx p.2.1[j]=0+(zz (.slc tChange) (p.2.1[j]).2.1+(zz (.slc i64) (p.2.1[j]).2.2.1+(zz (.slc tKey) (p.2.1[j]).2.2.2.1+0))):=rfl
   have f0:∀ (b:Bool) (L:List Key) (q:Key),zz (.slc tKey) (if b=true then L else L++[q])<=zz (.slc tKey) L+1:=fun b L q=>by
    cases b
    ·exact Nat.le_of_eq (zz_append (e:=tKey) L [q])
    ·exact Nat.le_succ _
   have f:=f0 (hasK (p.2.1[j]).2.2.2.1 (keyOfC (wantF p.1 o).1)) (p.2.1[j]).2.2.2.1 (keyOfC (wantF p.1 o).1)
   omega
  omega
end OT
set_option linter.unusedVariables false
set_option linter.unusedSimpArgs false
set_option linter.unusedSectionVars false
namespace OT
open Go
theorem doPlain_true (v:laws_FnExactDoPlain.Arg) (hv:okA laws_FnExactDoPlain.ps v):laws_FnExactDoPlain.sem v=some (true,()):=by
 obtain ⟨p,o,⟨⟩⟩:=v
 obtain ⟨hv_p,hv_o,_⟩:=hv
 refine lift_eq (k:=0) fun k _=>(laws_FnExactDoPlain.raw_eq k _).trans ?_
 show laws_FnExactDoPlain.p _=_
 unfold laws_FnExactDoPlain.p
 simp only[szPlain_eq p 1048576 hv_p (show (0:Int)<=1048576 by omega) (by omega),Option.bind_some]
 by_cases hz1:((zz tPlain p:Nat):Int)<=1048576
 rotate_left
 ·have:lft (1048576) (zz tPlain p)=-1:=if_neg hz1
  simp only[this]
  rfl
 have e1:lft (1048576) (zz tPlain p)=1048576 - ((zz tPlain p:Nat):Int):=if_pos hz1
 have n1:¬ (1048576 - ((zz tPlain p:Nat):Int) < 0):=by omega
 simp only[e1,n1,decide_false,cond_false,szOp_eq o _ hv_o (show (0:Int)<=1048576 - ((zz tPlain p:Nat):Int) by omega) (by omega),Option.bind_some]
 by_cases hz2:((zz tOp o:Nat):Int)<=1048576 - ((zz tPlain p:Nat):Int)
 rotate_left
 ·have:lft (1048576 - ((zz tPlain p:Nat):Int)) (zz tOp o)=-1:=if_neg hz2
  simp only[this]
  rfl
 have e2:lft (1048576 - ((zz tPlain p:Nat):Int)) (zz tOp o)=1048576 - ((zz tPlain p:Nat):Int) - ((zz tOp o:Nat):Int):=if_pos hz2
 have n2:¬ (1048576 - ((zz tPlain p:Nat):Int) - ((zz tOp o:Nat):Int) < 0):=by omega
 have h1:okP p:=plain_ok (p:=p) hv_p (by omega)
 have h2:rl o.2.2.1:=rl_ok hv_o.2.2.1
 obtain ⟨R,⟨i1,i2⟩,hR⟩:=do_same h1 h2
 have hB:BIG=4611686018427387904:=rfl
 obtain ⟨k',y,a1,a2,a3,a4⟩:=mhPlainResult (R) 1 (by omega) (by omega)
 obtain ⟨l1,w1,b1,c1,d1⟩:=mkPlain p 1 (by omega) (by omega)
 simp only[e2,n2,decide_false,cond_false,toPlain_eq p (by omega),toOp_eq o (by omega),i2,i1,eqPlainResult_self (R) (by omega),a1,a2,show ¬ k' < 0 by omega,eqPlain_self p (by omega),b1,show ¬ l1 < 0 by omega,Option.bind_some,Bool.not_true,decide_true,cond_true]
end OT
