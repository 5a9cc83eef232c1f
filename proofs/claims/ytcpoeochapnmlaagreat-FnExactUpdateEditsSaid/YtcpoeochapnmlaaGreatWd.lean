/- The proof's parts, merged: Loops that measure, mark and look at marks, in plain Lean.. No conditions but those that each states. -/
import Derived.Test.YtcpoeochapnmlaaGreatWc
import Derived.Shelf.SlSortCmp.NoneTotal
import Derived.Test.YtcpoeochapnmlaaGreatProg
import Derived.KernelRfl
set_option linter.unusedVariables false
set_option linter.unusedSimpArgs false
namespace OT
open Go
def sumW {α:Type} (f:α->Nat):List α->Nat
 | []=>0
 | x::xs=>f x+sumW f xs
theorem sumW_mem {α:Type} (f:α->Nat):∀ (xs:List α) (x:α),x ∈ xs->f x<=sumW f xs
 | y::xs,x,h=>by
  simp only[sumW]
  rcases List.mem_cons.1 h with rfl | h
  ·omega
  ·have:=sumW_mem f xs x h;omega
 | [],_,h=>by cases h
theorem sumW_zero {α:Type} (f:α->Nat) (h:∀ x,f x=0):∀ (xs:List α),sumW f xs=0
 | []=>rfl
 | x::xs=>by simp[sumW,h x,sumW_zero f h xs]
theorem sumW_32 {α:Type} (f:α->Nat):∀ (xs:List α),sumW (fun x=>32*(f x+1)) xs=32*(xs.length+sumW f xs)
 | []=>rfl
 | x::xs=>by simp only[sumW,sumW_32 f xs,List.length_cons];omega
def zz:(t:Ty)->t.den->Nat
 | .str,v=>List.length v
 | .pair a b,v=>zz a v.1+zz b v.2
 | .slc e,v=>List.length v+sumW (zz e) v
 | _,_=>0
theorem zz_mem {e:Ty} {xs:List e.den} {x:e.den} (h:x ∈ xs):zz e x+1<=zz (.slc e) xs:=by
 have:=sumW_mem (zz e) xs x h
 have:1<=xs.length:=List.length_pos_of_mem h
 show _<=List.length xs+_
 omega
theorem zz_len {e:Ty} (xs:List e.den):xs.length<=zz (.slc e) xs:=Nat.le_add_right _ _
theorem zz_cons {e:Ty} (x:e.den) (xs:List e.den):zz (.slc e) (x::xs)=zz e x+1+zz (.slc e) xs:=by
 show (List.length xs+1)+(zz e x+sumW (zz e) xs)=zz e x+1+(List.length xs+sumW (zz e) xs)
 omega
def lft (n:Int) (z:Nat):Int:=if (z:Int)<=n then n - z else -1
theorem sz_loop {α:Type} {B:((Int×Int)->Option (Int×Unit))->(Int×Int)->Option (Int×Unit)} {xs:List α} (hmax:xs.length<=maxLen) (z:α->Nat)
  (hin:∀ (i:Nat) (hx:i < xs.length) (n:Int) self,0<=n->n<=1048576->B self (n,(i:Int))=if lft n (z xs[i]) < 0 then some (-1,()) else self (lft n (z xs[i]),w64 ((i:Int)+1)))
  (hout:∀ n self,B self (n,(xs.length:Int))=some (n,())) (n:Int) (h0:0<=n) (h1:n<=1048576) :
  ∀ k,xs.length < k->rawIter B k (n,0)=some (lft n (sumW z xs),()):=by
 have main:∀ (m i:Nat) (n:Int),xs.length - i=m->i<=xs.length->0<=n->n<=1048576->∀ k,m < k->rawIter B k (n,(i:Int))=some (lft n (sumW z (xs.drop i)),()):=by
  intro m
  induction m with
  | zero=>
   intro i n hm hi h0 h1 k hk
   have hi':i=xs.length:=by omega
   subst hi'
   cases k with
   | zero=>omega
   | succ k=>
    have:rawIter B (k+1) (n,(xs.length:Int))=some (n,()):=hout n _
    rw[this]
    simp[lft,sumW,h0]
  | succ m ih=>
   intro i n hm hi h0 h1 k hk
   have hlt:i < xs.length:=by omega
   rw[List.drop_eq_getElem_cons hlt]
   simp only[sumW]
   cases k with
   | zero=>omega
   | succ k=>
    show B (rawIter B k) _=_
    rw[hin i hlt n _ h0 h1]
    by_cases hz:(z xs[i]:Int)<=n
    ·have e:lft n (z xs[i])=n - (z xs[i]:Int):=if_pos hz
     have hneg:¬ (n - (z xs[i]:Int) < 0):=by omega
     have hw:w64 ((i:Int)+1)=((i+1:Nat):Int):=by rw[w64_in (by rw[maxLen_val] at hmax;omega)];omega
     rw[e,if_neg hneg,hw,ih (i+1) _ (by omega) (by omega) (by omega) (by omega) k (by omega)]
     unfold lft
     by_cases hc:((sumW z (xs.drop (i+1)):Nat):Int)<=n - (z xs[i]:Int)
     ·rw[if_pos hc,if_pos (by omega)]
      have:n - (z xs[i]:Int) - (sumW z (xs.drop (i+1)):Nat)=n - ((z xs[i]+sumW z (xs.drop (i+1)):Nat):Int):=by omega
      rw[this]
     ·rw[if_neg hc,if_neg (by omega)]
    ·have e:lft n (z xs[i])=-1:=if_neg hz
     rw[e,if_pos (by omega)]
     unfold lft
     rw[if_neg (by omega)]
 intro k hk
 simpa using main xs.length 0 n (by omega) (by omega) h0 h1 k hk
theorem lft_add {n:Int} {a b:Nat} (h:(a:Int)<=n):lft (n - a) b=lft n (a+b):=by
 unfold lft
 by_cases hc:(b:Int)<=n - a
 ·rw[if_pos hc,if_pos (by omega)];omega
 ·rw[if_neg hc,if_neg (by omega)]
theorem get_self_set {α:Type} (xs:List α) (i:Nat) (a:α) (h:i < xs.length):(xs.set i a)[i]?=some a:=by simp[h]
def BIG:Int:=4611686018427387904
def chain {α:Type} (E:α->Int->α->Int->Prop) (W:α->Nat):List α->Int->List α->Int->Prop
 | [],k,ys,k'=>ys=[]/\k'=k
 | x::xs,k,ys,k'=>∃ y ys' k1,ys=y::ys'/\0<=k/\k+W x<=BIG/\k<=k1/\k1<=k+W x/\E x k y k1/\chain E W xs k1 ys' k'
theorem mark_loop {α:Type} {B:((List α×Int×Int)->Option (Int×List α×Unit))->(List α×Int×Int)->Option (Int×List α×Unit)} {xs:List α} (hmax:xs.length<=maxLen) (E:α->Int->α->Int->Prop) (W:α->Nat)
  (hE:∀ x ∈ xs,∀ k:Int,0<=k->k+W x<=BIG->∃ y k',k<=k'/\k'<=k+W x/\E x k y k')
  (hin:∀ (i:Nat) (acc:List α) (k:Int) self (x y:α) (k':Int),i < acc.length->acc[i]?=some x->0<=k->k+W x<=BIG->k<=k'->k'<=k+W x->E x k y k'->B self (acc,k,(i:Int))=self (acc.set i y,k',w64 ((i:Int)+1)))
  (hout:∀ (acc:List α) (k:Int) self,B self (acc,k,(acc.length:Int))=some (k,acc,())) (k:Int) (h0:0<=k) (h1:k+sumW W xs<=BIG) :
  ∃ ys k',k<=k'/\k'<=k+sumW W xs/\ys.length=xs.length/\chain E W xs k ys k'/\∀ f,xs.length < f->rawIter B f (xs,k,0)=some (k',ys,()):=by
 have main:∀ (rest pre:List α) (k:Int),(pre++rest).length<=maxLen->(∀ x ∈ rest,x ∈ xs)->0<=k->k+sumW W rest<=BIG ->
   ∃ ys k',k<=k'/\k'<=k+sumW W rest/\ys.length=rest.length/\chain E W rest k ys k'/\∀ f,rest.length < f->rawIter B f (pre++rest,k,(pre.length:Int))=some (k',pre++ys,()):=by
  intro rest
  induction rest with
  | nil=>
   intro pre k hm _ h0 h1
   refine ⟨[],k,Int.le_refl _,by simp[sumW],rfl,⟨rfl,rfl⟩,fun f hf=>?_⟩
   cases f with
   | zero=>simp at hf
   | succ f=>
    simp only[List.append_nil]
    exact hout pre k _
  | cons x rest ih=>
   intro pre k hm hx h0 h1
   simp only[sumW] at h1
   obtain ⟨y,k1,g1,g2,g3⟩:=hE x (hx x List.mem_cons_self) k h0 (by omega)
   obtain ⟨ys,k',i1,i2,i3,i4,i5⟩:=ih (pre++[y]) k1 (by simpa using hm) (fun z hz=>hx z (List.mem_cons_of_mem _ hz)) (by omega) (by omega)
   refine ⟨y::ys,k',by omega,by simp only[sumW];omega,by simp[i3],⟨y,ys,k1,rfl,h0,by omega,g1,g2,g3,i4⟩,fun f hf=>?_⟩
   cases f with
   | zero=>omega
   | succ f=>
    show B (rawIter B f) _=_
    have hlen:pre.length < (pre++x::rest).length:=by simp
    rw[hin pre.length (pre++x::rest) k _ x y k1 hlen (by simp) h0 (by omega) g1 g2 g3]
    have hw:w64 ((pre.length:Int)+1)=(((pre++[y]).length:Nat):Int):=by
     have:pre.length+1<=maxLen:=by have:=hm;simp at this;omega
     rw[maxLen_val] at this
     rw[w64_in (by omega)];simp
    have hs:(pre++x::rest).set pre.length y=(pre++[y])++rest:=by simp
    rw[hw,hs,i5 f (by simp only[List.length_cons] at hf;omega)]
    simp
 obtain ⟨ys,k',i1,i2,i3,i4,i5⟩:=main xs [] k (by simpa using hmax) (fun x h=>h) h0 h1
 exact ⟨ys,k',i1,i2,i3,i4,fun f hf=>by simpa using i5 f hf⟩
theorem held_loop {α:Type} {ys:List α} {B:((Int×Int)->Option (Int×Unit))->(Int×Int)->Option (Int×Unit)} {xs:List α} {k k':Int} (hmax:ys.length<=maxLen) {E:α->Int->α->Int->Prop} {W:α->Nat} (hc:chain E W xs k ys k')
  (hin:∀ (i:Nat) (k:Int) self (x y:α) (k':Int),i < ys.length->ys[i]?=some y->0<=k->k+W x<=BIG->k<=k'->k'<=k+W x->E x k y k'->B self (k,(i:Int))=self (k',w64 ((i:Int)+1)))
  (hout:∀ (k:Int) self,B self (k,(ys.length:Int))=some (k,())):∀ f,ys.length < f->rawIter B f (k,0)=some (k',()):=by
 have main:∀ (xs ys' pre:List α) (k:Int),pre++ys'=ys->chain E W xs k ys' k'->∀ f,ys'.length < f->rawIter B f (k,(pre.length:Int))=some (k',()):=by
  intro xs
  induction xs with
  | nil=>
   intro ys' pre k hp hc f hf
   obtain ⟨rfl,rfl⟩:=hc
   cases f with
   | zero=>simp at hf
   | succ f=>
    have:=hout k' (rawIter B f)
    have e:pre=ys:=by simpa using hp
    subst e
    exact this
  | cons x xs ih=>
   intro ys' pre k hp hc f hf
   obtain ⟨y,ys2,k1,rfl,c1,c2,c3,c4,c5,c6⟩:=hc
   cases f with
   | zero=>omega
   | succ f=>
    show B (rawIter B f) _=_
    have hl:pre.length < ys.length:=by rw[<-hp];simp
    rw[hin pre.length k _ x y k1 hl (by rw[<-hp];simp) c1 c2 c3 c4 c5]
    have hw:w64 ((pre.length:Int)+1)=(((pre++[y]).length:Nat):Int):=by
     have:pre.length+1<=maxLen:=by omega
     rw[maxLen_val] at this
     rw[w64_in (by omega)];simp
    rw[hw]
    exact ih ys2 (pre++[y]) k1 (by rw[<-hp];simp) c6 f (by simp only[List.length_cons] at hf;omega)
 intro f hf
 simpa using main xs ys [] k rfl hc f hf
end OT
set_option linter.unusedVariables false
set_option linter.unusedSimpArgs false
namespace OT
open Go
def forI {S O α:Type} (f:Nat->S->α->Sum O S) (fin:S->O):Nat->List α->S->O
 | _,[],s=>fin s
 | i,x::xs,s=>match f i s x with
  | .inl o=>o
  | .inr s'=>forI f fin (i+1) xs s'
theorem for_loop {V S O α:Type} {B:(V->Option O)->V->Option O} (xs:List α) (enc:S->Int->V) (f:Nat->S->α->Sum O S) (fin:S->O) (I:Nat->S->Prop) (hmax:xs.length<=maxLen)
  (hin:∀ (i:Nat) (hi:i < xs.length) (s:S) self,I i s->B self (enc s (i:Int))=match f i s xs[i] with | .inl o=>some o | .inr s'=>self (enc s' (w64 ((i:Int)+1))))
  (hI:∀ (i:Nat) (hi:i < xs.length) (s s':S),I i s->f i s xs[i]=.inr s'->I (i+1) s')
  (hout:∀ (s:S) self,I xs.length s->B self (enc s (xs.length:Int))=some (fin s)) (s:S) (h0:I 0 s):∀ k,xs.length < k->rawIter B k (enc s 0)=some (forI f fin 0 xs s):=by
 have main:∀ (m i:Nat) (s:S),xs.length - i=m->i<=xs.length->I i s->∀ k,m < k->rawIter B k (enc s (i:Int))=some (forI f fin i (xs.drop i) s):=by
  intro m
  induction m with
  | zero=>
   intro i s hm hi hs k hk
   have hi':i=xs.length:=by omega
   subst hi'
   cases k with
   | zero=>omega
   | succ k=>
    show B (rawIter B k) _=_
    rw[hout s _ hs]
    simp[forI]
  | succ m ih=>
   intro i s hm hi hs k hk
   have hlt:i < xs.length:=by omega
   cases k with
   | zero=>omega
   | succ k=>
    show B (rawIter B k) _=_
    rw[hin i hlt s _ hs,List.drop_eq_getElem_cons hlt]
    simp only[forI]
    cases hf:f i s xs[i] with
    | inl o=>rfl
    | inr s'=>
     have hw:w64 ((i:Int)+1)=((i+1:Nat):Int):=by rw[w64_in (by rw[maxLen_val] at hmax;omega)];omega
     simp only[hw]
     exact ih (i+1) s' (by omega) (by omega) (hI i hlt s s' hs hf) k (by omega)
 intro k hk
 simpa using main xs.length 0 s (by omega) (by omega) h0 k hk
theorem forI_check {O α:Type} (p:α->Bool) (bad:O) (fin:Unit->O):∀ (xs:List α) (i:Nat),forI (fun _ _ x=>if p x then .inr () else .inl bad) fin i xs ()=if xs.all p then fin () else bad
 | [],_=>rfl
 | x::xs,i=>by
  simp only[forI,List.all_cons]
  by_cases h:p x=true
  ·simp[h,forI_check p bad fin xs (i+1)]
  ·simp[h]
def firstF {α:Type} (c:α->Int):List α->Int
 | []=>0
 | x::xs=>if c x=0 then firstF c xs else c x
theorem forI_first {O α:Type} (c:α->Int) (bad:Int->O) (fin:Unit->O):∀ (xs:List α) (i:Nat),forI (fun _ _ x=>if c x=0 then .inr () else .inl (bad (c x))) fin i xs ()=if firstF c xs=0 then fin () else bad (firstF c xs)
 | [],_=>rfl
 | x::xs,i=>by
  simp only[forI,firstF]
  by_cases h:c x=0
  ·simp[h,forI_first c bad fin xs (i+1)]
  ·simp[h]
theorem cap_ok {n:Nat} (h:n<=200000000000):n<=CAP:=by simp only[CAP];omega
end OT
set_option linter.unusedVariables false
set_option linter.unusedSimpArgs false
namespace OT
open Go Go.Sort
def simpT:Ty->Bool
 | .int _ | .bool | .str | .unit=>true
 | .pair a b=>simpT a&&simpT b
 | _=>false
def encT:(t:Ty)->t.den->List Value
 | .int k,v=>[.int k (toI k v)]
 | .bool,v=>[.bool v]
 | .str,v=>[.string ⟨List.toArray v⟩]
 | .unit,_=>[]
 | .pair a b,v=>encT a v.1++encT b v.2
 | _,_=>[]
section
variable {P:Program} {w:World} {A:Cells}
theorem ro_enc:∀ (t:Ty),simpT t=true->∀ (v:t.den),Ro P w A t v (encT t v):=by
 intro t
 induction t with
 | pair a b iha ihb=>
  intro h v
  simp only[simpT,Bool.and_eq_true] at h
  have h1:=iha h.1 v.1
  have hl:=Ro.length a h1
  show Ro P w A a v.1 ((encT a v.1++encT b v.2).take a.sz)/\Ro P w A b v.2 ((encT a v.1++encT b v.2).drop a.sz)
  rw[List.take_append_of_le_length (by omega),List.take_of_length_le (by omega),List.drop_append_of_le_length (by omega),List.drop_of_length_le (by omega),List.nil_append]
  exact ⟨h1,ihb h.2 v.2⟩
 | int k=>intro _ v;rfl
 | bool=>intro _ v;rfl
 | str=>intro _ v;rfl
 | unit=>intro _ v;rfl
 | _=>intro h;simp[simpT] at h
theorem enc_ro:∀ (t:Ty),simpT t=true->∀ {v:t.den} {cs:List Value},Ro P w A t v cs->cs=encT t v:=by
 intro t
 induction t with
 | pair a b iha ihb=>
  intro h v cs hr
  simp only[simpT,Bool.and_eq_true] at h
  have h1:=iha h.1 hr.1
  have h2:=ihb h.2 hr.2
  rw[<-List.take_append_drop a.sz cs,h1,h2]
  rfl
 | int k=>intro _ v cs h;exact h
 | bool=>intro _ v cs h;exact h
 | str=>intro _ v cs h;exact h
 | unit=>intro _ v cs h;exact h
 | _=>intro h;simp[simpT] at h
theorem simp_flat:∀ (t:Ty),simpT t=true->t.flat=true:=by
 intro t
 induction t with
 | pair a b iha ihb=>intro h;simp only[simpT,Bool.and_eq_true] at h;simp only[Ty.flat,iha h.1,ihb h.2,Bool.and_self]
 | int k=>intro _;rfl
 | bool=>intro _;rfl
 | str=>intro _;rfl
 | unit=>intro _;rfl
 | _=>intro h;simp[simpT] at h
end
theorem ce_cells {w:World} {b i:Nat} {u:Value} {c:Array Value} {e:TypeId} {fr:Nat×Nat} (h:w.heap[b]?=some (.cells c e fr)) (hu:ce w b i=some u):c[i]?=some u:=by
 unfold ce at hu
 simp only[h,World.cell?] at hu
 cases hc:c[i]? with
 | none=>simp[hc] at hu
 | some v=>
  simp only[hc,Option.isSome_none,Bool.false_eq_true,if_false,Option.bind_some] at hu
  rw[(oneV_some hu).1]
theorem ce_of_cells {w:World} {b i:Nat} {u:Value} {c:Array Value} {e:TypeId} {fr:Nat×Nat} (h:w.heap[b]?=some (.cells c e fr)) (hg:c[i]?=some u) (hu:u.oneCell'=true):ce w b i=some u:=by
 refine cell_ce ?_ hu
 simp only[World.cell?,h,Option.isSome_none,Bool.false_eq_true,if_false,hg]
instance inhDen (e:Ty):Inhabited e.den:=⟨e.zero⟩
noncomputable def sortF (e:Ty) (cs:e.den×e.den×Unit->Option (Int×Unit)) (v:List e.den):Option (List e.den):=open Classical in
 if List.length v<=CAP then (if h:∃ cf:e.den->e.den->Int,(∀ x y,cs (x,y,())=some (cf x y,()))/\SWO (Go.Proofs.ltOf cf) then some (pdq (Go.Proofs.ltOf h.choose) v.toArray 0 v.toArray.size (Lib.bitLen v.toArray.size) true true).toList else none) else none
theorem sortF_eq {e:Ty} {cs:e.den×e.den×Unit->Option (Int×Unit)} {cf:e.den->e.den->Int} (h1:∀ x y,cs (x,y,())=some (cf x y,())) (h2:SWO (Go.Proofs.ltOf cf)) (v:List e.den) (hl:List.length v<=CAP):sortF e cs v=some (pdq (Go.Proofs.ltOf cf) v.toArray 0 v.toArray.size (Lib.bitLen v.toArray.size) true true).toList:=by
 have hex:∃ cf:e.den->e.den->Int,(∀ x y,cs (x,y,())=some (cf x y,()))/\SWO (Go.Proofs.ltOf cf):=⟨cf,h1,h2⟩
 have he:hex.choose=cf:=by
  funext x y
  have:=(hex.choose_spec.1 x y).symm.trans (h1 x y)
  injection this with this
  exact congrArg Prod.fst this
 unfold sortF
 rw[if_pos hl,dif_pos hex,he]
theorem sortF_some {e:Ty} {cs:e.den×e.den×Unit->Option (Int×Unit)} {v r:List e.den} (h:sortF e cs v=some r):∃ cf:e.den->e.den->Int,(∀ x y,cs (x,y,())=some (cf x y,()))/\SWO (Go.Proofs.ltOf cf)/\List.length v<=CAP/\r=(pdq (Go.Proofs.ltOf cf) v.toArray 0 v.toArray.size (Lib.bitLen v.toArray.size) true true).toList:=by
 by_cases hl:List.length v<=CAP
 ·by_cases hex:∃ cf:e.den->e.den->Int,(∀ x y,cs (x,y,())=some (cf x y,()))/\SWO (Go.Proofs.ltOf cf)
  ·obtain ⟨cf,h1,h2⟩:=hex
   rw[sortF_eq h1 h2 v hl] at h
   injection h with h
   exact ⟨cf,h1,h2,hl,h.symm⟩
  ·unfold sortF at h
   rw[if_pos hl,dif_neg hex] at h
   cases h
 ·unfold sortF at h
  rw[if_neg hl] at h
  cases h
theorem pdq_spec {α:Type} [Inhabited α] {lt:α->α->Bool} (h:SWO lt) (v:List α):(pdq lt v.toArray 0 v.toArray.size (Lib.bitLen v.toArray.size) true true).toList.Perm v/\(pdq lt v.toArray 0 v.toArray.size (Lib.bitLen v.toArray.size) true true).toList.Pairwise fun x y=>lt y x=false:=by
 have hs:=pdq_sorts lt h v.toArray 0 v.toArray.size (Lib.bitLen v.toArray.size) true true (Nat.zero_le _) (Nat.le_refl _) (Or.inl rfl)
 generalize pdq lt v.toArray 0 v.toArray.size (Lib.bitLen v.toArray.size) true true=p at hs ⊢
 obtain ⟨⟨h1,h2,h3⟩,h4⟩:=hs
 refine ⟨?_,?_⟩
 ·have e1:p.extract 0 v.toArray.size=p:=by rw[<-h1];exact Array.extract_size ..
  have e2:v.toArray.extract 0 v.toArray.size=v.toArray:=Array.extract_size ..
  rw[e1,e2] at h3
  exact h3
 ·rw[List.pairwise_iff_getElem]
  intro i j hi hj hij
  have hj':j < p.size:=by simpa using hj
  have:=h4 i j (Nat.zero_le _) hij (by omega)
  rw[getElem!_pos _ i (by omega),getElem!_pos _ j hj'] at this
  simpa using this
section
variable {P:Program}
theorem ext_grow {w w':World} (h:Ext w w' (fun _ _=>0)):∃ q os,w'=grow (w.drewN q) os:=by
 refine ⟨w'.drawn - w.drawn,w'.heap.extract w.heap.size w'.heap.size,?_⟩
 have hh:w'.heap=w.heap++w'.heap.extract w.heap.size w'.heap.size:=by
  apply Array.ext_getElem?
  intro i
  by_cases hi:i < w.heap.size
  ·rw[h.obj i hi fun _=>rfl,Array.getElem?_append_left hi]
  ·rw[Array.getElem?_append_right (by omega),Array.getElem?_extract]
   by_cases hi':i < w'.heap.size
   ·rw[if_pos (by omega)]
    congr 1
    omega
   ·rw[if_neg (by omega),Array.getElem?_eq_none (by omega)]
 have h1:=h.os
 have h2:=h.tape
 have h3:=h.output
 have h4:=h.drawn
 cases w with
 | mk heap tape drawn os output=>
  cases w' with
  | mk heap' tape' drawn' os' output'=>
   simp only at h1 h2 h3 h4 hh
   subst h1;subst h2;subst h3
   simp only[grow,World.drewN,World.mk.injEq,true_and,and_true]
   exact ⟨hh,by omega⟩
theorem cmp_lays {e:Ty} (hs:simpT e=true) (ha:isAgg e=true) {g:Nat} {cF:e.den×e.den×Unit->Option (Int×Unit)} (hg:Sound P g { ps:=[(.ro,e),(.ro,e)],rs:=[(.int .i64,roMd (.int .i64))],F:=cF }) {cf:e.den->e.den->Int} (hc:∀ x y,cF (x,y,())=some (cf x y,())) (b size:Nat) (w:World):Go.Proofs.CmpLays P g #[] (encT e) e.sz cf b 0 size w:=by
 intro m os dk _ x y
 have hargs:ArgsRel P (Go.Proofs.sortWorldK (encT e) e.sz w b 0 m dk os) (fun _ _=>False) [(.ro,e),(.ro,e)] (x,y,()) [.agg (encT e x).toArray,.agg (encT e y).toArray] (fun _ _=>0):=
  ⟨_,_,fun _ _=>0,fun _ _=>0,rfl,fun _ _=>Nat.le_refl _,⟨encT e x,by simp[mkV,ha],ro_enc e hs x⟩,_,_,fun _ _=>0,fun _ _=>0,rfl,fun _ _=>Nat.le_refl _,⟨encT e y,by simp[mkV,ha],ro_enc e hs y⟩,rfl⟩
 refine (hg _ (fun _ _=>False) (fun _ _=>0) (x,y,()) _ hargs (fun _ _=>Nat.zero_le _) (fun _ _ h=>by omega) (fun _ _ h=>by rcases h with h | h;omega;exact h.elim) (cf x y,()) (hc x y)).mono ?_
 rintro ex w' ⟨rv,rfl,hext,A',G,GR,GM,_,_,_,_,_,_,_,hret,_⟩
 obtain ⟨cs,h1,h2⟩:=hret
 refine ⟨?_,ext_grow hext⟩
 have h2:cs=[.int .i64 (cf x y)]:=h2
 rw[h1,h2]
 rfl
theorem sort_ok {ρ:Go.Shelf.Ren} (L:Go.Proofs.SlLaysF0.n6 P ρ) {e:Ty} (hs:simpT e=true) (ha:isAgg e=true) (hl:layB P e (.inl (ρ.t 24))=true) (h1:1<=e.sz) {g:Nat} {cF:e.den×e.den×Unit->Option (Int×Unit)}
  (hg:Ok P g { ps:=[(.ro,e),(.ro,e)],rs:=[(.int .i64,roMd (.int .i64))],F:=cF }) (he:EnterOk P (ρ.f 6) false) :
  Ok P (ρ.f 6) { ps:=[(.muts (ownMd (.slc e)),.slc e),(.fix g,.fn)],rs:=[],F:=fun v=>(sortF e cF v.1).map fun r=>(r,()) }:=by
 refine ⟨?_,he⟩
 intro w A F0 v xs hargs hle hdis hbnd out hout
 obtain ⟨vs,⟨fg,fv⟩,⟨⟩⟩:=v
 obtain ⟨x,xs',F1,F2,rfl,hF,⟨cs,rfl,hrep⟩,x2,xs'',F3,F4,rfl,hF2,⟨⟨cs2,rfl,hfn⟩,hfix⟩,hnil⟩:=hargs
 have hnil:xs''=[]:=hnil
 subst hnil
 have hfg:fg=g:=hfix rfl
 subst hfg
 obtain ⟨caps,rfl,fn,hfn1,hfn2⟩:=hfn
 have hcaps:caps=#[]:=by
  obtain ⟨fn',k1,_,_,k4⟩:=hg.2
  have hfn1:P.funcs[fg]?=some fn:=hfn1
  rw[hfn1] at k1
  injection k1 with k1
  subst k1
  have k4:fn.nfree=0:=k4
  rcases hfn2 with ⟨_,q⟩ | ⟨q,_⟩
  ·exact q
  ·omega
 subst hcaps
 have hx2:mkV .fn [.func (.func fg) #[] #[]]=.func (.func fg) #[] #[]:=rfl
 have hout:(sortF e cF vs).map (fun r=>(r,()))=some out:=hout
 cases hsort:sortF e cF vs with
 | none=>rw[hsort] at hout;cases hout
 | some r=>
 rw[hsort] at hout
 injection hout with hout
 subst hout
 obtain ⟨cf,hc,hO,hcap,hr⟩:=sortF_some hsort
 have hspec:=pdq_spec hO vs
 rw[<-hr] at hspec
 have hrep':=hrep
 simp only[Rep,hole,List.any_nil,Bool.false_eq_true,if_false,ownMd,mdOf,Md.own,if_true] at hrep
 obtain ⟨xa,cap,rfl,g2,g3,g4,g5⟩:=hrep
 have hv1:mkV (.slc e) [.slice xa (List.length vs) cap]=.slice xa (List.length vs) cap:=rfl
 rw[hx2,hv1]
 have hfin:∀ (w':World) (F1':FP),Ext w w' F0->(∀ b i,F1' b i<=F1 b i)->Rep P w' A (.slc e) (ownMd (.slc e)) [] r [.slice xa (List.length vs) cap] F1' ->
   ∃ rv,Ending.returned (.tuple #[])=.returned rv/\Ext w w' F0/\∃ (A':Cells) (G GR GM:FP),(∀ b i,A b i->A' b i)/\(∀ b i,A' b i->A b i\/1<=F0 b i\/w.heap.size<=b)/\(∀ b i,1<=G b i->1<=F0 b i\/w.heap.size<=b)/\(∀ b i,G b i<=1)/\(∀ b i,1<=G b i->¬ A' b i)/\(∀ b i,1<=G b i\/A' b i->b < w'.heap.size)/\(∀ b i,GR b i+GM b i<=G b i) /\
   RetRel P w' A' [] rv GR/\MutsRel P w' A' [(.muts (ownMd (.slc e)),.slc e),(.fix fg,.fn)] (r,()) [.slice xa (List.length vs) cap,.func (.func fg) #[] #[]] GM:=fun w' F1' hext hF1 hrp=>
  ⟨_,rfl,hext,A,F0,fun _ _=>0,F0,fun _ _ h=>h,fun _ _ h=>.inl h,fun _ _ h=>.inl h,hle,hdis,fun b i h=>Nat.lt_of_lt_of_le (hbnd b i h) hext.size,fun b i=>by show 0+F0 b i<=F0 b i;omega,trivial,F1',F2,fun b i=>by have:=hF b i;have:=hF1 b i;omega,⟨_,rfl,hrp⟩,trivial⟩
 by_cases h0:List.length vs=0
 ·have hvs:vs=[]:=List.eq_nil_of_length_eq_zero h0
  have hrn:r=[]:=by
   have:=hspec.1.length_eq
   exact List.eq_nil_of_length_eq_zero (by omega)
  rw[h0]
  refine (Go.Proofs.AnyF.slices_SortFunc_none L xa cap (.func (.func fg) #[] #[]) w).mono ?_
  rintro ex w' ⟨rfl,hw⟩
  rw[hw]
  rw[h0] at hfin
  refine hfin w F1 (Ext.refl _ _) (fun _ _=>Nat.le_refl _) ?_
  rw[hrn,<- hvs]
  have:List.length vs=0:=h0
  rw[this] at hrep'
  exact hrep'
 ·cases xa with
  | none=>have:=g4 rfl;omega
  | some ad=>
   obtain ⟨q1,q2,q3,Fi,q4,q5⟩:=g5 ad rfl
   obtain ⟨b,off,sp⟩:=ad
   simp only at q1 q2 q3 q4 q5
   subst q1;subst q2
   obtain ⟨c,el,fr,c1,c2,c3⟩:=q3
   have hb:=(Array.getElem?_eq_some_iff.1 c1).1
   have hsz:vs.toArray.size=List.length vs:=by simp
   have hbl:List.length vs*e.sz<=cap*e.sz:=Nat.mul_le_mul_right _ g2
   have hpos:1<=List.length vs*e.sz:=Nat.mul_le_mul (show 1<=List.length vs by omega) h1
   have hcell:∀ (i:Nat) (y:e.den),vs[i]?=some y->Has w b (i*e.sz) (encT e y):=fun i y hy=>by
    obtain ⟨L0,l1,l2,l3⟩:=q5 i y hy
    have:=enc_ro e hs (Rep.flat e (simp_flat e hs) l3)
    rw[<-this]
    exact l2
   have hH:Go.Sort.HoldsK (encT e) e.sz w b 0 vs.toArray:=by
    intro j hj
    rw[Go.Sort.size_flatK,hsz] at hj
    rw[Nat.zero_add,Go.Sort.get_flatK _ _ _ _ (by rw[hsz];exact hj)]
    have hi:j / e.sz < List.length vs:=by rw[Nat.div_lt_iff_lt_mul h1];exact hj
    have hy:=List.getElem?_eq_getElem hi
    have hm:=Nat.mod_lt j h1
    have hel:(encT e (vs[j / e.sz]))[j % e.sz]?=some ((encT e (vs[j / e.sz]))[j % e.sz]!):=by
     have hlen:=Ro.length e (ro_enc (P:=P) (w:=w) (A:=A) e hs (vs[j / e.sz]))
     rw[List.getElem?_eq_getElem (by omega),getElem!_pos _ _ (by omega)]
    have hce:=hcell _ _ hy _ _ hel
    have hdm:j / e.sz*e.sz+j % e.sz=j:=by rw[Nat.mul_comm];exact Nat.div_add_mod j e.sz
    rw[hdm] at hce
    have hone:=Ro.one e (ro_enc (P:=P) (w:=w) (A:=A) e hs (vs[j / e.sz])) _ (List.mem_of_getElem? hel)
    have hcc:=ce_cell hce hone
    refine ⟨?_,?_⟩
    ·show _=some (id _)
     rw[hcc]
     have:vs.toArray[j / e.sz]! = vs[j / e.sz]:=by rw[getElem!_pos _ _ (by rw[hsz];exact hi)];simp
     rw[this]
     rfl
    ·simp only[World.frozen?,c1]
     have:=c3 j (by omega)
     simp only[Bool.and_eq_false_imp,decide_eq_true_eq,decide_eq_false_iff_not,not_and] at this ⊢
     intro h
     first | exact this h | (have:=this (by simpa using h);simpa using this)
   have hkit:=Go.Proofs.AnyQ.slices_SortFunc_eq L e.sz (fun w=>by rw[run_isAgg hl,ha]) (fun w=>run_sizeOf hl) (encT e) (fun y=>Ro.length e (ro_enc (P:=P) (w:=w) (A:=A) e hs y)) (fun y u hu=>Ro.one e (ro_enc (P:=P) (w:=w) (A:=A) e hs y) u hu) cf hO fg #[] b 0 cap vs.toArray w
    (fun args w=>enter_run hg.2 args) (cmp_lays hs ha hg.1 hc b _ w) hH hb (by rw[hsz];unfold CAP at hcap;omega)
   rw[hsz] at hkit
   refine hkit.mono ?_
   rintro ex w' ⟨rfl,n,os,rfl⟩
   rw[hsz] at hr
   have hrd:(pdq (Go.Proofs.ltOf cf) vs.toArray 0 (List.length vs) (Lib.bitLen (List.length vs)) true true)=r.toArray:=by rw[hr]
   rw[hrd]
   have hrl:r.length=List.length vs:=hspec.1.length_eq
   have hold:∀ b',b' < w.heap.size->b'≠b->(Go.Proofs.sortWorldK (encT e) e.sz w b 0 n r.toArray os).heap[b']?=w.heap[b']?:=fun b' hb' hne=>by
    simp only[Go.Proofs.sortWorldK,grow,Go.Sort.putRowK,Go.Sort.putRow,Go.Sort.mapBlock,Go.Sort.ahead]
    rw[Array.getElem?_append_left (by simpa using hb'),Array.getElem?_modify,if_neg (fun e=>hne e.symm)]
   have hnew:(Go.Proofs.sortWorldK (encT e) e.sz w b 0 n r.toArray os).heap[b]?=some (.cells (Go.Sort.putCells id 0 (Go.Sort.flatK (encT e) e.sz r.toArray) c) el fr):=by
    simp only[Go.Proofs.sortWorldK,grow,Go.Sort.putRowK,Go.Sort.putRow,Go.Sort.mapBlock,Go.Sort.ahead]
    rw[Array.getElem?_append_left (by simpa using hb),Array.getElem?_modify,if_pos rfl,c1]
    rfl
   have hcs:(Go.Sort.putCells id 0 (Go.Sort.flatK (encT e) e.sz r.toArray) c).size=c.size:=by simp[Go.Sort.putCells]
   have hext:Ext w (Go.Proofs.sortWorldK (encT e) e.sz w b 0 n r.toArray os) F0:=by
    have hown:∀ i,i < cap*e.sz->1<=F0 b i:=fun i hi=>by
     have h3:=hF b i
     have h4:=q4 b i
     have h5:rng b 0 (cap*e.sz) b i=1:=by simp only[rng];rw[if_pos ⟨trivial,by omega,by omega⟩]
     omega
    refine ⟨?_,fun b' i hb' hz u hu=>?_,fun b' m hm=>?_,fun b' i hb'=>?_,rfl,rfl,rfl,fun b' hb' hz=>?_,Nat.le_add_right _ _⟩
    ·simp only[Go.Proofs.sortWorldK,grow,Go.Sort.putRowK,Go.Sort.putRow,Go.Sort.mapBlock,Go.Sort.ahead,Array.size_append,Array.size_modify]
     omega
    ·by_cases hbb:b'=b
     ·subst hbb
      have hi:¬ i < cap*e.sz:=fun hi=>by have:=hown i hi;omega
      exfalso
      have:=ce_cells c1 hu
      rw[Array.getElem?_eq_none (by omega)] at this
      cases this
     ·rw[ce_block (hold b' hb' hbb)];exact hu
    ·by_cases hbb:b'=b
     ·subst hbb
      obtain ⟨c',e',f',m1,m2,m3⟩:=hm
      rw[c1] at m1
      injection m1 with m1
      injection m1 with m1 m4 m5
      subst m1;subst m4;subst m5
      exact ⟨_,_,_,hnew,by rw[hcs];exact m2,m3⟩
     ·have hb':b' < w.heap.size:=hm.lt
      exact (own_of_block (hold b' hb' hbb) m).1 hm
    ·by_cases hbb:b'=b
     ·subst hbb
      simp only[World.frozen?,hnew,c1]
     ·exact fr_of_block (hold b' hb' hbb) i
    ·by_cases hbb:b'=b
     ·subst hbb
      have:=hown 0 (by omega)
      have:=hz 0
      omega
     ·exact hold b' hb' hbb
   refine hfin _ F1 hext (fun _ _=>Nat.le_refl _) ?_
   simp only[Rep,hole,List.any_nil,Bool.false_eq_true,if_false,ownMd,mdOf,Md.own,if_true]
   refine ⟨some ⟨b,0,none⟩,cap,by rw[hrl],by rw[hrl];exact g2,g3,(fun e=>by cases e),fun ad e2=>?_⟩
   injection e2 with e2
   subst e2
   refine ⟨rfl,rfl,⟨_,_,_,hnew,by rw[hcs];exact c2,c3⟩,fun _ _ _=>0,fun b' i=>?_,fun i y hy=>?_⟩
   ·have h3:=q4 b' i
    have h4:sumF (List.length r) (fun _ _ _=>0) b' i=0:=by
     generalize List.length r=nn
     induction nn with
     | zero=>rfl
     | succ nn ih=>simp only[sumF,ih]
    show rng b 0 (cap*e.sz) b' i+sumF (List.length r) (fun _ _ _=>0) b' i<=F1 b' i
    rw[h4]
    omega
   ·refine ⟨encT e y,Ro.length e (ro_enc (P:=P) (w:=w) (A:=A) e hs y),fun j u hu=>?_,?_⟩
    ·have hj:=(List.getElem?_eq_some_iff.1 hu).1
     have hlen:=Ro.length e (ro_enc (P:=P) (w:=w) (A:=A) e hs y)
     have hi:=(List.getElem?_eq_some_iff.1 hy).1
     have hij:i*e.sz+j < r.length*e.sz:=by
      have:=Nat.mul_le_mul_right e.sz (show i+1<=r.length from hi)
      rw[Nat.add_mul,Nat.one_mul] at this
      omega
     have hdiv:(i*e.sz+j) / e.sz=i:=(Go.Sort.blk_iff e.sz i _ h1).1 ⟨by omega,by omega⟩
     have hmod:(i*e.sz+j) % e.sz=j:=by rw[Nat.mod_eq_sub_div_mul,hdiv];omega
     have hget:(Go.Sort.putCells id 0 (Go.Sort.flatK (encT e) e.sz r.toArray) c)[i*e.sz+j]?=some u:=by
      have hlt:i*e.sz+j < c.size:=by rw[hrl] at hij;omega
      simp only[Go.Sort.putCells,Array.getElem?_mapIdx,Array.getElem?_eq_getElem hlt,Option.map_some,Nat.zero_le,true_and,Nat.zero_add,Nat.sub_zero,Go.Sort.size_flatK,List.size_toArray,hij,if_true,id]
      rw[Go.Sort.get_flatK _ _ _ _ (by simpa using hij),hdiv,hmod]
      have hy2:r.toArray[i]! = y:=by
       rw[getElem!_pos _ _ (by simpa using hi)]
       have:=(List.getElem?_eq_some_iff.1 hy).2
       simpa using this
      rw[hy2,getElem!_pos (encT e y) j hj]
      exact congrArg some (List.getElem?_eq_some_iff.1 hu).2
     have hone:=Ro.one e (ro_enc (P:=P) (w:=w) (A:=A) e hs y) _ (List.mem_of_getElem? hu)
     exact ce_of_cells hnew hget hone
    ·exact Ro.flat e _ (simp_flat e hs) (ro_enc e hs y)
end
end OT
set_option maxRecDepth 100000
set_option linter.unusedVariables false
namespace OT
open Go Go.Proofs.Tryz
abbrev Row:Type:=(Int×Int×Int×(List UInt8)×Unit)
abbrev tRow:Ty:=(tupT [i64,i64,i64,.str])
abbrev CellResult:Type:=(Int×Int×Int×Int×Row×Unit)
abbrev tCellResult:Ty:=(tupT [i64,i64,i64,i64,tRow])
abbrev L6Spot:Type:=(Int×Int×CellResult×Unit)
abbrev tL6Spot:Ty:=(tupT [i64,i64,tCellResult])
abbrev Edit:Type:=(Int×(List UInt8)×Unit)
abbrev tEdit:Ty:=(tupT [i64,(.slc u8)])
abbrev EditsResult:Type:=(Int×(List Edit)×(List (List UInt8))×Unit)
abbrev tEditsResult:Ty:=(tupT [i64,(.slc tEdit),(.slc (.slc u8))])
abbrev L7Work:Type:=((List (List UInt8))×(List Edit)×Unit)
abbrev tL7Work:Ty:=(tupT [(.slc (.slc u8)),(.slc tEdit)])
abbrev Seen:Type:=(Row×Int×Int×Bool×Int×Int×Unit)
abbrev tSeen:Ty:=(tupT [tRow,i64,i64,.bool,i64,i64])
abbrev PageResult:Type:=(Int×Int×(List UInt8)×Unit)
abbrev tPageResult:Ty:=(tupT [i64,i64,(.slc u8)])
abbrev Change:Type:=(Bool×Row×Bool×Row×Unit)
abbrev tChange:Ty:=(tupT [.bool,tRow,.bool,tRow])
abbrev L1Src:Type:=((List UInt8)×Int×Unit)
abbrev tL1Src:Ty:=(tupT [(.slc u8),i64])
abbrev Key:Type:=(Int×Int×Unit)
abbrev tKey:Ty:=(tupT [i64,i64])
abbrev Tx:Type:=(Int×(List Change)×(List Int)×(List Key)×Unit)
abbrev tTx:Ty:=(tupT [i64,(.slc tChange),(.slc i64),(.slc tKey)])
abbrev Plain:Type:=((List Row)×(List Tx)×Int×Unit)
abbrev tPlain:Ty:=(tupT [(.slc tRow),(.slc tTx),i64])
abbrev PlainResult:Type:=(Int×Int×Plain×Unit)
abbrev tPlainResult:Ty:=(tupT [i64,i64,tPlain])
abbrev ChangeResult:Type:=(Int×Bool×Change×Unit)
abbrev tChangeResult:Ty:=(tupT [i64,.bool,tChange])
abbrev Op:Type:=(Int×Int×Row×Int×Unit)
abbrev tOp:Ty:=(tupT [i64,i64,tRow,i64])
abbrev RunResult:Type:=(Int×(List Int)×(List Int)×Plain×Unit)
abbrev tRunResult:Ty:=(tupT [i64,(.slc i64),(.slc i64),tPlain])
abbrev RowsResult:Type:=(Int×(List Row)×Unit)
abbrev tRowsResult:Ty:=(tupT [i64,(.slc tRow)])
abbrev TxsResult:Type:=(Int×(List Tx)×Unit)
abbrev tTxsResult:Ty:=(tupT [i64,(.slc tTx)])
abbrev PlaceResult:Type:=(Int×Int×Int×Row×Unit)
abbrev tPlaceResult:Ty:=(tupT [i64,i64,i64,tRow])
abbrev Buffer:Type:=(Int×(List Change)×Unit)
abbrev tBuffer:Ty:=(tupT [i64,(.slc tChange)])
abbrev Miner:Type:=((List (List UInt8))×(List Buffer)×Unit)
abbrev tMiner:Ty:=(tupT [(.slc (.slc u8)),(.slc tBuffer)])
abbrev Connector:Type:=(Miner×Int×Miner×Int×Unit)
abbrev tConnector:Ty:=(tupT [tMiner,i64,tMiner,i64])
abbrev Sent:Type:=(Int×Int×(List Change)×Unit)
abbrev tSent:Ty:=(tupT [i64,i64,(.slc tChange)])
abbrev ConnectorResult:Type:=(Int×Bool×Sent×Connector×Unit)
abbrev tConnectorResult:Ty:=(tupT [i64,.bool,tSent,tConnector])
namespace laws_szByteS
abbrev Arg:Type:=(List UInt8)×Int×Unit
abbrev Out:Type:=Int×Unit
noncomputable def ps:PQ:=[(.ro,(.slc u8)),(.ro,i64)]
noncomputable def rs:RQ:=[(i64,(roMd i64))]
noncomputable def tl:TL:=[(46,(.slc u8))]
noncomputable def gl:GL:=[]
noncomputable def E:Env:={ TI:=lookN tl,G:=lookN gl }
noncomputable def W (k:Nat) (a:Arg):Option Out:=bodyK E k f52 ps rs [] [] a
noncomputable def sem (a:Arg):Option Out:=lift fun k=>W k a
noncomputable def sig:Sig:={ ps:=ps,rs:=rs,F:=sem }
noncomputable def p (a1:Arg):Option Out:=bif decide (w64 (a1.2.1 - (a1.1.length:Int)) < (0:Int)) then (some ((-1:Int),())) else some (w64 (a1.2.1 - (a1.1.length:Int)),())
noncomputable def raw (k:Nat) (a1:Arg):Option Out:=p a1
theorem raw_eq (k:Nat) (a1:Arg):W k a1=raw k a1:=by kernel_rfl
theorem ok:Ok prog 52 sig:=fn_ok func52 (tl:=tl) (gl:=gl) (es:=[]) (fr:=[]) rfl rfl (by kernel_rfl) (fn_nil _) (fun _=>rfl)
end laws_szByteS
namespace laws_szByteSS
abbrev Arg:Type:=(List (List UInt8))×Int×Unit
abbrev Out:Type:=Int×Unit
noncomputable def ps:PQ:=[(.ro,(.slc (.slc u8))),(.ro,i64)]
noncomputable def rs:RQ:=[(i64,(roMd i64))]
noncomputable def tl:TL:=[(22,(.slc (.slc u8))),(46,(.slc u8))]
noncomputable def gl:GL:=[(52,laws_szByteS.sig)]
noncomputable def E:Env:={ TI:=lookN tl,G:=lookN gl,lv:=[(5,[0,1,5])],lx:=[(0,[1])] }
noncomputable def W (k:Nat) (a:Arg):Option Out:=bodyK E k f11 ps rs [] [] a
noncomputable def sem (a:Arg):Option Out:=lift fun k=>W k a
noncomputable def sig:Sig:={ ps:=ps,rs:=rs,F:=sem }
noncomputable def C:Code:=bodyOf f11
noncomputable def fin:St->Option Out:=outK ps rs [] (Func.results f11).toList (mvs [])
noncomputable def K0:Ex->St->Option Out:=endK fin
noncomputable def T0 (a1:Arg) (v402:Int×Int):St:={ n:=27,sl:=[(0,.val (.slc (.slc u8)) a1.1),(1,.val i64 v402.1),(5,.val i64 v402.2)],vr:=[],lent:=[] }
noncomputable def N0 (k:Nat):St->(Ex->St->Option Out)->Option Out:=codeK E k fin (sub [1,1,1,0,1,0,0] C)
noncomputable def M0:St->St:=keepF [0,1,5] []
noncomputable def S0 (rec:RT Out) (a1:Arg):(Int×Int)->Option Out:=fun v402=>rec (T0 a1 v402)
noncomputable def X0_0 (K:KT Out) (a1:Arg):Int->Option Out:=fun z=>K (.exit 0) ({ n:=27,sl:=[(1,.val i64 z)],vr:=[],lent:=[] })
noncomputable def b0 (self:(Int×Int)->Option Out) (e0:Int->Option Out) (a1:Arg) (v402:Int×Int):Option Out:=bif decide (v402.2 < (a1.1.length:Int)) then (if 0<=v402.2 then ((a1.1[v402.2.toNat]?).bind fun x603=>(laws_szByteS.sem (x603,v402.1,())).bind fun r604=>bif decide (r604.1 < (0:Int)) then (some ((-1:Int),())) else self (r604.1,w64 (v402.2+(1:Int)))) else none) else e0 v402.1
noncomputable def B0 (k:Nat) (self:(Int×Int)->Option Out) (e0:Int->Option Out) (a1:Arg) (v402:Int×Int):Option Out:=b0 self e0 a1 v402
theorem B0_eq (k:Nat) (rec:RT Out) (K:KT Out) (a1:Arg) (v402:Int×Int):N0 k (T0 a1 v402) (loopC rec M0 K)=B0 k (S0 rec a1) (X0_0 K a1) a1 v402:=by kernel_rfl
noncomputable def l0 (k:Nat) (a1:Arg) (e0:Int->Option Out) (v:Int×Int):Option Out:=rawIter (fun self v=>B0 k self e0 a1 v) k v
theorem l0_eq (k:Nat) (K:KT Out) (a1:Arg) (v402:Int×Int):iterK (N0 k) M0 K k (T0 a1 v402)=l0 k a1 (X0_0 K a1) v402:=
 iter_raw _ _ K (fun v402=>(T0 a1 v402)) (fun self v=>B0 k self (X0_0 K a1) a1 v) (fun rec v=>B0_eq k rec K a1 v) k v402
noncomputable def q0 (a1:Arg) (z605:Int):Option Out:=some (z605,())
noncomputable def Q0 (k:Nat) (a1:Arg) (z605:Int):Option Out:=q0 a1 z605
theorem Q0_eq (k:Nat) (a1:Arg) (z605:Int):X0_0 (blockC 0 (seqC (codeK E k fin (sub [1,1,1,1] C)) K0)) a1 z605=Q0 k a1 z605:=by kernel_rfl
noncomputable def s0 (k:Nat) (a1:Arg):(Int×Int)->Option Out:=fun v402=>iterK (N0 k) M0 (blockC 0 (seqC (codeK E k fin (sub [1,1,1,1] C)) K0)) k (T0 a1 v402)
noncomputable def r0 (k:Nat) (a1:Arg):(Int×Int)->Option Out:=fun v402=>l0 k a1 (fun z=>Q0 k a1 z) v402
theorem s0_eq (k:Nat) (a1:Arg):s0 k a1=r0 k a1:=by
 funext v402;
 have h0:X0_0 ((blockC 0 (seqC (codeK E k fin (sub [1,1,1,1] C)) K0))) a1=fun z=>Q0 k a1 z:=funext fun z=>Q0_eq k a1 z
 refine (l0_eq k ((blockC 0 (seqC (codeK E k fin (sub [1,1,1,1] C)) K0))) a1 v402).trans ?_
 rw[h0]
 rfl
noncomputable def p (l0:(Int×Int)->Option Out) (a1:Arg):Option Out:=bif decide (w64 (a1.2.1 - (a1.1.length:Int)) < (0:Int)) then (some ((-1:Int),())) else l0 (w64 (a1.2.1 - (a1.1.length:Int)),(0:Int))
noncomputable def raw (k:Nat) (a1:Arg):Option Out:=p (r0 k a1) a1
theorem p_eq (k:Nat) (a1:Arg):W k a1=p (s0 k a1) a1:=by kernel_rfl
theorem raw_eq (k:Nat) (a1:Arg):W k a1=raw k a1:=(p_eq k a1).trans (by rw[s0_eq];rfl)
theorem ok:Ok prog 11 sig:=fn_ok func11 (tl:=tl) (gl:=gl) (es:=[]) (fr:=[]) rfl rfl (by kernel_rfl) (fc laws_szByteS.ok (fn_nil _)) (fun _=>rfl)
end laws_szByteSS
namespace laws_szRow
abbrev Arg:Type:=Row×Int×Unit
abbrev Out:Type:=Int×Unit
noncomputable def ps:PQ:=[(.ro,tRow),(.ro,i64)]
noncomputable def rs:RQ:=[(i64,(roMd i64))]
noncomputable def tl:TL:=[(9,.str),(24,tRow)]
noncomputable def gl:GL:=[]
noncomputable def E:Env:={ TI:=lookN tl,G:=lookN gl }
noncomputable def W (k:Nat) (a:Arg):Option Out:=bodyK E k f12 ps rs [] [] a
noncomputable def sem (a:Arg):Option Out:=lift fun k=>W k a
noncomputable def sig:Sig:={ ps:=ps,rs:=rs,F:=sem }
noncomputable def p (a1:Arg):Option Out:=bif decide (w64 (a1.2.1 - (a1.1.2.2.2.1.length:Int)) < (0:Int)) then (some ((-1:Int),())) else some (w64 (a1.2.1 - (a1.1.2.2.2.1.length:Int)),())
noncomputable def raw (k:Nat) (a1:Arg):Option Out:=p a1
theorem raw_eq (k:Nat) (a1:Arg):W k a1=raw k a1:=by kernel_rfl
theorem ok:Ok prog 12 sig:=fn_ok func12 (tl:=tl) (gl:=gl) (es:=[]) (fr:=[]) rfl rfl (by kernel_rfl) (fn_nil _) (fun _=>rfl)
end laws_szRow
namespace spec_l2Count
abbrev Arg:Type:=(List UInt8)×Unit
abbrev Out:Type:=Int×Unit
noncomputable def ps:PQ:=[(.ro,(.slc u8))]
noncomputable def rs:RQ:=[(i64,(roMd i64))]
noncomputable def tl:TL:=[(3,i64),(5,u8),(46,(.slc u8))]
noncomputable def gl:GL:=[]
noncomputable def E:Env:={ TI:=lookN tl,G:=lookN gl }
noncomputable def W (k:Nat) (a:Arg):Option Out:=bodyK E k f206 ps rs [] [] a
noncomputable def sem (a:Arg):Option Out:=lift fun k=>W k a
noncomputable def sig:Sig:={ ps:=ps,rs:=rs,F:=sem }
noncomputable def p (a1:Arg):Option Out:=(a1.1[0]?).bind fun x2=>some (w64 (x2.toNat:Int),())
noncomputable def raw (k:Nat) (a1:Arg):Option Out:=p a1
theorem raw_eq (k:Nat) (a1:Arg):W k a1=raw k a1:=by kernel_rfl
theorem ok:Ok prog 206 sig:=fn_ok func206 (tl:=tl) (gl:=gl) (es:=[]) (fr:=[]) rfl rfl (by kernel_rfl) (fn_nil _) (fun _=>rfl)
end spec_l2Count
namespace spec_l2Size
abbrev Arg:Type:=(List UInt8)×Int×Unit
abbrev Out:Type:=Int×Unit
noncomputable def ps:PQ:=[(.ro,(.slc u8)),(.ro,i64)]
noncomputable def rs:RQ:=[(i64,(roMd i64))]
noncomputable def tl:TL:=[(3,i64),(5,u8),(46,(.slc u8))]
noncomputable def gl:GL:=[]
noncomputable def E:Env:={ TI:=lookN tl,G:=lookN gl }
noncomputable def W (k:Nat) (a:Arg):Option Out:=bodyK E k f207 ps rs [] [] a
noncomputable def sem (a:Arg):Option Out:=lift fun k=>W k a
noncomputable def sig:Sig:={ ps:=ps,rs:=rs,F:=sem }
noncomputable def p (a1:Arg):Option Out:=if 0<=w64 ((3:Int)+(w64 ((2:Int)*a1.2.1))) then ((a1.1[(w64 ((3:Int)+(w64 ((2:Int)*a1.2.1)))).toNat]?).bind fun x2=>some (w64 (x2.toNat:Int),())) else none
noncomputable def raw (k:Nat) (a1:Arg):Option Out:=p a1
theorem raw_eq (k:Nat) (a1:Arg):W k a1=raw k a1:=by kernel_rfl
theorem ok:Ok prog 207 sig:=fn_ok func207 (tl:=tl) (gl:=gl) (es:=[]) (fr:=[]) rfl rfl (by kernel_rfl) (fn_nil _) (fun _=>rfl)
end spec_l2Size
namespace spec_l2Low
abbrev Arg:Type:=(List UInt8)×Unit
abbrev Out:Type:=Int×Unit
noncomputable def ps:PQ:=[(.ro,(.slc u8))]
noncomputable def rs:RQ:=[(i64,(roMd i64))]
noncomputable def tl:TL:=[(3,i64),(5,u8),(46,(.slc u8))]
noncomputable def gl:GL:=[]
noncomputable def E:Env:={ TI:=lookN tl,G:=lookN gl }
noncomputable def W (k:Nat) (a:Arg):Option Out:=bodyK E k f266 ps rs [] [] a
noncomputable def sem (a:Arg):Option Out:=lift fun k=>W k a
noncomputable def sig:Sig:={ ps:=ps,rs:=rs,F:=sem }
noncomputable def p (a1:Arg):Option Out:=(a1.1[1]?).bind fun x2=>some (w64 (x2.toNat:Int),())
noncomputable def raw (k:Nat) (a1:Arg):Option Out:=p a1
theorem raw_eq (k:Nat) (a1:Arg):W k a1=raw k a1:=by kernel_rfl
theorem ok:Ok prog 266 sig:=fn_ok func266 (tl:=tl) (gl:=gl) (es:=[]) (fr:=[]) rfl rfl (by kernel_rfl) (fn_nil _) (fun _=>rfl)
end spec_l2Low
namespace spec_l2Place
abbrev Arg:Type:=(List UInt8)×Int×Unit
abbrev Out:Type:=Int×Unit
noncomputable def ps:PQ:=[(.ro,(.slc u8)),(.ro,i64)]
noncomputable def rs:RQ:=[(i64,(roMd i64))]
noncomputable def tl:TL:=[(3,i64),(5,u8),(46,(.slc u8))]
noncomputable def gl:GL:=[]
noncomputable def E:Env:={ TI:=lookN tl,G:=lookN gl }
noncomputable def W (k:Nat) (a:Arg):Option Out:=bodyK E k f270 ps rs [] [] a
noncomputable def sem (a:Arg):Option Out:=lift fun k=>W k a
noncomputable def sig:Sig:={ ps:=ps,rs:=rs,F:=sem }
noncomputable def p (a1:Arg):Option Out:=if 0<=w64 ((2:Int)+(w64 ((2:Int)*a1.2.1))) then ((a1.1[(w64 ((2:Int)+(w64 ((2:Int)*a1.2.1)))).toNat]?).bind fun x2=>some (w64 (x2.toNat:Int),())) else none
noncomputable def raw (k:Nat) (a1:Arg):Option Out:=p a1
theorem raw_eq (k:Nat) (a1:Arg):W k a1=raw k a1:=by kernel_rfl
theorem ok:Ok prog 270 sig:=fn_ok func270 (tl:=tl) (gl:=gl) (es:=[]) (fr:=[]) rfl rfl (by kernel_rfl) (fn_nil _) (fun _=>rfl)
end spec_l2Place
namespace spec_l2Slot
abbrev Arg:Type:=(List UInt8)×Int×Unit
abbrev Out:Type:=Bool×Unit
noncomputable def ps:PQ:=[(.ro,(.slc u8)),(.ro,i64)]
noncomputable def rs:RQ:=[(.bool,(roMd .bool))]
noncomputable def tl:TL:=[]
noncomputable def gl:GL:=[(207,spec_l2Size.sig),(266,spec_l2Low.sig),(270,spec_l2Place.sig)]
noncomputable def E:Env:={ TI:=lookN tl,G:=lookN gl }
noncomputable def W (k:Nat) (a:Arg):Option Out:=bodyK E k f267 ps rs [] [] a
noncomputable def sem (a:Arg):Option Out:=lift fun k=>W k a
noncomputable def sig:Sig:={ ps:=ps,rs:=rs,F:=sem }
noncomputable def p (a1:Arg):Option Out:=(spec_l2Place.sem (a1.1,a1.2.1,())).bind fun r2=>(spec_l2Size.sem (a1.1,a1.2.1,())).bind fun r3=>bif decide (r2.1=(0:Int)) then (some (decide (r2.1=r3.1),())) else bif decide (r3.1=(0:Int)) then (some (decide (r2.1=r3.1),())) else (spec_l2Low.sem (a1.1,())).bind fun r4=>bif decide (r4.1<=r2.1) then (some (decide (w64 (r2.1+r3.1)<=(64:Int)),())) else some (false,())
noncomputable def raw (k:Nat) (a1:Arg):Option Out:=p a1
theorem raw_eq (k:Nat) (a1:Arg):W k a1=raw k a1:=by kernel_rfl
theorem ok:Ok prog 267 sig:=fn_ok func267 (tl:=tl) (gl:=gl) (es:=[]) (fr:=[]) rfl rfl (by kernel_rfl) (fc spec_l2Size.ok (fc spec_l2Low.ok (fc spec_l2Place.ok (fn_nil _)))) (fun _=>rfl)
end spec_l2Slot
namespace spec_l2Apart
abbrev Arg:Type:=(List UInt8)×Int×Int×Unit
abbrev Out:Type:=Bool×Unit
noncomputable def ps:PQ:=[(.ro,(.slc u8)),(.ro,i64),(.ro,i64)]
noncomputable def rs:RQ:=[(.bool,(roMd .bool))]
noncomputable def tl:TL:=[]
noncomputable def gl:GL:=[(207,spec_l2Size.sig),(270,spec_l2Place.sig)]
noncomputable def E:Env:={ TI:=lookN tl,G:=lookN gl }
noncomputable def W (k:Nat) (a:Arg):Option Out:=bodyK E k f268 ps rs [] [] a
noncomputable def sem (a:Arg):Option Out:=lift fun k=>W k a
noncomputable def sig:Sig:={ ps:=ps,rs:=rs,F:=sem }
noncomputable def p (a1:Arg):Option Out:=(spec_l2Size.sem (a1.1,a1.2.1,())).bind fun r2=>bif decide (r2.1=(0:Int)) then (some (true,())) else (spec_l2Size.sem (a1.1,a1.2.2.1,())).bind fun r3=>bif decide (r3.1=(0:Int)) then (some (true,())) else (spec_l2Place.sem (a1.1,a1.2.1,())).bind fun r4=>(spec_l2Size.sem (a1.1,a1.2.1,())).bind fun r5=>(spec_l2Place.sem (a1.1,a1.2.2.1,())).bind fun r6=>bif decide (w64 (r4.1+r5.1)<=r6.1) then (some (true,())) else (spec_l2Place.sem (a1.1,a1.2.2.1,())).bind fun r7=>(spec_l2Size.sem (a1.1,a1.2.2.1,())).bind fun r8=>(spec_l2Place.sem (a1.1,a1.2.1,())).bind fun r9=>some (decide (w64 (r7.1+r8.1)<=r9.1),())
noncomputable def raw (k:Nat) (a1:Arg):Option Out:=p a1
theorem raw_eq (k:Nat) (a1:Arg):W k a1=raw k a1:=by kernel_rfl
theorem ok:Ok prog 268 sig:=fn_ok func268 (tl:=tl) (gl:=gl) (es:=[]) (fr:=[]) rfl rfl (by kernel_rfl) (fc spec_l2Size.ok (fc spec_l2Place.ok (fn_nil _))) (fun _=>rfl)
end spec_l2Apart
namespace spec_l2Fault
abbrev Arg:Type:=(List UInt8)×Unit
abbrev Out:Type:=Int×Unit
noncomputable def ps:PQ:=[(.ro,(.slc u8))]
noncomputable def rs:RQ:=[(i64,(roMd i64))]
noncomputable def tl:TL:=[(46,(.slc u8))]
noncomputable def gl:GL:=[(206,spec_l2Count.sig),(207,spec_l2Size.sig),(266,spec_l2Low.sig),(267,spec_l2Slot.sig),(268,spec_l2Apart.sig)]
noncomputable def E:Env:={ TI:=lookN tl,G:=lookN gl,lv:=[(7,[0,3,4]),(12,[0,3,5]),(15,[0,3,5,6])],lx:=[(0,[0,3]),(2,[0,3]),(4,[0,3,5])] }
noncomputable def W (k:Nat) (a:Arg):Option Out:=bodyK E k f205 ps rs [] [] a
noncomputable def sem (a:Arg):Option Out:=lift fun k=>W k a
noncomputable def sig:Sig:={ ps:=ps,rs:=rs,F:=sem }
noncomputable def C:Code:=bodyOf f205
noncomputable def fin:St->Option Out:=outK ps rs [] (Func.results f205).toList (mvs [])
noncomputable def K0:Ex->St->Option Out:=endK fin
noncomputable def T0 (a1:Arg) (c406:Int) (v405:Int):St:={ n:=60,sl:=[(0,.val (.slc u8) a1.1),(3,.val i64 c406),(4,.val i64 v405)],vr:=[],lent:=[] }
noncomputable def N0 (k:Nat):St->(Ex->St->Option Out)->Option Out:=codeK E k fin (sub [1,1,1,1,0,1,0,0] C)
noncomputable def M0:St->St:=keepF [0,3,4] []
noncomputable def S0 (rec:RT Out) (a1:Arg) (c406:Int):(Int)->Option Out:=fun v405=>rec (T0 a1 c406 v405)
noncomputable def X0_0 (K:KT Out) (a1:Arg) (c406:Int):(Unit)->Option Out:=fun z=>K (.exit 0) ({ n:=60,sl:=[(0,.val (.slc u8) a1.1),(3,.val i64 c406)],vr:=[],lent:=[] })
noncomputable def b0 (self:Int->Option Out) (e0:(Unit)->Option Out) (a1:Arg) (c406:Int) (v405:Int):Option Out:=bif decide (v405 < c406) then ((spec_l2Slot.sem (a1.1,v405,())).bind fun r607=>bif !r607.1 then (some ((3:Int),())) else self (w64 (v405+(1:Int)))) else e0 ()
noncomputable def B0 (k:Nat) (self:Int->Option Out) (e0:(Unit)->Option Out) (a1:Arg) (c406:Int) (v405:Int):Option Out:=b0 self e0 a1 c406 v405
theorem B0_eq (k:Nat) (rec:RT Out) (K:KT Out) (a1:Arg) (c406:Int) (v405:Int):N0 k (T0 a1 c406 v405) (loopC rec M0 K)=B0 k (S0 rec a1 c406) (X0_0 K a1 c406) a1 c406 v405:=by kernel_rfl
noncomputable def l0 (k:Nat) (a1:Arg) (c406:Int) (e0:(Unit)->Option Out) (v:Int):Option Out:=rawIter (fun self v=>B0 k self e0 a1 c406 v) k v
theorem l0_eq (k:Nat) (K:KT Out) (a1:Arg) (c406:Int) (v405:Int):iterK (N0 k) M0 K k (T0 a1 c406 v405)=l0 k a1 c406 (X0_0 K a1 c406) v405:=
 iter_raw _ _ K (fun v405=>(T0 a1 c406 v405)) (fun self v=>B0 k self (X0_0 K a1 c406) a1 c406 v) (fun rec v=>B0_eq k rec K a1 c406 v) k v405
noncomputable def T1 (a1:Arg) (v1009:(List UInt8)×Int×Int):St:={ n:=60,sl:=[(0,.val (.slc u8) v1009.1),(3,.val i64 v1009.2.1),(5,.val i64 v1009.2.2)],vr:=[],lent:=[] }
noncomputable def N1 (k:Nat):St->(Ex->St->Option Out)->Option Out:=codeK E k fin (sub [1,1,1,1,1,0,1,0,0] C)
noncomputable def M1:St->St:=keepF [0,3,5] []
noncomputable def S1 (rec:RT Out) (a1:Arg):((List UInt8)×Int×Int)->Option Out:=fun v1009=>rec (T1 a1 v1009)
noncomputable def X1_2 (K:KT Out) (a1:Arg):((List UInt8)×Int)->Option Out:=fun z=>K (.exit 2) ({ n:=60,sl:=[(0,.val (.slc u8) z.1),(3,.val i64 z.2)],vr:=[],lent:=[] })
noncomputable def T2 (a1:Arg) (c1611:List UInt8) (c1612:Int) (c1613:Int) (v1610:Int):St:={ n:=60,sl:=[(0,.val (.slc u8) c1611),(3,.val i64 c1612),(5,.val i64 c1613),(6,.val i64 v1610)],vr:=[],lent:=[] }
noncomputable def N2 (k:Nat):St->(Ex->St->Option Out)->Option Out:=codeK E k fin (sub [1,1,1,1,1,0,1,0,0,1,0,0,1,0,0] C)
noncomputable def M2:St->St:=keepF [0,3,5,6] []
noncomputable def S2 (rec:RT Out) (a1:Arg) (c1611:List UInt8) (c1612:Int) (c1613:Int):(Int)->Option Out:=fun v1610=>rec (T2 a1 c1611 c1612 c1613 v1610)
noncomputable def X2_4 (K:KT Out) (a1:Arg) (c1611:List UInt8) (c1612:Int) (c1613:Int):(Unit)->Option Out:=fun z=>K (.exit 4) ({ n:=60,sl:=[(0,.val (.slc u8) c1611),(3,.val i64 c1612),(5,.val i64 c1613)],vr:=[],lent:=[] })
noncomputable def b2 (self:Int->Option Out) (e4:(Unit)->Option Out) (a1:Arg) (c1611:List UInt8) (c1612:Int) (c1613:Int) (v1610:Int):Option Out:=bif decide (v1610 < c1613) then ((spec_l2Apart.sem (c1611,c1613,v1610,())).bind fun r1814=>bif !r1814.1 then (some ((8:Int),())) else self (w64 (v1610+(1:Int)))) else e4 ()
noncomputable def B2 (k:Nat) (self:Int->Option Out) (e4:(Unit)->Option Out) (a1:Arg) (c1611:List UInt8) (c1612:Int) (c1613:Int) (v1610:Int):Option Out:=b2 self e4 a1 c1611 c1612 c1613 v1610
theorem B2_eq (k:Nat) (rec:RT Out) (K:KT Out) (a1:Arg) (c1611:List UInt8) (c1612:Int) (c1613:Int) (v1610:Int):N2 k (T2 a1 c1611 c1612 c1613 v1610) (loopC rec M2 K)=B2 k (S2 rec a1 c1611 c1612 c1613) (X2_4 K a1 c1611 c1612 c1613) a1 c1611 c1612 c1613 v1610:=by kernel_rfl
noncomputable def l2 (k:Nat) (a1:Arg) (c1611:List UInt8) (c1612:Int) (c1613:Int) (e4:(Unit)->Option Out) (v:Int):Option Out:=rawIter (fun self v=>B2 k self e4 a1 c1611 c1612 c1613 v) k v
theorem l2_eq (k:Nat) (K:KT Out) (a1:Arg) (c1611:List UInt8) (c1612:Int) (c1613:Int) (v1610:Int):iterK (N2 k) M2 K k (T2 a1 c1611 c1612 c1613 v1610)=l2 k a1 c1611 c1612 c1613 (X2_4 K a1 c1611 c1612 c1613) v1610:=
 iter_raw _ _ K (fun v1610=>(T2 a1 c1611 c1612 c1613 v1610)) (fun self v=>B2 k self (X2_4 K a1 c1611 c1612 c1613) a1 c1611 c1612 c1613 v) (fun rec v=>B2_eq k rec K a1 c1611 c1612 c1613 v) k v1610
noncomputable def q1 (self:((List UInt8)×Int×Int)->Option Out) (e2:((List UInt8)×Int)->Option Out) (a1:Arg) (c1611:List UInt8) (c1612:Int) (c1613:Int) (z1815:(Unit)):Option Out:=self (c1611,c1612,w64 (c1613+(1:Int)))
noncomputable def Q1 (k:Nat) (self:((List UInt8)×Int×Int)->Option Out) (e2:((List UInt8)×Int)->Option Out) (a1:Arg) (c1611:List UInt8) (c1612:Int) (c1613:Int) (z1815:(Unit)):Option Out:=q1 self e2 a1 c1611 c1612 c1613 z1815
theorem Q1_eq (k:Nat) (rec:RT Out) (K:KT Out) (a1:Arg) (c1611:List UInt8) (c1612:Int) (c1613:Int) (z1815:(Unit)):X2_4 (blockC 4 (blockC 3 (seqC (codeK E k fin (sub [1,1,1,1,1,0,1,0,0,1,1] C)) (loopC rec (keepF [0,3,5] []) K)))) a1 c1611 c1612 c1613 z1815=Q1 k (S1 rec a1) (X1_2 K a1) a1 c1611 c1612 c1613 z1815:=by kernel_rfl
noncomputable def s2 (k:Nat) (rec:RT Out) (K:KT Out) (a1:Arg):(List UInt8)->Int->Int->(Int)->Option Out:=fun c1611 c1612 c1613 v1610=>iterK (N2 k) M2 (blockC 4 (blockC 3 (seqC (codeK E k fin (sub [1,1,1,1,1,0,1,0,0,1,1] C)) (loopC rec (keepF [0,3,5] []) K)))) k (T2 a1 c1611 c1612 c1613 v1610)
noncomputable def r2 (k:Nat) (self:((List UInt8)×Int×Int)->Option Out) (e2:((List UInt8)×Int)->Option Out) (a1:Arg):(List UInt8)->Int->Int->(Int)->Option Out:=fun c1611 c1612 c1613 v1610=>l2 k a1 c1611 c1612 c1613 (fun z=>Q1 k self e2 a1 c1611 c1612 c1613 z) v1610
theorem s2_eq (k:Nat) (rec:RT Out) (K:KT Out) (a1:Arg):s2 k rec K a1=r2 k (S1 rec a1) (X1_2 K a1) a1:=by
 funext c1611;funext c1612;funext c1613;funext v1610;
 have h4:X2_4 ((blockC 4 (blockC 3 (seqC (codeK E k fin (sub [1,1,1,1,1,0,1,0,0,1,1] C)) (loopC rec (keepF [0,3,5] []) K))))) a1 c1611 c1612 c1613=fun z=>Q1 k (S1 rec a1) (X1_2 K a1) a1 c1611 c1612 c1613 z:=funext fun z=>Q1_eq k rec K a1 c1611 c1612 c1613 z
 refine (l2_eq k ((blockC 4 (blockC 3 (seqC (codeK E k fin (sub [1,1,1,1,1,0,1,0,0,1,1] C)) (loopC rec (keepF [0,3,5] []) K))))) a1 c1611 c1612 c1613 v1610).trans ?_
 rw[h4]
 rfl
noncomputable def b1 (self:((List UInt8)×Int×Int)->Option Out) (e2:((List UInt8)×Int)->Option Out) (l2:(List UInt8)->Int->Int->(Int)->Option Out) (a1:Arg) (v1009:(List UInt8)×Int×Int):Option Out:=bif decide (v1009.2.2 < v1009.2.1) then (l2 v1009.1 v1009.2.1 v1009.2.2 (0:Int)) else e2 (v1009.1,v1009.2.1)
noncomputable def B1 (k:Nat) (self:((List UInt8)×Int×Int)->Option Out) (e2:((List UInt8)×Int)->Option Out) (a1:Arg) (v1009:(List UInt8)×Int×Int):Option Out:=b1 self e2 (r2 k self e2 a1) a1 v1009
theorem b1_eq (k:Nat) (rec:RT Out) (K:KT Out) (a1:Arg) (v1009:(List UInt8)×Int×Int):N1 k (T1 a1 v1009) (loopC rec M1 K)=b1 (S1 rec a1) (X1_2 K a1) (s2 k rec K a1) a1 v1009:=by kernel_rfl
theorem B1_eq (k:Nat) (rec:RT Out) (K:KT Out) (a1:Arg) (v1009:(List UInt8)×Int×Int):N1 k (T1 a1 v1009) (loopC rec M1 K)=B1 k (S1 rec a1) (X1_2 K a1) a1 v1009:=(b1_eq k rec K a1 v1009).trans (by rw[s2_eq];rfl)
noncomputable def l1 (k:Nat) (a1:Arg) (e2:((List UInt8)×Int)->Option Out) (v:(List UInt8)×Int×Int):Option Out:=rawIter (fun self v=>B1 k self e2 a1 v) k v
theorem l1_eq (k:Nat) (K:KT Out) (a1:Arg) (v1009:(List UInt8)×Int×Int):iterK (N1 k) M1 K k (T1 a1 v1009)=l1 k a1 (X1_2 K a1) v1009:=
 iter_raw _ _ K (fun v1009=>(T1 a1 v1009)) (fun self v=>B1 k self (X1_2 K a1) a1 v) (fun rec v=>B1_eq k rec K a1 v) k v1009
noncomputable def q2 (a1:Arg) (z1816:((List UInt8)×Int)):Option Out:=bif decide ((0:Int) < z1816.2) then ((spec_l2Size.sem (z1816.1,w64 (z1816.2 - (1:Int)),())).bind fun r1817=>bif decide (r1817.1=(0:Int)) then (some ((8:Int),())) else some ((0:Int),())) else some ((0:Int),())
noncomputable def Q2 (k:Nat) (a1:Arg) (z1816:((List UInt8)×Int)):Option Out:=q2 a1 z1816
theorem Q2_eq (k:Nat) (a1:Arg) (z1816:((List UInt8)×Int)):X1_2 (blockC 2 (seqC (codeK E k fin (sub [1,1,1,1,1,1] C)) K0)) a1 z1816=Q2 k a1 z1816:=by kernel_rfl
noncomputable def s1 (k:Nat) (a1:Arg) (c406:Int):((List UInt8)×Int×Int)->Option Out:=fun v1009=>iterK (N1 k) M1 (blockC 2 (seqC (codeK E k fin (sub [1,1,1,1,1,1] C)) K0)) k (T1 a1 v1009)
noncomputable def r1 (k:Nat) (a1:Arg) (c406:Int):((List UInt8)×Int×Int)->Option Out:=fun v1009=>l1 k a1 (fun z=>Q2 k a1 z) v1009
theorem s1_eq (k:Nat) (a1:Arg) (c406:Int):s1 k a1 c406=r1 k a1 c406:=by
 funext v1009;
 have h2:X1_2 ((blockC 2 (seqC (codeK E k fin (sub [1,1,1,1,1,1] C)) K0))) a1=fun z=>Q2 k a1 z:=funext fun z=>Q2_eq k a1 z
 refine (l1_eq k ((blockC 2 (seqC (codeK E k fin (sub [1,1,1,1,1,1] C)) K0))) a1 v1009).trans ?_
 rw[h2]
 rfl
noncomputable def q0 (l1:((List UInt8)×Int×Int)->Option Out) (a1:Arg) (c406:Int) (z608:(Unit)):Option Out:=l1 (a1.1,c406,(0:Int))
noncomputable def Q0 (k:Nat) (a1:Arg) (c406:Int) (z608:(Unit)):Option Out:=q0 (r1 k a1 c406) a1 c406 z608
theorem q0_eq (k:Nat) (a1:Arg) (c406:Int) (z608:(Unit)):X0_0 (blockC 0 (seqC (codeK E k fin (sub [1,1,1,1,1] C)) K0)) a1 c406 z608=q0 (s1 k a1 c406) a1 c406 z608:=by kernel_rfl
theorem Q0_eq (k:Nat) (a1:Arg) (c406:Int) (z608:(Unit)):X0_0 (blockC 0 (seqC (codeK E k fin (sub [1,1,1,1,1] C)) K0)) a1 c406 z608=Q0 k a1 c406 z608:=(q0_eq k a1 c406 z608).trans (by rw[s1_eq];rfl)
noncomputable def s0 (k:Nat) (a1:Arg):Int->(Int)->Option Out:=fun c406 v405=>iterK (N0 k) M0 (blockC 0 (seqC (codeK E k fin (sub [1,1,1,1,1] C)) K0)) k (T0 a1 c406 v405)
noncomputable def r0 (k:Nat) (a1:Arg):Int->(Int)->Option Out:=fun c406 v405=>l0 k a1 c406 (fun z=>Q0 k a1 c406 z) v405
theorem s0_eq (k:Nat) (a1:Arg):s0 k a1=r0 k a1:=by
 funext c406;funext v405;
 have h0:X0_0 ((blockC 0 (seqC (codeK E k fin (sub [1,1,1,1,1] C)) K0))) a1 c406=fun z=>Q0 k a1 c406 z:=funext fun z=>Q0_eq k a1 c406 z
 refine (l0_eq k ((blockC 0 (seqC (codeK E k fin (sub [1,1,1,1,1] C)) K0))) a1 c406 v405).trans ?_
 rw[h0]
 rfl
noncomputable def p (l0:Int->(Int)->Option Out) (a1:Arg):Option Out:=bif !decide ((a1.1.length:Int)=(64:Int)) then (some ((1:Int),())) else (spec_l2Count.sem (a1.1,())).bind fun r2=>bif decide ((16:Int) < r2.1) then (some ((3:Int),())) else (spec_l2Low.sem (a1.1,())).bind fun r3=>bif decide (r3.1 < w64 ((2:Int)+(w64 ((2:Int)*r2.1)))) then (some ((3:Int),())) else (spec_l2Low.sem (a1.1,())).bind fun r4=>bif decide ((64:Int) < r4.1) then (some ((3:Int),())) else l0 r2.1 (0:Int)
noncomputable def raw (k:Nat) (a1:Arg):Option Out:=p (r0 k a1) a1
theorem p_eq (k:Nat) (a1:Arg):W k a1=p (s0 k a1) a1:=by kernel_rfl
theorem raw_eq (k:Nat) (a1:Arg):W k a1=raw k a1:=(p_eq k a1).trans (by rw[s0_eq];rfl)
theorem ok:Ok prog 205 sig:=fn_ok func205 (tl:=tl) (gl:=gl) (es:=[]) (fr:=[]) rfl rfl (by kernel_rfl) (fc spec_l2Count.ok (fc spec_l2Size.ok (fc spec_l2Low.ok (fc spec_l2Slot.ok (fc spec_l2Apart.ok (fn_nil _)))))) (fun _=>rfl)
end spec_l2Fault
namespace spec_l1In
abbrev Arg:Type:=Int×Int×Int×Unit
abbrev Out:Type:=Bool×Unit
noncomputable def ps:PQ:=[(.ro,i64),(.ro,i64),(.ro,i64)]
noncomputable def rs:RQ:=[(.bool,(roMd .bool))]
noncomputable def tl:TL:=[]
noncomputable def gl:GL:=[]
noncomputable def E:Env:={ TI:=lookN tl,G:=lookN gl }
noncomputable def W (k:Nat) (a:Arg):Option Out:=bodyK E k f123 ps rs [] [] a
noncomputable def sem (a:Arg):Option Out:=lift fun k=>W k a
noncomputable def sig:Sig:={ ps:=ps,rs:=rs,F:=sem }
noncomputable def p (a1:Arg):Option Out:=bif decide (a1.2.1<=a1.1) then (some (decide (a1.1<=a1.2.2.1),())) else some (false,())
noncomputable def raw (k:Nat) (a1:Arg):Option Out:=p a1
theorem raw_eq (k:Nat) (a1:Arg):W k a1=raw k a1:=by kernel_rfl
theorem ok:Ok prog 123 sig:=fn_ok func123 (tl:=tl) (gl:=gl) (es:=[]) (fr:=[]) rfl rfl (by kernel_rfl) (fn_nil _) (fun _=>rfl)
end spec_l1In
namespace spec_l1Text
abbrev Arg:Type:=(List UInt8)×Unit
abbrev Out:Type:=Bool×Unit
noncomputable def ps:PQ:=[(.ro,.str)]
noncomputable def rs:RQ:=[(.bool,(roMd .bool))]
noncomputable def tl:TL:=[(9,.str)]
noncomputable def gl:GL:=[]
noncomputable def E:Env:={ TI:=lookN tl,G:=lookN gl,lv:=[(2,[0,3])],lx:=[(0,[0])] }
noncomputable def W (k:Nat) (a:Arg):Option Out:=bodyK E k f124 ps rs [] [] a
noncomputable def sem (a:Arg):Option Out:=lift fun k=>W k a
noncomputable def sig:Sig:={ ps:=ps,rs:=rs,F:=sem }
noncomputable def C:Code:=bodyOf f124
noncomputable def fin:St->Option Out:=outK ps rs [] (Func.results f124).toList (mvs [])
noncomputable def K0:Ex->St->Option Out:=endK fin
noncomputable def T0 (a1:Arg) (v402:Int):St:={ n:=23,sl:=[(0,.val .str a1.1),(3,.val i64 v402)],vr:=[],lent:=[] }
noncomputable def N0 (k:Nat):St->(Ex->St->Option Out)->Option Out:=codeK E k fin (sub [1,0,1,0,0] C)
noncomputable def M0:St->St:=keepF [0,3] []
noncomputable def S0 (rec:RT Out) (a1:Arg):(Int)->Option Out:=fun v402=>rec (T0 a1 v402)
noncomputable def X0_0 (K:KT Out) (a1:Arg):(Unit)->Option Out:=fun z=>K (.exit 0) ({ n:=23,sl:=[(0,.val .str a1.1)],vr:=[],lent:=[] })
noncomputable def b0 (self:Int->Option Out) (e0:(Unit)->Option Out) (a1:Arg) (v402:Int):Option Out:=bif decide (v402 < (a1.1.length:Int)) then (if 0<=v402 then ((a1.1[v402.toNat]?).bind fun x603=>bif decide ((x603.toNat:Int) < (97:Int)) then (some (false,())) else if 0<=v402 then ((a1.1[v402.toNat]?).bind fun x604=>bif decide ((122:Int) < (x604.toNat:Int)) then (some (false,())) else self (w64 (v402+(1:Int)))) else none) else none) else e0 ()
noncomputable def B0 (k:Nat) (self:Int->Option Out) (e0:(Unit)->Option Out) (a1:Arg) (v402:Int):Option Out:=b0 self e0 a1 v402
theorem B0_eq (k:Nat) (rec:RT Out) (K:KT Out) (a1:Arg) (v402:Int):N0 k (T0 a1 v402) (loopC rec M0 K)=B0 k (S0 rec a1) (X0_0 K a1) a1 v402:=by kernel_rfl
noncomputable def l0 (k:Nat) (a1:Arg) (e0:(Unit)->Option Out) (v:Int):Option Out:=rawIter (fun self v=>B0 k self e0 a1 v) k v
theorem l0_eq (k:Nat) (K:KT Out) (a1:Arg) (v402:Int):iterK (N0 k) M0 K k (T0 a1 v402)=l0 k a1 (X0_0 K a1) v402:=
 iter_raw _ _ K (fun v402=>(T0 a1 v402)) (fun self v=>B0 k self (X0_0 K a1) a1 v) (fun rec v=>B0_eq k rec K a1 v) k v402
noncomputable def q0 (a1:Arg) (z605:(Unit)):Option Out:=some (decide ((a1.1.length:Int)<=(8:Int)),())
noncomputable def Q0 (k:Nat) (a1:Arg) (z605:(Unit)):Option Out:=q0 a1 z605
theorem Q0_eq (k:Nat) (a1:Arg) (z605:(Unit)):X0_0 (blockC 0 (seqC (codeK E k fin (sub [1,1] C)) K0)) a1 z605=Q0 k a1 z605:=by kernel_rfl
noncomputable def s0 (k:Nat) (a1:Arg):(Int)->Option Out:=fun v402=>iterK (N0 k) M0 (blockC 0 (seqC (codeK E k fin (sub [1,1] C)) K0)) k (T0 a1 v402)
noncomputable def r0 (k:Nat) (a1:Arg):(Int)->Option Out:=fun v402=>l0 k a1 (fun z=>Q0 k a1 z) v402
theorem s0_eq (k:Nat) (a1:Arg):s0 k a1=r0 k a1:=by
 funext v402;
 have h0:X0_0 ((blockC 0 (seqC (codeK E k fin (sub [1,1] C)) K0))) a1=fun z=>Q0 k a1 z:=funext fun z=>Q0_eq k a1 z
 refine (l0_eq k ((blockC 0 (seqC (codeK E k fin (sub [1,1] C)) K0))) a1 v402).trans ?_
 rw[h0]
 rfl
noncomputable def p (l0:(Int)->Option Out) (a1:Arg):Option Out:=l0 (0:Int)
noncomputable def raw (k:Nat) (a1:Arg):Option Out:=p (r0 k a1) a1
theorem p_eq (k:Nat) (a1:Arg):W k a1=p (s0 k a1) a1:=by kernel_rfl
theorem raw_eq (k:Nat) (a1:Arg):W k a1=raw k a1:=(p_eq k a1).trans (by rw[s0_eq];rfl)
theorem ok:Ok prog 124 sig:=fn_ok func124 (tl:=tl) (gl:=gl) (es:=[]) (fr:=[]) rfl rfl (by kernel_rfl) (fn_nil _) (fun _=>rfl)
end spec_l1Text
namespace spec_l1Fault
abbrev Arg:Type:=Row×Unit
abbrev Out:Type:=Int×Unit
noncomputable def ps:PQ:=[(.ro,(.ptr tRow))]
noncomputable def rs:RQ:=[(i64,(roMd i64))]
noncomputable def tl:TL:=[(2,i64),(9,.str),(32,tRow)]
noncomputable def gl:GL:=[(123,spec_l1In.sig),(124,spec_l1Text.sig)]
noncomputable def E:Env:={ TI:=lookN tl,G:=lookN gl }
noncomputable def W (k:Nat) (a:Arg):Option Out:=bodyK E k f55 ps rs [] [] a
noncomputable def sem (a:Arg):Option Out:=lift fun k=>W k a
noncomputable def sig:Sig:={ ps:=ps,rs:=rs,F:=sem }
noncomputable def p (a1:Arg):Option Out:=(spec_l1In.sem (a1.1.1,(0:Int),(3:Int),())).bind fun r2=>bif !r2.1 then (some ((3:Int),())) else (spec_l1In.sem (a1.1.2.1,(1:Int),(99:Int),())).bind fun r3=>bif !r3.1 then (some ((3:Int),())) else (spec_l1In.sem (a1.1.2.2.1,(0:Int),(999:Int),())).bind fun r4=>bif !r4.1 then (some ((3:Int),())) else (spec_l1Text.sem (a1.1.2.2.2.1,())).bind fun r5=>bif !r5.1 then (some ((5:Int),())) else some ((0:Int),())
noncomputable def raw (k:Nat) (a1:Arg):Option Out:=p a1
theorem raw_eq (k:Nat) (a1:Arg):W k a1=raw k a1:=by kernel_rfl
theorem ok:Ok prog 55 sig:=fn_ok func55 (tl:=tl) (gl:=gl) (es:=[]) (fr:=[]) rfl rfl (by kernel_rfl) (fc spec_l1In.ok (fc spec_l1Text.ok (fn_nil _))) (fun _=>rfl)
end spec_l1Fault
namespace spec_l1Place
abbrev Arg:Type:=Int×Int×Unit
abbrev Out:Type:=Bool×Unit
noncomputable def ps:PQ:=[(.ro,i64),(.ro,i64)]
noncomputable def rs:RQ:=[(.bool,(roMd .bool))]
noncomputable def tl:TL:=[]
noncomputable def gl:GL:=[(123,spec_l1In.sig)]
noncomputable def E:Env:={ TI:=lookN tl,G:=lookN gl }
noncomputable def W (k:Nat) (a:Arg):Option Out:=bodyK E k f269 ps rs [] [] a
noncomputable def sem (a:Arg):Option Out:=lift fun k=>W k a
noncomputable def sig:Sig:={ ps:=ps,rs:=rs,F:=sem }
noncomputable def p (a1:Arg):Option Out:=(spec_l1In.sem (a1.1,(0:Int),(11:Int),())).bind fun r2=>bif r2.1 then ((spec_l1In.sem (a1.2.1,(0:Int),(15:Int),())).bind fun r3=>some (r3.1,())) else some (false,())
noncomputable def raw (k:Nat) (a1:Arg):Option Out:=p a1
theorem raw_eq (k:Nat) (a1:Arg):W k a1=raw k a1:=by kernel_rfl
theorem ok:Ok prog 269 sig:=fn_ok func269 (tl:=tl) (gl:=gl) (es:=[]) (fr:=[]) rfl rfl (by kernel_rfl) (fc spec_l1In.ok (fn_nil _)) (fun _=>rfl)
end spec_l1Place
namespace spec_l1Read
abbrev Arg:Type:=(List UInt8)×Unit
abbrev Out:Type:=CellResult×Bool×Unit
noncomputable def ps:PQ:=[(.ro,(.slc u8))]
noncomputable def rs:RQ:=[(tCellResult,(roMd tCellResult)),(.bool,(roMd .bool))]
noncomputable def tl:TL:=[(2,i64),(3,i64),(5,u8),(9,.str),(32,tRow),(46,(.slc u8)),(102,tCellResult)]
noncomputable def gl:GL:=[(55,spec_l1Fault.sig),(269,spec_l1Place.sig)]
noncomputable def E:Env:={ TI:=lookN tl,G:=lookN gl,od:=[(2,[0,1,2,3,4,5,6,7,8,9,10]),(3,[0,1,2,3,4,5,6,7]),(6,[0,1,2,3,4,5,6,7,8,9,10,11,12,13,14,15,16,17,18,19,20,21,22,23]),(7,[0,1,2,3,4,5,6,7,8,9])] }
noncomputable def W (k:Nat) (a:Arg):Option Out:=bodyK E k f208 ps rs [] [] a
noncomputable def sem (a:Arg):Option Out:=lift fun k=>W k a
noncomputable def sig:Sig:={ ps:=ps,rs:=rs,F:=sem }
noncomputable def p (a1:Arg):Option Out:=let j16:Option Out:=bif decide ((a1.1.length:Int) < (6:Int)) then (some (((0:Int),(0:Int),(0:Int),(0:Int),((0:Int),(0:Int),(0:Int),([]:List UInt8),()),()),false,())) else (a1.1[0]?).bind fun x17=>bif decide ((x17.toNat:Int)=(1:Int)) then (some (((0:Int),(0:Int),(0:Int),(0:Int),((0:Int),(0:Int),(0:Int),([]:List UInt8),()),()),false,())) else (a1.1[0]?).bind fun x18=>bif decide ((2:Int) < (x18.toNat:Int)) then (some (((0:Int),(0:Int),(0:Int),(0:Int),((0:Int),(0:Int),(0:Int),([]:List UInt8),()),()),false,())) else (a1.1[5]?).bind fun x19=>bif !decide ((a1.1.length:Int)=w64 ((6:Int)+(w64 (x19.toNat:Int)))) then (some (((0:Int),(0:Int),(0:Int),(0:Int),((0:Int),(0:Int),(0:Int),([]:List UInt8),()),()),false,())) else (a1.1[1]?).bind fun x20=>(a1.1[2]?).bind fun x21=>(a1.1[3]?).bind fun x22=>(a1.1[4]?).bind fun x23=>if 0<=(6:Int)/\(6:Int)<=(a1.1.length:Int) then (let y24:=w64 ((w64 ((w64 (x22.toNat:Int))*(256:Int)))+(w64 (x23.toNat:Int)));(a1.1[0]?).bind fun x25=>(spec_l1Fault.sem ((w64 (x20.toNat:Int),w64 (x21.toNat:Int),y24,(a1.1.take a1.1.length).drop 6,()),())).bind fun r26=>some (((0:Int),w64 (x25.toNat:Int),(0:Int),(0:Int),(w64 (x20.toNat:Int),w64 (x21.toNat:Int),y24,(a1.1.take a1.1.length).drop 6,()),()),decide (r26.1=(0:Int)),())) else none;bif decide ((a1.1.length:Int)=(3:Int)) then ((a1.1[0]?).bind fun x2=>bif decide ((x2.toNat:Int)=(1:Int)) then ((a1.1[1]?).bind fun x3=>(a1.1[2]?).bind fun x4=>(spec_l1Place.sem (w64 (x3.toNat:Int),w64 (x4.toNat:Int),())).bind fun r5=>some (((0:Int),(1:Int),w64 (x3.toNat:Int),w64 (x4.toNat:Int),((0:Int),(0:Int),(0:Int),([]:List UInt8),()),()),r5.1,())) else j16) else j16
noncomputable def raw (k:Nat) (a1:Arg):Option Out:=p a1
theorem raw_eq (k:Nat) (a1:Arg):W k a1=raw k a1:=by kernel_rfl
theorem ok:Ok prog 208 sig:=fn_ok func208 (tl:=tl) (gl:=gl) (es:=[]) (fr:=[]) rfl rfl (by kernel_rfl) (fc spec_l1Fault.ok (fc spec_l1Place.ok (fn_nil _))) (fun _=>rfl)
end spec_l1Read
namespace spec_l2Cell
abbrev Arg:Type:=(List UInt8)×Int×Unit
abbrev Out:Type:=(List UInt8)×Unit
noncomputable def ps:PQ:=[(.ro,(.slc u8)),(.ro,i64)]
noncomputable def rs:RQ:=[((.slc u8),(ownMd (.slc u8)))]
noncomputable def tl:TL:=[(46,(.slc u8))]
noncomputable def gl:GL:=[(207,spec_l2Size.sig),(270,spec_l2Place.sig)]
noncomputable def E:Env:={ TI:=lookN tl,G:=lookN gl }
noncomputable def W (k:Nat) (a:Arg):Option Out:=bodyK E k f209 ps rs [] [] a
noncomputable def sem (a:Arg):Option Out:=lift fun k=>W k a
noncomputable def sig:Sig:={ ps:=ps,rs:=rs,F:=sem }
noncomputable def p (a1:Arg):Option Out:=(spec_l2Place.sem (a1.1,a1.2.1,())).bind fun r2=>(spec_l2Size.sem (a1.1,a1.2.1,())).bind fun r3=>if 0<=r2.1/\r2.1<=w64 (r2.1+r3.1)/\w64 (r2.1+r3.1)<=(a1.1.length:Int) then (if ([]:List UInt8).length+((a1.1.take (w64 (r2.1+r3.1)).toNat).drop r2.1.toNat).length<=CAP then (let y4:=([]:List UInt8)++((a1.1.take (w64 (r2.1+r3.1)).toNat).drop r2.1.toNat);some (y4,())) else none) else none
noncomputable def raw (k:Nat) (a1:Arg):Option Out:=p a1
theorem raw_eq (k:Nat) (a1:Arg):W k a1=raw k a1:=by kernel_rfl
theorem ok:Ok prog 209 sig:=fn_ok func209 (tl:=tl) (gl:=gl) (es:=[]) (fr:=[]) rfl rfl (by kernel_rfl) (fc spec_l2Size.ok (fc spec_l2Place.ok (fn_nil _))) (fun _=>rfl)
end spec_l2Cell
namespace spec_l6Cells
abbrev Arg:Type:=(List (List UInt8))×Unit
abbrev Out:Type:=Int×Unit
noncomputable def ps:PQ:=[(.ro,(.slc (.slc u8)))]
noncomputable def rs:RQ:=[(i64,(roMd i64))]
noncomputable def tl:TL:=[(22,(.slc (.slc u8))),(46,(.slc u8)),(102,tCellResult)]
noncomputable def gl:GL:=[(205,spec_l2Fault.sig),(206,spec_l2Count.sig),(207,spec_l2Size.sig),(208,spec_l1Read.sig),(209,spec_l2Cell.sig)]
noncomputable def E:Env:={ TI:=lookN tl,G:=lookN gl,lv:=[(2,[0,3]),(8,[0,3,5])],lx:=[(0,[]),(2,[0,3])] }
noncomputable def W (k:Nat) (a:Arg):Option Out:=bodyK E k f119 ps rs [] [] a
noncomputable def sem (a:Arg):Option Out:=lift fun k=>W k a
noncomputable def sig:Sig:={ ps:=ps,rs:=rs,F:=sem }
noncomputable def C:Code:=bodyOf f119
noncomputable def fin:St->Option Out:=outK ps rs [] (Func.results f119).toList (mvs [])
noncomputable def K0:Ex->St->Option Out:=endK fin
noncomputable def T0 (a1:Arg) (v402:(List (List UInt8))×Int):St:={ n:=50,sl:=[(0,.val (.slc (.slc u8)) v402.1),(3,.val i64 v402.2)],vr:=[],lent:=[] }
noncomputable def N0 (k:Nat):St->(Ex->St->Option Out)->Option Out:=codeK E k fin (sub [1,0,1,0,0] C)
noncomputable def M0:St->St:=keepF [0,3] []
noncomputable def S0 (rec:RT Out) (a1:Arg):((List (List UInt8))×Int)->Option Out:=fun v402=>rec (T0 a1 v402)
noncomputable def X0_0 (K:KT Out) (a1:Arg):(Unit)->Option Out:=fun z=>K (.exit 0) ({ n:=50,sl:=[],vr:=[],lent:=[] })
noncomputable def T1 (a1:Arg) (c1006:List (List UInt8)) (c1007:Int) (v1005:Int):St:={ n:=50,sl:=[(0,.val (.slc (.slc u8)) c1006),(3,.val i64 c1007),(5,.val i64 v1005)],vr:=[],lent:=[] }
noncomputable def N1 (k:Nat):St->(Ex->St->Option Out)->Option Out:=codeK E k fin (sub [1,0,1,0,0,1,0,0,1,1,0,0] C)
noncomputable def M1:St->St:=keepF [0,3,5] []
noncomputable def S1 (rec:RT Out) (a1:Arg) (c1006:List (List UInt8)) (c1007:Int):(Int)->Option Out:=fun v1005=>rec (T1 a1 c1006 c1007 v1005)
noncomputable def X1_2 (K:KT Out) (a1:Arg) (c1006:List (List UInt8)) (c1007:Int):(Unit)->Option Out:=fun z=>K (.exit 2) ({ n:=50,sl:=[(0,.val (.slc (.slc u8)) c1006),(3,.val i64 c1007)],vr:=[],lent:=[] })
noncomputable def b1 (self:Int->Option Out) (e2:(Unit)->Option Out) (a1:Arg) (c1006:List (List UInt8)) (c1007:Int) (v1005:Int):Option Out:=if 0<=c1007 then ((c1006[c1007.toNat]?).bind fun x1208=>(spec_l2Count.sem (x1208,())).bind fun r1209=>bif decide (v1005 < r1209.1) then (if 0<=c1007 then ((c1006[c1007.toNat]?).bind fun x1210=>(spec_l2Size.sem (x1210,v1005,())).bind fun r1211=>bif decide ((0:Int) < r1211.1) then (if 0<=c1007 then ((c1006[c1007.toNat]?).bind fun x1212=>(spec_l2Cell.sem (x1212,v1005,())).bind fun r1213=>(spec_l1Read.sem (r1213.1,())).bind fun r1214=>bif !r1214.2.1 then (some ((5:Int),())) else self (w64 (v1005+(1:Int)))) else none) else self (w64 (v1005+(1:Int)))) else none) else e2 ()) else none
noncomputable def B1 (k:Nat) (self:Int->Option Out) (e2:(Unit)->Option Out) (a1:Arg) (c1006:List (List UInt8)) (c1007:Int) (v1005:Int):Option Out:=b1 self e2 a1 c1006 c1007 v1005
theorem B1_eq (k:Nat) (rec:RT Out) (K:KT Out) (a1:Arg) (c1006:List (List UInt8)) (c1007:Int) (v1005:Int):N1 k (T1 a1 c1006 c1007 v1005) (loopC rec M1 K)=B1 k (S1 rec a1 c1006 c1007) (X1_2 K a1 c1006 c1007) a1 c1006 c1007 v1005:=by kernel_rfl
noncomputable def l1 (k:Nat) (a1:Arg) (c1006:List (List UInt8)) (c1007:Int) (e2:(Unit)->Option Out) (v:Int):Option Out:=rawIter (fun self v=>B1 k self e2 a1 c1006 c1007 v) k v
theorem l1_eq (k:Nat) (K:KT Out) (a1:Arg) (c1006:List (List UInt8)) (c1007:Int) (v1005:Int):iterK (N1 k) M1 K k (T1 a1 c1006 c1007 v1005)=l1 k a1 c1006 c1007 (X1_2 K a1 c1006 c1007) v1005:=
 iter_raw _ _ K (fun v1005=>(T1 a1 c1006 c1007 v1005)) (fun self v=>B1 k self (X1_2 K a1 c1006 c1007) a1 c1006 c1007 v) (fun rec v=>B1_eq k rec K a1 c1006 c1007 v) k v1005
noncomputable def q0 (self:((List (List UInt8))×Int)->Option Out) (e0:(Unit)->Option Out) (a1:Arg) (c1006:List (List UInt8)) (c1007:Int) (z1215:(Unit)):Option Out:=self (c1006,w64 (c1007+(1:Int)))
noncomputable def Q0 (k:Nat) (self:((List (List UInt8))×Int)->Option Out) (e0:(Unit)->Option Out) (a1:Arg) (c1006:List (List UInt8)) (c1007:Int) (z1215:(Unit)):Option Out:=q0 self e0 a1 c1006 c1007 z1215
theorem Q0_eq (k:Nat) (rec:RT Out) (K:KT Out) (a1:Arg) (c1006:List (List UInt8)) (c1007:Int) (z1215:(Unit)):X1_2 (blockC 2 (blockC 1 (seqC (codeK E k fin (sub [1,0,1,0,0,1,1] C)) (loopC rec (keepF [0,3] []) K)))) a1 c1006 c1007 z1215=Q0 k (S0 rec a1) (X0_0 K a1) a1 c1006 c1007 z1215:=by kernel_rfl
noncomputable def s1 (k:Nat) (rec:RT Out) (K:KT Out) (a1:Arg):(List (List UInt8))->Int->(Int)->Option Out:=fun c1006 c1007 v1005=>iterK (N1 k) M1 (blockC 2 (blockC 1 (seqC (codeK E k fin (sub [1,0,1,0,0,1,1] C)) (loopC rec (keepF [0,3] []) K)))) k (T1 a1 c1006 c1007 v1005)
noncomputable def r1 (k:Nat) (self:((List (List UInt8))×Int)->Option Out) (e0:(Unit)->Option Out) (a1:Arg):(List (List UInt8))->Int->(Int)->Option Out:=fun c1006 c1007 v1005=>l1 k a1 c1006 c1007 (fun z=>Q0 k self e0 a1 c1006 c1007 z) v1005
theorem s1_eq (k:Nat) (rec:RT Out) (K:KT Out) (a1:Arg):s1 k rec K a1=r1 k (S0 rec a1) (X0_0 K a1) a1:=by
 funext c1006;funext c1007;funext v1005;
 have h2:X1_2 ((blockC 2 (blockC 1 (seqC (codeK E k fin (sub [1,0,1,0,0,1,1] C)) (loopC rec (keepF [0,3] []) K))))) a1 c1006 c1007=fun z=>Q0 k (S0 rec a1) (X0_0 K a1) a1 c1006 c1007 z:=funext fun z=>Q0_eq k rec K a1 c1006 c1007 z
 refine (l1_eq k ((blockC 2 (blockC 1 (seqC (codeK E k fin (sub [1,0,1,0,0,1,1] C)) (loopC rec (keepF [0,3] []) K))))) a1 c1006 c1007 v1005).trans ?_
 rw[h2]
 rfl
noncomputable def b0 (self:((List (List UInt8))×Int)->Option Out) (e0:(Unit)->Option Out) (l1:(List (List UInt8))->Int->(Int)->Option Out) (a1:Arg) (v402:(List (List UInt8))×Int):Option Out:=bif decide (v402.2 < (v402.1.length:Int)) then (if 0<=v402.2 then ((v402.1[v402.2.toNat]?).bind fun x603=>(spec_l2Fault.sem (x603,())).bind fun r604=>bif !decide (r604.1=(0:Int)) then (some (r604.1,())) else l1 v402.1 v402.2 (0:Int)) else none) else e0 ()
noncomputable def B0 (k:Nat) (self:((List (List UInt8))×Int)->Option Out) (e0:(Unit)->Option Out) (a1:Arg) (v402:(List (List UInt8))×Int):Option Out:=b0 self e0 (r1 k self e0 a1) a1 v402
theorem b0_eq (k:Nat) (rec:RT Out) (K:KT Out) (a1:Arg) (v402:(List (List UInt8))×Int):N0 k (T0 a1 v402) (loopC rec M0 K)=b0 (S0 rec a1) (X0_0 K a1) (s1 k rec K a1) a1 v402:=by kernel_rfl
theorem B0_eq (k:Nat) (rec:RT Out) (K:KT Out) (a1:Arg) (v402:(List (List UInt8))×Int):N0 k (T0 a1 v402) (loopC rec M0 K)=B0 k (S0 rec a1) (X0_0 K a1) a1 v402:=(b0_eq k rec K a1 v402).trans (by rw[s1_eq];rfl)
noncomputable def l0 (k:Nat) (a1:Arg) (e0:(Unit)->Option Out) (v:(List (List UInt8))×Int):Option Out:=rawIter (fun self v=>B0 k self e0 a1 v) k v
theorem l0_eq (k:Nat) (K:KT Out) (a1:Arg) (v402:(List (List UInt8))×Int):iterK (N0 k) M0 K k (T0 a1 v402)=l0 k a1 (X0_0 K a1) v402:=
 iter_raw _ _ K (fun v402=>(T0 a1 v402)) (fun self v=>B0 k self (X0_0 K a1) a1 v) (fun rec v=>B0_eq k rec K a1 v) k v402
noncomputable def q1 (a1:Arg) (z1216:(Unit)):Option Out:=some ((0:Int),())
noncomputable def Q1 (k:Nat) (a1:Arg) (z1216:(Unit)):Option Out:=q1 a1 z1216
theorem Q1_eq (k:Nat) (a1:Arg) (z1216:(Unit)):X0_0 (blockC 0 (seqC (codeK E k fin (sub [1,1] C)) K0)) a1 z1216=Q1 k a1 z1216:=by kernel_rfl
noncomputable def s0 (k:Nat) (a1:Arg):((List (List UInt8))×Int)->Option Out:=fun v402=>iterK (N0 k) M0 (blockC 0 (seqC (codeK E k fin (sub [1,1] C)) K0)) k (T0 a1 v402)
noncomputable def r0 (k:Nat) (a1:Arg):((List (List UInt8))×Int)->Option Out:=fun v402=>l0 k a1 (fun z=>Q1 k a1 z) v402
theorem s0_eq (k:Nat) (a1:Arg):s0 k a1=r0 k a1:=by
 funext v402;
 have h0:X0_0 ((blockC 0 (seqC (codeK E k fin (sub [1,1] C)) K0))) a1=fun z=>Q1 k a1 z:=funext fun z=>Q1_eq k a1 z
 refine (l0_eq k ((blockC 0 (seqC (codeK E k fin (sub [1,1] C)) K0))) a1 v402).trans ?_
 rw[h0]
 rfl
noncomputable def p (l0:((List (List UInt8))×Int)->Option Out) (a1:Arg):Option Out:=l0 (a1.1,(0:Int))
noncomputable def raw (k:Nat) (a1:Arg):Option Out:=p (r0 k a1) a1
theorem p_eq (k:Nat) (a1:Arg):W k a1=p (s0 k a1) a1:=by kernel_rfl
theorem raw_eq (k:Nat) (a1:Arg):W k a1=raw k a1:=(p_eq k a1).trans (by rw[s0_eq];rfl)
theorem ok:Ok prog 119 sig:=fn_ok func119 (tl:=tl) (gl:=gl) (es:=[]) (fr:=[]) rfl rfl (by kernel_rfl) (fc spec_l2Fault.ok (fc spec_l2Count.ok (fc spec_l2Size.ok (fc spec_l1Read.ok (fc spec_l2Cell.ok (fn_nil _)))))) (fun _=>rfl)
end spec_l6Cells
namespace spec_l2Has
abbrev Arg:Type:=(List UInt8)×Int×Unit
abbrev Out:Type:=Bool×Unit
noncomputable def ps:PQ:=[(.ro,(.slc u8)),(.ro,i64)]
noncomputable def rs:RQ:=[(.bool,(roMd .bool))]
noncomputable def tl:TL:=[]
noncomputable def gl:GL:=[(123,spec_l1In.sig),(206,spec_l2Count.sig),(207,spec_l2Size.sig)]
noncomputable def E:Env:={ TI:=lookN tl,G:=lookN gl }
noncomputable def W (k:Nat) (a:Arg):Option Out:=bodyK E k f271 ps rs [] [] a
noncomputable def sem (a:Arg):Option Out:=lift fun k=>W k a
noncomputable def sig:Sig:={ ps:=ps,rs:=rs,F:=sem }
noncomputable def p (a1:Arg):Option Out:=(spec_l2Count.sem (a1.1,())).bind fun r2=>(spec_l1In.sem (a1.2.1,(0:Int),w64 (r2.1 - (1:Int)),())).bind fun r3=>bif r3.1 then ((spec_l2Size.sem (a1.1,a1.2.1,())).bind fun r4=>some (decide ((0:Int) < r4.1),())) else some (false,())
noncomputable def raw (k:Nat) (a1:Arg):Option Out:=p a1
theorem raw_eq (k:Nat) (a1:Arg):W k a1=raw k a1:=by kernel_rfl
theorem ok:Ok prog 271 sig:=fn_ok func271 (tl:=tl) (gl:=gl) (es:=[]) (fr:=[]) rfl rfl (by kernel_rfl) (fc spec_l1In.ok (fc spec_l2Count.ok (fc spec_l2Size.ok (fn_nil _)))) (fun _=>rfl)
end spec_l2Has
namespace spec_l6Cell
abbrev Arg:Type:=(List (List UInt8))×Int×Int×Unit
abbrev Out:Type:=CellResult×Bool×Unit
noncomputable def ps:PQ:=[(.ro,(.slc (.slc u8))),(.ro,i64),(.ro,i64)]
noncomputable def rs:RQ:=[(tCellResult,(roMd tCellResult)),(.bool,(roMd .bool))]
noncomputable def tl:TL:=[(22,(.slc (.slc u8))),(46,(.slc u8)),(102,tCellResult)]
noncomputable def gl:GL:=[(123,spec_l1In.sig),(208,spec_l1Read.sig),(209,spec_l2Cell.sig),(271,spec_l2Has.sig)]
noncomputable def E:Env:={ TI:=lookN tl,G:=lookN gl }
noncomputable def W (k:Nat) (a:Arg):Option Out:=bodyK E k f210 ps rs [] [] a
noncomputable def sem (a:Arg):Option Out:=lift fun k=>W k a
noncomputable def sig:Sig:={ ps:=ps,rs:=rs,F:=sem }
noncomputable def p (a1:Arg):Option Out:=(spec_l1In.sem (a1.2.1,(0:Int),w64 ((a1.1.length:Int) - (1:Int)),())).bind fun r2=>bif !r2.1 then (some (((0:Int),(0:Int),(0:Int),(0:Int),((0:Int),(0:Int),(0:Int),([]:List UInt8),()),()),false,())) else if 0<=a1.2.1 then ((a1.1[a1.2.1.toNat]?).bind fun x3=>(spec_l2Has.sem (x3,a1.2.2.1,())).bind fun r4=>bif !r4.1 then (some (((0:Int),(0:Int),(0:Int),(0:Int),((0:Int),(0:Int),(0:Int),([]:List UInt8),()),()),false,())) else if 0<=a1.2.1 then ((a1.1[a1.2.1.toNat]?).bind fun x5=>(spec_l2Cell.sem (x5,a1.2.2.1,())).bind fun r6=>(spec_l1Read.sem (r6.1,())).bind fun r7=>some (r7.1,r7.2.1,())) else none) else none
noncomputable def raw (k:Nat) (a1:Arg):Option Out:=p a1
theorem raw_eq (k:Nat) (a1:Arg):W k a1=raw k a1:=by kernel_rfl
theorem ok:Ok prog 210 sig:=fn_ok func210 (tl:=tl) (gl:=gl) (es:=[]) (fr:=[]) rfl rfl (by kernel_rfl) (fc spec_l1In.ok (fc spec_l1Read.ok (fc spec_l2Cell.ok (fc spec_l2Has.ok (fn_nil _))))) (fun _=>rfl)
end spec_l6Cell
namespace spec_l6Stubs
abbrev Arg:Type:=(List L6Spot)×(List (List UInt8))×Unit
abbrev Out:Type:=Int×Unit
noncomputable def ps:PQ:=[(.ro,(.slc tL6Spot)),(.ro,(.slc (.slc u8)))]
noncomputable def rs:RQ:=[(i64,(roMd i64))]
noncomputable def tl:TL:=[(2,i64),(102,tCellResult),(104,tL6Spot),(188,(.slc tL6Spot))]
noncomputable def gl:GL:=[(210,spec_l6Cell.sig)]
noncomputable def E:Env:={ TI:=lookN tl,G:=lookN gl,lv:=[(2,[0,1,5]),(9,[0,8]),(12,[0,8,9])],lx:=[(0,[0]),(1,[0,1,5]),(2,[]),(4,[0,8])],od:=[(5,[0,1,2,3,4,5,6,7,8,9,10,11,12,13,14,15,16,17,18,19]),(16,[0,1,2,3,4,5,6,7,8,9,10,11,12,13,14,15,16,17,18,19,20,21,22,23,24,25,26,27,28,29,30,31,32,33])],ar:=[(5,[6,12])],pd:=[(5,[17])] }
noncomputable def W (k:Nat) (a:Arg):Option Out:=bodyK E k f120 ps rs [] [] a
noncomputable def sem (a:Arg):Option Out:=lift fun k=>W k a
noncomputable def sig:Sig:={ ps:=ps,rs:=rs,F:=sem }
noncomputable def C:Code:=bodyOf f120
noncomputable def fin:St->Option Out:=outK ps rs [] (Func.results f120).toList (mvs [])
noncomputable def K0:Ex->St->Option Out:=endK fin
noncomputable def T0 (a1:Arg) (v402:Int):St:={ n:=102,sl:=[(0,.val (.slc tL6Spot) a1.1),(1,.val (.slc (.slc u8)) a1.2.1),(5,.val i64 v402)],vr:=[],lent:=[] }
noncomputable def N0 (k:Nat):St->(Ex->St->Option Out)->Option Out:=codeK E k fin (sub [1,0,1,0,0] C)
noncomputable def M0:St->St:=keepF [0,1,5] []
noncomputable def S0 (rec:RT Out) (a1:Arg):(Int)->Option Out:=fun v402=>rec (T0 a1 v402)
noncomputable def X0_0 (K:KT Out) (a1:Arg):(Unit)->Option Out:=fun z=>K (.exit 0) ({ n:=102,sl:=[(0,.val (.slc tL6Spot) a1.1)],vr:=[],lent:=[] })
noncomputable def b0 (self:Int->Option Out) (e0:(Unit)->Option Out) (a1:Arg) (v402:Int):Option Out:=bif decide (v402 < (a1.1.length:Int)) then (if 0<=v402 then ((a1.1[v402.toNat]?).bind fun x603=>bif !decide (x603.2.2.1.2.1=(1:Int)) then (self (w64 (v402+(1:Int)))) else if 0<=v402 then ((a1.1[v402.toNat]?).bind fun x604=>if 0<=v402 then ((a1.1[v402.toNat]?).bind fun x605=>(spec_l6Cell.sem (a1.2.1,x604.2.2.1.2.2.1,x605.2.2.1.2.2.2.1,())).bind fun r606=>bif !r606.2.1 then (some ((4:Int),())) else bif !decide (r606.1.2.1=(2:Int)) then (some ((4:Int),())) else self (w64 (v402+(1:Int)))) else none) else none) else none) else e0 ()
noncomputable def B0 (k:Nat) (self:Int->Option Out) (e0:(Unit)->Option Out) (a1:Arg) (v402:Int):Option Out:=b0 self e0 a1 v402
theorem B0_eq (k:Nat) (rec:RT Out) (K:KT Out) (a1:Arg) (v402:Int):N0 k (T0 a1 v402) (loopC rec M0 K)=B0 k (S0 rec a1) (X0_0 K a1) a1 v402:=by kernel_rfl
noncomputable def l0 (k:Nat) (a1:Arg) (e0:(Unit)->Option Out) (v:Int):Option Out:=rawIter (fun self v=>B0 k self e0 a1 v) k v
theorem l0_eq (k:Nat) (K:KT Out) (a1:Arg) (v402:Int):iterK (N0 k) M0 K k (T0 a1 v402)=l0 k a1 (X0_0 K a1) v402:=
 iter_raw _ _ K (fun v402=>(T0 a1 v402)) (fun self v=>B0 k self (X0_0 K a1) a1 v) (fun rec v=>B0_eq k rec K a1 v) k v402
noncomputable def T1 (a1:Arg) (v1008:(List L6Spot)×Int):St:={ n:=102,sl:=[(0,.val (.slc tL6Spot) v1008.1),(8,.val i64 v1008.2)],vr:=[],lent:=[] }
noncomputable def N1 (k:Nat):St->(Ex->St->Option Out)->Option Out:=codeK E k fin (sub [1,1,0,1,0,0] C)
noncomputable def M1:St->St:=keepF [0,8] []
noncomputable def S1 (rec:RT Out) (a1:Arg):((List L6Spot)×Int)->Option Out:=fun v1008=>rec (T1 a1 v1008)
noncomputable def X1_2 (K:KT Out) (a1:Arg):(Unit)->Option Out:=fun z=>K (.exit 2) ({ n:=102,sl:=[],vr:=[],lent:=[] })
noncomputable def T2 (a1:Arg) (c1610:List L6Spot) (c1611:Int) (v1609:Int):St:={ n:=102,sl:=[(0,.val (.slc tL6Spot) c1610),(8,.val i64 c1611),(9,.val i64 v1609)],vr:=[],lent:=[] }
noncomputable def N2 (k:Nat):St->(Ex->St->Option Out)->Option Out:=codeK E k fin (sub [1,1,0,1,0,0,1,0,0,1,0,0] C)
noncomputable def M2:St->St:=keepF [0,8,9] []
noncomputable def S2 (rec:RT Out) (a1:Arg) (c1610:List L6Spot) (c1611:Int):(Int)->Option Out:=fun v1609=>rec (T2 a1 c1610 c1611 v1609)
noncomputable def X2_4 (K:KT Out) (a1:Arg) (c1610:List L6Spot) (c1611:Int):(Unit)->Option Out:=fun z=>K (.exit 4) ({ n:=102,sl:=[(0,.val (.slc tL6Spot) c1610),(8,.val i64 c1611)],vr:=[],lent:=[] })
noncomputable def b2 (self:Int->Option Out) (e4:(Unit)->Option Out) (a1:Arg) (c1610:List L6Spot) (c1611:Int) (v1609:Int):Option Out:=bif decide (v1609 < c1611) then (if 0<=c1611 then ((c1610[c1611.toNat]?).bind fun x1812=>if 0<=v1609 then ((c1610[v1609.toNat]?).bind fun x1813=>bif decide (x1812.2.2.1.2.1=(1:Int)) then (bif decide (x1813.2.2.1.2.1=(1:Int)) then (bif decide (x1812.2.2.1.2.2.1=x1813.2.2.1.2.2.1) then (bif decide (x1812.2.2.1.2.2.2.1=x1813.2.2.1.2.2.2.1) then (some ((6:Int),())) else self (w64 (v1609+(1:Int)))) else self (w64 (v1609+(1:Int)))) else self (w64 (v1609+(1:Int)))) else self (w64 (v1609+(1:Int)))) else none) else none) else e4 ()
noncomputable def B2 (k:Nat) (self:Int->Option Out) (e4:(Unit)->Option Out) (a1:Arg) (c1610:List L6Spot) (c1611:Int) (v1609:Int):Option Out:=b2 self e4 a1 c1610 c1611 v1609
theorem B2_eq (k:Nat) (rec:RT Out) (K:KT Out) (a1:Arg) (c1610:List L6Spot) (c1611:Int) (v1609:Int):N2 k (T2 a1 c1610 c1611 v1609) (loopC rec M2 K)=B2 k (S2 rec a1 c1610 c1611) (X2_4 K a1 c1610 c1611) a1 c1610 c1611 v1609:=by kernel_rfl
noncomputable def l2 (k:Nat) (a1:Arg) (c1610:List L6Spot) (c1611:Int) (e4:(Unit)->Option Out) (v:Int):Option Out:=rawIter (fun self v=>B2 k self e4 a1 c1610 c1611 v) k v
theorem l2_eq (k:Nat) (K:KT Out) (a1:Arg) (c1610:List L6Spot) (c1611:Int) (v1609:Int):iterK (N2 k) M2 K k (T2 a1 c1610 c1611 v1609)=l2 k a1 c1610 c1611 (X2_4 K a1 c1610 c1611) v1609:=
 iter_raw _ _ K (fun v1609=>(T2 a1 c1610 c1611 v1609)) (fun self v=>B2 k self (X2_4 K a1 c1610 c1611) a1 c1610 c1611 v) (fun rec v=>B2_eq k rec K a1 c1610 c1611 v) k v1609
noncomputable def q1 (self:((List L6Spot)×Int)->Option Out) (e2:(Unit)->Option Out) (a1:Arg) (c1610:List L6Spot) (c1611:Int) (z1814:(Unit)):Option Out:=self (c1610,w64 (c1611+(1:Int)))
noncomputable def Q1 (k:Nat) (self:((List L6Spot)×Int)->Option Out) (e2:(Unit)->Option Out) (a1:Arg) (c1610:List L6Spot) (c1611:Int) (z1814:(Unit)):Option Out:=q1 self e2 a1 c1610 c1611 z1814
theorem Q1_eq (k:Nat) (rec:RT Out) (K:KT Out) (a1:Arg) (c1610:List L6Spot) (c1611:Int) (z1814:(Unit)):X2_4 (blockC 4 (blockC 3 (seqC (codeK E k fin (sub [1,1,0,1,0,0,1,1] C)) (loopC rec (keepF [0,8] []) K)))) a1 c1610 c1611 z1814=Q1 k (S1 rec a1) (X1_2 K a1) a1 c1610 c1611 z1814:=by kernel_rfl
noncomputable def s2 (k:Nat) (rec:RT Out) (K:KT Out) (a1:Arg):(List L6Spot)->Int->(Int)->Option Out:=fun c1610 c1611 v1609=>iterK (N2 k) M2 (blockC 4 (blockC 3 (seqC (codeK E k fin (sub [1,1,0,1,0,0,1,1] C)) (loopC rec (keepF [0,8] []) K)))) k (T2 a1 c1610 c1611 v1609)
noncomputable def r2 (k:Nat) (self:((List L6Spot)×Int)->Option Out) (e2:(Unit)->Option Out) (a1:Arg):(List L6Spot)->Int->(Int)->Option Out:=fun c1610 c1611 v1609=>l2 k a1 c1610 c1611 (fun z=>Q1 k self e2 a1 c1610 c1611 z) v1609
theorem s2_eq (k:Nat) (rec:RT Out) (K:KT Out) (a1:Arg):s2 k rec K a1=r2 k (S1 rec a1) (X1_2 K a1) a1:=by
 funext c1610;funext c1611;funext v1609;
 have h4:X2_4 ((blockC 4 (blockC 3 (seqC (codeK E k fin (sub [1,1,0,1,0,0,1,1] C)) (loopC rec (keepF [0,8] []) K))))) a1 c1610 c1611=fun z=>Q1 k (S1 rec a1) (X1_2 K a1) a1 c1610 c1611 z:=funext fun z=>Q1_eq k rec K a1 c1610 c1611 z
 refine (l2_eq k ((blockC 4 (blockC 3 (seqC (codeK E k fin (sub [1,1,0,1,0,0,1,1] C)) (loopC rec (keepF [0,8] []) K))))) a1 c1610 c1611 v1609).trans ?_
 rw[h4]
 rfl
noncomputable def b1 (self:((List L6Spot)×Int)->Option Out) (e2:(Unit)->Option Out) (l2:(List L6Spot)->Int->(Int)->Option Out) (a1:Arg) (v1008:(List L6Spot)×Int):Option Out:=bif decide (v1008.2 < (v1008.1.length:Int)) then (l2 v1008.1 v1008.2 (0:Int)) else e2 ()
noncomputable def B1 (k:Nat) (self:((List L6Spot)×Int)->Option Out) (e2:(Unit)->Option Out) (a1:Arg) (v1008:(List L6Spot)×Int):Option Out:=b1 self e2 (r2 k self e2 a1) a1 v1008
theorem b1_eq (k:Nat) (rec:RT Out) (K:KT Out) (a1:Arg) (v1008:(List L6Spot)×Int):N1 k (T1 a1 v1008) (loopC rec M1 K)=b1 (S1 rec a1) (X1_2 K a1) (s2 k rec K a1) a1 v1008:=by kernel_rfl
theorem B1_eq (k:Nat) (rec:RT Out) (K:KT Out) (a1:Arg) (v1008:(List L6Spot)×Int):N1 k (T1 a1 v1008) (loopC rec M1 K)=B1 k (S1 rec a1) (X1_2 K a1) a1 v1008:=(b1_eq k rec K a1 v1008).trans (by rw[s2_eq];rfl)
noncomputable def l1 (k:Nat) (a1:Arg) (e2:(Unit)->Option Out) (v:(List L6Spot)×Int):Option Out:=rawIter (fun self v=>B1 k self e2 a1 v) k v
theorem l1_eq (k:Nat) (K:KT Out) (a1:Arg) (v1008:(List L6Spot)×Int):iterK (N1 k) M1 K k (T1 a1 v1008)=l1 k a1 (X1_2 K a1) v1008:=
 iter_raw _ _ K (fun v1008=>(T1 a1 v1008)) (fun self v=>B1 k self (X1_2 K a1) a1 v) (fun rec v=>B1_eq k rec K a1 v) k v1008
noncomputable def q2 (a1:Arg) (z1815:(Unit)):Option Out:=some ((0:Int),())
noncomputable def Q2 (k:Nat) (a1:Arg) (z1815:(Unit)):Option Out:=q2 a1 z1815
theorem Q2_eq (k:Nat) (a1:Arg) (z1815:(Unit)):X1_2 (blockC 2 (seqC (codeK E k fin (sub [1,1,1] C)) K0)) a1 z1815=Q2 k a1 z1815:=by kernel_rfl
noncomputable def s1 (k:Nat) (a1:Arg):((List L6Spot)×Int)->Option Out:=fun v1008=>iterK (N1 k) M1 (blockC 2 (seqC (codeK E k fin (sub [1,1,1] C)) K0)) k (T1 a1 v1008)
noncomputable def r1 (k:Nat) (a1:Arg):((List L6Spot)×Int)->Option Out:=fun v1008=>l1 k a1 (fun z=>Q2 k a1 z) v1008
theorem s1_eq (k:Nat) (a1:Arg):s1 k a1=r1 k a1:=by
 funext v1008;
 have h2:X1_2 ((blockC 2 (seqC (codeK E k fin (sub [1,1,1] C)) K0))) a1=fun z=>Q2 k a1 z:=funext fun z=>Q2_eq k a1 z
 refine (l1_eq k ((blockC 2 (seqC (codeK E k fin (sub [1,1,1] C)) K0))) a1 v1008).trans ?_
 rw[h2]
 rfl
noncomputable def q0 (l1:((List L6Spot)×Int)->Option Out) (a1:Arg) (z607:(Unit)):Option Out:=l1 (a1.1,(0:Int))
noncomputable def Q0 (k:Nat) (a1:Arg) (z607:(Unit)):Option Out:=q0 (r1 k a1) a1 z607
theorem q0_eq (k:Nat) (a1:Arg) (z607:(Unit)):X0_0 (blockC 0 (seqC (codeK E k fin (sub [1,1] C)) K0)) a1 z607=q0 (s1 k a1) a1 z607:=by kernel_rfl
theorem Q0_eq (k:Nat) (a1:Arg) (z607:(Unit)):X0_0 (blockC 0 (seqC (codeK E k fin (sub [1,1] C)) K0)) a1 z607=Q0 k a1 z607:=(q0_eq k a1 z607).trans (by rw[s1_eq];rfl)
noncomputable def s0 (k:Nat) (a1:Arg):(Int)->Option Out:=fun v402=>iterK (N0 k) M0 (blockC 0 (seqC (codeK E k fin (sub [1,1] C)) K0)) k (T0 a1 v402)
noncomputable def r0 (k:Nat) (a1:Arg):(Int)->Option Out:=fun v402=>l0 k a1 (fun z=>Q0 k a1 z) v402
theorem s0_eq (k:Nat) (a1:Arg):s0 k a1=r0 k a1:=by
 funext v402;
 have h0:X0_0 ((blockC 0 (seqC (codeK E k fin (sub [1,1] C)) K0))) a1=fun z=>Q0 k a1 z:=funext fun z=>Q0_eq k a1 z
 refine (l0_eq k ((blockC 0 (seqC (codeK E k fin (sub [1,1] C)) K0))) a1 v402).trans ?_
 rw[h0]
 rfl
noncomputable def p (l0:(Int)->Option Out) (a1:Arg):Option Out:=l0 (0:Int)
noncomputable def raw (k:Nat) (a1:Arg):Option Out:=p (r0 k a1) a1
theorem p_eq (k:Nat) (a1:Arg):W k a1=p (s0 k a1) a1:=by kernel_rfl
theorem raw_eq (k:Nat) (a1:Arg):W k a1=raw k a1:=(p_eq k a1).trans (by rw[s0_eq];rfl)
theorem ok:Ok prog 120 sig:=fn_ok func120 (tl:=tl) (gl:=gl) (es:=[]) (fr:=[]) rfl rfl (by kernel_rfl) (fc spec_l6Cell.ok (fn_nil _)) (fun _=>rfl)
end spec_l6Stubs
namespace spec_l6Spots
abbrev Arg:Type:=(List (List UInt8))×Unit
abbrev Out:Type:=(List L6Spot)×Unit
noncomputable def ps:PQ:=[(.ro,(.slc (.slc u8)))]
noncomputable def rs:RQ:=[((.slc tL6Spot),(ownMd (.slc tL6Spot)))]
noncomputable def tl:TL:=[(22,(.slc (.slc u8))),(46,(.slc u8)),(102,tCellResult),(104,tL6Spot),(188,(.slc tL6Spot))]
noncomputable def gl:GL:=[(206,spec_l2Count.sig),(207,spec_l2Size.sig),(208,spec_l1Read.sig),(209,spec_l2Cell.sig)]
noncomputable def E:Env:={ TI:=lookN tl,G:=lookN gl,lv:=[(3,[0,3,4]),(6,[0,3,4,5])],lx:=[(0,[3]),(2,[0,3,4])] }
noncomputable def W (k:Nat) (a:Arg):Option Out:=bodyK E k f121 ps rs [] [] a
noncomputable def sem (a:Arg):Option Out:=lift fun k=>W k a
noncomputable def sig:Sig:={ ps:=ps,rs:=rs,F:=sem }
noncomputable def C:Code:=bodyOf f121
noncomputable def fin:St->Option Out:=outK ps rs [] (Func.results f121).toList (mvs [])
noncomputable def K0:Ex->St->Option Out:=endK fin
noncomputable def T0 (a1:Arg) (v402:(List (List UInt8))×(List L6Spot)×Int):St:={ n:=49,sl:=[(0,.val (.slc (.slc u8)) v402.1),(3,.own (.slc tL6Spot) (ownMd (.slc tL6Spot)) [] v402.2.1),(4,.val i64 v402.2.2)],vr:=[],lent:=[] }
noncomputable def N0 (k:Nat):St->(Ex->St->Option Out)->Option Out:=codeK E k fin (sub [1,1,0,1,0,0] C)
noncomputable def M0:St->St:=keepF [0,3,4] []
noncomputable def S0 (rec:RT Out) (a1:Arg):((List (List UInt8))×(List L6Spot)×Int)->Option Out:=fun v402=>rec (T0 a1 v402)
noncomputable def X0_0 (K:KT Out) (a1:Arg):(List L6Spot)->Option Out:=fun z=>K (.exit 0) ({ n:=49,sl:=[(3,.own (.slc tL6Spot) (ownMd (.slc tL6Spot)) [] z)],vr:=[],lent:=[] })
noncomputable def T1 (a1:Arg) (c1004:List (List UInt8)) (c1005:Int) (v1003:(List L6Spot)×Int):St:={ n:=49,sl:=[(0,.val (.slc (.slc u8)) c1004),(3,.own (.slc tL6Spot) (ownMd (.slc tL6Spot)) [] v1003.1),(4,.val i64 c1005),(5,.val i64 v1003.2)],vr:=[],lent:=[] }
noncomputable def N1 (k:Nat):St->(Ex->St->Option Out)->Option Out:=codeK E k fin (sub [1,1,0,1,0,0,1,0,0,1,0,0] C)
noncomputable def M1:St->St:=keepF [0,3,4,5] []
noncomputable def S1 (rec:RT Out) (a1:Arg) (c1004:List (List UInt8)) (c1005:Int):((List L6Spot)×Int)->Option Out:=fun v1003=>rec (T1 a1 c1004 c1005 v1003)
noncomputable def X1_2 (K:KT Out) (a1:Arg) (c1004:List (List UInt8)) (c1005:Int):(List L6Spot)->Option Out:=fun z=>K (.exit 2) ({ n:=49,sl:=[(0,.val (.slc (.slc u8)) c1004),(3,.own (.slc tL6Spot) (ownMd (.slc tL6Spot)) [] z),(4,.val i64 c1005)],vr:=[],lent:=[] })
noncomputable def b1 (self:((List L6Spot)×Int)->Option Out) (e2:(List L6Spot)->Option Out) (a1:Arg) (c1004:List (List UInt8)) (c1005:Int) (v1003:(List L6Spot)×Int):Option Out:=if 0<=c1005 then ((c1004[c1005.toNat]?).bind fun x1206=>(spec_l2Count.sem (x1206,())).bind fun r1207=>bif decide (v1003.2 < r1207.1) then (if 0<=c1005 then ((c1004[c1005.toNat]?).bind fun x1208=>(spec_l2Size.sem (x1208,v1003.2,())).bind fun r1209=>bif decide ((0:Int) < r1209.1) then (if 0<=c1005 then ((c1004[c1005.toNat]?).bind fun x1210=>(spec_l2Cell.sem (x1210,v1003.2,())).bind fun r1211=>(spec_l1Read.sem (r1211.1,())).bind fun r1212=>if v1003.1.length+[(c1005,v1003.2,r1212.1,())].length<=CAP then (let y1213:=v1003.1++[(c1005,v1003.2,r1212.1,())];self (y1213,w64 (v1003.2+(1:Int)))) else none) else none) else self (v1003.1,w64 (v1003.2+(1:Int)))) else none) else e2 v1003.1) else none
noncomputable def B1 (k:Nat) (self:((List L6Spot)×Int)->Option Out) (e2:(List L6Spot)->Option Out) (a1:Arg) (c1004:List (List UInt8)) (c1005:Int) (v1003:(List L6Spot)×Int):Option Out:=b1 self e2 a1 c1004 c1005 v1003
theorem B1_eq (k:Nat) (rec:RT Out) (K:KT Out) (a1:Arg) (c1004:List (List UInt8)) (c1005:Int) (v1003:(List L6Spot)×Int):N1 k (T1 a1 c1004 c1005 v1003) (loopC rec M1 K)=B1 k (S1 rec a1 c1004 c1005) (X1_2 K a1 c1004 c1005) a1 c1004 c1005 v1003:=by kernel_rfl
noncomputable def l1 (k:Nat) (a1:Arg) (c1004:List (List UInt8)) (c1005:Int) (e2:(List L6Spot)->Option Out) (v:(List L6Spot)×Int):Option Out:=rawIter (fun self v=>B1 k self e2 a1 c1004 c1005 v) k v
theorem l1_eq (k:Nat) (K:KT Out) (a1:Arg) (c1004:List (List UInt8)) (c1005:Int) (v1003:(List L6Spot)×Int):iterK (N1 k) M1 K k (T1 a1 c1004 c1005 v1003)=l1 k a1 c1004 c1005 (X1_2 K a1 c1004 c1005) v1003:=
 iter_raw _ _ K (fun v1003=>(T1 a1 c1004 c1005 v1003)) (fun self v=>B1 k self (X1_2 K a1 c1004 c1005) a1 c1004 c1005 v) (fun rec v=>B1_eq k rec K a1 c1004 c1005 v) k v1003
noncomputable def q0 (self:((List (List UInt8))×(List L6Spot)×Int)->Option Out) (e0:(List L6Spot)->Option Out) (a1:Arg) (c1004:List (List UInt8)) (c1005:Int) (z1214:(List L6Spot)):Option Out:=self (c1004,z1214,w64 (c1005+(1:Int)))
noncomputable def Q0 (k:Nat) (self:((List (List UInt8))×(List L6Spot)×Int)->Option Out) (e0:(List L6Spot)->Option Out) (a1:Arg) (c1004:List (List UInt8)) (c1005:Int) (z1214:(List L6Spot)):Option Out:=q0 self e0 a1 c1004 c1005 z1214
theorem Q0_eq (k:Nat) (rec:RT Out) (K:KT Out) (a1:Arg) (c1004:List (List UInt8)) (c1005:Int) (z1214:(List L6Spot)):X1_2 (blockC 2 (blockC 1 (seqC (codeK E k fin (sub [1,1,0,1,0,0,1,1] C)) (loopC rec (keepF [0,3,4] []) K)))) a1 c1004 c1005 z1214=Q0 k (S0 rec a1) (X0_0 K a1) a1 c1004 c1005 z1214:=by kernel_rfl
noncomputable def s1 (k:Nat) (rec:RT Out) (K:KT Out) (a1:Arg):(List (List UInt8))->Int->((List L6Spot)×Int)->Option Out:=fun c1004 c1005 v1003=>iterK (N1 k) M1 (blockC 2 (blockC 1 (seqC (codeK E k fin (sub [1,1,0,1,0,0,1,1] C)) (loopC rec (keepF [0,3,4] []) K)))) k (T1 a1 c1004 c1005 v1003)
noncomputable def r1 (k:Nat) (self:((List (List UInt8))×(List L6Spot)×Int)->Option Out) (e0:(List L6Spot)->Option Out) (a1:Arg):(List (List UInt8))->Int->((List L6Spot)×Int)->Option Out:=fun c1004 c1005 v1003=>l1 k a1 c1004 c1005 (fun z=>Q0 k self e0 a1 c1004 c1005 z) v1003
theorem s1_eq (k:Nat) (rec:RT Out) (K:KT Out) (a1:Arg):s1 k rec K a1=r1 k (S0 rec a1) (X0_0 K a1) a1:=by
 funext c1004;funext c1005;funext v1003;
 have h2:X1_2 ((blockC 2 (blockC 1 (seqC (codeK E k fin (sub [1,1,0,1,0,0,1,1] C)) (loopC rec (keepF [0,3,4] []) K))))) a1 c1004 c1005=fun z=>Q0 k (S0 rec a1) (X0_0 K a1) a1 c1004 c1005 z:=funext fun z=>Q0_eq k rec K a1 c1004 c1005 z
 refine (l1_eq k ((blockC 2 (blockC 1 (seqC (codeK E k fin (sub [1,1,0,1,0,0,1,1] C)) (loopC rec (keepF [0,3,4] []) K))))) a1 c1004 c1005 v1003).trans ?_
 rw[h2]
 rfl
noncomputable def b0 (self:((List (List UInt8))×(List L6Spot)×Int)->Option Out) (e0:(List L6Spot)->Option Out) (l1:(List (List UInt8))->Int->((List L6Spot)×Int)->Option Out) (a1:Arg) (v402:(List (List UInt8))×(List L6Spot)×Int):Option Out:=bif decide (v402.2.2 < (v402.1.length:Int)) then (l1 v402.1 v402.2.2 (v402.2.1,(0:Int))) else e0 v402.2.1
noncomputable def B0 (k:Nat) (self:((List (List UInt8))×(List L6Spot)×Int)->Option Out) (e0:(List L6Spot)->Option Out) (a1:Arg) (v402:(List (List UInt8))×(List L6Spot)×Int):Option Out:=b0 self e0 (r1 k self e0 a1) a1 v402
theorem b0_eq (k:Nat) (rec:RT Out) (K:KT Out) (a1:Arg) (v402:(List (List UInt8))×(List L6Spot)×Int):N0 k (T0 a1 v402) (loopC rec M0 K)=b0 (S0 rec a1) (X0_0 K a1) (s1 k rec K a1) a1 v402:=by kernel_rfl
theorem B0_eq (k:Nat) (rec:RT Out) (K:KT Out) (a1:Arg) (v402:(List (List UInt8))×(List L6Spot)×Int):N0 k (T0 a1 v402) (loopC rec M0 K)=B0 k (S0 rec a1) (X0_0 K a1) a1 v402:=(b0_eq k rec K a1 v402).trans (by rw[s1_eq];rfl)
noncomputable def l0 (k:Nat) (a1:Arg) (e0:(List L6Spot)->Option Out) (v:(List (List UInt8))×(List L6Spot)×Int):Option Out:=rawIter (fun self v=>B0 k self e0 a1 v) k v
theorem l0_eq (k:Nat) (K:KT Out) (a1:Arg) (v402:(List (List UInt8))×(List L6Spot)×Int):iterK (N0 k) M0 K k (T0 a1 v402)=l0 k a1 (X0_0 K a1) v402:=
 iter_raw _ _ K (fun v402=>(T0 a1 v402)) (fun self v=>B0 k self (X0_0 K a1) a1 v) (fun rec v=>B0_eq k rec K a1 v) k v402
noncomputable def q1 (a1:Arg) (z1215:(List L6Spot)):Option Out:=some (z1215,())
noncomputable def Q1 (k:Nat) (a1:Arg) (z1215:(List L6Spot)):Option Out:=q1 a1 z1215
theorem Q1_eq (k:Nat) (a1:Arg) (z1215:(List L6Spot)):X0_0 (blockC 0 (seqC (codeK E k fin (sub [1,1,1] C)) K0)) a1 z1215=Q1 k a1 z1215:=by kernel_rfl
noncomputable def s0 (k:Nat) (a1:Arg):((List (List UInt8))×(List L6Spot)×Int)->Option Out:=fun v402=>iterK (N0 k) M0 (blockC 0 (seqC (codeK E k fin (sub [1,1,1] C)) K0)) k (T0 a1 v402)
noncomputable def r0 (k:Nat) (a1:Arg):((List (List UInt8))×(List L6Spot)×Int)->Option Out:=fun v402=>l0 k a1 (fun z=>Q1 k a1 z) v402
theorem s0_eq (k:Nat) (a1:Arg):s0 k a1=r0 k a1:=by
 funext v402;
 have h0:X0_0 ((blockC 0 (seqC (codeK E k fin (sub [1,1,1] C)) K0))) a1=fun z=>Q1 k a1 z:=funext fun z=>Q1_eq k a1 z
 refine (l0_eq k ((blockC 0 (seqC (codeK E k fin (sub [1,1,1] C)) K0))) a1 v402).trans ?_
 rw[h0]
 rfl
noncomputable def p (l0:((List (List UInt8))×(List L6Spot)×Int)->Option Out) (a1:Arg):Option Out:=l0 (a1.1,([]:List L6Spot),(0:Int))
noncomputable def raw (k:Nat) (a1:Arg):Option Out:=p (r0 k a1) a1
theorem p_eq (k:Nat) (a1:Arg):W k a1=p (s0 k a1) a1:=by kernel_rfl
theorem raw_eq (k:Nat) (a1:Arg):W k a1=raw k a1:=(p_eq k a1).trans (by rw[s0_eq];rfl)
theorem ok:Ok prog 121 sig:=fn_ok func121 (tl:=tl) (gl:=gl) (es:=[]) (fr:=[]) rfl rfl (by kernel_rfl) (fc spec_l2Count.ok (fc spec_l2Size.ok (fc spec_l1Read.ok (fc spec_l2Cell.ok (fn_nil _))))) (fun _=>rfl)
end spec_l6Spots
namespace spec_l6Seen
abbrev Arg:Type:=(List (List UInt8))×Unit
abbrev Out:Type:=(List L6Spot)×Unit
noncomputable def ps:PQ:=[(.ro,(.slc (.slc u8)))]
noncomputable def rs:RQ:=[((.slc tL6Spot),(ownMd (.slc tL6Spot)))]
noncomputable def tl:TL:=[(2,i64),(32,tRow),(102,tCellResult),(104,tL6Spot),(188,(.slc tL6Spot))]
noncomputable def gl:GL:=[(121,spec_l6Spots.sig),(210,spec_l6Cell.sig)]
noncomputable def E:Env:={ TI:=lookN tl,G:=lookN gl,lv:=[(4,[0,3,4,5])],lx:=[(0,[3]),(1,[0,3,4,5])] }
noncomputable def W (k:Nat) (a:Arg):Option Out:=bodyK E k f122 ps rs [] [] a
noncomputable def sem (a:Arg):Option Out:=lift fun k=>W k a
noncomputable def sig:Sig:={ ps:=ps,rs:=rs,F:=sem }
noncomputable def C:Code:=bodyOf f122
noncomputable def fin:St->Option Out:=outK ps rs [] (Func.results f122).toList (mvs [])
noncomputable def K0:Ex->St->Option Out:=endK fin
noncomputable def T0 (a1:Arg) (c404:List L6Spot) (v403:(List L6Spot)×Int):St:={ n:=50,sl:=[(0,.val (.slc (.slc u8)) a1.1),(3,.own (.slc tL6Spot) (ownMd (.slc tL6Spot)) [] v403.1),(4,.own (.slc tL6Spot) (ownMd (.slc tL6Spot)) [] c404),(5,.val i64 v403.2)],vr:=[],lent:=[] }
noncomputable def N0 (k:Nat):St->(Ex->St->Option Out)->Option Out:=codeK E k fin (sub [1,1,1,0,1,0,0] C)
noncomputable def M0:St->St:=keepF [0,3,4,5] []
noncomputable def S0 (rec:RT Out) (a1:Arg) (c404:List L6Spot):((List L6Spot)×Int)->Option Out:=fun v403=>rec (T0 a1 c404 v403)
noncomputable def X0_0 (K:KT Out) (a1:Arg) (c404:List L6Spot):(List L6Spot)->Option Out:=fun z=>K (.exit 0) ({ n:=50,sl:=[(3,.own (.slc tL6Spot) (ownMd (.slc tL6Spot)) [] z)],vr:=[],lent:=[] })
noncomputable def b0 (self:((List L6Spot)×Int)->Option Out) (e0:(List L6Spot)->Option Out) (a1:Arg) (c404:List L6Spot) (v403:(List L6Spot)×Int):Option Out:=bif decide (v403.2 < (c404.length:Int)) then (if 0<=v403.2/\v403.2 < (c404.length:Int) then ((c404[v403.2.toNat]?).bind fun x605=>bif decide (x605.2.2.1.2.1=(2:Int)) then (self (v403.1,w64 (v403.2+(1:Int)))) else let j609:=fun (p608:L6Spot)=>(if v403.1.length+[p608].length<=CAP then (self (v403.1++[p608],w64 (v403.2+(1:Int)))) else none:Option Out);bif decide (x605.2.2.1.2.1=(1:Int)) then ((spec_l6Cell.sem (a1.1,x605.2.2.1.2.2.1,x605.2.2.1.2.2.2.1,())).bind fun r606=>j609 (x605.1,x605.2.1,(x605.2.2.1.1,x605.2.2.1.2.1,x605.2.2.1.2.2.1,x605.2.2.1.2.2.2.1,r606.1.2.2.2.2.1,x605.2.2.1.2.2.2.2.2),x605.2.2.2)) else j609 x605) else none) else e0 v403.1
noncomputable def B0 (k:Nat) (self:((List L6Spot)×Int)->Option Out) (e0:(List L6Spot)->Option Out) (a1:Arg) (c404:List L6Spot) (v403:(List L6Spot)×Int):Option Out:=b0 self e0 a1 c404 v403
theorem B0_eq (k:Nat) (rec:RT Out) (K:KT Out) (a1:Arg) (c404:List L6Spot) (v403:(List L6Spot)×Int):N0 k (T0 a1 c404 v403) (loopC rec M0 K)=B0 k (S0 rec a1 c404) (X0_0 K a1 c404) a1 c404 v403:=by kernel_rfl
noncomputable def l0 (k:Nat) (a1:Arg) (c404:List L6Spot) (e0:(List L6Spot)->Option Out) (v:(List L6Spot)×Int):Option Out:=rawIter (fun self v=>B0 k self e0 a1 c404 v) k v
theorem l0_eq (k:Nat) (K:KT Out) (a1:Arg) (c404:List L6Spot) (v403:(List L6Spot)×Int):iterK (N0 k) M0 K k (T0 a1 c404 v403)=l0 k a1 c404 (X0_0 K a1 c404) v403:=
 iter_raw _ _ K (fun v403=>(T0 a1 c404 v403)) (fun self v=>B0 k self (X0_0 K a1 c404) a1 c404 v) (fun rec v=>B0_eq k rec K a1 c404 v) k v403
noncomputable def q0 (a1:Arg) (c404:List L6Spot) (z610:(List L6Spot)):Option Out:=some (z610,())
noncomputable def Q0 (k:Nat) (a1:Arg) (c404:List L6Spot) (z610:(List L6Spot)):Option Out:=q0 a1 c404 z610
theorem Q0_eq (k:Nat) (a1:Arg) (c404:List L6Spot) (z610:(List L6Spot)):X0_0 (blockC 0 (seqC (codeK E k fin (sub [1,1,1,1] C)) K0)) a1 c404 z610=Q0 k a1 c404 z610:=by kernel_rfl
noncomputable def s0 (k:Nat) (a1:Arg):(List L6Spot)->((List L6Spot)×Int)->Option Out:=fun c404 v403=>iterK (N0 k) M0 (blockC 0 (seqC (codeK E k fin (sub [1,1,1,1] C)) K0)) k (T0 a1 c404 v403)
noncomputable def r0 (k:Nat) (a1:Arg):(List L6Spot)->((List L6Spot)×Int)->Option Out:=fun c404 v403=>l0 k a1 c404 (fun z=>Q0 k a1 c404 z) v403
theorem s0_eq (k:Nat) (a1:Arg):s0 k a1=r0 k a1:=by
 funext c404;funext v403;
 have h0:X0_0 ((blockC 0 (seqC (codeK E k fin (sub [1,1,1,1] C)) K0))) a1 c404=fun z=>Q0 k a1 c404 z:=funext fun z=>Q0_eq k a1 c404 z
 refine (l0_eq k ((blockC 0 (seqC (codeK E k fin (sub [1,1,1,1] C)) K0))) a1 c404 v403).trans ?_
 rw[h0]
 rfl
noncomputable def p (l0:(List L6Spot)->((List L6Spot)×Int)->Option Out) (a1:Arg):Option Out:=(spec_l6Spots.sem (a1.1,())).bind fun r2=>l0 r2.1 (([]:List L6Spot),(0:Int))
noncomputable def raw (k:Nat) (a1:Arg):Option Out:=p (r0 k a1) a1
theorem p_eq (k:Nat) (a1:Arg):W k a1=p (s0 k a1) a1:=by kernel_rfl
theorem raw_eq (k:Nat) (a1:Arg):W k a1=raw k a1:=(p_eq k a1).trans (by rw[s0_eq];rfl)
theorem ok:Ok prog 122 sig:=fn_ok func122 (tl:=tl) (gl:=gl) (es:=[]) (fr:=[]) rfl rfl (by kernel_rfl) (fc spec_l6Spots.ok (fc spec_l6Cell.ok (fn_nil _))) (fun _=>rfl)
end spec_l6Seen
namespace spec_l6Fault
abbrev Arg:Type:=(List (List UInt8))×Unit
abbrev Out:Type:=Int×Unit
noncomputable def ps:PQ:=[(.ro,(.slc (.slc u8)))]
noncomputable def rs:RQ:=[(i64,(roMd i64))]
noncomputable def tl:TL:=[(2,i64),(22,(.slc (.slc u8))),(32,tRow),(102,tCellResult),(104,tL6Spot),(188,(.slc tL6Spot))]
noncomputable def gl:GL:=[(119,spec_l6Cells.sig),(120,spec_l6Stubs.sig),(121,spec_l6Spots.sig),(122,spec_l6Seen.sig)]
noncomputable def E:Env:={ TI:=lookN tl,G:=lookN gl,lv:=[(11,[5,6]),(14,[5,6,7])],lx:=[(0,[]),(2,[5,6])],od:=[(16,[0,1,2,3,4,5,6,7,8,9,10,11,12,13,14,15,16,17,18,19,20,21,22,23,24,25,26,27,28,29,30,31])] }
noncomputable def W (k:Nat) (a:Arg):Option Out:=bodyK E k f53 ps rs [] [] a
noncomputable def sem (a:Arg):Option Out:=lift fun k=>W k a
noncomputable def sig:Sig:={ ps:=ps,rs:=rs,F:=sem }
noncomputable def C:Code:=bodyOf f53
noncomputable def fin:St->Option Out:=outK ps rs [] (Func.results f53).toList (mvs [])
noncomputable def K0:Ex->St->Option Out:=endK fin
noncomputable def T0 (a1:Arg) (v406:(List L6Spot)×Int):St:={ n:=68,sl:=[(5,.own (.slc tL6Spot) (ownMd (.slc tL6Spot)) [] v406.1),(6,.val i64 v406.2)],vr:=[],lent:=[] }
noncomputable def N0 (k:Nat):St->(Ex->St->Option Out)->Option Out:=codeK E k fin (sub [1,1,1,1,1,0,1,0,0] C)
noncomputable def M0:St->St:=keepF [5,6] []
noncomputable def S0 (rec:RT Out) (a1:Arg):((List L6Spot)×Int)->Option Out:=fun v406=>rec (T0 a1 v406)
noncomputable def X0_0 (K:KT Out) (a1:Arg):(Unit)->Option Out:=fun z=>K (.exit 0) ({ n:=68,sl:=[],vr:=[],lent:=[] })
noncomputable def T1 (a1:Arg) (c1008:List L6Spot) (c1009:Int) (v1007:Int):St:={ n:=68,sl:=[(5,.own (.slc tL6Spot) (ownMd (.slc tL6Spot)) [] c1008),(6,.val i64 c1009),(7,.val i64 v1007)],vr:=[],lent:=[] }
noncomputable def N1 (k:Nat):St->(Ex->St->Option Out)->Option Out:=codeK E k fin (sub [1,1,1,1,1,0,1,0,0,1,0,0,1,0,0] C)
noncomputable def M1:St->St:=keepF [5,6,7] []
noncomputable def S1 (rec:RT Out) (a1:Arg) (c1008:List L6Spot) (c1009:Int):(Int)->Option Out:=fun v1007=>rec (T1 a1 c1008 c1009 v1007)
noncomputable def X1_2 (K:KT Out) (a1:Arg) (c1008:List L6Spot) (c1009:Int):(Unit)->Option Out:=fun z=>K (.exit 2) ({ n:=68,sl:=[(5,.own (.slc tL6Spot) (ownMd (.slc tL6Spot)) [] c1008),(6,.val i64 c1009)],vr:=[],lent:=[] })
noncomputable def b1 (self:Int->Option Out) (e2:(Unit)->Option Out) (a1:Arg) (c1008:List L6Spot) (c1009:Int) (v1007:Int):Option Out:=bif decide (v1007 < c1009) then (if 0<=c1009/\c1009 < (c1008.length:Int) then ((c1008[c1009.toNat]?).bind fun x1210=>if 0<=v1007/\v1007 < (c1008.length:Int) then ((c1008[v1007.toNat]?).bind fun x1211=>bif decide (x1210.2.2.1.2.2.2.2.1.1=x1211.2.2.1.2.2.2.2.1.1) then (if 0<=c1009/\c1009 < (c1008.length:Int) then ((c1008[c1009.toNat]?).bind fun x1212=>if 0<=v1007/\v1007 < (c1008.length:Int) then ((c1008[v1007.toNat]?).bind fun x1213=>bif decide (x1212.2.2.1.2.2.2.2.1.2.1=x1213.2.2.1.2.2.2.2.1.2.1) then (some ((8:Int),())) else self (w64 (v1007+(1:Int)))) else none) else none) else self (w64 (v1007+(1:Int)))) else none) else none) else e2 ()
noncomputable def B1 (k:Nat) (self:Int->Option Out) (e2:(Unit)->Option Out) (a1:Arg) (c1008:List L6Spot) (c1009:Int) (v1007:Int):Option Out:=b1 self e2 a1 c1008 c1009 v1007
theorem B1_eq (k:Nat) (rec:RT Out) (K:KT Out) (a1:Arg) (c1008:List L6Spot) (c1009:Int) (v1007:Int):N1 k (T1 a1 c1008 c1009 v1007) (loopC rec M1 K)=B1 k (S1 rec a1 c1008 c1009) (X1_2 K a1 c1008 c1009) a1 c1008 c1009 v1007:=by kernel_rfl
noncomputable def l1 (k:Nat) (a1:Arg) (c1008:List L6Spot) (c1009:Int) (e2:(Unit)->Option Out) (v:Int):Option Out:=rawIter (fun self v=>B1 k self e2 a1 c1008 c1009 v) k v
theorem l1_eq (k:Nat) (K:KT Out) (a1:Arg) (c1008:List L6Spot) (c1009:Int) (v1007:Int):iterK (N1 k) M1 K k (T1 a1 c1008 c1009 v1007)=l1 k a1 c1008 c1009 (X1_2 K a1 c1008 c1009) v1007:=
 iter_raw _ _ K (fun v1007=>(T1 a1 c1008 c1009 v1007)) (fun self v=>B1 k self (X1_2 K a1 c1008 c1009) a1 c1008 c1009 v) (fun rec v=>B1_eq k rec K a1 c1008 c1009 v) k v1007
noncomputable def q0 (self:((List L6Spot)×Int)->Option Out) (e0:(Unit)->Option Out) (a1:Arg) (c1008:List L6Spot) (c1009:Int) (z1214:(Unit)):Option Out:=self (c1008,w64 (c1009+(1:Int)))
noncomputable def Q0 (k:Nat) (self:((List L6Spot)×Int)->Option Out) (e0:(Unit)->Option Out) (a1:Arg) (c1008:List L6Spot) (c1009:Int) (z1214:(Unit)):Option Out:=q0 self e0 a1 c1008 c1009 z1214
theorem Q0_eq (k:Nat) (rec:RT Out) (K:KT Out) (a1:Arg) (c1008:List L6Spot) (c1009:Int) (z1214:(Unit)):X1_2 (blockC 2 (blockC 1 (seqC (codeK E k fin (sub [1,1,1,1,1,0,1,0,0,1,1] C)) (loopC rec (keepF [5,6] []) K)))) a1 c1008 c1009 z1214=Q0 k (S0 rec a1) (X0_0 K a1) a1 c1008 c1009 z1214:=by kernel_rfl
noncomputable def s1 (k:Nat) (rec:RT Out) (K:KT Out) (a1:Arg):(List L6Spot)->Int->(Int)->Option Out:=fun c1008 c1009 v1007=>iterK (N1 k) M1 (blockC 2 (blockC 1 (seqC (codeK E k fin (sub [1,1,1,1,1,0,1,0,0,1,1] C)) (loopC rec (keepF [5,6] []) K)))) k (T1 a1 c1008 c1009 v1007)
noncomputable def r1 (k:Nat) (self:((List L6Spot)×Int)->Option Out) (e0:(Unit)->Option Out) (a1:Arg):(List L6Spot)->Int->(Int)->Option Out:=fun c1008 c1009 v1007=>l1 k a1 c1008 c1009 (fun z=>Q0 k self e0 a1 c1008 c1009 z) v1007
theorem s1_eq (k:Nat) (rec:RT Out) (K:KT Out) (a1:Arg):s1 k rec K a1=r1 k (S0 rec a1) (X0_0 K a1) a1:=by
 funext c1008;funext c1009;funext v1007;
 have h2:X1_2 ((blockC 2 (blockC 1 (seqC (codeK E k fin (sub [1,1,1,1,1,0,1,0,0,1,1] C)) (loopC rec (keepF [5,6] []) K))))) a1 c1008 c1009=fun z=>Q0 k (S0 rec a1) (X0_0 K a1) a1 c1008 c1009 z:=funext fun z=>Q0_eq k rec K a1 c1008 c1009 z
 refine (l1_eq k ((blockC 2 (blockC 1 (seqC (codeK E k fin (sub [1,1,1,1,1,0,1,0,0,1,1] C)) (loopC rec (keepF [5,6] []) K))))) a1 c1008 c1009 v1007).trans ?_
 rw[h2]
 rfl
noncomputable def b0 (self:((List L6Spot)×Int)->Option Out) (e0:(Unit)->Option Out) (l1:(List L6Spot)->Int->(Int)->Option Out) (a1:Arg) (v406:(List L6Spot)×Int):Option Out:=bif decide (v406.2 < (v406.1.length:Int)) then (l1 v406.1 v406.2 (0:Int)) else e0 ()
noncomputable def B0 (k:Nat) (self:((List L6Spot)×Int)->Option Out) (e0:(Unit)->Option Out) (a1:Arg) (v406:(List L6Spot)×Int):Option Out:=b0 self e0 (r1 k self e0 a1) a1 v406
theorem b0_eq (k:Nat) (rec:RT Out) (K:KT Out) (a1:Arg) (v406:(List L6Spot)×Int):N0 k (T0 a1 v406) (loopC rec M0 K)=b0 (S0 rec a1) (X0_0 K a1) (s1 k rec K a1) a1 v406:=by kernel_rfl
theorem B0_eq (k:Nat) (rec:RT Out) (K:KT Out) (a1:Arg) (v406:(List L6Spot)×Int):N0 k (T0 a1 v406) (loopC rec M0 K)=B0 k (S0 rec a1) (X0_0 K a1) a1 v406:=(b0_eq k rec K a1 v406).trans (by rw[s1_eq];rfl)
noncomputable def l0 (k:Nat) (a1:Arg) (e0:(Unit)->Option Out) (v:(List L6Spot)×Int):Option Out:=rawIter (fun self v=>B0 k self e0 a1 v) k v
theorem l0_eq (k:Nat) (K:KT Out) (a1:Arg) (v406:(List L6Spot)×Int):iterK (N0 k) M0 K k (T0 a1 v406)=l0 k a1 (X0_0 K a1) v406:=
 iter_raw _ _ K (fun v406=>(T0 a1 v406)) (fun self v=>B0 k self (X0_0 K a1) a1 v) (fun rec v=>B0_eq k rec K a1 v) k v406
noncomputable def q1 (a1:Arg) (z1215:(Unit)):Option Out:=some ((0:Int),())
noncomputable def Q1 (k:Nat) (a1:Arg) (z1215:(Unit)):Option Out:=q1 a1 z1215
theorem Q1_eq (k:Nat) (a1:Arg) (z1215:(Unit)):X0_0 (blockC 0 (seqC (codeK E k fin (sub [1,1,1,1,1,1] C)) K0)) a1 z1215=Q1 k a1 z1215:=by kernel_rfl
noncomputable def s0 (k:Nat) (a1:Arg):((List L6Spot)×Int)->Option Out:=fun v406=>iterK (N0 k) M0 (blockC 0 (seqC (codeK E k fin (sub [1,1,1,1,1,1] C)) K0)) k (T0 a1 v406)
noncomputable def r0 (k:Nat) (a1:Arg):((List L6Spot)×Int)->Option Out:=fun v406=>l0 k a1 (fun z=>Q1 k a1 z) v406
theorem s0_eq (k:Nat) (a1:Arg):s0 k a1=r0 k a1:=by
 funext v406;
 have h0:X0_0 ((blockC 0 (seqC (codeK E k fin (sub [1,1,1,1,1,1] C)) K0))) a1=fun z=>Q1 k a1 z:=funext fun z=>Q1_eq k a1 z
 refine (l0_eq k ((blockC 0 (seqC (codeK E k fin (sub [1,1,1,1,1,1] C)) K0))) a1 v406).trans ?_
 rw[h0]
 rfl
noncomputable def p (l0:((List L6Spot)×Int)->Option Out) (a1:Arg):Option Out:=bif decide ((12:Int) < (a1.1.length:Int)) then (some ((2:Int),())) else (spec_l6Cells.sem (a1.1,())).bind fun r2=>bif !decide (r2.1=(0:Int)) then (some (r2.1,())) else (spec_l6Spots.sem (a1.1,())).bind fun r3=>(spec_l6Stubs.sem (r3.1,a1.1,())).bind fun r4=>bif !decide (r4.1=(0:Int)) then (some (r4.1,())) else (spec_l6Seen.sem (a1.1,())).bind fun r5=>l0 (r5.1,(0:Int))
noncomputable def raw (k:Nat) (a1:Arg):Option Out:=p (r0 k a1) a1
theorem p_eq (k:Nat) (a1:Arg):W k a1=p (s0 k a1) a1:=by kernel_rfl
theorem raw_eq (k:Nat) (a1:Arg):W k a1=raw k a1:=(p_eq k a1).trans (by rw[s0_eq];rfl)
theorem ok:Ok prog 53 sig:=fn_ok func53 (tl:=tl) (gl:=gl) (es:=[]) (fr:=[]) rfl rfl (by kernel_rfl) (fc spec_l6Cells.ok (fc spec_l6Stubs.ok (fc spec_l6Spots.ok (fc spec_l6Seen.ok (fn_nil _))))) (fun _=>rfl)
end spec_l6Fault
namespace spec_l7Bad
abbrev Arg:Type:=Int×Unit
abbrev Out:Type:=EditsResult×Unit
noncomputable def ps:PQ:=[(.ro,i64)]
noncomputable def rs:RQ:=[(tEditsResult,(ownMd tEditsResult))]
noncomputable def tl:TL:=[(29,tEditsResult)]
noncomputable def gl:GL:=[]
noncomputable def E:Env:={ TI:=lookN tl,G:=lookN gl }
noncomputable def W (k:Nat) (a:Arg):Option Out:=bodyK E k f54 ps rs [] [] a
noncomputable def sem (a:Arg):Option Out:=lift fun k=>W k a
noncomputable def sig:Sig:={ ps:=ps,rs:=rs,F:=sem }
noncomputable def p (a1:Arg):Option Out:=some ((a1.1,([]:List Edit),([]:List (List UInt8)),()),())
noncomputable def raw (k:Nat) (a1:Arg):Option Out:=p a1
theorem raw_eq (k:Nat) (a1:Arg):W k a1=raw k a1:=by kernel_rfl
theorem ok:Ok prog 54 sig:=fn_ok func54 (tl:=tl) (gl:=gl) (es:=[]) (fr:=[]) rfl rfl (by kernel_rfl) (fn_nil _) (fun _=>rfl)
end spec_l7Bad
namespace spec_l6Find
abbrev Arg:Type:=(List (List UInt8))×Int×Int×Unit
abbrev Out:Type:=L6Spot×Bool×Unit
noncomputable def ps:PQ:=[(.ro,(.slc (.slc u8))),(.ro,i64),(.ro,i64)]
noncomputable def rs:RQ:=[(tL6Spot,(roMd tL6Spot)),(.bool,(roMd .bool))]
noncomputable def tl:TL:=[(2,i64),(32,tRow),(102,tCellResult),(104,tL6Spot),(188,(.slc tL6Spot))]
noncomputable def gl:GL:=[(122,spec_l6Seen.sig)]
noncomputable def E:Env:={ TI:=lookN tl,G:=lookN gl,lv:=[(3,[1,2,6,8,9])],lx:=[(0,[6])] }
noncomputable def W (k:Nat) (a:Arg):Option Out:=bodyK E k f56 ps rs [] [] a
noncomputable def sem (a:Arg):Option Out:=lift fun k=>W k a
noncomputable def sig:Sig:={ ps:=ps,rs:=rs,F:=sem }
noncomputable def C:Code:=bodyOf f56
noncomputable def fin:St->Option Out:=outK ps rs [] (Func.results f56).toList (mvs [])
noncomputable def K0:Ex->St->Option Out:=endK fin
noncomputable def T0 (a1:Arg) (c404:List L6Spot) (v403:Int):St:={ n:=43,sl:=[(1,.val i64 a1.2.1),(2,.val i64 a1.2.2.1),(6,.box tL6Spot (roMd tL6Spot) [] ((0:Int),(0:Int),((0:Int),(0:Int),(0:Int),(0:Int),((0:Int),(0:Int),(0:Int),([]:List UInt8),()),()),())),(8,.own (.slc tL6Spot) (ownMd (.slc tL6Spot)) [] c404),(9,.val i64 v403)],vr:=[],lent:=[] }
noncomputable def N0 (k:Nat):St->(Ex->St->Option Out)->Option Out:=codeK E k fin (sub [1,1,0,1,0,0] C)
noncomputable def M0:St->St:=keepF [1,2,6,8,9] []
noncomputable def S0 (rec:RT Out) (a1:Arg) (c404:List L6Spot):(Int)->Option Out:=fun v403=>rec (T0 a1 c404 v403)
noncomputable def X0_0 (K:KT Out) (a1:Arg) (c404:List L6Spot):(Unit)->Option Out:=fun z=>K (.exit 0) ({ n:=43,sl:=[(6,.box tL6Spot (roMd tL6Spot) [] ((0:Int),(0:Int),((0:Int),(0:Int),(0:Int),(0:Int),((0:Int),(0:Int),(0:Int),([]:List UInt8),()),()),()))],vr:=[],lent:=[] })
noncomputable def b0 (self:Int->Option Out) (e0:(Unit)->Option Out) (a1:Arg) (c404:List L6Spot) (v403:Int):Option Out:=bif decide (v403 < (c404.length:Int)) then (if 0<=v403/\v403 < (c404.length:Int) then ((c404[v403.toNat]?).bind fun x605=>bif decide (x605.2.2.1.2.2.2.2.1.1=a1.2.1) then (if 0<=v403/\v403 < (c404.length:Int) then ((c404[v403.toNat]?).bind fun x606=>bif decide (x606.2.2.1.2.2.2.2.1.2.1=a1.2.2.1) then (if 0<=v403/\v403 < (c404.length:Int) then ((c404[v403.toNat]?).bind fun x607=>some (x607,true,())) else none) else self (w64 (v403+(1:Int)))) else none) else self (w64 (v403+(1:Int)))) else none) else e0 ()
noncomputable def B0 (k:Nat) (self:Int->Option Out) (e0:(Unit)->Option Out) (a1:Arg) (c404:List L6Spot) (v403:Int):Option Out:=b0 self e0 a1 c404 v403
theorem B0_eq (k:Nat) (rec:RT Out) (K:KT Out) (a1:Arg) (c404:List L6Spot) (v403:Int):N0 k (T0 a1 c404 v403) (loopC rec M0 K)=B0 k (S0 rec a1 c404) (X0_0 K a1 c404) a1 c404 v403:=by kernel_rfl
noncomputable def l0 (k:Nat) (a1:Arg) (c404:List L6Spot) (e0:(Unit)->Option Out) (v:Int):Option Out:=rawIter (fun self v=>B0 k self e0 a1 c404 v) k v
theorem l0_eq (k:Nat) (K:KT Out) (a1:Arg) (c404:List L6Spot) (v403:Int):iterK (N0 k) M0 K k (T0 a1 c404 v403)=l0 k a1 c404 (X0_0 K a1 c404) v403:=
 iter_raw _ _ K (fun v403=>(T0 a1 c404 v403)) (fun self v=>B0 k self (X0_0 K a1 c404) a1 c404 v) (fun rec v=>B0_eq k rec K a1 c404 v) k v403
noncomputable def q0 (a1:Arg) (c404:List L6Spot) (z608:(Unit)):Option Out:=some (((0:Int),(0:Int),((0:Int),(0:Int),(0:Int),(0:Int),((0:Int),(0:Int),(0:Int),([]:List UInt8),()),()),()),false,())
noncomputable def Q0 (k:Nat) (a1:Arg) (c404:List L6Spot) (z608:(Unit)):Option Out:=q0 a1 c404 z608
theorem Q0_eq (k:Nat) (a1:Arg) (c404:List L6Spot) (z608:(Unit)):X0_0 (blockC 0 (seqC (codeK E k fin (sub [1,1,1] C)) K0)) a1 c404 z608=Q0 k a1 c404 z608:=by kernel_rfl
noncomputable def s0 (k:Nat) (a1:Arg):(List L6Spot)->(Int)->Option Out:=fun c404 v403=>iterK (N0 k) M0 (blockC 0 (seqC (codeK E k fin (sub [1,1,1] C)) K0)) k (T0 a1 c404 v403)
noncomputable def r0 (k:Nat) (a1:Arg):(List L6Spot)->(Int)->Option Out:=fun c404 v403=>l0 k a1 c404 (fun z=>Q0 k a1 c404 z) v403
theorem s0_eq (k:Nat) (a1:Arg):s0 k a1=r0 k a1:=by
 funext c404;funext v403;
 have h0:X0_0 ((blockC 0 (seqC (codeK E k fin (sub [1,1,1] C)) K0))) a1 c404=fun z=>Q0 k a1 c404 z:=funext fun z=>Q0_eq k a1 c404 z
 refine (l0_eq k ((blockC 0 (seqC (codeK E k fin (sub [1,1,1] C)) K0))) a1 c404 v403).trans ?_
 rw[h0]
 rfl
noncomputable def p (l0:(List L6Spot)->(Int)->Option Out) (a1:Arg):Option Out:=(spec_l6Seen.sem (a1.1,())).bind fun r2=>l0 r2.1 (0:Int)
noncomputable def raw (k:Nat) (a1:Arg):Option Out:=p (r0 k a1) a1
theorem p_eq (k:Nat) (a1:Arg):W k a1=p (s0 k a1) a1:=by kernel_rfl
theorem raw_eq (k:Nat) (a1:Arg):W k a1=raw k a1:=(p_eq k a1).trans (by rw[s0_eq];rfl)
theorem ok:Ok prog 56 sig:=fn_ok func56 (tl:=tl) (gl:=gl) (es:=[]) (fr:=[]) rfl rfl (by kernel_rfl) (fc spec_l6Seen.ok (fn_nil _)) (fun _=>rfl)
end spec_l6Find
namespace spec_l2Copy
abbrev Arg:Type:=(List UInt8)×Unit
abbrev Out:Type:=(List UInt8)×Unit
noncomputable def ps:PQ:=[(.ro,(.slc u8))]
noncomputable def rs:RQ:=[((.slc u8),(ownMd (.slc u8)))]
noncomputable def tl:TL:=[(46,(.slc u8))]
noncomputable def gl:GL:=[]
noncomputable def E:Env:={ TI:=lookN tl,G:=lookN gl }
noncomputable def W (k:Nat) (a:Arg):Option Out:=bodyK E k f257 ps rs [] [] a
noncomputable def sem (a:Arg):Option Out:=lift fun k=>W k a
noncomputable def sig:Sig:={ ps:=ps,rs:=rs,F:=sem }
noncomputable def p (a1:Arg):Option Out:=if ([]:List UInt8).length+a1.1.length<=CAP then (some (([]:List UInt8)++a1.1,())) else none
noncomputable def raw (k:Nat) (a1:Arg):Option Out:=p a1
theorem raw_eq (k:Nat) (a1:Arg):W k a1=raw k a1:=by kernel_rfl
theorem ok:Ok prog 257 sig:=fn_ok func257 (tl:=tl) (gl:=gl) (es:=[]) (fr:=[]) rfl rfl (by kernel_rfl) (fn_nil _) (fun _=>rfl)
end spec_l2Copy
namespace spec_l7Copy
abbrev Arg:Type:=(List (List UInt8))×Unit
abbrev Out:Type:=(List (List UInt8))×Unit
noncomputable def ps:PQ:=[(.ro,(.slc (.slc u8)))]
noncomputable def rs:RQ:=[((.slc (.slc u8)),(ownMd (.slc (.slc u8))))]
noncomputable def tl:TL:=[(22,(.slc (.slc u8))),(46,(.slc u8))]
noncomputable def gl:GL:=[(257,spec_l2Copy.sig)]
noncomputable def E:Env:={ TI:=lookN tl,G:=lookN gl,lv:=[(3,[0,3,4])],lx:=[(0,[3])] }
noncomputable def W (k:Nat) (a:Arg):Option Out:=bodyK E k f194 ps rs [] [] a
noncomputable def sem (a:Arg):Option Out:=lift fun k=>W k a
noncomputable def sig:Sig:={ ps:=ps,rs:=rs,F:=sem }
noncomputable def C:Code:=bodyOf f194
noncomputable def fin:St->Option Out:=outK ps rs [] (Func.results f194).toList (mvs [])
noncomputable def K0:Ex->St->Option Out:=endK fin
noncomputable def T0 (a1:Arg) (v402:(List (List UInt8))×Int):St:={ n:=21,sl:=[(0,.val (.slc (.slc u8)) a1.1),(3,.own (.slc (.slc u8)) (ownMd (.slc (.slc u8))) [] v402.1),(4,.val i64 v402.2)],vr:=[],lent:=[] }
noncomputable def N0 (k:Nat):St->(Ex->St->Option Out)->Option Out:=codeK E k fin (sub [1,1,0,1,0,0] C)
noncomputable def M0:St->St:=keepF [0,3,4] []
noncomputable def S0 (rec:RT Out) (a1:Arg):((List (List UInt8))×Int)->Option Out:=fun v402=>rec (T0 a1 v402)
noncomputable def X0_0 (K:KT Out) (a1:Arg):(List (List UInt8))->Option Out:=fun z=>K (.exit 0) ({ n:=21,sl:=[(3,.own (.slc (.slc u8)) (ownMd (.slc (.slc u8))) [] z)],vr:=[],lent:=[] })
noncomputable def b0 (self:((List (List UInt8))×Int)->Option Out) (e0:(List (List UInt8))->Option Out) (a1:Arg) (v402:(List (List UInt8))×Int):Option Out:=bif decide (v402.2 < (a1.1.length:Int)) then (if 0<=v402.2 then ((a1.1[v402.2.toNat]?).bind fun x603=>(spec_l2Copy.sem (x603,())).bind fun r604=>if v402.1.length+[r604.1].length<=CAP then (self (v402.1++[r604.1],w64 (v402.2+(1:Int)))) else none) else none) else e0 v402.1
noncomputable def B0 (k:Nat) (self:((List (List UInt8))×Int)->Option Out) (e0:(List (List UInt8))->Option Out) (a1:Arg) (v402:(List (List UInt8))×Int):Option Out:=b0 self e0 a1 v402
theorem B0_eq (k:Nat) (rec:RT Out) (K:KT Out) (a1:Arg) (v402:(List (List UInt8))×Int):N0 k (T0 a1 v402) (loopC rec M0 K)=B0 k (S0 rec a1) (X0_0 K a1) a1 v402:=by kernel_rfl
noncomputable def l0 (k:Nat) (a1:Arg) (e0:(List (List UInt8))->Option Out) (v:(List (List UInt8))×Int):Option Out:=rawIter (fun self v=>B0 k self e0 a1 v) k v
theorem l0_eq (k:Nat) (K:KT Out) (a1:Arg) (v402:(List (List UInt8))×Int):iterK (N0 k) M0 K k (T0 a1 v402)=l0 k a1 (X0_0 K a1) v402:=
 iter_raw _ _ K (fun v402=>(T0 a1 v402)) (fun self v=>B0 k self (X0_0 K a1) a1 v) (fun rec v=>B0_eq k rec K a1 v) k v402
noncomputable def q0 (a1:Arg) (z605:(List (List UInt8))):Option Out:=some (z605,())
noncomputable def Q0 (k:Nat) (a1:Arg) (z605:(List (List UInt8))):Option Out:=q0 a1 z605
theorem Q0_eq (k:Nat) (a1:Arg) (z605:(List (List UInt8))):X0_0 (blockC 0 (seqC (codeK E k fin (sub [1,1,1] C)) K0)) a1 z605=Q0 k a1 z605:=by kernel_rfl
noncomputable def s0 (k:Nat) (a1:Arg):((List (List UInt8))×Int)->Option Out:=fun v402=>iterK (N0 k) M0 (blockC 0 (seqC (codeK E k fin (sub [1,1,1] C)) K0)) k (T0 a1 v402)
noncomputable def r0 (k:Nat) (a1:Arg):((List (List UInt8))×Int)->Option Out:=fun v402=>l0 k a1 (fun z=>Q0 k a1 z) v402
theorem s0_eq (k:Nat) (a1:Arg):s0 k a1=r0 k a1:=by
 funext v402;
 have h0:X0_0 ((blockC 0 (seqC (codeK E k fin (sub [1,1,1] C)) K0))) a1=fun z=>Q0 k a1 z:=funext fun z=>Q0_eq k a1 z
 refine (l0_eq k ((blockC 0 (seqC (codeK E k fin (sub [1,1,1] C)) K0))) a1 v402).trans ?_
 rw[h0]
 rfl
noncomputable def p (l0:((List (List UInt8))×Int)->Option Out) (a1:Arg):Option Out:=l0 (([]:List (List UInt8)),(0:Int))
noncomputable def raw (k:Nat) (a1:Arg):Option Out:=p (r0 k a1) a1
theorem p_eq (k:Nat) (a1:Arg):W k a1=p (s0 k a1) a1:=by kernel_rfl
theorem raw_eq (k:Nat) (a1:Arg):W k a1=raw k a1:=(p_eq k a1).trans (by rw[s0_eq];rfl)
theorem ok:Ok prog 194 sig:=fn_ok func194 (tl:=tl) (gl:=gl) (es:=[]) (fr:=[]) rfl rfl (by kernel_rfl) (fc spec_l2Copy.ok (fn_nil _)) (fun _=>rfl)
end spec_l7Copy
namespace spec_l7Start
abbrev Arg:Type:=(List (List UInt8))×Unit
abbrev Out:Type:=L7Work×Unit
noncomputable def ps:PQ:=[(.ro,(.slc (.slc u8)))]
noncomputable def rs:RQ:=[((.ptr tL7Work),(ownMd (.ptr tL7Work)))]
noncomputable def tl:TL:=[(281,tL7Work)]
noncomputable def gl:GL:=[(194,spec_l7Copy.sig)]
noncomputable def E:Env:={ TI:=lookN tl,G:=lookN gl }
noncomputable def W (k:Nat) (a:Arg):Option Out:=bodyK E k f125 ps rs [] [] a
noncomputable def sem (a:Arg):Option Out:=lift fun k=>W k a
noncomputable def sig:Sig:={ ps:=ps,rs:=rs,F:=sem }
noncomputable def p (a1:Arg):Option Out:=(spec_l7Copy.sem (a1.1,())).bind fun r2=>some ((r2.1,([]:List Edit),()),())
noncomputable def raw (k:Nat) (a1:Arg):Option Out:=p a1
theorem raw_eq (k:Nat) (a1:Arg):W k a1=raw k a1:=by kernel_rfl
theorem ok:Ok prog 125 sig:=fn_ok func125 (tl:=tl) (gl:=gl) (es:=[]) (fr:=[]) rfl rfl (by kernel_rfl) (fc spec_l7Copy.ok (fn_nil _)) (fun _=>rfl)
end spec_l7Start
namespace spec_l2Empty
abbrev Arg:Type:=(List UInt8)×Unit
abbrev Out:Type:=Int×Unit
noncomputable def ps:PQ:=[(.ro,(.slc u8))]
noncomputable def rs:RQ:=[(i64,(roMd i64))]
noncomputable def tl:TL:=[]
noncomputable def gl:GL:=[(206,spec_l2Count.sig),(207,spec_l2Size.sig)]
noncomputable def E:Env:={ TI:=lookN tl,G:=lookN gl,lv:=[(2,[0,3])],lx:=[(0,[0])] }
noncomputable def W (k:Nat) (a:Arg):Option Out:=bodyK E k f272 ps rs [] [] a
noncomputable def sem (a:Arg):Option Out:=lift fun k=>W k a
noncomputable def sig:Sig:={ ps:=ps,rs:=rs,F:=sem }
noncomputable def C:Code:=bodyOf f272
noncomputable def fin:St->Option Out:=outK ps rs [] (Func.results f272).toList (mvs [])
noncomputable def K0:Ex->St->Option Out:=endK fin
noncomputable def T0 (a1:Arg) (v402:Int):St:={ n:=17,sl:=[(0,.val (.slc u8) a1.1),(3,.val i64 v402)],vr:=[],lent:=[] }
noncomputable def N0 (k:Nat):St->(Ex->St->Option Out)->Option Out:=codeK E k fin (sub [1,0,1,0,0] C)
noncomputable def M0:St->St:=keepF [0,3] []
noncomputable def S0 (rec:RT Out) (a1:Arg):(Int)->Option Out:=fun v402=>rec (T0 a1 v402)
noncomputable def X0_0 (K:KT Out) (a1:Arg):(Unit)->Option Out:=fun z=>K (.exit 0) ({ n:=17,sl:=[(0,.val (.slc u8) a1.1)],vr:=[],lent:=[] })
noncomputable def b0 (self:Int->Option Out) (e0:(Unit)->Option Out) (a1:Arg) (v402:Int):Option Out:=(spec_l2Count.sem (a1.1,())).bind fun r603=>bif decide (v402 < r603.1) then ((spec_l2Size.sem (a1.1,v402,())).bind fun r604=>bif decide (r604.1=(0:Int)) then (some (v402,())) else self (w64 (v402+(1:Int)))) else e0 ()
noncomputable def B0 (k:Nat) (self:Int->Option Out) (e0:(Unit)->Option Out) (a1:Arg) (v402:Int):Option Out:=b0 self e0 a1 v402
theorem B0_eq (k:Nat) (rec:RT Out) (K:KT Out) (a1:Arg) (v402:Int):N0 k (T0 a1 v402) (loopC rec M0 K)=B0 k (S0 rec a1) (X0_0 K a1) a1 v402:=by kernel_rfl
noncomputable def l0 (k:Nat) (a1:Arg) (e0:(Unit)->Option Out) (v:Int):Option Out:=rawIter (fun self v=>B0 k self e0 a1 v) k v
theorem l0_eq (k:Nat) (K:KT Out) (a1:Arg) (v402:Int):iterK (N0 k) M0 K k (T0 a1 v402)=l0 k a1 (X0_0 K a1) v402:=
 iter_raw _ _ K (fun v402=>(T0 a1 v402)) (fun self v=>B0 k self (X0_0 K a1) a1 v) (fun rec v=>B0_eq k rec K a1 v) k v402
noncomputable def q0 (a1:Arg) (z605:(Unit)):Option Out:=(spec_l2Count.sem (a1.1,())).bind fun r606=>some (r606.1,())
noncomputable def Q0 (k:Nat) (a1:Arg) (z605:(Unit)):Option Out:=q0 a1 z605
theorem Q0_eq (k:Nat) (a1:Arg) (z605:(Unit)):X0_0 (blockC 0 (seqC (codeK E k fin (sub [1,1] C)) K0)) a1 z605=Q0 k a1 z605:=by kernel_rfl
noncomputable def s0 (k:Nat) (a1:Arg):(Int)->Option Out:=fun v402=>iterK (N0 k) M0 (blockC 0 (seqC (codeK E k fin (sub [1,1] C)) K0)) k (T0 a1 v402)
noncomputable def r0 (k:Nat) (a1:Arg):(Int)->Option Out:=fun v402=>l0 k a1 (fun z=>Q0 k a1 z) v402
theorem s0_eq (k:Nat) (a1:Arg):s0 k a1=r0 k a1:=by
 funext v402;
 have h0:X0_0 ((blockC 0 (seqC (codeK E k fin (sub [1,1] C)) K0))) a1=fun z=>Q0 k a1 z:=funext fun z=>Q0_eq k a1 z
 refine (l0_eq k ((blockC 0 (seqC (codeK E k fin (sub [1,1] C)) K0))) a1 v402).trans ?_
 rw[h0]
 rfl
noncomputable def p (l0:(Int)->Option Out) (a1:Arg):Option Out:=l0 (0:Int)
noncomputable def raw (k:Nat) (a1:Arg):Option Out:=p (r0 k a1) a1
theorem p_eq (k:Nat) (a1:Arg):W k a1=p (s0 k a1) a1:=by kernel_rfl
theorem raw_eq (k:Nat) (a1:Arg):W k a1=raw k a1:=(p_eq k a1).trans (by rw[s0_eq];rfl)
theorem ok:Ok prog 272 sig:=fn_ok func272 (tl:=tl) (gl:=gl) (es:=[]) (fr:=[]) rfl rfl (by kernel_rfl) (fc spec_l2Count.ok (fc spec_l2Size.ok (fn_nil _))) (fun _=>rfl)
end spec_l2Empty
namespace spec_l2Free
abbrev Arg:Type:=(List UInt8)×Unit
abbrev Out:Type:=Int×Unit
noncomputable def ps:PQ:=[(.ro,(.slc u8))]
noncomputable def rs:RQ:=[(i64,(roMd i64))]
noncomputable def tl:TL:=[]
noncomputable def gl:GL:=[(206,spec_l2Count.sig),(207,spec_l2Size.sig)]
noncomputable def E:Env:={ TI:=lookN tl,G:=lookN gl,lv:=[(3,[0,3,4])],lx:=[(0,[3])] }
noncomputable def W (k:Nat) (a:Arg):Option Out:=bodyK E k f273 ps rs [] [] a
noncomputable def sem (a:Arg):Option Out:=lift fun k=>W k a
noncomputable def sig:Sig:={ ps:=ps,rs:=rs,F:=sem }
noncomputable def C:Code:=bodyOf f273
noncomputable def fin:St->Option Out:=outK ps rs [] (Func.results f273).toList (mvs [])
noncomputable def K0:Ex->St->Option Out:=endK fin
noncomputable def T0 (a1:Arg) (v403:Int×Int):St:={ n:=21,sl:=[(0,.val (.slc u8) a1.1),(3,.val i64 v403.1),(4,.val i64 v403.2)],vr:=[],lent:=[] }
noncomputable def N0 (k:Nat):St->(Ex->St->Option Out)->Option Out:=codeK E k fin (sub [1,1,0,1,0,0] C)
noncomputable def M0:St->St:=keepF [0,3,4] []
noncomputable def S0 (rec:RT Out) (a1:Arg):(Int×Int)->Option Out:=fun v403=>rec (T0 a1 v403)
noncomputable def X0_0 (K:KT Out) (a1:Arg):Int->Option Out:=fun z=>K (.exit 0) ({ n:=21,sl:=[(3,.val i64 z)],vr:=[],lent:=[] })
noncomputable def b0 (self:(Int×Int)->Option Out) (e0:Int->Option Out) (a1:Arg) (v403:Int×Int):Option Out:=(spec_l2Count.sem (a1.1,())).bind fun r604=>bif decide (v403.2 < r604.1) then ((spec_l2Size.sem (a1.1,v403.2,())).bind fun r605=>self (w64 (v403.1 - r605.1),w64 (v403.2+(1:Int)))) else e0 v403.1
noncomputable def B0 (k:Nat) (self:(Int×Int)->Option Out) (e0:Int->Option Out) (a1:Arg) (v403:Int×Int):Option Out:=b0 self e0 a1 v403
theorem B0_eq (k:Nat) (rec:RT Out) (K:KT Out) (a1:Arg) (v403:Int×Int):N0 k (T0 a1 v403) (loopC rec M0 K)=B0 k (S0 rec a1) (X0_0 K a1) a1 v403:=by kernel_rfl
noncomputable def l0 (k:Nat) (a1:Arg) (e0:Int->Option Out) (v:Int×Int):Option Out:=rawIter (fun self v=>B0 k self e0 a1 v) k v
theorem l0_eq (k:Nat) (K:KT Out) (a1:Arg) (v403:Int×Int):iterK (N0 k) M0 K k (T0 a1 v403)=l0 k a1 (X0_0 K a1) v403:=
 iter_raw _ _ K (fun v403=>(T0 a1 v403)) (fun self v=>B0 k self (X0_0 K a1) a1 v) (fun rec v=>B0_eq k rec K a1 v) k v403
noncomputable def q0 (a1:Arg) (z606:Int):Option Out:=some (z606,())
noncomputable def Q0 (k:Nat) (a1:Arg) (z606:Int):Option Out:=q0 a1 z606
theorem Q0_eq (k:Nat) (a1:Arg) (z606:Int):X0_0 (blockC 0 (seqC (codeK E k fin (sub [1,1,1] C)) K0)) a1 z606=Q0 k a1 z606:=by kernel_rfl
noncomputable def s0 (k:Nat) (a1:Arg):(Int×Int)->Option Out:=fun v403=>iterK (N0 k) M0 (blockC 0 (seqC (codeK E k fin (sub [1,1,1] C)) K0)) k (T0 a1 v403)
noncomputable def r0 (k:Nat) (a1:Arg):(Int×Int)->Option Out:=fun v403=>l0 k a1 (fun z=>Q0 k a1 z) v403
theorem s0_eq (k:Nat) (a1:Arg):s0 k a1=r0 k a1:=by
 funext v403;
 have h0:X0_0 ((blockC 0 (seqC (codeK E k fin (sub [1,1,1] C)) K0))) a1=fun z=>Q0 k a1 z:=funext fun z=>Q0_eq k a1 z
 refine (l0_eq k ((blockC 0 (seqC (codeK E k fin (sub [1,1,1] C)) K0))) a1 v403).trans ?_
 rw[h0]
 rfl
noncomputable def p (l0:(Int×Int)->Option Out) (a1:Arg):Option Out:=(spec_l2Count.sem (a1.1,())).bind fun r2=>l0 (w64 ((62:Int) - (w64 ((2:Int)*r2.1))),(0:Int))
noncomputable def raw (k:Nat) (a1:Arg):Option Out:=p (r0 k a1) a1
theorem p_eq (k:Nat) (a1:Arg):W k a1=p (s0 k a1) a1:=by kernel_rfl
theorem raw_eq (k:Nat) (a1:Arg):W k a1=raw k a1:=(p_eq k a1).trans (by rw[s0_eq];rfl)
theorem ok:Ok prog 273 sig:=fn_ok func273 (tl:=tl) (gl:=gl) (es:=[]) (fr:=[]) rfl rfl (by kernel_rfl) (fc spec_l2Count.ok (fc spec_l2Size.ok (fn_nil _))) (fun _=>rfl)
end spec_l2Free
namespace spec_l2Stand
abbrev Arg:Type:=(List UInt8)×Int×Int×(List UInt8)×Unit
abbrev Out:Type:=(List UInt8)×Unit
noncomputable def ps:PQ:=[(.muts (ownMd (.slc u8)),(.slc u8)),(.ro,i64),(.ro,i64),(.ro,(.slc u8))]
noncomputable def rs:RQ:=[]
noncomputable def tl:TL:=[(3,i64),(5,u8),(46,(.slc u8))]
noncomputable def gl:GL:=[]
noncomputable def E:Env:={ TI:=lookN tl,G:=lookN gl }
noncomputable def W (k:Nat) (a:Arg):Option Out:=bodyK E k f274 ps rs [0] [] a
noncomputable def sem (a:Arg):Option Out:=lift fun k=>W k a
noncomputable def sig:Sig:={ ps:=ps,rs:=rs,F:=sem }
noncomputable def p (a1:Arg):Option Out:=if 0<=a1.2.2.1/\a1.2.2.1<=(a1.1.length:Int) then (let y2:=over a1.1 a1.2.2.1.toNat (min a1.2.2.2.1.length (a1.1.length - a1.2.2.1.toNat)) a1.2.2.2.1;if 0<=w64 ((2:Int)+(w64 ((2:Int)*a1.2.1)))/\w64 ((2:Int)+(w64 ((2:Int)*a1.2.1))) < (y2.length:Int) then ((y2[(w64 ((2:Int)+(w64 ((2:Int)*a1.2.1)))).toNat]?).bind fun x3=>let y4:=y2.set (w64 ((2:Int)+(w64 ((2:Int)*a1.2.1)))).toNat (UInt8.ofInt a1.2.2.1);if 0<=w64 ((3:Int)+(w64 ((2:Int)*a1.2.1)))/\w64 ((3:Int)+(w64 ((2:Int)*a1.2.1))) < (y4.length:Int) then ((y4[(w64 ((3:Int)+(w64 ((2:Int)*a1.2.1)))).toNat]?).bind fun x5=>let y6:=y4.set (w64 ((3:Int)+(w64 ((2:Int)*a1.2.1)))).toNat (UInt8.ofInt (a1.2.2.2.1.length:Int));some (y6,())) else none) else none) else none
noncomputable def raw (k:Nat) (a1:Arg):Option Out:=p a1
theorem raw_eq (k:Nat) (a1:Arg):W k a1=raw k a1:=by kernel_rfl
theorem ok:Ok prog 274 sig:=fn_ok func274 (tl:=tl) (gl:=gl) (es:=[0]) (fr:=[]) rfl rfl (by kernel_rfl) (fn_nil _) (fun _=>rfl)
end spec_l2Stand
namespace spec_l2Put
abbrev Arg:Type:=(List UInt8)×(List UInt8)×Unit
abbrev Out:Type:=(List UInt8)×Int×Int×Unit
noncomputable def ps:PQ:=[(.ro,(.slc u8)),(.ro,(.slc u8))]
noncomputable def rs:RQ:=[((.slc u8),(ownMd (.slc u8))),(i64,(roMd i64)),(i64,(roMd i64))]
noncomputable def tl:TL:=[(3,i64),(5,u8),(46,(.slc u8))]
noncomputable def gl:GL:=[(206,spec_l2Count.sig),(257,spec_l2Copy.sig),(266,spec_l2Low.sig),(272,spec_l2Empty.sig),(273,spec_l2Free.sig),(274,spec_l2Stand.sig)]
noncomputable def E:Env:={ TI:=lookN tl,G:=lookN gl }
noncomputable def W (k:Nat) (a:Arg):Option Out:=bodyK E k f212 ps rs [] [] a
noncomputable def sem (a:Arg):Option Out:=lift fun k=>W k a
noncomputable def sig:Sig:={ ps:=ps,rs:=rs,F:=sem }
noncomputable def p (a1:Arg):Option Out:=(spec_l2Empty.sem (a1.1,())).bind fun r2=>(spec_l2Count.sem (a1.1,())).bind fun r3=>let j14:=fun (p12:Int) (p13:Int)=>((spec_l2Free.sem (a1.1,())).bind fun r15=>bif decide (r15.1 < w64 ((a1.2.1.length:Int)+p13)) then (some (([]:List UInt8),(0:Int),(9:Int),())) else (spec_l2Low.sem (a1.1,())).bind fun r16=>bif decide (w64 (r16.1 - (a1.2.1.length:Int)) < w64 ((2:Int)+(w64 ((2:Int)*p12)))) then (some (([]:List UInt8),(0:Int),(8:Int),())) else (spec_l2Copy.sem (a1.1,())).bind fun r17=>if 0<=(0:Int)/\(0:Int) < (r17.1.length:Int) then ((r17.1[0]?).bind fun x18=>if 0<=(1:Int)/\(1:Int) < ((r17.1.set 0 (UInt8.ofInt p12)).length:Int) then (((r17.1.set 0 (UInt8.ofInt p12))[1]?).bind fun x19=>let y20:=(r17.1.set 0 (UInt8.ofInt p12)).set 1 (UInt8.ofInt (w64 (r16.1 - (a1.2.1.length:Int))));(spec_l2Stand.sem (y20,r2.1,w64 (r16.1 - (a1.2.1.length:Int)),a1.2.1,())).bind fun r21=>some (r21.1,r2.1,(0:Int),())) else none) else none:Option Out);bif decide (r2.1=r3.1) then (bif decide ((16:Int)<=r3.1) then (some (([]:List UInt8),(0:Int),(2:Int),())) else j14 (w64 (r3.1+(1:Int))) (2:Int)) else j14 r3.1 (0:Int)
noncomputable def raw (k:Nat) (a1:Arg):Option Out:=p a1
theorem raw_eq (k:Nat) (a1:Arg):W k a1=raw k a1:=by kernel_rfl
theorem ok:Ok prog 212 sig:=fn_ok func212 (tl:=tl) (gl:=gl) (es:=[]) (fr:=[]) rfl rfl (by kernel_rfl) (fc spec_l2Count.ok (fc spec_l2Copy.ok (fc spec_l2Low.ok (fc spec_l2Empty.ok (fc spec_l2Free.ok (fc spec_l2Stand.ok (fn_nil _))))))) (fun _=>rfl)
end spec_l2Put
namespace spec_l7Turn
abbrev Arg:Type:=L7Work×Int×(List UInt8)×Unit
abbrev Out:Type:=L7Work×Unit
noncomputable def ps:PQ:=[(.mutp (ownMd tL7Work),tL7Work),(.ro,i64),(.ro,(.slc u8))]
noncomputable def rs:RQ:=[]
noncomputable def tl:TL:=[(9,.str),(22,(.slc (.slc u8))),(27,(.slc tEdit)),(46,(.slc u8)),(209,tEdit),(281,tL7Work)]
noncomputable def gl:GL:=[(257,spec_l2Copy.sig)]
noncomputable def E:Env:={ TI:=lookN tl,G:=lookN gl,od:=[(1,[0,1,2,3,4,5,6,7,8,9,10,11]),(2,[0,1,2,3,4,5,6,7,8,9,10]),(3,[0,1,2,3,4,5,6,7,8]),(4,[0,1,2,3,4,5,6,7,8,9,10,11,12,13])] }
noncomputable def W (k:Nat) (a:Arg):Option Out:=bodyK E k f214 ps rs [0] [] a
noncomputable def sem (a:Arg):Option Out:=lift fun k=>W k a
noncomputable def sig:Sig:={ ps:=ps,rs:=rs,F:=sem }
noncomputable def p (a1:Arg):Option Out:=let j9:=fun (p8:L7Work)=>((spec_l2Copy.sem (a1.2.2.1,())).bind fun r10=>if p8.2.1.length+[(a1.2.1,r10.1,())].length<=CAP then (some ((p8.1,p8.2.1++[(a1.2.1,r10.1,())],p8.2.2),())) else none:Option Out);bif decide (a1.2.1=(a1.1.1.length:Int)) then ((spec_l2Copy.sem (a1.2.2.1,())).bind fun r2=>if a1.1.1.length+[r2.1].length<=CAP then (j9 (a1.1.1++[r2.1],a1.1.2)) else none) else if 0<=a1.2.1/\a1.2.1 < (a1.1.1.length:Int) then ((a1.1.1[a1.2.1.toNat]?).bind fun x3=>(a1.1.1[a1.2.1.toNat]?).bind fun x4=>bif decide (x4=a1.2.2.1) then (some (a1.1,())) else (spec_l2Copy.sem (a1.2.2.1,())).bind fun r5=>if 0<=a1.2.1/\a1.2.1 < (a1.1.1.length:Int) then ((a1.1.1[a1.2.1.toNat]?).bind fun x6=>j9 (a1.1.1.set a1.2.1.toNat r5.1,a1.1.2)) else none) else none
noncomputable def raw (k:Nat) (a1:Arg):Option Out:=p a1
theorem raw_eq (k:Nat) (a1:Arg):W k a1=raw k a1:=by kernel_rfl
theorem ok:Ok prog 214 sig:=fn_ok func214 (tl:=tl) (gl:=gl) (es:=[0]) (fr:=[]) rfl rfl (by kernel_rfl) (fc spec_l2Copy.ok (fn_nil _)) (fun _=>rfl)
end spec_l7Turn
namespace spec_l2Compact
abbrev Arg:Type:=(List UInt8)×Unit
abbrev Out:Type:=(List UInt8)×Unit
noncomputable def ps:PQ:=[(.ro,(.slc u8))]
noncomputable def rs:RQ:=[((.slc u8),(ownMd (.slc u8)))]
noncomputable def tl:TL:=[(3,i64),(5,u8),(46,(.slc u8))]
noncomputable def gl:GL:=[(206,spec_l2Count.sig),(207,spec_l2Size.sig),(209,spec_l2Cell.sig),(274,spec_l2Stand.sig)]
noncomputable def E:Env:={ TI:=lookN tl,G:=lookN gl,lv:=[(6,[0,3,4,5,6])],lx:=[(0,[4,5]),(1,[0,3,4,5,6])] }
noncomputable def W (k:Nat) (a:Arg):Option Out:=bodyK E k f224 ps rs [] [] a
noncomputable def sem (a:Arg):Option Out:=lift fun k=>W k a
noncomputable def sig:Sig:={ ps:=ps,rs:=rs,F:=sem }
noncomputable def C:Code:=bodyOf f224
noncomputable def fin:St->Option Out:=outK ps rs [] (Func.results f224).toList (mvs [])
noncomputable def K0:Ex->St->Option Out:=endK fin
noncomputable def T0 (a1:Arg) (c405:Int) (v404:(List UInt8)×Int×Int):St:={ n:=44,sl:=[(0,.val (.slc u8) a1.1),(3,.val i64 c405),(4,.own (.slc u8) (ownMd (.slc u8)) [] v404.1),(5,.val i64 v404.2.1),(6,.val i64 v404.2.2)],vr:=[],lent:=[] }
noncomputable def N0 (k:Nat):St->(Ex->St->Option Out)->Option Out:=codeK E k fin (sub [1,1,1,1,1,0,1,0,0] C)
noncomputable def M0:St->St:=keepF [0,3,4,5,6] []
noncomputable def S0 (rec:RT Out) (a1:Arg) (c405:Int):((List UInt8)×Int×Int)->Option Out:=fun v404=>rec (T0 a1 c405 v404)
noncomputable def X0_0 (K:KT Out) (a1:Arg) (c405:Int):((List UInt8)×Int)->Option Out:=fun z=>K (.exit 0) ({ n:=44,sl:=[(4,.own (.slc u8) (ownMd (.slc u8)) [] z.1),(5,.val i64 z.2)],vr:=[],lent:=[] })
noncomputable def b0 (self:((List UInt8)×Int×Int)->Option Out) (e0:((List UInt8)×Int)->Option Out) (a1:Arg) (c405:Int) (v404:(List UInt8)×Int×Int):Option Out:=bif decide (v404.2.2 < c405) then ((spec_l2Size.sem (a1.1,v404.2.2,())).bind fun r606=>bif decide (r606.1=(0:Int)) then (self (v404.1,v404.2.1,w64 (v404.2.2+(1:Int)))) else (spec_l2Cell.sem (a1.1,v404.2.2,())).bind fun r607=>(spec_l2Stand.sem (v404.1,v404.2.2,w64 (v404.2.1 - (r607.1.length:Int)),r607.1,())).bind fun r608=>self (r608.1,w64 (v404.2.1 - (r607.1.length:Int)),w64 (v404.2.2+(1:Int)))) else e0 (v404.1,v404.2.1)
noncomputable def B0 (k:Nat) (self:((List UInt8)×Int×Int)->Option Out) (e0:((List UInt8)×Int)->Option Out) (a1:Arg) (c405:Int) (v404:(List UInt8)×Int×Int):Option Out:=b0 self e0 a1 c405 v404
theorem B0_eq (k:Nat) (rec:RT Out) (K:KT Out) (a1:Arg) (c405:Int) (v404:(List UInt8)×Int×Int):N0 k (T0 a1 c405 v404) (loopC rec M0 K)=B0 k (S0 rec a1 c405) (X0_0 K a1 c405) a1 c405 v404:=by kernel_rfl
noncomputable def l0 (k:Nat) (a1:Arg) (c405:Int) (e0:((List UInt8)×Int)->Option Out) (v:(List UInt8)×Int×Int):Option Out:=rawIter (fun self v=>B0 k self e0 a1 c405 v) k v
theorem l0_eq (k:Nat) (K:KT Out) (a1:Arg) (c405:Int) (v404:(List UInt8)×Int×Int):iterK (N0 k) M0 K k (T0 a1 c405 v404)=l0 k a1 c405 (X0_0 K a1 c405) v404:=
 iter_raw _ _ K (fun v404=>(T0 a1 c405 v404)) (fun self v=>B0 k self (X0_0 K a1 c405) a1 c405 v) (fun rec v=>B0_eq k rec K a1 c405 v) k v404
noncomputable def q0 (a1:Arg) (c405:Int) (z609:((List UInt8)×Int)):Option Out:=if 0<=(1:Int)/\(1:Int) < (z609.1.length:Int) then ((z609.1[1]?).bind fun x610=>some (z609.1.set 1 (UInt8.ofInt z609.2),())) else none
noncomputable def Q0 (k:Nat) (a1:Arg) (c405:Int) (z609:((List UInt8)×Int)):Option Out:=q0 a1 c405 z609
theorem Q0_eq (k:Nat) (a1:Arg) (c405:Int) (z609:((List UInt8)×Int)):X0_0 (blockC 0 (seqC (codeK E k fin (sub [1,1,1,1,1,1] C)) K0)) a1 c405 z609=Q0 k a1 c405 z609:=by kernel_rfl
noncomputable def s0 (k:Nat) (a1:Arg):Int->((List UInt8)×Int×Int)->Option Out:=fun c405 v404=>iterK (N0 k) M0 (blockC 0 (seqC (codeK E k fin (sub [1,1,1,1,1,1] C)) K0)) k (T0 a1 c405 v404)
noncomputable def r0 (k:Nat) (a1:Arg):Int->((List UInt8)×Int×Int)->Option Out:=fun c405 v404=>l0 k a1 c405 (fun z=>Q0 k a1 c405 z) v404
theorem s0_eq (k:Nat) (a1:Arg):s0 k a1=r0 k a1:=by
 funext c405;funext v404;
 have h0:X0_0 ((blockC 0 (seqC (codeK E k fin (sub [1,1,1,1,1,1] C)) K0))) a1 c405=fun z=>Q0 k a1 c405 z:=funext fun z=>Q0_eq k a1 c405 z
 refine (l0_eq k ((blockC 0 (seqC (codeK E k fin (sub [1,1,1,1,1,1] C)) K0))) a1 c405 v404).trans ?_
 rw[h0]
 rfl
noncomputable def p (l0:Int->((List UInt8)×Int×Int)->Option Out) (a1:Arg):Option Out:=(spec_l2Count.sem (a1.1,())).bind fun r2=>if 0<=(64:Int)/\(64:Int)<=(64:Int)/\(64:Int)<=(CAP:Int) then (if 0<=w64 ((2:Int)+(w64 ((2:Int)*r2.1)))/\w64 ((2:Int)+(w64 ((2:Int)*r2.1)))<=(a1.1.length:Int) then (let y3:=over (List.replicate 64 (0:UInt8)) 0 (min ((a1.1.take (w64 ((2:Int)+(w64 ((2:Int)*r2.1)))).toNat).drop 0).length (List.replicate 64 (0:UInt8)).length) ((a1.1.take (w64 ((2:Int)+(w64 ((2:Int)*r2.1)))).toNat).drop 0);l0 r2.1 (y3,(64:Int),(0:Int))) else none) else none
noncomputable def raw (k:Nat) (a1:Arg):Option Out:=p (r0 k a1) a1
theorem p_eq (k:Nat) (a1:Arg):W k a1=p (s0 k a1) a1:=by kernel_rfl
theorem raw_eq (k:Nat) (a1:Arg):W k a1=raw k a1:=(p_eq k a1).trans (by rw[s0_eq];rfl)
theorem ok:Ok prog 224 sig:=fn_ok func224 (tl:=tl) (gl:=gl) (es:=[]) (fr:=[]) rfl rfl (by kernel_rfl) (fc spec_l2Count.ok (fc spec_l2Size.ok (fc spec_l2Cell.ok (fc spec_l2Stand.ok (fn_nil _))))) (fun _=>rfl)
end spec_l2Compact
namespace spec_l7PutIn
abbrev Arg:Type:=L7Work×Int×(List UInt8)×Unit
abbrev Out:Type:=Int×Bool×L7Work×Unit
noncomputable def ps:PQ:=[(.mutp (ownMd tL7Work),tL7Work),(.ro,i64),(.ro,(.slc u8))]
noncomputable def rs:RQ:=[(i64,(roMd i64)),(.bool,(roMd .bool))]
noncomputable def tl:TL:=[(22,(.slc (.slc u8))),(46,(.slc u8)),(281,tL7Work)]
noncomputable def gl:GL:=[(212,spec_l2Put.sig),(214,spec_l7Turn.sig),(224,spec_l2Compact.sig)]
noncomputable def E:Env:={ TI:=lookN tl,G:=lookN gl }
noncomputable def W (k:Nat) (a:Arg):Option Out:=bodyK E k f211 ps rs [0] [] a
noncomputable def sem (a:Arg):Option Out:=lift fun k=>W k a
noncomputable def sig:Sig:={ ps:=ps,rs:=rs,F:=sem }
noncomputable def p (a1:Arg):Option Out:=if 0<=a1.2.1/\a1.2.1 < (a1.1.1.length:Int) then ((a1.1.1[a1.2.1.toNat]?).bind fun x2=>(a1.1.1[a1.2.1.toNat]?).bind fun x3=>(spec_l2Put.sem (x3,a1.2.2.1,())).bind fun r4=>let j17:=fun (p13:L7Work) (p14:List UInt8) (p15:Int) (p16:Int)=>(bif !decide (p16=(0:Int)) then (some ((0:Int),false,p13,())) else (spec_l7Turn.sem (p13,a1.2.1,p14,())).bind fun r18=>some (p15,true,r18.1,()):Option Out);bif decide (r4.2.2.1=(8:Int)) then (if 0<=a1.2.1/\a1.2.1 < (a1.1.1.length:Int) then ((a1.1.1[a1.2.1.toNat]?).bind fun x5=>(a1.1.1[a1.2.1.toNat]?).bind fun x6=>(spec_l2Compact.sem (x6,())).bind fun r7=>(spec_l7Turn.sem (a1.1,a1.2.1,r7.1,())).bind fun r8=>if 0<=a1.2.1/\a1.2.1 < (r8.1.1.length:Int) then ((r8.1.1[a1.2.1.toNat]?).bind fun x9=>(r8.1.1[a1.2.1.toNat]?).bind fun x10=>(spec_l2Put.sem (x10,a1.2.2.1,())).bind fun r11=>j17 r8.1 r11.1 r11.2.1 r11.2.2.1) else none) else none) else j17 a1.1 r4.1 r4.2.1 r4.2.2.1) else none
noncomputable def raw (k:Nat) (a1:Arg):Option Out:=p a1
theorem raw_eq (k:Nat) (a1:Arg):W k a1=raw k a1:=by kernel_rfl
theorem ok:Ok prog 211 sig:=fn_ok func211 (tl:=tl) (gl:=gl) (es:=[0]) (fr:=[]) rfl rfl (by kernel_rfl) (fc spec_l2Put.ok (fc spec_l7Turn.ok (fc spec_l2Compact.ok (fn_nil _)))) (fun _=>rfl)
end spec_l7PutIn
namespace spec_l2New
abbrev Arg:Type:=UInt8×Unit
abbrev Out:Type:=(List UInt8)×Unit
noncomputable def ps:PQ:=[(.ro,u8)]
noncomputable def rs:RQ:=[((.slc u8),(ownMd (.slc u8)))]
noncomputable def tl:TL:=[(5,u8),(46,(.slc u8))]
noncomputable def gl:GL:=[]
noncomputable def E:Env:={ TI:=lookN tl,G:=lookN gl,lv:=[(3,[0,3,4])],lx:=[(0,[3])] }
noncomputable def W (k:Nat) (a:Arg):Option Out:=bodyK E k f213 ps rs [] [] a
noncomputable def sem (a:Arg):Option Out:=lift fun k=>W k a
noncomputable def sig:Sig:={ ps:=ps,rs:=rs,F:=sem }
noncomputable def C:Code:=bodyOf f213
noncomputable def fin:St->Option Out:=outK ps rs [] (Func.results f213).toList (mvs [])
noncomputable def K0:Ex->St->Option Out:=endK fin
noncomputable def T0 (a1:Arg) (v402:(List UInt8)×Int):St:={ n:=19,sl:=[(0,.val u8 a1.1),(3,.own (.slc u8) (ownMd (.slc u8)) [] v402.1),(4,.val i64 v402.2)],vr:=[],lent:=[] }
noncomputable def N0 (k:Nat):St->(Ex->St->Option Out)->Option Out:=codeK E k fin (sub [1,1,0,1,0,0] C)
noncomputable def M0:St->St:=keepF [0,3,4] []
noncomputable def S0 (rec:RT Out) (a1:Arg):((List UInt8)×Int)->Option Out:=fun v402=>rec (T0 a1 v402)
noncomputable def X0_0 (K:KT Out) (a1:Arg):(List UInt8)->Option Out:=fun z=>K (.exit 0) ({ n:=19,sl:=[(3,.own (.slc u8) (ownMd (.slc u8)) [] z)],vr:=[],lent:=[] })
noncomputable def b0 (self:((List UInt8)×Int)->Option Out) (e0:(List UInt8)->Option Out) (a1:Arg) (v402:(List UInt8)×Int):Option Out:=bif decide (v402.2 < (64:Int)) then (if 0<=v402.2/\v402.2 < (v402.1.length:Int) then ((v402.1[v402.2.toNat]?).bind fun x603=>self (v402.1.set v402.2.toNat a1.1,w64 (v402.2+(1:Int)))) else none) else e0 v402.1
noncomputable def B0 (k:Nat) (self:((List UInt8)×Int)->Option Out) (e0:(List UInt8)->Option Out) (a1:Arg) (v402:(List UInt8)×Int):Option Out:=b0 self e0 a1 v402
theorem B0_eq (k:Nat) (rec:RT Out) (K:KT Out) (a1:Arg) (v402:(List UInt8)×Int):N0 k (T0 a1 v402) (loopC rec M0 K)=B0 k (S0 rec a1) (X0_0 K a1) a1 v402:=by kernel_rfl
noncomputable def l0 (k:Nat) (a1:Arg) (e0:(List UInt8)->Option Out) (v:(List UInt8)×Int):Option Out:=rawIter (fun self v=>B0 k self e0 a1 v) k v
theorem l0_eq (k:Nat) (K:KT Out) (a1:Arg) (v402:(List UInt8)×Int):iterK (N0 k) M0 K k (T0 a1 v402)=l0 k a1 (X0_0 K a1) v402:=
 iter_raw _ _ K (fun v402=>(T0 a1 v402)) (fun self v=>B0 k self (X0_0 K a1) a1 v) (fun rec v=>B0_eq k rec K a1 v) k v402
noncomputable def q0 (a1:Arg) (z604:(List UInt8)):Option Out:=if 0<=(0:Int)/\(0:Int) < (z604.length:Int) then ((z604[0]?).bind fun x605=>if 0<=(1:Int)/\(1:Int) < ((z604.set 0 (0:UInt8)).length:Int) then (((z604.set 0 (0:UInt8))[1]?).bind fun x606=>let y607:=(z604.set 0 (0:UInt8)).set 1 (64:UInt8);some (y607,())) else none) else none
noncomputable def Q0 (k:Nat) (a1:Arg) (z604:(List UInt8)):Option Out:=q0 a1 z604
theorem Q0_eq (k:Nat) (a1:Arg) (z604:(List UInt8)):X0_0 (blockC 0 (seqC (codeK E k fin (sub [1,1,1] C)) K0)) a1 z604=Q0 k a1 z604:=by kernel_rfl
noncomputable def s0 (k:Nat) (a1:Arg):((List UInt8)×Int)->Option Out:=fun v402=>iterK (N0 k) M0 (blockC 0 (seqC (codeK E k fin (sub [1,1,1] C)) K0)) k (T0 a1 v402)
noncomputable def r0 (k:Nat) (a1:Arg):((List UInt8)×Int)->Option Out:=fun v402=>l0 k a1 (fun z=>Q0 k a1 z) v402
theorem s0_eq (k:Nat) (a1:Arg):s0 k a1=r0 k a1:=by
 funext v402;
 have h0:X0_0 ((blockC 0 (seqC (codeK E k fin (sub [1,1,1] C)) K0))) a1=fun z=>Q0 k a1 z:=funext fun z=>Q0_eq k a1 z
 refine (l0_eq k ((blockC 0 (seqC (codeK E k fin (sub [1,1,1] C)) K0))) a1 v402).trans ?_
 rw[h0]
 rfl
noncomputable def p (l0:((List UInt8)×Int)->Option Out) (a1:Arg):Option Out:=if 0<=(64:Int)/\(64:Int)<=(64:Int)/\(64:Int)<=(CAP:Int) then (l0 (List.replicate 64 (0:UInt8),(0:Int))) else none
noncomputable def raw (k:Nat) (a1:Arg):Option Out:=p (r0 k a1) a1
theorem p_eq (k:Nat) (a1:Arg):W k a1=p (s0 k a1) a1:=by kernel_rfl
theorem raw_eq (k:Nat) (a1:Arg):W k a1=raw k a1:=(p_eq k a1).trans (by rw[s0_eq];rfl)
theorem ok:Ok prog 213 sig:=fn_ok func213 (tl:=tl) (gl:=gl) (es:=[]) (fr:=[]) rfl rfl (by kernel_rfl) (fn_nil _) (fun _=>rfl)
end spec_l2New
namespace spec_l7Place
abbrev Arg:Type:=L7Work×Int×(List UInt8)×Unit
abbrev Out:Type:=Int×Int×Bool×L7Work×Unit
noncomputable def ps:PQ:=[(.mutp (ownMd tL7Work),tL7Work),(.ro,i64),(.ro,(.slc u8))]
noncomputable def rs:RQ:=[(i64,(roMd i64)),(i64,(roMd i64)),(.bool,(roMd .bool))]
noncomputable def tl:TL:=[(22,(.slc (.slc u8))),(281,tL7Work)]
noncomputable def gl:GL:=[(211,spec_l7PutIn.sig),(212,spec_l2Put.sig),(213,spec_l2New.sig),(214,spec_l7Turn.sig)]
noncomputable def E:Env:={ TI:=lookN tl,G:=lookN gl,lv:=[(2,[0,1,2,9])],lx:=[(0,[0,2]),(1,[0,1,2,9])] }
noncomputable def W (k:Nat) (a:Arg):Option Out:=bodyK E k f126 ps rs [0] [] a
noncomputable def sem (a:Arg):Option Out:=lift fun k=>W k a
noncomputable def sig:Sig:={ ps:=ps,rs:=rs,F:=sem }
noncomputable def C:Code:=bodyOf f126
noncomputable def fin:St->Option Out:=outK ps rs [0] (Func.results f126).toList (mvs [])
noncomputable def K0:Ex->St->Option Out:=endK fin
noncomputable def T0 (a1:Arg) (v402:L7Work×Int):St:={ n:=65,sl:=[(0,.box tL7Work (ownMd tL7Work) [] v402.1),(1,.val i64 a1.2.1),(2,.val (.slc u8) a1.2.2.1),(9,.val i64 v402.2)],vr:=[],lent:=[(0,0,false)] }
noncomputable def N0 (k:Nat):St->(Ex->St->Option Out)->Option Out:=codeK E k fin (sub [1,0,1,0,0] C)
noncomputable def M0:St->St:=keepF [0,1,2,9] []
noncomputable def S0 (rec:RT Out) (a1:Arg):(L7Work×Int)->Option Out:=fun v402=>rec (T0 a1 v402)
noncomputable def X0_0 (K:KT Out) (a1:Arg):L7Work->Option Out:=fun z=>K (.exit 0) ({ n:=65,sl:=[(0,.box tL7Work (ownMd tL7Work) [] z),(2,.val (.slc u8) a1.2.2.1)],vr:=[],lent:=[(0,0,false)] })
noncomputable def b0 (self:(L7Work×Int)->Option Out) (e0:L7Work->Option Out) (a1:Arg) (v402:L7Work×Int):Option Out:=bif decide (v402.2 < (v402.1.1.length:Int)) then (bif decide (v402.2=a1.2.1) then (self (v402.1,w64 (v402.2+(1:Int)))) else (spec_l7PutIn.sem (v402.1,v402.2,a1.2.2.1,())).bind fun r603=>bif r603.2.1 then (some (v402.2,r603.1,true,r603.2.2.1,())) else self (r603.2.2.1,w64 (v402.2+(1:Int)))) else e0 v402.1
noncomputable def B0 (k:Nat) (self:(L7Work×Int)->Option Out) (e0:L7Work->Option Out) (a1:Arg) (v402:L7Work×Int):Option Out:=b0 self e0 a1 v402
theorem B0_eq (k:Nat) (rec:RT Out) (K:KT Out) (a1:Arg) (v402:L7Work×Int):N0 k (T0 a1 v402) (loopC rec M0 K)=B0 k (S0 rec a1) (X0_0 K a1) a1 v402:=by kernel_rfl
noncomputable def l0 (k:Nat) (a1:Arg) (e0:L7Work->Option Out) (v:L7Work×Int):Option Out:=rawIter (fun self v=>B0 k self e0 a1 v) k v
theorem l0_eq (k:Nat) (K:KT Out) (a1:Arg) (v402:L7Work×Int):iterK (N0 k) M0 K k (T0 a1 v402)=l0 k a1 (X0_0 K a1) v402:=
 iter_raw _ _ K (fun v402=>(T0 a1 v402)) (fun self v=>B0 k self (X0_0 K a1) a1 v) (fun rec v=>B0_eq k rec K a1 v) k v402
noncomputable def q0 (a1:Arg) (z604:L7Work):Option Out:=bif decide ((12:Int)<=(z604.1.length:Int)) then (some ((0:Int),(0:Int),false,z604,())) else (spec_l2New.sem ((0:UInt8),())).bind fun r605=>(spec_l2Put.sem (r605.1,a1.2.2.1,())).bind fun r606=>(spec_l7Turn.sem (z604,(z604.1.length:Int),r606.1,())).bind fun r607=>some (w64 ((r607.1.1.length:Int) - (1:Int)),r606.2.1,true,r607.1,())
noncomputable def Q0 (k:Nat) (a1:Arg) (z604:L7Work):Option Out:=q0 a1 z604
theorem Q0_eq (k:Nat) (a1:Arg) (z604:L7Work):X0_0 (blockC 0 (seqC (codeK E k fin (sub [1,1] C)) K0)) a1 z604=Q0 k a1 z604:=by kernel_rfl
noncomputable def s0 (k:Nat) (a1:Arg):(L7Work×Int)->Option Out:=fun v402=>iterK (N0 k) M0 (blockC 0 (seqC (codeK E k fin (sub [1,1] C)) K0)) k (T0 a1 v402)
noncomputable def r0 (k:Nat) (a1:Arg):(L7Work×Int)->Option Out:=fun v402=>l0 k a1 (fun z=>Q0 k a1 z) v402
theorem s0_eq (k:Nat) (a1:Arg):s0 k a1=r0 k a1:=by
 funext v402;
 have h0:X0_0 ((blockC 0 (seqC (codeK E k fin (sub [1,1] C)) K0))) a1=fun z=>Q0 k a1 z:=funext fun z=>Q0_eq k a1 z
 refine (l0_eq k ((blockC 0 (seqC (codeK E k fin (sub [1,1] C)) K0))) a1 v402).trans ?_
 rw[h0]
 rfl
noncomputable def p (l0:(L7Work×Int)->Option Out) (a1:Arg):Option Out:=l0 (a1.1,(0:Int))
noncomputable def raw (k:Nat) (a1:Arg):Option Out:=p (r0 k a1) a1
theorem p_eq (k:Nat) (a1:Arg):W k a1=p (s0 k a1) a1:=by kernel_rfl
theorem raw_eq (k:Nat) (a1:Arg):W k a1=raw k a1:=(p_eq k a1).trans (by rw[s0_eq];rfl)
theorem ok:Ok prog 126 sig:=fn_ok func126 (tl:=tl) (gl:=gl) (es:=[0]) (fr:=[]) rfl rfl (by kernel_rfl) (fc spec_l7PutIn.ok (fc spec_l2Put.ok (fc spec_l2New.ok (fc spec_l7Turn.ok (fn_nil _))))) (fun _=>rfl)
end spec_l7Place
namespace spec_l1Cell
abbrev Arg:Type:=Int×Row×Unit
abbrev Out:Type:=(List UInt8)×Unit
noncomputable def ps:PQ:=[(.ro,i64),(.ro,(.ptr tRow))]
noncomputable def rs:RQ:=[((.slc u8),(ownMd (.slc u8)))]
noncomputable def tl:TL:=[(2,i64),(3,i64),(5,u8),(9,.str),(32,tRow),(46,(.slc u8))]
noncomputable def gl:GL:=[]
noncomputable def E:Env:={ TI:=lookN tl,G:=lookN gl,od:=[(1,[0,1,2,3,4,5,6,7,8,9,10,11,12,13,14,15,16,17,18,19,20,21,22,23,24,25,26,27,28,29,30,31])] }
noncomputable def W (k:Nat) (a:Arg):Option Out:=bodyK E k f127 ps rs [] [] a
noncomputable def sem (a:Arg):Option Out:=lift fun k=>W k a
noncomputable def sig:Sig:={ ps:=ps,rs:=rs,F:=sem }
noncomputable def p (a1:Arg):Option Out:=if a1.2.1.2.2.2.1.length<=CAP then (if [UInt8.ofInt a1.1,UInt8.ofInt a1.2.1.1,UInt8.ofInt a1.2.1.2.1,UInt8.ofInt (w64 (a1.2.1.2.2.1.tdiv (256:Int))),UInt8.ofInt (a1.2.1.2.2.1.tmod (256:Int)),UInt8.ofInt (a1.2.1.2.2.2.1.length:Int)].length+a1.2.1.2.2.2.1.length<=CAP then (let y2:=[UInt8.ofInt a1.1,UInt8.ofInt a1.2.1.1,UInt8.ofInt a1.2.1.2.1,UInt8.ofInt (w64 (a1.2.1.2.2.1.tdiv (256:Int))),UInt8.ofInt (a1.2.1.2.2.1.tmod (256:Int)),UInt8.ofInt (a1.2.1.2.2.2.1.length:Int)]++a1.2.1.2.2.2.1;some (y2,())) else none) else none
noncomputable def raw (k:Nat) (a1:Arg):Option Out:=p a1
theorem raw_eq (k:Nat) (a1:Arg):W k a1=raw k a1:=by kernel_rfl
theorem ok:Ok prog 127 sig:=fn_ok func127 (tl:=tl) (gl:=gl) (es:=[]) (fr:=[]) rfl rfl (by kernel_rfl) (fn_nil _) (fun _=>rfl)
end spec_l1Cell
namespace spec_l7Done
abbrev Arg:Type:=L7Work×Unit
abbrev Out:Type:=EditsResult×Unit
noncomputable def ps:PQ:=[(.eat (ownMd tL7Work),tL7Work)]
noncomputable def rs:RQ:=[(tEditsResult,(ownMd tEditsResult))]
noncomputable def tl:TL:=[(22,(.slc (.slc u8))),(27,(.slc tEdit)),(29,tEditsResult),(281,tL7Work)]
noncomputable def gl:GL:=[]
noncomputable def E:Env:={ TI:=lookN tl,G:=lookN gl,fz:=[(1,3,7),(1,7,7)],od:=[(1,[0,1,2,3,4,5,6,7,8,9])] }
noncomputable def W (k:Nat) (a:Arg):Option Out:=bodyK E k f128 ps rs [] [] a
noncomputable def sem (a:Arg):Option Out:=lift fun k=>W k a
noncomputable def sig:Sig:={ ps:=ps,rs:=rs,F:=sem }
noncomputable def p (a1:Arg):Option Out:=some (((0:Int),a1.1.2.1,a1.1.1,()),())
noncomputable def raw (k:Nat) (a1:Arg):Option Out:=p a1
theorem raw_eq (k:Nat) (a1:Arg):W k a1=raw k a1:=by kernel_rfl
theorem ok:Ok prog 128 sig:=fn_ok func128 (tl:=tl) (gl:=gl) (es:=[]) (fr:=[]) rfl rfl (by kernel_rfl) (fn_nil _) (fun _=>rfl)
end spec_l7Done
namespace laws_toByteS
abbrev Arg:Type:=(List UInt8)×Unit
abbrev Out:Type:=(List UInt8)×Unit
noncomputable def ps:PQ:=[(.ro,(.slc u8))]
noncomputable def rs:RQ:=[((.slc u8),(ownMd (.slc u8)))]
noncomputable def tl:TL:=[(5,u8),(46,(.slc u8))]
noncomputable def gl:GL:=[]
noncomputable def E:Env:={ TI:=lookN tl,G:=lookN gl,lv:=[(3,[0,3,4])],lx:=[(0,[3])] }
noncomputable def W (k:Nat) (a:Arg):Option Out:=bodyK E k f58 ps rs [] [] a
noncomputable def sem (a:Arg):Option Out:=lift fun k=>W k a
noncomputable def sig:Sig:={ ps:=ps,rs:=rs,F:=sem }
noncomputable def C:Code:=bodyOf f58
noncomputable def fin:St->Option Out:=outK ps rs [] (Func.results f58).toList (mvs [])
noncomputable def K0:Ex->St->Option Out:=endK fin
noncomputable def T0 (a1:Arg) (v402:(List UInt8)×Int):St:={ n:=22,sl:=[(0,.val (.slc u8) a1.1),(3,.own (.slc u8) (ownMd (.slc u8)) [] v402.1),(4,.val i64 v402.2)],vr:=[],lent:=[] }
noncomputable def N0 (k:Nat):St->(Ex->St->Option Out)->Option Out:=codeK E k fin (sub [1,1,0,1,0,0] C)
noncomputable def M0:St->St:=keepF [0,3,4] []
noncomputable def S0 (rec:RT Out) (a1:Arg):((List UInt8)×Int)->Option Out:=fun v402=>rec (T0 a1 v402)
noncomputable def X0_0 (K:KT Out) (a1:Arg):(List UInt8)->Option Out:=fun z=>K (.exit 0) ({ n:=22,sl:=[(3,.own (.slc u8) (ownMd (.slc u8)) [] z)],vr:=[],lent:=[] })
noncomputable def b0 (self:((List UInt8)×Int)->Option Out) (e0:(List UInt8)->Option Out) (a1:Arg) (v402:(List UInt8)×Int):Option Out:=bif decide (v402.2 < (a1.1.length:Int)) then (if 0<=v402.2 then ((a1.1[v402.2.toNat]?).bind fun x603=>if 0<=v402.2/\v402.2 < (v402.1.length:Int) then ((v402.1[v402.2.toNat]?).bind fun x604=>self (v402.1.set v402.2.toNat x603,w64 (v402.2+(1:Int)))) else none) else none) else e0 v402.1
noncomputable def B0 (k:Nat) (self:((List UInt8)×Int)->Option Out) (e0:(List UInt8)->Option Out) (a1:Arg) (v402:(List UInt8)×Int):Option Out:=b0 self e0 a1 v402
theorem B0_eq (k:Nat) (rec:RT Out) (K:KT Out) (a1:Arg) (v402:(List UInt8)×Int):N0 k (T0 a1 v402) (loopC rec M0 K)=B0 k (S0 rec a1) (X0_0 K a1) a1 v402:=by kernel_rfl
noncomputable def l0 (k:Nat) (a1:Arg) (e0:(List UInt8)->Option Out) (v:(List UInt8)×Int):Option Out:=rawIter (fun self v=>B0 k self e0 a1 v) k v
theorem l0_eq (k:Nat) (K:KT Out) (a1:Arg) (v402:(List UInt8)×Int):iterK (N0 k) M0 K k (T0 a1 v402)=l0 k a1 (X0_0 K a1) v402:=
 iter_raw _ _ K (fun v402=>(T0 a1 v402)) (fun self v=>B0 k self (X0_0 K a1) a1 v) (fun rec v=>B0_eq k rec K a1 v) k v402
noncomputable def q0 (a1:Arg) (z605:(List UInt8)):Option Out:=some (z605,())
noncomputable def Q0 (k:Nat) (a1:Arg) (z605:(List UInt8)):Option Out:=q0 a1 z605
theorem Q0_eq (k:Nat) (a1:Arg) (z605:(List UInt8)):X0_0 (blockC 0 (seqC (codeK E k fin (sub [1,1,1] C)) K0)) a1 z605=Q0 k a1 z605:=by kernel_rfl
noncomputable def s0 (k:Nat) (a1:Arg):((List UInt8)×Int)->Option Out:=fun v402=>iterK (N0 k) M0 (blockC 0 (seqC (codeK E k fin (sub [1,1,1] C)) K0)) k (T0 a1 v402)
noncomputable def r0 (k:Nat) (a1:Arg):((List UInt8)×Int)->Option Out:=fun v402=>l0 k a1 (fun z=>Q0 k a1 z) v402
theorem s0_eq (k:Nat) (a1:Arg):s0 k a1=r0 k a1:=by
 funext v402;
 have h0:X0_0 ((blockC 0 (seqC (codeK E k fin (sub [1,1,1] C)) K0))) a1=fun z=>Q0 k a1 z:=funext fun z=>Q0_eq k a1 z
 refine (l0_eq k ((blockC 0 (seqC (codeK E k fin (sub [1,1,1] C)) K0))) a1 v402).trans ?_
 rw[h0]
 rfl
noncomputable def p (l0:((List UInt8)×Int)->Option Out) (a1:Arg):Option Out:=if 0<=(a1.1.length:Int)/\(a1.1.length:Int)<=(a1.1.length:Int)/\(a1.1.length:Int)<=(CAP:Int) then (l0 (List.replicate (a1.1.length:Int).toNat (0:UInt8),(0:Int))) else none
noncomputable def raw (k:Nat) (a1:Arg):Option Out:=p (r0 k a1) a1
theorem p_eq (k:Nat) (a1:Arg):W k a1=p (s0 k a1) a1:=by kernel_rfl
theorem raw_eq (k:Nat) (a1:Arg):W k a1=raw k a1:=(p_eq k a1).trans (by rw[s0_eq];rfl)
theorem ok:Ok prog 58 sig:=fn_ok func58 (tl:=tl) (gl:=gl) (es:=[]) (fr:=[]) rfl rfl (by kernel_rfl) (fn_nil _) (fun _=>rfl)
end laws_toByteS
namespace laws_toByteSS
abbrev Arg:Type:=(List (List UInt8))×Unit
abbrev Out:Type:=(List (List UInt8))×Unit
noncomputable def ps:PQ:=[(.ro,(.slc (.slc u8)))]
noncomputable def rs:RQ:=[((.slc (.slc u8)),(ownMd (.slc (.slc u8))))]
noncomputable def tl:TL:=[(22,(.slc (.slc u8))),(46,(.slc u8))]
noncomputable def gl:GL:=[(58,laws_toByteS.sig)]
noncomputable def E:Env:={ TI:=lookN tl,G:=lookN gl,lv:=[(3,[0,3,4])],lx:=[(0,[3])] }
noncomputable def W (k:Nat) (a:Arg):Option Out:=bodyK E k f14 ps rs [] [] a
noncomputable def sem (a:Arg):Option Out:=lift fun k=>W k a
noncomputable def sig:Sig:={ ps:=ps,rs:=rs,F:=sem }
noncomputable def C:Code:=bodyOf f14
noncomputable def fin:St->Option Out:=outK ps rs [] (Func.results f14).toList (mvs [])
noncomputable def K0:Ex->St->Option Out:=endK fin
noncomputable def T0 (a1:Arg) (v402:(List (List UInt8))×Int):St:={ n:=23,sl:=[(0,.val (.slc (.slc u8)) a1.1),(3,.own (.slc (.slc u8)) (ownMd (.slc (.slc u8))) [] v402.1),(4,.val i64 v402.2)],vr:=[],lent:=[] }
noncomputable def N0 (k:Nat):St->(Ex->St->Option Out)->Option Out:=codeK E k fin (sub [1,1,0,1,0,0] C)
noncomputable def M0:St->St:=keepF [0,3,4] []
noncomputable def S0 (rec:RT Out) (a1:Arg):((List (List UInt8))×Int)->Option Out:=fun v402=>rec (T0 a1 v402)
noncomputable def X0_0 (K:KT Out) (a1:Arg):(List (List UInt8))->Option Out:=fun z=>K (.exit 0) ({ n:=23,sl:=[(3,.own (.slc (.slc u8)) (ownMd (.slc (.slc u8))) [] z)],vr:=[],lent:=[] })
noncomputable def b0 (self:((List (List UInt8))×Int)->Option Out) (e0:(List (List UInt8))->Option Out) (a1:Arg) (v402:(List (List UInt8))×Int):Option Out:=bif decide (v402.2 < (a1.1.length:Int)) then (if 0<=v402.2 then ((a1.1[v402.2.toNat]?).bind fun x603=>(laws_toByteS.sem (x603,())).bind fun r604=>if 0<=v402.2/\v402.2 < (v402.1.length:Int) then ((v402.1[v402.2.toNat]?).bind fun x605=>self (v402.1.set v402.2.toNat r604.1,w64 (v402.2+(1:Int)))) else none) else none) else e0 v402.1
noncomputable def B0 (k:Nat) (self:((List (List UInt8))×Int)->Option Out) (e0:(List (List UInt8))->Option Out) (a1:Arg) (v402:(List (List UInt8))×Int):Option Out:=b0 self e0 a1 v402
theorem B0_eq (k:Nat) (rec:RT Out) (K:KT Out) (a1:Arg) (v402:(List (List UInt8))×Int):N0 k (T0 a1 v402) (loopC rec M0 K)=B0 k (S0 rec a1) (X0_0 K a1) a1 v402:=by kernel_rfl
noncomputable def l0 (k:Nat) (a1:Arg) (e0:(List (List UInt8))->Option Out) (v:(List (List UInt8))×Int):Option Out:=rawIter (fun self v=>B0 k self e0 a1 v) k v
theorem l0_eq (k:Nat) (K:KT Out) (a1:Arg) (v402:(List (List UInt8))×Int):iterK (N0 k) M0 K k (T0 a1 v402)=l0 k a1 (X0_0 K a1) v402:=
 iter_raw _ _ K (fun v402=>(T0 a1 v402)) (fun self v=>B0 k self (X0_0 K a1) a1 v) (fun rec v=>B0_eq k rec K a1 v) k v402
noncomputable def q0 (a1:Arg) (z606:(List (List UInt8))):Option Out:=some (z606,())
noncomputable def Q0 (k:Nat) (a1:Arg) (z606:(List (List UInt8))):Option Out:=q0 a1 z606
theorem Q0_eq (k:Nat) (a1:Arg) (z606:(List (List UInt8))):X0_0 (blockC 0 (seqC (codeK E k fin (sub [1,1,1] C)) K0)) a1 z606=Q0 k a1 z606:=by kernel_rfl
noncomputable def s0 (k:Nat) (a1:Arg):((List (List UInt8))×Int)->Option Out:=fun v402=>iterK (N0 k) M0 (blockC 0 (seqC (codeK E k fin (sub [1,1,1] C)) K0)) k (T0 a1 v402)
noncomputable def r0 (k:Nat) (a1:Arg):((List (List UInt8))×Int)->Option Out:=fun v402=>l0 k a1 (fun z=>Q0 k a1 z) v402
theorem s0_eq (k:Nat) (a1:Arg):s0 k a1=r0 k a1:=by
 funext v402;
 have h0:X0_0 ((blockC 0 (seqC (codeK E k fin (sub [1,1,1] C)) K0))) a1=fun z=>Q0 k a1 z:=funext fun z=>Q0_eq k a1 z
 refine (l0_eq k ((blockC 0 (seqC (codeK E k fin (sub [1,1,1] C)) K0))) a1 v402).trans ?_
 rw[h0]
 rfl
noncomputable def p (l0:((List (List UInt8))×Int)->Option Out) (a1:Arg):Option Out:=if 0<=(a1.1.length:Int)/\(a1.1.length:Int)<=(a1.1.length:Int)/\(a1.1.length:Int)<=(CAP:Int) then (l0 (List.replicate (a1.1.length:Int).toNat ([]:List UInt8),(0:Int))) else none
noncomputable def raw (k:Nat) (a1:Arg):Option Out:=p (r0 k a1) a1
theorem p_eq (k:Nat) (a1:Arg):W k a1=p (s0 k a1) a1:=by kernel_rfl
theorem raw_eq (k:Nat) (a1:Arg):W k a1=raw k a1:=(p_eq k a1).trans (by rw[s0_eq];rfl)
theorem ok:Ok prog 14 sig:=fn_ok func14 (tl:=tl) (gl:=gl) (es:=[]) (fr:=[]) rfl rfl (by kernel_rfl) (fc laws_toByteS.ok (fn_nil _)) (fun _=>rfl)
end laws_toByteSS
namespace laws_toRow
abbrev Arg:Type:=Row×Unit
abbrev Out:Type:=Row×Unit
noncomputable def ps:PQ:=[(.ro,tRow)]
noncomputable def rs:RQ:=[(tRow,(roMd tRow))]
noncomputable def tl:TL:=[(2,i64),(9,.str),(24,tRow),(32,tRow)]
noncomputable def gl:GL:=[]
noncomputable def E:Env:={ TI:=lookN tl,G:=lookN gl }
noncomputable def W (k:Nat) (a:Arg):Option Out:=bodyK E k f15 ps rs [] [] a
noncomputable def sem (a:Arg):Option Out:=lift fun k=>W k a
noncomputable def sig:Sig:={ ps:=ps,rs:=rs,F:=sem }
noncomputable def p (a1:Arg):Option Out:=some ((a1.1.1,a1.1.2.1,a1.1.2.2.1,a1.1.2.2.2.1,()),())
noncomputable def raw (k:Nat) (a1:Arg):Option Out:=p a1
theorem raw_eq (k:Nat) (a1:Arg):W k a1=raw k a1:=by kernel_rfl
theorem ok:Ok prog 15 sig:=fn_ok func15 (tl:=tl) (gl:=gl) (es:=[]) (fr:=[]) rfl rfl (by kernel_rfl) (fn_nil _) (fun _=>rfl)
end laws_toRow
namespace impl_slots
abbrev Arg:Type:=(List UInt8)×Unit
abbrev Out:Type:=Int×Unit
noncomputable def ps:PQ:=[(.ro,(.slc u8))]
noncomputable def rs:RQ:=[(i64,(roMd i64))]
noncomputable def tl:TL:=[(3,i64),(5,u8),(46,(.slc u8))]
noncomputable def gl:GL:=[]
noncomputable def E:Env:={ TI:=lookN tl,G:=lookN gl }
noncomputable def W (k:Nat) (a:Arg):Option Out:=bodyK E k f130 ps rs [] [] a
noncomputable def sem (a:Arg):Option Out:=lift fun k=>W k a
noncomputable def sig:Sig:={ ps:=ps,rs:=rs,F:=sem }
noncomputable def p (a1:Arg):Option Out:=(a1.1[0]?).bind fun x2=>some (w64 (x2.toNat:Int),())
noncomputable def raw (k:Nat) (a1:Arg):Option Out:=p a1
theorem raw_eq (k:Nat) (a1:Arg):W k a1=raw k a1:=by kernel_rfl
theorem ok:Ok prog 130 sig:=fn_ok func130 (tl:=tl) (gl:=gl) (es:=[]) (fr:=[]) rfl rfl (by kernel_rfl) (fn_nil _) (fun _=>rfl)
end impl_slots
namespace impl_spot
abbrev Arg:Type:=(List UInt8)×Int×Unit
abbrev Out:Type:=Int×Int×Unit
noncomputable def ps:PQ:=[(.ro,(.slc u8)),(.ro,i64)]
noncomputable def rs:RQ:=[(i64,(roMd i64)),(i64,(roMd i64))]
noncomputable def tl:TL:=[(3,i64),(5,u8),(46,(.slc u8))]
noncomputable def gl:GL:=[]
noncomputable def E:Env:={ TI:=lookN tl,G:=lookN gl,od:=[(1,[0,1,2,3,4,5,6,7,8,9,10,11,12,13,14,15])] }
noncomputable def W (k:Nat) (a:Arg):Option Out:=bodyK E k f215 ps rs [] [] a
noncomputable def sem (a:Arg):Option Out:=lift fun k=>W k a
noncomputable def sig:Sig:={ ps:=ps,rs:=rs,F:=sem }
noncomputable def p (a1:Arg):Option Out:=if 0<=w64 ((2:Int)+(w64 ((2:Int)*a1.2.1))) then ((a1.1[(w64 ((2:Int)+(w64 ((2:Int)*a1.2.1)))).toNat]?).bind fun x2=>if 0<=w64 ((3:Int)+(w64 ((2:Int)*a1.2.1))) then ((a1.1[(w64 ((3:Int)+(w64 ((2:Int)*a1.2.1)))).toNat]?).bind fun x3=>some (w64 (x2.toNat:Int),w64 (x3.toNat:Int),())) else none) else none
noncomputable def raw (k:Nat) (a1:Arg):Option Out:=p a1
theorem raw_eq (k:Nat) (a1:Arg):W k a1=raw k a1:=by kernel_rfl
theorem ok:Ok prog 215 sig:=fn_ok func215 (tl:=tl) (gl:=gl) (es:=[]) (fr:=[]) rfl rfl (by kernel_rfl) (fn_nil _) (fun _=>rfl)
end impl_spot
namespace impl_PageFault
abbrev Arg:Type:=(List UInt8)×Unit
abbrev Out:Type:=Int×Unit
noncomputable def ps:PQ:=[(.ro,(.slc u8))]
noncomputable def rs:RQ:=[(i64,(roMd i64))]
noncomputable def tl:TL:=[(3,i64),(4,.bool),(5,u8),(46,(.slc u8)),(290,(.arr 64 .bool))]
noncomputable def gl:GL:=[(130,impl_slots.sig),(215,impl_spot.sig)]
noncomputable def E:Env:={ TI:=lookN tl,G:=lookN gl,lv:=[(7,[0,3,4,35,36]),(15,[0,3,8,66,67]),(19,[0,3,8,10,11,12,66,67])],lx:=[(0,[0,3]),(2,[0,3]),(4,[0,3,8,66,67])],od:=[(3,[0,2,3,4,5,1,6,7])] }
noncomputable def W (k:Nat) (a:Arg):Option Out:=bodyK E k f129 ps rs [] [] a
noncomputable def sem (a:Arg):Option Out:=lift fun k=>W k a
noncomputable def sig:Sig:={ ps:=ps,rs:=rs,F:=sem }
noncomputable def C:Code:=bodyOf f129
noncomputable def fin:St->Option Out:=outK ps rs [] (Func.results f129).toList (mvs [])
noncomputable def K0:Ex->St->Option Out:=endK fin
noncomputable def T0 (a1:Arg) (c405:Int) (c406:Int) (v404:Int):St:={ n:=101,sl:=[(0,.val (.slc u8) a1.1),(3,.val i64 c405),(4,.val i64 c406),(35,.val i64 c405),(36,.val i64 v404)],vr:=[],lent:=[] }
noncomputable def N0 (k:Nat):St->(Ex->St->Option Out)->Option Out:=codeK E k fin (sub [1,1,1,1,0,1,0,0] C)
noncomputable def M0:St->St:=keepF [0,3,4,35,36] []
noncomputable def S0 (rec:RT Out) (a1:Arg) (c405:Int) (c406:Int):(Int)->Option Out:=fun v404=>rec (T0 a1 c405 c406 v404)
noncomputable def X0_0 (K:KT Out) (a1:Arg) (c405:Int) (c406:Int):(Unit)->Option Out:=fun z=>K (.exit 0) ({ n:=101,sl:=[(0,.val (.slc u8) a1.1),(3,.val i64 c405)],vr:=[],lent:=[] })
noncomputable def b0 (self:Int->Option Out) (e0:(Unit)->Option Out) (a1:Arg) (c405:Int) (c406:Int) (v404:Int):Option Out:=bif decide (v404 < c405) then ((impl_spot.sem (a1.1,v404,())).bind fun r607=>bif !((decide (r607.1=(0:Int))) == (decide (r607.2.1=(0:Int)))) then (some ((3:Int),())) else bif !decide (r607.1=(0:Int)) then (bif decide (r607.1 < c406) then (some ((3:Int),())) else bif decide ((64:Int) < w64 (r607.1+r607.2.1)) then (some ((3:Int),())) else self (w64 (v404+(1:Int)))) else bif decide ((64:Int) < w64 (r607.1+r607.2.1)) then (some ((3:Int),())) else self (w64 (v404+(1:Int)))) else e0 ()
noncomputable def B0 (k:Nat) (self:Int->Option Out) (e0:(Unit)->Option Out) (a1:Arg) (c405:Int) (c406:Int) (v404:Int):Option Out:=b0 self e0 a1 c405 c406 v404
theorem B0_eq (k:Nat) (rec:RT Out) (K:KT Out) (a1:Arg) (c405:Int) (c406:Int) (v404:Int):N0 k (T0 a1 c405 c406 v404) (loopC rec M0 K)=B0 k (S0 rec a1 c405 c406) (X0_0 K a1 c405 c406) a1 c405 c406 v404:=by kernel_rfl
noncomputable def l0 (k:Nat) (a1:Arg) (c405:Int) (c406:Int) (e0:(Unit)->Option Out) (v:Int):Option Out:=rawIter (fun self v=>B0 k self e0 a1 c405 c406 v) k v
theorem l0_eq (k:Nat) (K:KT Out) (a1:Arg) (c405:Int) (c406:Int) (v404:Int):iterK (N0 k) M0 K k (T0 a1 c405 c406 v404)=l0 k a1 c405 c406 (X0_0 K a1 c405 c406) v404:=
 iter_raw _ _ K (fun v404=>(T0 a1 c405 c406 v404)) (fun self v=>B0 k self (X0_0 K a1 c405 c406) a1 c405 c406 v) (fun rec v=>B0_eq k rec K a1 c405 c406 v) k v404
noncomputable def T1 (a1:Arg) (v1009:(List UInt8)×Int×(List Bool)×Int×Int):St:={ n:=101,sl:=[(0,.val (.slc u8) v1009.1),(3,.val i64 v1009.2.1),(8,.box (.arr 64 .bool) (roMd (.arr 64 .bool)) [] v1009.2.2.1),(66,.val i64 v1009.2.2.2.1),(67,.val i64 v1009.2.2.2.2)],vr:=[],lent:=[] }
noncomputable def N1 (k:Nat):St->(Ex->St->Option Out)->Option Out:=codeK E k fin (sub [1,1,1,1,1,1,0,1,0,0] C)
noncomputable def M1:St->St:=keepF [0,3,8,66,67] []
noncomputable def S1 (rec:RT Out) (a1:Arg):((List UInt8)×Int×(List Bool)×Int×Int)->Option Out:=fun v1009=>rec (T1 a1 v1009)
noncomputable def X1_2 (K:KT Out) (a1:Arg):((List UInt8)×Int)->Option Out:=fun z=>K (.exit 2) ({ n:=101,sl:=[(0,.val (.slc u8) z.1),(3,.val i64 z.2)],vr:=[],lent:=[] })
noncomputable def T2 (a1:Arg) (c1612:List UInt8) (c1613:Int) (c1614:Int) (c1615:Int) (c1616:Int) (c1617:Int) (v1611:(List Bool)×Int):St:={ n:=101,sl:=[(0,.val (.slc u8) c1612),(3,.val i64 c1613),(8,.box (.arr 64 .bool) (roMd (.arr 64 .bool)) [] v1611.1),(10,.val i64 c1614),(11,.val i64 c1615),(12,.val i64 v1611.2),(66,.val i64 c1616),(67,.val i64 c1617)],vr:=[],lent:=[] }
noncomputable def N2 (k:Nat):St->(Ex->St->Option Out)->Option Out:=codeK E k fin (sub [1,1,1,1,1,1,0,1,0,0,1,1,0,0,1,1,1,0,0] C)
noncomputable def M2:St->St:=keepF [0,3,8,10,11,12,66,67] []
noncomputable def S2 (rec:RT Out) (a1:Arg) (c1612:List UInt8) (c1613:Int) (c1614:Int) (c1615:Int) (c1616:Int) (c1617:Int):((List Bool)×Int)->Option Out:=fun v1611=>rec (T2 a1 c1612 c1613 c1614 c1615 c1616 c1617 v1611)
noncomputable def X2_4 (K:KT Out) (a1:Arg) (c1612:List UInt8) (c1613:Int) (c1614:Int) (c1615:Int) (c1616:Int) (c1617:Int):(List Bool)->Option Out:=fun z=>K (.exit 4) ({ n:=101,sl:=[(0,.val (.slc u8) c1612),(3,.val i64 c1613),(8,.box (.arr 64 .bool) (roMd (.arr 64 .bool)) [] z),(66,.val i64 c1616),(67,.val i64 c1617)],vr:=[],lent:=[] })
noncomputable def b2 (self:((List Bool)×Int)->Option Out) (e4:(List Bool)->Option Out) (a1:Arg) (c1612:List UInt8) (c1613:Int) (c1614:Int) (c1615:Int) (c1616:Int) (c1617:Int) (v1611:(List Bool)×Int):Option Out:=bif decide (v1611.2 < w64 (c1614+c1615)) then (if 0<=v1611.2/\v1611.2 < (v1611.1.length:Int) then ((v1611.1[v1611.2.toNat]?).bind fun x1818=>bif x1818 then (some ((8:Int),())) else if 0<=v1611.2/\v1611.2 < (v1611.1.length:Int) then ((v1611.1[v1611.2.toNat]?).bind fun x1819=>self (v1611.1.set v1611.2.toNat true,w64 (v1611.2+(1:Int)))) else none) else none) else e4 v1611.1
noncomputable def B2 (k:Nat) (self:((List Bool)×Int)->Option Out) (e4:(List Bool)->Option Out) (a1:Arg) (c1612:List UInt8) (c1613:Int) (c1614:Int) (c1615:Int) (c1616:Int) (c1617:Int) (v1611:(List Bool)×Int):Option Out:=b2 self e4 a1 c1612 c1613 c1614 c1615 c1616 c1617 v1611
theorem B2_eq (k:Nat) (rec:RT Out) (K:KT Out) (a1:Arg) (c1612:List UInt8) (c1613:Int) (c1614:Int) (c1615:Int) (c1616:Int) (c1617:Int) (v1611:(List Bool)×Int):N2 k (T2 a1 c1612 c1613 c1614 c1615 c1616 c1617 v1611) (loopC rec M2 K)=B2 k (S2 rec a1 c1612 c1613 c1614 c1615 c1616 c1617) (X2_4 K a1 c1612 c1613 c1614 c1615 c1616 c1617) a1 c1612 c1613 c1614 c1615 c1616 c1617 v1611:=by kernel_rfl
noncomputable def l2 (k:Nat) (a1:Arg) (c1612:List UInt8) (c1613:Int) (c1614:Int) (c1615:Int) (c1616:Int) (c1617:Int) (e4:(List Bool)->Option Out) (v:(List Bool)×Int):Option Out:=rawIter (fun self v=>B2 k self e4 a1 c1612 c1613 c1614 c1615 c1616 c1617 v) k v
theorem l2_eq (k:Nat) (K:KT Out) (a1:Arg) (c1612:List UInt8) (c1613:Int) (c1614:Int) (c1615:Int) (c1616:Int) (c1617:Int) (v1611:(List Bool)×Int):iterK (N2 k) M2 K k (T2 a1 c1612 c1613 c1614 c1615 c1616 c1617 v1611)=l2 k a1 c1612 c1613 c1614 c1615 c1616 c1617 (X2_4 K a1 c1612 c1613 c1614 c1615 c1616 c1617) v1611:=
 iter_raw _ _ K (fun v1611=>(T2 a1 c1612 c1613 c1614 c1615 c1616 c1617 v1611)) (fun self v=>B2 k self (X2_4 K a1 c1612 c1613 c1614 c1615 c1616 c1617) a1 c1612 c1613 c1614 c1615 c1616 c1617 v) (fun rec v=>B2_eq k rec K a1 c1612 c1613 c1614 c1615 c1616 c1617 v) k v1611
noncomputable def q1 (self:((List UInt8)×Int×(List Bool)×Int×Int)->Option Out) (e2:((List UInt8)×Int)->Option Out) (a1:Arg) (c1612:List UInt8) (c1613:Int) (c1614:Int) (c1615:Int) (c1616:Int) (c1617:Int) (z1820:(List Bool)):Option Out:=self (c1612,c1613,z1820,c1616,w64 (c1617+(1:Int)))
noncomputable def Q1 (k:Nat) (self:((List UInt8)×Int×(List Bool)×Int×Int)->Option Out) (e2:((List UInt8)×Int)->Option Out) (a1:Arg) (c1612:List UInt8) (c1613:Int) (c1614:Int) (c1615:Int) (c1616:Int) (c1617:Int) (z1820:(List Bool)):Option Out:=q1 self e2 a1 c1612 c1613 c1614 c1615 c1616 c1617 z1820
theorem Q1_eq (k:Nat) (rec:RT Out) (K:KT Out) (a1:Arg) (c1612:List UInt8) (c1613:Int) (c1614:Int) (c1615:Int) (c1616:Int) (c1617:Int) (z1820:(List Bool)):X2_4 (blockC 4 (blockC 3 (seqC (codeK E k fin (sub [1,1,1,1,1,1,0,1,0,0,1,1,1] C)) (loopC rec (keepF [0,3,8,66,67] []) K)))) a1 c1612 c1613 c1614 c1615 c1616 c1617 z1820=Q1 k (S1 rec a1) (X1_2 K a1) a1 c1612 c1613 c1614 c1615 c1616 c1617 z1820:=by kernel_rfl
noncomputable def s2 (k:Nat) (rec:RT Out) (K:KT Out) (a1:Arg):(List UInt8)->Int->Int->Int->Int->Int->((List Bool)×Int)->Option Out:=fun c1612 c1613 c1614 c1615 c1616 c1617 v1611=>iterK (N2 k) M2 (blockC 4 (blockC 3 (seqC (codeK E k fin (sub [1,1,1,1,1,1,0,1,0,0,1,1,1] C)) (loopC rec (keepF [0,3,8,66,67] []) K)))) k (T2 a1 c1612 c1613 c1614 c1615 c1616 c1617 v1611)
noncomputable def r2 (k:Nat) (self:((List UInt8)×Int×(List Bool)×Int×Int)->Option Out) (e2:((List UInt8)×Int)->Option Out) (a1:Arg):(List UInt8)->Int->Int->Int->Int->Int->((List Bool)×Int)->Option Out:=fun c1612 c1613 c1614 c1615 c1616 c1617 v1611=>l2 k a1 c1612 c1613 c1614 c1615 c1616 c1617 (fun z=>Q1 k self e2 a1 c1612 c1613 c1614 c1615 c1616 c1617 z) v1611
theorem s2_eq (k:Nat) (rec:RT Out) (K:KT Out) (a1:Arg):s2 k rec K a1=r2 k (S1 rec a1) (X1_2 K a1) a1:=by
 funext c1612;funext c1613;funext c1614;funext c1615;funext c1616;funext c1617;funext v1611;
 have h4:X2_4 ((blockC 4 (blockC 3 (seqC (codeK E k fin (sub [1,1,1,1,1,1,0,1,0,0,1,1,1] C)) (loopC rec (keepF [0,3,8,66,67] []) K))))) a1 c1612 c1613 c1614 c1615 c1616 c1617=fun z=>Q1 k (S1 rec a1) (X1_2 K a1) a1 c1612 c1613 c1614 c1615 c1616 c1617 z:=funext fun z=>Q1_eq k rec K a1 c1612 c1613 c1614 c1615 c1616 c1617 z
 refine (l2_eq k ((blockC 4 (blockC 3 (seqC (codeK E k fin (sub [1,1,1,1,1,1,0,1,0,0,1,1,1] C)) (loopC rec (keepF [0,3,8,66,67] []) K))))) a1 c1612 c1613 c1614 c1615 c1616 c1617 v1611).trans ?_
 rw[h4]
 rfl
noncomputable def b1 (self:((List UInt8)×Int×(List Bool)×Int×Int)->Option Out) (e2:((List UInt8)×Int)->Option Out) (l2:(List UInt8)->Int->Int->Int->Int->Int->((List Bool)×Int)->Option Out) (a1:Arg) (v1009:(List UInt8)×Int×(List Bool)×Int×Int):Option Out:=bif decide (v1009.2.2.2.2 < v1009.2.2.2.1) then ((impl_spot.sem (v1009.1,v1009.2.2.2.2,())).bind fun r1210=>l2 v1009.1 v1009.2.1 r1210.1 r1210.2.1 v1009.2.2.2.1 v1009.2.2.2.2 (v1009.2.2.1,r1210.1)) else e2 (v1009.1,v1009.2.1)
noncomputable def B1 (k:Nat) (self:((List UInt8)×Int×(List Bool)×Int×Int)->Option Out) (e2:((List UInt8)×Int)->Option Out) (a1:Arg) (v1009:(List UInt8)×Int×(List Bool)×Int×Int):Option Out:=b1 self e2 (r2 k self e2 a1) a1 v1009
theorem b1_eq (k:Nat) (rec:RT Out) (K:KT Out) (a1:Arg) (v1009:(List UInt8)×Int×(List Bool)×Int×Int):N1 k (T1 a1 v1009) (loopC rec M1 K)=b1 (S1 rec a1) (X1_2 K a1) (s2 k rec K a1) a1 v1009:=by kernel_rfl
theorem B1_eq (k:Nat) (rec:RT Out) (K:KT Out) (a1:Arg) (v1009:(List UInt8)×Int×(List Bool)×Int×Int):N1 k (T1 a1 v1009) (loopC rec M1 K)=B1 k (S1 rec a1) (X1_2 K a1) a1 v1009:=(b1_eq k rec K a1 v1009).trans (by rw[s2_eq];rfl)
noncomputable def l1 (k:Nat) (a1:Arg) (e2:((List UInt8)×Int)->Option Out) (v:(List UInt8)×Int×(List Bool)×Int×Int):Option Out:=rawIter (fun self v=>B1 k self e2 a1 v) k v
theorem l1_eq (k:Nat) (K:KT Out) (a1:Arg) (v1009:(List UInt8)×Int×(List Bool)×Int×Int):iterK (N1 k) M1 K k (T1 a1 v1009)=l1 k a1 (X1_2 K a1) v1009:=
 iter_raw _ _ K (fun v1009=>(T1 a1 v1009)) (fun self v=>B1 k self (X1_2 K a1) a1 v) (fun rec v=>B1_eq k rec K a1 v) k v1009
noncomputable def q2 (a1:Arg) (z1821:((List UInt8)×Int)):Option Out:=bif decide ((0:Int) < z1821.2) then (if 0<=w64 ((w64 ((2:Int)*z1821.2))+(1:Int)) then ((z1821.1[(w64 ((w64 ((2:Int)*z1821.2))+(1:Int))).toNat]?).bind fun x1822=>bif decide ((x1822.toNat:Int)=(0:Int)) then (some ((8:Int),())) else some ((0:Int),())) else none) else some ((0:Int),())
noncomputable def Q2 (k:Nat) (a1:Arg) (z1821:((List UInt8)×Int)):Option Out:=q2 a1 z1821
theorem Q2_eq (k:Nat) (a1:Arg) (z1821:((List UInt8)×Int)):X1_2 (blockC 2 (seqC (codeK E k fin (sub [1,1,1,1,1,1,1] C)) K0)) a1 z1821=Q2 k a1 z1821:=by kernel_rfl
noncomputable def s1 (k:Nat) (a1:Arg) (c405:Int) (c406:Int):((List UInt8)×Int×(List Bool)×Int×Int)->Option Out:=fun v1009=>iterK (N1 k) M1 (blockC 2 (seqC (codeK E k fin (sub [1,1,1,1,1,1,1] C)) K0)) k (T1 a1 v1009)
noncomputable def r1 (k:Nat) (a1:Arg) (c405:Int) (c406:Int):((List UInt8)×Int×(List Bool)×Int×Int)->Option Out:=fun v1009=>l1 k a1 (fun z=>Q2 k a1 z) v1009
theorem s1_eq (k:Nat) (a1:Arg) (c405:Int) (c406:Int):s1 k a1 c405 c406=r1 k a1 c405 c406:=by
 funext v1009;
 have h2:X1_2 ((blockC 2 (seqC (codeK E k fin (sub [1,1,1,1,1,1,1] C)) K0))) a1=fun z=>Q2 k a1 z:=funext fun z=>Q2_eq k a1 z
 refine (l1_eq k ((blockC 2 (seqC (codeK E k fin (sub [1,1,1,1,1,1,1] C)) K0))) a1 v1009).trans ?_
 rw[h2]
 rfl
noncomputable def q0 (l1:((List UInt8)×Int×(List Bool)×Int×Int)->Option Out) (a1:Arg) (c405:Int) (c406:Int) (z608:(Unit)):Option Out:=l1 (a1.1,c405,List.replicate 64 false,c405,(0:Int))
noncomputable def Q0 (k:Nat) (a1:Arg) (c405:Int) (c406:Int) (z608:(Unit)):Option Out:=q0 (r1 k a1 c405 c406) a1 c405 c406 z608
theorem q0_eq (k:Nat) (a1:Arg) (c405:Int) (c406:Int) (z608:(Unit)):X0_0 (blockC 0 (seqC (codeK E k fin (sub [1,1,1,1,1] C)) K0)) a1 c405 c406 z608=q0 (s1 k a1 c405 c406) a1 c405 c406 z608:=by kernel_rfl
theorem Q0_eq (k:Nat) (a1:Arg) (c405:Int) (c406:Int) (z608:(Unit)):X0_0 (blockC 0 (seqC (codeK E k fin (sub [1,1,1,1,1] C)) K0)) a1 c405 c406 z608=Q0 k a1 c405 c406 z608:=(q0_eq k a1 c405 c406 z608).trans (by rw[s1_eq];rfl)
noncomputable def s0 (k:Nat) (a1:Arg):Int->Int->(Int)->Option Out:=fun c405 c406 v404=>iterK (N0 k) M0 (blockC 0 (seqC (codeK E k fin (sub [1,1,1,1,1] C)) K0)) k (T0 a1 c405 c406 v404)
noncomputable def r0 (k:Nat) (a1:Arg):Int->Int->(Int)->Option Out:=fun c405 c406 v404=>l0 k a1 c405 c406 (fun z=>Q0 k a1 c405 c406 z) v404
theorem s0_eq (k:Nat) (a1:Arg):s0 k a1=r0 k a1:=by
 funext c405;funext c406;funext v404;
 have h0:X0_0 ((blockC 0 (seqC (codeK E k fin (sub [1,1,1,1,1] C)) K0))) a1 c405 c406=fun z=>Q0 k a1 c405 c406 z:=funext fun z=>Q0_eq k a1 c405 c406 z
 refine (l0_eq k ((blockC 0 (seqC (codeK E k fin (sub [1,1,1,1,1] C)) K0))) a1 c405 c406 v404).trans ?_
 rw[h0]
 rfl
noncomputable def p (l0:Int->Int->(Int)->Option Out) (a1:Arg):Option Out:=bif !decide ((a1.1.length:Int)=(64:Int)) then (some ((1:Int),())) else (a1.1[1]?).bind fun x2=>(impl_slots.sem (a1.1,())).bind fun r3=>bif decide ((16:Int) < r3.1) then (some ((3:Int),())) else bif decide (w64 (x2.toNat:Int) < w64 ((2:Int)+(w64 ((2:Int)*r3.1)))) then (some ((3:Int),())) else bif decide ((64:Int) < w64 (x2.toNat:Int)) then (some ((3:Int),())) else l0 r3.1 (w64 (x2.toNat:Int)) (0:Int)
noncomputable def raw (k:Nat) (a1:Arg):Option Out:=p (r0 k a1) a1
theorem p_eq (k:Nat) (a1:Arg):W k a1=p (s0 k a1) a1:=by kernel_rfl
theorem raw_eq (k:Nat) (a1:Arg):W k a1=raw k a1:=(p_eq k a1).trans (by rw[s0_eq];rfl)
theorem ok:Ok prog 129 sig:=fn_ok func129 (tl:=tl) (gl:=gl) (es:=[]) (fr:=[]) rfl rfl (by kernel_rfl) (fc impl_slots.ok (fc impl_spot.ok (fn_nil _))) (fun _=>rfl)
end impl_PageFault
namespace impl_hasSlot
abbrev Arg:Type:=(List UInt8)×Int×Unit
abbrev Out:Type:=Bool×Unit
noncomputable def ps:PQ:=[(.ro,(.slc u8)),(.ro,i64)]
noncomputable def rs:RQ:=[(.bool,(roMd .bool))]
noncomputable def tl:TL:=[(5,u8),(46,(.slc u8))]
noncomputable def gl:GL:=[(130,impl_slots.sig)]
noncomputable def E:Env:={ TI:=lookN tl,G:=lookN gl }
noncomputable def W (k:Nat) (a:Arg):Option Out:=bodyK E k f131 ps rs [] [] a
noncomputable def sem (a:Arg):Option Out:=lift fun k=>W k a
noncomputable def sig:Sig:={ ps:=ps,rs:=rs,F:=sem }
noncomputable def p (a1:Arg):Option Out:=bif decide ((0:Int)<=a1.2.1) then ((impl_slots.sem (a1.1,())).bind fun r2=>bif decide (a1.2.1 < r2.1) then (if 0<=w64 ((3:Int)+(w64 ((2:Int)*a1.2.1))) then ((a1.1[(w64 ((3:Int)+(w64 ((2:Int)*a1.2.1)))).toNat]?).bind fun x3=>some (!decide ((x3.toNat:Int)=(0:Int)),())) else none) else some (false,())) else some (false,())
noncomputable def raw (k:Nat) (a1:Arg):Option Out:=p a1
theorem raw_eq (k:Nat) (a1:Arg):W k a1=raw k a1:=by kernel_rfl
theorem ok:Ok prog 131 sig:=fn_ok func131 (tl:=tl) (gl:=gl) (es:=[]) (fr:=[]) rfl rfl (by kernel_rfl) (fc impl_slots.ok (fn_nil _)) (fun _=>rfl)
end impl_hasSlot
namespace impl_in
abbrev Arg:Type:=Int×Int×Int×Unit
abbrev Out:Type:=Bool×Unit
noncomputable def ps:PQ:=[(.ro,i64),(.ro,i64),(.ro,i64)]
noncomputable def rs:RQ:=[(.bool,(roMd .bool))]
noncomputable def tl:TL:=[]
noncomputable def gl:GL:=[]
noncomputable def E:Env:={ TI:=lookN tl,G:=lookN gl }
noncomputable def W (k:Nat) (a:Arg):Option Out:=bodyK E k f99 ps rs [] [] a
noncomputable def sem (a:Arg):Option Out:=lift fun k=>W k a
noncomputable def sig:Sig:={ ps:=ps,rs:=rs,F:=sem }
noncomputable def p (a1:Arg):Option Out:=bif decide (a1.2.1<=a1.1) then (some (decide (a1.1<=a1.2.2.1),())) else some (false,())
noncomputable def raw (k:Nat) (a1:Arg):Option Out:=p a1
theorem raw_eq (k:Nat) (a1:Arg):W k a1=raw k a1:=by kernel_rfl
theorem ok:Ok prog 99 sig:=fn_ok func99 (tl:=tl) (gl:=gl) (es:=[]) (fr:=[]) rfl rfl (by kernel_rfl) (fn_nil _) (fun _=>rfl)
end impl_in
namespace impl_RowFault
abbrev Arg:Type:=Row×Unit
abbrev Out:Type:=Int×Unit
noncomputable def ps:PQ:=[(.ro,tRow)]
noncomputable def rs:RQ:=[(i64,(roMd i64))]
noncomputable def tl:TL:=[(2,i64),(9,.str),(32,tRow)]
noncomputable def gl:GL:=[(99,impl_in.sig)]
noncomputable def E:Env:={ TI:=lookN tl,G:=lookN gl,lv:=[(6,[1,26,27])],lx:=[(0,[])] }
noncomputable def W (k:Nat) (a:Arg):Option Out:=bodyK E k f60 ps rs [] [] a
noncomputable def sem (a:Arg):Option Out:=lift fun k=>W k a
noncomputable def sig:Sig:={ ps:=ps,rs:=rs,F:=sem }
noncomputable def C:Code:=bodyOf f60
noncomputable def fin:St->Option Out:=outK ps rs [] (Func.results f60).toList (mvs [])
noncomputable def K0:Ex->St->Option Out:=endK fin
noncomputable def T0 (a1:Arg) (v405:Int):St:={ n:=43,sl:=[(1,.box tRow (roMd tRow) [] a1.1),(26,.val i64 (a1.1.2.2.2.1.length:Int)),(27,.val i64 v405)],vr:=[],lent:=[] }
noncomputable def N0 (k:Nat):St->(Ex->St->Option Out)->Option Out:=codeK E k fin (sub [1,1,1,0,1,0,0] C)
noncomputable def M0:St->St:=keepF [1,26,27] []
noncomputable def S0 (rec:RT Out) (a1:Arg):(Int)->Option Out:=fun v405=>rec (T0 a1 v405)
noncomputable def X0_0 (K:KT Out) (a1:Arg):(Unit)->Option Out:=fun z=>K (.exit 0) ({ n:=43,sl:=[],vr:=[],lent:=[] })
noncomputable def b0 (self:Int->Option Out) (e0:(Unit)->Option Out) (a1:Arg) (v405:Int):Option Out:=bif decide (v405 < (a1.1.2.2.2.1.length:Int)) then (if 0<=v405 then ((a1.1.2.2.2.1[v405.toNat]?).bind fun x606=>bif decide ((x606.toNat:Int) < (97:Int)) then (some ((5:Int),())) else if 0<=v405 then ((a1.1.2.2.2.1[v405.toNat]?).bind fun x607=>bif decide ((122:Int) < (x607.toNat:Int)) then (some ((5:Int),())) else self (w64 (v405+(1:Int)))) else none) else none) else e0 ()
noncomputable def B0 (k:Nat) (self:Int->Option Out) (e0:(Unit)->Option Out) (a1:Arg) (v405:Int):Option Out:=b0 self e0 a1 v405
theorem B0_eq (k:Nat) (rec:RT Out) (K:KT Out) (a1:Arg) (v405:Int):N0 k (T0 a1 v405) (loopC rec M0 K)=B0 k (S0 rec a1) (X0_0 K a1) a1 v405:=by kernel_rfl
noncomputable def l0 (k:Nat) (a1:Arg) (e0:(Unit)->Option Out) (v:Int):Option Out:=rawIter (fun self v=>B0 k self e0 a1 v) k v
theorem l0_eq (k:Nat) (K:KT Out) (a1:Arg) (v405:Int):iterK (N0 k) M0 K k (T0 a1 v405)=l0 k a1 (X0_0 K a1) v405:=
 iter_raw _ _ K (fun v405=>(T0 a1 v405)) (fun self v=>B0 k self (X0_0 K a1) a1 v) (fun rec v=>B0_eq k rec K a1 v) k v405
noncomputable def q0 (a1:Arg) (z608:(Unit)):Option Out:=some ((0:Int),())
noncomputable def Q0 (k:Nat) (a1:Arg) (z608:(Unit)):Option Out:=q0 a1 z608
theorem Q0_eq (k:Nat) (a1:Arg) (z608:(Unit)):X0_0 (blockC 0 (seqC (codeK E k fin (sub [1,1,1,1] C)) K0)) a1 z608=Q0 k a1 z608:=by kernel_rfl
noncomputable def s0 (k:Nat) (a1:Arg):(Int)->Option Out:=fun v405=>iterK (N0 k) M0 (blockC 0 (seqC (codeK E k fin (sub [1,1,1,1] C)) K0)) k (T0 a1 v405)
noncomputable def r0 (k:Nat) (a1:Arg):(Int)->Option Out:=fun v405=>l0 k a1 (fun z=>Q0 k a1 z) v405
theorem s0_eq (k:Nat) (a1:Arg):s0 k a1=r0 k a1:=by
 funext v405;
 have h0:X0_0 ((blockC 0 (seqC (codeK E k fin (sub [1,1,1,1] C)) K0))) a1=fun z=>Q0 k a1 z:=funext fun z=>Q0_eq k a1 z
 refine (l0_eq k ((blockC 0 (seqC (codeK E k fin (sub [1,1,1,1] C)) K0))) a1 v405).trans ?_
 rw[h0]
 rfl
noncomputable def p (l0:(Int)->Option Out) (a1:Arg):Option Out:=(impl_in.sem (a1.1.1,(0:Int),(3:Int),())).bind fun r2=>bif !r2.1 then (some ((3:Int),())) else (impl_in.sem (a1.1.2.1,(1:Int),(99:Int),())).bind fun r3=>bif !r3.1 then (some ((3:Int),())) else (impl_in.sem (a1.1.2.2.1,(0:Int),(999:Int),())).bind fun r4=>bif !r4.1 then (some ((3:Int),())) else bif decide ((8:Int) < (a1.1.2.2.2.1.length:Int)) then (some ((5:Int),())) else l0 (0:Int)
noncomputable def raw (k:Nat) (a1:Arg):Option Out:=p (r0 k a1) a1
theorem p_eq (k:Nat) (a1:Arg):W k a1=p (s0 k a1) a1:=by kernel_rfl
theorem raw_eq (k:Nat) (a1:Arg):W k a1=raw k a1:=(p_eq k a1).trans (by rw[s0_eq];rfl)
theorem ok:Ok prog 60 sig:=fn_ok func60 (tl:=tl) (gl:=gl) (es:=[]) (fr:=[]) rfl rfl (by kernel_rfl) (fc impl_in.ok (fn_nil _)) (fun _=>rfl)
end impl_RowFault
namespace impl_UnpackCell
abbrev Arg:Type:=(List UInt8)×Unit
abbrev Out:Type:=CellResult×Unit
noncomputable def ps:PQ:=[(.ro,(.slc u8))]
noncomputable def rs:RQ:=[(tCellResult,(roMd tCellResult))]
noncomputable def tl:TL:=[(2,i64),(3,i64),(5,u8),(9,.str),(32,tRow),(46,(.slc u8)),(102,tCellResult)]
noncomputable def gl:GL:=[(60,impl_RowFault.sig)]
noncomputable def E:Env:={ TI:=lookN tl,G:=lookN gl,od:=[(2,[0,1,2,3,4,5,6,7,8,9]),(5,[0,1,2,3,4,5,6,7,8,9,10,11,12,13,14,15,16,17,18,19,20,21,22,23]),(8,[0,1,2,3,4,5,6])] }
noncomputable def W (k:Nat) (a:Arg):Option Out:=bodyK E k f132 ps rs [] [] a
noncomputable def sem (a:Arg):Option Out:=lift fun k=>W k a
noncomputable def sig:Sig:={ ps:=ps,rs:=rs,F:=sem }
noncomputable def p (a1:Arg):Option Out:=let j25:Option Out:=let j37:Option Out:=(a1.1[1]?).bind fun x38=>(a1.1[2]?).bind fun x39=>(a1.1[3]?).bind fun x40=>(a1.1[4]?).bind fun x41=>if 0<=(6:Int)/\(6:Int)<=(a1.1.length:Int) then (let y42:=w64 ((BitVec.ofInt 64 (w64 ((w64 (x40.toNat:Int))*2 ^ 8)) ||| BitVec.ofInt 64 (w64 (x41.toNat:Int))).toNat:Int);(impl_RowFault.sem ((w64 (x38.toNat:Int),w64 (x39.toNat:Int),y42,(a1.1.take a1.1.length).drop 6,()),())).bind fun r43=>bif !decide (r43.1=(0:Int)) then (some (((5:Int),(0:Int),(0:Int),(0:Int),((0:Int),(0:Int),(0:Int),([]:List UInt8),()),()),())) else (a1.1[0]?).bind fun x44=>some (((0:Int),w64 (x44.toNat:Int),(0:Int),(0:Int),(w64 (x38.toNat:Int),w64 (x39.toNat:Int),y42,(a1.1.take a1.1.length).drop 6,()),()),())) else none;bif decide ((a1.1.length:Int) < (6:Int)) then (some (((5:Int),(0:Int),(0:Int),(0:Int),((0:Int),(0:Int),(0:Int),([]:List UInt8),()),()),())) else (a1.1[0]?).bind fun x26=>bif !decide ((x26.toNat:Int)=(0:Int)) then ((a1.1[0]?).bind fun x27=>bif !decide ((x27.toNat:Int)=(2:Int)) then (some (((5:Int),(0:Int),(0:Int),(0:Int),((0:Int),(0:Int),(0:Int),([]:List UInt8),()),()),())) else (a1.1[5]?).bind fun x28=>bif !decide ((a1.1.length:Int)=w64 ((6:Int)+(w64 (x28.toNat:Int)))) then (some (((5:Int),(0:Int),(0:Int),(0:Int),((0:Int),(0:Int),(0:Int),([]:List UInt8),()),()),())) else j37) else (a1.1[5]?).bind fun x29=>bif !decide ((a1.1.length:Int)=w64 ((6:Int)+(w64 (x29.toNat:Int)))) then (some (((5:Int),(0:Int),(0:Int),(0:Int),((0:Int),(0:Int),(0:Int),([]:List UInt8),()),()),())) else j37;bif decide ((a1.1.length:Int)=(3:Int)) then ((a1.1[0]?).bind fun x2=>bif decide ((x2.toNat:Int)=(1:Int)) then ((a1.1[1]?).bind fun x3=>bif decide ((x3.toNat:Int) < (12:Int)) then ((a1.1[2]?).bind fun x4=>bif decide ((x4.toNat:Int) < (16:Int)) then ((a1.1[1]?).bind fun x5=>(a1.1[2]?).bind fun x6=>some (((0:Int),(1:Int),w64 (x5.toNat:Int),w64 (x6.toNat:Int),((0:Int),(0:Int),(0:Int),([]:List UInt8),()),()),())) else j25) else j25) else j25) else j25
noncomputable def raw (k:Nat) (a1:Arg):Option Out:=p a1
theorem raw_eq (k:Nat) (a1:Arg):W k a1=raw k a1:=by kernel_rfl
theorem ok:Ok prog 132 sig:=fn_ok func132 (tl:=tl) (gl:=gl) (es:=[]) (fr:=[]) rfl rfl (by kernel_rfl) (fc impl_RowFault.ok (fn_nil _)) (fun _=>rfl)
end impl_UnpackCell
namespace impl_cellAt
abbrev Arg:Type:=(List UInt8)×Int×Unit
abbrev Out:Type:=(List UInt8)×Unit
noncomputable def ps:PQ:=[(.ro,(.slc u8)),(.ro,i64)]
noncomputable def rs:RQ:=[((.slc u8),(roMd (.slc u8)))]
noncomputable def tl:TL:=[(46,(.slc u8))]
noncomputable def gl:GL:=[(215,impl_spot.sig)]
noncomputable def E:Env:={ TI:=lookN tl,G:=lookN gl }
noncomputable def W (k:Nat) (a:Arg):Option Out:=bodyK E k f133 ps rs [] [] a
noncomputable def sem (a:Arg):Option Out:=lift fun k=>W k a
noncomputable def sig:Sig:={ ps:=ps,rs:=rs,F:=sem }
noncomputable def p (a1:Arg):Option Out:=(impl_spot.sem (a1.1,a1.2.1,())).bind fun r2=>if 0<=r2.1/\r2.1<=w64 (r2.1+r2.2.1)/\w64 (r2.1+r2.2.1)<=(a1.1.length:Int) then (some ((a1.1.take (w64 (r2.1+r2.2.1)).toNat).drop r2.1.toNat,())) else none
noncomputable def raw (k:Nat) (a1:Arg):Option Out:=p a1
theorem raw_eq (k:Nat) (a1:Arg):W k a1=raw k a1:=by kernel_rfl
theorem ok:Ok prog 133 sig:=fn_ok func133 (tl:=tl) (gl:=gl) (es:=[]) (fr:=[]) rfl rfl (by kernel_rfl) (fc impl_spot.ok (fn_nil _)) (fun _=>rfl)
end impl_cellAt
namespace impl_IsBefore
abbrev Arg:Type:=Row×Row×Unit
abbrev Out:Type:=Bool×Unit
noncomputable def ps:PQ:=[(.ro,tRow),(.ro,tRow)]
noncomputable def rs:RQ:=[(.bool,(roMd .bool))]
noncomputable def tl:TL:=[(2,i64),(32,tRow)]
noncomputable def gl:GL:=[]
noncomputable def E:Env:={ TI:=lookN tl,G:=lookN gl }
noncomputable def W (k:Nat) (a:Arg):Option Out:=bodyK E k f184 ps rs [] [] a
noncomputable def sem (a:Arg):Option Out:=lift fun k=>W k a
noncomputable def sig:Sig:={ ps:=ps,rs:=rs,F:=sem }
noncomputable def p (a1:Arg):Option Out:=bif decide (a1.1.1 < a1.2.1.1) then (some (true,())) else bif decide (a1.1.1=a1.2.1.1) then (some (decide (a1.1.2.1 < a1.2.1.2.1),())) else some (false,())
noncomputable def raw (k:Nat) (a1:Arg):Option Out:=p a1
theorem raw_eq (k:Nat) (a1:Arg):W k a1=raw k a1:=by kernel_rfl
theorem ok:Ok prog 184 sig:=fn_ok func184 (tl:=tl) (gl:=gl) (es:=[]) (fr:=[]) rfl rfl (by kernel_rfl) (fn_nil _) (fun _=>rfl)
end impl_IsBefore
namespace impl_order
abbrev Arg:Type:=Row×Row×Unit
abbrev Out:Type:=Int×Unit
noncomputable def ps:PQ:=[(.ro,tRow),(.ro,tRow)]
noncomputable def rs:RQ:=[(i64,(roMd i64))]
noncomputable def tl:TL:=[(32,tRow)]
noncomputable def gl:GL:=[(184,impl_IsBefore.sig)]
noncomputable def E:Env:={ TI:=lookN tl,G:=lookN gl }
noncomputable def W (k:Nat) (a:Arg):Option Out:=bodyK E k f148 ps rs [] [] a
noncomputable def sem (a:Arg):Option Out:=lift fun k=>W k a
noncomputable def sig:Sig:={ ps:=ps,rs:=rs,F:=sem }
noncomputable def p (a1:Arg):Option Out:=(impl_IsBefore.sem (a1.1,a1.2.1,())).bind fun r2=>bif r2.1 then (some ((-1:Int),())) else (impl_IsBefore.sem (a1.2.1,a1.1,())).bind fun r3=>bif r3.1 then (some ((1:Int),())) else some ((0:Int),())
noncomputable def raw (k:Nat) (a1:Arg):Option Out:=p a1
theorem raw_eq (k:Nat) (a1:Arg):W k a1=raw k a1:=by kernel_rfl
theorem ok:Ok prog 148 sig:=fn_ok func148 (tl:=tl) (gl:=gl) (es:=[]) (fr:=[]) rfl rfl (by kernel_rfl) (fc impl_IsBefore.ok (fn_nil _)) (fun _=>rfl)
end impl_order
namespace impl_look_1
abbrev Arg:Type:=Seen×Seen×Unit
abbrev Out:Type:=Int×Unit
noncomputable def ps:PQ:=[(.ro,tSeen),(.ro,tSeen)]
noncomputable def rs:RQ:=[(i64,(roMd i64))]
noncomputable def tl:TL:=[(32,tRow),(114,tSeen)]
noncomputable def gl:GL:=[(148,impl_order.sig)]
noncomputable def E:Env:={ TI:=lookN tl,G:=lookN gl }
noncomputable def W (k:Nat) (a:Arg):Option Out:=bodyK E k f217 ps rs [] [] a
noncomputable def sem (a:Arg):Option Out:=lift fun k=>W k a
noncomputable def sig:Sig:={ ps:=ps,rs:=rs,F:=sem }
noncomputable def p (a1:Arg):Option Out:=(impl_order.sem (a1.1.1,a1.2.1.1,())).bind fun r2=>some (r2.1,())
noncomputable def raw (k:Nat) (a1:Arg):Option Out:=p a1
theorem raw_eq (k:Nat) (a1:Arg):W k a1=raw k a1:=by kernel_rfl
theorem ok:Ok prog 217 sig:=fn_ok func217 (tl:=tl) (gl:=gl) (es:=[]) (fr:=[]) rfl rfl (by kernel_rfl) (fc impl_order.ok (fn_nil _)) (fun _=>rfl)
end impl_look_1
end OT
