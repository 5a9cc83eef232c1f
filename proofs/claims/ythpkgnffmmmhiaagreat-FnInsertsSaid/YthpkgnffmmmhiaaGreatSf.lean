/- The proof's parts, merged: Pages of bytes  what their directory says, and when they are right  plain facts.. No conditions but those that each states. -/
import Derived.Test.YthpkgnffmmmhiaaGreatSe
set_option linter.unusedVariables false
set_option linter.unusedSimpArgs false
namespace OT
open Go
def pb (D:List UInt8) (i:Nat):Nat:=(D.getD i 0).toNat
theorem pb_lt (D:List UInt8) (i:Nat):pb D i < 256:=UInt8.toNat_lt _
theorem pb_get {D:List UInt8} {i:Nat} (h:i < D.length):D[i]?=some D[i]/\(D[i]).toNat=pb D i:=⟨List.getElem?_eq_getElem h,by simp[pb,h]⟩
theorem pb_set (D:List UInt8) (i j:Nat) (v:UInt8):pb (D.set i v) j=if i=j/\i < D.length then v.toNat else pb D j:=by
 unfold pb
 simp only[List.getD_eq_getElem?_getD,List.getElem?_set]
 by_cases h:i=j
 ·subst h
  by_cases h2:i < D.length
  ·simp[h2]
  ·simp[h2,List.getElem?_eq_none (Nat.le_of_not_lt h2)]
 ·simp[h]
theorem pb_over {D c:List UInt8} {a:Nat} (h:a+c.length<=D.length) (j:Nat):pb (over D a c.length c) j=if a<=j/\j < a+c.length then pb c (j - a) else pb D j:=by
 unfold pb
 simp only[List.getD_eq_getElem?_getD,over_get D c h (Nat.le_refl _)]
 split <;> rfl
theorem pb_ext {A B:List UInt8} (h:A.length=B.length) (h2:∀ j,j < A.length->pb A j=pb B j):A=B:=by
 refine List.ext_getElem h fun i h1 h3=>?_
 have:=h2 i h1
 rw[<-(pb_get h1).2,<- (pb_get h3).2] at this
 exact UInt8.toNat_inj.1 this
theorem ofNat_toNat {n:Nat} (h:n < 256):(UInt8.ofNat n).toNat=n:=by
 rw[UInt8.toNat_ofNat'];omega
theorem pb_piece (D:List UInt8) (a n j:Nat) (h:j < n):pb ((D.drop a).take n) j=pb D (a+j):=by
 unfold pb
 simp only[List.getD_eq_getElem?_getD,List.getElem?_take,h,if_true,List.getElem?_drop]
def pn (p:List UInt8):Nat:=pb p 0
def plo (p:List UInt8):Nat:=pb p 1
def pat (p:List UInt8) (i:Nat):Nat:=pb p (2+2*i)
def psz (p:List UInt8) (i:Nat):Nat:=pb p (3+2*i)
def slotB (p:List UInt8) (i:Nat):Bool:=if pat p i=0\/psz p i=0 then decide (pat p i=psz p i) else decide (plo p<=pat p i)&&decide (pat p i+psz p i<=64)
def apartP (p:List UInt8) (i k:Nat):Bool:=(decide (psz p i=0)||decide (psz p k=0))||(decide (pat p i+psz p i<=pat p k)||decide (pat p k+psz p k<=pat p i))
def pageF (p:List UInt8):Int:=
 if p.length=64 then
  if pn p<=16/\2+2*pn p<=plo p/\plo p<=64 then
   if (List.range (pn p)).all (slotB p) then
    if (List.range (pn p)).all (fun i=>(List.range i).all (apartP p i)) then
     if 0 < pn p/\psz p (pn p - 1)=0 then 8 else 0
    else 8
   else 3
  else 3
 else 1
structure PageOk (p:List UInt8):Prop where
 len:p.length=64
 n:pn p<=16
 lo:2+2*pn p<=plo p
 hi:plo p<=64
 slot:∀ i,i < pn p->psz p i≠0->plo p<=pat p i/\pat p i+psz p i<=64
 zero:∀ i,i < pn p->psz p i=0->pat p i=0
 apart:∀ i k,i < pn p->k < pn p->i≠k->psz p i≠0->psz p k≠0->pat p i+psz p i<=pat p k\/pat p k+psz p k<=pat p i
 last:0 < pn p->psz p (pn p - 1)≠0
theorem slotB_iff {p:List UInt8} {i:Nat} (hlo:2<=plo p):slotB p i=true↔(psz p i≠0->plo p<=pat p i/\pat p i+psz p i<=64)/\(psz p i=0->pat p i=0):=by
 unfold slotB
 by_cases h1:psz p i=0
 ·simp[h1]
 ·by_cases h2:pat p i=0
  ·simp[h1,h2]
   omega
  ·simp[h1,h2]
theorem apartP_iff {p:List UInt8} {i k:Nat}:apartP p i k=true↔(psz p i≠0->psz p k≠0->pat p i+psz p i<=pat p k\/pat p k+psz p k<=pat p i):=by
 unfold apartP
 by_cases h1:psz p i=0
 ·simp[h1]
 ·by_cases h2:psz p k=0
  ·simp[h2]
  ·simp[h1,h2]
theorem pageF_iff {p:List UInt8}:pageF p=0↔PageOk p:=by
 constructor
 ·intro h
  unfold pageF at h
  split at h
  ·rename_i h1
   split at h
   ·rename_i h2
    split at h
    ·rename_i h3
     split at h
     ·rename_i h4
      split at h
      ·cases h
      ·rename_i h5
       have hs:∀ i,i < pn p->(psz p i≠0->plo p<=pat p i/\pat p i+psz p i<=64)/\(psz p i=0->pat p i=0):=fun i hi=>(slotB_iff (by omega)).1 (List.all_eq_true.1 h3 i (List.mem_range.2 hi))
       have ha:∀ i k,i < pn p->k < i->psz p i≠0->psz p k≠0->pat p i+psz p i<=pat p k\/pat p k+psz p k<=pat p i:=fun i k hi hk=>apartP_iff.1 (List.all_eq_true.1 (List.all_eq_true.1 h4 i (List.mem_range.2 hi)) k (List.mem_range.2 hk))
       refine ⟨h1,h2.1,h2.2.1,h2.2.2,fun i hi=>(hs i hi).1,fun i hi=>(hs i hi).2,fun i k hi hk hik z1 z2=>?_,fun hn hz=>h5 ⟨hn,hz⟩⟩
       rcases Nat.lt_or_gt_of_ne hik with h6 | h6
       ·exact (ha k i hk h6 z2 z1).symm
       ·exact ha i k hi h6 z1 z2
     ·cases h
    ·cases h
   ·cases h
  ·cases h
 ·intro h
  unfold pageF
  rw[if_pos h.len,if_pos ⟨h.n,h.lo,h.hi⟩,if_pos,if_pos,if_neg]
  ·intro ⟨h1,h2⟩
   exact h.last h1 h2
  ·refine List.all_eq_true.2 fun i hi=>List.all_eq_true.2 fun k hk=>apartP_iff.2 ?_
   have:=List.mem_range.1 hi
   have:=List.mem_range.1 hk
   exact h.apart i k (by omega) (by omega) (by omega)
  ·exact List.all_eq_true.2 fun i hi=>(slotB_iff (by have:=h.lo;omega)).2 ⟨h.slot i (List.mem_range.1 hi),h.zero i (List.mem_range.1 hi)⟩
def cellP (p:List UInt8) (i:Nat):List UInt8:=(p.drop (pat p i)).take (psz p i)
def cellOf (p:List UInt8) (i:Nat):List UInt8:=if i < pn p then cellP p i else []
theorem cellP_len {p:List UInt8} (h:PageOk p) {i:Nat} (hi:i < pn p):(cellP p i).length=psz p i:=by
 unfold cellP
 by_cases hz:psz p i=0
 ·simp[hz]
 ·have:=h.slot i hi hz
  have:=h.len
  simp only[List.length_take,List.length_drop]
  omega
theorem cellP_pb (p:List UInt8) (i j:Nat) (h:j < psz p i):pb (cellP p i) j=pb p (pat p i+j):=pb_piece p _ _ j h
theorem cellP_eq {p q:List UInt8} {i k:Nat} (hp:(cellP p i).length=psz p i) (hq:(cellP q k).length=psz q k) (hs:psz p i=psz q k) (hb:∀ j,j < psz p i->pb p (pat p i+j)=pb q (pat q k+j)):cellP p i=cellP q k:=by
 refine pb_ext (by omega) fun j hj=>?_
 rw[cellP_pb p i j (by omega),cellP_pb q k j (by omega)]
 exact hb j (by omega)
theorem cellP_is {p c:List UInt8} {i:Nat} (hp:(cellP p i).length=psz p i) (hs:psz p i=c.length) (hb:∀ j,j < c.length->pb p (pat p i+j)=pb c j):cellP p i=c:=by
 refine pb_ext (by omega) fun j hj=>?_
 rw[cellP_pb p i j (by omega)]
 exact hb j (by omega)
def stand (p:List UInt8) (s a:Nat) (c:List UInt8):List UInt8:=((over p a c.length c).set (2+2*s) (UInt8.ofNat a)).set (3+2*s) (UInt8.ofNat c.length)
theorem stand_len {p:List UInt8} (hp:p.length=64) (s:Nat) {a:Nat} {c:List UInt8} (h:a+c.length<=64):(stand p s a c).length=64:=by
 unfold stand
 rw[List.length_set,List.length_set,over_length _ _ (by omega) (Nat.le_refl _),hp]
theorem stand_pb {p:List UInt8} (hp:p.length=64) {s a:Nat} {c:List UInt8} (h:a+c.length<=64) (hs:s < 16) (j:Nat):pb (stand p s a c) j=if j=3+2*s then c.length else if j=2+2*s then a else if a<=j/\j < a+c.length then pb c (j - a) else pb p j:=by
 unfold stand
 have hl:(over p a c.length c).length=64:=by rw[over_length _ _ (by omega) (Nat.le_refl _),hp]
 rw[pb_set,pb_set,pb_over (by omega),List.length_set,hl]
 by_cases h1:j=3+2*s
 ·subst h1
  rw[if_pos ⟨rfl,by omega⟩,if_pos rfl,ofNat_toNat (by omega)]
 ·rw[if_neg (fun h=>h1 h.1.symm),if_neg h1]
  by_cases h2:j=2+2*s
  ·subst h2
   rw[if_pos ⟨rfl,by omega⟩,if_pos rfl,ofNat_toNat (by omega)]
  ·rw[if_neg (fun h=>h2 h.1.symm),if_neg h2]
structure Turned (p q:List UInt8) (s a m:Nat):Prop where
 len:q.length=64
 n:pn q=pn p\/(pn q=pn p+1/\s=pn p)
 s_lt:s < pn q
 n16:pn q<=16
 lo:2+2*pn q<=plo q
 lo2:plo q<=plo p
 at_:pat q s=a
 sz:psz q s=m
 pos:0 < m
 a_lo:plo q<=a
 a_hi:a+m<=64
 oth:∀ i,i < pn q->i≠s->pat q i=pat p i/\psz q i=psz p i
 free:∀ i,i < pn p->i≠s->psz p i≠0->a+m<=pat p i\/pat p i+psz p i<=a
 same:∀ j,plo p<=j->j < 64->(j < a\/a+m<=j)->pb q j=pb p j
theorem Turned.ok {p q:List UInt8} {s a m:Nat} (t:Turned p q s a m) (h:PageOk p):PageOk q:=by
 have hlt:∀ i,i < pn q->i≠s->i < pn p:=fun i hi hs=>by rcases t.n with h1 | ⟨h1,h2⟩ <;> omega
 have ha:=t.at_
 have hm:=t.sz
 have hpos:=t.pos
 have hlo:=t.a_lo
 have hhi:=t.a_hi
 have hlo2:=t.lo2
 have hh:=h.hi
 refine ⟨t.len,t.n16,t.lo,by omega,fun i hi hz=>?_,fun i hi hz=>?_,fun i k hi hk hik z1 z2=>?_,fun hn=>?_⟩
 ·by_cases hs:i=s
  ·subst hs;omega
  ·obtain ⟨h1,h2⟩:=t.oth i hi hs
   have:=h.slot i (hlt i hi hs) (by omega)
   omega
 ·by_cases hs:i=s
  ·subst hs;omega
  ·obtain ⟨h1,h2⟩:=t.oth i hi hs
   have:=h.zero i (hlt i hi hs) (by omega)
   omega
 ·by_cases hs:i=s
  ·subst hs
   have hks:k≠i:=fun e=>hik e.symm
   obtain ⟨h1,h2⟩:=t.oth k hk hks
   have:=t.free k (hlt k hk hks) hks (by omega)
   omega
  ·obtain ⟨h1,h2⟩:=t.oth i hi hs
   by_cases hs2:k=s
   ·subst hs2
    have:=t.free i (hlt i hi hs) hs (by omega)
    omega
   ·obtain ⟨h3,h4⟩:=t.oth k hk hs2
    have:=h.apart i k (hlt i hi hs) (hlt k hk hs2) hik (by omega) (by omega)
    omega
 ·by_cases hs:pn q - 1=s
  ·rw[hs];omega
  ·obtain ⟨h1,h2⟩:=t.oth (pn q - 1) (by omega) hs
   have hq:pn q=pn p:=by
    rcases t.n with h3 | ⟨h3,h4⟩
    ·exact h3
    ·omega
   rw[h2,hq]
   exact h.last (by omega)
theorem Turned.cell_other {p q:List UInt8} {s a m:Nat} (t:Turned p q s a m) (h:PageOk p) {i:Nat} (hi:i < pn q) (hs:i≠s):cellP q i=cellP p i:=by
 have hip:i < pn p:=by rcases t.n with h1 | ⟨h1,h2⟩ <;> omega
 obtain ⟨h1,h2⟩:=t.oth i hi hs
 refine cellP_eq (cellP_len (t.ok h) hi) (cellP_len h hip) h2 fun j hj=>?_
 have hz:psz p i≠0:=by omega
 have h3:=h.slot i hip hz
 have h4:=t.free i hip hs hz
 rw[h1]
 exact t.same _ (by omega) (by omega) (by omega)
theorem Turned.cell_this {p q:List UInt8} {s a:Nat} {c:List UInt8} (t:Turned p q s a c.length) (h:PageOk p) (hc:∀ j,j < c.length->pb q (a+j)=pb c j):cellP q s=c:=
 cellP_is (cellP_len (t.ok h) t.s_lt) t.sz fun j hj=>by rw[t.at_];exact hc j hj
theorem Turned.cells {p q:List UInt8} {s a:Nat} {c:List UInt8} (t:Turned p q s a c.length) (h:PageOk p) (hc:∀ j,j < c.length->pb q (a+j)=pb c j) (i:Nat):cellOf q i=if i=s then c else cellOf p i:=by
 have hs:=t.s_lt
 unfold cellOf
 by_cases his:i=s
 ·subst his
  rw[if_pos hs,if_pos rfl,t.cell_this h hc]
 ·rw[if_neg his]
  by_cases hi:i < pn q
  ·have hip:i < pn p:=by rcases t.n with h1 | ⟨h1,h2⟩ <;> omega
   rw[if_pos hi,if_pos hip,t.cell_other h hi his]
  ·have hip:¬ i < pn p:=by rcases t.n with h1 | ⟨h1,h2⟩ <;> omega
   rw[if_neg hi,if_neg hip]
theorem cellOf_nil {p:List UInt8} (h:PageOk p) {i:Nat} (hi:i < pn p):cellOf p i=[]↔psz p i=0:=by
 unfold cellOf
 rw[if_pos hi]
 have:=cellP_len h hi
 constructor
 ·intro e;rw[e] at this;simpa using this.symm
 ·intro e;rw[e] at this;exact List.eq_nil_of_length_eq_zero this
end OT
set_option linter.unusedVariables false
set_option linter.unusedSimpArgs false
namespace OT
open Go
def emptyG (p:List UInt8):Nat->Nat->Nat
 | 0,i=>i
 | m+1,i=>if psz p i=0 then i else emptyG p m (i+1)
def emptyF (p:List UInt8):Nat:=emptyG p (pn p) 0
theorem emptyG_spec (p:List UInt8):∀ (m i:Nat),i<=emptyG p m i/\emptyG p m i<=i+m/\(∀ j,i<=j->j < emptyG p m i->psz p j≠0)/\(emptyG p m i < i+m->psz p (emptyG p m i)=0)
 | 0,i=>by simp only[emptyG];exact ⟨by omega,by omega,fun j h1 h2=>by omega,fun h=>by omega⟩
 | m+1,i=>by
  simp only[emptyG]
  split
  ·rename_i h
   exact ⟨by omega,by omega,fun j h1 h2=>by omega,fun _=>h⟩
  ·rename_i h
   obtain ⟨h1,h2,h3,h4⟩:=emptyG_spec p m (i+1)
   refine ⟨by omega,by omega,fun j g1 g2=>?_,fun g=>h4 (by omega)⟩
   by_cases hj:j=i
   ·subst hj;exact h
   ·exact h3 j (by omega) g2
theorem emptyF_spec (p:List UInt8):emptyF p<=pn p/\(∀ j,j < emptyF p->psz p j≠0)/\(emptyF p < pn p->psz p (emptyF p)=0):=by
 obtain ⟨h1,h2,h3,h4⟩:=emptyG_spec p (pn p) 0
 exact ⟨by unfold emptyF;omega,fun j hj=>h3 j (by omega) hj,fun h=>h4 (by unfold emptyF at h;omega)⟩
def sumZ (p:List UInt8):Nat->Nat
 | 0=>0
 | m+1=>sumZ p m+psz p m
def freeF (p:List UInt8):Int:=62 - 2*(pn p:Int) - (sumZ p (pn p):Int)
theorem sumZ_mono (p:List UInt8) {a b:Nat} (h:a<=b):sumZ p a<=sumZ p b:=by
 induction b with
 | zero =>have:a=0:=by omega
          subst this;exact Nat.le_refl _
 | succ b ih=>
  by_cases hb:a=b+1
  ·subst hb;exact Nat.le_refl _
  ·have:=ih (by omega)
   simp only[sumZ];omega
theorem countP_or {α:Type} {a b:α->Bool}:∀ {l:List α},(∀ x ∈ l,a x=true->b x=true->False)->l.countP (fun x=>a x||b x)=l.countP a+l.countP b
 | [],_=>rfl
 | x::l,h=>by
  have ih:=countP_or (l:=l) fun y hy=>h y (List.mem_cons_of_mem _ hy)
  have hx:=h x List.mem_cons_self
  simp only[List.countP_cons,ih]
  cases ha:a x <;> cases hb:b x
  ·simp
  ·simp;omega
  ·simp;omega
  ·exact (hx ha hb).elim
theorem countP_seg (a m:Nat):∀ N,(List.range N).countP (fun j=>decide (a<=j/\j < a+m))=min N (a+m) - min N a
 | 0=>by simp
 | N+1=>by
  rw[List.range_succ,List.countP_append,countP_seg a m N]
  simp only[List.countP_cons,List.countP_nil,Nat.zero_add]
  by_cases h:a<=N/\N < a+m
  ·simp only[h,and_self,decide_true,if_true];omega
  ·simp only[h,decide_false,Bool.false_eq_true,if_false];omega
def covP (p:List UInt8):Nat->Nat->Bool
 | 0,_=>false
 | k+1,j=>covP p k j||decide (pat p k<=j/\j < pat p k+psz p k)
theorem covP_ex {p:List UInt8}:∀ {k j:Nat},covP p k j=true->∃ i,i < k/\pat p i<=j/\j < pat p i+psz p i
 | k+1,j,h=>by
  simp only[covP,Bool.or_eq_true,decide_eq_true_eq] at h
  rcases h with h | h
  ·obtain ⟨i,h1,h2⟩:=covP_ex h
   exact ⟨i,by omega,h2⟩
  ·exact ⟨k,by omega,h⟩
theorem covP_count {p:List UInt8} (h:PageOk p):∀ k,k<=pn p->(List.range 64).countP (covP p k)=sumZ p k
 | 0,_=>by
  have:covP p 0=fun _=>false:=rfl
  rw[this];simp[sumZ]
 | k+1,hk=>by
  have ih:=covP_count h k (by omega)
  show (List.range 64).countP (fun j=>covP p k j||decide (pat p k<=j/\j < pat p k+psz p k))=sumZ p k+psz p k
  rw[countP_or,ih,countP_seg]
  ·by_cases hz:psz p k=0
   ·omega
   ·have:=h.slot k (by omega) hz
    omega
  ·intro j _ h1 h2
   obtain ⟨i,h3,h4⟩:=covP_ex h1
   simp only[decide_eq_true_eq] at h2
   have:=h.apart i k (by omega) (by omega) (by omega) (by omega) (by omega)
   omega
theorem sum_room {p:List UInt8} (h:PageOk p):sumZ p (pn p)+plo p<=64:=by
 rw[<-covP_count h (pn p) (Nat.le_refl _)]
 have h1:(List.range 64).countP (covP p (pn p))<=(List.range 64).countP (fun j=>decide (plo p<=j/\j < plo p+(64 - plo p))):=by
  refine List.countP_mono_left fun j hj hc=>?_
  obtain ⟨i,h3,h4,h5⟩:=covP_ex hc
  have:=h.slot i h3 (by omega)
  have:=List.mem_range.1 hj
  simp only[decide_eq_true_eq]
  omega
 rw[countP_seg] at h1
 have:=h.hi
 omega
theorem free_ok {p:List UInt8} (h:PageOk p):0<=freeF p/\freeF p<=62:=by
 have:=sum_room h
 have:=h.lo
 unfold freeF
 omega
def moreF (p:List UInt8):Nat:=if emptyF p=pn p then 1 else 0
def putQ (p:List UInt8) (c:List UInt8):List UInt8:=((stand p (emptyF p) (plo p - c.length) c).set 0 (UInt8.ofNat (pn p+moreF p))).set 1 (UInt8.ofNat (plo p - c.length))
def putF (p:List UInt8) (c:List UInt8):Int:=
 if emptyF p=pn p/\16<=pn p then 2
 else if freeF p < (c.length:Int)+2*(moreF p:Int) then 9
 else if plo p < 2+2*(pn p+moreF p)+c.length then 8
 else 0
theorem put_pb {p c:List UInt8} (h:PageOk p) (hc:putF p c=0) (j:Nat):pb (putQ p c) j=if j=1 then plo p - c.length else if j=0 then pn p+moreF p else pb (stand p (emptyF p) (plo p - c.length) c) j:=by
 unfold putF at hc
 split at hc
 ·cases hc
 ·split at hc
  ·cases hc
  ·split at hc
   ·cases hc
   ·have hl:(stand p (emptyF p) (plo p - c.length) c).length=64:=stand_len h.len _ (by have:=h.hi;omega)
    have hhi:=h.hi
    have hn:=h.n
    have hm:moreF p<=1:=by unfold moreF;split <;> omega
    unfold putQ
    rw[pb_set,pb_set,List.length_set,hl,ofNat_toNat (by omega),ofNat_toNat (by omega)]
    by_cases h1:j=1
    ·subst h1;simp
    ·by_cases h0:j=0
     ·subst h0;simp
     ·rw[if_neg (by omega),if_neg (by omega),if_neg h1,if_neg h0]
theorem put_turned {p c:List UInt8} (h:PageOk p) (hc1:1<=c.length) (hc:putF p c=0):Turned p (putQ p c) (emptyF p) (plo p - c.length) c.length/\∀ j,j < c.length->pb (putQ p c) (plo p - c.length+j)=pb c j:=by
 have hb:=put_pb h hc
 obtain ⟨e1,e2,e3⟩:=emptyF_spec p
 unfold putF at hc
 split at hc
 ·cases hc
 rename_i c1
 split at hc
 ·cases hc
 split at hc
 ·cases hc
 rename_i c3
 have hhi:=h.hi
 have hlo:=h.lo
 have hn:=h.n
 have hm:(emptyF p=pn p/\moreF p=1)\/(emptyF p < pn p/\moreF p=0):=by unfold moreF;split <;> omega
 have hs:emptyF p < 16:=by omega
 have hlen:(putQ p c).length=64:=by
  unfold putQ
  rw[List.length_set,List.length_set,stand_len h.len _ (by omega)]
 have hsp:∀ j,pb (stand p (emptyF p) (plo p - c.length) c) j=_:=stand_pb h.len (a:=plo p - c.length) (c:=c) (by omega) hs
 have hpn:pn (putQ p c)=pn p+moreF p:=by show pb _ 0=_;rw[hb];simp
 have hpl:plo (putQ p c)=plo p - c.length:=by show pb _ 1=_;rw[hb];simp
 refine ⟨⟨hlen,by omega,by omega,by omega,by omega,by omega,?_,?_,by omega,by omega,by omega,fun i hi his=>?_,fun i hi his hz=>?_,fun j j1 j2 j3=>?_⟩,fun j hj=>?_⟩
 ·show pb _ _=_
  rw[hb,if_neg (by omega),if_neg (by omega),hsp,if_neg (by omega),if_pos rfl]
 ·show pb _ _=_
  rw[hb,if_neg (by omega),if_neg (by omega),hsp,if_pos rfl]
 ·constructor
  ·show pb _ _=pb _ _
   rw[hb,if_neg (by omega),if_neg (by omega),hsp,if_neg (by omega),if_neg (by omega),if_neg (by omega)]
  ·show pb _ _=pb _ _
   rw[hb,if_neg (by omega),if_neg (by omega),hsp,if_neg (by omega),if_neg (by omega),if_neg (by omega)]
 ·have:=h.slot i hi hz
  omega
 ·rw[hb,if_neg (by omega),if_neg (by omega),hsp,if_neg (by omega),if_neg (by omega),if_neg (by omega)]
 ·rw[hb,if_neg (by omega),if_neg (by omega),hsp,if_neg (by omega),if_neg (by omega),if_pos (by omega)]
  congr 1
  omega
theorem putQ_ok {p c:List UInt8} (h:PageOk p) (hc1:1<=c.length) (hc:putF p c=0):PageOk (putQ p c)/\(∀ i,cellOf (putQ p c) i=if i=emptyF p then c else cellOf p i)/\cellOf p (emptyF p)=[]:=by
 obtain ⟨t,hb⟩:=put_turned h hc1 hc
 refine ⟨t.ok h,t.cells h hb,?_⟩
 obtain ⟨e1,e2,e3⟩:=emptyF_spec p
 by_cases he:emptyF p < pn p
 ·exact (cellOf_nil h he).2 (e3 he)
 ·unfold cellOf;rw[if_neg he]
def setQ (p:List UInt8) (s:Nat) (c:List UInt8):List UInt8:=if c.length<=psz p s then stand p s (pat p s+psz p s - c.length) c else (stand p s (plo p - c.length) c).set 1 (UInt8.ofNat (plo p - c.length))
def setF (p:List UInt8) (s:Nat) (c:List UInt8):Int:=
 if c.length<=psz p s then 0
 else if freeF p+(psz p s:Int) < (c.length:Int) then 9
 else if plo p < 2+2*pn p+c.length then 8
 else 0
theorem set_turned {p c:List UInt8} {s:Nat} (h:PageOk p) (hs:s < pn p) (hz:psz p s≠0) (hc1:1<=c.length) (hc:setF p s c=0):∃ a,Turned p (setQ p s c) s a c.length/\∀ j,j < c.length->pb (setQ p s c) (a+j)=pb c j:=by
 have hhi:=h.hi
 have hlo:=h.lo
 have hn:=h.n
 have hsl:=h.slot s hs hz
 unfold setF at hc
 split at hc
 ·rename_i c1
  unfold setQ
  rw[if_pos c1]
  have hsp:∀ j,pb (stand p s (pat p s+psz p s - c.length) c) j=_:=stand_pb h.len (a:=pat p s+psz p s - c.length) (c:=c) (by omega) (by omega)
  have hpn:pn (stand p s (pat p s+psz p s - c.length) c)=pn p:=by
   show pb _ 0=pb p 0;rw[hsp,if_neg (by omega),if_neg (by omega),if_neg (by omega)]
  have hpl:plo (stand p s (pat p s+psz p s - c.length) c)=plo p:=by
   show pb _ 1=pb p 1;rw[hsp,if_neg (by omega),if_neg (by omega),if_neg (by omega)]
  refine ⟨pat p s+psz p s - c.length,⟨stand_len h.len _ (by omega),by omega,by omega,by omega,by omega,by omega,?_,?_,by omega,by omega,by omega,fun i hi his=>?_,fun i hi his hz2=>?_,fun j j1 j2 j3=>?_⟩,fun j hj=>?_⟩
  ·show pb _ _=_
   rw[hsp,if_neg (by omega),if_pos rfl]
  ·show pb _ _=_
   rw[hsp,if_pos rfl]
  ·constructor
   ·show pb _ _=pb _ _
    rw[hsp,if_neg (by omega),if_neg (by omega),if_neg (by omega)]
   ·show pb _ _=pb _ _
    rw[hsp,if_neg (by omega),if_neg (by omega),if_neg (by omega)]
  ·have:=h.apart i s hi hs his hz2 hz
   omega
  ·rw[hsp,if_neg (by omega),if_neg (by omega),if_neg (by omega)]
  ·rw[hsp,if_neg (by omega),if_neg (by omega),if_pos (by omega)]
   congr 1
   omega
 ·rename_i c1
  split at hc
  ·cases hc
  split at hc
  ·cases hc
  rename_i c3
  have hq:setQ p s c=(stand p s (plo p - c.length) c).set 1 (UInt8.ofNat (plo p - c.length)):=by unfold setQ;rw[if_neg c1]
  rw[hq]
  have hl:(stand p s (plo p - c.length) c).length=64:=stand_len h.len _ (by omega)
  have hsp:∀ j,pb (stand p s (plo p - c.length) c) j=_:=stand_pb h.len (a:=plo p - c.length) (c:=c) (by omega) (by omega)
  have hb:∀ j,pb ((stand p s (plo p - c.length) c).set 1 (UInt8.ofNat (plo p - c.length))) j=if j=1 then plo p - c.length else pb (stand p s (plo p - c.length) c) j:=fun j=>by
   rw[pb_set,hl,ofNat_toNat (by omega)]
   by_cases h1:j=1
   ·subst h1;simp
   ·rw[if_neg (by omega),if_neg h1]
  have hpn:pn ((stand p s (plo p - c.length) c).set 1 (UInt8.ofNat (plo p - c.length)))=pn p:=by
   show pb _ 0=pb p 0;rw[hb,if_neg (by omega),hsp,if_neg (by omega),if_neg (by omega),if_neg (by omega)]
  have hpl:plo ((stand p s (plo p - c.length) c).set 1 (UInt8.ofNat (plo p - c.length)))=plo p - c.length:=by
   show pb _ 1=_;rw[hb,if_pos rfl]
  refine ⟨plo p - c.length,⟨by rw[List.length_set];exact hl,by omega,by omega,by omega,by omega,by omega,?_,?_,by omega,by omega,by omega,fun i hi his=>?_,fun i hi his hz2=>?_,fun j j1 j2 j3=>?_⟩,fun j hj=>?_⟩
  ·show pb _ _=_
   rw[hb,if_neg (by omega),hsp,if_neg (by omega),if_pos rfl]
  ·show pb _ _=_
   rw[hb,if_neg (by omega),hsp,if_pos rfl]
  ·constructor
   ·show pb _ _=pb _ _
    rw[hb,if_neg (by omega),hsp,if_neg (by omega),if_neg (by omega),if_neg (by omega)]
   ·show pb _ _=pb _ _
    rw[hb,if_neg (by omega),hsp,if_neg (by omega),if_neg (by omega),if_neg (by omega)]
  ·have:=h.slot i hi hz2
   omega
  ·rw[hb,if_neg (by omega),hsp,if_neg (by omega),if_neg (by omega),if_neg (by omega)]
  ·rw[hb,if_neg (by omega),hsp,if_neg (by omega),if_neg (by omega),if_pos (by omega)]
   congr 1
   omega
theorem setQ_ok {p c:List UInt8} {s:Nat} (h:PageOk p) (hs:s < pn p) (hz:psz p s≠0) (hc1:1<=c.length) (hc:setF p s c=0):PageOk (setQ p s c)/\(∀ i,cellOf (setQ p s c) i=if i=s then c else cellOf p i):=by
 obtain ⟨a,t,hb⟩:=set_turned h hs hz hc1 hc
 exact ⟨t.ok h,t.cells h hb⟩
def trimN (q:List UInt8):Nat->Nat
 | 0=>0
 | m+1=>if psz q m=0 then trimN q m else m+1
def drop0 (p:List UInt8) (s:Nat):List UInt8:=(p.set (2+2*s) 0).set (3+2*s) 0
def dropQ (p:List UInt8) (s:Nat):List UInt8:=(drop0 p s).set 0 (UInt8.ofNat (trimN (drop0 p s) (pn p)))
theorem trimN_spec (q:List UInt8):∀ m,trimN q m<=m/\(∀ i,trimN q m<=i->i < m->psz q i=0)/\(0 < trimN q m->psz q (trimN q m - 1)≠0)
 | 0=>by simp only[trimN];exact ⟨by omega,fun i h1 h2=>by omega,fun h=>by omega⟩
 | m+1=>by
  simp only[trimN]
  obtain ⟨h1,h2,h3⟩:=trimN_spec q m
  split
  ·rename_i h
   refine ⟨by omega,fun i g1 g2=>?_,h3⟩
   by_cases hi:i=m
   ·subst hi;exact h
   ·exact h2 i g1 (by omega)
  ·rename_i h
   exact ⟨by omega,fun i g1 g2=>by omega,fun _=>by simpa using h⟩
theorem dropQ_ok {p:List UInt8} {s:Nat} (h:PageOk p) (hs:s < pn p):PageOk (dropQ p s)/\(∀ i,cellOf (dropQ p s) i=if i=s then [] else cellOf p i):=by
 have hhi:=h.hi
 have hlo:=h.lo
 have hn:=h.n
 have hlen:=h.len
 have hb0:∀ j,pb (drop0 p s) j=if j=3+2*s\/j=2+2*s then 0 else pb p j:=fun j=>by
  unfold drop0
  rw[pb_set,pb_set,List.length_set,hlen]
  by_cases h1:j=3+2*s
  ·subst h1;rw[if_pos ⟨rfl,by omega⟩,if_pos (Or.inl rfl)];rfl
  ·by_cases h2:j=2+2*s
   ·subst h2;rw[if_neg (by omega),if_pos ⟨rfl,by omega⟩,if_pos (Or.inr rfl)];rfl
   ·rw[if_neg (by omega),if_neg (by omega),if_neg (by omega)]
 have hl0:(drop0 p s).length=64:=by unfold drop0;rw[List.length_set,List.length_set,hlen]
 obtain ⟨t1,t2,t3⟩:=trimN_spec (drop0 p s) (pn p)
 have hb:∀ j,pb (dropQ p s) j=if j=0 then trimN (drop0 p s) (pn p) else if j=3+2*s\/j=2+2*s then 0 else pb p j:=fun j=>by
  unfold dropQ
  rw[pb_set,hl0,ofNat_toNat (by omega),hb0]
  by_cases h1:j=0
  ·subst h1;simp
  ·rw[if_neg (by omega),if_neg h1]
 have hpn:pn (dropQ p s)=trimN (drop0 p s) (pn p):=by show pb _ 0=_;rw[hb,if_pos rfl]
 have hpl:plo (dropQ p s)=plo p:=by show pb _ 1=pb p 1;rw[hb,if_neg (by omega),if_neg (by omega)]
 have hz0:∀ i,psz (dropQ p s) i=psz (drop0 p s) i:=fun i=>by
  show pb _ _=pb _ _
  rw[hb,hb0,if_neg (by omega)]
 have hzs:psz (dropQ p s) s=0/\pat (dropQ p s) s=0:=by
  constructor
  ·show pb _ _=_;rw[hb,if_neg (by omega),if_pos (Or.inl rfl)]
  ·show pb _ _=_;rw[hb,if_neg (by omega),if_pos (Or.inr rfl)]
 have hzo:∀ i,i≠s->psz (dropQ p s) i=psz p i/\pat (dropQ p s) i=pat p i:=fun i hi=>by
  constructor
  ·show pb _ _=pb _ _;rw[hb,if_neg (by omega),if_neg (by omega)]
  ·show pb _ _=pb _ _;rw[hb,if_neg (by omega),if_neg (by omega)]
 have hok:PageOk (dropQ p s):=by
  refine ⟨by unfold dropQ;rw[List.length_set,hl0],by omega,by omega,by omega,fun i hi hz=>?_,fun i hi hz=>?_,fun i k hi hk hik z1 z2=>?_,fun hn=>?_⟩
  ·by_cases his:i=s
   ·subst his;omega
   ·obtain ⟨g1,g2⟩:=hzo i his
    have:=h.slot i (by omega) (by omega)
    omega
  ·by_cases his:i=s
   ·subst his;omega
   ·obtain ⟨g1,g2⟩:=hzo i his
    have:=h.zero i (by omega) (by omega)
    omega
  ·have his:i≠s:=fun e=>by subst e;omega
   have hks:k≠s:=fun e=>by subst e;omega
   obtain ⟨g1,g2⟩:=hzo i his
   obtain ⟨g3,g4⟩:=hzo k hks
   have:=h.apart i k (by omega) (by omega) hik (by omega) (by omega)
   omega
  ·rw[hz0,hpn]
   exact t3 (by omega)
 refine ⟨hok,fun i=>?_⟩
 by_cases his:i=s
 ·subst his
  rw[if_pos rfl]
  by_cases hi:i < pn (dropQ p i)
  ·exact (cellOf_nil hok hi).2 hzs.1
  ·unfold cellOf;rw[if_neg hi]
 ·rw[if_neg his]
  obtain ⟨g1,g2⟩:=hzo i his
  by_cases hi:i < pn (dropQ p s)
  ·have hip:i < pn p:=by omega
   unfold cellOf
   rw[if_pos hi,if_pos hip]
   refine cellP_eq (cellP_len hok hi) (cellP_len h hip) g1 fun j hj=>?_
   have:=h.slot i hip (by omega)
   rw[g2,hb,if_neg (by omega),if_neg (by omega)]
  ·have e1:cellOf (dropQ p s) i=[]:=by unfold cellOf;rw[if_neg hi]
   rw[e1]
   by_cases hip:i < pn p
   ·refine ((cellOf_nil h hip).2 ?_).symm
    rw[<-g1,hz0]
    exact t2 i (by omega) hip
   ·unfold cellOf;rw[if_neg hip]
def compS (p:List UInt8) (s:List UInt8×Nat) (i:Nat):List UInt8×Nat:=if psz p i=0 then s else (stand s.1 i (s.2 - psz p i) (cellP p i),s.2 - psz p i)
def comp0 (p:List UInt8):List UInt8:=p.take (2+2*pn p)++List.replicate (62 - 2*pn p) (0:UInt8)
def compL (p:List UInt8) (k:Nat):List UInt8×Nat:=(List.range k).foldl (compS p) (comp0 p,64)
def compQ (p:List UInt8):List UInt8:=(compL p (pn p)).1.set 1 (UInt8.ofNat (compL p (pn p)).2)
theorem compL_succ (p:List UInt8) (k:Nat):compL p (k+1)=compS p (compL p k) k:=by
 unfold compL
 rw[List.range_succ,List.foldl_append]
 rfl
structure CompI (p:List UInt8) (k:Nat) (o:List UInt8) (a:Nat):Prop where
 len:o.length=64
 n:pb o 0=pn p
 a:a=64 - sumZ p k
 sz:∀ i,i < pn p->psz o i=psz p i
 old:∀ i,i < pn p->(k<=i\/psz p i=0)->pat o i=pat p i
 new:∀ i,i < k->psz p i≠0->pat o i=64 - sumZ p (i+1)/\∀ j,j < psz p i->pb o (64 - sumZ p (i+1)+j)=pb p (pat p i+j)
theorem comp_inv {p:List UInt8} (h:PageOk p):∀ k,k<=pn p->CompI p k (compL p k).1 (compL p k).2
 | 0,_=>by
  have hn:=h.n
  have hlen:=h.len
  have hl:(comp0 p).length=64:=by unfold comp0;simp only[List.length_append,List.length_take,List.length_replicate];omega
  have hb:∀ j,j < 2+2*pn p->pb (comp0 p) j=pb p j:=fun j hj=>by
   unfold pb comp0
   simp only[List.getD_eq_getElem?_getD]
   rw[List.getElem?_append_left (by simp only[List.length_take];omega),List.getElem?_take,if_pos hj]
  refine ⟨hl,hb 0 (by omega),by simp only[sumZ];rfl,fun i hi=>?_,fun i hi _=>?_,fun i hi=>by omega⟩
  ·exact hb _ (by omega)
  ·exact hb _ (by omega)
 | k+1,hk=>by
  have ih:=comp_inv h k (by omega)
  rw[compL_succ]
  unfold compS
  have hroom:=sum_room h
  have hmono:=sumZ_mono p (show k+1<=pn p from hk)
  have hlo:=h.lo
  have hn:=h.n
  simp only[sumZ] at hmono
  by_cases hz:psz p k=0
  ·rw[if_pos hz]
   refine ⟨ih.len,ih.n,?_,ih.sz,fun i hi ho=>ih.old i hi (by rcases ho with ho | ho <;> omega),fun i hi hzi=>?_⟩
   ·rw[ih.a];simp only[sumZ];omega
   ·have:i≠k:=fun e=>by subst e;exact hzi hz
    exact ih.new i (by omega) hzi
  ·rw[if_neg hz]
   have hcl:(cellP p k).length=psz p k:=cellP_len h (by omega)
   have ha:=ih.a
   have hfit:(compL p k).2 - psz p k+(cellP p k).length<=64:=by omega
   have hsp:∀ j,pb (stand (compL p k).1 k ((compL p k).2 - psz p k) (cellP p k)) j=_:=stand_pb ih.len (a:=(compL p k).2 - psz p k) (c:=cellP p k) hfit (by omega)
   refine ⟨stand_len ih.len _ hfit,?_,by simp only[sumZ];omega,fun i hi=>?_,fun i hi ho=>?_,fun i hi hzi=>?_⟩
   ·rw[hsp,if_neg (by omega),if_neg (by omega),if_neg (by omega)];exact ih.n
   ·show pb _ _=_
    rw[hsp]
    by_cases hik:i=k
    ·subst hik;rw[if_pos rfl];exact hcl
    ·rw[if_neg (by omega),if_neg (by omega),if_neg (by omega)]
     exact ih.sz i hi
   ·have hik:i≠k:=fun e=>by subst e;rcases ho with ho | ho <;> omega
    show pb _ _=_
    rw[hsp,if_neg (by omega),if_neg (by omega),if_neg (by omega)]
    exact ih.old i hi (by rcases ho with ho | ho <;> omega)
   ·by_cases hik:i=k
    ·subst hik
     constructor
     ·show pb _ _=_
      rw[hsp,if_neg (by omega),if_pos rfl]
      simp only[sumZ];omega
     ·intro j hj
      simp only[sumZ]
      rw[hsp,if_neg (by omega),if_neg (by omega),if_pos (by omega)]
      rw[show 64 - (sumZ p i+psz p i)+j - ((compL p i).2 - psz p i)=j by omega]
      exact cellP_pb p i j hj
    ·have hm2:=sumZ_mono p (show i+1<=k by omega)
     have hm3:=sumZ_mono p (show i+1<=pn p by omega)
     obtain ⟨g1,g2⟩:=ih.new i (by omega) hzi
     constructor
     ·show pb _ _=_
      rw[hsp,if_neg (by omega),if_neg (by omega),if_neg (by omega)]
      exact g1
     ·intro j hj
      rw[hsp,if_neg (by omega),if_neg (by omega),if_neg (by omega)]
      exact g2 j hj
theorem compQ_ok {p:List UInt8} (h:PageOk p):PageOk (compQ p)/\(∀ i,cellOf (compQ p) i=cellOf p i)/\pn (compQ p)=pn p:=by
 have I:=comp_inv h (pn p) (Nat.le_refl _)
 have hroom:=sum_room h
 have hlo:=h.lo
 have hn:=h.n
 have ha:=I.a
 have hb:∀ j,pb (compQ p) j=if j=1 then (compL p (pn p)).2 else pb (compL p (pn p)).1 j:=fun j=>by
  unfold compQ
  rw[pb_set,I.len,ofNat_toNat (by omega)]
  by_cases h1:j=1
  ·subst h1;simp
  ·rw[if_neg (by omega),if_neg h1]
 have hpn:pn (compQ p)=pn p:=by show pb _ 0=_;rw[hb,if_neg (by omega)];exact I.n
 have hpl:plo (compQ p)=64 - sumZ p (pn p):=by show pb _ 1=_;rw[hb,if_pos rfl];exact ha
 have hz:∀ i,i < pn p->psz (compQ p) i=psz p i:=fun i hi=>by show pb _ _=_;rw[hb,if_neg (by omega)];exact I.sz i hi
 have hat:∀ i,i < pn p->psz p i≠0->pat (compQ p) i=64 - sumZ p (i+1):=fun i hi hzi=>by show pb _ _=_;rw[hb,if_neg (by omega)];exact (I.new i hi hzi).1
 have hok:PageOk (compQ p):=by
  refine ⟨by unfold compQ;rw[List.length_set];exact I.len,by omega,by omega,by omega,fun i hi hzi=>?_,fun i hi hzi=>?_,fun i k hi hk hik z1 z2=>?_,fun hn=>?_⟩
  ·have h1:=hz i (by omega)
   have h2:=hat i (by omega) (by omega)
   have h3:=sumZ_mono p (show i+1<=pn p by omega)
   have h4:sumZ p (i+1)=sumZ p i+psz p i:=rfl
   omega
  ·have h1:=hz i (by omega)
   show pb _ _=_
   rw[hb,if_neg (by omega)]
   exact (I.old i (by omega) (Or.inr (by omega))).trans (h.zero i (by omega) (by omega))
  ·have h1:=hz i (by omega)
   have h2:=hat i (by omega) (by omega)
   have h3:=hz k (by omega)
   have h4:=hat k (by omega) (by omega)
   have e1:sumZ p (i+1)=sumZ p i+psz p i:=rfl
   have e2:sumZ p (k+1)=sumZ p k+psz p k:=rfl
   have m1:=sumZ_mono p (show i+1<=pn p by omega)
   have m2:=sumZ_mono p (show k+1<=pn p by omega)
   rcases Nat.lt_or_gt_of_ne hik with h6 | h6
   ·have:=sumZ_mono p (show i+1<=k from h6)
    omega
   ·have:=sumZ_mono p (show k+1<=i from h6)
    omega
  ·rw[hpn,hz _ (by omega)]
   exact h.last (by omega)
 refine ⟨hok,fun i=>?_,hpn⟩
 unfold cellOf
 rw[hpn]
 by_cases hi:i < pn p
 ·rw[if_pos hi,if_pos hi]
  refine cellP_eq (cellP_len hok (by omega)) (cellP_len h hi) (hz i hi) fun j hj=>?_
  have h1:=hz i hi
  have hzi:psz p i≠0:=by omega
  rw[hat i hi hzi,hb,if_neg (by
   have:=sumZ_mono p (show i+1<=pn p by omega)
   omega)]
  exact (I.new i hi hzi).2 j (by omega)
 ·rw[if_neg hi,if_neg hi]
def newPg:List UInt8:=((List.replicate 64 (0:UInt8)).set 0 0).set 1 64
theorem newPg_ok:PageOk newPg/\∀ i,cellOf newPg i=[]:=by
 refine ⟨pageF_iff.1 (by decide +kernel),fun i=>?_⟩
 unfold cellOf
 rw[if_neg (by show ¬ i < 0;omega)]
end OT
set_option linter.unusedVariables false
set_option linter.unusedSimpArgs false
namespace OT
open Go
theorem ix3 {i:Nat} (h:i < 1000):w64 ((3:Int)+w64 ((2:Int)*(i:Int)))=((3+2*i:Nat):Int):=by
 rw[w64_in (n:=(2:Int)*(i:Int)) (by omega),w64_in (by omega)];omega
theorem ix2 {i:Nat} (h:i < 1000):w64 ((2:Int)+w64 ((2:Int)*(i:Int)))=((2+2*i:Nat):Int):=by
 rw[w64_in (n:=(2:Int)*(i:Int)) (by omega),w64_in (by omega)];omega
theorem wpb (p:List UInt8) (i:Nat):w64 ((pb p i:Nat):Int)=((pb p i:Nat):Int):=by
 have:=pb_lt p i
 exact w64_in (by omega)
theorem read_pb {R:Type} {p:List UInt8} {i:Nat} (h:i < p.length) (K:UInt8->Option R):(p[i]?).bind K=K p[i]:=by rw[(pb_get h).1];rfl
section
variable {p:List UInt8} (hp:p.length=64)
include hp
theorem pCount_eq:spec_l2Count.sem (p,())=some ((pn p:Int),()):=by
 refine lift_eq (k:=0) fun k _=>(spec_l2Count.raw_eq k _).trans ?_
 show spec_l2Count.p _=_
 unfold spec_l2Count.p
 simp only[read_pb (show 0 < p.length by omega),(pb_get (show 0 < p.length by omega)).2,wpb]
 rfl
theorem pSlots_eq:impl_slots.sem (p,())=some ((pn p:Int),()):=by
 refine lift_eq (k:=0) fun k _=>(impl_slots.raw_eq k _).trans ?_
 show impl_slots.p _=_
 unfold impl_slots.p
 simp only[read_pb (show 0 < p.length by omega),(pb_get (show 0 < p.length by omega)).2,wpb]
 rfl
theorem pLow_eq:spec_l2Low.sem (p,())=some ((plo p:Int),()):=by
 refine lift_eq (k:=0) fun k _=>(spec_l2Low.raw_eq k _).trans ?_
 show spec_l2Low.p _=_
 unfold spec_l2Low.p
 simp only[read_pb (show 1 < p.length by omega),(pb_get (show 1 < p.length by omega)).2,wpb]
 rfl
theorem pSize_eq {i:Nat} (hi:i < 16):spec_l2Size.sem (p,(i:Int),())=some ((psz p i:Int),()):=by
 refine lift_eq (k:=0) fun k _=>(spec_l2Size.raw_eq k _).trans ?_
 show spec_l2Size.p _=_
 unfold spec_l2Size.p
 simp only[ix3 (show i < 1000 by omega),Int.natCast_nonneg,if_true,Int.toNat_natCast,read_pb (show 3+2*i < p.length by omega),(pb_get (show 3+2*i < p.length by omega)).2,wpb]
 rfl
theorem pPlace_eq {i:Nat} (hi:i < 16):spec_l2Place.sem (p,(i:Int),())=some ((pat p i:Int),()):=by
 refine lift_eq (k:=0) fun k _=>(spec_l2Place.raw_eq k _).trans ?_
 show spec_l2Place.p _=_
 unfold spec_l2Place.p
 simp only[ix2 (show i < 1000 by omega),Int.natCast_nonneg,if_true,Int.toNat_natCast,read_pb (show 2+2*i < p.length by omega),(pb_get (show 2+2*i < p.length by omega)).2,wpb]
 rfl
theorem pSpot_eq {i:Nat} (hi:i < 16):impl_spot.sem (p,(i:Int),())=some ((pat p i:Int),(psz p i:Int),()):=by
 refine lift_eq (k:=0) fun k _=>(impl_spot.raw_eq k _).trans ?_
 show impl_spot.p _=_
 unfold impl_spot.p
 simp only[ix2 (show i < 1000 by omega),ix3 (show i < 1000 by omega),Int.natCast_nonneg,if_true,Int.toNat_natCast,read_pb (show 2+2*i < p.length by omega),(pb_get (show 2+2*i < p.length by omega)).2,read_pb (show 3+2*i < p.length by omega),(pb_get (show 3+2*i < p.length by omega)).2,wpb]
 rfl
theorem pSlot_eq {i:Nat} (hi:i < 16):spec_l2Slot.sem (p,(i:Int),())=some (slotB p i,()):=by
 refine lift_eq (k:=0) fun k _=>(spec_l2Slot.raw_eq k _).trans ?_
 show spec_l2Slot.p _=_
 unfold spec_l2Slot.p slotB
 have h1:=pb_lt p (2+2*i)
 have h2:=pb_lt p (3+2*i)
 have hw:w64 ((pat p i:Int)+(psz p i:Int))=((pat p i+psz p i:Nat):Int):=by
  have:pat p i < 256:=h1
  have:psz p i < 256:=h2
  rw[w64_in (by omega)];omega
 simp only[pPlace_eq hp hi,pSize_eq hp hi,pLow_eq hp,Option.bind_some,hw]
 have e1:decide ((pat p i:Int)=0)=decide (pat p i=0):=by rw[decide_eq_decide];omega
 have e2:decide ((psz p i:Int)=0)=decide (psz p i=0):=by rw[decide_eq_decide];omega
 have e3:decide ((pat p i:Int)=(psz p i:Int))=decide (pat p i=psz p i):=by rw[decide_eq_decide];omega
 have e4:decide ((plo p:Int)<=(pat p i:Int))=decide (plo p<=pat p i):=by rw[decide_eq_decide];omega
 have e5:decide (((pat p i+psz p i:Nat):Int)<=64)=decide (pat p i+psz p i<=64):=by rw[decide_eq_decide];omega
 rw[e1,e2,e3,e4,e5]
 by_cases c1:pat p i=0
 ·simp[c1]
 ·by_cases c2:psz p i=0
  ·simp[c1,c2]
  ·simp only[c1,c2,decide_false,cond_false,or_self,if_false]
   cases decide (plo p<=pat p i) <;> rfl
theorem pApart_eq {i j:Nat} (hi:i < 16) (hj:j < 16):spec_l2Apart.sem (p,(i:Int),(j:Int),())=some (apartP p i j,()):=by
 refine lift_eq (k:=0) fun k _=>(spec_l2Apart.raw_eq k _).trans ?_
 show spec_l2Apart.p _=_
 unfold spec_l2Apart.p apartP
 have h1:pat p i < 256:=pb_lt p _
 have h2:psz p i < 256:=pb_lt p _
 have h3:pat p j < 256:=pb_lt p _
 have h4:psz p j < 256:=pb_lt p _
 have hw:w64 ((pat p i:Int)+(psz p i:Int))=((pat p i+psz p i:Nat):Int):=by rw[w64_in (by omega)];omega
 have hw2:w64 ((pat p j:Int)+(psz p j:Int))=((pat p j+psz p j:Nat):Int):=by rw[w64_in (by omega)];omega
 simp only[pPlace_eq hp hi,pSize_eq hp hi,pPlace_eq hp hj,pSize_eq hp hj,Option.bind_some,hw,hw2]
 have e1:decide ((psz p i:Int)=0)=decide (psz p i=0):=by rw[decide_eq_decide];omega
 have e2:decide ((psz p j:Int)=0)=decide (psz p j=0):=by rw[decide_eq_decide];omega
 have e3:decide (((pat p i+psz p i:Nat):Int)<=(pat p j:Int))=decide (pat p i+psz p i<=pat p j):=by rw[decide_eq_decide];omega
 have e4:decide (((pat p j+psz p j:Nat):Int)<=(pat p i:Int))=decide (pat p j+psz p j<=pat p i):=by rw[decide_eq_decide];omega
 rw[e1,e2,e3,e4]
 cases decide (psz p i=0) <;> cases decide (psz p j=0) <;> cases decide (pat p i+psz p i<=pat p j) <;> rfl
end
theorem forI_checkN {O:Type} (q:Nat->Bool) (bad e:O):∀ (xs:List Nat) (i:Nat),forI (fun _ (_:Unit) x=>if q x then .inr () else .inl bad) (fun _=>e) i xs ()=if xs.all q then e else bad:=fun xs i=>forI_check q bad (fun _=>e) xs i
theorem specPage_eq (p:List UInt8) (hl:p.length<=maxLen):spec_l2Fault.sem (p,())=some (pageF p,()):=by
 refine lift_eq (k:=100) fun k hk=>(spec_l2Fault.raw_eq k _).trans ?_
 unfold spec_l2Fault.p pageF
 have e0:decide ((p.length:Int)=64)=decide (p.length=64):=by rw[decide_eq_decide];omega
 rw[e0]
 by_cases hp:p.length=64
 rotate_left
 ·simp only[hp,decide_false,Bool.not_false,cond_true,if_false]
 have hn:pn p < 256:=pb_lt p 0
 have hlo:plo p < 256:=pb_lt p 1
 have hw:w64 ((2:Int)+w64 ((2:Int)*(pn p:Int)))=((2+2*pn p:Nat):Int):=ix2 (by omega)
 simp only[hp,decide_true,Bool.not_true,cond_false,pCount_eq hp,pLow_eq hp,Option.bind_some,hw,if_true]
 by_cases c1:pn p<=16
 rotate_left
 ·have:((16:Int) < (pn p:Int)):=by omega
  simp only[this,decide_true,cond_true,c1,false_and,if_false]
 have n1:¬ ((16:Int) < (pn p:Int)):=by omega
 simp only[n1,decide_false,cond_false,c1,true_and]
 by_cases c2:2+2*pn p<=plo p
 rotate_left
 ·have:((plo p:Int) < ((2+2*pn p:Nat):Int)):=by omega
  simp only[this,decide_true,cond_true,c2,false_and,if_false]
 have n2:¬ ((plo p:Int) < ((2+2*pn p:Nat):Int)):=by omega
 simp only[n2,decide_false,cond_false,c2,true_and]
 by_cases c3:plo p<=64
 rotate_left
 ·have:((64:Int) < (plo p:Int)):=by omega
  simp only[this,decide_true,cond_true,c3,if_false]
 have n3:¬ ((64:Int) < (plo p:Int)):=by omega
 simp only[n3,decide_false,cond_false,c3,if_true]
 have inner:∀ (self:((List UInt8)×Int×Int)->Option spec_l2Fault.Out) (e2:((List UInt8)×Int)->Option spec_l2Fault.Out) (i:Nat) (hi:i < pn p),spec_l2Fault.r2 k self e2 (p,()) p (pn p:Int) (i:Int) (0:Int)=if (List.range i).all (apartP p i) then self (p,(pn p:Int),w64 ((i:Int)+1)) else some ((8:Int),()):=fun self e2 i hi=>by
  have:=for_loopE (B:=fun self' v=>spec_l2Fault.B2 k self' (fun z=>spec_l2Fault.Q1 k self e2 (p,()) p (pn p:Int) (i:Int) z) (p,()) p (pn p:Int) (i:Int) v) (List.range i) (fun (_:Unit) (j:Int)=>j) (fun _ _ x=>if apartP p i x then .inr () else .inl (some ((8:Int),()))) (fun _=>self (p,(pn p:Int),w64 ((i:Int)+1))) (fun _ _=>True) (by rw[maxLen_val,List.length_range];omega)
   (fun j hj s self' _=>by
    rw[List.length_range] at hj
    show spec_l2Fault.b2 _ _ _ _ _ _ _=_
    unfold spec_l2Fault.b2
    have hlt:(j:Int) < (i:Int):=by omega
    simp only[hlt,decide_true,cond_true,pApart_eq hp (show i < 16 by omega) (show j < 16 by omega),Option.bind_some,List.getElem_range]
    cases apartP p i j <;> rfl)
   (fun _ _ _ _ _ _=>trivial) (fun s self' _=>by
    rw[List.length_range]
    show spec_l2Fault.b2 _ _ _ _ _ _ _=_
    unfold spec_l2Fault.b2
    simp only[Int.lt_irrefl,decide_false,cond_false]
    rfl) () trivial k (by rw[List.length_range];omega)
  rw[forI_checkN] at this
  exact this
 have outer:spec_l2Fault.r1 k (p,()) (pn p:Int) (p,(pn p:Int),(0:Int))=if (List.range (pn p)).all (fun i=>(List.range i).all (apartP p i)) then spec_l2Fault.Q2 k (p,()) (p,(pn p:Int)) else some ((8:Int),()):=by
  have:=for_loopE (B:=fun self v=>spec_l2Fault.B1 k self (fun z=>spec_l2Fault.Q2 k (p,()) z) (p,()) v) (List.range (pn p)) (fun (_:Unit) (i:Int)=>(p,(pn p:Int),i)) (fun _ _ x=>if (List.range x).all (apartP p x) then .inr () else .inl (some ((8:Int),()))) (fun _=>spec_l2Fault.Q2 k (p,()) (p,(pn p:Int))) (fun _ _=>True) (by rw[maxLen_val,List.length_range];omega)
   (fun i hi s self _=>by
    rw[List.length_range] at hi
    show spec_l2Fault.b1 _ _ _ _ _=_
    unfold spec_l2Fault.b1
    have hlt:(i:Int) < (pn p:Int):=by omega
    simp only[hlt,decide_true,cond_true,inner self _ i hi,List.getElem_range]
    cases (List.range i).all (apartP p i) <;> rfl)
   (fun _ _ _ _ _ _=>trivial) (fun s self _=>by
    rw[List.length_range]
    show spec_l2Fault.b1 _ _ _ _ _=_
    unfold spec_l2Fault.b1
    simp only[Int.lt_irrefl,decide_false,cond_false]) () trivial k (by rw[List.length_range];omega)
  rw[forI_checkN] at this
  exact this
 have first:spec_l2Fault.r0 k (p,()) (pn p:Int) (0:Int)=if (List.range (pn p)).all (slotB p) then spec_l2Fault.r1 k (p,()) (pn p:Int) (p,(pn p:Int),(0:Int)) else some ((3:Int),()):=by
  have:=for_loopE (B:=fun self v=>spec_l2Fault.B0 k self (fun z=>spec_l2Fault.Q0 k (p,()) (pn p:Int) z) (p,()) (pn p:Int) v) (List.range (pn p)) (fun (_:Unit) (i:Int)=>i) (fun _ _ x=>if slotB p x then .inr () else .inl (some ((3:Int),()))) (fun _=>spec_l2Fault.r1 k (p,()) (pn p:Int) (p,(pn p:Int),(0:Int))) (fun _ _=>True) (by rw[maxLen_val,List.length_range];omega)
   (fun i hi s self _=>by
    rw[List.length_range] at hi
    show spec_l2Fault.b0 _ _ _ _ _=_
    unfold spec_l2Fault.b0
    have hlt:(i:Int) < (pn p:Int):=by omega
    simp only[hlt,decide_true,cond_true,pSlot_eq hp (show i < 16 by omega),Option.bind_some,List.getElem_range]
    cases slotB p i <;> rfl)
   (fun _ _ _ _ _ _=>trivial) (fun s self _=>by
    rw[List.length_range]
    show spec_l2Fault.b0 _ _ _ _ _=_
    unfold spec_l2Fault.b0
    simp only[Int.lt_irrefl,decide_false,cond_false]
    rfl) () trivial k (by rw[List.length_range];omega)
  rw[forI_checkN] at this
  exact this
 rw[first]
 split
 ·rw[outer]
  split
  ·show spec_l2Fault.q2 _ _=_
   unfold spec_l2Fault.q2
   by_cases h0:0 < pn p
   ·have hlt:(0:Int) < (pn p:Int):=by omega
    have hwm:w64 ((pn p:Int) - 1)=((pn p - 1:Nat):Int):=by rw[w64_in (by omega)];omega
    simp only[hlt,decide_true,cond_true,hwm,pSize_eq hp (show pn p - 1 < 16 by omega),Option.bind_some,h0,true_and]
    by_cases hz:psz p (pn p - 1)=0
    ·simp[hz]
    ·have:¬ ((psz p (pn p - 1):Int)=0):=by omega
     simp only[this,decide_false,cond_false,hz,if_false]
   ·have hlt:¬ ((0:Int) < (pn p:Int)):=by omega
    simp only[hlt,decide_false,cond_false,h0,false_and,if_false]
  ·rfl
 ·rfl
theorem forI_anyS {S O:Type} (q:Nat->Bool) (g:Nat->S) (bad e:O):∀ (xs:List Nat) (i:Nat) (s:S),forI (fun _ s x=>if q x then .inl bad else .inr (g x)) (fun _=>e) i xs s=if xs.any q then bad else e
 | [],_,_=>rfl
 | x::xs,i,s=>by
  simp only[forI,List.any_cons]
  by_cases h:q x=true
  ·simp[h]
  ·simp[h,forI_anyS q g bad e xs (i+1)]
def covS (p:List UInt8) (i t:Nat):List Bool:=(List.range 64).map fun j=>covP p i j||decide (pat p i<=j/\j < pat p i+t)
def overB (p:List UInt8) (i:Nat):Bool:=(List.range (psz p i)).any fun t=>covP p i (pat p i+t)
theorem covS_zero (p:List UInt8) (i:Nat):covS p i 0=(List.range 64).map (covP p i):=by
 unfold covS
 refine List.map_congr_left fun j _=>?_
 have:¬ (pat p i<=j/\j < pat p i+0):=by omega
 simp only[this,decide_false,Bool.or_false]
theorem covS_full (p:List UInt8) (i:Nat):covS p i (psz p i)=(List.range 64).map (covP p (i+1)):=rfl
theorem covS_get (p:List UInt8) (i t j:Nat) (h:j < 64):(covS p i t)[j]?=some (covP p i j||decide (pat p i<=j/\j < pat p i+t)):=by
 unfold covS
 simp[h]
theorem covS_len (p:List UInt8) (i t:Nat):(covS p i t).length=64:=by simp[covS]
theorem covS_succ (p:List UInt8) (i t:Nat) (h:pat p i+t < 64):(covS p i t).set (pat p i+t) true=covS p i (t+1):=by
 refine List.ext_getElem? fun j=>?_
 rw[List.getElem?_set,covS_len]
 by_cases hj:j < 64
 ·rw[covS_get p i t j hj,covS_get p i (t+1) j hj]
  by_cases e:pat p i+t=j
  ·subst e
   have:pat p i<=pat p i+t/\pat p i+t < pat p i+(t+1):=by omega
   simp[h,this]
  ·rw[if_neg e]
   have:(pat p i<=j/\j < pat p i+t)↔(pat p i<=j/\j < pat p i+(t+1)):=by omega
   simp only[this]
 ·have h1:(covS p i t)[j]?=none:=List.getElem?_eq_none (by rw[covS_len];omega)
  have h2:(covS p i (t+1))[j]?=none:=List.getElem?_eq_none (by rw[covS_len];omega)
  rw[h1,h2,if_neg (by omega)]
theorem covP_iff {p:List UInt8}:∀ {k j:Nat},covP p k j=true↔∃ i,i < k/\pat p i<=j/\j < pat p i+psz p i
 | 0,j=>by simp[covP]
 | k+1,j=>by
  simp only[covP,Bool.or_eq_true,decide_eq_true_eq,covP_iff (k:=k)]
  constructor
  ·rintro (⟨i,h1,h2⟩ | h)
   ·exact ⟨i,by omega,h2⟩
   ·exact ⟨k,by omega,h⟩
  ·rintro ⟨i,h1,h2⟩
   by_cases e:i=k
   ·subst e;exact .inr h2
   ·exact .inl ⟨i,by omega,h2⟩
theorem over_apart (p:List UInt8) (i:Nat):overB p i=!(List.range i).all (apartP p i):=by
 rw[Bool.eq_iff_iff]
 simp only[overB,List.any_eq_true,List.mem_range,covP_iff,Bool.not_eq_true',List.all_eq_false,Bool.not_eq_true]
 constructor
 ·rintro ⟨t,ht,k,hk,h1,h2⟩
  refine ⟨k,hk,?_⟩
  cases h:apartP p i k with
  | false=>rfl
  | true=>have:=apartP_iff.1 h (by omega) (by omega);omega
 ·rintro ⟨k,hk,h⟩
  have hn:¬ (psz p i≠0->psz p k≠0->pat p i+psz p i<=pat p k\/pat p k+psz p k<=pat p i):=fun h2=>by rw[apartP_iff.2 h2] at h;cases h
  by_cases c1:psz p i=0
  ·exact absurd (fun h=>absurd c1 h) hn
  ·by_cases c2:psz p k=0
   ·exact absurd (fun _ h=>absurd c2 h) hn
   ·have c3:¬ (pat p i+psz p i<=pat p k):=fun h3=>hn fun _ _=>.inl h3
    have c4:¬ (pat p k+psz p k<=pat p i):=fun h3=>hn fun _ _=>.inr h3
    exact ⟨max (pat p i) (pat p k) - pat p i,by omega,k,hk,by omega,by omega⟩
theorem any_over (p:List UInt8) (n:Nat):(List.range n).any (overB p)=!(List.range n).all (fun i=>(List.range i).all (apartP p i)):=by
 rw[List.not_all_eq_any_not]
 congr 1
 funext i
 exact over_apart p i
theorem implPage_eq (p:List UInt8) (hl:p.length<=maxLen):impl_PageFault.sem (p,())=some (pageF p,()):=by
 refine lift_eq (k:=300) fun k hk=>(impl_PageFault.raw_eq k _).trans ?_
 unfold impl_PageFault.p pageF
 have e0:decide ((p.length:Int)=64)=decide (p.length=64):=by rw[decide_eq_decide];omega
 rw[e0]
 by_cases hp:p.length=64
 rotate_left
 ·simp only[hp,decide_false,Bool.not_false,cond_true,if_false]
 have hn:pn p < 256:=pb_lt p 0
 have hlo:plo p < 256:=pb_lt p 1
 have hw:w64 ((2:Int)+w64 ((2:Int)*(pn p:Int)))=((2+2*pn p:Nat):Int):=ix2 (by omega)
 have hb1:((p[1]'(by omega)).toNat)=plo p:=(pb_get (show 1 < p.length by omega)).2
 have hwl:w64 (plo p:Int)=(plo p:Int):=wpb p 1
 simp only[hp,decide_true,Bool.not_true,cond_false,read_pb (show 1 < p.length by omega),hb1,hwl,pSlots_eq hp,Option.bind_some,hw,if_true]
 by_cases c1:pn p<=16
 rotate_left
 ·have:((16:Int) < (pn p:Int)):=by omega
  simp only[this,decide_true,cond_true,c1,false_and,if_false]
 have n1:¬ ((16:Int) < (pn p:Int)):=by omega
 simp only[n1,decide_false,cond_false,c1,true_and]
 by_cases c2:2+2*pn p<=plo p
 rotate_left
 ·have:((plo p:Int) < ((2+2*pn p:Nat):Int)):=by omega
  simp only[this,decide_true,cond_true,c2,false_and,if_false]
 have n2:¬ ((plo p:Int) < ((2+2*pn p:Nat):Int)):=by omega
 simp only[n2,decide_false,cond_false,c2,true_and]
 by_cases c3:plo p<=64
 rotate_left
 ·have:((64:Int) < (plo p:Int)):=by omega
  simp only[this,decide_true,cond_true,c3,if_false]
 have n3:¬ ((64:Int) < (plo p:Int)):=by omega
 simp only[n3,decide_false,cond_false,c3,if_true]
 have first:impl_PageFault.r0 k (p,()) (pn p:Int) (plo p:Int) (0:Int)=if (List.range (pn p)).all (slotB p) then impl_PageFault.Q0 k (p,()) (pn p:Int) (plo p:Int) () else some ((3:Int),()):=by
  have:=for_loopE (B:=fun self v=>impl_PageFault.B0 k self (fun z=>impl_PageFault.Q0 k (p,()) (pn p:Int) (plo p:Int) z) (p,()) (pn p:Int) (plo p:Int) v) (List.range (pn p)) (fun (_:Unit) (i:Int)=>i) (fun _ _ x=>if slotB p x then .inr () else .inl (some ((3:Int),()))) (fun _=>impl_PageFault.Q0 k (p,()) (pn p:Int) (plo p:Int) ()) (fun _ _=>True) (by rw[maxLen_val,List.length_range];omega)
   (fun i hi s self _=>by
    rw[List.length_range] at hi
    show impl_PageFault.b0 _ _ _ _ _ _=_
    unfold impl_PageFault.b0
    have hlt:(i:Int) < (pn p:Int):=by omega
    have h1:pat p i < 256:=pb_lt p _
    have h2:psz p i < 256:=pb_lt p _
    have hw2:w64 ((pat p i:Int)+(psz p i:Int))=((pat p i+psz p i:Nat):Int):=by rw[w64_in (by omega)];omega
    simp only[hlt,decide_true,cond_true,pSpot_eq hp (show i < 16 by omega),Option.bind_some,List.getElem_range,hw2]
    have e1:decide ((pat p i:Int)=0)=decide (pat p i=0):=by rw[decide_eq_decide];omega
    have e2:decide ((psz p i:Int)=0)=decide (psz p i=0):=by rw[decide_eq_decide];omega
    have e4:decide ((pat p i:Int) < (plo p:Int))=decide (pat p i < plo p):=by rw[decide_eq_decide];omega
    have e5:decide ((64:Int) < ((pat p i+psz p i:Nat):Int))=decide (64 < pat p i+psz p i):=by rw[decide_eq_decide];omega
    rw[e1,e2,e4,e5]
    unfold slotB
    by_cases d1:pat p i=0
    ·by_cases d2:psz p i=0
     ·simp[d1,d2]
     ·have:¬ (0=psz p i):=fun e=>d2 e.symm
      simp[d1,d2,this]
    ·by_cases d2:psz p i=0
     ·simp[d1,d2]
     ·by_cases d3:pat p i < plo p
      ·have d3':¬ (plo p<=pat p i):=by omega
       simp[d1,d2,d3,d3']
      ·by_cases d4:64 < pat p i+psz p i
       ·have d4':¬ (pat p i+psz p i<=64):=by omega
        simp[d1,d2,d3,d4,d4']
       ·have d3':plo p<=pat p i:=by omega
        have d4':pat p i+psz p i<=64:=by omega
        simp[d1,d2,d3,d4,d3',d4'])
   (fun _ _ _ _ _ _=>trivial) (fun s self _=>by
    rw[List.length_range]
    show impl_PageFault.b0 _ _ _ _ _ _=_
    unfold impl_PageFault.b0
    simp only[Int.lt_irrefl,decide_false,cond_false]) () trivial k (by rw[List.length_range];omega)
  rw[forI_checkN] at this
  exact this
 rw[first]
 by_cases hsl:(List.range (pn p)).all (slotB p)=true
 rotate_left
 ·simp only[hsl,Bool.false_eq_true,if_false]
 simp only[hsl,if_true]
 have hs:∀ i,i < pn p->psz p i≠0->plo p<=pat p i/\pat p i+psz p i<=64:=fun i hi=>((slotB_iff (by omega)).1 (List.all_eq_true.1 hsl i (List.mem_range.2 hi))).1
 have inner:∀ (self:((List UInt8)×Int×(List Bool)×Int×Int)->Option impl_PageFault.Out) (e2:((List UInt8)×Int)->Option impl_PageFault.Out) (i:Nat) (hi:i < pn p),impl_PageFault.r2 k self e2 (p,()) p (pn p:Int) (pat p i:Int) (psz p i:Int) (pn p:Int) (i:Int) ((List.range 64).map (covP p i),(pat p i:Int))=if overB p i then some ((8:Int),()) else self (p,(pn p:Int),(List.range 64).map (covP p (i+1)),(pn p:Int),w64 ((i:Int)+1)):=fun self e2 i hi=>by
  have h1:pat p i < 256:=pb_lt p _
  have h2:psz p i < 256:=pb_lt p _
  have hw2:w64 ((pat p i:Int)+(psz p i:Int))=((pat p i+psz p i:Nat):Int):=by rw[w64_in (by omega)];omega
  have:=for_loopE (B:=fun self' v=>impl_PageFault.B2 k self' (fun z=>impl_PageFault.Q1 k self e2 (p,()) p (pn p:Int) (pat p i:Int) (psz p i:Int) (pn p:Int) (i:Int) z) (p,()) p (pn p:Int) (pat p i:Int) (psz p i:Int) (pn p:Int) (i:Int) v) (List.range (psz p i)) (fun (s:List Bool) (t:Int)=>(s,(pat p i:Int)+t)) (fun _ s t=>if covP p i (pat p i+t) then .inl (some ((8:Int),())) else .inr (covS p i (t+1))) (fun _=>self (p,(pn p:Int),(List.range 64).map (covP p (i+1)),(pn p:Int),w64 ((i:Int)+1))) (fun t s=>s=covS p i t) (by rw[maxLen_val,List.length_range];omega)
   (fun t ht s self' hI=>by
    rw[List.length_range] at ht
    subst hI
    obtain ⟨g1,g2⟩:=hs i hi (by omega)
    show impl_PageFault.b2 _ _ _ _ _ _ _ _ _ _=_
    unfold impl_PageFault.b2
    have hlt:(pat p i:Int)+(t:Int) < ((pat p i+psz p i:Nat):Int):=by omega
    have hnn:(0:Int)<=(pat p i:Int)+(t:Int):=by omega
    have hlen:(pat p i:Int)+(t:Int) < ((covS p i t).length:Int):=by rw[covS_len];omega
    have htn:((pat p i:Int)+(t:Int)).toNat=pat p i+t:=by omega
    have hnot:¬ (pat p i<=pat p i+t/\pat p i+t < pat p i+t):=by omega
    have hwt:w64 ((pat p i:Int)+(t:Int)+1)=(pat p i:Int)+w64 ((t:Int)+1):=by rw[w64_in (by omega),w64_in (by omega)];omega
    simp only[hw2,hlt,decide_true,cond_true,hnn,hlen,and_self,if_true,htn,covS_get p i t (pat p i+t) (by omega),hnot,decide_false,Bool.or_false,Option.bind_some,List.getElem_range,covS_succ p i t (by omega),hwt]
    cases covP p i (pat p i+t) <;> rfl)
   (fun t ht s s' hI hf=>by
    simp only[List.getElem_range] at hf
    split at hf
    ·cases hf
    ·injection hf with hf;exact hf.symm) (fun s self' hI=>by
    rw[List.length_range] at hI ⊢
    show impl_PageFault.b2 _ _ _ _ _ _ _ _ _ _=_
    unfold impl_PageFault.b2
    have hlt:¬ ((pat p i:Int)+(psz p i:Int) < ((pat p i+psz p i:Nat):Int)):=by omega
    simp only[hw2,hlt,decide_false,cond_false]
    rw[hI,covS_full]
    rfl) (covS p i 0) rfl k (by rw[List.length_range];omega)
  rw[forI_anyS] at this
  rw[<-covS_zero]
  simp only[Int.add_zero] at this
  exact this
 have outer:impl_PageFault.r1 k (p,()) (pn p:Int) (plo p:Int) (p,(pn p:Int),List.replicate 64 false,(pn p:Int),(0:Int))=if (List.range (pn p)).any (overB p) then some ((8:Int),()) else impl_PageFault.Q2 k (p,()) (p,(pn p:Int)):=by
  have:=for_loopE (B:=fun self v=>impl_PageFault.B1 k self (fun z=>impl_PageFault.Q2 k (p,()) z) (p,()) v) (List.range (pn p)) (fun (s:List Bool) (i:Int)=>(p,(pn p:Int),s,(pn p:Int),i)) (fun _ s x=>if overB p x then .inl (some ((8:Int),())) else .inr ((List.range 64).map (covP p (x+1)))) (fun _=>impl_PageFault.Q2 k (p,()) (p,(pn p:Int))) (fun i s=>s=(List.range 64).map (covP p i)) (by rw[maxLen_val,List.length_range];omega)
   (fun i hi s self hI=>by
    rw[List.length_range] at hi
    subst hI
    show impl_PageFault.b1 _ _ _ _ _=_
    unfold impl_PageFault.b1
    have hlt:(i:Int) < (pn p:Int):=by omega
    simp only[hlt,decide_true,cond_true,pSpot_eq hp (show i < 16 by omega),Option.bind_some,inner self _ i hi,List.getElem_range]
    cases overB p i <;> rfl)
   (fun i hi s s' hI hf=>by
    simp only[List.getElem_range] at hf
    split at hf
    ·cases hf
    ·injection hf with hf;exact hf.symm) (fun s self _=>by
    rw[List.length_range]
    show impl_PageFault.b1 _ _ _ _ _=_
    unfold impl_PageFault.b1
    simp only[Int.lt_irrefl,decide_false,cond_false]) (List.replicate 64 false) (by show _=(List.range 64).map (fun _=>false);decide) k (by rw[List.length_range];omega)
  rw[forI_anyS] at this
  exact this
 show impl_PageFault.q0 _ _ _ _ _=_
 unfold impl_PageFault.q0
 rw[outer,any_over]
 by_cases hap:(List.range (pn p)).all (fun i=>(List.range i).all (apartP p i))=true
 rotate_left
 ·simp only[hap,Bool.not_false,if_true,Bool.false_eq_true,if_false]
 simp only[hap,Bool.not_true,Bool.false_eq_true,if_false,if_true]
 show impl_PageFault.q2 _ _=_
 unfold impl_PageFault.q2
 by_cases h0:0 < pn p
 ·have hlt:(0:Int) < (pn p:Int):=by omega
  have hwm:w64 (w64 ((2:Int)*(pn p:Int))+1)=((2*pn p+1:Nat):Int):=by rw[w64_in (n:=(2:Int)*(pn p:Int)) (by omega),w64_in (by omega)];omega
  have hz:((p[2*pn p+1]'(by omega)).toNat)=psz p (pn p - 1):=by
   rw[(pb_get (show 2*pn p+1 < p.length by omega)).2]
   show pb p _=pb p _
   congr 1;omega
  simp only[hlt,decide_true,cond_true,hwm,Int.natCast_nonneg,if_true,Int.toNat_natCast,read_pb (show 2*pn p+1 < p.length by omega),hz,h0,true_and]
  by_cases hz:psz p (pn p - 1)=0
  ·simp[hz]
  ·have:¬ ((psz p (pn p - 1):Int)=0):=by omega
   simp only[this,decide_false,cond_false,hz,if_false]
 ·have hlt:¬ ((0:Int) < (pn p:Int)):=by omega
  simp only[hlt,decide_false,cond_false,h0,false_and,if_false]
end OT
set_option linter.unusedVariables false
set_option linter.unusedSimpArgs false
namespace OT
open Go
theorem range_loop {V S O:Type} {B:(V->Option O)->V->Option O} (n:Nat) (enc:S->Int->V) (f:Nat->S->Sum (Option O) S) (fin:S->Option O) (I:Nat->S->Prop) (hn:n<=1048576)
  (hin:∀ (i:Nat),i < n->∀ (s:S) self,I i s->B self (enc s (i:Int))=match f i s with | .inl o=>o | .inr s'=>self (enc s' (w64 ((i:Int)+1))))
  (hI:∀ (i:Nat),i < n->∀ (s s':S),I i s->f i s=.inr s'->I (i+1) s')
  (hout:∀ (s:S) self,I n s->B self (enc s (n:Int))=fin s) (s:S) (h0:I 0 s) (k:Nat) (hk:n < k):rawIter B k (enc s 0)=forI (fun _ s x=>f x s) fin 0 (List.range n) s:=
 for_loopE (List.range n) enc (fun _ s x=>f x s) fin I (by rw[maxLen_val,List.length_range];omega)
  (fun i hi s self h=>by rw[List.length_range] at hi;simp only[List.getElem_range];exact hin i hi s self h)
  (fun i hi s s' h hf=>by rw[List.length_range] at hi;simp only[List.getElem_range] at hf;exact hI i hi s s' h hf)
  (fun s self h=>by rw[List.length_range] at h ⊢;exact hout s self h) s h0 k (by rw[List.length_range];exact hk)
theorem forI_app {O α β:Type} (g:α->List β) (fin:List β->O):∀ (xs:List α) (i:Nat) (s:List β),forI (fun _ s x=>.inr (s++g x)) fin i xs s=fin (s++xs.flatMap g)
 | [],_,s=>by simp[forI]
 | x::xs,i,s=>by simp only[forI];rw[forI_app g fin xs (i+1)];simp[List.append_assoc]
abbrev row0:Row:=((0:Int),(0:Int),(0:Int),([]:List UInt8),())
abbrev cell0:CellResult:=((0:Int),(0:Int),(0:Int),(0:Int),row0,())
abbrev cell5:CellResult:=((5:Int),(0:Int),(0:Int),(0:Int),row0,())
def rowB (d:List UInt8):Row:=((pb d 1:Int),(pb d 2:Int),(pb d 3:Int)*256+(pb d 4:Int),d.drop 6,())
def cellF (d:List UInt8):CellResult×Bool:=
 if d.length=3/\pb d 0=1 then (((0:Int),(1:Int),(pb d 1:Int),(pb d 2:Int),row0,()),decide (pb d 1<=11)&&decide (pb d 2<=15))
 else if d.length < 6\/pb d 0=1\/2 < pb d 0\/d.length≠6+pb d 5 then (cell0,false)
 else (((0:Int),(pb d 0:Int),(0:Int),(0:Int),rowB d,()),decide (rowF (rowB d)=0))
theorem or_bytes {a b:Nat} (ha:a < 256) (hb:b < 256):((BitVec.ofInt 64 (w64 ((a:Int)*2 ^ 8)) ||| BitVec.ofInt 64 (b:Int)).toNat:Int)=(a:Int)*256+(b:Int):=by
 have e1:w64 ((a:Int)*2 ^ 8)=((2 ^ 8*a:Nat):Int):=by rw[w64_in (by omega)];omega
 rw[e1,BitVec.toNat_or]
 have e2:(BitVec.ofInt 64 ((2 ^ 8*a:Nat):Int)).toNat=2 ^ 8*a:=by
  rw[BitVec.toNat_ofInt];omega
 have e3:(BitVec.ofInt 64 (b:Int)).toNat=b:=by
  rw[BitVec.toNat_ofInt];omega
 rw[e2,e3,<- Nat.two_pow_add_eq_or_of_lt (by omega) a]
 omega
theorem specRead1_eq (d:List UInt8) (hd:d.length<=100):spec_l1Read.sem (d,())=some ((cellF d).1,(cellF d).2,()):=by
 refine lift_eq (k:=0) fun k _=>(spec_l1Read.raw_eq k _).trans ?_
 show spec_l1Read.p _=_
 unfold spec_l1Read.p cellF
 have b0:=pb_lt d 0
 have b1:=pb_lt d 1
 have b2:=pb_lt d 2
 have b3:=pb_lt d 3
 have b4:=pb_lt d 4
 have b5:=pb_lt d 5
 by_cases h3:d.length=3
 ·have e3:decide ((d.length:Int)=3)=true:=decide_eq_true (by omega)
  have e6:decide ((d.length:Int) < 6)=true:=decide_eq_true (by omega)
  have hl6:d.length < 6:=by omega
  simp only[e3,e6,cond_true,read_pb (show 0 < d.length by omega),(pb_get (show 0 < d.length by omega)).2]
  by_cases h1:pb d 0=1
  ·have e1:decide ((pb d 0:Int)=1)=true:=decide_eq_true (by omega)
   rw[if_pos ⟨h3,h1⟩]
   simp only[e1,cond_true,read_pb (show 1 < d.length by omega),(pb_get (show 1 < d.length by omega)).2,read_pb (show 2 < d.length by omega),(pb_get (show 2 < d.length by omega)).2,wpb]
   have hpl:spec_l1Place.sem ((pb d 1:Int),(pb d 2:Int),())=some (decide (pb d 1<=11)&&decide (pb d 2<=15),()):=by
    refine lift_eq (k:=0) fun k _=>(spec_l1Place.raw_eq k _).trans ?_
    show spec_l1Place.p _=_
    unfold spec_l1Place.p
    simp only[specIn_eq,Option.bind_some]
    have g1:decide ((0:Int)<=(pb d 1:Int))=true:=decide_eq_true (by omega)
    have g2:decide ((0:Int)<=(pb d 2:Int))=true:=decide_eq_true (by omega)
    have g3:decide ((pb d 1:Int)<=11)=decide (pb d 1<=11):=by rw[decide_eq_decide];omega
    have g4:decide ((pb d 2:Int)<=15)=decide (pb d 2<=15):=by rw[decide_eq_decide];omega
    rw[g1,g2,g3,g4]
    cases decide (pb d 1<=11) <;> rfl
   simp only[hpl,Option.bind_some]
  ·have e1:decide ((pb d 0:Int)=1)=false:=decide_eq_false (by omega)
   rw[if_neg (fun h=>h1 h.2),if_pos (Or.inl hl6)]
   simp only[e1,cond_false]
 ·have e3:decide ((d.length:Int)=3)=false:=decide_eq_false (by omega)
  simp only[e3,cond_false,h3,false_and,if_false]
  by_cases h6:d.length < 6
  ·have e6:decide ((d.length:Int) < 6)=true:=decide_eq_true (by omega)
   simp only[e6,cond_true,h6,true_or,if_true]
  ·have e6:decide ((d.length:Int) < 6)=false:=decide_eq_false (by omega)
   simp only[e6,cond_false,read_pb (show 0 < d.length by omega),(pb_get (show 0 < d.length by omega)).2,h6,false_or]
   by_cases h1:pb d 0=1
   ·have e1:decide ((pb d 0:Int)=1)=true:=decide_eq_true (by omega)
    rw[if_pos (Or.inl h1)]
    simp only[e1,cond_true]
   have e1:decide ((pb d 0:Int)=1)=false:=decide_eq_false (by omega)
   simp only[e1,cond_false,h1,false_or]
   by_cases h2:2 < pb d 0
   ·have e2:decide ((2:Int) < (pb d 0:Int))=true:=decide_eq_true (by omega)
    simp only[e2,cond_true,h2,true_or,if_true]
   have e2:decide ((2:Int) < (pb d 0:Int))=false:=decide_eq_false (by omega)
   have w6:w64 ((6:Int)+(pb d 5:Int))=((6+pb d 5:Nat):Int):=by rw[w64_in (by omega)];omega
   simp only[e2,cond_false,h2,false_or,read_pb (show 5 < d.length by omega),(pb_get (show 5 < d.length by omega)).2,wpb,w6]
   by_cases h5:d.length=6+pb d 5
   rotate_left
   ·have e5:decide ((d.length:Int)=((6+pb d 5:Nat):Int))=false:=decide_eq_false (by omega)
    simp only[e5,Bool.not_false,cond_true,h5,ne_eq,not_false_eq_true,if_true]
   have e5:decide ((d.length:Int)=((6+pb d 5:Nat):Int))=true:=decide_eq_true (by omega)
   have h6':(0:Int)<=6/\(6:Int)<=(d.length:Int):=by omega
   have w3:w64 (w64 ((pb d 3:Int)*256)+(pb d 4:Int))=(pb d 3:Int)*256+(pb d 4:Int):=by rw[w64_in (n:=(pb d 3:Int)*256) (by omega),w64_in (by omega)]
   have ht:(d.take d.length).drop 6=d.drop 6:=by rw[List.take_length]
   have hr:spec_l1Fault.sem (rowB d,())=some (rowF (rowB d),()):=specRow_eq (rowB d) (by rw[maxLen_val];simp only[rowB,List.length_drop];omega)
   unfold rowB at hr
   rw[if_neg (fun h=>h h5)]
   simp only[e5,Bool.not_true,cond_false,read_pb (show 1 < d.length by omega),(pb_get (show 1 < d.length by omega)).2,read_pb (show 2 < d.length by omega),(pb_get (show 2 < d.length by omega)).2,
    read_pb (show 3 < d.length by omega),(pb_get (show 3 < d.length by omega)).2,read_pb (show 4 < d.length by omega),(pb_get (show 4 < d.length by omega)).2,wpb,w3,ht,hr,Option.bind_some]
   rw[if_pos (by omega)]
   rfl
theorem implUnpack_eq (d:List UInt8) (hd:d.length<=100):impl_UnpackCell.sem (d,())=some (if (cellF d).2 then (cellF d).1 else cell5,()):=by
 refine lift_eq (k:=0) fun k _=>(impl_UnpackCell.raw_eq k _).trans ?_
 show impl_UnpackCell.p _=_
 unfold impl_UnpackCell.p
 have b0:=pb_lt d 0
 have b1:=pb_lt d 1
 have b2:=pb_lt d 2
 have b3:=pb_lt d 3
 have b4:=pb_lt d 4
 have b5:=pb_lt d 5
 by_cases h3:d.length=3
 ·have e3:decide ((d.length:Int)=3)=true:=decide_eq_true (by omega)
  have e6:decide ((d.length:Int) < 6)=true:=decide_eq_true (by omega)
  have hl6:d.length < 6:=by omega
  simp only[e3,e6,cond_true,read_pb (show 0 < d.length by omega),(pb_get (show 0 < d.length by omega)).2]
  by_cases h1:pb d 0=1
  ·have e1:decide ((pb d 0:Int)=1)=true:=decide_eq_true (by omega)
   have hc:cellF d=(((0:Int),(1:Int),(pb d 1:Int),(pb d 2:Int),row0,()),decide (pb d 1<=11)&&decide (pb d 2<=15)):=by unfold cellF;rw[if_pos ⟨h3,h1⟩]
   rw[hc]
   simp only[e1,cond_true,read_pb (show 1 < d.length by omega),(pb_get (show 1 < d.length by omega)).2,read_pb (show 2 < d.length by omega),(pb_get (show 2 < d.length by omega)).2,wpb]
   by_cases c1:pb d 1<=11
   ·have d1:decide ((pb d 1:Int) < 12)=true:=decide_eq_true (by omega)
    by_cases c2:pb d 2<=15
    ·have d2:decide ((pb d 2:Int) < 16)=true:=decide_eq_true (by omega)
     simp[d1,d2,c1,c2]
    ·have d2:decide ((pb d 2:Int) < 16)=false:=decide_eq_false (by omega)
     simp[d1,d2,c1,c2]
   ·have d1:decide ((pb d 1:Int) < 12)=false:=decide_eq_false (by omega)
    simp[d1,c1]
  ·have e1:decide ((pb d 0:Int)=1)=false:=decide_eq_false (by omega)
   have hc:cellF d=(cell0,false):=by unfold cellF;rw[if_neg (fun h=>h1 h.2),if_pos (Or.inl hl6)]
   rw[hc]
   simp only[e1,cond_false,Bool.false_eq_true,if_false]
 ·have e3:decide ((d.length:Int)=3)=false:=decide_eq_false (by omega)
  simp only[e3,cond_false]
  by_cases h6:d.length < 6
  ·have e6:decide ((d.length:Int) < 6)=true:=decide_eq_true (by omega)
   have hc:cellF d=(cell0,false):=by unfold cellF;rw[if_neg (fun h=>h3 h.1),if_pos (Or.inl h6)]
   rw[hc]
   simp only[e6,cond_true,Bool.false_eq_true,if_false]
  ·have e6:decide ((d.length:Int) < 6)=false:=decide_eq_false (by omega)
   have hc:cellF d=if pb d 0=1\/2 < pb d 0\/d.length≠6+pb d 5 then (cell0,false) else (((0:Int),(pb d 0:Int),(0:Int),(0:Int),rowB d,()),decide (rowF (rowB d)=0)):=by
    unfold cellF
    rw[if_neg (fun h=>h3 h.1)]
    simp only[h6,false_or]
   have hlen:∀ i,i < 6->i < d.length:=fun i hi=>by omega
   have w6:w64 ((6:Int)+(pb d 5:Int))=((6+pb d 5:Nat):Int):=by rw[w64_in (by omega)];omega
   have h6':(0:Int)<=6/\(6:Int)<=(d.length:Int):=by omega
   have w3:w64 ((BitVec.ofInt 64 (w64 ((pb d 3:Int)*2 ^ 8)) ||| BitVec.ofInt 64 (pb d 4:Int)).toNat:Int)=(pb d 3:Int)*256+(pb d 4:Int):=by rw[or_bytes b3 b4,w64_in (by omega)]
   have ht:(d.take d.length).drop 6=d.drop 6:=by rw[List.take_length]
   have hr:impl_RowFault.sem (rowB d,())=some (rowF (rowB d),()):=implRow_eq (rowB d) (by rw[maxLen_val];simp only[rowB,List.length_drop];omega)
   unfold rowB at hr
   simp only[e6,cond_false,read_pb (show 0 < d.length by omega),(pb_get (show 0 < d.length by omega)).2,read_pb (show 5 < d.length by omega),(pb_get (show 5 < d.length by omega)).2,read_pb (show 1 < d.length by omega),(pb_get (show 1 < d.length by omega)).2,read_pb (show 2 < d.length by omega),(pb_get (show 2 < d.length by omega)).2,
    read_pb (show 3 < d.length by omega),(pb_get (show 3 < d.length by omega)).2,read_pb (show 4 < d.length by omega),(pb_get (show 4 < d.length by omega)).2,wpb,w6,h6'.2,show (0:Int)<=6 by omega,and_self,if_true,w3,ht,hr,Option.bind_some]
   have e5:decide ((d.length:Int)=((6+pb d 5:Nat):Int))=decide (d.length=6+pb d 5):=by rw[decide_eq_decide];omega
   have e0:decide ((pb d 0:Int)=0)=decide (pb d 0=0):=by rw[decide_eq_decide];omega
   have e2:decide ((pb d 0:Int)=2)=decide (pb d 0=2):=by rw[decide_eq_decide];omega
   rw[e5,e0,e2]
   have fin:∀ (c5:d.length=6+pb d 5) (c0:¬ (pb d 0=1\/2 < pb d 0\/d.length≠6+pb d 5)),(bif !decide (rowF ((pb d 1:Int),(pb d 2:Int),(pb d 3:Int)*256+(pb d 4:Int),d.drop 6,())=0) then some (cell5,()) else some (((0:Int),(pb d 0:Int),(0:Int),(0:Int),((pb d 1:Int),(pb d 2:Int),(pb d 3:Int)*256+(pb d 4:Int),d.drop 6,()),()),()))=some (if (cellF d).2 then (cellF d).1 else cell5,()):=fun c5 c0=>by
    rw[hc,if_neg c0]
    show (bif !decide (rowF (rowB d)=0) then some (cell5,()) else some (((0:Int),(pb d 0:Int),(0:Int),(0:Int),rowB d,()),()))=some (if decide (rowF (rowB d)=0)=true then ((0:Int),(pb d 0:Int),(0:Int),(0:Int),rowB d,()) else cell5,())
    cases decide (rowF (rowB d)=0) <;> rfl
   have bad:(pb d 0=1\/2 < pb d 0\/d.length≠6+pb d 5)->(some (cell5,()):Option impl_UnpackCell.Out)=some (if (cellF d).2 then (cellF d).1 else cell5,()):=fun h=>by
    rw[hc,if_pos h];rfl
   by_cases c5:d.length=6+pb d 5
   ·rw[decide_eq_true c5]
    by_cases c0:pb d 0=0
    ·rw[decide_eq_true c0]
     exact fin c5 (by omega)
    ·rw[decide_eq_false c0]
     by_cases c2:pb d 0=2
     ·rw[decide_eq_true c2]
      exact fin c5 (by omega)
     ·rw[decide_eq_false c2]
      exact bad (by omega)
   ·rw[decide_eq_false c5]
    have hb:=bad (.inr (.inr c5))
    cases decide (pb d 0=0) <;> cases decide (pb d 0=2) <;> exact hb
section
variable {p:List UInt8} (hp:PageOk p)
include hp
theorem implHas_eq (s:Nat):impl_hasSlot.sem (p,(s:Int),())=some (decide (s < pn p)&&!decide (psz p s=0),()):=by
 refine lift_eq (k:=0) fun k _=>(impl_hasSlot.raw_eq k _).trans ?_
 show impl_hasSlot.p _=_
 unfold impl_hasSlot.p
 have h0:(0:Int)<=(s:Int):=by omega
 have hn:=hp.n
 have hl:=hp.len
 simp only[h0,decide_true,cond_true,pSlots_eq hl,Option.bind_some]
 by_cases hs:s < pn p
 ·have e1:(s:Int) < (pn p:Int):=by omega
  have e2:decide ((psz p s:Int)=0)=decide (psz p s=0):=by rw[decide_eq_decide];omega
  have e3:(p[3+2*s]'(by omega)).toNat=psz p s:=(pb_get (show 3+2*s < p.length by omega)).2
  simp only[e1,hs,decide_true,cond_true,ix3 (show s < 1000 by omega),Int.natCast_nonneg,if_true,Int.toNat_natCast,read_pb (show 3+2*s < p.length by omega),e3,e2,Bool.true_and]
 ·have e1:¬ ((s:Int) < (pn p:Int)):=by omega
  simp only[e1,hs,decide_false,cond_false,Bool.false_and]
theorem specHas_eq (s:Nat):spec_l2Has.sem (p,(s:Int),())=some (decide (s < pn p)&&!decide (psz p s=0),()):=by
 refine lift_eq (k:=0) fun k _=>(spec_l2Has.raw_eq k _).trans ?_
 show spec_l2Has.p _=_
 unfold spec_l2Has.p
 have hn:=hp.n
 have hl:=hp.len
 have hw:w64 ((pn p:Int) - 1)=(pn p:Int) - 1:=w64_in (by omega)
 have h0:decide ((0:Int)<=(s:Int))=true:=decide_eq_true (by omega)
 have h1:decide ((s:Int)<=(pn p:Int) - 1)=decide (s < pn p):=by rw[decide_eq_decide];omega
 simp only[pCount_eq hl,Option.bind_some,hw,specIn_eq,h0,h1,Bool.true_and]
 by_cases hs:s < pn p
 ·have e2:decide ((0:Int) < (psz p s:Int))=!decide (psz p s=0):=by
   by_cases hz:psz p s=0
   ·simp[hz]
   ·have:(0:Int) < (psz p s:Int):=by omega
    rw[decide_eq_true this,decide_eq_false hz];rfl
  simp only[hs,decide_true,cond_true,pSize_eq hl (show s < 16 by omega),Option.bind_some,e2,Bool.true_and]
 ·simp only[hs,decide_false,cond_false,Bool.false_and]
theorem cell_in {s:Nat} (hs:s < pn p):pat p s+psz p s<=64:=by
 by_cases hz:psz p s=0
 ·have:=hp.zero s hs hz;omega
 ·exact (hp.slot s hs hz).2
theorem implCellAt_eq {s:Nat} (hs:s < pn p):impl_cellAt.sem (p,(s:Int),())=some (cellP p s,()):=by
 refine lift_eq (k:=0) fun k _=>(impl_cellAt.raw_eq k _).trans ?_
 show impl_cellAt.p _=_
 unfold impl_cellAt.p cellP
 have hn:=hp.n
 have hl:=hp.len
 have hc:=cell_in hp hs
 have hw:w64 ((pat p s:Int)+(psz p s:Int))=((pat p s+psz p s:Nat):Int):=by rw[w64_in (by omega)];omega
 have hb:(0:Int)<=(pat p s:Int)/\(pat p s:Int)<=((pat p s+psz p s:Nat):Int)/\((pat p s+psz p s:Nat):Int)<=(p.length:Int):=by omega
 simp only[pSpot_eq hl (show s < 16 by omega),Option.bind_some,hw]
 rw[if_pos hb]
 simp only[Int.toNat_natCast,List.drop_take]
 rw[show pat p s+psz p s - pat p s=psz p s by omega]
theorem specCellAt_eq {s:Nat} (hs:s < pn p):spec_l2Cell.sem (p,(s:Int),())=some (cellP p s,()):=by
 refine lift_eq (k:=0) fun k _=>(spec_l2Cell.raw_eq k _).trans ?_
 show spec_l2Cell.p _=_
 unfold spec_l2Cell.p cellP
 have hn:=hp.n
 have hl:=hp.len
 have hc:=cell_in hp hs
 have hw:w64 ((pat p s:Int)+(psz p s:Int))=((pat p s+psz p s:Nat):Int):=by rw[w64_in (by omega)];omega
 have hb:(0:Int)<=(pat p s:Int)/\(pat p s:Int)<=((pat p s+psz p s:Nat):Int)/\((pat p s+psz p s:Nat):Int)<=(p.length:Int):=by omega
 simp only[pPlace_eq hl (show s < 16 by omega),pSize_eq hl (show s < 16 by omega),Option.bind_some,hw]
 rw[if_pos hb,if_pos (cap_ok (by simp only[List.length_nil,List.length_drop,List.length_take];omega))]
 simp only[Int.toNat_natCast,List.drop_take,List.nil_append]
 rw[show pat p s+psz p s - pat p s=psz p s by omega]
end
theorem cellP_small {p:List UInt8} (hp:PageOk p) {s:Nat} (hs:s < pn p):(cellP p s).length<=64:=by
 have:=cellP_len hp hs
 have:=cell_in hp hs
 omega
end OT
set_option linter.unusedVariables false
set_option linter.unusedSimpArgs false
namespace OT
open Go
def rk (x:Row):Int×Int:=(x.1,x.2.1)
theorem befB_iff (a b:Int×Int):befB a b=true↔a.1 < b.1\/(a.1=b.1/\a.2 < b.2):=by unfold befB;simp
theorem befB_trans {a b c:Int×Int} (h1:befB a b=true) (h2:befB b c=true):befB a c=true:=by
 rw[befB_iff] at *;omega
theorem befB_irr (a:Int×Int):befB a a=false:=by
 cases h:befB a a with
 | false=>rfl
 | true=>rw[befB_iff] at h;omega
theorem befB_asym {a b:Int×Int} (h:befB a b=true):befB b a=false:=by
 cases h2:befB b a with
 | false=>rfl
 | true=>rw[befB_iff] at h h2;omega
theorem befB_tri {a b:Int×Int} (h1:befB a b=false) (h2:befB b a=false):a=b:=by
 have n1:¬ (a.1 < b.1\/(a.1=b.1/\a.2 < b.2)):=fun h=>by rw[(befB_iff a b).2 h] at h1;cases h1
 have n2:¬ (b.1 < a.1\/(b.1=a.1/\b.2 < a.2)):=fun h=>by rw[(befB_iff b a).2 h] at h2;cases h2
 have e1:a.1=b.1:=by omega
 have e2:a.2=b.2:=by omega
 obtain ⟨a1,a2⟩:=a
 obtain ⟨b1,b2⟩:=b
 simp only at e1 e2
 rw[e1,e2]
def up (xs:List Row):Prop:=xs.Pairwise (fun a b=>befB (rk a) (rk b)=true)
theorem up_cons {x:Row} {xs:List Row}:up (x::xs)↔(∀ y ∈ xs,befB (rk x) (rk y)=true)/\up xs:=List.pairwise_cons
def pos:List Row->Int×Int->Nat
 | [],_=>0
 | x::xs,k=>if befB (rk x) k then pos xs k+1 else 0
theorem pos_le:∀ (xs:List Row) (k:Int×Int),pos xs k<=xs.length
 | [],_=>Nat.le_refl _
 | x::xs,k=>by simp only[pos];split <;> simp[pos_le xs k]
theorem pos_lt:∀ (xs:List Row) (k:Int×Int) (i:Nat) (h:i < xs.length),i < pos xs k->befB (rk xs[i]) k=true
 | x::xs,k,i,h,hp=>by
  simp only[pos] at hp
  split at hp
  ·rename_i hx
   cases i with
   | zero=>exact hx
   | succ i=>exact pos_lt xs k i (by simpa using h) (by omega)
  ·omega
theorem up_not:∀ (xs:List Row) (k:Int×Int) (i:Nat) (h:i < xs.length),up xs->pos xs k<=i->befB (rk xs[i]) k=false
 | x::xs,k,i,h,hu,hp=>by
  simp only[pos] at hp
  split at hp
  ·cases i with
   | zero=>omega
   | succ i=>exact up_not xs k i (by simpa using h) (up_cons.1 hu).2 (by omega)
  ·rename_i hx
   have hx:befB (rk x) k=false:=by simpa using hx
   cases i with
   | zero=>exact hx
   | succ i=>
    have hi':i < xs.length:=by simpa using h
    have hm:befB (rk x) (rk xs[i])=true:=(up_cons.1 hu).1 _ (List.getElem_mem _)
    show befB (rk xs[i]) k=false
    cases hb:befB (rk xs[i]) k with
    | false=>rfl
    | true=>rw[befB_trans hm hb] at hx;cases hx
def fnd (xs:List Row) (k:Int×Int):Bool:=match xs[pos xs k]? with
 | some x=>decide (rk x=k)
 | none=>false
theorem fnd_lt {xs:List Row} {k:Int×Int} (h:fnd xs k=true):∃ hp:pos xs k < xs.length,rk xs[pos xs k]=k:=by
 unfold fnd at h
 split at h
 ·rename_i x hx
  obtain ⟨hp,e⟩:=List.getElem?_eq_some_iff.1 hx
  subst e
  exact ⟨hp,by simpa using h⟩
 ·cases h
theorem ord_lt (a b:Row):decide ((if befB (a.1,a.2.1) (b.1,b.2.1) then (-1:Int) else if befB (b.1,b.2.1) (a.1,a.2.1) then 1 else 0) < 0)=befB (rk a) (rk b):=by
 unfold rk
 cases befB (a.1,a.2.1) (b.1,b.2.1) <;> cases befB (b.1,b.2.1) (a.1,a.2.1) <;> rfl
theorem specBefore_eq (a b:Row):spec_l1Before.sem (a,b,())=some (befB (rk a) (rk b),()):=by
 refine lift_eq (k:=0) fun k _=>(spec_l1Before.raw_eq k _).trans ?_
 show spec_l1Before.p _=_
 unfold spec_l1Before.p befB rk
 by_cases h1:a.1 < b.1 <;> by_cases h2:a.1=b.1 <;> simp[h1,h2]
theorem fnd_cons_lt {x:Row} {xs:List Row} {k:Int×Int} (h:befB (rk x) k=true):fnd (x::xs) k=fnd xs k:=by
 unfold fnd
 simp only[pos,h,if_true,List.getElem?_cons_succ]
theorem fnd_mem {xs:List Row} {k:Int×Int} (h:fnd xs k=true):∃ y ∈ xs,rk y=k:=by
 obtain ⟨hp,hk⟩:=fnd_lt h
 exact ⟨_,List.getElem_mem hp,hk⟩
theorem at_forI (k:Int×Int):∀ (xs:List Row) (j:Nat),up xs->forI (fun i (_:Unit) x=>if rk x=k then .inl ((i:Int),()) else .inr ()) (fun _=>((-1:Int),())) j xs ()=if fnd xs k then (((j+pos xs k:Nat):Int),()) else (-1,())
 | [],j,_=>by simp[forI,fnd]
 | x::xs,j,hu=>by
  have hu:=up_cons.1 hu
  simp only[forI]
  by_cases hx:rk x=k
  ·have hb:befB (rk x) k=false:=by rw[hx];exact befB_irr k
   have hf:fnd (x::xs) k=true:=by
    have hp0:pos (x::xs) k=0:=by simp only[pos,hb,Bool.false_eq_true,if_false]
    unfold fnd
    rw[hp0]
    simp[hx]
   simp[hx,hf,pos,befB_irr]
  ·simp only[hx,if_false]
   rw[at_forI k xs (j+1) hu.2]
   cases hb:befB (rk x) k with
   | true=>
    rw[fnd_cons_lt hb]
    simp only[pos,hb,if_true]
    have:j+1+pos xs k=j+(pos xs k+1):=by omega
    rw[this]
   | false=>
    have h1:fnd (x::xs) k=false:=by simp[fnd,pos,hb,hx]
    have h2:fnd xs k=false:=by
     cases h:fnd xs k with
     | false=>rfl
     | true=>
      obtain ⟨y,hy,e⟩:=fnd_mem h
      have:=hu.1 y hy
      rw[e,hb] at this;cases this
    simp[h1,h2]
def atI (xs:List Row) (k:Int×Int):Int:=if fnd xs k then (pos xs k:Int) else -1
theorem specAt_eq (xs:List Row) (t k:Int) (hu:up xs) (hl:xs.length<=2000000):spec_l6At.sem (xs,t,k,())=some (atI xs (t,k),()):=by
 refine lift_eq (k:=xs.length+1) fun f hf=>(spec_l6At.raw_eq f _).trans ?_
 have:=for_loop (B:=fun self v=>spec_l6At.B0 0 self (fun z=>spec_l6At.Q0 0 (xs,t,k,()) z) (xs,t,k,()) v) xs (fun (_:Unit) (i:Int)=>i) (fun i _ x=>if rk x=(t,k) then .inl ((i:Int),()) else .inr ()) (fun _=>((-1:Int),())) (fun _ _=>True) (by rw[maxLen_val];omega)
  (fun i hi _ self _=>by
   show spec_l6At.b0 _ _ _ _=_
   unfold spec_l6At.b0 rk
   have hlt:(i:Int) < (xs.length:Int):=by omega
   simp only[hlt,decide_true,cond_true,Int.natCast_nonneg,if_true,Int.toNat_natCast,List.getElem?_eq_getElem hi,Option.bind_some]
   by_cases h1:xs[i].1=t <;> by_cases h2:xs[i].2.1=k <;> simp[h1,h2]) (fun _ _ _ _ _ _=>trivial) (fun _ self _=>by
   show spec_l6At.b0 _ _ _ _=_
   unfold spec_l6At.b0
   simp[spec_l6At.Q0,spec_l6At.q0]) () trivial f (by omega)
 rw[at_forI (t,k) xs 0 hu] at this
 have this:spec_l6At.r0 f (xs,t,k,()) 0=_:=this
 unfold spec_l6At.p
 rw[this]
 unfold atI
 cases fnd xs (t,k) <;> simp <;> rfl
theorem pos_forI {O:Type} (k:Int×Int) (g:Nat->O) (n:Nat):∀ (xs:List Row) (j:Nat),j+xs.length=n->forI (fun i (_:Unit) x=>if befB (rk x) k then .inr () else .inl (g i)) (fun _=>g n) j xs ()=g (j+pos xs k)
 | [],j,h=>by simp[forI,pos] at *;rw[h]
 | x::xs,j,h=>by
  simp only[forI,pos]
  cases hb:befB (rk x) k with
  | true=>
   simp only[if_true]
   rw[pos_forI k g n xs (j+1) (by simp at h;omega)]
   congr 1;omega
  | false=>simp
def put1 (xs:List Row) (r:Row):List Row:=xs.take (pos xs (rk r))++[r]++xs.drop (pos xs (rk r))
theorem specPut_eq (xs:List Row) (r:Row) (hl:xs.length<=2000000):spec_l6Put.sem (xs,r,())=some (put1 xs r,()):=by
 refine lift_eq (k:=xs.length+1) fun f hf=>(spec_l6Put.raw_eq f _).trans ?_
 have hq:∀ i:Nat,i<=xs.length->spec_l6Put.Q0 0 (xs,r,()) (i:Int)=some (xs.take i++[r]++xs.drop i,()):=fun i hi=>by
  show spec_l6Put.q0 _ _=_
  unfold spec_l6Put.q0
  have hpi:0<=(i:Int)/\(i:Int)<=(xs.length:Int):=by omega
  have c1:([]:List Row).length+(List.take i xs).length<=CAP:=cap_ok (by simp;omega)
  have c2:(List.take i xs).length+[r].length<=CAP:=cap_ok (by simp;omega)
  have c3:(List.take i xs++[r]).length+(List.drop i xs).length<=CAP:=cap_ok (by simp;omega)
  simp only[hpi,and_self,if_true,Int.toNat_natCast,c1,List.drop_zero,List.nil_append,List.take_length,c2,c3]
 have:=for_loop (B:=fun self v=>spec_l6Put.B0 0 self (fun z=>spec_l6Put.Q0 0 (xs,r,()) z) (xs,r,()) v) xs (fun (_:Unit) (i:Int)=>i) (fun i _ x=>if befB (rk x) (rk r) then .inr () else .inl (xs.take i++[r]++xs.drop i,())) (fun _=>(xs.take xs.length++[r]++xs.drop xs.length,())) (fun _ _=>True) (by rw[maxLen_val];omega)
  (fun i hi _ self _=>by
   show spec_l6Put.b0 _ _ _ _=_
   unfold spec_l6Put.b0
   have hlt:(i:Int) < (xs.length:Int):=by omega
   simp only[hlt,decide_true,cond_true,Int.natCast_nonneg,if_true,Int.toNat_natCast,List.getElem?_eq_getElem hi,Option.bind_some,specBefore_eq]
   cases befB (rk xs[i]) (rk r) with
   | true=>rfl
   | false=>exact hq i (by omega)) (fun _ _ _ _ _ _=>trivial) (fun _ self _=>by
   show spec_l6Put.b0 _ _ _ _=_
   unfold spec_l6Put.b0
   have hlt:¬ (xs.length:Int) < (xs.length:Int):=by omega
   simp only[hlt,decide_false,cond_false]
   exact hq _ (Nat.le_refl _)) () trivial f (by omega)
 rw[pos_forI (rk r) (fun i=>(xs.take i++[r]++xs.drop i,())) xs.length xs 0 (by omega)] at this
 refine this.trans ?_
 simp[put1]
theorem take_bef {xs:List Row} {k:Int×Int} {x:Row} (h:x ∈ xs.take (pos xs k)):befB (rk x) k=true:=by
 obtain ⟨i,hi,e⟩:=List.mem_iff_getElem.1 h
 have hp:=pos_le xs k
 rw[List.length_take] at hi
 rw[List.getElem_take] at e
 rw[<-e]
 exact pos_lt xs k i (by omega) (by omega)
end OT
set_option linter.unusedVariables false
set_option linter.unusedSimpArgs false
namespace OT
open Go
structure Good (xs:List Row):Prop where
 up:up xs
 ok:∀ x ∈ xs,rowF x=0
end OT
set_option linter.unusedVariables false
set_option linter.unusedSimpArgs false
namespace OT
open Go
theorem forI_dup {α β O:Type} [DecidableEq β] (g:α->Option β) (bad:O) (fin:Unit->O) (p:α->α->Bool) (hp:∀ x y,p x y=true↔∃ b,g x=some b/\g y=some b) (all:List α):∀ (xs pre:List α),all=pre++xs->(pre.filterMap g).Nodup->forI (fun i _ x=>if (all.take i).any (p x) then .inl bad else .inr ()) fin pre.length xs ()=if (all.filterMap g).Nodup then fin () else bad
 | [],pre,h,hn=>by
  rw[List.append_nil] at h
  subst h
  simp only[forI,hn,if_true]
 | x::xs,pre,h,hn=>by
  have ht:all.take pre.length=pre:=by rw[h];exact List.take_left
  simp only[forI,ht]
  have hall:all.filterMap g=pre.filterMap g++([x].filterMap g++xs.filterMap g):=by rw[h,<- List.singleton_append (x:=x),List.filterMap_append,List.filterMap_append]
  cases hc:pre.any (p x) with
  | true=>
   simp only[if_true]
   obtain ⟨y,hy,hpy⟩:=List.any_eq_true.1 hc
   obtain ⟨b,h1,h2⟩:=(hp x y).1 hpy
   rw[if_neg]
   intro hnd
   rw[hall,List.nodup_append] at hnd
   exact hnd.2.2 b (List.mem_filterMap.2 ⟨y,hy,h2⟩) b (by simp[h1]) rfl
  | false=>
   simp only[Bool.false_eq_true,if_false]
   have:=forI_dup g bad fin p hp all xs (pre++[x]) (by rw[h];simp) (by
    rw[List.filterMap_append,List.nodup_append]
    refine ⟨hn,?_,fun a ha b hb e=>?_⟩
    ·cases hg:g x with
     | none=>simp[hg]
     | some b=>simp[hg]
    ·subst e
     obtain ⟨y,hy,hgy⟩:=List.mem_filterMap.1 ha
     obtain ⟨z,hz,hgz⟩:=List.mem_filterMap.1 hb
     rw[List.mem_singleton] at hz
     subst hz
     have:pre.any (p z)=true:=List.any_eq_true.2 ⟨y,hy,(hp z y).2 ⟨a,hgz,hgy⟩⟩
     rw[this] at hc;cases hc)
   rw[List.length_append] at this
   exact this
theorem forI_dup0 {α β O:Type} [DecidableEq β] (g:α->Option β) (bad:O) (fin:Unit->O) (p:α->α->Bool) (hp:∀ x y,p x y=true↔∃ b,g x=some b/\g y=some b) (xs:List α):forI (fun i _ x=>if (xs.take i).any (p x) then .inl bad else .inr ()) fin 0 xs ()=if (xs.filterMap g).Nodup then fin () else bad:=
 forI_dup g bad fin p hp xs xs [] rfl List.nodup_nil
theorem sorted_unique {α:Type} {lt:α->α->Prop} (has:∀ a b,lt a b->¬ lt b a):∀ (xs ys:List α),xs.Perm ys->xs.Pairwise lt->ys.Pairwise lt->xs=ys
 | [],ys,h,_,_=>(List.nil_perm.1 h).symm
 | x::xs,[],h,_,_=>by have:=h.length_eq;cases this
 | x::xs,y::ys,h,h1,h2=>by
  obtain ⟨a1,a2⟩:=List.pairwise_cons.1 h1
  obtain ⟨b1,b2⟩:=List.pairwise_cons.1 h2
  by_cases hxy:x=y
  ·subst hxy
   rw[sorted_unique has xs ys ((List.perm_cons x).1 h) a2 b2]
  ·have hx:x ∈ ys:=by
    have:=h.mem_iff.1 (List.mem_cons_self (a:=x) (l:=xs))
    rcases List.mem_cons.1 this with e | e
    ·exact absurd e hxy
    ·exact e
   have hy:y ∈ xs:=by
    have:=h.mem_iff.2 (List.mem_cons_self (a:=y) (l:=ys))
    rcases List.mem_cons.1 this with e | e
    ·exact absurd e.symm hxy
    ·exact e
   exact absurd (b1 x hx) (has _ _ (a1 y hy))
theorem put1_perm (xs:List Row) (r:Row):(put1 xs r).Perm (r::xs):=by
 unfold put1
 rw[List.append_assoc]
 have:=List.perm_middle (a:=r) (l₁:=xs.take (pos xs (rk r))) (l₂:=xs.drop (pos xs (rk r)))
 rw[List.take_append_drop] at this
 exact this
theorem pos_bef {xs:List Row} {k:Int×Int} {x:Row} (hu:up xs) (h:x ∈ xs.drop (pos xs k)):befB (rk x) k=false:=by
 obtain ⟨i,hi,e⟩:=List.mem_iff_getElem.1 h
 rw[List.length_drop] at hi
 rw[List.getElem_drop] at e
 rw[<-e]
 exact up_not xs k _ _ hu (by omega)
theorem up_put1 {xs:List Row} {r:Row} (hu:up xs) (hn:∀ x ∈ xs,rk x≠rk r):up (put1 xs r):=by
 unfold put1 up
 rw[List.append_assoc,List.pairwise_append]
 have hd:=hu.drop (i:=pos xs (rk r))
 refine ⟨hu.take,?_,fun a ha b hb=>?_⟩
 ·rw[List.singleton_append,List.pairwise_cons]
  refine ⟨fun b hb=>?_,hd⟩
  have h1:=pos_bef hu hb
  have h2:=hn b (List.mem_of_mem_drop hb)
  cases h3:befB (rk r) (rk b) with
  | true=>rfl
  | false=>exact absurd (befB_tri h1 h3) h2
 ·have h1:=take_bef ha
  rw[List.singleton_append] at hb
  rcases List.mem_cons.1 hb with e | e
  ·subst e;exact h1
  ·have h2:=pos_bef hu e
   have h3:=hn b (List.mem_of_mem_drop e)
   cases h4:befB (rk a) (rk b) with
   | true=>rfl
   | false=>
    cases h5:befB (rk b) (rk a) with
    | true=>rw[befB_trans h5 h1] at h2;cases h2
    | false=>
     have:=befB_tri h4 h5
     rw[this] at h1
     rw[h1] at h2;cases h2
def sortR (l:List Row):List Row:=l.foldl put1 []
theorem foldl_put1:∀ (l acc:List Row),(l.foldl put1 acc).Perm (l++acc)
 | [],acc=>List.Perm.refl _
 | r::l,acc=>by
  have h1:=foldl_put1 l (put1 acc r)
  have h2:(l++put1 acc r).Perm (l++r::acc):=(List.Perm.refl l).append (put1_perm acc r)
  exact h1.trans (h2.trans List.perm_middle)
theorem sortR_perm (l:List Row):(sortR l).Perm l:=by
 have:=foldl_put1 l []
 rw[List.append_nil] at this
 exact this
theorem foldl_up:∀ (l acc:List Row),up acc->(l.map rk++acc.map rk).Nodup->up (l.foldl put1 acc)
 | [],acc,h,_=>h
 | r::l,acc,h,hn=>by
  simp only[List.map_cons,List.cons_append,List.nodup_cons,List.mem_append,not_or] at hn
  refine foldl_up l (put1 acc r) (up_put1 h fun x hx e=>hn.1.2 (List.mem_map.2 ⟨x,hx,e⟩)) ?_
  have:(l.map rk++(put1 acc r).map rk).Perm (rk r::(l.map rk++acc.map rk)):=by
   refine ((List.Perm.refl _).append ((put1_perm acc r).map rk)).trans ?_
   rw[List.map_cons]
   exact List.perm_middle
  rw[this.nodup_iff,List.nodup_cons,List.mem_append,not_or]
  exact hn
theorem sortR_up {l:List Row} (h:(l.map rk).Nodup):up (sortR l):=foldl_up l [] List.Pairwise.nil (by simpa using h)
theorem befB_not {a b:Int×Int} (h:befB a b=true):¬ befB b a=true:=by rw[befB_asym h];exact fun h=>by cases h
theorem up_unique {xs ys:List Row} (hp:xs.Perm ys) (hx:up xs) (hy:up ys):xs=ys:=sorted_unique (fun a b h=>befB_not h) xs ys hp hx hy
theorem up_nodup {xs:List Row} (h:up xs):(xs.map rk).Nodup:=by
 unfold List.Nodup
 rw[List.pairwise_map]
 refine h.imp fun h1 e=>?_
 rw[e,befB_irr] at h1
 cases h1
end OT
set_option linter.unusedVariables false
set_option linter.unusedSimpArgs false
namespace OT
open Go
abbrev Pgs:Type:=List (List UInt8)
def goI {α β:Type} (g:Nat->α->List β):Nat->List α->List β
 | _,[]=>[]
 | i,x::xs=>g i x++goI g (i+1) xs
theorem forI_appI {O α β:Type} (g:Nat->α->List β) (fin:List β->O):∀ (xs:List α) (i:Nat) (s:List β),forI (fun i s x=>.inr (s++g i x)) fin i xs s=fin (s++goI g i xs)
 | [],_,s=>by simp[forI,goI]
 | x::xs,i,s=>by simp only[forI,goI];rw[forI_appI g fin xs (i+1)];simp[List.append_assoc]
theorem goI_len {α β:Type} {g:Nat->α->List β} {n:Nat}:∀ (xs:List α) (i:Nat),(∀ i x,x ∈ xs->(g i x).length<=n)->(goI g i xs).length<=n*xs.length
 | [],_,_=>by simp[goI]
 | x::xs,i,h=>by
  have h1:=h i x List.mem_cons_self
  have h2:=goI_len xs (i+1) fun i y hy=>h i y (List.mem_cons_of_mem _ hy)
  simp only[goI,List.length_append,List.length_cons,Nat.mul_add]
  omega
theorem goI_mem {α β:Type} {g:Nat->α->List β} {y:β}:∀ {xs:List α} {i:Nat},y ∈ goI g i xs↔∃ (j:Nat) (x:α),xs[j]?=some x/\y ∈ g (i+j) x
 | [],i=>by simp[goI]
 | x::xs,i=>by
  simp only[goI,List.mem_append,goI_mem (xs:=xs)]
  constructor
  ·rintro (h | ⟨j,z,h1,h2⟩)
   ·exact ⟨0,x,rfl,h⟩
   ·exact ⟨j+1,z,h1,by rw[show i+(j+1)=i+1+j by omega];exact h2⟩
  ·rintro ⟨j,z,h1,h2⟩
   cases j with
   | zero=>injection h1 with h1;subst h1;exact .inl h2
   | succ j=>exact .inr ⟨j,z,h1,by rw[show i+1+j=i+(j+1) by omega];exact h2⟩
def sFlag (x:L6Spot):Int:=x.2.2.1.2.1
def sTp (x:L6Spot):Int:=x.2.2.1.2.2.1
def sTs (x:L6Spot):Int:=x.2.2.1.2.2.2.1
def sRow (x:L6Spot):Row:=x.2.2.1.2.2.2.2.1
def spot1 (P:Nat) (p:List UInt8) (s:Nat):List L6Spot:=if psz p s=0 then [] else [((P:Int),(s:Int),(cellF (cellP p s)).1,())]
def spotsPg (P:Nat) (p:List UInt8):List L6Spot:=(List.range (pn p)).flatMap (spot1 P p)
def spotsF (ps:Pgs):List L6Spot:=goI spotsPg 0 ps
def cellG (ps:Pgs) (a b:Int):CellResult×Bool:=match ps[a.toNat]? with
 | some p=>if b.toNat < pn p/\psz p b.toNat≠0 then cellF (cellP p b.toNat) else (cell0,false)
 | none=>(cell0,false)
def okCell (p:List UInt8) (s:Nat):Bool:=decide (psz p s=0)||(cellF (cellP p s)).2
def pgC (p:List UInt8):Int:=if pageF p=0 then (if (List.range (pn p)).all (okCell p) then 0 else 5) else pageF p
def stubOk (ps:Pgs) (x:L6Spot):Bool:=!decide (sFlag x=1)||((cellG ps (sTp x) (sTs x)).2&&decide ((cellG ps (sTp x) (sTs x)).1.2.1=2))
def sTgt (x:L6Spot):Option (Int×Int):=if sFlag x=1 then some (sTp x,sTs x) else none
def withRow (x:L6Spot) (r:Row):L6Spot:=(x.1,x.2.1,(x.2.2.1.1,x.2.2.1.2.1,x.2.2.1.2.2.1,x.2.2.1.2.2.2.1,r,x.2.2.1.2.2.2.2.2),x.2.2.2)
def seen1 (ps:Pgs) (x:L6Spot):L6Spot:=if sFlag x=1 then withRow x (cellG ps (sTp x) (sTs x)).1.2.2.2.2.1 else x
def seenX (ps:Pgs) (x:L6Spot):List L6Spot:=if sFlag x=2 then [] else [seen1 ps x]
def seenF (ps:Pgs):List L6Spot:=(spotsF ps).flatMap (seenX ps)
def lookC (ps:Pgs):Int:=
 if (spotsF ps).all (stubOk ps) then
  if ((spotsF ps).filterMap sTgt).Nodup then (if ((seenF ps).map fun x=>rk (sRow x)).Nodup then 0 else 8) else 6
 else 4
def viewC (ps:Pgs):Int:=if 12 < ps.length then 2 else if firstF pgC ps=0 then lookC ps else firstF pgC ps
def rightP (ps:Pgs):Prop:=ps.length<=12/\∀ p ∈ ps,PageOk p
theorem pgC_ok {p:List UInt8} (h:pgC p=0):PageOk p/\∀ s,s < pn p->psz p s≠0->(cellF (cellP p s)).2=true:=by
 unfold pgC at h
 split at h
 ·rename_i h1
  split at h
  ·rename_i h2
   refine ⟨pageF_iff.1 h1,fun s hs hz=>?_⟩
   have:=List.all_eq_true.1 h2 s (List.mem_range.2 hs)
   simpa [okCell,hz] using this
  ·cases h
 ·rename_i h1;exact absurd h h1
theorem firstF_all {α:Type} {c:α->Int}:∀ {xs:List α},firstF c xs=0->∀ x ∈ xs,c x=0
 | [],_,_,hx=>by cases hx
 | y::xs,h,x,hx=>by
  simp only[firstF] at h
  split at h
  ·rename_i hy
   rcases List.mem_cons.1 hx with rfl | hx
   ·exact hy
   ·exact firstF_all h x hx
  ·rename_i hy;exact absurd h hy
theorem view_right {ps:Pgs} (h:viewC ps=0):rightP ps/\firstF pgC ps=0/\lookC ps=0:=by
 unfold viewC at h
 split at h
 ·cases h
 ·rename_i h1
  split at h
  ·rename_i h2
   exact ⟨⟨by omega,fun p hp=>(pgC_ok (firstF_all h2 p hp)).1⟩,h2,h⟩
  ·rename_i h2;exact absurd h h2
theorem spotsPg_len {p:List UInt8} (h:PageOk p) (P:Nat):(spotsPg P p).length<=16:=by
 have:∀ n,((List.range n).flatMap (spot1 P p)).length<=n:=by
  intro n
  induction n with
  | zero=>simp
  | succ n ih=>
   rw[List.range_succ,List.flatMap_append,List.length_append]
   have:(([n]:List Nat).flatMap (spot1 P p)).length<=1:=by
    simp only[List.flatMap_cons,List.flatMap_nil,List.append_nil,spot1]
    split <;> simp
   omega
 have h1:=this (pn p)
 have h2:=h.n
 unfold spotsPg;omega
theorem spots_len {ps:Pgs} (h:rightP ps):(spotsF ps).length<=192:=by
 have:=goI_len (g:=spotsPg) (n:=16) ps 0 fun i p hp=>spotsPg_len (h.2 p hp) i
 unfold spotsF;have:=h.1;omega
theorem seen_len {ps:Pgs} (h:rightP ps):(seenF ps).length<=192:=by
 have:∀ xs:List L6Spot,(xs.flatMap (seenX ps)).length<=xs.length:=by
  intro xs
  induction xs with
  | nil=>simp
  | cons x xs ih=>
   have:(seenX ps x).length<=1:=by unfold seenX;split <;> simp
   simp only[List.flatMap_cons,List.length_append,List.length_cons];omega
 have h1:=this (spotsF ps)
 have h2:=spots_len h
 unfold seenF;omega
theorem cellF_nonneg (d:List UInt8):0<=(cellF d).1.2.2.1/\0<=(cellF d).1.2.2.2.1:=by
 unfold cellF
 split
 ·exact ⟨Int.natCast_nonneg _,Int.natCast_nonneg _⟩
 ·split
  ·exact ⟨Int.le_refl _,Int.le_refl _⟩
  ·exact ⟨Int.le_refl _,Int.le_refl _⟩
theorem spot_mem {ps:Pgs} {x:L6Spot}:x ∈ spotsF ps↔∃ (P:Nat) (p:List UInt8) (s:Nat),ps[P]?=some p/\s < pn p/\psz p s≠0/\x=((P:Int),(s:Int),(cellF (cellP p s)).1,()):=by
 unfold spotsF
 rw[goI_mem]
 constructor
 ·rintro ⟨j,p,h1,h2⟩
  obtain ⟨s,h3,h4⟩:=List.mem_flatMap.1 h2
  unfold spot1 at h4
  split at h4
  ·cases h4
  ·rename_i hz
   rw[List.mem_singleton] at h4
   rw[Nat.zero_add] at h4
   exact ⟨j,p,s,h1,List.mem_range.1 h3,hz,h4⟩
 ·rintro ⟨P,p,s,h1,h2,h3,rfl⟩
  refine ⟨P,p,h1,List.mem_flatMap.2 ⟨s,List.mem_range.2 h2,?_⟩⟩
  unfold spot1
  rw[if_neg h3,Nat.zero_add]
  exact List.mem_singleton.2 rfl
theorem spot_nonneg {ps:Pgs} {x:L6Spot} (h:x ∈ spotsF ps):0<=sTp x/\0<=sTs x:=by
 obtain ⟨P,p,s,_,_,_,rfl⟩:=spot_mem.1 h
 exact cellF_nonneg _
theorem specSpots_eq (ps:Pgs) (h:rightP ps):spec_l6Spots.sem (ps,())=some (spotsF ps,()):=by
 obtain ⟨hl,hp⟩:=h
 refine lift_eq (k:=100) fun k hk=>(spec_l6Spots.raw_eq k _).trans ?_
 have inner:∀ (self:(Pgs×(List L6Spot)×Int)->Option spec_l6Spots.Out) (e0:(List L6Spot)->Option spec_l6Spots.Out) (i:Nat) (hi:i < ps.length) (s:List L6Spot),s.length<=1000->spec_l6Spots.r1 k self e0 (ps,()) ps (i:Int) (s,(0:Int))=self (ps,s++spotsPg i ps[i],w64 ((i:Int)+1)):=fun self e0 i hi s0 hs0=>by
  have hok:=hp _ (List.getElem_mem hi)
  have hn:=hok.n
  have hlen:=hok.len
  have:=range_loop (B:=fun self' v=>spec_l6Spots.B1 k self' (fun z=>spec_l6Spots.Q0 k self e0 (ps,()) ps (i:Int) z) (ps,()) ps (i:Int) v) (pn ps[i]) (fun (s:List L6Spot) (j:Int)=>(s,j)) (fun j s=>.inr (s++spot1 i ps[i] j)) (fun s=>self (ps,s,w64 ((i:Int)+1))) (fun j s=>s.length<=1000+j) (by omega)
   (fun j hj s self' hI=>by
    show spec_l6Spots.b1 _ _ _ _ _ _=_
    unfold spec_l6Spots.b1 spot1
    have hlt:(j:Int) < (pn ps[i]:Int):=by omega
    simp only[Int.natCast_nonneg,if_true,Int.toNat_natCast,List.getElem?_eq_getElem hi,Option.bind_some,pCount_eq hlen,hlt,decide_true,cond_true,pSize_eq hlen (show j < 16 by omega)]
    by_cases hz:psz ps[i] j=0
    ·have:¬ ((0:Int) < (psz ps[i] j:Int)):=by omega
     rw[decide_eq_false this]
     simp only[cond_false,hz,if_true,List.append_nil]
    ·have:((0:Int) < (psz ps[i] j:Int)):=by omega
     rw[decide_eq_true this]
     simp only[cond_true,specCellAt_eq hok hj,specRead1_eq _ (Nat.le_trans (cellP_small hok hj) (by omega)),Option.bind_some,hz,if_false]
     rw[if_pos (cap_ok (by simp only[List.length_cons,List.length_nil];omega))])
   (fun j hj s s' hI hf=>by
    injection hf with hf
    subst hf
    have:(spot1 i ps[i] j).length<=1:=by unfold spot1;split <;> simp
    rw[List.length_append];omega) (fun s self' hI=>by
    show spec_l6Spots.b1 _ _ _ _ _ _=_
    unfold spec_l6Spots.b1
    simp only[Int.natCast_nonneg,if_true,Int.toNat_natCast,List.getElem?_eq_getElem hi,Option.bind_some,pCount_eq hlen,Int.lt_irrefl,decide_false,cond_false]
    rfl) s0 (by omega) k (by omega)
  rw[forI_app (spot1 i ps[i])] at this
  exact this
 have:=for_loopE (B:=fun self v=>spec_l6Spots.B0 k self (fun z=>spec_l6Spots.Q1 k (ps,()) z) (ps,()) v) ps (fun (s:List L6Spot) (i:Int)=>(ps,s,i)) (fun i s p=>.inr (s++spotsPg i p)) (fun s=>some (s,())) (fun i s=>s.length<=16*i) (by rw[maxLen_val];omega)
  (fun i hi s self hI=>by
   show spec_l6Spots.b0 _ _ _ _ _=_
   unfold spec_l6Spots.b0
   have hlt:(i:Int) < (ps.length:Int):=by omega
   simp only[hlt,decide_true,cond_true,inner self _ i hi s (by omega)])
  (fun i hi s s' hI hf=>by
   injection hf with hf
   subst hf
   have:=spotsPg_len (hp _ (List.getElem_mem hi)) i
   rw[List.length_append];omega) (fun s self _=>by
   show spec_l6Spots.b0 _ _ _ _ _=_
   unfold spec_l6Spots.b0
   simp only[Int.lt_irrefl,decide_false,cond_false]
   rfl) [] (by simp) k (by omega)
 rw[forI_appI] at this
 exact this
theorem specCells_eq (ps:Pgs) (hl:ps.length<=12) (hp:∀ p ∈ ps,p.length<=maxLen):spec_l6Cells.sem (ps,())=some (firstF pgC ps,()):=by
 refine lift_eq (k:=100) fun k hk=>(spec_l6Cells.raw_eq k _).trans ?_
 have inner:∀ (self:(Pgs×Int)->Option spec_l6Cells.Out) (e0:Unit->Option spec_l6Cells.Out) (i:Nat) (hi:i < ps.length),PageOk ps[i]->spec_l6Cells.r1 k self e0 (ps,()) ps (i:Int) (0:Int)=if (List.range (pn ps[i])).all (okCell ps[i]) then self (ps,w64 ((i:Int)+1)) else some ((5:Int),()):=fun self e0 i hi hok=>by
  have hn:=hok.n
  have hlen:=hok.len
  have:=range_loop (B:=fun self' v=>spec_l6Cells.B1 k self' (fun z=>spec_l6Cells.Q0 k self e0 (ps,()) ps (i:Int) z) (ps,()) ps (i:Int) v) (pn ps[i]) (fun (_:Unit) (j:Int)=>j) (fun j _=>if okCell ps[i] j then .inr () else .inl (some ((5:Int),()))) (fun s=>self (ps,w64 ((i:Int)+1))) (fun _ _=>True) (by omega)
   (fun j hj s self' hI=>by
    show spec_l6Cells.b1 _ _ _ _ _ _=_
    unfold spec_l6Cells.b1 okCell
    have hlt:(j:Int) < (pn ps[i]:Int):=by omega
    simp only[Int.natCast_nonneg,if_true,Int.toNat_natCast,List.getElem?_eq_getElem hi,Option.bind_some,pCount_eq hlen,hlt,decide_true,cond_true,pSize_eq hlen (show j < 16 by omega)]
    by_cases hz:psz ps[i] j=0
    ·have:¬ ((0:Int) < (psz ps[i] j:Int)):=by omega
     rw[decide_eq_false this]
     simp only[cond_false,hz,decide_true,Bool.true_or,if_true]
    ·have:((0:Int) < (psz ps[i] j:Int)):=by omega
     rw[decide_eq_true this]
     simp only[cond_true,specCellAt_eq hok hj,specRead1_eq _ (Nat.le_trans (cellP_small hok hj) (by omega)),Option.bind_some,hz,decide_false,Bool.false_or]
     cases (cellF (cellP ps[i] j)).2 <;> rfl)
   (fun _ _ _ _ _ _=>trivial) (fun s self' hI=>by
    show spec_l6Cells.b1 _ _ _ _ _ _=_
    unfold spec_l6Cells.b1
    simp only[Int.natCast_nonneg,if_true,Int.toNat_natCast,List.getElem?_eq_getElem hi,Option.bind_some,pCount_eq hlen,Int.lt_irrefl,decide_false,cond_false]
    rfl) () trivial k (by omega)
  rw[forI_checkN] at this
  exact this
 have:=for_loopE (B:=fun self v=>spec_l6Cells.B0 k self (fun z=>spec_l6Cells.Q1 k (ps,()) z) (ps,()) v) ps (fun (_:Unit) (i:Int)=>(ps,i)) (fun i _ p=>if pgC p=0 then .inr () else .inl (some (pgC p,()))) (fun _=>some ((0:Int),())) (fun _ _=>True) (by rw[maxLen_val];omega)
  (fun i hi s self hI=>by
   show spec_l6Cells.b0 _ _ _ _ _=_
   unfold spec_l6Cells.b0 pgC
   have hlt:(i:Int) < (ps.length:Int):=by omega
   simp only[hlt,decide_true,cond_true,Int.natCast_nonneg,if_true,Int.toNat_natCast,List.getElem?_eq_getElem hi,Option.bind_some,specPage_eq _ (hp _ (List.getElem_mem hi))]
   by_cases h0:pageF ps[i]=0
   ·rw[decide_eq_true h0]
    simp only[Bool.not_true,cond_false,inner self _ i hi (pageF_iff.1 h0),h0,if_true]
    by_cases hc:(List.range (pn ps[i])).all (okCell ps[i])=true
    ·simp only[hc,if_true]
    ·simp only[hc,Bool.false_eq_true,if_false]
     rfl
   ·rw[decide_eq_false h0]
    simp only[Bool.not_false,cond_true,h0,if_false])
  (fun _ _ _ _ _ _=>trivial) (fun s self _=>by
   show spec_l6Cells.b0 _ _ _ _ _=_
   unfold spec_l6Cells.b0
   simp only[Int.lt_irrefl,decide_false,cond_false]
   rfl) () trivial k (by omega)
 rw[forI_first pgC (fun c=>some (c,())) (fun _=>some ((0:Int),()))] at this
 refine Eq.trans this ?_
 split
 ·rename_i h;rw[h]
 ·rfl
theorem specCell6_eq (ps:Pgs) (h:rightP ps) (a b:Int) (ha:0<=a) (hb:0<=b):spec_l6Cell.sem (ps,a,b,())=some ((cellG ps a b).1,(cellG ps a b).2,()):=by
 obtain ⟨hl,hp⟩:=h
 obtain ⟨a,rfl⟩:=Int.eq_ofNat_of_zero_le ha
 obtain ⟨b,rfl⟩:=Int.eq_ofNat_of_zero_le hb
 refine lift_eq (k:=0) fun k hk=>(spec_l6Cell.raw_eq k _).trans ?_
 show spec_l6Cell.p _=_
 unfold spec_l6Cell.p cellG
 have hw:w64 ((ps.length:Int) - 1)=(ps.length:Int) - 1:=w64_in (by omega)
 have h0:decide ((0:Int)<=(a:Int))=true:=decide_eq_true (by omega)
 have h1:decide ((a:Int)<=(ps.length:Int) - 1)=decide (a < ps.length):=by rw[decide_eq_decide];omega
 simp only[specIn_eq,hw,h0,h1,Option.bind_some,Bool.true_and,Int.toNat_natCast]
 by_cases hal:a < ps.length
 rotate_left
 ·rw[decide_eq_false hal,List.getElem?_eq_none (by omega)]
  rfl
 rw[decide_eq_true hal]
 have hok:=hp _ (List.getElem_mem hal)
 simp only[Bool.not_true,cond_false,Int.natCast_nonneg,if_true,List.getElem?_eq_getElem hal,Option.bind_some,specHas_eq hok]
 by_cases hc:b < pn ps[a]/\psz ps[a] b≠0
 ·rw[decide_eq_true hc.1,decide_eq_false hc.2,if_pos hc]
  simp only[Bool.not_false,Bool.and_self,Bool.not_true,cond_false,specCellAt_eq hok hc.1,specRead1_eq _ (Nat.le_trans (cellP_small hok hc.1) (by omega)),Option.bind_some]
 ·rw[if_neg hc]
  have:(decide (b < pn ps[a])&&!decide (psz ps[a] b=0))=false:=by
   rw[Bool.and_eq_false_iff]
   by_cases h2:b < pn ps[a]
   ·right
    have:psz ps[a] b=0:=by
     by_cases h3:psz ps[a] b=0
     ·exact h3
     ·exact absurd ⟨h2,h3⟩ hc
    rw[decide_eq_true this];rfl
   ·left;exact decide_eq_false h2
  rw[this]
  rfl
theorem specStubs_eq (ps:Pgs) (h:rightP ps):spec_l6Stubs.sem (spotsF ps,ps,())=some (if (spotsF ps).all (stubOk ps) then (if ((spotsF ps).filterMap sTgt).Nodup then 0 else 6) else 4,()):=by
 have hsl:=spots_len h
 have hnn:∀ x ∈ spotsF ps,0<=sTp x/\0<=sTs x:=fun x hx=>spot_nonneg hx
 generalize spotsF ps=xs at hsl hnn ⊢
 refine lift_eq (k:=300) fun k hk=>(spec_l6Stubs.raw_eq k _).trans ?_
 have inner:∀ (self:(List L6Spot×Int)->Option spec_l6Stubs.Out) (e2:Unit->Option spec_l6Stubs.Out) (i:Nat) (hi:i < xs.length),spec_l6Stubs.r2 k self e2 (xs,ps,()) xs (i:Int) (0:Int)=if (xs.take i).any (fun y=>decide (sFlag xs[i]=1)&&(decide (sFlag y=1)&&(decide (sTp xs[i]=sTp y)&&decide (sTs xs[i]=sTs y)))) then some ((6:Int),()) else self (xs,w64 ((i:Int)+1)):=fun self e2 i hi=>by
  have hti:(xs.take i).length=i:=by rw[List.length_take];omega
  have:=for_loopE (B:=fun self' v=>spec_l6Stubs.B2 k self' (fun z=>spec_l6Stubs.Q1 k self e2 (xs,ps,()) xs (i:Int) z) (xs,ps,()) xs (i:Int) v) (xs.take i) (fun (_:Unit) (j:Int)=>j) (fun _ _ y=>if decide (sFlag xs[i]=1)&&(decide (sFlag y=1)&&(decide (sTp xs[i]=sTp y)&&decide (sTs xs[i]=sTs y))) then .inl (some ((6:Int),())) else .inr ()) (fun _=>self (xs,w64 ((i:Int)+1))) (fun _ _=>True) (by rw[maxLen_val];omega)
   (fun j hj s self' _=>by
    have hji:j < i:=by omega
    have hj2:j < xs.length:=by omega
    show spec_l6Stubs.b2 _ _ _ _ _ _=_
    unfold spec_l6Stubs.b2
    have hlt:(j:Int) < (i:Int):=by omega
    have hg:(xs.take i)[j]=xs[j]:=List.getElem_take
    rw[hg]
    simp only[hlt,decide_true,cond_true,Int.natCast_nonneg,if_true,Int.toNat_natCast,List.getElem?_eq_getElem hi,List.getElem?_eq_getElem hj2,Option.bind_some]
    show (bif decide (sFlag xs[i]=1) then bif decide (sFlag xs[j]=1) then bif decide (sTp xs[i]=sTp xs[j]) then bif decide (sTs xs[i]=sTs xs[j]) then _ else _ else _ else _ else _)=_
    cases decide (sFlag xs[i]=1) <;> cases decide (sFlag xs[j]=1) <;> cases decide (sTp xs[i]=sTp xs[j]) <;> cases decide (sTs xs[i]=sTs xs[j]) <;> rfl)
   (fun _ _ _ _ _ _=>trivial) (fun s self' _=>by
    rw[hti]
    show spec_l6Stubs.b2 _ _ _ _ _ _=_
    unfold spec_l6Stubs.b2
    simp only[Int.lt_irrefl,decide_false,cond_false]
    rfl) () trivial k (by omega)
  rw[forI_any] at this
  exact this
 have second:spec_l6Stubs.r1 k (xs,ps,()) (xs,(0:Int))=if (xs.filterMap sTgt).Nodup then some ((0:Int),()) else some ((6:Int),()):=by
  have:=for_loopE (B:=fun self v=>spec_l6Stubs.B1 k self (fun z=>spec_l6Stubs.Q2 k (xs,ps,()) z) (xs,ps,()) v) xs (fun (_:Unit) (i:Int)=>(xs,i)) (fun i _ x=>if (xs.take i).any (fun y=>decide (sFlag x=1)&&(decide (sFlag y=1)&&(decide (sTp x=sTp y)&&decide (sTs x=sTs y)))) then .inl (some ((6:Int),())) else .inr ()) (fun _=>some ((0:Int),())) (fun _ _=>True) (by rw[maxLen_val];omega)
   (fun i hi s self _=>by
    show spec_l6Stubs.b1 _ _ _ _ _=_
    unfold spec_l6Stubs.b1
    have hlt:(i:Int) < (xs.length:Int):=by omega
    simp only[hlt,decide_true,cond_true,inner self _ i hi]
    split <;> rfl)
   (fun _ _ _ _ _ _=>trivial) (fun s self _=>by
    show spec_l6Stubs.b1 _ _ _ _ _=_
    unfold spec_l6Stubs.b1
    simp only[Int.lt_irrefl,decide_false,cond_false]
    rfl) () trivial k (by omega)
  rw[forI_dup0 sTgt (some ((6:Int),())) (fun _=>some ((0:Int),())) (fun x y=>decide (sFlag x=1)&&(decide (sFlag y=1)&&(decide (sTp x=sTp y)&&decide (sTs x=sTs y)))) (fun x y=>?_) xs] at this
  ·exact this
  ·unfold sTgt
   simp only[Bool.and_eq_true,decide_eq_true_eq]
   constructor
   ·rintro ⟨h1,h2,h3,h4⟩
    exact ⟨(sTp x,sTs x),by rw[if_pos h1],by rw[if_pos h2,h3,h4]⟩
   ·rintro ⟨b,h1,h2⟩
    by_cases c1:sFlag x=1
    ·by_cases c2:sFlag y=1
     ·rw[if_pos c1] at h1
      rw[if_pos c2] at h2
      injection h1 with h1
      injection h2 with h2
      rw[<-h2] at h1
      injection h1 with h3 h4
      exact ⟨c1,c2,h3,h4⟩
     ·rw[if_neg c2] at h2;cases h2
    ·rw[if_neg c1] at h1;cases h1
 have:=for_loopE (B:=fun self v=>spec_l6Stubs.B0 k self (fun z=>spec_l6Stubs.Q0 k (xs,ps,()) z) (xs,ps,()) v) xs (fun (_:Unit) (i:Int)=>i) (fun i _ x=>if stubOk ps x then .inr () else .inl (some ((4:Int),()))) (fun _=>spec_l6Stubs.r1 k (xs,ps,()) (xs,(0:Int))) (fun _ _=>True) (by rw[maxLen_val];omega)
  (fun i hi s self _=>by
   show spec_l6Stubs.b0 _ _ _ _=_
   unfold spec_l6Stubs.b0 stubOk
   have hlt:(i:Int) < (xs.length:Int):=by omega
   obtain ⟨g1,g2⟩:=hnn _ (List.getElem_mem hi)
   have hcc:spec_l6Cell.sem (ps,(xs[i]).2.2.1.2.2.1,(xs[i]).2.2.1.2.2.2.1,())=some ((cellG ps (sTp xs[i]) (sTs xs[i])).1,(cellG ps (sTp xs[i]) (sTs xs[i])).2,()):=specCell6_eq ps h _ _ g1 g2
   simp only[hlt,decide_true,cond_true,Int.natCast_nonneg,if_true,Int.toNat_natCast,List.getElem?_eq_getElem hi,Option.bind_some,hcc]
   show (bif !decide (sFlag xs[i]=1) then _ else _)=_
   cases decide (sFlag xs[i]=1) <;> cases (cellG ps (sTp xs[i]) (sTs xs[i])).2 <;> cases decide ((cellG ps (sTp xs[i]) (sTs xs[i])).1.2.1=2) <;> rfl)
  (fun _ _ _ _ _ _=>trivial) (fun s self _=>by
   show spec_l6Stubs.b0 _ _ _ _=_
   unfold spec_l6Stubs.b0
   simp only[Int.lt_irrefl,decide_false,cond_false]
   rfl) () trivial k (by omega)
 rw[forI_check (stubOk ps) (some ((4:Int),())) (fun _=>spec_l6Stubs.r1 k (xs,ps,()) (xs,(0:Int)))] at this
 refine Eq.trans this ?_
 rw[second]
 split
 ·split <;> rfl
 ·rfl
theorem specSeen_eq (ps:Pgs) (h:rightP ps):spec_l6Seen.sem (ps,())=some (seenF ps,()):=by
 refine lift_eq (k:=300) fun k hk=>(spec_l6Seen.raw_eq k _).trans ?_
 unfold spec_l6Seen.p
 rw[specSpots_eq ps h]
 simp only[Option.bind_some]
 have hsl:=spots_len h
 have hnn:∀ x ∈ spotsF ps,0<=sTp x/\0<=sTs x:=fun x hx=>spot_nonneg hx
 unfold seenF
 generalize spotsF ps=xs at hsl hnn ⊢
 have:=for_loopE (B:=fun self v=>spec_l6Seen.B0 k self (fun z=>spec_l6Seen.Q0 k (ps,()) xs z) (ps,()) xs v) xs (fun (s:List L6Spot) (i:Int)=>(s,i)) (fun i s x=>.inr (s++seenX ps x)) (fun s=>some (s,())) (fun i s=>s.length<=i) (by rw[maxLen_val];omega)
  (fun i hi s self hI=>by
   show spec_l6Seen.b0 _ _ _ _ _=_
   unfold spec_l6Seen.b0 seenX
   have hlt:(i:Int) < (xs.length:Int):=by omega
   obtain ⟨g1,g2⟩:=hnn _ (List.getElem_mem hi)
   have hcc:spec_l6Cell.sem (ps,(xs[i]).2.2.1.2.2.1,(xs[i]).2.2.1.2.2.2.1,())=some ((cellG ps (sTp xs[i]) (sTs xs[i])).1,(cellG ps (sTp xs[i]) (sTs xs[i])).2,()):=specCell6_eq ps h _ _ g1 g2
   have hcap:∀ y:L6Spot,s.length+[y].length<=CAP:=fun y=>cap_ok (by simp only[List.length_cons,List.length_nil];omega)
   simp only[hlt,decide_true,cond_true,Int.natCast_nonneg,and_self,if_true,Int.toNat_natCast,List.getElem?_eq_getElem hi,Option.bind_some,hcc,hcap]
   show (bif decide (sFlag xs[i]=2) then _ else bif decide (sFlag xs[i]=1) then _ else _)=_
   unfold seen1
   by_cases c2:sFlag xs[i]=2
   ·simp only[c2,decide_true,cond_true,if_true,List.append_nil]
   ·by_cases c1:sFlag xs[i]=1
    ·simp only[c1,c2,decide_true,decide_false,cond_true,cond_false,if_true,if_false]
     rfl
    ·simp only[c1,c2,decide_false,cond_false,if_false])
  (fun i hi s s' hI hf=>by
   injection hf with hf
   subst hf
   have:(seenX ps xs[i]).length<=1:=by unfold seenX;split <;> simp
   rw[List.length_append];omega) (fun s self _=>by
   show spec_l6Seen.b0 _ _ _ _ _=_
   unfold spec_l6Seen.b0
   simp only[Int.lt_irrefl,decide_false,cond_false]
   rfl) [] (by simp) k (by omega)
 rw[forI_app (seenX ps)] at this
 exact this
def sKey (x:L6Spot):Option (Int×Int):=some (rk (sRow x))
theorem specView_eq (ps:Pgs) (hp:∀ p ∈ ps,p.length<=maxLen):spec_l6Fault.sem (ps,())=some (viewC ps,()):=by
 refine lift_eq (k:=300) fun k hk=>(spec_l6Fault.raw_eq k _).trans ?_
 unfold spec_l6Fault.p viewC
 by_cases hl:12 < ps.length
 ·have:(12:Int) < (ps.length:Int):=by omega
  simp only[this,decide_true,cond_true,hl,if_true]
 have hl':¬ ((12:Int) < (ps.length:Int)):=by omega
 simp only[hl',decide_false,cond_false,hl,if_false,specCells_eq ps (by omega) hp,Option.bind_some]
 by_cases hc:firstF pgC ps=0
 rotate_left
 ·simp only[hc,decide_false,Bool.not_false,cond_true,if_false]
 have h:rightP ps:=⟨by omega,fun p hp=>(pgC_ok (firstF_all hc p hp)).1⟩
 simp only[hc,decide_true,Bool.not_true,cond_false,if_true,specSpots_eq ps h,specStubs_eq ps h,specSeen_eq ps h,Option.bind_some]
 unfold lookC
 by_cases h1:(spotsF ps).all (stubOk ps)=true
 rotate_left
 ·simp only[h1,Bool.false_eq_true,if_false]
  rfl
 by_cases h2:((spotsF ps).filterMap sTgt).Nodup
 rotate_left
 ·simp only[h1,h2,if_true,if_false]
  rfl
 simp only[h1,h2,if_true,decide_true,Bool.not_true,cond_false]
 have hsl:=seen_len h
 generalize seenF ps=xs at hsl ⊢
 have inner:∀ (self:(List L6Spot×Int)->Option spec_l6Fault.Out) (e0:Unit->Option spec_l6Fault.Out) (i:Nat) (hi:i < xs.length),spec_l6Fault.r1 k self e0 (ps,()) xs (i:Int) (0:Int)=if (xs.take i).any (fun y=>decide ((sRow xs[i]).1=(sRow y).1)&&decide ((sRow xs[i]).2.1=(sRow y).2.1)) then some ((8:Int),()) else self (xs,w64 ((i:Int)+1)):=fun self e0 i hi=>by
  have hti:(xs.take i).length=i:=by rw[List.length_take];omega
  have:=for_loopE (B:=fun self' v=>spec_l6Fault.B1 k self' (fun z=>spec_l6Fault.Q0 k self e0 (ps,()) xs (i:Int) z) (ps,()) xs (i:Int) v) (xs.take i) (fun (_:Unit) (j:Int)=>j) (fun _ _ y=>if decide ((sRow xs[i]).1=(sRow y).1)&&decide ((sRow xs[i]).2.1=(sRow y).2.1) then .inl (some ((8:Int),())) else .inr ()) (fun _=>self (xs,w64 ((i:Int)+1))) (fun _ _=>True) (by rw[maxLen_val];omega)
   (fun j hj s self' _=>by
    have hji:j < i:=by omega
    have hj2:j < xs.length:=by omega
    show spec_l6Fault.b1 _ _ _ _ _ _=_
    unfold spec_l6Fault.b1
    have hlt:(j:Int) < (i:Int):=by omega
    have hlt1:(i:Int) < (xs.length:Int):=by omega
    have hlt2:(j:Int) < (xs.length:Int):=by omega
    have hg:(xs.take i)[j]=xs[j]:=List.getElem_take
    rw[hg]
    simp only[hlt,hlt1,hlt2,decide_true,cond_true,Int.natCast_nonneg,and_self,if_true,Int.toNat_natCast,List.getElem?_eq_getElem hi,List.getElem?_eq_getElem hj2,Option.bind_some]
    show (bif decide ((sRow xs[i]).1=(sRow xs[j]).1) then bif decide ((sRow xs[i]).2.1=(sRow xs[j]).2.1) then _ else _ else _)=_
    cases decide ((sRow xs[i]).1=(sRow xs[j]).1) <;> cases decide ((sRow xs[i]).2.1=(sRow xs[j]).2.1) <;> rfl)
   (fun _ _ _ _ _ _=>trivial) (fun s self' _=>by
    rw[hti]
    show spec_l6Fault.b1 _ _ _ _ _ _=_
    unfold spec_l6Fault.b1
    simp only[Int.lt_irrefl,decide_false,cond_false]
    rfl) () trivial k (by omega)
  rw[forI_any] at this
  exact this
 have:=for_loopE (B:=fun self v=>spec_l6Fault.B0 k self (fun z=>spec_l6Fault.Q1 k (ps,()) z) (ps,()) v) xs (fun (_:Unit) (i:Int)=>(xs,i)) (fun i _ x=>if (xs.take i).any (fun y=>decide ((sRow x).1=(sRow y).1)&&decide ((sRow x).2.1=(sRow y).2.1)) then .inl (some ((8:Int),())) else .inr ()) (fun _=>some ((0:Int),())) (fun _ _=>True) (by rw[maxLen_val];omega)
  (fun i hi s self _=>by
   show spec_l6Fault.b0 _ _ _ _ _=_
   unfold spec_l6Fault.b0
   have hlt:(i:Int) < (xs.length:Int):=by omega
   simp only[hlt,decide_true,cond_true,inner self _ i hi]
   split <;> rfl)
  (fun _ _ _ _ _ _=>trivial) (fun s self _=>by
   show spec_l6Fault.b0 _ _ _ _ _=_
   unfold spec_l6Fault.b0
   simp only[Int.lt_irrefl,decide_false,cond_false]
   rfl) () trivial k (by omega)
 rw[forI_dup0 sKey (some ((8:Int),())) (fun _=>some ((0:Int),())) (fun x y=>decide ((sRow x).1=(sRow y).1)&&decide ((sRow x).2.1=(sRow y).2.1)) (fun x y=>?_) xs] at this
 ·refine Eq.trans this ?_
  have:xs.filterMap sKey=xs.map fun x=>rk (sRow x):=by
   unfold sKey
   rw[<-List.filterMap_eq_map]
   rfl
  rw[this]
  split <;> rfl
 ·unfold sKey rk
  simp only[Bool.and_eq_true,decide_eq_true_eq]
  constructor
  ·rintro ⟨h1,h2⟩;exact ⟨_,rfl,by rw[h1,h2]⟩
  ·rintro ⟨b,h1,h2⟩
   injection h1 with h1
   injection h2 with h2
   rw[<-h2] at h1
   injection h1 with h3 h4
   exact ⟨h3,h4⟩
end OT
set_option linter.unusedVariables false
set_option linter.unusedSimpArgs false
namespace OT
open Go Go.Sort
abbrev tK2:Ty:=.arr 2 i64
theorem key2_eq (a b c d:Int):Ty.eq tK2 [a,b] [c,d]=(decide (a=c)&&decide (b=d)):=by
 show ([(a,c),(b,d)]:List (Int×Int)).all (fun p=>Ty.eq i64 p.1 p.2)=_
 simp only[List.all_cons,List.all_nil,Bool.and_true]
 rfl
theorem key2_lay (a b:Int):((List.replicate 2 (0:Int)).set 0 a).set 1 b=[a,b]:=rfl
theorem mapPut_fresh {α:Type} (k:Ty) (m:List (k.den×α)) (x:k.den) (y:α) (h:∀ e ∈ m,k.eq x e.1=false):mapPut k m x y=m++[(x,y)]:=by
 have:m.findIdx? (fun e=>k.eq x e.1)=none:=by
  rw[List.findIdx?_eq_none_iff]
  exact h
 unfold mapPut
 rw[this]
def rowsOf1 (x:L6Spot):List Seen:=if sFlag x=0 then [(sRow x,x.1,x.2.1,false,x.1,x.2.1,())] else []
def stubOf1 (x:L6Spot):List Seen:=if sFlag x=1 then [(row0,x.1,x.2.1,true,sTp x,sTs x,())] else []
def movOf1 (x:L6Spot):List (List Int×Row):=if sFlag x=2 then [([x.1,x.2.1],sRow x)] else []
theorem cellF_flag (d:List UInt8):(cellF d).2=true->(cellF d).1.1=0/\((cellF d).1.2.1=0\/(cellF d).1.2.1=1\/(cellF d).1.2.1=2):=by
 unfold cellF
 split
 ·intro _;exact ⟨rfl,.inr (.inl rfl)⟩
 ·split
  ·intro h;cases h
  ·rename_i h
   intro _
   refine ⟨rfl,?_⟩
   show ((pb d 0:Int)=0\/(pb d 0:Int)=1\/(pb d 0:Int)=2)
   omega
def cellsOk (ps:Pgs):Prop:=rightP ps/\∀ p ∈ ps,∀ s,s < pn p->psz p s≠0->(cellF (cellP p s)).2=true
theorem cells_of {ps:Pgs} (hl:ps.length<=12) (h:firstF pgC ps=0):cellsOk ps:=
 ⟨⟨hl,fun p hp=>(pgC_ok (firstF_all h p hp)).1⟩,fun p hp=>(pgC_ok (firstF_all h p hp)).2⟩
theorem spot_flag {ps:Pgs} (h:cellsOk ps) {x:L6Spot} (hx:x ∈ spotsF ps):sFlag x=0\/sFlag x=1\/sFlag x=2:=by
 obtain ⟨P,p,s,h1,h2,h3,rfl⟩:=spot_mem.1 hx
 exact (cellF_flag _ (h.2 p (List.mem_of_getElem? h1) s h2 h3)).2
theorem gather_len (S:List L6Spot):(S.flatMap rowsOf1).length<=S.length/\(S.flatMap stubOf1).length<=S.length:=by
 induction S with
 | nil=>exact ⟨Nat.le_refl _,Nat.le_refl _⟩
 | cons x S ih=>
  have h1:(rowsOf1 x).length<=1:=by unfold rowsOf1;split <;> simp
  have h2:(stubOf1 x).length<=1:=by unfold stubOf1;split <;> simp
  simp only[List.flatMap_cons,List.length_append,List.length_cons]
  omega
theorem mov_get {ps:Pgs} (h:cellsOk ps) (a b:Int) (ha:0<=a) (hb:0<=b):mapGet tK2 ((spotsF ps).flatMap movOf1) [a,b]=if (cellG ps a b).2&&decide ((cellG ps a b).1.2.1=2) then some (cellG ps a b).1.2.2.2.2.1 else none:=by
 obtain ⟨a,rfl⟩:=Int.eq_ofNat_of_zero_le ha
 obtain ⟨b,rfl⟩:=Int.eq_ofNat_of_zero_le hb
 unfold mapGet
 have at_:∀ x ∈ spotsF ps,x.1=(a:Int)->x.2.1=(b:Int)->cellG ps (a:Int) (b:Int)=(x.2.2.1,true):=fun x hx e1 e2=>by
  obtain ⟨P,p,s,h1,h2,h3,rfl⟩:=spot_mem.1 hx
  have e1:(P:Int)=(a:Int):=e1
  have e2:(s:Int)=(b:Int):=e2
  have e1:P=a:=by omega
  have e2:s=b:=by omega
  subst e1;subst e2
  unfold cellG
  simp only[Int.toNat_natCast,h1]
  rw[if_pos ⟨h2,h3⟩]
  have:=h.2 p (List.mem_of_getElem? h1) s h2 h3
  rw[<-this]
 cases hf:((spotsF ps).flatMap movOf1).find? (fun e=>Ty.eq tK2 [(a:Int),(b:Int)] e.1) with
 | some e=>
  have hm:=List.mem_of_find?_eq_some hf
  have hp:=List.find?_some hf
  obtain ⟨x,hx,hxe⟩:=List.mem_flatMap.1 hm
  unfold movOf1 at hxe
  split at hxe
  ·rename_i h2
   rw[List.mem_singleton] at hxe
   subst hxe
   rw[key2_eq,Bool.and_eq_true,decide_eq_true_eq,decide_eq_true_eq] at hp
   have hg:=at_ x hx hp.1.symm hp.2.symm
   rw[hg]
   have:(x.2.2.1).2.1=2:=h2
   simp only[this,decide_true,Bool.and_self,if_true,Option.map_some]
   rfl
  ·cases hxe
 | none=>
  rw[if_neg]
  ·rfl
  ·intro hc
   rw[Bool.and_eq_true,decide_eq_true_eq] at hc
   obtain ⟨c1,c2⟩:=hc
   have:∃ x ∈ spotsF ps,x.1=(a:Int)/\x.2.1=(b:Int)/\sFlag x=2:=by
    unfold cellG at c1 c2
    simp only[Int.toNat_natCast] at c1 c2
    cases hpa:ps[a]? with
    | none=>rw[hpa] at c1;cases c1
    | some p=>
     rw[hpa] at c1 c2
     simp only at c1 c2
     by_cases hc:b < pn p/\psz p b≠0
     ·rw[if_pos hc] at c2
      exact ⟨_,spot_mem.2 ⟨a,p,b,hpa,hc.1,hc.2,rfl⟩,rfl,rfl,c2⟩
     ·rw[if_neg hc] at c1;cases c1
   obtain ⟨x,hx,e1,e2,e3⟩:=this
   have hm:([x.1,x.2.1],sRow x) ∈ (spotsF ps).flatMap movOf1:=List.mem_flatMap.2 ⟨x,hx,by unfold movOf1;rw[if_pos e3];exact List.mem_singleton.2 rfl⟩
   have:=List.find?_eq_none.1 hf _ hm
   rw[key2_eq,e1,e2] at this
   simp at this
def convS (x:L6Spot):Seen:=(sRow x,x.1,x.2.1,decide (sFlag x=1),(if sFlag x=1 then sTp x else x.1),(if sFlag x=1 then sTs x else x.2.1),())
def fillS (ps:Pgs) (y:Seen):Seen:=(orZ (mapGet tK2 ((spotsF ps).flatMap movOf1) [y.2.2.2.2.1,y.2.2.2.2.2.1]) row0,y.2)
def listV (ps:Pgs):List Seen:=(spotsF ps).flatMap rowsOf1++((spotsF ps).flatMap stubOf1).map (fillS ps)
theorem listV_perm {ps:Pgs} (h:cellsOk ps) (hs:(spotsF ps).all (stubOk ps)=true):(listV ps).Perm ((seenF ps).map convS):=by
 unfold listV seenF
 have hall:=List.all_eq_true.1 hs
 have hfl:∀ x ∈ spotsF ps,sFlag x=0\/sFlag x=1\/sFlag x=2:=fun x hx=>spot_flag h hx
 have hnn:∀ x ∈ spotsF ps,0<=sTp x/\0<=sTs x:=fun x hx=>spot_nonneg hx
 have key:∀ S:List L6Spot,(∀ x ∈ S,x ∈ spotsF ps)->(S.flatMap rowsOf1++(S.flatMap stubOf1).map (fillS ps)).Perm ((S.flatMap (seenX ps)).map convS):=by
  intro S
  induction S with
  | nil=>intro _;exact List.Perm.refl _
  | cons x S ih=>
   intro hS
   have ih:=ih fun y hy=>hS y (List.mem_cons_of_mem _ hy)
   have hx:=hS x List.mem_cons_self
   simp only[List.flatMap_cons,List.map_append]
   rcases hfl x hx with h0 | h1 | h2
   ·have e1:rowsOf1 x=[convS (seen1 ps x)]:=by
     unfold rowsOf1 convS seen1
     have n1:¬ sFlag x=1:=by omega
     rw[if_pos h0,if_neg n1,if_neg n1,if_neg n1,decide_eq_false n1]
    have e2:stubOf1 x=[]:=by unfold stubOf1;rw[if_neg (by omega)]
    have e3:seenX ps x=[seen1 ps x]:=by unfold seenX;rw[if_neg (by omega)]
    rw[e1,e2,e3]
    simp only[List.map_nil,List.nil_append,List.map_cons,List.cons_append]
    exact List.Perm.cons _ ih
   ·have e1:rowsOf1 x=[]:=by unfold rowsOf1;rw[if_neg (by omega)]
    have e3:seenX ps x=[seen1 ps x]:=by unfold seenX;rw[if_neg (by omega)]
    have e2:(stubOf1 x).map (fillS ps)=[convS (seen1 ps x)]:=by
     unfold stubOf1
     rw[if_pos h1]
     simp only[List.map_cons,List.map_nil]
     obtain ⟨g1,g2⟩:=hnn x hx
     have hst:=hall x hx
     unfold stubOk at hst
     rw[decide_eq_true h1] at hst
     simp only[Bool.not_true,Bool.false_or] at hst
     have hg:=mov_get h (sTp x) (sTs x) g1 g2
     rw[if_pos hst] at hg
     unfold fillS
     simp only[hg,orZ]
     unfold seen1
     rw[if_pos h1]
     have hfl1:sFlag (withRow x (cellG ps (sTp x) (sTs x)).1.2.2.2.2.1)=1:=h1
     unfold convS
     rw[if_pos hfl1,if_pos hfl1,decide_eq_true hfl1]
     rfl
    rw[e1,e2,e3]
    simp only[List.nil_append,List.map_cons,List.map_nil,List.cons_append]
    exact (List.perm_middle).trans (List.Perm.cons _ ih)
   ·have e1:rowsOf1 x=[]:=by unfold rowsOf1;rw[if_neg (by omega)]
    have e2:stubOf1 x=[]:=by unfold stubOf1;rw[if_neg (by omega)]
    have e3:seenX ps x=[]:=by unfold seenX;rw[if_pos h2]
    rw[e1,e2,e3]
    simpa using ih
 exact key (spotsF ps) fun x hx=>hx
def ltS (x y:Seen):Bool:=befB (rk x.1) (rk y.1)
def cfS (x y:Seen):Int:=if befB (x.1.1,x.1.2.1) (y.1.1,y.1.2.1) then -1 else if befB (y.1.1,y.1.2.1) (x.1.1,x.1.2.1) then 1 else 0
theorem cfS_lt:Go.Proofs.ltOf cfS=ltS:=by
 funext x y
 exact ord_lt x.1 y.1
theorem look1_eq (x y:Seen):impl_look_1.sem (x,y,())=some (cfS x y,()):=by
 refine lift_eq (k:=0) fun k hk=>(impl_look_1.raw_eq k _).trans ?_
 show impl_look_1.p _=_
 unfold impl_look_1.p
 rw[order_eq]
 rfl
theorem swoS:SWO ltS where
 irrefl x:=befB_irr _
 trans x y z h1 h2:=befB_trans h1 h2
 ntrans x y z h1 h2:=by
  cases h3:ltS x z with
  | false=>rfl
  | true=>
   unfold ltS at h1 h2 h3
   cases h4:befB (rk y.1) (rk x.1) with
   | true=>
    have:=befB_trans h4 h3
    rw[this] at h2;cases h2
   | false=>
    have:=befB_tri h1 h4
    rw[this] at h3
    rw[h3] at h2;cases h2
def putS (xs:List Seen) (x:Seen):List Seen:=xs.take (pos (xs.map (·.1)) (rk x.1))++[x]++xs.drop (pos (xs.map (·.1)) (rk x.1))
def sortS (l:List Seen):List Seen:=l.foldl putS []
theorem putS_map (xs:List Seen) (x:Seen):(putS xs x).map (·.1)=put1 (xs.map (·.1)) x.1:=by
 unfold putS put1
 simp only[List.map_append,List.map_take,List.map_drop,List.map_cons,List.map_nil]
theorem putS_perm (xs:List Seen) (x:Seen):(putS xs x).Perm (x::xs):=by
 unfold putS
 rw[List.append_assoc]
 have:=List.perm_middle (a:=x) (l₁:=xs.take (pos (xs.map (·.1)) (rk x.1))) (l₂:=xs.drop (pos (xs.map (·.1)) (rk x.1)))
 rw[List.take_append_drop] at this
 exact this
theorem sortS_map (l:List Seen):(sortS l).map (·.1)=sortR (l.map (·.1)):=by
 have main:∀ (l acc:List Seen),(l.foldl putS acc).map (·.1)=(l.map (·.1)).foldl put1 (acc.map (·.1)):=by
  intro l
  induction l with
  | nil=>intro acc;rfl
  | cons x l ih=>intro acc;simp only[List.foldl_cons,List.map_cons,ih,putS_map]
 exact main l []
theorem sortS_perm (l:List Seen):(sortS l).Perm l:=by
 have main:∀ (l acc:List Seen),(l.foldl putS acc).Perm (l++acc):=by
  intro l
  induction l with
  | nil=>intro acc;exact List.Perm.refl _
  | cons x l ih=>
   intro acc
   exact (ih (putS acc x)).trans (((List.Perm.refl l).append (putS_perm acc x)).trans List.perm_middle)
 have:=main l []
 rw[List.append_nil] at this
 exact this
def upS (xs:List Seen):Prop:=xs.Pairwise fun x y=>ltS x y=true
theorem upS_iff {xs:List Seen}:upS xs↔up (xs.map (·.1)):=by
 unfold upS up
 rw[List.pairwise_map]
 rfl
theorem sortS_unique {l r:List Seen} (hp:r.Perm l) (hr:upS r) (hn:(l.map fun x=>rk x.1).Nodup):r=sortS l:=by
 refine sorted_unique (lt:=fun x y=>ltS x y=true) (fun a b h=>befB_not h) r (sortS l) (hp.trans (sortS_perm l).symm) hr (upS_iff.2 ?_)
 rw[sortS_map]
 refine sortR_up ?_
 rw[List.map_map]
 exact hn
theorem upS_nodup {r:List Seen} (h:upS r):(r.map fun x=>rk x.1).Nodup:=by
 have:=up_nodup (upS_iff.1 h)
 rw[List.map_map] at this
 exact this
def adjB:List Seen->Bool
 | x::y::l=>ltS x y&&adjB (y::l)
 | _=>true
theorem adj_up:∀ (l:List Seen),adjB l=true->upS l
 | [],_=>List.Pairwise.nil
 | [x],_=>List.pairwise_singleton _ _
 | x::y::l,h=>by
  simp only[adjB,Bool.and_eq_true] at h
  have ih:=adj_up (y::l) h.2
  refine List.pairwise_cons.2 ⟨fun z hz=>?_,ih⟩
  rcases List.mem_cons.1 hz with rfl | hz
  ·exact h.1
  ·exact befB_trans h.1 ((List.pairwise_cons.1 ih).1 z hz)
theorem up_adjB:∀ (l:List Seen),upS l->adjB l=true
 | [],_=>rfl
 | [x],_=>rfl
 | x::y::l,h=>by
  obtain ⟨h1,h2⟩:=List.pairwise_cons.1 h
  simp only[adjB,Bool.and_eq_true]
  exact ⟨h1 y List.mem_cons_self,up_adjB (y::l) h2⟩
theorem sorted_up {r:List Seen} (h:r.Pairwise fun x y=>ltS y x=false) (hn:(r.map fun x=>rk x.1).Nodup):upS r:=by
 unfold upS
 have h2:r.Pairwise fun x y=>rk x.1≠rk y.1:=by
  unfold List.Nodup at hn
  rw[List.pairwise_map] at hn
  exact hn
 refine (h.and h2).imp fun {x y} ⟨g1,g2⟩=>?_
 cases h3:ltS x y with
 | true=>rfl
 | false=>exact absurd (befB_tri h3 g1) g2
end OT
set_option linter.unusedVariables false
set_option linter.unusedSimpArgs false
namespace OT
open Go Go.Sort
theorem sort_sem (z:List Seen) (hl:z.length<=1000):∃ r:List Seen,(∀ f:Nat×Int,slices_SortFunc_seen.sem (z,f,())=some (r,()))/\r.Perm z/\r.Pairwise fun x y=>ltS y x=false:=by
 have hs:SWO (Go.Proofs.ltOf cfS):=by rw[cfS_lt];exact swoS
 have h1:=sortF_eq (e:=tSeen) (cs:=impl_look_1.sem) (cf:=cfS) (fun x y=>look1_eq x y) hs z (cap_ok (Nat.le_trans hl (by omega)))
 have h2:=pdq_spec (α:=tSeen.den) (lt:=Go.Proofs.ltOf cfS) hs z
 refine ⟨_,fun f=>?_,h2.1,?_⟩
 ·show (sortF tSeen impl_look_1.sem z).map (fun r=>(r,()))=_
  rw[h1]
  rfl
 ·exact h2.2.imp fun {x y} (h:Go.Proofs.ltOf (α:=Seen) cfS y x=false)=>by rw[cfS_lt] at h;exact h
theorem forI_adj {O:Type} (r:List Seen) (bad e:O):∀ (l pre:List Seen) (x:Seen),r=pre++x::l->forI (fun i (_:Unit) y=>if (match r[i]? with | some z=>ltS z y | none=>true) then .inr () else .inl bad) (fun _=>e) pre.length l ()=if adjB (x::l) then e else bad
 | [],pre,x,_=>by simp[forI,adjB]
 | y::l,pre,x,h=>by
  have hx:r[pre.length]?=some x:=by rw[h,List.getElem?_append_right (Nat.le_refl _)];simp
  simp only[forI,hx,adjB]
  by_cases hc:ltS x y=true
  rotate_left
  ·have hc':ltS x y=false:=by simpa using hc
   simp only[hc',Bool.false_eq_true,if_false,Bool.false_and]
  ·simp only[hc,if_true,Bool.true_and]
   have:=forI_adj r bad e l (pre++[x]) y (by rw[h];simp)
   rw[List.length_append] at this
   exact this
theorem adj_walk (ps:Pgs) (k:Nat) (hk:300<=k) (r:List Seen) (hl:r.length<=192):rawIter (fun self v=>impl_look.B4 k self (fun z=>impl_look.Q4 k (ps,()) r z) (ps,()) r v) k 1=if adjB r then some (r,(0:Int),()) else some (([]:List Seen),(8:Int),()):=by
 have:=for_loopE (B:=fun self v=>impl_look.B4 k self (fun z=>impl_look.Q4 k (ps,()) r z) (ps,()) r v) (r.drop 1) (fun (_:Unit) (i:Int)=>i+1) (fun i _ y=>if (match r[i]? with | some z=>ltS z y | none=>true) then .inr () else .inl (some (([]:List Seen),(8:Int),()))) (fun _=>some (r,(0:Int),())) (fun _ _=>True) (by rw[maxLen_val,List.length_drop];omega)
  (fun i hi s self _=>by
   rw[List.length_drop] at hi
   show impl_look.b4 _ _ _ _ _=_
   unfold impl_look.b4
   have hlt:(i:Int)+1 < (r.length:Int):=by omega
   have hlt2:(i:Int) < (r.length:Int):=by omega
   have hnn:(0:Int)<=(i:Int)+1:=by omega
   have hw1:w64 ((i:Int)+1 - 1)=(i:Int):=by rw[w64_in (by omega)];omega
   have hw2:w64 ((i:Int)+1+1)=w64 ((i:Int)+1)+1:=by rw[w64_in (by omega),w64_in (by omega)]
   have htn:((i:Int)+1).toNat=i+1:=by omega
   have hg:(r.drop 1)[i]'(by rw[List.length_drop];omega)=r[i+1]'(by omega):=by rw[List.getElem_drop];congr 1;omega
   rw[hg]
   simp only[hlt,hlt2,hnn,hw1,hw2,htn,decide_true,cond_true,Int.natCast_nonneg,and_self,if_true,Int.toNat_natCast,List.getElem?_eq_getElem (show i < r.length by omega),List.getElem?_eq_getElem (show i+1 < r.length by omega),Option.bind_some,isBefore_eq]
   show (bif !ltS r[i] (r[i+1]'(by omega)) then _ else _)=_
   cases ltS r[i] (r[i+1]'(by omega)) <;> rfl)
  (fun _ _ _ _ _ _=>trivial) (fun s self _=>by
   rw[List.length_drop]
   show impl_look.b4 _ _ _ _ _=_
   unfold impl_look.b4
   have hlt:¬ (((r.length - 1:Nat):Int)+1 < (r.length:Int)):=by omega
   simp only[hlt,decide_false,cond_false]
   rfl) () trivial k (by rw[List.length_drop];omega)
 refine Eq.trans this ?_
 cases r with
 | nil=>rfl
 | cons x l=>
  exact forI_adj (x::l) _ _ l [] x rfl
def viewL (ps:Pgs):List Seen:=if viewC ps=0 then sortS ((seenF ps).map convS) else []
def lookL (ps:Pgs):List Seen:=if lookC ps=0 then sortS ((seenF ps).map convS) else []
def keyS2 (y:Seen):Option (Int×Int):=some (y.2.2.2.2.1,y.2.2.2.2.2.1)
def toldE (y:Seen):List Int×Bool:=([y.2.2.2.2.1,y.2.2.2.2.2.1],true)
theorem told_get (T:List Seen) (a b:Int):orZ (mapGet tK2 (T.map toldE) [a,b]) false=T.any fun y=>decide (a=y.2.2.2.2.1)&&decide (b=y.2.2.2.2.2.1):=by
 induction T with
 | nil=>rfl
 | cons y T ih=>
  have hk:Ty.eq tK2 [a,b] (toldE y).1=(decide (a=y.2.2.2.2.1)&&decide (b=y.2.2.2.2.2.1)):=key2_eq _ _ _ _
  unfold mapGet at ih ⊢
  rw[List.map_cons,List.find?_cons,List.any_cons,hk]
  cases (decide (a=y.2.2.2.2.1)&&decide (b=y.2.2.2.2.2.1)) with
  | true=>rfl
  | false=>simpa using ih
theorem tgt_keys (S:List L6Spot):(S.flatMap stubOf1).filterMap keyS2=S.filterMap sTgt:=by
 induction S with
 | nil=>rfl
 | cons x S ih=>
  rw[List.flatMap_cons,List.filterMap_append,ih]
  unfold stubOf1
  by_cases h:sFlag x=1
  ·rw[if_pos h]
   have:sTgt x=some (sTp x,sTs x):=by unfold sTgt;rw[if_pos h]
   simp[List.filterMap_cons,this,keyS2]
  ·rw[if_neg h]
   have:sTgt x=none:=by unfold sTgt;rw[if_neg h]
   simp[List.filterMap_cons,this]
theorem implLook_eq (ps:Pgs) (h:cellsOk ps):impl_look.sem (ps,())=some (lookL ps,lookC ps,()):=by
 obtain ⟨hl,hp⟩:=h.1
 have hsl:=spots_len h.1
 refine lift_eq (k:=300) fun k hk=>(impl_look.raw_eq k _).trans ?_
 have inner:∀ (self:(List Seen×List Seen×List (List Int×Row)×Pgs×Int×Int)->Option impl_look.Out) (e0:(List Seen×List Seen×List (List Int×Row))->Option impl_look.Out) (i:Nat) (hi:i < ps.length) (S:List L6Spot),S.length<=16*i->(∀ x ∈ S,x.1 < (i:Int)) ->
   impl_look.r1 k self e0 (ps,()) (i:Int) ps[i] ps (ps.length:Int) (pn ps[i]:Int) (S.flatMap rowsOf1,S.flatMap stubOf1,S.flatMap movOf1,(0:Int))=self ((S++spotsPg i ps[i]).flatMap rowsOf1,(S++spotsPg i ps[i]).flatMap stubOf1,(S++spotsPg i ps[i]).flatMap movOf1,ps,(ps.length:Int),w64 ((i:Int)+1)):=fun self e0 i hi S0 hS0 hfr=>by
  have hok:=hp _ (List.getElem_mem hi)
  have hn:=hok.n
  have hlen:=hok.len
  have hcell:=h.2 _ (List.getElem_mem hi)
  have:=range_loop (B:=fun self' v=>impl_look.B1 k self' (fun z=>impl_look.Q0 k self e0 (ps,()) (i:Int) ps[i] ps (ps.length:Int) (pn ps[i]:Int) z) (ps,()) (i:Int) ps[i] ps (ps.length:Int) (pn ps[i]:Int) v) (pn ps[i]) (fun (S:List L6Spot) (j:Int)=>(S.flatMap rowsOf1,S.flatMap stubOf1,S.flatMap movOf1,j)) (fun j S=>.inr (S++spot1 i ps[i] j)) (fun S=>self (S.flatMap rowsOf1,S.flatMap stubOf1,S.flatMap movOf1,ps,(ps.length:Int),w64 ((i:Int)+1))) (fun j S=>S.length<=16*i+j/\∀ x ∈ S,x.1 < (i:Int)\/(x.1=(i:Int)/\x.2.1 < (j:Int))) (by omega)
   (fun j hj S self' ⟨hI1,hI2⟩=>by
    show impl_look.b1 _ _ _ _ _ _ _ _ _=_
    unfold impl_look.b1 spot1
    have hlt:(j:Int) < (pn ps[i]:Int):=by omega
    simp only[hlt,decide_true,cond_true,implHas_eq hok,hj,Bool.true_and,Option.bind_some]
    by_cases hz:psz ps[i] j=0
    ·simp only[hz,decide_true,Bool.not_true,Bool.not_false,cond_true,if_true,List.append_nil]
    ·have hc2:=hcell j hj hz
     obtain ⟨f1,f2⟩:=cellF_flag _ hc2
     obtain ⟨l1,l2⟩:=gather_len S
     have hcap:∀ (T:List Seen) (y:Seen),T.length<=S.length->T.length+[y].length<=CAP:=fun T y hT=>cap_ok (by simp only[List.length_cons,List.length_nil];omega)
     simp only[hz,decide_false,Bool.not_false,Bool.not_true,cond_false,implCellAt_eq hok hj,implUnpack_eq _ (Nat.le_trans (cellP_small hok hj) (by omega)),hc2,if_true,if_false,Option.bind_some,f1,decide_true,hcap _ _ l1,hcap _ _ l2,key2_lay]
     obtain ⟨x,hx⟩:∃ x:L6Spot,x=((i:Int),(j:Int),(cellF (cellP ps[i] j)).1,()):=⟨_,rfl⟩
     have hxf:sFlag x=(cellF (cellP ps[i] j)).1.2.1:=by rw[hx];rfl
     rw[<-hx]
     simp only[List.flatMap_append,List.flatMap_cons,List.flatMap_nil,List.append_nil]
     rcases f2 with g | g | g
     ·have e1:rowsOf1 x=[((cellF (cellP ps[i] j)).1.2.2.2.2.1,(i:Int),(j:Int),false,(i:Int),(j:Int),())]:=by unfold rowsOf1;rw[if_pos (hxf.trans g),hx];rfl
      have e2:stubOf1 x=[]:=by unfold stubOf1;rw[if_neg (by omega)]
      have e3:movOf1 x=[]:=by unfold movOf1;rw[if_neg (by omega)]
      rw[e1,e2,e3]
      simp only[g,decide_true,cond_true,List.append_nil,List.length_cons,List.length_nil,Nat.zero_lt_succ,List.length_replicate,List.length_set,if_true]
     ·have e1:rowsOf1 x=[]:=by unfold rowsOf1;rw[if_neg (by omega)]
      have e2:stubOf1 x=[(row0,(i:Int),(j:Int),true,(cellF (cellP ps[i] j)).1.2.2.1,(cellF (cellP ps[i] j)).1.2.2.2.1,())]:=by unfold stubOf1;rw[if_pos (hxf.trans g),hx];rfl
      have e3:movOf1 x=[]:=by unfold movOf1;rw[if_neg (by omega)]
      rw[e1,e2,e3]
      have n1:¬ ((1:Int)=0):=by decide
      have n2:¬ ((1:Int)=2):=by decide
      simp only[g,n1,n2,decide_false,cond_false,List.append_nil,List.length_cons,List.length_nil,Nat.zero_lt_succ,List.length_replicate,List.length_set,if_true]
     ·have e1:rowsOf1 x=[]:=by unfold rowsOf1;rw[if_neg (by omega)]
      have e2:stubOf1 x=[]:=by unfold stubOf1;rw[if_neg (by omega)]
      have e3:movOf1 x=[([(i:Int),(j:Int)],(cellF (cellP ps[i] j)).1.2.2.2.2.1)]:=by unfold movOf1;rw[if_pos (hxf.trans g),hx];rfl
      rw[e1,e2,e3]
      have n1:¬ ((2:Int)=0):=by decide
      have hput:mapPut tK2 (S.flatMap movOf1) [(i:Int),(j:Int)] (cellF (cellP ps[i] j)).1.2.2.2.2.1=S.flatMap movOf1++[([(i:Int),(j:Int)],(cellF (cellP ps[i] j)).1.2.2.2.2.1)]:=mapPut_fresh tK2 _ _ _ fun e he=>by
       obtain ⟨y,hy,hye⟩:=List.mem_flatMap.1 he
       unfold movOf1 at hye
       split at hye
       ·rw[List.mem_singleton] at hye
        subst hye
        rw[key2_eq]
        rcases hI2 y hy with c | ⟨c,d⟩
        ·rw[decide_eq_false (show ¬ (i:Int)=y.1 by omega)];rfl
        ·rw[decide_eq_false (show ¬ (j:Int)=y.2.1 by omega),Bool.and_false]
       ·cases hye
      simp only[g,n1,decide_false,decide_true,cond_false,cond_true,hput,List.append_nil,List.length_cons,List.length_nil,Nat.zero_lt_succ,List.length_replicate,List.length_set,if_true]
      rfl)
   (fun j hj S S' ⟨hI1,hI2⟩ hf=>by
    injection hf with hf
    subst hf
    have:(spot1 i ps[i] j).length<=1:=by unfold spot1;split <;> simp
    refine ⟨by rw[List.length_append];omega,fun x hx=>?_⟩
    rcases List.mem_append.1 hx with hx | hx
    ·rcases hI2 x hx with c | ⟨c,d⟩
     ·exact .inl c
     ·exact .inr ⟨c,by omega⟩
    ·unfold spot1 at hx
     split at hx
     ·cases hx
     ·rw[List.mem_singleton] at hx
      subst hx
      exact .inr ⟨rfl,by show (j:Int) < ((j+1:Nat):Int);omega⟩) (fun S self' hI=>by
    show impl_look.b1 _ _ _ _ _ _ _ _ _=_
    unfold impl_look.b1
    simp only[Int.lt_irrefl,decide_false,cond_false]
    rfl) S0 ⟨by omega,fun x hx=>.inl (hfr x hx)⟩ k (by omega)
  rw[forI_app (spot1 i ps[i])] at this
  exact this
 have outer:impl_look.r0 k (ps,()) (([]:List Seen),([]:List Seen),([]:List (List Int×Row)),ps,(ps.length:Int),(0:Int))=impl_look.Q1 k (ps,()) ((spotsF ps).flatMap rowsOf1,(spotsF ps).flatMap stubOf1,(spotsF ps).flatMap movOf1):=by
  have:=for_loopE (B:=fun self v=>impl_look.B0 k self (fun z=>impl_look.Q1 k (ps,()) z) (ps,()) v) ps (fun (S:List L6Spot) (i:Int)=>(S.flatMap rowsOf1,S.flatMap stubOf1,S.flatMap movOf1,ps,(ps.length:Int),i)) (fun i S p=>.inr (S++spotsPg i p)) (fun S=>impl_look.Q1 k (ps,()) (S.flatMap rowsOf1,S.flatMap stubOf1,S.flatMap movOf1)) (fun i S=>S.length<=16*i/\∀ x ∈ S,x.1 < (i:Int)) (by rw[maxLen_val];omega)
   (fun i hi S self ⟨hI1,hI2⟩=>by
    show impl_look.b0 _ _ _ _ _=_
    unfold impl_look.b0
    have hlt:(i:Int) < (ps.length:Int):=by omega
    have hlen:=(hp _ (List.getElem_mem hi)).len
    simp only[hlt,decide_true,cond_true,Int.natCast_nonneg,if_true,Int.toNat_natCast,List.getElem?_eq_getElem hi,Option.bind_some,pSlots_eq hlen,inner self _ i hi S hI1 hI2])
   (fun i hi S S' ⟨hI1,hI2⟩ hf=>by
    injection hf with hf
    subst hf
    have:=spotsPg_len (hp _ (List.getElem_mem hi)) i
    refine ⟨by rw[List.length_append];omega,fun x hx=>?_⟩
    rcases List.mem_append.1 hx with hx | hx
    ·have:=hI2 x hx;omega
    ·obtain ⟨s,_,hs⟩:=List.mem_flatMap.1 hx
     unfold spot1 at hs
     split at hs
     ·cases hs
     ·rw[List.mem_singleton] at hs
      subst hs
      show (i:Int) < ((i+1:Nat):Int)
      omega) (fun S self hI=>by
    show impl_look.b0 _ _ _ _ _=_
    unfold impl_look.b0
    simp only[Int.lt_irrefl,decide_false,cond_false]) [] ⟨by simp,fun x hx=>by cases hx⟩ k (by omega)
  rw[forI_appI] at this
  exact this
 show impl_look.r0 k (ps,()) (([]:List Seen),([]:List Seen),([]:List (List Int×Row)),ps,(ps.length:Int),(0:Int))=_
 rw[outer]
 show impl_look.q1 _ _ _=_
 unfold impl_look.q1
 obtain ⟨gl1,gl2⟩:=gather_len (spotsF ps)
 have hT:∀ y ∈ (spotsF ps).flatMap stubOf1,∃ x ∈ spotsF ps,sFlag x=1/\y=(row0,x.1,x.2.1,true,sTp x,sTs x,()):=fun y hy=>by
  obtain ⟨x,hx,hxy⟩:=List.mem_flatMap.1 hy
  unfold stubOf1 at hxy
  split at hxy
  ·rename_i hf
   exact ⟨x,hx,hf,List.mem_singleton.1 hxy⟩
  ·cases hxy
 have l2w:impl_look.r2 k (ps,()) ((spotsF ps).flatMap rowsOf1) ((spotsF ps).flatMap stubOf1) ((spotsF ps).flatMap movOf1) (((spotsF ps).flatMap stubOf1).length:Int) (0:Int)=if (spotsF ps).all (stubOk ps) then impl_look.Q2 k (ps,()) ((spotsF ps).flatMap rowsOf1) ((spotsF ps).flatMap stubOf1) ((spotsF ps).flatMap movOf1) (((spotsF ps).flatMap stubOf1).length:Int) () else some (([]:List Seen),(4:Int),()):=by
  obtain ⟨T,hTd⟩:∃ T,T=(spotsF ps).flatMap stubOf1:=⟨_,rfl⟩
  obtain ⟨M,hM⟩:∃ M,M=(spotsF ps).flatMap movOf1:=⟨_,rfl⟩
  rw[<-hTd,<- hM]
  have hTl:T.length<=192:=by rw[hTd];omega
  have:=for_loopE (B:=fun self v=>impl_look.B2 k self (fun z=>impl_look.Q2 k (ps,()) ((spotsF ps).flatMap rowsOf1) T M (T.length:Int) z) (ps,()) ((spotsF ps).flatMap rowsOf1) T M (T.length:Int) v) T (fun (_:Unit) (i:Int)=>i) (fun i _ y=>if (mapGet tK2 M [y.2.2.2.2.1,y.2.2.2.2.2.1]).isSome then .inr () else .inl (some (([]:List Seen),(4:Int),()))) (fun _=>impl_look.Q2 k (ps,()) ((spotsF ps).flatMap rowsOf1) T M (T.length:Int) ()) (fun _ _=>True) (by rw[maxLen_val];omega)
   (fun i hi s self _=>by
    show impl_look.b2 _ _ _ _ _ _ _ _=_
    unfold impl_look.b2
    have hlt:(i:Int) < (T.length:Int):=by omega
    simp only[hlt,decide_true,cond_true,Int.natCast_nonneg,and_self,if_true,Int.toNat_natCast,List.getElem?_eq_getElem hi,Option.bind_some,key2_lay,List.length_replicate,List.length_set,show (0:Nat) < 2 by omega,show (1:Nat) < 2 by omega]
    cases (mapGet tK2 M [(T[i]).2.2.2.2.1,(T[i]).2.2.2.2.2.1]).isSome <;> rfl)
   (fun _ _ _ _ _ _=>trivial) (fun s self _=>by
    show impl_look.b2 _ _ _ _ _ _ _ _=_
    unfold impl_look.b2
    simp only[Int.lt_irrefl,decide_false,cond_false]) () trivial k (by omega)
  rw[forI_check (fun y:Seen=>(mapGet tK2 M [y.2.2.2.2.1,y.2.2.2.2.2.1]).isSome) (some (([]:List Seen),(4:Int),())) (fun _=>impl_look.Q2 k (ps,()) ((spotsF ps).flatMap rowsOf1) T M (T.length:Int) ())] at this
  refine Eq.trans this ?_
  have hb:T.all (fun y:Seen=>(mapGet tK2 M [y.2.2.2.2.1,y.2.2.2.2.2.1]).isSome)=(spotsF ps).all (stubOk ps):=by
   have hone:∀ x ∈ spotsF ps,sFlag x=1->(mapGet tK2 M [sTp x,sTs x]).isSome=stubOk ps x:=fun x hx hf=>by
    obtain ⟨g1,g2⟩:=spot_nonneg hx
    rw[hM,mov_get h _ _ g1 g2]
    unfold stubOk
    rw[decide_eq_true hf]
    cases ((cellG ps (sTp x) (sTs x)).2&&decide ((cellG ps (sTp x) (sTs x)).1.2.1=2)) <;> rfl
   rw[Bool.eq_iff_iff,List.all_eq_true,List.all_eq_true]
   constructor
   ·intro hall x hx
    by_cases hf:sFlag x=1
    ·rw[<-hone x hx hf]
     have hy:(row0,x.1,x.2.1,true,sTp x,sTs x,()) ∈ T:=by
      rw[hTd]
      exact List.mem_flatMap.2 ⟨x,hx,by unfold stubOf1;rw[if_pos hf];exact List.mem_singleton.2 rfl⟩
     exact hall _ hy
    ·unfold stubOk;rw[decide_eq_false hf];rfl
   ·intro hall y hy
    obtain ⟨x,hx,hf,e⟩:=hT y (hTd ▸ hy)
    subst e
    exact (hone x hx hf).trans (hall x hx)
  rw[hb]
 rw[l2w]
 unfold lookL lookC
 by_cases hst:(spotsF ps).all (stubOk ps)=true
 rotate_left
 ·simp only[hst,Bool.false_eq_true,if_false]
  rfl
 simp only[hst,if_true]
 show impl_look.q2 _ _ _ _ _ _ _=_
 unfold impl_look.q2
 have l3w:impl_look.r3 k (ps,()) ((spotsF ps).flatMap rowsOf1) ((spotsF ps).flatMap stubOf1) ((spotsF ps).flatMap movOf1) (((spotsF ps).flatMap stubOf1).length:Int) ((spotsF ps).flatMap stubOf1) ((spotsF ps).flatMap movOf1) (((spotsF ps).flatMap stubOf1).length:Int) ((spotsF ps).flatMap rowsOf1,([]:List (List Int×Bool)),(0:Int))=if ((spotsF ps).filterMap sTgt).Nodup then impl_look.Q3 k (ps,()) ((spotsF ps).flatMap stubOf1) ((spotsF ps).flatMap movOf1) (((spotsF ps).flatMap stubOf1).length:Int) (listV ps) else some (([]:List Seen),(6:Int),()):=by
  have hkeys:=tgt_keys (spotsF ps)
  unfold listV
  obtain ⟨T,hTd⟩:∃ T,T=(spotsF ps).flatMap stubOf1:=⟨_,rfl⟩
  obtain ⟨M,hM⟩:∃ M,M=(spotsF ps).flatMap movOf1:=⟨_,rfl⟩
  obtain ⟨L,hL⟩:∃ L,L=(spotsF ps).flatMap rowsOf1:=⟨_,rfl⟩
  have hfill:∀ y:Seen,fillS ps y=(orZ (mapGet tK2 M [y.2.2.2.2.1,y.2.2.2.2.2.1]) row0,y.2):=fun y=>by unfold fillS;rw[hM]
  rw[<-hTd,<- hM,<- hL]
  rw[<-hTd] at hkeys
  have hTl:T.length<=192:=by rw[hTd];omega
  have hLl:L.length<=192:=by rw[hL];omega
  have:=for_loopE (B:=fun self v=>impl_look.B3 k self (fun z=>impl_look.Q3 k (ps,()) T M (T.length:Int) z) (ps,()) T M (T.length:Int) v) T (fun (_:Unit) (i:Int)=>(L++(T.take i.toNat).map (fillS ps),(T.take i.toNat).map toldE,i)) (fun i _ y=>if (T.take i).any (fun z=>decide (y.2.2.2.2.1=z.2.2.2.2.1)&&decide (y.2.2.2.2.2.1=z.2.2.2.2.2.1)) then .inl (some (([]:List Seen),(6:Int),())) else .inr ()) (fun _=>impl_look.Q3 k (ps,()) T M (T.length:Int) (L++T.map (fillS ps))) (fun _ _=>True) (by rw[maxLen_val];omega)
   (fun i hi s self _=>by
    show impl_look.b3 _ _ _ _ _ _ _=_
    unfold impl_look.b3
    have hlt:(i:Int) < (T.length:Int):=by omega
    have hcap:∀ y:Seen,(L++(T.take i).map (fillS ps)).length+[y].length<=CAP:=fun y=>cap_ok (by simp only[List.length_append,List.length_map,List.length_take,List.length_cons,List.length_nil];omega)
    have hw:(w64 ((i:Int)+1)).toNat=i+1:=by rw[w64_in (by omega)];omega
    have htk:T.take (i+1)=T.take i++[T[i]]:=List.take_succ_eq_append_getElem hi
    simp only[hlt,decide_true,cond_true,Int.natCast_nonneg,and_self,if_true,Int.toNat_natCast,List.getElem?_eq_getElem hi,Option.bind_some,key2_lay,List.length_replicate,List.length_set,show (0:Nat) < 2 by omega,show (1:Nat) < 2 by omega,told_get,hcap,hw,htk,List.map_append,List.map_cons,List.map_nil]
    have htg:=told_get (T.take i) (T[i]).2.2.2.2.1 (T[i]).2.2.2.2.2.1
    refine Eq.trans (congrArg (fun b:Bool=>bif b then (some (([]:List Seen),(6:Int),()):Option impl_look.Out) else self (L++(T.take i).map (fillS ps)++[(orZ (mapGet tK2 M [(T[i]).2.2.2.2.1,(T[i]).2.2.2.2.2.1]) ((0:Int),(0:Int),(0:Int),([]:List UInt8),()),(T[i]).2)],mapPut tK2 ((T.take i).map toldE) [(T[i]).2.2.2.2.1,(T[i]).2.2.2.2.2.1] true,w64 ((i:Int)+1))) htg) ?_
    cases hc:(T.take i).any (fun z=>decide ((T[i]).2.2.2.2.1=z.2.2.2.2.1)&&decide ((T[i]).2.2.2.2.2.1=z.2.2.2.2.2.1)) with
    | true=>rfl
    | false=>
     simp only[cond_false,Bool.false_eq_true,if_false]
     have hput:mapPut tK2 ((T.take i).map toldE) [(T[i]).2.2.2.2.1,(T[i]).2.2.2.2.2.1] true=(T.take i).map toldE++[toldE T[i]]:=mapPut_fresh tK2 _ _ _ fun e he=>by
      obtain ⟨z,hz,rfl⟩:=List.mem_map.1 he
      have h1:=List.any_eq_false.1 hc z hz
      have:Ty.eq tK2 [(T[i]).2.2.2.2.1,(T[i]).2.2.2.2.2.1] (toldE z).1=_:=key2_eq _ _ _ _
      rw[this]
      simpa using h1
     rw[hput,hfill,List.append_assoc])
   (fun _ _ _ _ _ _=>trivial) (fun s self _=>by
    show impl_look.b3 _ _ _ _ _ _ _=_
    unfold impl_look.b3
    simp only[Int.lt_irrefl,decide_false,cond_false,Int.toNat_natCast,List.take_length]) () trivial k (by omega)
  rw[forI_dup0 keyS2 (some (([]:List Seen),(6:Int),())) (fun _=>impl_look.Q3 k (ps,()) T M (T.length:Int) (L++T.map (fillS ps))) (fun y z=>decide (y.2.2.2.2.1=z.2.2.2.2.1)&&decide (y.2.2.2.2.2.1=z.2.2.2.2.2.1)) (fun y z=>?_) T,hkeys] at this
  ·simp only[Int.toNat_zero,List.take_zero,List.map_nil,List.append_nil] at this
   exact this
  ·unfold keyS2
   simp only[Bool.and_eq_true,decide_eq_true_eq]
   constructor
   ·rintro ⟨h1,h2⟩;exact ⟨_,rfl,by rw[h1,h2]⟩
   ·rintro ⟨b,h1,h2⟩
    injection h1 with h1
    injection h2 with h2
    rw[<-h2] at h1
    injection h1 with h3 h4
    exact ⟨h3,h4⟩
 rw[l3w]
 by_cases htk:((spotsF ps).filterMap sTgt).Nodup
 rotate_left
 ·simp only[htk,if_false]
  rfl
 simp only[htk,if_true]
 show impl_look.q3 _ _ _ _ _ _=_
 unfold impl_look.q3
 have hperm:=listV_perm h hst
 have hvl:(listV ps).length<=192:=by
  have:=hperm.length_eq
  rw[List.length_map] at this
  have:=seen_len h.1
  omega
 obtain ⟨r,hr1,hr2,hr3⟩:=sort_sem (listV ps) (by omega)
 rw[hr1]
 simp only[Option.bind_some]
 have hrl:r.length<=192:=by have:=hr2.length_eq;omega
 have hrp:=hr2.trans hperm
 have hkn:(r.map fun x=>rk x.1).Nodup↔((seenF ps).map fun x=>rk (sRow x)).Nodup:=by
  have h1:(r.map fun x=>rk x.1).Perm (((seenF ps).map convS).map fun x=>rk x.1):=hrp.map _
  rw[h1.nodup_iff,List.map_map]
  exact Iff.rfl
 refine (adj_walk ps k hk r hrl).trans ?_
 by_cases hnd:((seenF ps).map fun x=>rk (sRow x)).Nodup
 ·have hup:=sorted_up hr3 (hkn.2 hnd)
  have hun:=sortS_unique hrp hup (by rw[List.map_map];exact hnd)
  simp only[hnd,if_true,up_adjB r hup]
  rw[hun]
 ·have:¬ adjB r=true:=fun ha=>hnd (hkn.1 (upS_nodup (adj_up r ha)))
  simp only[hnd,this,if_false]
  rfl
theorem implView_eq (ps:Pgs) (hp:∀ p ∈ ps,p.length<=maxLen):impl_view.sem (ps,())=some (viewL ps,viewC ps,()):=by
 refine lift_eq (k:=300) fun k hk=>(impl_view.raw_eq k _).trans ?_
 unfold impl_view.p viewL viewC
 by_cases hl:12 < ps.length
 ·have:(12:Int) < (ps.length:Int):=by omega
  simp only[this,decide_true,cond_true,hl,if_true]
  rfl
 have hl':¬ ((12:Int) < (ps.length:Int)):=by omega
 simp only[hl',decide_false,cond_false,hl,if_false]
 have inner:∀ (self:(Pgs×Pgs×Int×Int)->Option impl_view.Out) (e0:Pgs->Option impl_view.Out) (i:Nat) (hi:i < ps.length),PageOk ps[i]->impl_view.r1 k self e0 (ps,()) ps ps[i] ps (ps.length:Int) (i:Int) (pn ps[i]:Int) (0:Int)=if (List.range (pn ps[i])).all (okCell ps[i]) then self (ps,ps,(ps.length:Int),w64 ((i:Int)+1)) else some (([]:List Seen),(5:Int),()):=fun self e0 i hi hok=>by
  have hn:=hok.n
  have hlen:=hok.len
  have:=range_loop (B:=fun self' v=>impl_view.B1 k self' (fun z=>impl_view.Q0 k self e0 (ps,()) ps ps[i] ps (ps.length:Int) (i:Int) (pn ps[i]:Int) z) (ps,()) ps ps[i] ps (ps.length:Int) (i:Int) (pn ps[i]:Int) v) (pn ps[i]) (fun (_:Unit) (j:Int)=>j) (fun j _=>if okCell ps[i] j then .inr () else .inl (some (([]:List Seen),(5:Int),()))) (fun _=>self (ps,ps,(ps.length:Int),w64 ((i:Int)+1))) (fun _ _=>True) (by omega)
   (fun j hj s self' hI=>by
    show impl_view.b1 _ _ _ _ _ _ _ _ _ _=_
    unfold impl_view.b1 okCell
    have hlt:(j:Int) < (pn ps[i]:Int):=by omega
    simp only[hlt,decide_true,cond_true,implHas_eq hok,hj,Bool.true_and,Option.bind_some]
    by_cases hz:psz ps[i] j=0
    ·simp only[hz,decide_true,Bool.not_true,cond_false,Bool.true_or,if_true]
    ·simp only[hz,decide_false,Bool.not_false,cond_true,implCellAt_eq hok hj,implUnpack_eq _ (Nat.le_trans (cellP_small hok hj) (by omega)),Option.bind_some,Bool.false_or]
     cases hc:(cellF (cellP ps[i] j)).2 with
     | true=>
      have:=(cellF_flag _ hc).1
      simp only[if_true,this,decide_true,Bool.not_true,cond_false]
     | false=>rfl)
   (fun _ _ _ _ _ _=>trivial) (fun s self' hI=>by
    show impl_view.b1 _ _ _ _ _ _ _ _ _ _=_
    unfold impl_view.b1
    simp only[Int.lt_irrefl,decide_false,cond_false]
    rfl) () trivial k (by omega)
  rw[forI_checkN] at this
  exact this
 have outer:impl_view.r0 k (ps,()) (ps,ps,(ps.length:Int),(0:Int))=if firstF pgC ps=0 then impl_view.Q1 k (ps,()) ps else some (([]:List Seen),firstF pgC ps,()):=by
  have:=for_loopE (B:=fun self v=>impl_view.B0 k self (fun z=>impl_view.Q1 k (ps,()) z) (ps,()) v) ps (fun (_:Unit) (i:Int)=>(ps,ps,(ps.length:Int),i)) (fun i _ p=>if pgC p=0 then .inr () else .inl (some (([]:List Seen),pgC p,()))) (fun _=>impl_view.Q1 k (ps,()) ps) (fun _ _=>True) (by rw[maxLen_val];omega)
   (fun i hi s self hI=>by
    show impl_view.b0 _ _ _ _ _=_
    unfold impl_view.b0 pgC
    have hlt:(i:Int) < (ps.length:Int):=by omega
    simp only[hlt,decide_true,cond_true,Int.natCast_nonneg,if_true,Int.toNat_natCast,List.getElem?_eq_getElem hi,Option.bind_some,implPage_eq _ (hp _ (List.getElem_mem hi))]
    by_cases h0:pageF ps[i]=0
    ·have hok:=pageF_iff.1 h0
     rw[decide_eq_true h0]
     simp only[Bool.not_true,cond_false,pSlots_eq hok.len,Option.bind_some,inner self _ i hi hok,h0,if_true]
     by_cases hc:(List.range (pn ps[i])).all (okCell ps[i])=true
     ·simp only[hc,if_true]
     ·simp only[hc,Bool.false_eq_true,if_false]
      rfl
    ·rw[decide_eq_false h0]
     simp only[Bool.not_false,cond_true,h0,if_false])
   (fun _ _ _ _ _ _=>trivial) (fun s self _=>by
    show impl_view.b0 _ _ _ _ _=_
    unfold impl_view.b0
    simp only[Int.lt_irrefl,decide_false,cond_false]) () trivial k (by omega)
  rw[forI_first pgC (fun c=>some (([]:List Seen),c,())) (fun _=>impl_view.Q1 k (ps,()) ps)] at this
  exact this
 rw[outer]
 by_cases hc:firstF pgC ps=0
 ·simp only[hc,if_true]
  show impl_view.q1 _ _=_
  unfold impl_view.q1
  rw[implLook_eq ps (cells_of (by omega) hc)]
  rfl
 ·simp only[hc,if_false]
end OT
set_option linter.unusedVariables false
set_option linter.unusedSimpArgs false
set_option linter.unusedSectionVars false
namespace OT
open Go
structure viewR (ps:Pgs):Prop where
 right:rightP ps
 cells:cellsOk ps
 stubs:(spotsF ps).all (stubOk ps)=true
 tgts:((spotsF ps).filterMap sTgt).Nodup
 keys:((seenF ps).map fun x=>rk (sRow x)).Nodup
 list:viewL ps=sortS ((seenF ps).map convS)
theorem view_ok {ps:Pgs} (h:viewC ps=0):viewR ps:=by
 obtain ⟨h1,h2,h3⟩:=view_right h
 have hc:=cells_of h1.1 h2
 unfold lookC at h3
 split at h3
 ·rename_i a1
  split at h3
  ·rename_i a2
   split at h3
   ·rename_i a3
    exact ⟨h1,hc,a1,a2,a3,by unfold viewL;rw[if_pos h]⟩
   ·cases h3
  ·cases h3
 ·cases h3
theorem viewL_perm {ps:Pgs} (h:viewR ps):(viewL ps).Perm ((seenF ps).map convS):=by rw[h.list];exact sortS_perm _
theorem viewL_len {ps:Pgs} (h:viewR ps):(viewL ps).length<=192:=by
 have:=(viewL_perm h).length_eq
 rw[List.length_map] at this
 have:=seen_len h.right
 omega
def rowsV (ps:Pgs):List Row:=(viewL ps).map (·.1)
theorem rowsV_eq {ps:Pgs} (h:viewR ps):rowsV ps=sortR ((seenF ps).map sRow):=by
 unfold rowsV
 rw[h.list,sortS_map,List.map_map]
 rfl
theorem rowsV_up {ps:Pgs} (h:viewR ps):up (rowsV ps):=by
 rw[rowsV_eq h]
 refine sortR_up ?_
 rw[List.map_map]
 exact h.keys
theorem seenRows_eq (l:List Seen) (hl:l.length<=1000):impl_plain.sem (l,())=some (l.map (·.1),()):=by
 refine lift_eq (k:=1100) fun q hq=>(impl_plain.raw_eq q _).trans ?_
 have:=for_loop (B:=fun self v=>impl_plain.B0 q self (fun z=>impl_plain.Q0 q (l,()) z) (l,()) v) l (fun (s:List Row) (i:Int)=>(s,i)) (fun _ s x=>.inr (s++[x.1])) (fun s=>(s,())) (fun i s=>s.length=i) (by rw[maxLen_val];omega)
  (fun i hi s self hs=>by
   show impl_plain.b0 _ _ _ _=_
   unfold impl_plain.b0
   have hlt:(i:Int) < (l.length:Int):=by omega
   rw[decide_eq_true hlt,cond_true,if_pos (Int.natCast_nonneg i)]
   simp only[Int.toNat_natCast,List.getElem?_eq_getElem hi,Option.bind_some]
   rw[if_pos (cap_ok (by simp only[List.length_cons,List.length_nil];omega))])
  (fun i hi s s' hs hf=>by injection hf with hf;subst hf;simp[hs]) (fun s self _=>by
   show impl_plain.b0 _ _ _ _=_
   unfold impl_plain.b0
   rw[decide_eq_false (Int.lt_irrefl _),cond_false]
   rfl) [] rfl q (by omega)
 rw[forI_fold (g:=fun (s:List Row) (x:Seen)=>s++[x.1])] at this
 refine this.trans ?_
 have hm:∀ (xs:List Seen) (s:List Row),xs.foldl (fun s x=>s++[x.1]) s=s++xs.map (·.1):=by
  intro xs
  induction xs with
  | nil=>intro s;simp
  | cons x xs ih=>intro s;rw[List.foldl_cons,ih];simp
 rw[hm,List.nil_append]
end OT
set_option linter.unusedVariables false
set_option linter.unusedSimpArgs false
set_option linter.unusedSectionVars false
namespace OT
open Go
theorem set_same {p:List UInt8} {i n:Nat} (h:pb p i=n) (hn:n < 256):p.set i (UInt8.ofNat n)=p:=by
 refine pb_ext (by rw[List.length_set]) fun j hj=>?_
 rw[pb_set]
 split
 ·rename_i h1
  rw[ofNat_toNat hn,<- h,h1.1]
 ·rfl
theorem u8_of (n:Nat):UInt8.ofInt ((n:Nat):Int)=UInt8.ofNat n:=by
 refine UInt8.toNat_inj.1 ?_
 rw[UInt8.toNat_ofNat']
 simp only[UInt8.ofInt]
 rw[UInt8.toNat_ofNat']
 omega
theorem forI_empty {O:Type} (p:List UInt8) (g:Nat->O):∀ (m a i:Nat),forI (fun _ (_:Unit) (x:Nat)=>if psz p x=0 then .inl (g x) else .inr ()) (fun _=>g (a+m)) i (List.range' a m) ()=g (emptyG p m a)
 | 0,a,i=>rfl
 | m+1,a,i=>by
  rw[List.range'_succ]
  simp only[forI,emptyG]
  by_cases h:psz p a=0
  ·simp only[h,if_true]
  ·simp only[h,if_false]
   have:=forI_empty p g m (a+1) (i+1)
   rw[show a+1+m=a+(m+1) by omega] at this
   exact this
theorem sumZ_fold (p:List UInt8) (b:Int):∀ n,(List.range n).foldl (fun s x=>s - (psz p x:Int)) b=b - (sumZ p n:Int)
 | 0=>by simp[sumZ]
 | n+1=>by rw[List.range_succ,List.foldl_append,sumZ_fold p b n];simp only[List.foldl_cons,List.foldl_nil,sumZ];omega
theorem sumZ_le (p:List UInt8):∀ n,sumZ p n<=256*n
 | 0=>by simp[sumZ]
 | n+1=>by have:=sumZ_le p n;have:=pb_lt p (3+2*n);simp only[sumZ];unfold psz;omega
section
variable {p:List UInt8} (hp:PageOk p)
include hp
theorem specEmpty_eq:spec_l2Empty.sem (p,())=some ((emptyF p:Int),()):=by
 have hn:=hp.n
 refine lift_eq (k:=100) fun k hk=>(spec_l2Empty.raw_eq k _).trans ?_
 have:=range_loop (B:=fun self v=>spec_l2Empty.B0 k self (fun z=>spec_l2Empty.Q0 k (p,()) z) (p,()) v) (pn p) (fun (_:Unit) (i:Int)=>i) (fun x _=>if psz p x=0 then .inl (some ((x:Int),())) else .inr ()) (fun _=>some ((pn p:Int),())) (fun _ _=>True) (by omega)
  (fun i hi s self _=>by
   show spec_l2Empty.b0 _ _ _ _=_
   unfold spec_l2Empty.b0
   have hlt:(i:Int) < (pn p:Int):=by omega
   simp only[pCount_eq hp.len,Option.bind_some,hlt,decide_true,cond_true,pSize_eq hp.len (show i < 16 by omega)]
   by_cases hz:psz p i=0
   ·simp only[hz,Int.natCast_zero,decide_true,cond_true,if_true]
   ·have:¬ ((psz p i:Int)=0):=by omega
    simp only[hz,this,decide_false,cond_false,if_false])
  (fun _ _ _ _ _ _=>trivial) (fun s self _=>by
   show spec_l2Empty.b0 _ _ _ _=_
   unfold spec_l2Empty.b0
   simp only[pCount_eq hp.len,Option.bind_some,Int.lt_irrefl,decide_false,cond_false]
   show spec_l2Empty.q0 _ _=_
   unfold spec_l2Empty.q0
   simp only[pCount_eq hp.len,Option.bind_some]) () trivial k (by omega)
 refine this.trans ?_
 rw[List.range_eq_range']
 have h2:=forI_empty p (fun n=>(some ((n:Int),()):Option spec_l2Empty.Out)) (pn p) 0 0
 simp only[Nat.zero_add] at h2
 exact h2
theorem specFree_eq:spec_l2Free.sem (p,())=some (freeF p,()):=by
 have hn:=hp.n
 have hw:w64 ((62:Int) - w64 ((2:Int)*(pn p:Int)))=62 - 2*(pn p:Int):=by rw[w64_in (n:=(2:Int)*(pn p:Int)) (by omega),w64_in (by omega)]
 refine lift_eq (k:=100) fun k hk=>(spec_l2Free.raw_eq k _).trans ?_
 unfold spec_l2Free.p
 simp only[pCount_eq hp.len,Option.bind_some,hw]
 have:=range_loop (B:=fun self v=>spec_l2Free.B0 k self (fun z=>spec_l2Free.Q0 k (p,()) z) (p,()) v) (pn p) (fun (s:Int) (i:Int)=>(s,i)) (fun x s=>.inr (s - (psz p x:Int))) (fun s=>some (s,())) (fun i s=>s=62 - 2*(pn p:Int) - (sumZ p i:Int)) (by omega)
  (fun i hi s self hs=>by
   show spec_l2Free.b0 _ _ _ _=_
   unfold spec_l2Free.b0
   have hlt:(i:Int) < (pn p:Int):=by omega
   have h1:=pb_lt p (3+2*i)
   have h2:=sumZ_le p i
   have h3:psz p i < 256:=h1
   simp only[pCount_eq hp.len,Option.bind_some,hlt,decide_true,cond_true,pSize_eq hp.len (show i < 16 by omega)]
   rw[w64_in (n:=s - (psz p i:Int)) (by omega)])
  (fun i hi s s' hs hf=>by injection hf with hf;simp only[sumZ];omega) (fun s self _=>by
   show spec_l2Free.b0 _ _ _ _=_
   unfold spec_l2Free.b0
   simp only[pCount_eq hp.len,Option.bind_some,Int.lt_irrefl,decide_false,cond_false]
   rfl) (62 - 2*(pn p:Int)) (by simp[sumZ]) k (by omega)
 rw[forI_fold (g:=fun s x=>s - (psz p x:Int)),sumZ_fold] at this
 exact this
theorem implFree_eq:impl_freeIn.sem (p,())=some (freeF p,()):=by
 have hn:=hp.n
 have hw:w64 ((62:Int) - w64 ((2:Int)*(pn p:Int)))=62 - 2*(pn p:Int):=by rw[w64_in (n:=(2:Int)*(pn p:Int)) (by omega),w64_in (by omega)]
 refine lift_eq (k:=100) fun k hk=>(impl_freeIn.raw_eq k _).trans ?_
 unfold impl_freeIn.p
 simp only[pSlots_eq hp.len,Option.bind_some,hw]
 have:=range_loop (B:=fun self v=>impl_freeIn.B0 k self (fun z=>impl_freeIn.Q0 k (p,()) (pn p:Int) z) (p,()) (pn p:Int) v) (pn p) (fun (s:Int) (i:Int)=>(s,i)) (fun x s=>.inr (s - (psz p x:Int))) (fun s=>some (s,())) (fun i s=>s=62 - 2*(pn p:Int) - (sumZ p i:Int)) (by omega)
  (fun i hi s self hs=>by
   show impl_freeIn.b0 _ _ _ _ _=_
   unfold impl_freeIn.b0
   have hlt:(i:Int) < (pn p:Int):=by omega
   have h1:=pb_lt p (3+2*i)
   have h2:=sumZ_le p i
   have h3:psz p i < 256:=h1
   simp only[Option.bind_some,hlt,decide_true,cond_true,pSpot_eq hp.len (show i < 16 by omega)]
   rw[w64_in (n:=s - (psz p i:Int)) (by omega)])
  (fun i hi s s' hs hf=>by injection hf with hf;simp only[sumZ];omega) (fun s self _=>by
   show impl_freeIn.b0 _ _ _ _ _=_
   unfold impl_freeIn.b0
   simp only[Option.bind_some,Int.lt_irrefl,decide_false,cond_false]
   rfl) (62 - 2*(pn p:Int)) (by simp[sumZ]) k (by omega)
 rw[forI_fold (g:=fun s x=>s - (psz p x:Int)),sumZ_fold] at this
 exact this
end
theorem specStand_eq {p c:List UInt8} {s a:Nat} (hp:p.length=64) (hs:s < 16) (h:a+c.length<=64):spec_l2Stand.sem (p,(s:Int),(a:Int),c,())=some (stand p s a c,()):=by
 refine lift_eq (k:=0) fun k _=>(spec_l2Stand.raw_eq k _).trans ?_
 show spec_l2Stand.p _=_
 unfold spec_l2Stand.p stand
 have h1:(0:Int)<=(a:Int)/\(a:Int)<=(p.length:Int):=by omega
 have hm:min c.length (p.length - a)=c.length:=by omega
 have hl:(over p a c.length c).length=64:=by rw[over_length _ _ (by omega) (Nat.le_refl _),hp]
 have i2:(0:Int)<=((2+2*s:Nat):Int)/\((2+2*s:Nat):Int) < ((64:Nat):Int):=by omega
 have i3:(0:Int)<=((3+2*s:Nat):Int)/\((3+2*s:Nat):Int) < ((64:Nat):Int):=by omega
 simp only[h1,and_self,if_true,Int.toNat_natCast,hm,ix2 (show s < 1000 by omega),ix3 (show s < 1000 by omega),List.length_set,hl,i2,i3,u8_of]
 rw[read_pb (by omega),read_pb (by rw[List.length_set];omega)]
theorem implWrite_eq {p c:List UInt8} {s a:Nat} (hp:p.length=64) (hs:s < 16) (h:a+c.length<=64):impl_write.sem (p,(s:Int),(a:Int),c,())=some (stand p s a c,()):=by
 refine lift_eq (k:=0) fun k _=>(impl_write.raw_eq k _).trans ?_
 show impl_write.p _=_
 unfold impl_write.p stand
 have h1:(0:Int)<=(a:Int)/\(a:Int)<=(p.length:Int):=by omega
 have hm:min c.length (p.length - a)=c.length:=by omega
 have hl:(over p a c.length c).length=64:=by rw[over_length _ _ (by omega) (Nat.le_refl _),hp]
 have i2:(0:Int)<=((2+2*s:Nat):Int)/\((2+2*s:Nat):Int) < ((64:Nat):Int):=by omega
 have i3:(0:Int)<=((3+2*s:Nat):Int)/\((3+2*s:Nat):Int) < ((64:Nat):Int):=by omega
 simp only[implCopied_eq p (by omega),Option.bind_some,h1,and_self,if_true,Int.toNat_natCast,hm,ix2 (show s < 1000 by omega),ix3 (show s < 1000 by omega),List.length_set,hl,i2,i3,u8_of]
 rw[read_pb (by omega),read_pb (by rw[List.length_set];omega)]
section
variable {p:List UInt8} (hp:PageOk p) (c:List UInt8) (hc1:1<=c.length) (hc:c.length<=20)
include hp hc1 hc
theorem gPut_key:∀ m:Nat,moreF p=m->m<=1->¬ (emptyF p=pn p/\16<=pn p)->emptyF p < 16->∀ (d:Int),d=2*(m:Int)->∀ (e:Int),e=((pn p+m:Nat):Int) ->
   (bif decide (freeF p < w64 ((c.length:Int)+d)) then (some (([]:List UInt8),(0:Int),(9:Int),()):Option spec_l2Put.Out) else
    bif decide (w64 ((plo p:Int) - (c.length:Int)) < w64 ((2:Int)+w64 ((2:Int)*e))) then some (([]:List UInt8),(0:Int),(8:Int),()) else
     if 0<=(0:Int)/\(0:Int) < (p.length:Int) then ((p[0]?).bind fun x18=>if 0<=(1:Int)/\(1:Int) < ((p.set 0 (UInt8.ofInt e)).length:Int) then (((p.set 0 (UInt8.ofInt e))[1]?).bind fun x19=>(spec_l2Stand.sem ((p.set 0 (UInt8.ofInt e)).set 1 (UInt8.ofInt (w64 ((plo p:Int) - (c.length:Int)))),(emptyF p:Int),w64 ((plo p:Int) - (c.length:Int)),c,())).bind fun r21=>some (r21.1,(emptyF p:Int),(0:Int),())) else none) else none) =
    some (if putF p c=0 then putQ p c else [],if putF p c=0 then (emptyF p:Int) else 0,putF p c,()):=by
 intro m hm hm1 hno he d hd e hee
 have hn:=hp.n
 have hlo:=hp.lo
 have hhi:=hp.hi
 obtain ⟨e1,e2,e3⟩:=emptyF_spec p
 obtain ⟨f1,f2⟩:=free_ok hp
 subst hd;subst hee
 unfold putF
 rw[if_neg hno,hm]
 have w1:w64 ((c.length:Int)+2*(m:Int))=(c.length:Int)+2*(m:Int):=w64_in (by omega)
 rw[w1]
 by_cases c1:freeF p < (c.length:Int)+2*(m:Int)
 ·simp only[c1,decide_true,cond_true,if_true,show ¬ ((9:Int)=0) by decide,if_false]
 have w2:w64 ((plo p:Int) - (c.length:Int))=(plo p:Int) - (c.length:Int):=w64_in (by omega)
 have w3:w64 ((2:Int)+w64 ((2:Int)*((pn p+m:Nat):Int)))=((2+2*(pn p+m):Nat):Int):=ix2 (by omega)
 simp only[c1,decide_false,cond_false,if_false,w2,w3]
 by_cases c2:plo p < 2+2*(pn p+m)+c.length
 ·have:(plo p:Int) - (c.length:Int) < ((2+2*(pn p+m):Nat):Int):=by omega
  simp only[c2,this,decide_true,cond_true,if_true,show ¬ ((8:Int)=0) by decide,if_false]
 have n2:¬ ((plo p:Int) - (c.length:Int) < ((2+2*(pn p+m):Nat):Int)):=by omega
 have hl:=hp.len
 have g1:(0:Int)<=0/\(0:Int) < (p.length:Int):=by omega
 have g2:(0:Int)<=1/\(1:Int) < (p.length:Int):=by omega
 have w4:(plo p:Int) - (c.length:Int)=((plo p - c.length:Nat):Int):=by omega
 have n4:¬ (((plo p - c.length:Nat):Int) < ((2+2*(pn p+m):Nat):Int)):=by omega
 simp only[c2,n4,decide_false,cond_false,if_false,g1,g2,and_self,if_true,List.length_set,w4,u8_of]
 rw[read_pb (by omega),read_pb (by rw[List.length_set];omega)]
 rw[specStand_eq (by rw[List.length_set,List.length_set];omega) he (by omega)]
 simp only[Option.bind_some]
 have:stand ((p.set 0 (UInt8.ofNat (pn p+m))).set 1 (UInt8.ofNat (plo p - c.length))) (emptyF p) (plo p - c.length) c=putQ p c:=by
  unfold putQ
  rw[hm]
  have hl1:(stand p (emptyF p) (plo p - c.length) c).length=64:=stand_len hl _ (by omega)
  refine pb_ext ?_ fun j hj=>?_
  ·rw[stand_len (by rw[List.length_set,List.length_set];omega) _ (by omega),List.length_set,List.length_set,hl1]
  rw[stand_pb (by rw[List.length_set,List.length_set];omega) (by omega) he,pb_set,pb_set,pb_set,pb_set,stand_pb hl (by omega) he]
  simp only[List.length_set,hl,hl1]
  have o1:2+2*emptyF p<=plo p - c.length:=by
   unfold moreF at hm
   split at hm <;> omega
  by_cases j0:j=0
  ·subst j0
   rw[if_neg (by omega),if_neg (by omega),if_neg (by omega),if_neg (by omega),if_pos ⟨rfl,by omega⟩,if_neg (by omega),if_pos ⟨rfl,by omega⟩]
  ·by_cases j1:j=1
   ·subst j1
    rw[if_neg (by omega),if_neg (by omega),if_neg (by omega),if_pos ⟨rfl,by omega⟩,if_pos ⟨rfl,by omega⟩]
   ·have k0:¬ (0=j/\0 < 64):=by omega
    have k1:¬ (1=j/\1 < 64):=by omega
    simp only[k0,k1,if_false]
 rw[this]
theorem gPut_eq:spec_l2Put.sem (p,c,())=some (if putF p c=0 then putQ p c else [],if putF p c=0 then (emptyF p:Int) else 0,putF p c,()):=by
 have hn:=hp.n
 have hlo:=hp.lo
 have hhi:=hp.hi
 obtain ⟨e1,e2,e3⟩:=emptyF_spec p
 refine lift_eq (k:=0) fun k _=>(spec_l2Put.raw_eq k _).trans ?_
 show spec_l2Put.p _=_
 unfold spec_l2Put.p
 obtain ⟨f1,f2⟩:=free_ok hp
 simp only[specEmpty_eq hp,pCount_eq hp.len,specFree_eq hp,pLow_eq hp.len,specCopy_eq p (by have:=hp.len;omega),Option.bind_some]
 by_cases he:emptyF p=pn p
 ·have he':(emptyF p:Int)=(pn p:Int):=by omega
  rw[decide_eq_true he',cond_true]
  by_cases h16:16<=pn p
  ·have h16':(16:Int)<=(pn p:Int):=by omega
   have:putF p c=2:=by unfold putF;rw[if_pos ⟨he,h16⟩]
   simp only[h16',decide_true,cond_true,this,show ¬ ((2:Int)=0) by decide,if_false]
  ·have h16':¬ (16:Int)<=(pn p:Int):=by omega
   simp only[h16',decide_false,cond_false]
   have hw:w64 ((pn p:Int)+1)=((pn p+1:Nat):Int):=by rw[w64_in (by omega)];omega
   have:=gPut_key hp c hc1 hc 1 (by unfold moreF;rw[if_pos he]) (by omega) (fun h=>h16 h.2) (by omega) 2 (by omega) (w64 ((pn p:Int)+1)) hw
   exact this
 ·have he':¬ ((emptyF p:Int)=(pn p:Int)):=by omega
  simp only[he',decide_false,cond_false]
  exact gPut_key hp c hc1 hc 0 (by unfold moreF;rw[if_neg he]) (by omega) (fun h=>he h.1) (by omega) 0 (by omega) (pn p:Int) (by omega)
end
end OT
set_option linter.unusedVariables false
set_option linter.unusedSimpArgs false
set_option linter.unusedSectionVars false
namespace OT
open Go
section
variable {p:List UInt8} (hp:PageOk p) (c:List UInt8) (hc1:1<=c.length) (hc:c.length<=20)
include hp hc1 hc
theorem cellFault_eq:impl_cellFault.sem (p,c,())=some ((0:Int),()):=by
 refine lift_eq (k:=0) fun k _=>(impl_cellFault.raw_eq k _).trans ?_
 show impl_cellFault.p _=_
 unfold impl_cellFault.p
 rw[implPage_eq p (by rw[hp.len,maxLen_val];omega),pageF_iff.2 hp]
 have n1:¬ ((c.length:Int) < 1):=by omega
 have n2:¬ ((20:Int) < (c.length:Int)):=by omega
 simp only[Option.bind_some,n1,n2,decide_false,decide_true,Bool.not_true,cond_false]
theorem implPut_eq:impl_PutSlot.sem (p,c,())=some ((putF p c,if putF p c=0 then (emptyF p:Int) else 0,if putF p c=0 then putQ p c else [],()),()):=by
 have hn:=hp.n
 have hlo:=hp.lo
 have hhi:=hp.hi
 have hl:=hp.len
 obtain ⟨e1,e2,e3⟩:=emptyF_spec p
 obtain ⟨f1,f2⟩:=free_ok hp
 refine lift_eq (k:=100) fun k hk=>(impl_PutSlot.raw_eq k _).trans ?_
 unfold impl_PutSlot.p
 simp only[cellFault_eq hp c hc1 hc,pSlots_eq hp.len,Option.bind_some,decide_true,Bool.not_true,cond_false]
 have:=range_loop (B:=fun self v=>impl_PutSlot.B0 k self (fun z=>impl_PutSlot.Q0 k (p,c,()) (pn p:Int) z) (p,c,()) (pn p:Int) v) (pn p) (fun (_:Unit) (i:Int)=>i) (fun x _=>if psz p x=0 then .inl (impl_PutSlot.Q0 k (p,c,()) (pn p:Int) (x:Int)) else .inr ()) (fun _=>impl_PutSlot.Q0 k (p,c,()) (pn p:Int) (pn p:Int)) (fun _ _=>True) (by omega)
  (fun i hi s self _=>by
   show impl_PutSlot.b0 _ _ _ _ _=_
   unfold impl_PutSlot.b0
   have hlt:(i:Int) < (pn p:Int):=by omega
   simp only[hlt,decide_true,cond_true,ix3 (show i < 1000 by omega),Int.natCast_nonneg,if_true,Int.toNat_natCast,read_pb (show 3+2*i < p.length by omega),(pb_get (show 3+2*i < p.length by omega)).2]
   show (bif !decide ((psz p i:Int)=0) then _ else _)=_
   by_cases hz:psz p i=0
   ·simp only[hz,Int.natCast_zero,decide_true,Bool.not_true,cond_false,if_true]
   ·have:¬ ((psz p i:Int)=0):=by omega
    simp only[hz,this,decide_false,Bool.not_false,cond_true,if_false])
  (fun _ _ _ _ _ _=>trivial) (fun s self _=>by
   show impl_PutSlot.b0 _ _ _ _ _=_
   unfold impl_PutSlot.b0
   simp only[Int.lt_irrefl,decide_false,cond_false]) () trivial k (by omega)
 refine this.trans ?_
 rw[List.range_eq_range']
 have h2:=forI_empty p (fun n=>impl_PutSlot.Q0 k (p,c,()) (pn p:Int) (n:Int)) (pn p) 0 0
 simp only[Nat.zero_add] at h2
 refine h2.trans ?_
 show impl_PutSlot.q0 _ _ (emptyF p:Int)=_
 unfold impl_PutSlot.q0
 simp only[implFree_eq hp,Option.bind_some,read_pb (show 1 < p.length by omega),(pb_get (show 1 < p.length by omega)).2,wpb]
 show (bif decide ((emptyF p:Int)=(pn p:Int)) then _ else _)=_
 have key:∀ m:Nat,moreF p=m->m<=1->¬ (emptyF p=pn p/\16<=pn p)->emptyF p < 16->∀ (d:Int),d=2*(m:Int) ->
   (bif decide (freeF p < w64 ((c.length:Int)+d)) then (some (((9:Int),(0:Int),([]:List UInt8),()),()):Option impl_PutSlot.Out) else
    bif decide (w64 ((plo p:Int) - (w64 ((w64 ((2:Int)+(w64 ((2:Int)*(pn p:Int)))))+d))) < (c.length:Int)) then some (((8:Int),(0:Int),([]:List UInt8),()),()) else
     (impl_write.sem (p,(emptyF p:Int),w64 ((plo p:Int) - (c.length:Int)),c,())).bind fun r619=>if 0<=(0:Int)/\(0:Int) < (r619.1.length:Int) then ((r619.1[0]?).bind fun x620=>let y621:=r619.1.set 0 (UInt8.ofInt (w64 ((pn p:Int)+(w64 (d.tdiv (2:Int))))));if 0<=(1:Int)/\(1:Int) < (y621.length:Int) then ((y621[1]?).bind fun x622=>let y623:=y621.set 1 (UInt8.ofInt (w64 ((plo p:Int) - (c.length:Int))));some (((0:Int),(emptyF p:Int),y623,()),())) else none) else none) =
    some ((putF p c,if putF p c=0 then (emptyF p:Int) else 0,if putF p c=0 then putQ p c else [],()),()):=by
  intro m hm hm1 hno he d hd
  subst hd
  unfold putF
  rw[if_neg hno,hm]
  have w1:w64 ((c.length:Int)+2*(m:Int))=(c.length:Int)+2*(m:Int):=w64_in (by omega)
  rw[w1]
  by_cases c1:freeF p < (c.length:Int)+2*(m:Int)
  ·simp only[c1,decide_true,cond_true,if_true,show ¬ ((9:Int)=0) by decide,if_false]
  have w2:w64 ((plo p:Int) - (c.length:Int))=(plo p:Int) - (c.length:Int):=w64_in (by omega)
  have w3:w64 ((plo p:Int) - (w64 ((w64 ((2:Int)+w64 ((2:Int)*(pn p:Int))))+2*(m:Int))))=(plo p:Int) - ((2+2*(pn p+m):Nat):Int):=by
   rw[ix2 (show pn p < 1000 by omega),w64_in (n:=((2+2*pn p:Nat):Int)+2*(m:Int)) (by omega),w64_in (by omega)]
   omega
  have w5:w64 ((pn p:Int)+w64 ((2*(m:Int)).tdiv 2))=((pn p+m:Nat):Int):=by
   have:(2*(m:Int)).tdiv 2=(m:Int):=by rw[Int.tdiv_eq_ediv_of_nonneg (by omega)];omega
   rw[this,w64_in (n:=(m:Int)) (by omega),w64_in (by omega)]
   omega
  simp only[c1,decide_false,cond_false,if_false,w2,w3,w5]
  by_cases c2:plo p < 2+2*(pn p+m)+c.length
  ·have:(plo p:Int) - ((2+2*(pn p+m):Nat):Int) < (c.length:Int):=by omega
   simp only[c2,this,decide_true,cond_true,if_true,show ¬ ((8:Int)=0) by decide,if_false]
  have n2:¬ ((plo p:Int) - ((2+2*(pn p+m):Nat):Int) < (c.length:Int)):=by omega
  have w4:(plo p:Int) - (c.length:Int)=((plo p - c.length:Nat):Int):=by omega
  have hl1:(stand p (emptyF p) (plo p - c.length) c).length=64:=stand_len hl _ (by omega)
  have g1:(0:Int)<=0/\(0:Int) < ((64:Nat):Int):=by omega
  have g2:(0:Int)<=1/\(1:Int) < ((64:Nat):Int):=by omega
  simp only[c2,n2,decide_false,cond_false,if_false,w4,implWrite_eq hl he (show plo p - c.length+c.length<=64 by omega),Option.bind_some,List.length_set,hl1,g1,g2,and_self,if_true,u8_of]
  rw[read_pb (by omega),read_pb (by rw[List.length_set];omega)]
  unfold putQ
  rw[hm]
 by_cases he:emptyF p=pn p
 ·have he':(emptyF p:Int)=(pn p:Int):=by omega
  rw[decide_eq_true he',cond_true]
  by_cases h16:pn p=16
  ·have h16':(pn p:Int)=16:=by omega
   have:putF p c=2:=by unfold putF;rw[if_pos ⟨he,by omega⟩]
   rw[decide_eq_true h16',cond_true,this,if_neg (by decide),if_neg (by decide)]
  ·have h16':¬ (pn p:Int)=16:=by omega
   rw[decide_eq_false h16',cond_false]
   have:=key 1 (by unfold moreF;rw[if_pos he]) (by omega) (fun h=>h16 (by omega)) (by omega) 2 (by omega)
   exact this
 ·have he':¬ ((emptyF p:Int)=(pn p:Int)):=by omega
  simp only[he',decide_false,cond_false]
  exact key 0 (by unfold moreF;rw[if_neg he]) (by omega) (fun h=>he h.1) (by omega) 0 (by omega)
variable {s:Nat} (hs:s < pn p) (hz:psz p s≠0)
include hs hz
theorem specSet_eq:spec_l2Set.sem (p,(s:Int),c,())=some (if setF p s c=0 then setQ p s c else [],setF p s c,()):=by
 have hn:=hp.n
 have hlo:=hp.lo
 have hhi:=hp.hi
 have hl:=hp.len
 obtain ⟨f1,f2⟩:=free_ok hp
 obtain ⟨s1,s2⟩:=hp.slot s hs hz
 refine lift_eq (k:=0) fun k _=>(spec_l2Set.raw_eq k _).trans ?_
 show spec_l2Set.p _=_
 unfold spec_l2Set.p setF setQ
 simp only[pSize_eq hl (show s < 16 by omega),specCopy_eq p (by omega),pPlace_eq hl (show s < 16 by omega),specFree_eq hp,pLow_eq hl,pCount_eq hl,Option.bind_some]
 by_cases c1:c.length<=psz p s
 ·have c1':(c.length:Int)<=(psz p s:Int):=by omega
  have w1:w64 ((w64 ((pat p s:Int)+(psz p s:Int))) - (c.length:Int))=((pat p s+psz p s - c.length:Nat):Int):=by
   rw[w64_in (n:=(pat p s:Int)+(psz p s:Int)) (by omega),w64_in (by omega)];omega
  simp only[c1,c1',decide_true,cond_true,if_true,w1,specStand_eq hl (show s < 16 by omega) (show pat p s+psz p s - c.length+c.length<=64 by omega),Option.bind_some]
 have c1':¬ (c.length:Int)<=(psz p s:Int):=by omega
 have w2:w64 (freeF p+(psz p s:Int))=freeF p+(psz p s:Int):=w64_in (by omega)
 simp only[c1,c1',decide_false,cond_false,if_false,w2]
 by_cases c2:freeF p+(psz p s:Int) < (c.length:Int)
 ·simp only[c2,decide_true,cond_true,if_true,show ¬ ((9:Int)=0) by decide,if_false]
 have w3:w64 ((plo p:Int) - (c.length:Int))=(plo p:Int) - (c.length:Int):=w64_in (by omega)
 simp only[c2,decide_false,cond_false,if_false,w3,ix2 (show pn p < 1000 by omega)]
 by_cases c3:plo p < 2+2*pn p+c.length
 ·have:(plo p:Int) - (c.length:Int) < ((2+2*pn p:Nat):Int):=by omega
  simp only[c3,this,decide_true,cond_true,if_true,show ¬ ((8:Int)=0) by decide,if_false]
 have n3:¬ ((plo p:Int) - (c.length:Int) < ((2+2*pn p:Nat):Int)):=by omega
 have w4:(plo p:Int) - (c.length:Int)=((plo p - c.length:Nat):Int):=by omega
 have n4:¬ (((plo p - c.length:Nat):Int) < ((2+2*pn p:Nat):Int)):=by omega
 have g2:(0:Int)<=1/\(1:Int) < (p.length:Int):=by omega
 simp only[c3,n4,decide_false,cond_false,if_false,w4,g2,and_self,if_true,u8_of]
 rw[read_pb (by omega),specStand_eq (by rw[List.length_set];omega) (by omega) (by omega)]
 simp only[Option.bind_some]
 have:stand (p.set 1 (UInt8.ofNat (plo p - c.length))) s (plo p - c.length) c=(stand p s (plo p - c.length) c).set 1 (UInt8.ofNat (plo p - c.length)):=by
  have hl1:(stand p s (plo p - c.length) c).length=64:=stand_len hl _ (by omega)
  refine pb_ext ?_ fun j hj=>?_
  ·rw[stand_len (by rw[List.length_set];omega) _ (by omega),List.length_set,hl1]
  rw[stand_pb (by rw[List.length_set];omega) (by omega) (by omega),pb_set,pb_set,stand_pb hl (by omega) (by omega),hl1,hl]
  by_cases j1:j=1
  ·subst j1
   rw[if_neg (by omega),if_neg (by omega),if_neg (by omega),if_pos ⟨rfl,by omega⟩,if_pos ⟨rfl,by omega⟩]
  ·have k1:¬ (1=j/\1 < 64):=by omega
   simp only[k1,if_false]
 rw[this]
end
def trimQ (v:List UInt8):List UInt8:=v.set 0 (UInt8.ofNat (trimN v (pn v)))
theorem trimN_same {v w:List UInt8} (h:∀ i,psz v i=psz w i):∀ m,trimN v m=trimN w m
 | 0=>rfl
 | m+1=>by simp only[trimN,h,trimN_same h m]
theorem trim_step {v:List UInt8} (hl:v.length=64) (h0:0 < pn v) (hz:psz v (pn v - 1)=0):trimQ (v.set 0 (UInt8.ofNat (pn v - 1)))=trimQ v/\pn (v.set 0 (UInt8.ofNat (pn v - 1)))=pn v - 1:=by
 have hlt:pn v < 256:=pb_lt v 0
 have hpn:pn (v.set 0 (UInt8.ofNat (pn v - 1)))=pn v - 1:=by
  show pb _ 0=_
  rw[pb_set,if_pos ⟨rfl,by omega⟩,ofNat_toNat (by omega)]
 refine ⟨?_,hpn⟩
 have hs:∀ i,psz (v.set 0 (UInt8.ofNat (pn v - 1))) i=psz v i:=fun i=>by
  show pb _ _=pb _ _
  rw[pb_set,if_neg (by omega)]
 unfold trimQ
 rw[hpn,trimN_same hs,List.set_set]
 obtain ⟨n,hn⟩:∃ n,pn v=n+1:=⟨pn v - 1,by omega⟩
 rw[hn] at hz ⊢
 simp only[trimN,Nat.add_sub_cancel] at hz ⊢
 rw[if_pos hz]
theorem trim_stop {v:List UInt8} (h:pn v=0\/psz v (pn v - 1)≠0):trimQ v=v:=by
 unfold trimQ
 refine set_same ?_ ?_
 ·show pn v=_
  rcases h with h | h
  ·rw[h];rfl
  ·by_cases h0:pn v=0
   ·rw[h0];rfl
   obtain ⟨n,hn⟩:∃ n,pn v=n+1:=⟨pn v - 1,by omega⟩
   rw[hn] at h ⊢
   simp only[trimN,Nat.add_sub_cancel] at h ⊢
   rw[if_neg h]
 ·have:=(trimN_spec v (pn v)).1
  have hlt:pn v < 256:=pb_lt v 0
  omega
theorem u8_pred {v:List UInt8} (hl:v.length=64) (h0:0 < pn v):UInt8.ofInt ((((v[0]'(by omega)).toNat:Nat):Int) - 1)=UInt8.ofNat (pn v - 1):=by
 have h1:(v[0]'(by omega)).toNat=pn v:=(pb_get (show 0 < v.length by omega)).2
 rw[h1]
 have:((pn v:Nat):Int) - 1=((pn v - 1:Nat):Int):=by omega
 rw[this]
 exact u8_of _
section
variable {p:List UInt8} (hp:PageOk p) {s:Nat} (hs:s < pn p)
include hp hs
theorem drop0_len:(drop0 p s).length=64:=by unfold drop0;rw[List.length_set,List.length_set,hp.len]
theorem drop0_pn:pn (drop0 p s)=pn p:=by
 show pb _ 0=pb _ 0
 unfold drop0
 rw[pb_set,if_neg (by omega),pb_set,if_neg (by omega)]
theorem dropQ_trim:dropQ p s=trimQ (drop0 p s):=by unfold dropQ trimQ;rw[drop0_pn hp hs]
theorem specDrop_eq:spec_l2Drop.sem (p,(s:Int),())=some (dropQ p s,()):=by
 have hn:=hp.n
 have hl:=hp.len
 refine lift_eq (k:=100) fun k hk=>(spec_l2Drop.raw_eq k _).trans ?_
 unfold spec_l2Drop.p
 have i2:(0:Int)<=((2+2*s:Nat):Int)/\((2+2*s:Nat):Int) < (p.length:Int):=by omega
 have i3:(0:Int)<=((3+2*s:Nat):Int)/\((3+2*s:Nat):Int) < (p.length:Int):=by omega
 simp only[specCopy_eq p (by omega),Option.bind_some,ix2 (show s < 1000 by omega),ix3 (show s < 1000 by omega),i2,i3,and_self,if_true,Int.toNat_natCast,List.length_set]
 rw[read_pb (by omega),read_pb (by rw[List.length_set];omega),dropQ_trim hp hs]
 have hd:=drop0_pn hp hs
 refine rawIter_eq (fun v=>(trimQ v,())) (fun v=>v.length=64/\pn v<=16) pn (fun v ⟨hv,hvn⟩ self=>?_) k (drop0 p s) ⟨drop0_len hp hs,by omega⟩ (by omega)
 show spec_l2Drop.b0 _ _ _ _=_\/∃ v',spec_l2Drop.b0 _ _ _ _=_/\_
 unfold spec_l2Drop.b0
 have g:(0:Int)<=0/\(0:Int) < (v.length:Int):=by omega
 have e0:((v[0]'(by omega)).toNat:Nat)=pn v:=(pb_get (show 0 < v.length by omega)).2
 simp only[g,and_self,if_true,read_pb (show 0 < v.length by omega)]
 by_cases h0:pn v=0
 ·left
  have:¬ ((0:Int) < (((v[0]'(by omega)).toNat:Nat):Int)):=by rw[e0];omega
  rw[decide_eq_false this,trim_stop (Or.inl h0)]
  rfl
 have h1:(0:Int) < (((v[0]'(by omega)).toNat:Nat):Int):=by rw[e0];omega
 have hw:w64 ((w64 (((v[0]'(by omega)).toNat:Nat):Int)) - 1)=((pn v - 1:Nat):Int):=by
  rw[e0,w64_in (n:=((pn v:Nat):Int)) (by omega),w64_in (by omega)];omega
 rw[decide_eq_true h1,hw,pSize_eq hv (show pn v - 1 < 16 by omega)]
 simp only[Option.bind_some,cond_true]
 by_cases hz:psz v (pn v - 1)=0
 ·right
  obtain ⟨t1,t2⟩:=trim_step hv (by omega) hz
  refine ⟨v.set 0 (UInt8.ofNat (pn v - 1)),?_,by rw[t1],⟨by rw[List.length_set,hv],by omega⟩,by omega⟩
  simp only[hz,Int.natCast_zero,decide_true,cond_true]
  rw[u8_pred hv (by omega)]
 ·left
  have:¬ ((psz v (pn v - 1):Int)=0):=by omega
  rw[decide_eq_false this,trim_stop (Or.inr hz)]
  rfl
end
end OT
set_option linter.unusedVariables false
set_option linter.unusedSimpArgs false
set_option linter.unusedSectionVars false
namespace OT
open Go
theorem pb_app (a b:List UInt8) (j:Nat):pb (a++b) j=if j < a.length then pb a j else pb b (j - a.length):=by
 unfold pb
 simp only[List.getD_eq_getElem?_getD]
 split
 ·rename_i h;rw[List.getElem?_append_left h]
 ·rename_i h;rw[List.getElem?_append_right (by omega)]
theorem pb_zero (n j:Nat):pb (List.replicate n (0:UInt8)) j=0:=by
 unfold pb
 simp only[List.getD_eq_getElem?_getD,List.getElem?_replicate]
 split <;> rfl
section
variable {p:List UInt8} (hp:PageOk p)
include hp
theorem comp0_eq:over (List.replicate 64 (0:UInt8)) 0 (min ((p.take (2+2*pn p)).drop 0).length (List.replicate 64 (0:UInt8)).length) ((p.take (2+2*pn p)).drop 0)=comp0 p:=by
 have hn:=hp.n
 have hl:=hp.len
 have ht:(p.take (2+2*pn p)).length=2+2*pn p:=by rw[List.length_take];omega
 rw[List.drop_zero,List.length_replicate,show min (p.take (2+2*pn p)).length 64=(p.take (2+2*pn p)).length by omega]
 refine pb_ext ?_ fun j hj=>?_
 ·rw[over_length _ _ (by rw[List.length_replicate];omega) (Nat.le_refl _)]
  unfold comp0
  rw[List.length_append,List.length_replicate,List.length_replicate];omega
 ·rw[pb_over (by rw[List.length_replicate];omega)]
  unfold comp0
  rw[pb_app,ht,pb_zero,pb_zero]
  by_cases h:j < 2+2*pn p
  ·rw[if_pos ⟨by omega,by omega⟩,if_pos h,Nat.sub_zero]
  ·rw[if_neg (by omega),if_neg h]
theorem comp_at {k:Nat} (hk:k < pn p) (hz:psz p k≠0):(compL p k).1.length=64/\psz p k<=(compL p k).2/\(compL p k).2<=64/\psz (compL p k).1 k=psz p k/\2+2*pn p<=(compL p k).2 - psz p k:=by
 have I:=comp_inv hp k (by omega)
 have hroom:=sum_room hp
 have hm:=sumZ_mono p (show k+1<=pn p from hk)
 have hlo:=hp.lo
 have ha:=I.a
 simp only[sumZ] at hm
 exact ⟨I.len,by omega,by omega,I.sz k hk,by omega⟩
theorem comp_end:(compL p (pn p)).1.length=64/\(compL p (pn p)).2<=64:=by
 have I:=comp_inv hp (pn p) (Nat.le_refl _)
 have ha:=I.a
 exact ⟨I.len,by omega⟩
theorem specComp_eq:spec_l2Compact.sem (p,())=some (compQ p,()):=by
 have hn:=hp.n
 have hl:=hp.len
 refine lift_eq (k:=100) fun k hk=>(spec_l2Compact.raw_eq k _).trans ?_
 unfold spec_l2Compact.p
 have g1:(0:Int)<=64/\(64:Int)<=64/\(64:Int)<=(CAP:Int):=by unfold CAP;omega
 have g2:(0:Int)<=((2+2*pn p:Nat):Int)/\((2+2*pn p:Nat):Int)<=(p.length:Int):=by omega
 simp only[pCount_eq hl,Option.bind_some,ix2 (show pn p < 1000 by omega),g1,g2,and_self,if_true,Int.toNat_natCast]
 rw[comp0_eq hp]
 have:=range_loop (B:=fun self v=>spec_l2Compact.B0 k self (fun z=>spec_l2Compact.Q0 k (p,()) (pn p:Int) z) (p,()) (pn p:Int) v) (pn p) (fun (s:List UInt8×Nat) (i:Int)=>(s.1,(s.2:Int),i)) (fun x s=>.inr (compS p s x)) (fun s=>some (s.1.set 1 (UInt8.ofNat s.2),())) (fun i s=>s=compL p i) (by omega)
  (fun i hi s self hs=>by
   subst hs
   show spec_l2Compact.b0 _ _ _ _ _=_
   unfold spec_l2Compact.b0 compS
   have hlt:(i:Int) < (pn p:Int):=by omega
   simp only[hlt,decide_true,cond_true,pSize_eq hl (show i < 16 by omega),Option.bind_some]
   by_cases hz:psz p i=0
   ·simp only[hz,Int.natCast_zero,decide_true,cond_true,if_true]
   ·have hz':¬ ((psz p i:Int)=0):=by omega
    obtain ⟨c1,c2,c3,c4,c5⟩:=comp_at hp hi hz
    have hcl:=cellP_len hp hi
    have hw:w64 (((compL p i).2:Int) - (psz p i:Int))=(((compL p i).2 - psz p i:Nat):Int):=by rw[w64_in (by omega)];omega
    simp only[hz,hz',decide_false,cond_false,if_false,specCellAt_eq hp hi,Option.bind_some,hcl,hw,specStand_eq c1 (show i < 16 by omega) (show (compL p i).2 - psz p i+(cellP p i).length<=64 by omega)])
  (fun i hi s s' hs hf=>by injection hf with hf;subst hf;rw[hs,compL_succ]) (fun s self hs=>by
   subst hs
   obtain ⟨c1,c2⟩:=comp_end hp
   show spec_l2Compact.b0 _ _ _ _ _=_
   unfold spec_l2Compact.b0
   simp only[Int.lt_irrefl,decide_false,cond_false]
   show spec_l2Compact.q0 _ _ _=_
   unfold spec_l2Compact.q0
   have g:(0:Int)<=1/\(1:Int) < ((compL p (pn p)).1.length:Int):=by omega
   simp only[g,and_self,if_true,u8_of]
   rw[read_pb (by omega)]) (comp0 p,64) rfl k (by omega)
 rw[forI_fold (g:=fun s x=>compS p s x)] at this
 exact this
theorem implComp_eq:impl_CompactPage.sem (p,())=some (((0:Int),(0:Int),compQ p,()),()):=by
 have hn:=hp.n
 have hl:=hp.len
 refine lift_eq (k:=100) fun k hk=>(impl_CompactPage.raw_eq k _).trans ?_
 unfold impl_CompactPage.p
 have g1:(0:Int)<=64/\(64:Int)<=64/\(64:Int)<=(CAP:Int):=by unfold CAP;omega
 have g2:(0:Int)<=((2+2*pn p:Nat):Int)/\((2+2*pn p:Nat):Int)<=(p.length:Int):=by omega
 rw[implPage_eq p (by rw[hp.len,maxLen_val];omega),pageF_iff.2 hp]
 simp only[pSlots_eq hl,Option.bind_some,decide_true,Bool.not_true,cond_false,ix2 (show pn p < 1000 by omega),g1,g2,and_self,if_true,Int.toNat_natCast]
 rw[comp0_eq hp]
 have:=range_loop (B:=fun self v=>impl_CompactPage.B0 k self (fun z=>impl_CompactPage.Q0 k (p,()) (pn p:Int) z) (p,()) (pn p:Int) v) (pn p) (fun (s:List UInt8×Nat) (i:Int)=>(s.1,(s.2:Int),i)) (fun x s=>.inr (compS p s x)) (fun s=>some (((0:Int),(0:Int),s.1.set 1 (UInt8.ofNat s.2),()),())) (fun i s=>s=compL p i) (by omega)
  (fun i hi s self hs=>by
   subst hs
   show impl_CompactPage.b0 _ _ _ _ _=_
   unfold impl_CompactPage.b0 compS
   have hlt:(i:Int) < (pn p:Int):=by omega
   simp only[hlt,decide_true,cond_true,implHas_eq hp i,Option.bind_some]
   by_cases hz:psz p i=0
   ·simp only[hz,decide_true,Bool.not_true,Bool.and_false,Bool.not_false,cond_true,if_true]
   ·obtain ⟨c1,c2,c3,c4,c5⟩:=comp_at hp hi hz
    have hcl:=cellP_len hp hi
    have hw:w64 (((compL p i).2:Int) - (psz p i:Int))=(((compL p i).2 - psz p i:Nat):Int):=by rw[w64_in (by omega)];omega
    have hhas:(decide (i < pn p)&&!decide (psz p i=0))=true:=by simp[hi,hz]
    have g3:(0:Int)<=(((compL p i).2 - psz p i:Nat):Int)/\(((compL p i).2 - psz p i:Nat):Int)<=((compL p i).1.length:Int):=by omega
    have hm:min (psz p i) ((compL p i).1.length - ((compL p i).2 - psz p i))=psz p i:=by omega
    have hol:(over (compL p i).1 ((compL p i).2 - psz p i) (psz p i) (cellP p i)).length=64:=by rw[over_length _ _ (by omega) (by omega),c1]
    have g4:(0:Int)<=((2+2*i:Nat):Int)/\((2+2*i:Nat):Int) < ((64:Nat):Int):=by omega
    rw[hhas]
    simp only[Bool.not_true,cond_false,if_neg hz,implCellAt_eq hp hi,Option.bind_some,hcl,hw,g3,and_self,if_true,Int.toNat_natCast,hm,ix2 (show i < 1000 by omega),hol,g4,u8_of]
    rw[read_pb (by omega)]
    have hst:stand (compL p i).1 i ((compL p i).2 - psz p i) (cellP p i)=(over (compL p i).1 ((compL p i).2 - psz p i) (psz p i) (cellP p i)).set (2+2*i) (UInt8.ofNat ((compL p i).2 - psz p i)):=by
     unfold stand
     rw[hcl]
     refine set_same ?_ (by omega)
     rw[pb_set,if_neg (by omega),<- hcl,pb_over (by omega),if_neg (by omega),hcl]
     exact c4
    rw[hst])
  (fun i hi s s' hs hf=>by injection hf with hf;subst hf;rw[hs,compL_succ]) (fun s self hs=>by
   subst hs
   obtain ⟨c1,c2⟩:=comp_end hp
   show impl_CompactPage.b0 _ _ _ _ _=_
   unfold impl_CompactPage.b0
   simp only[Int.lt_irrefl,decide_false,cond_false]
   show impl_CompactPage.q0 _ _ _=_
   unfold impl_CompactPage.q0
   have g:(0:Int)<=1/\(1:Int) < ((compL p (pn p)).1.length:Int):=by omega
   simp only[g,and_self,if_true,u8_of]
   rw[read_pb (by omega)]) (comp0 p,64) rfl k (by omega)
 rw[forI_fold (g:=fun s x=>compS p s x)] at this
 exact this
end
end OT
set_option linter.unusedVariables false
set_option linter.unusedSimpArgs false
namespace OT
open Go
theorem implNew_eq:impl_newPage.sem ((0:UInt8),())=some (newF,()):=by
 refine lift_eq (k:=66) fun k hk=>(impl_newPage.raw_eq k _).trans ?_
 unfold impl_newPage.p
 have:=for_loop (B:=fun self v=>impl_newPage.B0 0 self (fun z=>impl_newPage.Q0 0 ((0:UInt8),()) z) ((0:UInt8),()) v) (List.replicate 64 (0:UInt8)) (fun (s:List UInt8) (i:Int)=>(s,i)) (fun _ s _=>.inr s) (fun s=>(newF,())) (fun _ s=>s=List.replicate 64 (0:UInt8)) (by rw[maxLen_val];simp)
  (fun i hi s self hI=>by
   show impl_newPage.b0 _ _ _ _=_
   unfold impl_newPage.b0
   subst hI
   simp only[List.length_replicate] at hi ⊢
   have hlt:(i:Int) < ((64:Nat):Int):=by omega
   have hin:(0:Int)<=(i:Int)/\(i:Int) < ((64:Nat):Int):=by omega
   have hg:(List.replicate 64 (0:UInt8))[i]?=some 0:=(List.getElem?_replicate (n:=64) (i:=i) (a:=(0:UInt8))).trans (if_pos hi)
   have hs:(List.replicate 64 (0:UInt8)).set i 0=List.replicate 64 (0:UInt8):=List.set_replicate_self
   simp only[hlt,hin,and_self,decide_true,cond_true,if_true,Int.toNat_natCast,hg,Option.bind_some,hs])
  (fun i hi s s' hI hs=>by injection hs with hs;rw[<-hs,hI]) (fun s self hI=>by
   show impl_newPage.b0 _ _ _ _=_
   unfold impl_newPage.b0
   subst hI
   simp only[List.length_replicate,Int.lt_irrefl,decide_false,cond_false]
   rfl) (List.replicate 64 (0:UInt8)) rfl k (by simp;omega)
 rw[forI_fold (g:=fun s _=>s)] at this
 have hc:(0:Int)<=64/\(64:Int)<=64/\(64:Int)<=(CAP:Int):=⟨by omega,by omega,by simp only[CAP];omega⟩
 rw[if_pos hc]
 exact this
theorem specNew_eq:spec_l2New.sem ((0:UInt8),())=some (newF,()):=by
 refine lift_eq (k:=66) fun k hk=>(spec_l2New.raw_eq k _).trans ?_
 unfold spec_l2New.p
 have:=for_loop (B:=fun self v=>spec_l2New.B0 0 self (fun z=>spec_l2New.Q0 0 ((0:UInt8),()) z) ((0:UInt8),()) v) (List.replicate 64 (0:UInt8)) (fun (s:List UInt8) (i:Int)=>(s,i)) (fun _ s _=>.inr s) (fun s=>(newF,())) (fun _ s=>s=List.replicate 64 (0:UInt8)) (by rw[maxLen_val];simp)
  (fun i hi s self hI=>by
   show spec_l2New.b0 _ _ _ _=_
   unfold spec_l2New.b0
   subst hI
   simp only[List.length_replicate] at hi ⊢
   have hlt:(i:Int) < (64:Int):=by omega
   have hin:(0:Int)<=(i:Int)/\(i:Int) < ((64:Nat):Int):=by omega
   have hg:(List.replicate 64 (0:UInt8))[i]?=some 0:=(List.getElem?_replicate (n:=64) (i:=i) (a:=(0:UInt8))).trans (if_pos hi)
   have hs:(List.replicate 64 (0:UInt8)).set i 0=List.replicate 64 (0:UInt8):=List.set_replicate_self
   simp only[hlt,hin,and_self,decide_true,cond_true,if_true,Int.toNat_natCast,hg,Option.bind_some,hs])
  (fun i hi s s' hI hs=>by injection hs with hs;rw[<-hs,hI]) (fun s self hI=>by
   show spec_l2New.b0 _ _ _ _=_
   unfold spec_l2New.b0
   subst hI
   have:¬ (((64:Nat):Int) < 64):=by omega
   simp only[List.length_replicate,this,decide_false,cond_false]
   rfl) (List.replicate 64 (0:UInt8)) rfl k (by simp;omega)
 rw[forI_fold (g:=fun s _=>s)] at this
 have hc:(0:Int)<=64/\(64:Int)<=64/\(64:Int)<=(CAP:Int):=⟨by omega,by omega,by simp only[CAP];omega⟩
 rw[if_pos hc]
 exact this
end OT
set_option linter.unusedVariables false
set_option linter.unusedSimpArgs false
set_option linter.unusedSectionVars false
namespace OT
open Go
def pgAt (ps:Pgs) (P:Nat):List UInt8:=ps.getD P []
theorem pgAt_get {ps:Pgs} {P:Nat} (h:P < ps.length):ps[P]?=some (pgAt ps P):=by
 unfold pgAt
 rw[List.getD_eq_getElem?_getD,List.getElem?_eq_getElem h];rfl
theorem pgAt_mem {ps:Pgs} {P:Nat} (h:P < ps.length):pgAt ps P ∈ ps:=List.mem_of_getElem? (pgAt_get h)
theorem pgAt_ok {ps:Pgs} (h:rightP ps) {P:Nat} (hP:P < ps.length):PageOk (pgAt ps P):=h.2 _ (pgAt_mem hP)
theorem pgAt_set (ps:Pgs) (P Q:Nat) (b:List UInt8):pgAt (ps.set P b) Q=if P=Q/\P < ps.length then b else pgAt ps Q:=by
 unfold pgAt
 simp only[List.getD_eq_getElem?_getD,List.getElem?_set]
 by_cases h:P=Q
 ·subst h
  by_cases h2:P < ps.length
  ·simp[h2]
  ·simp[h2,List.getElem?_eq_none (Nat.le_of_not_lt h2)]
 ·simp[h]
theorem pgAt_app (ps:Pgs) (Q:Nat) (b:List UInt8):pgAt (ps++[b]) Q=if Q=ps.length then b else pgAt ps Q:=by
 unfold pgAt
 simp only[List.getD_eq_getElem?_getD]
 by_cases h:Q < ps.length
 ·rw[List.getElem?_append_left h,if_neg (by omega)]
 ·rw[List.getElem?_append_right (by omega),List.getElem?_eq_none (show ps.length<=Q by omega)]
  by_cases h2:Q=ps.length
  ·subst h2;simp
  ·rw[if_neg h2,List.getElem?_eq_none (by simp;omega)]
def cAt (ps:Pgs) (P s:Nat):List UInt8:=cellOf (pgAt ps P) s
theorem cAt_far {ps:Pgs} {P s:Nat} (h:ps.length<=P):cAt ps P s=[]:=by
 have:pgAt ps P=[]:=by unfold pgAt;rw[List.getD_eq_getElem?_getD,List.getElem?_eq_none h];rfl
 unfold cAt
 rw[this]
 rfl
theorem cAt_in {ps:Pgs} (h:rightP ps) {P s:Nat} (hc:cAt ps P s≠[]):P < ps.length/\s < pn (pgAt ps P)/\psz (pgAt ps P) s≠0:=by
 have hP:P < ps.length:=by
  rcases Nat.lt_or_ge P ps.length with h1 | h1
  ·exact h1
  ·exact absurd (cAt_far h1) hc
 have hs:s < pn (pgAt ps P):=by
  rcases Nat.lt_or_ge s (pn (pgAt ps P)) with h1 | h1
  ·exact h1
  ·refine absurd ?_ hc
   unfold cAt cellOf
   rw[if_neg (by omega)]
 exact ⟨hP,hs,fun hz=>hc ((cellOf_nil (pgAt_ok h hP) hs).2 hz)⟩
def turnW (w:L7Work) (P:Nat) (b:List UInt8):L7Work:=
 if P=List.length w.1 then (w.1++[b],w.2.1++[((P:Int),b,())],())
 else if pgAt w.1 P=b then w else (List.set w.1 P b,w.2.1++[((P:Int),b,())],())
structure okW (w:L7Work) (n:Nat):Prop where
 pages:rightP w.1
 el:List.length w.2.1<=n
 eb:∀ e ∈ (w.2.1:List Edit),List.length e.2.1=64
theorem okW.mono {w:L7Work} {n m:Nat} (h:okW w n) (hm:n<=m):okW w m:=⟨h.pages,by have:=h.el;omega,h.eb⟩
theorem turn_pages {w:L7Work} {P:Nat} (hP:P < List.length w.1) (b:List UInt8):(turnW w P b).1=List.set w.1 P b:=by
 unfold turnW
 rw[if_neg (by omega)]
 split
 ·rename_i h
  refine List.ext_getElem? fun i=>?_
  rw[List.getElem?_set]
  split
  ·rename_i h2
   rw[<-h2,pgAt_get hP,h]
  ·rfl
 ·rfl
theorem turn_new (w:L7Work) (b:List UInt8):(turnW w (List.length w.1) b).1=w.1++[b]:=by
 unfold turnW
 rw[if_pos rfl]
theorem turn_ok {w:L7Work} {n P:Nat} (h:okW w n) {b:List UInt8} (hb:PageOk b) (hP:P<=List.length w.1) (h12:P < 12):okW (turnW w P b) (n+1):=by
 have hl:=h.el
 have he:∀ e ∈ ((w.2.1++[((P:Int),b,())]):List Edit),List.length e.2.1=64:=fun e he=>by
  rcases List.mem_append.1 he with he | he
  ·exact h.eb e he
  ·rw[List.mem_singleton.1 he];exact hb.len
 unfold turnW
 split
 ·rename_i h1
  refine ⟨⟨?_,fun p hp=>?_⟩,?_,he⟩
  ·rw[List.length_append];simp only[List.length_cons,List.length_nil];omega
  ·rcases List.mem_append.1 hp with hp | hp
   ·exact h.pages.2 p hp
   ·rw[List.mem_singleton.1 hp];exact hb
  ·rw[List.length_append];simp only[List.length_cons,List.length_nil];omega
 ·split
  ·exact h.mono (by omega)
  ·refine ⟨⟨?_,fun p hp=>?_⟩,?_,he⟩
   ·rw[List.length_set];exact h.pages.1
   ·rcases List.mem_or_eq_of_mem_set hp with hp | hp
    ·exact h.pages.2 p hp
    ·rw[hp];exact hb
   ·rw[List.length_append];simp only[List.length_cons,List.length_nil];omega
theorem turn_cells {w:L7Work} {P:Nat} (hP:P < List.length w.1) (b:List UInt8) (Q s:Nat):cAt (turnW w P b).1 Q s=if Q=P then cellOf b s else cAt w.1 Q s:=by
 rw[turn_pages hP]
 unfold cAt
 rw[pgAt_set]
 by_cases h:Q=P
 ·rw[if_pos ⟨h.symm,hP⟩,if_pos h]
 ·rw[if_neg (fun hh=>h hh.1.symm),if_neg h]
theorem specTurn_eq {w:L7Work} {n P:Nat} (h:okW w n) (hn:n<=1000) {b:List UInt8} (hb:b.length=64) (hP:P<=List.length w.1):spec_l7Turn.sem (w,(P:Int),b,())=some (turnW w P b,()):=by
 refine lift_eq (k:=0) fun k _=>(spec_l7Turn.raw_eq k _).trans ?_
 show spec_l7Turn.p _=_
 unfold spec_l7Turn.p turnW
 have hl:=h.pages.1
 have he:=h.el
 simp only[specCopy_eq b (by omega),Option.bind_some]
 by_cases hp:P=List.length w.1
 ·subst hp
  rw[decide_eq_true rfl,cond_true,if_pos rfl,if_pos (cap_ok (by simp only[List.length_cons,List.length_nil];omega)),if_pos (cap_ok (by simp only[List.length_cons,List.length_nil];omega))]
 ·have hp':¬ ((P:Int)=(List.length w.1:Int)):=by omega
  have hlt:P < List.length w.1:=by omega
  have g:(0:Int)<=(P:Int)/\(P:Int) < (List.length w.1:Int):=by omega
  rw[decide_eq_false hp',cond_false,if_neg hp,if_pos g]
  simp only[Int.toNat_natCast,pgAt_get hlt,Option.bind_some]
  by_cases hq:pgAt w.1 P=b
  ·rw[decide_eq_true hq,cond_true,if_pos hq]
  ·rw[decide_eq_false hq,cond_false,if_neg hq,if_pos g,if_pos (cap_ok (by simp only[List.length_cons,List.length_nil];omega))]
theorem implTurn_eq {w:L7Work} {n P:Nat} (h:okW w n) (hn:n<=1000) {b:List UInt8} (hb:b.length=64) (hP:P<=List.length w.1):impl_desk_edit.sem (w,(P:Int),b,())=some (turnW w P b,()):=by
 refine lift_eq (k:=0) fun k _=>(impl_desk_edit.raw_eq k _).trans ?_
 show impl_desk_edit.p _=_
 unfold impl_desk_edit.p turnW
 have hl:=h.pages.1
 have he:=h.el
 simp only[implCopied_eq b (by omega),Option.bind_some]
 by_cases hp:P=List.length w.1
 ·subst hp
  rw[decide_eq_true rfl,cond_true,if_pos rfl,if_pos (cap_ok (by simp only[List.length_cons,List.length_nil];omega)),if_pos (cap_ok (by simp only[List.length_cons,List.length_nil];omega))]
 ·have hp':¬ ((P:Int)=(List.length w.1:Int)):=by omega
  have hlt:P < List.length w.1:=by omega
  have g:(0:Int)<=(P:Int)/\(P:Int) < (List.length w.1:Int):=by omega
  rw[decide_eq_false hp',cond_false,if_neg hp,if_pos g]
  simp only[Int.toNat_natCast,pgAt_get hlt,Option.bind_some]
  by_cases hq:pgAt w.1 P=b
  ·rw[decide_eq_true hq,cond_true,if_pos hq]
  ·rw[decide_eq_false hq,cond_false,if_neg hq,if_pos g,if_pos (cap_ok (by simp only[List.length_cons,List.length_nil];omega))]
def compW (w:L7Work) (P:Nat):L7Work:=turnW w P (compQ (pgAt w.1 P))
theorem compW_at {w:L7Work} {P:Nat} (hP:P < List.length w.1):pgAt (compW w P).1 P=compQ (pgAt w.1 P):=by
 unfold compW
 rw[turn_pages hP,pgAt_set,if_pos ⟨rfl,hP⟩]
theorem compW_len {w:L7Work} {P:Nat} (hP:P < List.length w.1):List.length (compW w P).1=List.length w.1:=by
 unfold compW
 rw[turn_pages hP,List.length_set]
theorem compW_ok {w:L7Work} {n P:Nat} (h:okW w n) (hP:P < List.length w.1):okW (compW w P) (n+1):=
 turn_ok h (compQ_ok (pgAt_ok h.pages hP)).1 (by omega) (by have:=h.pages.1;omega)
theorem compW_cells {w:L7Work} {n P:Nat} (h:okW w n) (hP:P < List.length w.1) (Q s:Nat):cAt (compW w P).1 Q s=cAt w.1 Q s:=by
 unfold compW
 rw[turn_cells hP]
 split
 ·rename_i hq
  subst hq
  exact (compQ_ok (pgAt_ok h.pages hP)).2.1 s
 ·rfl
theorem implCompW_eq {w:L7Work} {n P:Nat} (h:okW w n) (hn:n<=1000) (hP:P < List.length w.1):impl_desk_compact.sem (w,(P:Int),())=some (compW w P,()):=by
 refine lift_eq (k:=0) fun k _=>(impl_desk_compact.raw_eq k _).trans ?_
 show impl_desk_compact.p _=_
 unfold impl_desk_compact.p compW
 have hp:=pgAt_ok h.pages hP
 have g:(0:Int)<=(P:Int)/\(P:Int) < (List.length w.1:Int):=by omega
 rw[if_pos g]
 simp only[Int.toNat_natCast,pgAt_get hP,Option.bind_some,implComp_eq hp,implTurn_eq h hn (compQ_ok hp).1.len (Nat.le_of_lt hP)]
def putIn (w:L7Work) (P:Nat) (c:List UInt8):Option Nat×L7Work:=
 if putF (pgAt w.1 P) c=8 then
  if putF (compQ (pgAt w.1 P)) c=0 then (some (emptyF (compQ (pgAt w.1 P))),turnW (compW w P) P (putQ (compQ (pgAt w.1 P)) c)) else (none,compW w P)
 else if putF (pgAt w.1 P) c=0 then (some (emptyF (pgAt w.1 P)),turnW w P (putQ (pgAt w.1 P) c)) else (none,w)
structure putInR (w:L7Work) (n P:Nat) (c:List UInt8) (r:Option Nat×L7Work):Prop where
 ok:okW r.2 (n+2)
 len:List.length r.2.1=List.length w.1
 no:r.1=none->∀ Q s,cAt r.2.1 Q s=cAt w.1 Q s
 yes:∀ t,r.1=some t->t < 16/\cAt w.1 P t=[]/\∀ Q s,cAt r.2.1 Q s=if Q=P/\s=t then c else cAt w.1 Q s
theorem emptyF_lt {p c:List UInt8} (h:PageOk p) (hc:putF p c=0):emptyF p < 16:=by
 have:=(emptyF_spec p).1
 have:=h.n
 unfold putF at hc
 split at hc
 ·cases hc
 ·omega
theorem putIn_ok {w:L7Work} {n P:Nat} (h:okW w n) (hP:P < List.length w.1) {c:List UInt8} (hc:1<=c.length):putInR w n P c (putIn w P c):=by
 have hp:=pgAt_ok h.pages hP
 have h12:=h.pages.1
 unfold putIn
 split
 ·obtain ⟨q1,q2,q3⟩:=compQ_ok hp
  have hw:=compW_ok h hP
  have hl:=compW_len hP
  split
  ·rename_i h0
   obtain ⟨r1,r2,r3⟩:=putQ_ok q1 hc h0
   have hP':P < List.length (compW w P).1:=by omega
   refine ⟨turn_ok hw r1 (by omega) (by omega),?_,fun hh=>(by cases hh),fun t ht=>?_⟩
   ·rw[turn_pages hP',List.length_set,hl]
   ·injection ht with ht
    subst ht
    refine ⟨emptyF_lt q1 h0,?_,fun Q s=>?_⟩
    ·show cellOf (pgAt w.1 P) _=[]
     rw[<-q2];exact r3
    ·rw[turn_cells hP',r2,compW_cells h hP]
     by_cases hq:Q=P
     ·subst hq
      by_cases hs:s=emptyF (compQ (pgAt w.1 Q))
      ·rw[if_pos rfl,if_pos hs,if_pos ⟨rfl,hs⟩]
      ·rw[if_pos rfl,if_neg hs,if_neg (fun hh=>hs hh.2),q2]
       rfl
     ·rw[if_neg hq,if_neg (fun hh=>hq hh.1)]
  ·exact ⟨hw.mono (by omega),hl,fun _=>compW_cells h hP,fun t ht=>by cases ht⟩
 ·split
  ·rename_i h0
   obtain ⟨r1,r2,r3⟩:=putQ_ok hp hc h0
   refine ⟨(turn_ok h r1 (by omega) (by omega)).mono (by omega),?_,fun hh=>(by cases hh),fun t ht=>?_⟩
   ·rw[turn_pages hP,List.length_set]
   ·injection ht with ht
    subst ht
    refine ⟨emptyF_lt hp h0,r3,fun Q s=>?_⟩
    rw[turn_cells hP,r2]
    by_cases hq:Q=P
    ·subst hq
     by_cases hs:s=emptyF (pgAt w.1 Q)
     ·rw[if_pos rfl,if_pos hs,if_pos ⟨rfl,hs⟩]
     ·rw[if_pos rfl,if_neg hs,if_neg (fun hh=>hs hh.2)]
      rfl
    ·rw[if_neg hq,if_neg (fun hh=>hq hh.1)]
  ·exact ⟨h.mono (by omega),rfl,fun _ _ _=>rfl,fun t ht=>by cases ht⟩
def putOut (r:Option Nat×L7Work):Int×Bool×L7Work×Unit:=match r.1 with
 | some t=>((t:Int),true,r.2,())
 | none=>((0:Int),false,r.2,())
theorem specPutIn_eq {w:L7Work} {n P:Nat} (h:okW w n) (hn:n<=900) (hP:P < List.length w.1) {c:List UInt8} (hc1:1<=c.length) (hc:c.length<=20):spec_l7PutIn.sem (w,(P:Int),c,())=some (putOut (putIn w P c)):=by
 refine lift_eq (k:=0) fun k _=>(spec_l7PutIn.raw_eq k _).trans ?_
 show spec_l7PutIn.p _=_
 unfold spec_l7PutIn.p putIn
 have hp:=pgAt_ok h.pages hP
 obtain ⟨q1,q2,q3⟩:=compQ_ok hp
 have hw:=compW_ok h hP
 have hl:=compW_len hP
 have g:(0:Int)<=(P:Int)/\(P:Int) < (List.length w.1:Int):=by omega
 have g2:(0:Int)<=(P:Int)/\(P:Int) < (List.length (compW w P).1:Int):=by omega
 have ec:turnW w P (compQ (pgAt w.1 P))=compW w P:=rfl
 rw[if_pos g]
 simp only[Int.toNat_natCast,pgAt_get hP,Option.bind_some,gPut_eq hp c hc1 hc,specComp_eq hp,specTurn_eq h (by omega) q1.len (Nat.le_of_lt hP),ec,pgAt_get (show P < List.length (compW w P).1 by omega),compW_at hP,gPut_eq q1 c hc1 hc]
 by_cases h8:putF (pgAt w.1 P) c=8
 ·rw[decide_eq_true h8,cond_true,if_pos h8,if_pos g,if_pos g2]
  by_cases h0:putF (compQ (pgAt w.1 P)) c=0
  ·rw[decide_eq_true h0,if_pos h0,if_pos h0,if_pos h0,Bool.not_true,cond_false,specTurn_eq hw (by omega) (putQ_ok q1 hc1 h0).1.len (by omega)]
   rfl
  ·rw[decide_eq_false h0,Bool.not_false,cond_true,if_neg h0]
   rfl
 ·rw[decide_eq_false h8,cond_false,if_neg h8]
  by_cases h0:putF (pgAt w.1 P) c=0
  ·rw[decide_eq_true h0,if_pos h0,if_pos h0,if_pos h0,Bool.not_true,cond_false,specTurn_eq h (by omega) (putQ_ok hp hc1 h0).1.len (by omega)]
   rfl
  ·rw[decide_eq_false h0,Bool.not_false,cond_true,if_neg h0]
   rfl
def setIn (w:L7Work) (P s:Nat) (c:List UInt8):Bool×L7Work:=
 if setF (pgAt w.1 P) s c=8 then
  if setF (compQ (pgAt w.1 P)) s c=0 then (true,turnW (compW w P) P (setQ (compQ (pgAt w.1 P)) s c)) else (false,compW w P)
 else if setF (pgAt w.1 P) s c=0 then (true,turnW w P (setQ (pgAt w.1 P) s c)) else (false,w)
theorem comp_slot {p:List UInt8} (h:PageOk p) {s:Nat} (hs:s < pn p) (hz:psz p s≠0):s < pn (compQ p)/\psz (compQ p) s≠0:=by
 obtain ⟨q1,q2,q3⟩:=compQ_ok h
 refine ⟨by omega,fun h0=>hz ?_⟩
 rw[<-cellOf_nil h hs,<- q2,cellOf_nil q1 (by omega)]
 exact h0
structure setInR (w:L7Work) (n P s:Nat) (c:List UInt8) (r:Bool×L7Work):Prop where
 ok:okW r.2 (n+2)
 len:List.length r.2.1=List.length w.1
 no:r.1=false->∀ Q t,cAt r.2.1 Q t=cAt w.1 Q t
 yes:r.1=true->∀ Q t,cAt r.2.1 Q t=if Q=P/\t=s then c else cAt w.1 Q t
theorem setIn_ok {w:L7Work} {n P s:Nat} (h:okW w n) (hat:cAt w.1 P s≠[]) {c:List UInt8} (hc:1<=c.length):setInR w n P s c (setIn w P s c):=by
 obtain ⟨hP,hs,hz⟩:=cAt_in h.pages hat
 have hp:=pgAt_ok h.pages hP
 have h12:=h.pages.1
 unfold setIn
 split
 ·obtain ⟨q1,q2,q3⟩:=compQ_ok hp
  obtain ⟨z1,z2⟩:=comp_slot hp hs hz
  have hw:=compW_ok h hP
  have hl:=compW_len hP
  split
  ·rename_i h0
   obtain ⟨r1,r2⟩:=setQ_ok q1 z1 z2 hc h0
   have hP':P < List.length (compW w P).1:=by omega
   refine ⟨turn_ok hw r1 (by omega) (by omega),?_,fun hh=>(by cases hh),fun _ Q t=>?_⟩
   ·rw[turn_pages hP',List.length_set,hl]
   ·rw[turn_cells hP',r2,compW_cells h hP]
    by_cases hq:Q=P
    ·subst hq
     by_cases ht:t=s
     ·rw[if_pos rfl,if_pos ht,if_pos ⟨rfl,ht⟩]
     ·rw[if_pos rfl,if_neg ht,if_neg (fun hh=>ht hh.2),q2]
      rfl
    ·rw[if_neg hq,if_neg (fun hh=>hq hh.1)]
  ·exact ⟨hw.mono (by omega),hl,fun _=>compW_cells h hP,fun ht=>by cases ht⟩
 ·split
  ·rename_i h0
   obtain ⟨r1,r2⟩:=setQ_ok hp hs hz hc h0
   refine ⟨(turn_ok h r1 (by omega) (by omega)).mono (by omega),?_,fun hh=>(by cases hh),fun _ Q t=>?_⟩
   ·rw[turn_pages hP,List.length_set]
   ·rw[turn_cells hP,r2]
    by_cases hq:Q=P
    ·subst hq
     by_cases ht:t=s
     ·rw[if_pos rfl,if_pos ht,if_pos ⟨rfl,ht⟩]
     ·rw[if_pos rfl,if_neg ht,if_neg (fun hh=>ht hh.2)]
      rfl
    ·rw[if_neg hq,if_neg (fun hh=>hq hh.1)]
  ·exact ⟨h.mono (by omega),rfl,fun _ _ _=>rfl,fun ht=>by cases ht⟩
theorem specSetIn_eq {w:L7Work} {n P s:Nat} (h:okW w n) (hn:n<=900) (hat:cAt w.1 P s≠[]) {c:List UInt8} (hc1:1<=c.length) (hc:c.length<=20):spec_l7Set.sem (w,(P:Int),(s:Int),c,())=some ((setIn w P s c).1,(setIn w P s c).2,()):=by
 refine lift_eq (k:=0) fun k _=>(spec_l7Set.raw_eq k _).trans ?_
 show spec_l7Set.p _=_
 unfold spec_l7Set.p setIn
 obtain ⟨hP,hs,hz⟩:=cAt_in h.pages hat
 have hp:=pgAt_ok h.pages hP
 obtain ⟨q1,q2,q3⟩:=compQ_ok hp
 obtain ⟨z1,z2⟩:=comp_slot hp hs hz
 have hw:=compW_ok h hP
 have hl:=compW_len hP
 have g:(0:Int)<=(P:Int)/\(P:Int) < (List.length w.1:Int):=by omega
 have g2:(0:Int)<=(P:Int)/\(P:Int) < (List.length (compW w P).1:Int):=by omega
 have ec:turnW w P (compQ (pgAt w.1 P))=compW w P:=rfl
 rw[if_pos g]
 simp only[Int.toNat_natCast,pgAt_get hP,Option.bind_some,specSet_eq hp c hc1 hc hs hz,specComp_eq hp,specTurn_eq h (by omega) q1.len (Nat.le_of_lt hP),ec,pgAt_get (show P < List.length (compW w P).1 by omega),compW_at hP,specSet_eq q1 c hc1 hc z1 z2]
 by_cases h8:setF (pgAt w.1 P) s c=8
 ·rw[decide_eq_true h8,cond_true,if_pos h8,if_pos g,if_pos g2]
  by_cases h0:setF (compQ (pgAt w.1 P)) s c=0
  ·rw[decide_eq_true h0,if_pos h0,if_pos h0,Bool.not_true,cond_false,specTurn_eq hw (by omega) (setQ_ok q1 z1 z2 hc1 h0).1.len (by omega)]
   rfl
  ·rw[decide_eq_false h0,Bool.not_false,cond_true,if_neg h0]
 ·rw[decide_eq_false h8,cond_false,if_neg h8]
  by_cases h0:setF (pgAt w.1 P) s c=0
  ·rw[decide_eq_true h0,if_pos h0,if_pos h0,Bool.not_true,cond_false,specTurn_eq h (by omega) (setQ_ok hp hs hz hc1 h0).1.len (by omega)]
   rfl
  ·rw[decide_eq_false h0,Bool.not_false,cond_true,if_neg h0]
def dropIn (w:L7Work) (P s:Nat):L7Work:=turnW w P (dropQ (pgAt w.1 P) s)
theorem dropIn_ok {w:L7Work} {n P s:Nat} (h:okW w n) (hat:cAt w.1 P s≠[]):okW (dropIn w P s) (n+1)/\List.length (dropIn w P s).1=List.length w.1/\∀ Q t,cAt (dropIn w P s).1 Q t=if Q=P/\t=s then [] else cAt w.1 Q t:=by
 obtain ⟨hP,hs,hz⟩:=cAt_in h.pages hat
 have hp:=pgAt_ok h.pages hP
 have h12:=h.pages.1
 obtain ⟨r1,r2⟩:=dropQ_ok hp hs
 refine ⟨turn_ok h r1 (by omega) (by omega),?_,fun Q t=>?_⟩
 ·unfold dropIn;rw[turn_pages hP,List.length_set]
 ·unfold dropIn
  rw[turn_cells hP,r2]
  by_cases hq:Q=P
  ·subst hq
   by_cases ht:t=s
   ·rw[if_pos rfl,if_pos ht,if_pos ⟨rfl,ht⟩]
   ·rw[if_pos rfl,if_neg ht,if_neg (fun hh=>ht hh.2)]
    rfl
  ·rw[if_neg hq,if_neg (fun hh=>hq hh.1)]
theorem specDropIn_eq {w:L7Work} {n P s:Nat} (h:okW w n) (hn:n<=900) (hat:cAt w.1 P s≠[]):spec_l7Drop.sem (w,(P:Int),(s:Int),())=some (dropIn w P s,()):=by
 refine lift_eq (k:=0) fun k _=>(spec_l7Drop.raw_eq k _).trans ?_
 show spec_l7Drop.p _=_
 unfold spec_l7Drop.p dropIn
 obtain ⟨hP,hs,hz⟩:=cAt_in h.pages hat
 have hp:=pgAt_ok h.pages hP
 have g:(0:Int)<=(P:Int)/\(P:Int) < (List.length w.1:Int):=by omega
 rw[if_pos g]
 simp only[Int.toNat_natCast,pgAt_get hP,Option.bind_some,specDrop_eq hp hs,specTurn_eq h (by omega) (dropQ_ok hp hs).1.len (Nat.le_of_lt hP)]
end OT
set_option linter.unusedVariables false
set_option linter.unusedSimpArgs false
set_option linter.unusedSectionVars false
namespace OT
open Go
theorem nodup_inj {α β:Type} {f:α->β}:∀ {l:List α},(l.map f).Nodup->∀ {x y:α},x ∈ l->y ∈ l->f x=f y->x=y
 | z::l,h,x,y,hx,hy,he=>by
  rw[List.map_cons,List.nodup_cons] at h
  rcases List.mem_cons.1 hx with hx1 | hx1
  ·rcases List.mem_cons.1 hy with hy1 | hy1
   ·rw[hx1,hy1]
   ·rw[hx1] at he
    exact absurd (he ▸ List.mem_map_of_mem hy1) h.1
  ·rcases List.mem_cons.1 hy with hy1 | hy1
   ·rw[hy1] at he
    exact absurd (he ▸ List.mem_map_of_mem hx1) h.1
   ·exact nodup_inj h.2 hx1 hy1 he
theorem find_perm {α β K:Type} [DecidableEq K] {l:List α} {l':List β} {g:α->β} {ka:α->K} {kb:β->K} (hk:∀ x,kb (g x)=ka x) (hp:l'.Perm (l.map g)) (hn:(l.map ka).Nodup) (k:K):l'.find? (fun y=>decide (kb y=k))=(l.find? (fun x=>decide (ka x=k))).map g:=by
 cases h:l.find? (fun x=>decide (ka x=k)) with
 | none=>
  rw[List.find?_eq_none] at h
  show _=none
  rw[List.find?_eq_none]
  intro y hy
  obtain ⟨x,hx,rfl⟩:=List.mem_map.1 (hp.mem_iff.1 hy)
  rw[hk]
  exact h x hx
 | some x=>
  have hx:=List.mem_of_find?_eq_some h
  have hxk:ka x=k:=by have:=List.find?_some h;simpa using this
  show _=some (g x)
  cases h2:l'.find? (fun y=>decide (kb y=k)) with
  | none=>
   rw[List.find?_eq_none] at h2
   have:=h2 (g x) (hp.mem_iff.2 (List.mem_map_of_mem hx))
   rw[hk,hxk] at this
   simp at this
  | some y=>
   have hy:=List.mem_of_find?_eq_some h2
   have hyk:kb y=k:=by have:=List.find?_some h2;simpa using this
   obtain ⟨z,hz,rfl⟩:=List.mem_map.1 (hp.mem_iff.1 hy)
   rw[hk] at hyk
   rw[nodup_inj hn hz hx (hyk.trans hxk.symm)]
theorem forI_find {α O:Type} (p:α->Bool) (g:α->O) (e:O):∀ (xs:List α) (i:Nat),forI (fun _ (_:Unit) x=>if p x then .inl (g x) else .inr ()) (fun _=>e) i xs ()=match xs.find? p with | some x=>g x | none=>e
 | [],_=>rfl
 | x::xs,i=>by
  simp only[forI,List.find?_cons]
  cases h:p x with
  | true=>simp only[if_true]
  | false=>simp only[Bool.false_eq_true,if_false];exact forI_find p g e xs (i+1)
abbrev spot0:L6Spot:=((0:Int),(0:Int),((0:Int),(0:Int),(0:Int),(0:Int),row0,()),())
abbrev seen0:Seen:=(row0,(0:Int),(0:Int),false,(0:Int),(0:Int),())
def findS (ps:Pgs) (t k:Int):Option L6Spot:=(seenF ps).find? (fun x=>decide (rk (sRow x)=(t,k)))
def findL (l:List Seen) (t k:Int):Option Seen:=l.find? (fun y=>decide (rk y.1=(t,k)))
theorem rk_dec (r:Row) (t k:Int):decide (rk r=(t,k))=(decide (r.1=t)&&decide (r.2.1=k)):=by
 unfold rk
 by_cases h1:r.1=t <;> by_cases h2:r.2.1=k <;> simp[h1,h2]
theorem specFind_eq (ps:Pgs) (h:rightP ps) (t k:Int):spec_l6Find.sem (ps,t,k,())=some (match findS ps t k with | some x=>(x,true,()) | none=>(spot0,false,())):=by
 refine lift_eq (k:=300) fun q hq=>(spec_l6Find.raw_eq q _).trans ?_
 unfold spec_l6Find.p
 rw[specSeen_eq ps h]
 simp only[Option.bind_some]
 have hsl:=seen_len h
 unfold findS
 generalize seenF ps=xs at hsl ⊢
 have:=for_loop (B:=fun self v=>spec_l6Find.B0 q self (fun z=>spec_l6Find.Q0 q (ps,t,k,()) xs z) (ps,t,k,()) xs v) xs (fun (_:Unit) (i:Int)=>i) (fun _ _ x=>if decide (rk (sRow x)=(t,k)) then .inl (x,true,()) else .inr ()) (fun _=>((spot0,false,()):L6Spot×Bool×Unit)) (fun _ _=>True) (by rw[maxLen_val];omega)
  (fun i hi s self _=>by
   show spec_l6Find.b0 _ _ _ _ _=_
   unfold spec_l6Find.b0
   have hlt:(i:Int) < (xs.length:Int):=by omega
   have g:(0:Int)<=(i:Int)/\(i:Int) < (xs.length:Int):=by omega
   rw[decide_eq_true hlt,cond_true,if_pos g,rk_dec]
   simp only[Int.toNat_natCast,List.getElem?_eq_getElem hi,Option.bind_some,if_pos g]
   show (bif decide ((sRow xs[i]).1=t) then (bif decide ((sRow xs[i]).2.1=k) then _ else _) else _)=_
   cases decide ((sRow xs[i]).1=t) <;> cases decide ((sRow xs[i]).2.1=k) <;> rfl)
  (fun _ _ _ _ _ _=>trivial) (fun s self _=>by
   show spec_l6Find.b0 _ _ _ _ _=_
   unfold spec_l6Find.b0
   rw[decide_eq_false (Int.lt_irrefl _),cond_false]
   rfl) () trivial q (by omega)
 rw[forI_find] at this
 refine this.trans (congrArg some ?_)
 cases List.find? (fun x=>decide (rk (sRow x)=(t,k))) xs <;> rfl
theorem implFind_eq (l:List Seen) (hl:l.length<=1000) (t k:Int):impl_find.sem (l,t,k,())=some (match findL l t k with | some x=>(x,true,()) | none=>(seen0,false,())):=by
 refine lift_eq (k:=1100) fun q hq=>(impl_find.raw_eq q _).trans ?_
 unfold findL
 have:=for_loop (B:=fun self v=>impl_find.B0 q self (fun z=>impl_find.Q0 q (l,t,k,()) z) (l,t,k,()) v) l (fun (_:Unit) (i:Int)=>i) (fun _ _ x=>if decide (rk x.1=(t,k)) then .inl (x,true,()) else .inr ()) (fun _=>((seen0,false,()):Seen×Bool×Unit)) (fun _ _=>True) (by rw[maxLen_val];omega)
  (fun i hi s self _=>by
   show impl_find.b0 _ _ _ _=_
   unfold impl_find.b0
   have hlt:(i:Int) < (l.length:Int):=by omega
   have g:(0:Int)<=(i:Int):=by omega
   rw[decide_eq_true hlt,cond_true,if_pos g,rk_dec]
   simp only[Int.toNat_natCast,List.getElem?_eq_getElem hi,Option.bind_some]
   show (bif decide (l[i].1.1=t) then (bif decide (l[i].1.2.1=k) then _ else _) else _)=_
   cases decide (l[i].1.1=t) <;> cases decide (l[i].1.2.1=k) <;> rfl)
  (fun _ _ _ _ _ _=>trivial) (fun s self _=>by
   show impl_find.b0 _ _ _ _=_
   unfold impl_find.b0
   rw[decide_eq_false (Int.lt_irrefl _),cond_false]
   rfl) () trivial q (by omega)
 rw[forI_find] at this
 refine this.trans (congrArg some ?_)
 cases List.find? (fun x:Seen=>decide (rk x.1=(t,k))) l <;> rfl
theorem find_same {ps:Pgs} (h:viewR ps) (t k:Int):findL (viewL ps) t k=(findS ps t k).map convS:=
 find_perm (g:=convS) (ka:=fun x=>rk (sRow x)) (kb:=fun y=>rk y.1) (fun _=>rfl) (viewL_perm h) h.keys (t,k)
theorem cellG_at {ps:Pgs} {a b:Int} (h:(cellG ps a b).2=true):cAt ps a.toNat b.toNat≠[]/\(rightP ps->(cellG ps a b)=cellF (cAt ps a.toNat b.toNat)):=by
 unfold cellG at h ⊢
 cases hg:ps[a.toNat]? with
 | none=>rw[hg] at h;cases h
 | some p=>
  rw[hg] at h
  simp only at h ⊢
  split at h
  ·rename_i hc
   have hp:pgAt ps a.toNat=p:=by unfold pgAt;rw[List.getD_eq_getElem?_getD,hg];rfl
   have e:cAt ps a.toNat b.toNat=cellP p b.toNat:=by unfold cAt cellOf;rw[hp,if_pos hc.1]
   rw[e,if_pos hc]
   refine ⟨fun h0=>?_,fun _=>rfl⟩
   rw[h0] at h
   exact absurd h (by decide)
  ·cases h
theorem found_at {ps:Pgs} (h:viewR ps) {x:L6Spot} (hx:x ∈ seenF ps):∃ P s:Nat,x.1=(P:Int)/\x.2.1=(s:Int)/\cAt ps P s≠[]/\(sFlag x=1->∃ Q t:Nat,sTp x=(Q:Int)/\sTs x=(t:Int)/\cAt ps Q t≠[]/\(cellF (cAt ps Q t)).1.2.1=2)/\(cellF (cAt ps P s)).1.2.1=sFlag x:=by
 unfold seenF at hx
 obtain ⟨y,hy,hxy⟩:=List.mem_flatMap.1 hx
 obtain ⟨n1,n2⟩:=spot_nonneg hy
 have hst:=List.all_eq_true.1 h.stubs y hy
 obtain ⟨P,p,s,h1,h2,h3,h4⟩:=spot_mem.1 hy
 unfold seenX at hxy
 split at hxy
 ·cases hxy
 ·have hx1:=List.mem_singleton.1 hxy
  have hP:P < ps.length:=by
   rcases Nat.lt_or_ge P ps.length with g | g
   ·exact g
   ·rw[List.getElem?_eq_none g] at h1;cases h1
  have hp:pgAt ps P=p:=by unfold pgAt;rw[List.getD_eq_getElem?_getD,h1];rfl
  have hpo:=pgAt_ok h.right hP
  rw[hp] at hpo
  have hc:cAt ps P s≠[]:=by
   unfold cAt
   rw[hp]
   exact fun h0=>h3 ((cellOf_nil hpo h2).1 h0)
  have e1:x.1=y.1/\x.2.1=y.2.1/\sFlag x=sFlag y/\sTp x=sTp y/\sTs x=sTs y:=by
   rw[hx1]
   unfold seen1
   split <;> exact ⟨rfl,rfl,rfl,rfl,rfl⟩
  have e2:y.1=(P:Int)/\y.2.1=(s:Int):=by rw[h4];exact ⟨rfl,rfl⟩
  have e3:cAt ps P s=cellP p s:=by unfold cAt cellOf;rw[hp,if_pos h2]
  refine ⟨P,s,by rw[e1.1,e2.1],by rw[e1.2.1,e2.2],hc,fun hf=>?_,by rw[e1.2.2.1,e3,h4];rfl⟩
  rw[e1.2.2.1] at hf
  unfold stubOk at hst
  rw[decide_eq_true hf,Bool.not_true,Bool.false_or,Bool.and_eq_true] at hst
  obtain ⟨c1,c2⟩:=cellG_at hst.1
  refine ⟨(sTp y).toNat,(sTs y).toNat,by rw[e1.2.2.2.1];omega,by rw[e1.2.2.2.2];omega,c1,?_⟩
  rw[<-c2 h.right]
  simpa using hst.2
theorem find_rows {ps:Pgs} (h:viewR ps) (t k:Int):(match findS ps t k with
  | some x=>fnd (rowsV ps) (t,k)=true/\(rowsV ps)[pos (rowsV ps) (t,k)]?=some (sRow x)/\x ∈ seenF ps/\rk (sRow x)=(t,k)
  | none=>fnd (rowsV ps) (t,k)=false):=by
 have hmem:∀ r,r ∈ rowsV ps↔∃ x ∈ seenF ps,sRow x=r:=fun r=>by
  rw[rowsV_eq h,(sortR_perm _).mem_iff,List.mem_map]
 cases hf:findS ps t k with
 | none=>
  simp only
  unfold findS at hf
  rw[List.find?_eq_none] at hf
  cases hb:fnd (rowsV ps) (t,k) with
  | false=>rfl
  | true=>
   obtain ⟨y,hy,hyk⟩:=fnd_mem hb
   obtain ⟨x,hx,rfl⟩:=(hmem y).1 hy
   have:=hf x hx
   rw[hyk] at this
   simp at this
 | some x=>
  simp only
  unfold findS at hf
  have hx:=List.mem_of_find?_eq_some hf
  have hxk:rk (sRow x)=(t,k):=by have:=List.find?_some hf;simpa using this
  have hb:fnd (rowsV ps) (t,k)=true:=by
   cases hb:fnd (rowsV ps) (t,k) with
   | true=>rfl
   | false=>
    exfalso
    have hm:=(hmem (sRow x)).2 ⟨x,hx,rfl⟩
    obtain ⟨i,hi,he⟩:=List.getElem_of_mem hm
    have hu:=rowsV_up h
    have hnb:¬ i < pos (rowsV ps) (t,k):=fun hlt=>by
     have:=pos_lt (rowsV ps) (t,k) i hi hlt
     rw[he,hxk,befB_irr] at this
     cases this
    have hpl:pos (rowsV ps) (t,k) < (rowsV ps).length:=by omega
    unfold fnd at hb
    rw[List.getElem?_eq_getElem hpl] at hb
    simp only[decide_eq_false_iff_not] at hb
    by_cases hpi:pos (rowsV ps) (t,k)=i
    ·refine hb ?_
     have:(rowsV ps)[pos (rowsV ps) (t,k)]=(rowsV ps)[i]:=by congr
     rw[this,he,hxk]
    ·have h1:=up_not (rowsV ps) (t,k) (pos (rowsV ps) (t,k)) hpl hu (Nat.le_refl _)
     have h2:=List.pairwise_iff_getElem.1 hu (pos (rowsV ps) (t,k)) i hpl hi (by omega)
     rw[he,hxk] at h2
     rw[h2] at h1
     cases h1
  refine ⟨hb,?_,hx,hxk⟩
  obtain ⟨hp,hk⟩:=fnd_lt hb
  rw[List.getElem?_eq_getElem hp]
  congr 1
  obtain ⟨y,hy,he⟩:=(hmem _).1 (List.getElem_mem hp)
  have:y=x:=nodup_inj h.keys hy hx (by show rk (sRow y)=rk (sRow x);rw[he,hk,hxk])
  rw[<-he,this]
end OT
set_option linter.unusedVariables false
set_option linter.unusedSimpArgs false
set_option linter.unusedSectionVars false
namespace OT
open Go
def cellB (f:Nat) (r:Row):List UInt8:=[UInt8.ofNat f,UInt8.ofInt r.1,UInt8.ofInt r.2.1,UInt8.ofInt (r.2.2.1 / 256),UInt8.ofInt (r.2.2.1 % 256),UInt8.ofInt (List.length r.2.2.2.1:Int)]++r.2.2.2.1
theorem rowF_ok {r:Row} (h:rowF r=0):(0<=r.1/\r.1<=3)/\(1<=r.2.1/\r.2.1<=99)/\(0<=r.2.2.1/\r.2.2.1<=999)/\textB r.2.2.2.1=true:=by
 unfold rowF at h
 split at h
 ·rename_i h1
  split at h
  ·rename_i h2
   unfold inB at h1
   simp only[Bool.and_eq_true,decide_eq_true_eq] at h1
   exact ⟨h1.1,h1.2.1,h1.2.2,h2⟩
  ·cases h
 ·cases h
theorem textB_len {s:List UInt8} (h:textB s=true):s.length<=8:=by
 unfold textB at h
 simp only[Bool.and_eq_true,decide_eq_true_eq] at h
 exact h.2
theorem cellB_len {f:Nat} {r:Row} (h:rowF r=0):1<=(cellB f r).length/\(cellB f r).length<=14:=by
 have h1:=textB_len (rowF_ok h).2.2.2
 have:(cellB f r).length=6+List.length r.2.2.2.1:=by
  unfold cellB
  rw[List.length_append];rfl
 omega
theorem u8_mod (n:Int):UInt8.ofInt (n % 256)=UInt8.ofInt n:=by
 simp only[UInt8.ofInt,Int.emod_emod_of_dvd n (show (256:Int) ∣ 256 from Int.dvd_refl _)]
 simp
theorem specCell_eq {f:Nat} {r:Row} (h:rowF r=0):spec_l1Cell.sem ((f:Int),r,())=some (cellB f r,()):=by
 obtain ⟨_,_,h3,h4⟩:=rowF_ok h
 have h1:=textB_len h4
 refine lift_eq (k:=0) fun k _=>(spec_l1Cell.raw_eq k _).trans ?_
 show spec_l1Cell.p _=_
 unfold spec_l1Cell.p cellB
 have d1:w64 (r.2.2.1.tdiv 256)=r.2.2.1 / 256:=by
  rw[Int.tdiv_eq_ediv_of_nonneg h3.1,w64_in (by omega)]
 have d2:r.2.2.1.tmod 256=r.2.2.1 % 256:=Int.tmod_eq_emod_of_nonneg h3.1
 rw[if_pos (cap_ok (show List.length r.2.2.2.1<=_ by omega)),if_pos (cap_ok (by simp only[List.length_cons,List.length_nil];omega))]
 simp only[d1,d2,u8_of]
theorem implCell_eq {f:Nat} {r:Row} (h:rowF r=0):impl_cell.sem ((f:Int),r,())=some (cellB f r,()):=by
 obtain ⟨_,_,h3,h4⟩:=rowF_ok h
 have h1:=textB_len h4
 refine lift_eq (k:=0) fun k _=>(impl_cell.raw_eq k _).trans ?_
 show impl_cell.p _=_
 unfold impl_cell.p cellB
 have d1:r.2.2.1.fdiv (2 ^ 8)=r.2.2.1 / 256:=Int.fdiv_eq_ediv_of_nonneg _ (by omega)
 rw[if_pos (cap_ok (by simp only[List.length_cons,List.length_nil];omega))]
 simp only[d1,u8_mod,u8_of]
def stubB (P t:Nat):List UInt8:=[(1:UInt8),UInt8.ofNat P,UInt8.ofNat t]
theorem specStub_eq (P t:Nat):spec_l1Stub.sem ((P:Int),(t:Int),())=some (stubB P t,()):=by
 refine lift_eq (k:=0) fun k _=>(spec_l1Stub.raw_eq k _).trans ?_
 show spec_l1Stub.p _=_
 unfold spec_l1Stub.p stubB
 simp only[u8_of]
def placeGo (c:List UInt8) (no:Int):List Nat->L7Work->Option (Nat×Nat)×L7Work
 | [],w=>(none,w)
 | P::l,w=>if (P:Int)=no then placeGo c no l w else match (putIn w P c).1 with
  | some t=>(some (P,t),(putIn w P c).2)
  | none=>placeGo c no l (putIn w P c).2
def placeW (w:L7Work) (no:Int) (c:List UInt8):Option (Nat×Nat)×L7Work:=
 match (placeGo c no (List.range (List.length w.1)) w).1 with
 | some a=>placeGo c no (List.range (List.length w.1)) w
 | none=>if 12<=List.length w.1 then (none,(placeGo c no (List.range (List.length w.1)) w).2) else (some (List.length w.1,0),turnW (placeGo c no (List.range (List.length w.1)) w).2 (List.length w.1) (putQ newPg c))
structure placeR (w:L7Work) (n m:Nat) (c:List UInt8) (r:Option (Nat×Nat)×L7Work):Prop where
 ok:okW r.2 (n+m)
 no:r.1=none->List.length r.2.1=List.length w.1/\∀ Q s,cAt r.2.1 Q s=cAt w.1 Q s
 yes:∀ P t,r.1=some (P,t)->P < 12/\t < 16/\cAt w.1 P t=[]/\∀ Q s,cAt r.2.1 Q s=if Q=P/\s=t then c else cAt w.1 Q s
theorem placeGo_ok {c:List UInt8} (hc:1<=c.length) (no:Int):∀ (l:List Nat) (w:L7Work) (n:Nat),okW w n->(∀ P ∈ l,P < List.length w.1)->placeR w n (2*l.length) c (placeGo c no l w)
 | [],w,n,h,_=>⟨h.mono (by omega),fun _=>⟨rfl,fun _ _=>rfl⟩,fun P t ht=>by cases ht⟩
 | P::l,w,n,h,hl=>by
  unfold placeGo
  split
  ·have:=placeGo_ok hc no l w n h fun Q hQ=>hl Q (List.mem_cons_of_mem _ hQ)
   exact ⟨this.ok.mono (by simp only[List.length_cons];omega),this.no,this.yes⟩
  ·have hP:=hl P List.mem_cons_self
   have R:=putIn_ok h hP hc
   split
   ·rename_i t ht
    obtain ⟨y1,y2,y3⟩:=R.yes t ht
    refine ⟨R.ok.mono (by simp only[List.length_cons];omega),fun hh=>(by cases hh),fun P' t' hh=>?_⟩
    injection hh with hh
    injection hh with h1 h2
    subst h1;subst h2
    exact ⟨by have:=h.pages.1;omega,y1,y2,y3⟩
   ·rename_i ht
    have e:=R.no ht
    have:=placeGo_ok hc no l (putIn w P c).2 (n+2) R.ok fun Q hQ=>by rw[R.len];exact hl Q (List.mem_cons_of_mem _ hQ)
    refine ⟨this.ok.mono (by simp only[List.length_cons];omega),fun hh=>?_,fun P' t' hh=>?_⟩
    ·obtain ⟨a1,a2⟩:=this.no hh
     exact ⟨by rw[a1,R.len],fun Q s=>by rw[a2,e]⟩
    ·obtain ⟨a1,a2,a3,a4⟩:=this.yes P' t' hh
     exact ⟨a1,a2,by rw[<-e];exact a3,fun Q s=>by rw[a4,e]⟩
theorem new_put {c:List UInt8} (hc1:1<=c.length) (hc:c.length<=20):putF newPg c=0/\emptyF newPg=0/\PageOk (putQ newPg c)/\∀ s,cellOf (putQ newPg c) s=if s=0 then c else []:=by
 have e0:emptyF newPg=0:=by decide +kernel
 have hn:pn newPg=0:=by decide +kernel
 have hl:plo newPg=64:=by decide +kernel
 have hf:freeF newPg=62:=by decide +kernel
 have h0:putF newPg c=0:=by
  unfold putF moreF
  rw[e0,hn,hl,hf,if_pos rfl,if_neg (by omega),if_neg (by omega),if_neg (by omega)]
 obtain ⟨r1,r2,r3⟩:=putQ_ok newPg_ok.1 hc1 h0
 refine ⟨h0,e0,r1,fun s=>?_⟩
 rw[r2,e0,newPg_ok.2]
theorem placeW_ok {w:L7Work} {n:Nat} (h:okW w n) {c:List UInt8} (hc1:1<=c.length) (hc:c.length<=20) (no:Int):placeR w n 25 c (placeW w no c):=by
 have R:=placeGo_ok hc1 no (List.range (List.length w.1)) w n h fun P hP=>List.mem_range.1 hP
 have h12:=h.pages.1
 rw[List.length_range] at R
 unfold placeW
 split
 ·exact ⟨R.ok.mono (by omega),R.no,R.yes⟩
 ·rename_i h0
  obtain ⟨a1,a2⟩:=R.no h0
  split
  ·exact ⟨R.ok.mono (by omega),fun _=>⟨a1,a2⟩,fun P t ht=>by cases ht⟩
  ·rename_i hlt
   obtain ⟨n1,n2,n3,n4⟩:=new_put hc1 hc
   have hk:=turn_ok R.ok n3 (P:=List.length w.1) (by omega) (by omega)
   refine ⟨hk.mono (by omega),fun hh=>(by cases hh),fun P t ht=>?_⟩
   injection ht with ht
   injection ht with t1 t2
   subst t1;subst t2
   refine ⟨by omega,by omega,cAt_far (Nat.le_refl _),fun Q s=>?_⟩
   have e:=turn_new (placeGo c no (List.range (List.length w.1)) w).2 (putQ newPg c)
   rw[a1] at e
   show cAt (turnW (placeGo c no (List.range (List.length w.1)) w).2 (List.length w.1) (putQ newPg c)).1 Q s=_
   rw[e]
   unfold cAt
   rw[pgAt_app,a1]
   by_cases hq:Q=List.length w.1
   ·rw[if_pos hq,n4]
    by_cases hs:s=0
    ·rw[if_pos hs,if_pos ⟨hq,hs⟩]
    ·rw[if_neg hs,if_neg (fun hh=>hs hh.2)]
     subst hq
     exact (cAt_far (Nat.le_refl _)).symm
   ·rw[if_neg hq,if_neg (fun hh=>hq hh.1)]
    exact a2 Q s
def placeOut (r:Option (Nat×Nat)×L7Work):Int×Int×Bool×L7Work×Unit:=match r.1 with
 | some a=>((a.1:Int),(a.2:Int),true,r.2,())
 | none=>((0:Int),(0:Int),false,r.2,())
def placeF (c:List UInt8) (no:Int) (P:Nat) (w:L7Work):Sum (Option (Int×Int×Bool×L7Work×Unit)) L7Work:=
 if (P:Int)=no then .inr w else match (putIn w P c).1 with
  | some t=>.inl (some ((P:Int),(t:Int),true,(putIn w P c).2,()))
  | none=>.inr (putIn w P c).2
theorem forI_place {c:List UInt8} {no:Int} {fin:L7Work->Option (Int×Int×Bool×L7Work×Unit)}:∀ (l:List Nat) (i:Nat) (w:L7Work),forI (fun _ s x=>placeF c no x s) fin i l w=match (placeGo c no l w).1 with
  | some a=>some ((a.1:Int),(a.2:Int),true,(placeGo c no l w).2,())
  | none=>fin (placeGo c no l w).2
 | [],i,w=>rfl
 | P::l,i,w=>by
  simp only[forI,placeF,placeGo]
  by_cases hn:(P:Int)=no
  ·rw[if_pos hn,if_pos hn]
   exact forI_place l (i+1) w
  ·rw[if_neg hn,if_neg hn]
   cases (putIn w P c).1 with
   | some t=>rfl
   | none=>exact forI_place l (i+1) _
theorem new_same:newF=newPg:=rfl
theorem specPlace_eq {w:L7Work} {n:Nat} (h:okW w n) (hn:n<=800) {c:List UInt8} (hc1:1<=c.length) (hc:c.length<=20) (no:Int):spec_l7Place.sem (w,no,c,())=some (placeOut (placeW w no c)):=by
 have h12:=h.pages.1
 refine lift_eq (k:=100) fun k hk=>(spec_l7Place.raw_eq k _).trans ?_
 obtain ⟨n1,n2,n3,n4⟩:=new_put hc1 hc
 have:=range_loop (B:=fun self v=>spec_l7Place.B0 k self (fun z=>spec_l7Place.Q0 k (w,no,c,()) z) (w,no,c,()) v) (List.length w.1) (fun (s:L7Work) (i:Int)=>(s,i)) (placeF c no) (fun s=>spec_l7Place.Q0 k (w,no,c,()) s) (fun i s=>okW s (n+2*i)/\List.length s.1=List.length w.1) (by omega)
  (fun i hi s self ⟨hs,hsl⟩=>by
   show spec_l7Place.b0 _ _ _ _=_
   unfold spec_l7Place.b0 placeF
   have hlt:(i:Int) < (List.length s.1:Int):=by omega
   rw[decide_eq_true hlt,cond_true]
   by_cases hno:(i:Int)=no
   ·rw[decide_eq_true hno,cond_true,if_pos hno]
   ·rw[decide_eq_false hno,cond_false,if_neg hno,specPutIn_eq hs (by omega) (by omega) hc1 hc]
    unfold putOut
    cases (putIn s i c).1 with
    | some t=>rfl
    | none=>rfl)
  (fun i hi s s' ⟨hs,hsl⟩ hf=>by
   unfold placeF at hf
   have R:=putIn_ok hs (show i < List.length s.1 by omega) hc1
   split at hf
   ·injection hf with hf
    subst hf
    exact ⟨hs.mono (by omega),hsl⟩
   ·split at hf
    ·cases hf
    ·injection hf with hf
     subst hf
     exact ⟨R.ok.mono (by omega),by rw[R.len,hsl]⟩)
  (fun s self ⟨hs,hsl⟩=>by
   show spec_l7Place.b0 _ _ _ _=_
   unfold spec_l7Place.b0
   rw[hsl,decide_eq_false (Int.lt_irrefl _),cond_false]) w ⟨h,rfl⟩ k (by omega)
 refine this.trans ?_
 rw[forI_place]
 unfold placeW placeOut
 have R:=placeGo_ok hc1 no (List.range (List.length w.1)) w n h fun P hP=>List.mem_range.1 hP
 rw[List.length_range] at R
 cases hg:(placeGo c no (List.range (List.length w.1)) w).1 with
 | some a=>simp only[hg]
 | none=>
  obtain ⟨a1,a2⟩:=R.no hg
  simp only
  show spec_l7Place.q0 _ _=_
  unfold spec_l7Place.q0
  rw[a1]
  by_cases hl:12<=List.length w.1
  ·have:(12:Int)<=(List.length w.1:Int):=by omega
   rw[decide_eq_true this,cond_true,if_pos hl]
  ·have:¬ (12:Int)<=(List.length w.1:Int):=by omega
   rw[decide_eq_false this,cond_false,if_neg hl,specNew_eq]
   simp only[Option.bind_some,new_same,gPut_eq newPg_ok.1 c hc1 hc,n1,n2,if_true,specTurn_eq R.ok (by omega) n3.len (show List.length w.1<=List.length (placeGo c no (List.range (List.length w.1)) w).2.1 by omega)]
   have e:List.length (turnW (placeGo c no (List.range (List.length w.1)) w).2 (List.length w.1) (putQ newPg c)).1=List.length w.1+1:=by
    have:=turn_new (placeGo c no (List.range (List.length w.1)) w).2 (putQ newPg c)
    rw[a1] at this
    rw[this,List.length_append,a1];rfl
   rw[e,w64_in (by omega)]
   have:((List.length w.1+1:Nat):Int) - 1=(List.length w.1:Int):=by omega
   rw[this]
theorem implPlace_eq {w:L7Work} {n:Nat} (h:okW w n) (hn:n<=800) {c:List UInt8} (hc1:1<=c.length) (hc:c.length<=20) (no:Int):impl_desk_place.sem (w,c,no,())=some (placeOut (placeW w no c)):=by
 have h12:=h.pages.1
 refine lift_eq (k:=100) fun k hk=>(impl_desk_place.raw_eq k _).trans ?_
 obtain ⟨n1,n2,n3,n4⟩:=new_put hc1 hc
 have:=range_loop (B:=fun self v=>impl_desk_place.B0 k self (fun z=>impl_desk_place.Q0 k (w,c,no,()) z) (w,c,no,()) v) (List.length w.1) (fun (s:L7Work) (i:Int)=>(s,i)) (placeF c no) (fun s=>impl_desk_place.Q0 k (w,c,no,()) s) (fun i s=>okW s (n+2*i)/\List.length s.1=List.length w.1) (by omega)
  (fun i hi s self ⟨hs,hsl⟩=>by
   show impl_desk_place.b0 _ _ _ _=_
   unfold impl_desk_place.b0 placeF
   have hlt:(i:Int) < (List.length w.1:Int):=by omega
   rw[decide_eq_true hlt,cond_true]
   by_cases hno:(i:Int)=no
   ·rw[decide_eq_true hno,cond_true,if_pos hno]
   ·rw[decide_eq_false hno,cond_false,if_neg hno]
    have hP:i < List.length s.1:=by omega
    have hp:=pgAt_ok hs.pages hP
    obtain ⟨q1,q2,q3⟩:=compQ_ok hp
    have hw:=compW_ok hs hP
    have hl:=compW_len hP
    have g:(0:Int)<=(i:Int)/\(i:Int) < (List.length s.1:Int):=by omega
    have g2:(0:Int)<=(i:Int)/\(i:Int) < (List.length (compW s i).1:Int):=by omega
    rw[if_pos g]
    unfold putIn
    simp only[Int.toNat_natCast,pgAt_get hP,Option.bind_some,implPut_eq hp c hc1 hc,implCompW_eq hs (by omega) hP,pgAt_get (show i < List.length (compW s i).1 by omega),compW_at hP,implPut_eq q1 c hc1 hc]
    by_cases h8:putF (pgAt s.1 i) c=8
    ·rw[decide_eq_true h8,cond_true,if_pos h8,if_pos g2]
     by_cases h0:putF (compQ (pgAt s.1 i)) c=0
     ·rw[decide_eq_true h0,cond_true,if_pos h0,if_pos h0,if_pos h0,implTurn_eq hw (by omega) (putQ_ok q1 hc1 h0).1.len (by omega)]
      rfl
     ·rw[decide_eq_false h0,cond_false,if_neg h0]
    ·rw[decide_eq_false h8,cond_false,if_neg h8]
     by_cases h0:putF (pgAt s.1 i) c=0
     ·rw[decide_eq_true h0,cond_true,if_pos h0,if_pos h0,if_pos h0,implTurn_eq hs (by omega) (putQ_ok hp hc1 h0).1.len (by omega)]
      rfl
     ·rw[decide_eq_false h0,cond_false,if_neg h0])
  (fun i hi s s' ⟨hs,hsl⟩ hf=>by
   unfold placeF at hf
   have R:=putIn_ok hs (show i < List.length s.1 by omega) hc1
   split at hf
   ·injection hf with hf
    subst hf
    exact ⟨hs.mono (by omega),hsl⟩
   ·split at hf
    ·cases hf
    ·injection hf with hf
     subst hf
     exact ⟨R.ok.mono (by omega),by rw[R.len,hsl]⟩)
  (fun s self ⟨hs,hsl⟩=>by
   show impl_desk_place.b0 _ _ _ _=_
   unfold impl_desk_place.b0
   show (bif decide ((List.length w.1:Int) < (List.length w.1:Int)) then _ else _)=_
   rw[decide_eq_false (Int.lt_irrefl _),cond_false]) w ⟨h,rfl⟩ k (by omega)
 refine this.trans ?_
 rw[forI_place]
 unfold placeW placeOut
 have R:=placeGo_ok hc1 no (List.range (List.length w.1)) w n h fun P hP=>List.mem_range.1 hP
 rw[List.length_range] at R
 cases hg:(placeGo c no (List.range (List.length w.1)) w).1 with
 | some a=>simp only[hg]
 | none=>
  obtain ⟨a1,a2⟩:=R.no hg
  simp only
  show impl_desk_place.q0 _ _=_
  unfold impl_desk_place.q0
  rw[a1]
  by_cases hl:12<=List.length w.1
  ·have:(List.length w.1:Int)=12:=by omega
   rw[decide_eq_true this,cond_true,if_pos hl]
  ·have:¬ (List.length w.1:Int)=12:=by omega
   rw[decide_eq_false this,cond_false,if_neg hl,implNew_eq]
   simp only[Option.bind_some,new_same,implPut_eq newPg_ok.1 c hc1 hc,n1,n2,if_true,implTurn_eq R.ok (by omega) n3.len (show List.length w.1<=List.length (placeGo c no (List.range (List.length w.1)) w).2.1 by omega)]
   have e:List.length (turnW (placeGo c no (List.range (List.length w.1)) w).2 (List.length w.1) (putQ newPg c)).1=List.length w.1+1:=by
    have:=turn_new (placeGo c no (List.range (List.length w.1)) w).2 (putQ newPg c)
    rw[a1] at this
    rw[this,List.length_append,a1];rfl
   rw[e,w64_in (by omega)]
   have:((List.length w.1+1:Nat):Int) - 1=(List.length w.1:Int):=by omega
   rw[this]
end OT
