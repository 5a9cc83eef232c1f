/- The proof's parts, merged: Draws  what the reference draws for inserts and updates is there, and small.. No conditions but those that each states. -/
import Derived.Test.YtaebhfnbgkbdhaaGreatRf
set_option linter.unusedVariables false
set_option linter.unusedSimpArgs false
set_option linter.unusedSectionVars false
namespace OT
open Go
theorem pV {s:aO} {b:Int} (h:cA s b) (hb:b<=900000):∃ r t,ep.aa (s,())=some (r,t,())/\cP r=0/\cA t (b+5):=by
 obtain ⟨v1,t1,e1,J,c1,s1⟩:=dX (n:=3) h (by omega) (by omega) (by omega)
 obtain ⟨v2,t2,e2,a2,c2,s2⟩:=dX (n:=6) s1 (by omega) (by omega) (by omega)
 obtain ⟨v3,t3,e3,a3,c3,s3⟩:=dX (n:=9) s2 (by omega) (by omega) (by omega)
 obtain ⟨v4,t4,e4,m4,s4⟩:=qo s3 (by omega) [v3,(300:Int),(999:Int)] (by simp) (by simp)
 obtain ⟨v5,t5,e5,a5,c5,s5⟩:=dX (n:=4) s4 (by omega) (by omega) (by omega)
 obtain ⟨x,hx,mx⟩:=BJ [([]:List UInt8),([97]:List UInt8),([97,98,99]:List UInt8),([97,98,99,100,101,102,103,104]:List UInt8)] (v:=v5) ⟨a5,by simpa using c5⟩
 have w1:ag (1+v2)=1+v2:=ba (by omega)
 refine ⟨(v1,1+v2,v4,x,()),t5,aj (k:=0) λk _=>(ep.af k _).trans ?_,?_,s5.mono (by omega)⟩
 ·unfold ep.p
  rw[e1]
  simp only[Option.bind_some,e2,e3,e4,e5,w1,hx]
  rw[if_pos ⟨a5,by simpa using c5⟩]
 ·have SH:0<=v4/\v4<=999:=by
   simp only[List.mem_cons,List.not_mem_nil,or_false] at m4
   omega
  have D4:tL x=true:=by
   simp only[List.mem_cons,List.not_mem_nil,or_false] at mx
   rcases mx with rfl | rfl | rfl | rfl <;> decide
  unfold cP ol
  have i1:v1<=3:=by omega
  have i2:(1:Int)<=1+v2:=by omega
  have i3:1+v2<=99:=by omega
  simp only[J,i1,i2,i3,SH.1,SH.2,D4,decide_true,Bool.and_self,if_true]
theorem Kx {r:Row} (h:cP r=0):List.length r.2.2.2.1<=8:=nA (qn h).2.2.2
theorem wc {s:aO} {b:Int} (h:cA s b) (hb:b<=800000):∃ r t,gx.aa (s,())=some (r,t,())/\List.length r.2.2.2.1<=9/\cA t (b+7):=by
 obtain ⟨r,t1,e1,hr,s1⟩:=pV h (by omega)
 have hs:=Kx hr
 obtain ⟨v,t2,e2,a2,c2,s2⟩:=dX (n:=12) s1 (by omega) (by omega) (by omega)
 suffices hp:∃ r' t',gx.p (s,())=some (r',t',())/\List.length r'.2.2.2.1<=9/\cA t' (b+7) by
  obtain ⟨r',t',p1,p2,p3⟩:=hp
  exact ⟨r',t',aj (k:=0) λk _=>(gx.af k _).trans p1,p2,p3⟩
 unfold gx.p
 rw[e1]
 simp only[Option.bind_some,e2]
 by_cases h0:v=0
 ·obtain ⟨u,t3,e3,_,s3⟩:=qo s2 (by omega) [(-1:Int),(3:Int),(4:Int)] (by simp) (by simp)
  simp only[h0,decide_true,cond_true,e3,Option.bind_some]
  exact ⟨_,_,rfl,by show List.length r.2.2.2.1<=9;omega,s3.mono (by omega)⟩
 by_cases h1:v=1
 ·obtain ⟨u,t3,e3,_,s3⟩:=qo s2 (by omega) [(0:Int),(99:Int),(100:Int)] (by simp) (by simp)
  simp only[h1,show ¬ (1:Int)=0 by omega,decide_true,decide_false,cond_true,cond_false,e3,Option.bind_some]
  exact ⟨_,_,rfl,by show List.length r.2.2.2.1<=9;omega,s3.mono (by omega)⟩
 by_cases U:v=2
 ·obtain ⟨u,t3,e3,_,s3⟩:=qo s2 (by omega) [(-1:Int),(1000:Int)] (by simp) (by simp)
  simp only[U,show ¬ (2:Int)=0 by omega,show ¬ (2:Int)=1 by omega,decide_true,decide_false,cond_true,cond_false,e3,Option.bind_some]
  exact ⟨_,_,rfl,by show List.length r.2.2.2.1<=9;omega,s3.mono (by omega)⟩
 by_cases h3:v=3
 ·obtain ⟨u,t3,e3,a3,c3,s3⟩:=dX (n:=3) s2 (by omega) (by omega) (by omega)
  obtain ⟨x,hx,mx⟩:=BJ [([65]:List UInt8),([97,98,99,100,101,102,103,104,105]:List UInt8),([97,32,98]:List UInt8)] (v:=u) ⟨a3,by simpa using c3⟩
  simp only[h3,show ¬ (3:Int)=0 by omega,show ¬ (3:Int)=1 by omega,show ¬ (3:Int)=2 by omega,decide_true,decide_false,cond_true,cond_false,e3,Option.bind_some]
  rw[if_pos ⟨a3,by simpa using c3⟩,hx]
  refine ⟨_,_,rfl,?_,s3.mono (by omega)⟩
  show List.length x<=9
  simp only[List.mem_cons,List.not_mem_nil,or_false] at mx
  rcases mx with rfl | rfl | rfl <;> decide
 simp only[h0,h1,U,h3,decide_false,cond_false]
 exact ⟨_,_,rfl,by omega,s2.mono (by omega)⟩
theorem E7 (xs:List Row) (r:Row):(gf xs r).length=xs.length+1:=by
 unfold gf
 simp only[List.length_append,List.length_take,List.length_drop,List.length_cons,List.length_nil]
 omega
theorem Ky {x:List Row} {r:Row} (hu:up x) (hf:AC x (r.1,r.2.1) < 0):∀ y ∈ x,rk y≠rk r:=λy hy he=>by
 obtain ⟨i,hi,hx⟩:=List.getElem_of_mem hy
 have:=(s9 hu hi (k:=(r.1,r.2.1)) (by rw[hx];exact he)).1
 unfold AC at hf
 rw[this] at hf
 simp only[if_true] at hf
 omega
theorem F8 {s:aO} {b:Int} (h:cA s b) (hb:b<=500000):∃ xs t,br.aa (s,())=some (xs,t,())/\xs.length<=6/\(∀ r ∈ xs,cP r=0)/\cA t (b+100):=by
 have Ja:0<=b:=Int.le_trans h.2.1 h.2.2
 obtain ⟨v,t1,e1,J,c1,s1⟩:=dX (n:=7) h (by omega) (by omega) (by omega)
 have:=uS 700000 (B:=λw v=>br.b0 w (br.q0 (s,())) (s,()) v) (λs (l:List Row) i=>(s,l,i)) (λc l=>up l/\(∀ r ∈ l,cP r=0)/\5*(l.length:Int)<=c - b - 1) 5 (by omega) (λs l=>(l,s,()))
  (λm s x c hm hs hc hI=>by
   obtain ⟨r,t,e1,hr,s1⟩:=pV hs (by omega)
   have av:(0:Int) < ((m+1:Nat):Int):=by omega
   have ry:=hs.2
   have hA:=tN x r.1 r.2.1 hI.1 (by omega)
   have hP:=rO x r (by omega)
   by_cases hf:AC x (r.1,r.2.1) < 0
   ·refine ⟨t,gf x r,s1,⟨BE hI.1 (Ky hI.1 hf),?_,by rw[E7];omega⟩,λself=>?_⟩
    ·intro y hy
     rcases List.mem_cons.1 ((tQ x r).mem_iff.1 hy) with h1 | h1
     ·rw[h1];exact hr
     ·exact hI.2.1 y h1
    ·unfold br.b0
     simp only[av,decide_true,cond_true,e1,Option.bind_some,iL hm,hA,hP,hf]
   ·refine ⟨t,x,s1,⟨hI.1,hI.2.1,by omega⟩,λself=>?_⟩
    unfold br.b0
    simp only[av,decide_true,cond_true,e1,Option.bind_some,iL hm,hA,hf,decide_false,cond_false])
  (λs x c _ _ self=>by
   unfold br.b0
   rw[decide_eq_false (Int.lt_irrefl _),cond_false]
   rfl) v.toNat t1 [] (b+1) (by omega) s1 ⟨List.Pairwise.nil,λ_ h=>(by cases h),by simp only[List.length_nil];omega⟩ (by omega)
 obtain ⟨t,l,xL,a2,a3⟩:=this
 have hv:((v.toNat:Nat):Int)=v:=by omega
 rw[hv] at a3 xL a2
 refine ⟨l,t,aj (k:=8) λk hk=>(br.af k _).trans ?_,by have:=a2.2.2;omega,a2.2.1,xL.mono (by omega)⟩
 unfold br.p
 rw[e1]
 exact a3 k (by omega)
theorem F9 {s:aO} {b:Int} (h:cA s b) (hb:b<=400000):∃ p t,j6.aa (s,())=some (p,t,())/\p.length<=64/\cA t (b+600):=by
 obtain ⟨p,t1,e1,hp,s1⟩:=E6 h hb
 obtain ⟨v,t2,e2,a2,c2,s2⟩:=dX (n:=12) s1 (by omega) (by omega) (by omega)
 have hl:=hp.len
 suffices hq:∃ r' t',j6.p (s,())=some (r',t',())/\r'.length<=64/\cA t' (b+600) by
  obtain ⟨r',t',p1,p2,p3⟩:=hq
  exact ⟨r',t',aj (k:=0) λk _=>(j6.af k _).trans p1,p2,p3⟩
 unfold j6.p
 rw[e1]
 simp only[Option.bind_some,e2]
 by_cases h0:v=0
 ·simp only[h0,decide_true,cond_true]
  rw[if_pos ⟨by omega,by omega⟩]
  exact ⟨_,_,rfl,by rw[List.length_drop,List.length_take];omega,s2.mono (by omega)⟩
 by_cases h1:v=1
 ·obtain ⟨v3,t3,e3,a3,c3,s3⟩:=dX (n:=12) s2 (by omega) (by omega) (by omega)
  obtain ⟨v4,t4,e4,a4,c4,s4⟩:=dX (n:=70) s3 (by omega) (by omega) (by omega)
  simp only[h1,show ¬ (1:Int)=0 by omega,decide_true,decide_false,cond_true,cond_false,e3,e4,Option.bind_some]
  rw[if_pos ⟨a3,by omega⟩,List.getElem?_eq_getElem (show v3.toNat < p.length by omega)]
  exact ⟨_,_,rfl,by rw[List.length_set];omega,s4.mono (by omega)⟩
 simp only[h0,h1,decide_false,cond_false]
 exact ⟨_,_,rfl,by omega,s2.mono (by omega)⟩
theorem uT {p c:List UInt8} (hp:bQ p) (h1:1<=c.length) (U:c.length<=20):∃ q n k,cu.aa (p,c,())=some (q,n,k,())/\(k=0->bQ q/\∃ m:Nat,n=(m:Int)):=by
 refine ⟨_,_,_,uP hp c h1 U,λh=>?_⟩
 rw[if_pos h,if_pos h]
 exact ⟨(nP hp h1 h).1,_,rfl⟩
def IH (x:aH):Prop:=∃ p q:List UInt8,x=[p,q]/\bQ p/\bQ q
theorem Kz {s:aO} {b:Int} (h:cA s b) (hb:b<=300000):∃ x t,ee.aa (s,())=some (x,t,())/\IH x/\cA t (b+200):=by
 obtain ⟨rs,t1,e1,hl,hr,s1⟩:=F8 h (by omega)
 have:=Nr (B:=λw v=>ee.b0 w (ee.q0 (s,()) rs) (s,()) rs v) (λs (l:aH) i=>(s,l,i)) IH 10 (by omega) (λs l=>(l,s,())) rs.length (by omega)
  (λi s x c hi hs hc hI=>by
   obtain ⟨p,q,rfl,hp,hq⟩:=hI
   have c0:(0:Int)<=0/\(0:Int) < ((0+1+1:Nat):Int):=by omega
   have c1:(0:Int)<=1/\(1:Int) < ((0+1+1:Nat):Int):=by omega
   have av:(i:Int) < (rs.length:Int):=by omega
   have gB:(0:Int)<=(i:Int)/\(i:Int) < (rs.length:Int):=⟨by omega,av⟩
   have Nt:=hr _ (List.getElem_mem hi)
   obtain ⟨v1,t1,e1,s1⟩:=ll (n:=3) hs (by omega) (by omega) (by omega)
   cases v1 with
   | true=>
    have e2:bO.aa ((2:Int),rs[i],())=some (aM 2 rs[i],()):=lA (f:=2) Nt
    have qI:=cw (f:=2) Nt
    obtain ⟨Q,n,k,e3,k3⟩:=uT hq qI.1 (by omega:(aM 2 rs[i]).length<=20)
    by_cases hk:k=0
    ·obtain ⟨hQ,m,rfl⟩:=k3 hk
     have e4:dH.aa ((1:Int),(m:Int),())=some (cn 1 m,()):=qE 1 m
     obtain ⟨P,n2,k2,e5,k5⟩:=uT hp (show 1<=(cn 1 m).length by unfold cn;simp) (show (cn 1 m).length<=20 by unfold cn;simp)
     by_cases f8:k2=0
     ·refine ⟨t1,[P,Q],s1.mono (by omega),⟨P,Q,rfl,(k5 f8).1,hQ⟩,λself=>?_⟩
      unfold ee.b0
      simp only[av,gB,and_self,decide_true,cond_true,e1,e2,e3,e4,e5,hk,f8,Option.bind_some,E5 (show i<=1000 by omega),Int.toNat_natCast,List.getElem?_eq_getElem hi,List.length_cons,List.length_nil,List.set_cons_succ,List.set_cons_zero,List.getElem?_cons_succ,List.getElem?_cons_zero,if_true]
      simp only[c0,c1,and_self,if_true]
     ·refine ⟨t1,[p,q],s1.mono (by omega),⟨p,q,rfl,hp,hq⟩,λself=>?_⟩
      unfold ee.b0
      simp only[av,gB,and_self,decide_true,cond_true,e1,e2,e3,e4,e5,hk,f8,Option.bind_some,E5 (show i<=1000 by omega),Int.toNat_natCast,List.getElem?_eq_getElem hi,List.length_cons,List.length_nil,List.set_cons_succ,List.set_cons_zero,List.getElem?_cons_succ,List.getElem?_cons_zero,if_true,decide_false,cond_false]
      simp only[c0,c1,and_self,if_true]
    ·refine ⟨t1,[p,q],s1.mono (by omega),⟨p,q,rfl,hp,hq⟩,λself=>?_⟩
     unfold ee.b0
     simp only[av,gB,and_self,decide_true,cond_true,e1,e2,e3,hk,Option.bind_some,E5 (show i<=1000 by omega),Int.toNat_natCast,List.getElem?_eq_getElem hi,List.length_cons,List.length_nil,List.getElem?_cons_succ,List.getElem?_cons_zero,if_true,decide_false,cond_false]
     simp only[c0,c1,and_self,if_true]
   | false=>
    obtain ⟨v2,t2,e6,a2,c2,s2⟩:=dX (n:=2) s1 (by omega) (by omega) (by omega)
    have e2:bO.aa ((0:Int),rs[i],())=some (aM 0 rs[i],()):=lA (f:=0) Nt
    have qI:=cw (f:=0) Nt
    obtain ⟨z,w,hz,VY,t_⟩:∃ z:List UInt8,∃ w:List UInt8->aH,([p,q]:aH)[v2.toNat]?=some z/\bQ z/\∀ Q,([p,q]:aH).set v2.toNat Q=w Q/\(bQ Q->IH (w Q)):=by
     have hv:v2.toNat=0\/v2.toNat=1:=by omega
     rcases hv with h0 | h0
     ·rw[h0]
      exact ⟨p,λQ=>[Q,q],rfl,hp,λQ=>⟨rfl,λh=>⟨Q,q,rfl,h,hq⟩⟩⟩
     ·rw[h0]
      exact ⟨q,λQ=>[p,Q],rfl,hq,λQ=>⟨rfl,λh=>⟨p,Q,rfl,hp,h⟩⟩⟩
    have Qf:(0:Int)<=v2/\v2 < (List.length ([p,q]:aH):Int):=⟨a2,c2⟩
    obtain ⟨Q,n,k,e3,k3⟩:=uT VY qI.1 (by omega:(aM 0 rs[i]).length<=20)
    by_cases hk:k=0
    ·refine ⟨t2,w Q,s2.mono (by omega),(t_ Q).2 (k3 hk).1,λself=>?_⟩
     have hd:decide (k=0)=true:=decide_eq_true hk
     unfold ee.b0
     rw[decide_eq_true av,cond_true,e1]
     simp only[Option.bind_some,cond_false]
     rw[e6]
     simp only[Option.bind_some]
     rw[if_pos Qf,hz]
     simp only[Option.bind_some]
     rw[if_pos gB,Int.toNat_natCast,List.getElem?_eq_getElem hi]
     simp only[Option.bind_some]
     rw[e2]
     simp only[Option.bind_some]
     rw[e3]
     simp only[Option.bind_some]
     rw[hd,cond_true,(t_ Q).1,E5 (show i<=1000 by omega),if_pos Qf]
    ·refine ⟨t2,[p,q],s2.mono (by omega),⟨p,q,rfl,hp,hq⟩,λself=>?_⟩
     have hd:decide (k=0)=false:=decide_eq_false hk
     unfold ee.b0
     rw[decide_eq_true av,cond_true,e1]
     simp only[Option.bind_some,cond_false]
     rw[e6]
     simp only[Option.bind_some]
     rw[if_pos Qf,hz]
     simp only[Option.bind_some]
     rw[if_pos gB,Int.toNat_natCast,List.getElem?_eq_getElem hi]
     simp only[Option.bind_some]
     rw[e2]
     simp only[Option.bind_some]
     rw[e3]
     simp only[Option.bind_some]
     rw[hd,cond_false,E5 (show i<=1000 by omega)])
  (λs x c _ _ self=>by
   unfold ee.b0
   rw[decide_eq_false (Int.lt_irrefl _),cond_false]
   rfl) rs.length 0 t1 [xj,xj] (b+100) (by omega) s1 ⟨_,_,rfl,by rw[v_];exact oF.1,by rw[v_];exact oF.1⟩ (by omega)
 obtain ⟨t,x,J,a2,a3⟩:=this
 refine ⟨x,t,aj (k:=rs.length+1) λk hk=>(ee.af k _).trans ?_,a2,J.mono (by omega)⟩
 unfold ee.p
 rw[v6]
 simp only[Option.bind_some,e1]
 exact a3 k (by omega)
def ov (x:aH):Prop:=∀ p ∈ x,List.length p<=64
theorem KA {x:aH} (h:IH x):ov x:=by
 obtain ⟨p,q,rfl,hp,hq⟩:=h
 intro y hy
 simp only[List.mem_cons,List.not_mem_nil,or_false] at hy
 rcases hy with rfl | rfl
 ·exact Nat.le_of_eq hp.len
 ·exact Nat.le_of_eq hq.len
theorem E8 {p q:List UInt8} (hp:p.length<=64) (hq:q.length<=64):ov [p,q]:=by
 intro y hy
 simp only[List.mem_cons,List.not_mem_nil,or_false] at hy
 rcases hy with rfl | rfl <;> assumption
theorem Oa {ps:aH} {t k:Int} {x:ai} (h:iJ ps t k=some x):x ∈ c_ ps/\rk (bS x)=(t,k):=by
 unfold iJ at h
 exact ⟨List.mem_of_find?_eq_some h,of_decide_eq_true (List.find?_some (p:=λx=>decide (rk (bS x)=(t,k))) h)⟩
theorem LR:a7 []=0:=by decide +kernel
end OT
set_option linter.unusedVariables false
set_option linter.unusedSimpArgs false
set_option linter.unusedSectionVars false
namespace OT
open Go
theorem LS (c:List UInt8):nM.aa (c,())=some (decide ((1048576:Int) < (c.length:Int)),()):=aj (k:=0) λk _=>(nM.af k _).trans rfl
theorem tU {x:aH} (h:ov x):∀ p ∈ x,List.length p<=maxLen:=λp hp=>by
 have:=h p hp
 rw[aL]
 omega
theorem KB {x:aH} (h:a7 x=0):∀ p ∈ x,List.length p<=maxLen:=λp hp=>by
 rw[((jV h).1.2 p hp).len,aL]
 omega
theorem KC {ps:aH} (h:a7 ps=0):(aq ps).length<=1000:=by
 have:=xw (dv h)
 unfold aq
 rw[List.length_map]
 omega
end OT
set_option linter.unusedVariables false
set_option linter.unusedSimpArgs false
set_option linter.unusedSectionVars false
namespace OT
open Go
end OT
set_option linter.unusedVariables false
set_option linter.unusedSimpArgs false
set_option linter.unusedSectionVars false
namespace OT
open Go
theorem ji {α β:Type} {f g:α->Option β}:∀ {l:List α},(∀ x ∈ l,f x=g x)->l.filterMap f=l.filterMap g
 | [],_=>rfl
 | x::l,h=>by
  rw[List.filterMap_cons,List.filterMap_cons,h x List.mem_cons_self,ji λy hy=>h y (List.mem_cons_of_mem _ hy)]
abbrev kR:Row:=((0:Int),(0:Int),(0:Int),([]:List UInt8),())
def look (xs:List Row) (k:Int×Int):Option Row:=if eS xs k then xs[pos xs k]? else none
theorem uU {x:Row} {xs:List Row} {k:Int×Int} (h:bB (rk x) k=true):look (x::xs) k=look xs k:=by
 grind [look,FN,pos]
theorem oT {x:Row} {xs:List Row}:look (x::xs) (rk x)=some x:=by
 grind [pos,dQ,eS,look]
theorem tV {xs:List Row} {k:Int×Int} (h:∀ y ∈ xs,rk y≠k):look xs k=none:=by
 grind [look,uL]
theorem G0 {x:Row} {xs:List Row} {k:Int×Int} (hu:up (x::xs)) (h:bB k (rk x)=true):look (x::xs) k=none:=by
 refine tV λy hy e=>?_
 subst e
 rcases List.mem_cons.1 hy with rfl | hy
 ·grind [dQ]
 ·have:=(nQ.1 hu).1 y hy
  grind [xo]
def jt:Option Row->Option Row->Option Change
 | some a,some b=>if Ty.eq aE a b then none else some (true,a,true,b,())
 | some a,none=>some (true,a,false,kR,())
 | none,some b=>some (false,kR,true,b,())
 | none,none=>none
theorem II (a:Row):jt (some a) none=some (true,a,false,kR,()):=rfl
theorem IJ (b:Row):jt none (some b)=some (false,kR,true,b,()):=rfl
theorem yg (a b:Row):jt (some a) (some b)=if Ty.eq aE a b then none else some (true,a,true,b,()):=rfl
def m9:Nat->List Row->List Row->List Change
 | 0,_,_=>[]
 | n+1,[],[]=>[]
 | n+1,[],b::bs=>(false,kR,true,b,())::m9 n [] bs
 | n+1,a::al,[]=>(true,a,false,kR,())::m9 n al []
 | n+1,a::al,b::bs=>if bB (rk a) (rk b) then (true,a,false,kR,())::m9 n al (b::bs) else
  if bB (rk b) (rk a) then (false,kR,true,b,())::m9 n (a::al) bs else
  if Ty.eq aE a b then m9 n al bs else (true,a,true,b,())::m9 n al bs
def Nu (ks:List (Int×Int)):Prop:=ks.Pairwise (λa b=>bB a b=true)
def rY (B A:List Row) (k:Int×Int):Prop:=(∃ x ∈ B,rk x=k)\/∃ y ∈ A,rk y=k
theorem tk {ks:List (Int×Int)} {m:Int×Int} (hu:Nu ks) (hm:m ∈ ks) (SR:∀ k ∈ ks,k=m\/bB m k=true):∃ lZ,ks=m::lZ/\Nu lZ/\∀ k,k ∈ lZ↔k ∈ ks/\k≠m:=by
 cases ks with
 | nil=>cases hm
 | cons k lZ=>
  have hp:=List.pairwise_cons.1 hu
  have e:k=m:=by
   grind [xo]
  subst e
  refine ⟨lZ,rfl,hp.2,λq=>⟨λhq=>⟨List.mem_cons_of_mem _ hq,λe=>?_⟩,λ⟨hq,dI⟩=>?_⟩⟩
  all_goals grind [dQ]
theorem Qg:∀ (n:Nat) (B A:List Row) (ks:List (Int×Int)),up B->up A->Nu ks->(∀ k,k ∈ ks↔rY B A k)->B.length+A.length<=n->m9 n B A=ks.filterMap λk=>jt (look B k) (look A k):=by
 intro n
 induction n with
 | zero=>
  intro B A ks _ _ _ hk hl
  obtain rfl:B=[]:=List.eq_nil_of_length_eq_zero (by omega)
  obtain rfl:A=[]:=List.eq_nil_of_length_eq_zero (by omega)
  cases ks with
  | nil=>rfl
  | cons k ks=>rcases (hk k).1 List.mem_cons_self with ⟨_,h,_⟩ | ⟨_,h,_⟩ <;> cases h
 | succ n ih=>
  intro B A ks hB hA xm hk hl
  cases B with
  | nil=>
   cases A with
   | nil=>
    cases ks with
    | nil=>rfl
    | cons k ks=>rcases (hk k).1 List.mem_cons_self with ⟨_,h,_⟩ | ⟨_,h,_⟩ <;> cases h
   | cons b bs=>
    have wN:=nQ.1 hA
    obtain ⟨lZ,rfl,g1,g2⟩:=tk (m:=rk b) xm ((hk _).2 (.inr ⟨b,List.mem_cons_self,rfl⟩)) (λk kY=>by
     rcases (hk k).1 kY with ⟨_,h,_⟩ | ⟨y,h,rfl⟩
     all_goals grind)
    have kY:∀ k,k ∈ lZ↔rY [] bs k:=λk=>by
     rw[g2,hk]
     constructor
     ·rintro ⟨⟨_,h,_⟩ | ⟨y,h,rfl⟩,dI⟩
      ·cases h
      ·rcases List.mem_cons.1 h with rfl | h
       ·grind
       ·exact .inr ⟨y,h,rfl⟩
     ·rintro (⟨_,h,_⟩ | ⟨y,h,rfl⟩)
      ·cases h
      ·exact ⟨.inr ⟨y,List.mem_cons_of_mem _ h,rfl⟩,λe=>by grind [dQ]⟩
    have av:∀ k ∈ lZ,bB (rk b) k=true:=λk hm=>by
     rcases (kY k).1 hm with ⟨_,h,_⟩ | ⟨y,h,rfl⟩
     all_goals grind
    simp only[m9,List.filterMap_cons,oT]
    rw[show look ([]:List Row) (rk b)=none from rfl]
    simp only[II,IJ]
    rw[ih [] bs lZ hB wN.2 g1 kY (by grind)]
    congr 1
    grind [ji,uU]
  | cons a al=>
   have MB:=nQ.1 hB
   cases A with
   | nil=>
    obtain ⟨lZ,rfl,g1,g2⟩:=tk (m:=rk a) xm ((hk _).2 (.inl ⟨a,List.mem_cons_self,rfl⟩)) (λk kY=>by
     rcases (hk k).1 kY with ⟨y,h,rfl⟩ | ⟨_,h,_⟩
     all_goals grind)
    have kY:∀ k,k ∈ lZ↔rY al [] k:=λk=>by
     rw[g2,hk]
     constructor
     ·rintro ⟨⟨y,h,rfl⟩ | ⟨_,h,_⟩,dI⟩
      ·rcases List.mem_cons.1 h with rfl | h
       ·grind
       ·exact .inl ⟨y,h,rfl⟩
      ·cases h
     ·rintro (⟨y,h,rfl⟩ | ⟨_,h,_⟩)
      ·exact ⟨.inl ⟨y,List.mem_cons_of_mem _ h,rfl⟩,λe=>by grind [dQ]⟩
      ·cases h
    have av:∀ k ∈ lZ,bB (rk a) k=true:=λk hm=>by
     rcases (kY k).1 hm with ⟨y,h,rfl⟩ | ⟨_,h,_⟩
     all_goals grind
    simp only[m9,List.filterMap_cons,oT]
    rw[show look ([]:List Row) (rk a)=none from rfl]
    simp only[II,IJ]
    rw[ih al [] lZ MB.2 hA g1 kY (by grind)]
    congr 1
    grind [ji,uU]
   | cons b bs=>
    have wN:=nQ.1 hA
    by_cases h1:bB (rk a) (rk b)=true
    ·have Ps:∀ y ∈ b::bs,bB (rk a) (rk y)=true:=λy h=>by
      grind [jm]
     obtain ⟨lZ,rfl,g1,g2⟩:=tk (m:=rk a) xm ((hk _).2 (.inl ⟨a,List.mem_cons_self,rfl⟩)) (λk kY=>by
      rcases (hk k).1 kY with ⟨y,h,rfl⟩ | ⟨y,h,rfl⟩
      all_goals grind)
     have kY:∀ k,k ∈ lZ↔rY al (b::bs) k:=λk=>by
      rw[g2,hk]
      constructor
      ·rintro ⟨⟨y,h,rfl⟩ | ⟨y,h,rfl⟩,dI⟩
       ·rcases List.mem_cons.1 h with rfl | h
        ·grind
        ·exact .inl ⟨y,h,rfl⟩
       ·exact .inr ⟨y,h,rfl⟩
      ·rintro (⟨y,h,rfl⟩ | ⟨y,h,rfl⟩)
       ·exact ⟨.inl ⟨y,List.mem_cons_of_mem _ h,rfl⟩,λe=>by grind [dQ]⟩
       ·exact ⟨.inr ⟨y,h,rfl⟩,λe=>by grind [dQ]⟩
     have av:∀ k ∈ lZ,bB (rk a) k=true:=λk hm=>by
      rcases (kY k).1 hm with ⟨y,h,rfl⟩ | ⟨y,h,rfl⟩
      all_goals grind
     simp only[m9,h1,if_true,List.filterMap_cons,oT,G0 hA h1,II]
     rw[ih al (b::bs) lZ MB.2 hA g1 kY (by grind)]
     congr 1
     refine ji λk h=>?_
     grind [uU]
    ·have Qh:bB (rk a) (rk b)=false:=by simpa using h1
     by_cases U:bB (rk b) (rk a)=true
     ·have Ps:∀ y ∈ a::al,bB (rk b) (rk y)=true:=λy h=>by
       grind [jm]
      obtain ⟨lZ,rfl,g1,g2⟩:=tk (m:=rk b) xm ((hk _).2 (.inr ⟨b,List.mem_cons_self,rfl⟩)) (λk kY=>by
       rcases (hk k).1 kY with ⟨y,h,rfl⟩ | ⟨y,h,rfl⟩
       all_goals grind)
      have kY:∀ k,k ∈ lZ↔rY (a::al) bs k:=λk=>by
       rw[g2,hk]
       constructor
       ·rintro ⟨⟨y,h,rfl⟩ | ⟨y,h,rfl⟩,dI⟩
        ·exact .inl ⟨y,h,rfl⟩
        ·rcases List.mem_cons.1 h with rfl | h
         ·grind
         ·exact .inr ⟨y,h,rfl⟩
       ·rintro (⟨y,h,rfl⟩ | ⟨y,h,rfl⟩)
        ·exact ⟨.inl ⟨y,h,rfl⟩,λe=>by grind⟩
        ·exact ⟨.inr ⟨y,List.mem_cons_of_mem _ h,rfl⟩,λe=>by grind [dQ]⟩
      have av:∀ k ∈ lZ,bB (rk b) k=true:=λk hm=>by
       rcases (kY k).1 hm with ⟨y,h,rfl⟩ | ⟨y,h,rfl⟩
       all_goals grind
      simp only[m9,Qh,U,if_true,Bool.false_eq_true,if_false,List.filterMap_cons,oT,G0 hB U,IJ]
      rw[ih (a::al) bs lZ hB wN.2 g1 kY (by grind)]
      congr 1
      refine ji λk h=>?_
      grind [uU]
     ·have O4:bB (rk b) (rk a)=false:=by simpa using U
      have Qd:rk a=rk b:=nx Qh O4
      have Ps:∀ y ∈ bs,bB (rk a) (rk y)=true:=λy h=>by grind
      obtain ⟨lZ,rfl,g1,g2⟩:=tk (m:=rk a) xm ((hk _).2 (.inl ⟨a,List.mem_cons_self,rfl⟩)) (λk kY=>by
       rcases (hk k).1 kY with ⟨y,h,rfl⟩ | ⟨y,h,rfl⟩
       all_goals grind)
      have kY:∀ k,k ∈ lZ↔rY al bs k:=λk=>by
       rw[g2,hk]
       constructor
       ·rintro ⟨⟨y,h,rfl⟩ | ⟨y,h,rfl⟩,dI⟩
        ·rcases List.mem_cons.1 h with rfl | h
         ·grind
         ·exact .inl ⟨y,h,rfl⟩
        ·rcases List.mem_cons.1 h with rfl | h
         ·grind
         ·exact .inr ⟨y,h,rfl⟩
       ·rintro (⟨y,h,rfl⟩ | ⟨y,h,rfl⟩)
        ·exact ⟨.inl ⟨y,List.mem_cons_of_mem _ h,rfl⟩,λe=>by grind⟩
        ·exact ⟨.inr ⟨y,List.mem_cons_of_mem _ h,rfl⟩,λe=>by grind⟩
      have av:∀ k ∈ lZ,bB (rk a) k=true:=λk hm=>by
       rcases (kY k).1 hm with ⟨y,h,rfl⟩ | ⟨y,h,rfl⟩
       all_goals grind
      have Xv:=ih al bs lZ MB.2 wN.2 g1 kY (by grind)
      have HP:(lZ.filterMap λk=>jt (look (a::al) k) (look (b::bs) k))=lZ.filterMap λk=>jt (look al k) (look bs k):=ji λk h=>by
       grind [uU]
      have VZ:look (b::bs) (rk a)=some b:=by grind [oT]
      simp only[m9,Qh,O4,Bool.false_eq_true,if_false,List.filterMap_cons,oT,VZ,yg]
      grind
theorem wd:∀ (n m:Nat) (B A:List Row),B.length+A.length<=n->B.length+A.length<=m->m9 n B A=m9 m B A:=by
 intro n
 induction n with
 | zero=>
  intro m B A h _
  obtain rfl:B=[]:=List.eq_nil_of_length_eq_zero (by omega)
  obtain rfl:A=[]:=List.eq_nil_of_length_eq_zero (by omega)
  cases m <;> rfl
 | succ n ih=>
  intro m B A h1 U
  cases m with
  | zero=>
   grind
  | succ m=>
   cases B with
   | nil=>
    cases A <;> grind [m9]
   | cons a al=>
    cases A <;> grind [m9]
def ip (B A:List Row):List Change:=m9 (B.length+A.length) B A
theorem LT:ip [] []=[]:=rfl
theorem Qi (b:Row) (bs:List Row):ip [] (b::bs)=(false,kR,true,b,())::ip [] bs:=by
 unfold ip
 rw[wd _ (([]:List Row).length+bs.length+1) [] (b::bs) (Nat.le_refl _) (by simp)]
 rfl
theorem Qj (a:Row) (al:List Row):ip (a::al) []=(true,a,false,kR,())::ip al []:=by
 unfold ip
 rw[wd _ (al.length+([]:List Row).length+1) (a::al) [] (Nat.le_refl _) (by simp)]
 rfl
theorem AV (a b:Row) (al bs:List Row):ip (a::al) (b::bs)=if bB (rk a) (rk b) then (true,a,false,kR,())::ip al (b::bs) else
  if bB (rk b) (rk a) then (false,kR,true,b,())::ip (a::al) bs else if Ty.eq aE a b then ip al bs else (true,a,true,b,())::ip al bs:=by
 unfold ip
 rw[wd _ (al.length+bs.length+1+1) (a::al) (b::bs) (Nat.le_refl _) (by simp;omega)]
 grind [m9,wd]
theorem qp:∀ (n:Nat) (B A:List Row),(m9 n B A).length<=n
 | 0,_,_=>Nat.le_refl _
 | n+1,[],[]=>Nat.zero_le _
 | n+1,[],b::bs=>by simp only[m9,List.length_cons];have:=qp n [] bs;omega
 | n+1,a::al,[]=>by simp only[m9,List.length_cons];have:=qp n al [];omega
 | n+1,a::al,b::bs=>by
  simp only[m9]
  have h1:=qp n al (b::bs);have U:=qp n (a::al) bs;have h3:=qp n al bs
  grind
theorem oH {q:Row->Prop} (h0:q kR):∀ (n:Nat) (B A:List Row),(∀ x ∈ B,q x)->(∀ x ∈ A,q x)->∀ c ∈ m9 n B A,q c.2.1/\q c.2.2.2.1
 | 0,_,_,_,_=>λ_ h=>by cases h
 | n+1,[],[],_,_=>λ_ h=>by cases h
 | n+1,[],b::bs,hB,hA=>λc h=>by
  rcases List.mem_cons.1 h with rfl | h
  ·grind
  ·exact oH h0 n [] bs hB (λx hx=>hA x (List.mem_cons_of_mem _ hx)) c h
 | n+1,a::al,[],hB,hA=>λc h=>by
  rcases List.mem_cons.1 h with rfl | h
  ·grind
  ·exact oH h0 n al [] (λx hx=>hB x (List.mem_cons_of_mem _ hx)) hA c h
 | n+1,a::al,b::bs,hB,hA=>λc h=>by
  have ha:=hB a List.mem_cons_self;have hb:=hA b List.mem_cons_self
  have Qk:∀ x ∈ al,q x:=λx hx=>hB x (List.mem_cons_of_mem _ hx)
  have Ql:∀ x ∈ bs,q x:=λx hx=>hA x (List.mem_cons_of_mem _ hx)
  simp only[m9] at h
  split at h
  ·rcases List.mem_cons.1 h with rfl | h
   ·exact ⟨ha,h0⟩
   ·exact oH h0 n al (b::bs) Qk hA c h
  ·split at h
   ·rcases List.mem_cons.1 h with rfl | h
    ·exact ⟨h0,hb⟩
    ·exact oH h0 n (a::al) bs hB Ql c h
   ·split at h
    ·exact oH h0 n al bs Qk Ql c h
    ·rcases List.mem_cons.1 h with rfl | h
     ·exact ⟨ha,hb⟩
     ·exact oH h0 n al bs Qk Ql c h
theorem BK (B A:List Row) (hB:B.length<=1000) (hA:A.length<=1000):eh.aa (B,A,())=some (ip B A,()):=by
 refine aj (k:=2001) λk hk=>(eh.af k _).trans ?_
 have:=pw (B:=λself v=>eh.B0 0 self (λz=>eh.Q0 0 (B,A,()) z) (B,A,()) v) (λv=>(v.2.2++ip v.1 v.2.1,()))
  (λv=>v.2.2.length+(v.1.length+v.2.1.length)<=2000) (λv=>v.1.length+v.2.1.length) (λv hv self=>?_) k (B,A,[]) (by simp;omega) (by simp;omega)
 ·exact this
 obtain ⟨al,bs,out⟩:=v
 simp only at hv
 have jF:out.length+1<=cJ:=dR (by omega)
 cases al with
 | nil=>
  cases bs <;> grind [eh.b0,eh.q0,LT,Qi]
 | cons a al=>
  have h1:(0:Int) < (al.length:Int)+1:=by omega
  have U:(1:Int)<=(al.length:Int)+1:=by omega
  have h3:¬ ((al.length:Int)+1=0):=by omega
  cases bs with
  | nil=>
   right
   refine ⟨(al,[],out++[(true,a,false,kR,())]),?_,?_,?_,by simp⟩
   all_goals grind [eh.b0,Qj]
  | cons b bs=>
   have h4:(0:Int) < (bs.length:Int)+1:=by omega
   have h5:(1:Int)<=(bs.length:Int)+1:=by omega
   have h6:¬ ((bs.length:Int)+1=0):=by omega
   right
   have zQ:bB (a.1,a.2.1) (b.1,b.2.1)=bB (rk a) (rk b):=rfl
   have f8:bB (b.1,b.2.1) (a.1,a.2.1)=bB (rk b) (rk a):=rfl
   cases fj:bB (rk a) (rk b) with
   | true=>
    refine ⟨(al,b::bs,out++[(true,a,false,kR,())]),?_,?_,?_,by simp⟩
    ·simp_all [eh.b0,nv]
    all_goals grind [AV]
   | false=>
    cases B7:bB (rk b) (rk a) with
    | true=>
     refine ⟨(a::al,bs,out++[(false,kR,true,b,())]),?_,?_,?_,by simp⟩
     ·simp_all [eh.b0,nv]
     all_goals grind [AV]
    | false=>
     cases Xw:Ty.eq aE a b with
     | true=>
      refine ⟨(al,bs,out),?_,?_,?_,by simp;omega⟩
      ·simp_all [eh.b0,nv]
      all_goals grind [AV]
     | false=>
      refine ⟨(al,bs,out++[(true,a,true,b,())]),?_,?_,?_,by simp;omega⟩
      ·simp_all [eh.b0,nv]
      all_goals grind [AV]
def xM (B A:List Row):List Row:=A.foldl (λks x=>if eS B (rk x) then ks else gf ks x) B
theorem zq (ks:List Row) (r y:Row):y ∈ gf ks r↔y=r\/y ∈ ks:=by
 grind [gf,List.take_append_drop]
theorem Ob {ks:List Row} {r:Row} (hu:up ks) (hn:∀ y ∈ ks,rk y≠rk r):up (gf ks r):=by
 have hp:=AA ks (rk r)
 have h1:∀ y ∈ ks.take (pos ks (rk r)),bB (rk y) (rk r)=true:=λy hy=>sT hy
 have U:∀ y ∈ ks.drop (pos ks (rk r)),bB (rk r) (rk y)=true:=λy hy=>by
  obtain ⟨i,hi,rfl⟩:=List.mem_iff_getElem.1 hy
  grind [pO,nx]
 unfold gf up
 have OR:(ks.take (pos ks (rk r))++ks.drop (pos ks (rk r))).Pairwise (λa b=>bB (rk a) (rk b)=true):=by rw[List.take_append_drop];exact hu
 grind
theorem BL {xs:List Row} {k:Int×Int} (hu:up xs):eS xs k=true↔∃ y ∈ xs,rk y=k:=by
 constructor
 ·exact uL
 ·rintro ⟨y,hy,hk⟩
  cases hf:eS xs k with
  | true=>rfl
  | false=>
   exfalso
   obtain ⟨i,hi,rfl⟩:=List.mem_iff_getElem.1 hy
   have hle:=AA xs k
   rcases Nat.lt_or_ge i (pos xs k) with h | h
   ·have:=uK xs k i hi h
    grind [dQ]
   ·have h1:pos xs k < xs.length:=by omega
    have U:=pO xs k (pos xs k) h1 hu (Nat.le_refl _)
    rcases Nat.lt_or_ge (pos xs k) i with h3 | h3
    ·have:=List.pairwise_iff_getElem.1 hu _ _ h1 hi h3
     grind
    grind [eS]
theorem pW (B:List Row) (hB:up B):∀ (A:List Row) (ks:List Row),up ks->A.Pairwise (λa b=>bB (rk a) (rk b)=true)->(∀ x ∈ B,x ∈ ks)->(∀ y ∈ A,∀ x ∈ ks,rk x=rk y->∃ z ∈ B,rk z=rk y) ->
  up (A.foldl (λks x=>if eS B (rk x) then ks else gf ks x) ks)/\(A.foldl (λks x=>if eS B (rk x) then ks else gf ks x) ks).length<=ks.length+A.length /\
  ∀ k,(∃ x ∈ A.foldl (λks x=>if eS B (rk x) then ks else gf ks x) ks,rk x=k)↔((∃ x ∈ ks,rk x=k)\/∃ y ∈ A,rk y=k)
 | [],ks,hu,_,_,_=>⟨hu,by simp,λk=>by simp⟩
 | y::A,ks,hu,hA,ve,dI=>by
  have wN:=List.pairwise_cons.1 hA
  rw[List.foldl_cons]
  by_cases hf:eS B (rk y)=true
  ·rw[if_pos hf]
   obtain ⟨h1,U,h3⟩:=pW B hB A ks hu wN.2 ve (λz hz=>dI z (List.mem_cons_of_mem _ hz))
   refine ⟨h1,by grind,λk=>?_⟩
   rw[h3]
   grind [uL]
  ·rw[if_neg hf]
   have rg:∀ x ∈ ks,rk x≠rk y:=λx hx e=>hf ((BL hB).2 (dI y List.mem_cons_self x hx e))
   obtain ⟨h1,U,h3⟩:=pW B hB A (gf ks y) (Ob hu rg) wN.2 (λx hx=>(zq ks y x).2 (.inr (ve x hx))) (λz hz x hx e=>by
    grind [zq,dQ])
   refine ⟨h1,?_,λk=>?_⟩
   ·grind [gf]
   ·rw[h3]
    grind [zq]
theorem E9 {B A:List Row} (hB:up B) (hA:up A):up (xM B A)/\(xM B A).length<=B.length+A.length/\(xM B A).filterMap (λx=>jt (look B (rk x)) (look A (rk x)))=ip B A:=by
 obtain ⟨h1,U,h3⟩:=pW B hB A B hB hA (λ_ h=>h) (λy _ x hx e=>⟨x,hx,e⟩)
 refine ⟨h1,U,?_⟩
 have hp:Nu ((xM B A).map rk):=List.pairwise_map.2 h1
 unfold ip
 rw[Qg _ B A ((xM B A).map rk) hB hA hp (λk=>?_) (Nat.le_refl _),List.filterMap_map]
 ·rfl
 ·rw[List.mem_map]
  exact h3 k
theorem F_ {α β:Type} (g:β->α->β) (xs:List α) (i:Nat) (hi:i < xs.length) (s:β):(xs.take (i+1)).foldl g s=g ((xs.take i).foldl g s) xs[i]:=by
 grind [List.take_succ_eq_append_getElem]
def BM {β:Type} (s:List β):Option β->List β
 | some y=>s++[y]
 | none=>s
theorem E_ {α β:Type} (f:α->Option β):∀ (xs:List α) (s:List β),xs.foldl (λs x=>BM s (f x)) s=s++xs.filterMap f
 | [],s=>by simp
 | x::xs,s=>by
  rw[List.foldl_cons,E_ f xs,List.filterMap_cons]
  grind [BM]
theorem xN {xs:List Row} {k:Int×Int} (h:eS xs k=true):∃ hp:pos xs k < xs.length,look xs k=some xs[pos xs k]:=by
 grind [qT,look]
theorem BN (B A:List Row) (hB:up B) (hA:up A) (V0:B.length<=1000) (V1:A.length<=1000):bV.aa (B,A,())=some (ip B A,()):=by
 obtain ⟨hu,hlen,WC⟩:=E9 hB hA
 refine aj (k:=2001) λk hk=>(bV.af k _).trans ?_
 unfold bV.p
 rw[if_pos (dR (by grind)),List.nil_append]
 have h1:=d9 (B:=λself v=>bV.B0 k self (λz=>bV.Q0 k (B,A,()) z) (B,A,()) v) A (λ(s:List Row) (i:Int)=>(s,i)) (λ_ s x=>.inr (if eS B (rk x) then s else gf s x)) (λs=>(s.filterMap (λx=>jt (look B (rk x)) (look A (rk x))),()))
  (λi s=>s=(A.take i).foldl (λks x=>if eS B (rk x) then ks else gf ks x) B/\s.length<=B.length+i) (by rw[aL];omega)
  (λi hi s self hI=>by
   show bV.b0 _ _ _ _=_
   unfold bV.b0
   grind [Int.natCast_nonneg,tN,rk,AC,rO])
  (λi hi s s' hI hf=>by
   grind [F_,gf]) (λs self hI=>by
   show bV.b0 _ _ _ _=_
   unfold bV.b0
   simp only[Int.lt_irrefl,decide_false,cond_false]
   obtain ⟨e,hl⟩:=hI
   rw[List.take_length] at e
   have hs:s=xM B A:=e
   show bV.r1 k (B,A,()) s ([],0)=_
   have U:=d9 (B:=λself v=>bV.B1 k self (λz=>bV.Q1 k (B,A,()) s z) (B,A,()) s v) s (λ(s:List Change) (i:Int)=>(s,i)) (λ_ s x=>.inr (BM s (jt (look B (rk x)) (look A (rk x))))) (λs=>(s,()))
    (λi s=>s.length<=i) (by rw[aL];omega)
    (λi hi t self hI=>by
     show bV.b1 _ _ _ _ _=_
     unfold bV.b1
     have av:(i:Int) < (s.length:Int):=by omega
     have jF:∀ y:Change,t.length+[y].length<=cJ:=λy=>dR (by grind)
     have gr:∀ xs:List Row,up xs->xs.length<=1000->eL.aa (xs,(s[i]).1,(s[i]).2.1,())=some (AC xs (rk s[i]),()):=λxs h1 U=>tN xs _ _ h1 (by omega)
     simp only[av,decide_true,cond_true,Int.natCast_nonneg,true_and,if_true,Int.toNat_natCast,List.getElem?_eq_getElem hi,Option.bind_some,gr B hB V0,gr A hA V1]
     unfold AC
     cases RW:eS B (rk s[i]) with
     | true=>
      obtain ⟨Uv,e1⟩:=xN RW
      cases MF:eS A (rk s[i]) with
      | true=>
       grind [xN,Int.toNat_natCast,jt,BM]
      | false=>
       grind [look,jt,BM]
     | false=>
      have e1:look B (rk s[i])=none:=by grind [look]
      have MF:eS A (rk s[i])=true:=by
       have hm:=(pW B hB A B hB hA (λ_ h=>h) (λy _ x hx e=>⟨x,hx,e⟩)).2.2 (rk s[i])
       grind [BL]
      grind [xN,Int.natCast_nonneg,Int.toNat_natCast,jt,BM])
    (λi hi t t' hI hf=>by
     injection hf with hf;subst hf
     cases jt (look B (rk s[i])) (look A (rk s[i])) with
     | none=>show t.length<=_;omega
     | some y=>show (t++[y]).length<=_;grind) (λt self _=>by
     show bV.b1 _ _ _ _ _=_
     unfold bV.b1
     simp only[Int.lt_irrefl,decide_false,cond_false]
     rfl) [] (by simp) k (by rw[hs];omega)
   rw[fi,E_,List.nil_append] at U
   exact U) B ⟨rfl,by omega⟩ k (by omega)
 simp_all [fi,bV.r0,xM]
end OT
set_option linter.unusedVariables false
set_option linter.unusedSimpArgs false
set_option linter.unusedSectionVars false
namespace OT
open Go
theorem CB {ps qs:aH} (hv:a7 ps=0) (hq:a7 qs=0) {c:Change} (hc:ig c=0) (h:∀ r',r' ∈ aq qs↔(r' ∈ aq ps/\rk r'≠ck c)\/(c.2.2.1=true/\r'=c.2.2.2.1)):(aq qs).length<=(aq ps).length+1:=by
 have hu:=gb (dv hv)
 have e:aq qs=lL (aq ps) c:=rX (gb (dv hq)) (tP (nC hv) hc).up λr'=>by rw[h,zo hu]
 rw[e]
 exact Ey _ _
theorem KD {ps:aH} (hv:a7 ps=0) {x:ai} (hx:x ∈ c_ ps):bS x ∈ aq ps:=by
 rw[ny (dv hv),(nR _).mem_iff,List.mem_map]
 exact ⟨x,hx,rfl⟩
theorem Oc {r:Row} (hr:cP r=0):ig (false,kR,true,r,())=0:=by
 unfold ig
 simp only[hr]
 rfl
theorem LU {r:Row} (hr:cP r=0):ig (true,r,false,kR,())=0:=by
 unfold ig
 simp only[hr]
 rfl
theorem Fc {ps qs:aH} (hv:a7 ps=0) (hq:a7 qs=0) {r:Row} (hr:cP r=0) (h:∀ r',r' ∈ aq qs↔(r' ∈ aq ps/\rk r'≠rk r)\/r'=r):(aq qs).length<=(aq ps).length+1:=
 CB hv hq (c:=(false,kR,true,r,())) (Oc hr) λr'=>by
  rw[h]
  exact or_congr Iff.rfl ⟨λe=>⟨rfl,e⟩,λe=>e.2⟩
theorem LV {ps qs:aH} (hv:a7 ps=0) (hq:a7 qs=0) {x:ai} (hx:x ∈ c_ ps) (h:∀ r',r' ∈ aq qs↔r' ∈ aq ps/\rk r'≠rk (bS x)):(aq qs).length<=(aq ps).length+1:=
 CB hv hq (c:=(true,bS x,false,kR,())) (LU ((nC hv).2 _ (KD hv hx))) λr'=>by
  rw[h]
  exact ⟨λe=>.inl e,λe=>e.elim id λe=>absurd e.1 (by show ¬ false=true;decide)⟩
theorem LW {ps qs:aH} (hv:a7 ps=0) (hq:a7 qs=0) {r:Row} (hr:cP r=0) (hn:iJ ps r.1 r.2.1=none) (h:∀ r',r' ∈ aq qs↔r' ∈ aq ps\/r'=r):(aq qs).length<=(aq ps).length+1:=by
 have ez:=oS (dv hv) r.1 r.2.1
 rw[hn] at ez
 have ez:eS (aq ps) (rk r)=false:=ez
 have iz:∀ y ∈ aq ps,rk y≠rk r:=λy hy e=>by
  have:=(BL (gb (dv hv))).2 ⟨y,hy,e⟩
  rw[ez] at this
  cases this
 refine Fc hv hq hr λr'=>?_
 rw[h]
 exact or_congr ⟨λe=>⟨e,iz _ e⟩,λe=>e.1⟩ Iff.rfl
theorem LX:aq []=[]:=by decide +kernel
theorem LY {ps:aH} (hv:a7 ps=0) (hl:ps.length=2):(aq ps).length<=32:=by
 have hR:=(jV hv).1
 have h1:=BF (g:=jg) (n:=16) ps 0 λi p hp=>qA (hR.2 p hp) i
 have U:∀ xs:List ai,(xs.flatMap (jU ps)).length<=xs.length:=by
  intro xs
  induction xs <;> grind [jU]
 have h3:=U (aT ps)
 have h4:(aT ps).length<=32:=by unfold aT;omega
 have h5:(c_ ps).length<=32:=by unfold c_;omega
 rw[ny (dv hv),(nR _).length_eq,List.length_map]
 exact h5
theorem Fe {s:aO} {b:Int} (h:cA s b) (hb:b<=500000):∃ xs t,br.aa (s,())=some (xs,t,())/\xs.length<=6/\(∀ r ∈ xs,cP r=0)/\up xs/\cA t (b+100):=by
 have Ja:0<=b:=Int.le_trans h.2.1 h.2.2
 obtain ⟨v,t1,e1,J,c1,s1⟩:=dX (n:=7) h (by omega) (by omega) (by omega)
 have:=uS 700000 (B:=λw v=>br.b0 w (br.q0 (s,())) (s,()) v) (λs (l:List Row) i=>(s,l,i)) (λc l=>up l/\(∀ r ∈ l,cP r=0)/\5*(l.length:Int)<=c - b - 1) 5 (by omega) (λs l=>(l,s,()))
  (λm s x c hm hs hc hI=>by
   obtain ⟨r,t,e1,hr,s1⟩:=pV hs (by omega)
   have av:(0:Int) < ((m+1:Nat):Int):=by omega
   have ry:=hs.2
   have hA:=tN x r.1 r.2.1 hI.1 (by omega)
   have hP:=rO x r (by omega)
   by_cases hf:AC x (r.1,r.2.1) < 0
   ·refine ⟨t,gf x r,s1,⟨BE hI.1 (Ky hI.1 hf),?_,by rw[E7];omega⟩,λself=>?_⟩
    ·intro y hy
     rcases List.mem_cons.1 ((tQ x r).mem_iff.1 hy) with h1 | h1
     ·rw[h1];exact hr
     ·exact hI.2.1 y h1
    ·unfold br.b0
     simp only[av,decide_true,cond_true,e1,Option.bind_some,iL hm,hA,hP,hf]
   ·refine ⟨t,x,s1,⟨hI.1,hI.2.1,by omega⟩,λself=>?_⟩
    unfold br.b0
    simp only[av,decide_true,cond_true,e1,Option.bind_some,iL hm,hA,hf,decide_false,cond_false])
  (λs x c _ _ self=>by
   unfold br.b0
   rw[decide_eq_false (Int.lt_irrefl _),cond_false]
   rfl) v.toNat t1 [] (b+1) (by omega) s1 ⟨List.Pairwise.nil,λ_ h=>(by cases h),by simp only[List.length_nil];omega⟩ (by omega)
 obtain ⟨t,l,xL,a2,a3⟩:=this
 have hv:((v.toNat:Nat):Int)=v:=by omega
 rw[hv] at a3 xL a2
 refine ⟨l,t,aj (k:=8) λk hk=>(br.af k _).trans ?_,by have:=a2.2.2;omega,a2.2.1,a2.1,xL.mono (by omega)⟩
 unfold br.p
 rw[e1]
 exact a3 k (by omega)
theorem KE {s:aO} {b:Int} (h:cA s b) (hb:b<=200000):∃ x t,j8.aa (s,())=some (x,t,())/\ov x/\(x.length=2\/x.length=13)/\cA t (b+1000):=by
 obtain ⟨x,t1,e1,hx,s1⟩:=Kz h (by omega)
 have MV:=KA hx
 obtain ⟨p,q,rfl,hp,hq⟩:=hx
 obtain ⟨v,t2,e2,a2,c2,s2⟩:=dX (n:=14) s1 (by omega) (by omega) (by omega)
 have lp:=hp.len
 have lq:=hq.len
 suffices hQ:∃ r' t',j8.p (s,())=some (r',t',())/\ov r'/\(r'.length=2\/r'.length=13)/\cA t' (b+1000) by
  obtain ⟨r',t',p1,p2,p3,p4⟩:=hQ
  exact ⟨r',t',aj (k:=0) λk _=>(j8.af k _).trans p1,p2,p3,p4⟩
 unfold j8.p
 rw[e1]
 simp only[Option.bind_some,e2]
 by_cases h0:v=0
 ·obtain ⟨w,t3,e3,hw,s3⟩:=F9 s2 (by omega)
  simp only[h0,decide_true,cond_true,e3,Option.bind_some]
  exact ⟨[w,q],_,rfl,E8 hw (by omega),.inl rfl,s3.mono (by omega)⟩
 by_cases h1:v=1
 ·simp only[h1,show ¬ (1:Int)=0 by omega,decide_true,decide_false,cond_true,cond_false]
  rw[if_pos ⟨by omega,by omega,by simp only[cJ];omega⟩]
  refine ⟨_,_,rfl,λy hy=>?_,.inr List.length_replicate,s2.mono (by omega)⟩
  rw[(List.mem_replicate.1 hy).2]
  exact Nat.zero_le _
 by_cases U:v=2
 ·obtain ⟨v3,t3,e3,a3,c3,s3⟩:=dX (n:=2) s2 (by omega) (by omega) (by omega)
  obtain ⟨v4,t4,e4,a4,c4,s4⟩:=dX (n:=3) s3 (by omega) (by omega) (by omega)
  have e5:dH.aa (v3,v4,())=some (cn v3.toNat v4.toNat,()):=by
   have:=qE v3.toNat v4.toNat
   rw[show ((v3.toNat:Nat):Int)=v3 by omega,show ((v4.toNat:Nat):Int)=v4 by omega] at this
   exact this
  obtain ⟨Q,n,k,e6,k6⟩:=uT hp (show 1<=(cn v3.toNat v4.toNat).length by unfold cn;simp) (show (cn v3.toNat v4.toNat).length<=20 by unfold cn;simp)
  simp only[U,show ¬ (2:Int)=0 by omega,show ¬ (2:Int)=1 by omega,decide_true,decide_false,cond_true,cond_false,e3,e4,e5,e6,Option.bind_some,List.getElem?_cons_zero,List.length_cons,List.length_nil]
  by_cases hk:k=0
  ·simp only[hk,decide_true,cond_true]
   exact ⟨[Q,q],_,rfl,E8 (Nat.le_of_eq (k6 hk).1.len) (by omega),.inl rfl,s4.mono (by omega)⟩
  ·simp only[hk,decide_false,cond_false]
   exact ⟨[p,q],_,rfl,MV,.inl rfl,s4.mono (by omega)⟩
 by_cases h3:v=3
 ·obtain ⟨r,t3,e3,hr,s3⟩:=pV s2 (by omega)
  have e5:bO.aa ((0:Int),r,())=some (aM 0 r,()):=lA (f:=0) hr
  have qI:=cw (f:=0) hr
  obtain ⟨Q,n,k,e6,k6⟩:=uT hq qI.1 (by omega:(aM 0 r).length<=20)
  simp only[h3,show ¬ (3:Int)=0 by omega,show ¬ (3:Int)=1 by omega,show ¬ (3:Int)=2 by omega,decide_true,decide_false,cond_true,cond_false,e3,e5,e6,Option.bind_some,List.getElem?_cons_zero,List.getElem?_cons_succ,List.length_cons,List.length_nil]
  by_cases hk:k=0
  ·simp only[hk,decide_true,cond_true]
   exact ⟨[p,Q],_,rfl,E8 (by omega) (Nat.le_of_eq (k6 hk).1.len),.inl rfl,s3.mono (by omega)⟩
  ·simp only[hk,decide_false,cond_false]
   exact ⟨[p,q],_,rfl,MV,.inl rfl,s3.mono (by omega)⟩
 simp only[h0,h1,U,h3,decide_false,cond_false]
 exact ⟨_,_,rfl,MV,.inl rfl,s2.mono (by omega)⟩
theorem IK {s:aO} {b:Int} (h:cA s b) (hb:b<=300000):∃ x t,ef.aa (s,())=some (x,t,())/\a7 x=0/\(aq x).length<=15/\cA t (b+200):=by
 obtain ⟨v,t1,e1,J,c1,s1⟩:=dX (n:=16) h (by omega) (by omega) (by omega)
 have:=uS 700000 (B:=λw v=>ef.b0 w (ef.q0 (s,())) (s,()) v) (λs (l:aH) i=>(s,l,i)) (λc l=>a7 l=0/\7*((aq l).length:Int)<=c - b - 1) 7 (by omega) (λs l=>(l,s,()))
  (λm s x c hm hs hc ⟨hI,hn⟩=>by
   have av:(0:Int) < ((m+1:Nat):Int):=by omega
   have V:=dv hI
   obtain ⟨r,t1,e1,hr,s1⟩:=pV hs (by omega)
   have e2:=um x V.right r.1 r.2.1
   cases hf:iJ x r.1 r.2.1 with
   | none=>
    rw[hf] at e2
    have e3:=AQ V.right hr
    by_cases h0:(jW (kH (aW x) r).1.isSome (kH (aW x) r).2).1=0
    ·have hv:=Cx hI hr hf h0
     have hd:=(mB h0).2
     refine ⟨t1,(kH (aW x) r).2.1,s1.mono (by omega),⟨hv.1,by have:=LW hI hv.1 hr hf hv.2;omega⟩,λself=>?_⟩
     unfold ef.b0
     rw[hd] at e3
     simp only[av,decide_true,cond_true,e1,e2,e3,Option.bind_some,iL hm,Bool.not_false]
    ·refine ⟨t1,x,s1.mono (by omega),⟨hI,by omega⟩,λself=>?_⟩
     unfold ef.b0
     simp only[av,decide_true,cond_true,e1,e2,e3,Option.bind_some,iL hm,Bool.not_false,h0,decide_false,cond_false]
   | some y=>
    rw[hf] at e2
    obtain ⟨hy,hk⟩:=Oa hf
    obtain ⟨v4,t4,e4,s4⟩:=ll (n:=4) s1 (by omega) (by omega) (by omega)
    cases v4 with
    | true=>
     obtain ⟨w,d1,_,d2,d3⟩:=E0 hI hy
     have e5:=AT V hy
     rw[d1] at e5
     refine ⟨t4,w.1,s4.mono (by omega),⟨d2,by have:=LV hI d2 hy d3;omega⟩,λself=>?_⟩
     unfold ef.b0
     simp only[av,decide_true,cond_true,e1,e2,e4,e5,Option.bind_some,iL hm,Bool.not_true,cond_false,jW,if_true]
    | false=>
     have e5:=wa V hy hr
     rcases Cw hI hy hr hk with d1 | ⟨w,d1,_,d2,d3⟩
     ·rw[d1] at e5
      refine ⟨t4,x,s4.mono (by omega),⟨hI,by omega⟩,λself=>?_⟩
      unfold ef.b0
      simp only[av,decide_true,cond_true,e1,e2,e4,e5,Option.bind_some,iL hm,Bool.not_true,cond_false,lY]
      rfl
     ·rw[d1] at e5
      refine ⟨t4,w.1,s4.mono (by omega),⟨d2,by have:=Fc hI d2 hr d3;omega⟩,λself=>?_⟩
      unfold ef.b0
      simp only[av,decide_true,cond_true,e1,e2,e4,e5,Option.bind_some,iL hm,Bool.not_true,cond_false,jW,if_true])
  (λs x c _ _ self=>by
   unfold ef.b0
   rw[decide_eq_false (Int.lt_irrefl _),cond_false]
   rfl) v.toNat t1 [] (b+1) (by omega) s1 ⟨LR,by rw[LX];simp only[List.length_nil];omega⟩ (by omega)
 obtain ⟨t,l,xL,Ns,Kw⟩:=this
 have hv:((v.toNat:Nat):Int)=v:=by omega
 rw[hv] at Kw xL
 refine ⟨l,t,aj (k:=18) λk hk=>(ef.af k _).trans ?_,Ns.1,by have:=Ns.2;omega,xL.mono (by omega)⟩
 unfold ef.p
 rw[e1]
 exact Kw k (by omega)
theorem CC {s:aO} {b:Int} (h:cA s b) (hb:b<=100000):∃ x t,gz.aa (s,())=some (x,t,())/\ov x/\x.length<=13/\(a7 x=0->(aq x).length<=40)/\cA t (b+2000):=by
 obtain ⟨v,t1,e1,s1⟩:=ll (n:=6) h (by omega) (by omega) (by omega)
 cases v with
 | true=>
  obtain ⟨x,t2,e2,hx,hl,s2⟩:=KE s1 (by omega)
  refine ⟨x,t2,aj (k:=0) λk _=>(gz.af k _).trans ?_,hx,by omega,λhv=>?_,s2.mono (by omega)⟩
  ·unfold gz.p
   rw[e1]
   simp only[Option.bind_some,cond_true,e2]
  ·rcases hl with hl | hl
   ·have:=LY hv hl;omega
   ·have:=(jV hv).1.1;omega
 | false=>
  obtain ⟨x,t2,e2,hx,hl,s2⟩:=IK s1 (by omega)
  refine ⟨x,t2,aj (k:=0) λk _=>(gz.af k _).trans ?_,λp hp=>Nat.le_of_eq ((jV hx).1.2 p hp).len,by have:=(jV hx).1.1;omega,λ_=>by omega,s2.mono (by omega)⟩
  unfold gz.p
  rw[e1]
  simp only[Option.bind_some,cond_false,e2]
theorem IL (c:List UInt8) (h:c.length<=1048576):∃ x ch,f9.aa (c,())=some (x,ch,())/\ov x/\(a7 x=0->(aq x).length<=40)/\cl ch:=by
 have h0:cA (c,(0:Int),()) 0:=⟨h,Int.le_refl 0,Int.le_refl 0⟩
 have e0:fT.aa (c,())=some ((c,(0:Int),()),()):=aj (k:=0) λk _=>(fT.af k _).trans rfl
 have SI:(9:Nat)<=maxLen:=by rw[aL];omega
 obtain ⟨x,t,e1,hx,_,hn,s1⟩:=CC h0 (by omega)
 obtain ⟨v2,t2,e2,s2⟩:=ll (n:=2) s1 (by omega) (by omega) (by omega)
 obtain ⟨r,t3,e3,hr,s3⟩:=wc s2 (by omega)
 obtain ⟨v4,t4,e4,s4⟩:=ll (n:=2) s3 (by omega) (by omega) (by omega)
 obtain ⟨r2,t5,e5,nV,s5⟩:=wc s4 (by omega)
 have Qm:cl (v2,r,v4,r2,()):=⟨Nat.le_trans hr SI,Nat.le_trans nV SI⟩
 suffices hq:∃ ch,f9.p (c,())=some (x,ch,())/\cl ch by
  obtain ⟨ch,p1,p2⟩:=hq
  exact ⟨x,ch,aj (k:=0) λk _=>(f9.af k _).trans p1,hx,hn,p2⟩
 unfold f9.p
 rw[e0]
 simp only[Option.bind_some]
 rw[e1]
 simp only[Option.bind_some]
 rw[e2]
 simp only[Option.bind_some]
 rw[e3]
 simp only[Option.bind_some]
 rw[e4]
 simp only[Option.bind_some]
 rw[e5]
 simp only[Option.bind_some]
 rw[qB x (tU hx)]
 simp only[Option.bind_some]
 by_cases hv:a7 x=0
 rotate_left
 ·rw[decide_eq_false hv,cond_false]
  exact ⟨_,rfl,Qm⟩
 rw[decide_eq_true hv,cond_true]
 obtain ⟨b,t6,e6,s6⟩:=ll (n:=4) s5 (by omega) (by omega) (by omega)
 rw[e6]
 simp only[Option.bind_some]
 cases b with
 | true=>exact ⟨_,rfl,Qm⟩
 | false=>
  obtain ⟨xs,t7,e7,Xx,V2,V3,s7⟩:=Fe s6 (by omega)
  have hu:=gb (dv hv)
  have Xy:=hn hv
  rw[Bool.not_false,cond_true,wx hv]
  simp only[Option.bind_some]
  rw[e7]
  simp only[Option.bind_some]
  rw[BN _ _ hu V3 (by omega) (by omega)]
  simp only[Option.bind_some]
  have KF:∀ z:Row,cP z=0->rl z:=λz hz=>by
   have:=nA (qn hz).2.2.2
   unfold rl
   rw[aL]
   omega
  have hM:∀ d ∈ ip (aq x) xs,rl d.2.1/\rl d.2.2.2.1:=oH (q:=rl) (Nat.zero_le _) _ _ _ (λz hz=>KF z ((nC hv).2 z hz)) (λz hz=>KF z (V2 z hz))
  have Xz:(ip (aq x) xs).length<=(aq x).length+xs.length:=qp _ _ _
  by_cases hl:(0:Int) < ((ip (aq x) xs).length:Int)
  rotate_left
  ·rw[decide_eq_false hl,cond_false]
   exact ⟨_,rfl,Qm⟩
  rw[decide_eq_true hl,cond_true]
  obtain ⟨v,t8,e8,a8,c8,s8⟩:=dX (n:=((ip (aq x) xs).length:Int)) s7 (by omega) (by omega) (by omega)
  rw[e8]
  simp only[Option.bind_some]
  have hi:v.toNat < (ip (aq x) xs).length:=by omega
  rw[if_pos ⟨a8,c8⟩,List.getElem?_eq_getElem hi]
  exact ⟨_,rfl,hM _ (List.getElem_mem hi)⟩
def Nv (es:List bW):Prop:=es.length<=50/\∀ e ∈ es,List.length e.2.1<=64
theorem LZ (ps:aH) (r:Row):List.length (rp ps r).2.1<=40/\∀ e ∈ ((rp ps r).2.1:List bW),List.length e.2.1<=64:=by
 by_cases h0:(rp ps r).1=0
 ·obtain ⟨_,_,w,hw,ok,T,_,_⟩:=Kv h0
  rw[hw]
  refine ⟨ok.el,λe he=>?_⟩
  obtain ⟨i,hi,rfl⟩:=List.getElem_of_mem (show e ∈ w.2.1 from he)
  exact Nat.le_of_eq (tj T.ed i hi).1
 ·have:(rp ps r).2.1=[]:=by
   revert h0
   unfold rp oG jW lY
   repeat' split
   all_goals first | (intro _;rfl) | (intro h;exact absurd rfl h)
  rw[this]
  exact ⟨Nat.zero_le _,λe he=>by cases he⟩
theorem Ga (c:List UInt8) (h:c.length<=1048576):∃ x r,eP.aa (c,())=some (x,r,())/\ov x/\x.length<=13/\List.length r.2.2.2.1<=9:=by
 have h0:cA (c,(0:Int),()) 0:=⟨h,Int.le_refl 0,Int.le_refl 0⟩
 have e0:fT.aa (c,())=some ((c,(0:Int),()),()):=aj (k:=0) λk _=>(fT.af k _).trans rfl
 obtain ⟨x,t,e1,hx,xe,_,s1⟩:=CC h0 (by omega)
 obtain ⟨r,t2,e2,hr,s2⟩:=wc s1 (by omega)
 suffices hq:∃ y r',eP.p (c,())=some (y,r',())/\ov y/\y.length<=13/\List.length r'.2.2.2.1<=9 by
  obtain ⟨y,r',p1,p2,p3,p4⟩:=hq
  exact ⟨y,r',aj (k:=0) λk _=>(eP.af k _).trans p1,p2,p3,p4⟩
 unfold eP.p
 rw[e0]
 simp only[Option.bind_some]
 rw[e1]
 simp only[Option.bind_some]
 rw[e2]
 simp only[Option.bind_some]
 rw[qB x (tU hx)]
 simp only[Option.bind_some]
 by_cases hv:a7 x=0
 rotate_left
 ·rw[decide_eq_false hv,cond_false]
  exact ⟨x,r,rfl,hx,xe,hr⟩
 rw[decide_eq_true hv,cond_true]
 obtain ⟨b,t3,e3,s3⟩:=ll (n:=4) s2 (by omega) (by omega) (by omega)
 rw[e3]
 simp only[Option.bind_some]
 cases b with
 | true=>exact ⟨x,r,rfl,hx,xe,hr⟩
 | false=>
  rw[Bool.not_false,cond_true,wx hv]
  simp only[Option.bind_some]
  by_cases hl:(0:Int) < ((aq x).length:Int)
  rotate_left
  ·rw[decide_eq_false hl,cond_false]
   exact ⟨x,r,rfl,hx,xe,hr⟩
  rw[decide_eq_true hl,cond_true]
  have hlen:=KC hv
  obtain ⟨v,t4,e4,a4,c4,s4⟩:=dX (n:=((aq x).length:Int)) s3 (by omega) (by omega) (by omega)
  rw[e4]
  simp only[Option.bind_some]
  have hi:v.toNat < (aq x).length:=by omega
  rw[if_pos ⟨a4,c4⟩,List.getElem?_eq_getElem hi]
  simp only[Option.bind_some]
  obtain ⟨u,t5,e5,a5,c5,s5⟩:=dX (n:=3) s4 (by omega) (by omega) (by omega)
  rw[e5]
  simp only[Option.bind_some]
  obtain ⟨y,hy,my⟩:=BJ [([]:List UInt8),([97,98]:List UInt8),([97,98,99,100,101,102,103,104]:List UInt8)] (v:=u) ⟨a5,by simpa using c5⟩
  rw[if_pos ⟨a5,by simpa using c5⟩,hy]
  refine ⟨x,_,rfl,hx,xe,?_⟩
  show List.length y<=9
  simp only[List.mem_cons,List.not_mem_nil,or_false] at my
  rcases my with rfl | rfl | rfl <;> decide
theorem Ff (c:List UInt8) (h:c.length<=1048576):∃ x es,fh.aa (c,())=some (x,es,())/\ov x/\x.length<=13/\Nv es:=by
 obtain ⟨x,r,e1,hx,hl,hr⟩:=Ga c h
 have rr:List.length r.2.2.2.1<=maxLen:=by rw[aL];omega
 have e2:lU.aa (c,(3:Int),())=some ((c,(26:Int),()),()):=aj (k:=0) λk _=>(lU.af k _).trans rfl
 have h0:cA (c,(26:Int),()) 26:=⟨h,by show (0:Int)<=26;decide,Int.le_refl 26⟩
 obtain ⟨v,t,e3,s3⟩:=ll (n:=5) h0 (by omega) (by omega) (by omega)
 have hE:=LZ x r
 suffices hq:∃ es,fh.p (c,())=some (x,es,())/\Nv es by
  obtain ⟨es,p1,p2⟩:=hq
  exact ⟨x,es,aj (k:=0) λk _=>(fh.af k _).trans p1,hx,hl,p2⟩
 unfold fh.p
 rw[e1]
 simp only[Option.bind_some]
 rw[e2,FW (tU hx) rr]
 simp only[Option.bind_some]
 rw[e3]
 simp only[Option.bind_some]
 cases v with
 | false=>exact ⟨_,rfl,by have:=hE.1;show List.length (rp x r).2.1<=50;omega,hE.2⟩
 | true=>
  obtain ⟨v4,t4,e4,m4,s4⟩:=qo s3 (by omega) [(-1:Int),(0:Int),(5:Int),(12:Int)] (by simp) (by simp)
  obtain ⟨v5,t5,e5,m5,s5⟩:=qo s4 (by omega) [(63:Int),(64:Int)] (by simp) (by simp)
  rw[cond_true]
  rw[e4]
  simp only[Option.bind_some]
  rw[e5]
  simp only[Option.bind_some]
  have h5:0<=v5/\v5<=64:=by
   simp only[List.mem_cons,List.not_mem_nil,or_false] at m5
   omega
  have V4:0<=v5/\v5<=v5/\v5<=(cJ:Int):=⟨h5.1,Int.le_refl _,by simp only[cJ];omega⟩
  have kX:List.length (rp x r).2.1<=40:=hE.1
  rw[if_pos V4,if_pos (dR (by simp only[List.length_cons,List.length_nil];omega))]
  refine ⟨_,rfl,?_,λe he=>?_⟩
  ·rw[List.length_append]
   simp only[List.length_cons,List.length_nil]
   omega
  ·rcases List.mem_append.1 he with he | he
   ·exact hE.2 e he
   ·rw[List.mem_singleton.1 he]
    show (List.replicate v5.toNat (0:UInt8)).length<=64
    rw[List.length_replicate]
    omega
end OT
set_option linter.unusedVariables false
set_option linter.unusedSimpArgs false
namespace OT
open Go
end OT
set_option linter.unusedVariables false
set_option linter.unusedSimpArgs false
set_option linter.unusedSectionVars false
namespace OT
open Go
def AW (cs:List Change):Prop:=up (cs.map pJ)
theorem qq {x:Change} {cs:List Change}:AW (x::cs)↔(∀ y ∈ cs,bB (ck x) (ck y)=true)/\AW cs:=by
 unfold AW
 rw[List.map_cons,nQ]
 simp only[List.mem_map,forall_exists_index,and_imp,forall_apply_eq_imp_iff₂,J8]
end OT
set_option linter.unusedVariables false
set_option linter.unusedSimpArgs false
namespace OT
open Go
def Qn (x:Tx):Int:=if Nf x=0 then PX x else Nf x
def V5 (xs:List Tx):Prop:=xs.length<=1048576/\∀ x ∈ xs,tl x
def L4 (xs:List Tx):Int:=xs.foldl (λn x=>n+(List.length x.2.1:Int)) 0
def Qo (xs:List Tx) (i:Nat) (x:Tx):Int:=if ol x.1 1 99 then (if 0 < i then (match xs[i - 1]? with
    | some y=>if x.1<=y.1 then 1 else Qn x
    | none=>1) else Qn x) else 3
def Nw (xs:List Tx):Int:=cS (λi (_:Unit) x=>if Qo xs i x=0 then .inr () else .inl (Qo xs i x)) (λ_=>(0:Int)) 0 xs ()
def flatK (xs:List Tx):List Key:=xs.flatMap λx=>x.2.2.2.1
def Qp (xs:List Tx):Bool:=decide (flatK xs).Nodup
def Fg (xs:List Tx):Int:=if 4 < xs.length then 2 else if Nw xs=0 then (if Qp xs then (if 12 < L4 xs then 2 else 0) else 7) else Nw xs
end OT
set_option linter.unusedVariables false
set_option linter.unusedSimpArgs false
namespace OT
open Go
end OT
set_option linter.unusedVariables false
set_option linter.unusedSimpArgs false
namespace OT
open Go
def dd (S:List Key) (ks:List Key):List Key:=ks.foldl (λS k=>if In S k then S else S++[k]) S
def Rs (rows:List Row):List Key:=rows.map λr=>(r.1,r.2.1,())
def Ny (rows:List Row) (xs:List Tx):List Key:=Rs rows++flatK xs
def Nz (rows:List Row) (xs:List Tx):Nat:=(dd [] (Ny rows xs)).length
def V6 (k:Key):List Key:=if k.2.1=0 then [] else [k]
def Rt (rows:List Row) (xs:List Tx) (k:Key):Nat:=(dd [] (Ny rows xs++V6 k)).length
structure Wj (xs:List Tx):Prop where
 len:xs.length<=4
 ch:∀ x ∈ xs,∀ c ∈ (x.2.1:List Change),ig c=0
 Ru:∀ x ∈ xs,List.length x.2.2.2.1<=12
 TK:∀ x ∈ xs,List.length x.2.1<=12
 keys:∀ x ∈ xs,∀ k ∈ (x.2.2.2.1:List Key),Nb k=true
end OT
set_option linter.unusedVariables false
set_option linter.unusedSimpArgs false
namespace OT
open Go
def TM (c:Change):Change:=(c.2.2.1,c.2.2.2.1,c.1,c.2.1,())
def L5 (cs:List Change):List Change:=cs.reverse.map TM
def AY:List Row->List Change->Option (List Row)
 | s,[]=>some s
 | s,c::cs=>if oA s c then AY (lL s c) cs else none
theorem Fh {O α:Type} {f:Nat->Unit->α->Sum O Unit} {fin:Unit->O}:∀ (xs:List α) (j:Nat),(∀ i (hi:i < xs.length),f (j+i) () xs[i]=.inr ())->cS f fin j xs ()=fin ()
 | [],_,_=>rfl
 | x::xs,j,h=>by
  have h0:=h 0 (by simp)
  simp only[Nat.add_zero,List.getElem_cons_zero] at h0
  simp only[cS,h0]
  exact Fh xs (j+1) λi hi=>by
   have:=h (i+1) (by simp;omega)
   grind
theorem AZ {xs:List Row} (h:Good xs) (hl:xs.length<=60):tO xs=0:=by
 unfold tO
 rw[if_neg (by omega),Fh xs 0 λi hi=>?_]
 unfold vT
 rw[if_pos (h.ok _ (List.getElem_mem hi)),Nat.zero_add]
 by_cases h0:0 < i
 ·rw[if_pos h0,List.getElem?_eq_getElem (show i - 1 < xs.length by omega)]
  have hu:=h.up
  grind [up,List.pairwise_iff_getElem]
 ·rw[if_neg h0]
def NA (xs:List Tx):List Change:=xs.flatMap λx=>L5 x.2.1
def Rv (n:Int) (xs:List Tx):Bool:=match xs[xs.length - 1]? with
 | some x=>decide (n<=x.1)
 | none=>false
def Fl (p:Plain):Int:=
 if tO p.1=0 then
  if Fg p.2.1=0 then
   if ol p.2.2.1 1 100&&!Rv p.2.2.1 p.2.1 then
    if 12 < Nz p.1 p.2.1 then 2 else (match AY p.1 (NA p.2.1) with | some _=>0 | none=>8)
   else 3
  else Fg p.2.1
 else tO p.1
def SJ (p:Plain):Prop:=List.length p.1<=1048576/\(∀ x ∈ (p.1:List Row),rl x)/\V5 p.2.1
end OT
set_option linter.unusedVariables false
set_option linter.unusedSimpArgs false
set_option linter.unusedSectionVars false
namespace OT
open Go
theorem CD {c:Change} (hc:ig c=0) (h:c.1=true):rk c.2.1=ck c:=by
 unfold ig at hc
 rw[h] at hc
 unfold ck
 cases hi:c.2.2.1 with
 | false=>rfl
 | true=>
  rw[hi] at hc
  simp only[Bool.not_true,Bool.false_and,Bool.and_self,Bool.true_and,Bool.false_or] at hc
  split at hc
  ·cases hc
  ·rename_i hn
   have hs:sameKey c.2.1 c.2.2.2.1=true:=by simpa using hn
   rw[AB] at hs
   exact of_decide_eq_true hs
theorem tW (x:Row):Ty.eq aE x x=true:=by
 have e:Ty.eq aE x x=(decide (x.1=x.1)&&(decide (x.2.1=x.2.1)&&(decide (x.2.2.1=x.2.2.1)&&(decide (x.2.2.2.1=x.2.2.2.1)&&true)))):=rfl
 rw[e]
 simp
theorem L6 {xs:List Row} (hu:up xs) {c:Change} (hc:ig c=0):oA xs c=true↔(if c.1=true then c.2.1 ∈ xs else ∀ r ∈ xs,rk r≠ck c):=by
 unfold oA
 cases hw:c.1 with
 | true=>
  have hk:=CD hc hw
  rw[if_pos rfl]
  constructor
  ·intro h
   simp only[Bool.and_eq_true,beq_iff_eq] at h
   obtain ⟨h1,U⟩:=h
   obtain ⟨hp,_⟩:=qT h1
   rw[h1,List.getElem?_eq_getElem hp] at U
   simp only[Bool.not_true,Bool.false_or] at U
   have:=AP U
   rw[<-this]
   exact List.getElem_mem hp
  ·intro h
   obtain ⟨i,hi,hx⟩:=List.getElem_of_mem h
   obtain ⟨f1,f2⟩:=s9 hu hi (k:=ck c) (by rw[hx];exact hk)
   rw[f1,f2,List.getElem?_eq_getElem hi,hx]
   simp[tW]
 | false=>
  rw[if_neg (by decide)]
  constructor
  ·intro h r hr he
   obtain ⟨i,hi,hx⟩:=List.getElem_of_mem hr
   have f1:=(s9 hu hi (k:=ck c) (by rw[hx];exact he)).1
   rw[f1] at h
   simp at h
  ·intro h
   have:eS xs (ck c)=false:=by
    cases hf:eS xs (ck c) with
    | false=>rfl
    | true=>
     obtain ⟨y,hy,hk⟩:=uL hf
     exact absurd hk (h y hy)
   rw[this]
   rfl
end OT
set_option linter.unusedVariables false
set_option linter.unusedSimpArgs false
namespace OT
open Go
def SK (xs:List Tx) (t:Int):Int:=JY (λx=>decide (x.1=t)) 0 xs
end OT
set_option linter.unusedVariables false
set_option linter.unusedSimpArgs false
namespace OT
open Go
def KG (k:Int):Bool:=decide (k=2)||(decide (k=3)||decide (k=4))
def NB (k:Int):Bool:=decide (k=1)||decide (k=9)
abbrev A4:Row:=((0:Int),(0:Int),(0:Int),([]:List UInt8),())
abbrev noChange:Change:=(false,A4,false,A4,())
def SL (o:Op):Int:=
 if !ol o.1 1 9||(NB o.1&&!decide (o.2.1=0))||(!KG o.1&&!Ty.eq aE o.2.2.1 ((0:Int),(0:Int),(0:Int),([]:List UInt8),()))||(!decide (o.1=6)&&!decide (o.2.2.2.1=0))||(decide (o.1=4)&&!(decide (o.2.2.1.2.2.1=0)&&decide (o.2.2.1.2.2.2.1=([]:List UInt8)))) then 1
 else if (!NB o.1&&!ol o.2.1 1 99)||!ol o.2.2.2.1 0 7 then 3
 else if KG o.1 then cP o.2.2.1 else 0
def TN (c:Change) (x:Row):Bool:=decide (x.1=(ck c).2)&&(!decide (x.1=0)&&(!c.2.2.1||decide (c.2.2.2.1.2.2.1 < (List.length x.2.2.2.1:Int))))
def TO (xs:List Row) (c:Change):Int:=
 if c.2.2.1&&(!ol (ck c).2 1 3||(decide (8 < c.2.2.2.1.2.2.1)||!decide (c.2.2.2.1.2.2.2.1=([]:List UInt8)))) then 10 else if xs.any (TN c) then 8 else 0
def NC (xs:List Row) (t:Int):Int×Bool:=match xs.find? λx=>decide (x.1=0)&&decide (x.2.1=t) with
 | some x=>(x.2.2.1,true)
 | none=>(0,false)
def Qq (xs:List Row) (c:Change):Int:=
 if (ck c).1=0 then TO xs c else if c.2.2.1 then (if (NC xs (ck c).1).2 then (if (NC xs (ck c).1).1 < (List.length c.2.2.2.1.2.2.2.1:Int) then 10 else 0) else 4) else 0
end OT
set_option linter.unusedVariables false
set_option linter.unusedSimpArgs false
namespace OT
open Go
def Rw (k l:Key):Bool:=decide (l=k)||((decide (l.1=0)&&decide (l.2.1=k.1))||(decide (k.1=0)&&decide (l.1=k.2.1)))
def Rx (xs:List Tx) (t:Int) (k:Key):Bool:=xs.any λx=>!decide (x.1=t)&&x.2.2.2.1.any (Rw k)
def pX (rows:List Row) (o:Op):Change×Int:=
 let k:=(o.2.2.1.1,o.2.2.1.2.1)
 if decide (o.1=2)&&eS rows k then (noChange,6)
 else if !decide (o.1=2)&&!eS rows k then (noChange,4)
 else ((eS rows k,(if eS rows k then (rows[pos rows k]?).getD A4 else A4),!decide (o.1=4),(if decide (o.1=4) then A4 else o.2.2.1),()),0)
abbrev nD (c:Int):py:=(c,false,noChange,())
def KH (rows:List Row) (xs:List Tx) (o:Op):py:=
 let k:Key:=(o.2.2.1.1,o.2.2.1.2.1,())
 if Rx xs o.2.1 k then nD 7
 else if (pX rows o).2=0 then
  if Qq rows (pX rows o).1=0 then
   if decide (12 < Rt rows xs k)||decide (12<=L4 xs) then nD 9
   else if (pX rows o).1.1&&((pX rows o).1.2.2.1&&Ty.eq aE (pX rows o).1.2.1 (pX rows o).1.2.2.2.1) then nD 0
   else (0,true,(pX rows o).1,())
  else nD (Qq rows (pX rows o).1)
 else nD (pX rows o).2
end OT
set_option linter.unusedVariables false
set_option linter.unusedSimpArgs false
namespace OT
open Go
def KI (xs:List Tx) (t:Int):Int:=match xs[(SK xs t).toNat]? with
 | some x=>(List.length x.2.2.1:Int)
 | none=>0
def TP (rows:List Row) (xs:List Tx) (o:Op):py:=
 if o.1=1 then (if decide (4<=xs.length) then nD 2 else nD 0)
 else if o.1=9 then nD 0
 else if SK xs o.2.1 < 0 then nD 4
 else if o.1=5 then (if decide (8<=KI xs o.2.1) then nD 2 else nD 0)
 else if o.1=6 then (if decide (KI xs o.2.1<=o.2.2.2.1) then nD 3 else nD 0)
 else if KG o.1 then KH rows xs o else nD 0
def Dd (rows:List Row) (xs:List Tx) (o:Op):py:=
 if tO rows=0 then (if Fg xs=0 then (if SL o=0 then TP rows xs o else nD (SL o)) else nD (Fg xs)) else nD (tO rows)
theorem kinds {k:Int} (h:ol k 1 9=true):k=1\/k=2\/k=3\/k=4\/k=5\/k=6\/k=7\/k=8\/k=9:=by
 unfold ol at h
 simp only[Bool.and_eq_true,decide_eq_true_eq] at h
 omega
end OT
set_option linter.unusedVariables false
set_option linter.unusedSimpArgs false
namespace OT
open Go
def Ry (x:Tx) (c:Change):Tx:=(x.1,x.2.1++[c],x.2.2.1,if In x.2.2.2.1 (Et c) then x.2.2.2.1 else x.2.2.2.1++[Et c],())
end OT
set_option linter.unusedVariables false
set_option linter.unusedSimpArgs false
set_option linter.unusedSectionVars false
namespace OT
open Go
def Rz (x:Tx):Tx:=(x.1,x.2.1,x.2.2.1++[(List.length x.2.1:Int)],x.2.2.2)
def TQ (x:Tx) (n m:Nat):Tx:=(x.1,x.2.1.take n,x.2.2.1.take (m+1),x.2.2.2)
end OT
set_option linter.unusedVariables false
set_option linter.unusedSimpArgs false
set_option linter.unusedSectionVars false
namespace OT
open Go
abbrev TR (n:Int):Tx:=(n,([]:List Change),([]:List Int),([]:List Key),())
end OT
set_option linter.unusedVariables false
set_option linter.unusedSimpArgs false
set_option linter.unusedSectionVars false
namespace OT
open Go
structure TT (p:Plain):Prop where
 WD:Good p.1
 len:List.length p.1<=12
 XA:Fg p.2.1=0
 next:ol p.2.2.1 1 100=true
 room:Nz p.1 p.2.1<=12
 back:∃ t,AY p.1 (NA p.2.1)=some t
end OT
set_option linter.unusedVariables false
set_option linter.unusedSimpArgs false
set_option linter.unusedSectionVars false
namespace OT
open Go
end OT
set_option linter.unusedVariables false
set_option linter.unusedSimpArgs false
set_option linter.unusedSectionVars false
namespace OT
open Go
section
variable {p:Plain} {o:Op} (hp:SJ p) (ho:rl o.2.2.1) (h:Fl p=0) (U:(Dd p.1 p.2.1 o).1=0)
include hp ho h U
end
end OT
set_option linter.unusedVariables false
set_option linter.unusedSimpArgs false
set_option linter.unusedSectionVars false
namespace OT
open Go
section
variable {p:Plain} {o:Op} (hp:SJ p) (ho:rl o.2.2.1) (h:Fl p=0) (U:(Dd p.1 p.2.1 o).1=0)
include hp ho h U
end
end OT
set_option linter.unusedVariables false
set_option linter.unusedSimpArgs false
set_option linter.unusedSectionVars false
namespace OT
open Go
structure WE (ts:List Tx):Prop where
 len:ts.length<=4
 each:∀ x ∈ ts,ol x.1 1 99=true/\Qn x=0
 WF:ts.Pairwise λa b=>a.1 < b.1
 apart:(flatK ts).Nodup
 JK:L4 ts<=12
end OT
set_option linter.unusedVariables false
set_option linter.unusedSimpArgs false
set_option linter.unusedSectionVars false
namespace OT
open Go
end OT
set_option linter.unusedVariables false
set_option linter.unusedSimpArgs false
set_option linter.unusedSectionVars false
namespace OT
open Go
end OT
set_option linter.unusedVariables false
set_option linter.unusedSimpArgs false
set_option linter.unusedSectionVars false
namespace OT
open Go
def V7 (n:Int) (i:Nat) (ms:List Int) (last:Int):Bool:=cS (λ_ last m=>if ol m last n then .inr m else .inl false) (λ_=>true) i ms last
structure XB (x:Tx):Prop where
 TK:∀ c ∈ (x.2.1:List Change),Nc x.2.2.2.1 c=0
 ml:List.length x.2.2.1<=8
 kl:List.length x.2.2.2.1<=12
 marks:V7 (List.length x.2.1:Int) 0 x.2.2.1 0=true
 Ru:JZ x.2.2.2.1=0
end OT
set_option linter.unusedVariables false
set_option linter.unusedSimpArgs false
set_option linter.unusedSectionVars false
namespace OT
open Go
end OT
set_option linter.unusedVariables false
set_option linter.unusedSimpArgs false
set_option linter.unusedSectionVars false
namespace OT
open Go
inductive tX:Plain->Op->Int->Plain->Prop
 | V8 {rows:List Row} {ts:List Tx} {n:Int} {o:Op} (hk:o.1=1) (hn:¬ n=100) (hl:ts.length < 4):tX (rows,ts,n,()) o n (rows,ts++[TR n],n+1,())
 | WG {rows:List Row} {ts:List Tx} {n:Int} {o:Op} (hk:o.1=9):tX (rows,ts,n,()) o 0 (rows,ts,n,())
 | Wk {rows:List Row} {ts:List Tx} {n:Int} {o:Op} {j:Nat} (hk:o.1=5) (hj:j < ts.length) (Cb:(ts[j]).1=o.2.1) (hm:List.length (ts[j]).2.2.1 < 8):tX (rows,ts,n,()) o (List.length (ts[j]).2.2.1:Int) (rows,ts.set j (Rz ts[j]),n,())
 | Wl {rows t:List Row} {ts:List Tx} {n:Int} {o:Op} {j m k:Nat} (hk:o.1=6) (hj:j < ts.length) (Cb:(ts[j]).1=o.2.1) (XC:o.2.2.2.1=(m:Int)) (hm:(ts[j]).2.2.1[m]?=some (k:Int)) (XD:k<=List.length (ts[j]).2.1) (hb:AY rows (L5 ((ts[j]).2.1.drop k))=some t):tX (rows,ts,n,()) o 0 (t,ts.set j (TQ ts[j] k m),n,())
 | TU {rows:List Row} {ts:List Tx} {n:Int} {o:Op} {j:Nat} (hk:o.1=7) (hj:j < ts.length) (Cb:(ts[j]).1=o.2.1):tX (rows,ts,n,()) o 0 (rows,ts.take j++ts.drop (j+1),n,())
 | V9 {rows t:List Row} {ts:List Tx} {n:Int} {o:Op} {j:Nat} (hk:o.1=8) (hj:j < ts.length) (Cb:(ts[j]).1=o.2.1) (hb:AY rows (L5 (ts[j]).2.1)=some t):tX (rows,ts,n,()) o 0 (t,ts.take j++ts.drop (j+1),n,())
 | Wm {rows:List Row} {ts:List Tx} {n:Int} {o:Op} {j:Nat} (hk:KG o.1=true) (hj:j < ts.length) (Cb:(ts[j]).1=o.2.1) (hr:cP o.2.2.1=0) (ht:(KH rows ts o).2.1=true):tX (rows,ts,n,()) o 0 (lL rows (pX rows o).1,ts.set j (Ry ts[j] (pX rows o).1),n,())
 | Wn {rows:List Row} {ts:List Tx} {n:Int} {o:Op} {j:Nat} (hk:KG o.1=true) (hj:j < ts.length) (Cb:(ts[j]).1=o.2.1) (ht:(Dd rows ts o).2.1=false):tX (rows,ts,n,()) o 0 (rows,ts,n,())
section
variable {rows:List Row} {ts:List Tx} {n:Int} {o:Op} (h:Fl (rows,ts,n,())=0) (U:(Dd rows ts o).1=0)
include h U
end
end OT
set_option linter.unusedVariables false
set_option linter.unusedSimpArgs false
namespace OT
open Go
end OT
set_option linter.unusedVariables false
set_option linter.unusedSimpArgs false
set_option linter.unusedSectionVars false
namespace OT
open Go
theorem lD {xs:List Row} (hu:up xs) {k:Int×Int} {r:Row}:look xs k=some r↔r ∈ xs/\rk r=k:=by
 unfold look
 constructor
 ·intro h
  split at h
  ·rename_i hf
   obtain ⟨hp,hk⟩:=qT hf
   rw[List.getElem?_eq_getElem hp] at h
   injection h with h
   rw[<-h]
   exact ⟨List.getElem_mem hp,hk⟩
  ·cases h
 ·rintro ⟨h1,U⟩
  obtain ⟨i,hi,hx⟩:=List.getElem_of_mem h1
  obtain ⟨J,a2⟩:=s9 hu hi (k:=k) (by rw[hx];exact U)
  rw[if_pos J,a2,List.getElem?_eq_getElem hi,hx]
theorem L7 {xs:List Row} (hu:up xs) {k:Int×Int}:look xs k=none↔∀ r ∈ xs,rk r≠k:=by
 constructor
 ·intro h r hr hk
  have:=(lD hu).2 ⟨hr,hk⟩
  rw[h] at this
  cases this
 ·exact tV
def tm (c:Change):Option Row:=if c.1 then some c.2.1 else none
def uu (c:Change):Option Row:=if c.2.2.1 then some c.2.2.2.1 else none
theorem CE {xs:List Row} (hg:Good xs) {c:Change} (hc:ig c=0) (k:Int×Int):look (lL xs c) k=if k=ck c then uu c else look xs k:=by
 have hu:=hg.1
 have hd:=(tP hg hc).1
 have hk:=(kT hc).1
 refine Option.ext λr=>?_
 rw[lD hd,zo hu]
 split
 ·rename_i he
  unfold uu
  constructor
  ·rintro ⟨(h | h),U⟩
   ·exact absurd (U.trans he) h.2
   ·rw[if_pos h.1,h.2]
  ·intro h
   split at h
   ·rename_i hi
    injection h with h
    subst h
    exact ⟨.inr ⟨hi,rfl⟩,(hk hi).trans he.symm⟩
   ·cases h
 ·rename_i he
  rw[lD hu]
  constructor
  ·rintro ⟨(h | h),U⟩
   ·exact ⟨h.1,U⟩
   ·exact absurd (by rw[<-U,h.2];exact hk h.1) he
  ·rintro ⟨h1,U⟩
   exact ⟨.inl ⟨h1,λe=>he (U.symm.trans e)⟩,U⟩
theorem CF {xs:List Row} (hg:Good xs) {c:Change} (hc:ig c=0):oA xs c=true↔look xs (ck c)=tm c:=by
 rw[L6 hg.1 hc]
 unfold tm
 split
 ·rename_i hw
  rw[lD hg.1]
  exact ⟨λh=>⟨h,CD hc hw⟩,λh=>h.1⟩
 ·rw[L7 hg.1]
def jb (cs:List Change) (k:Int×Int):Option Change:=cs.find? λc=>decide (ck c=k)
theorem A5 {cs:List Change} {k:Int×Int} {c:Change} (h:jb cs k=some c):c ∈ cs/\ck c=k:=
 ⟨List.mem_of_find?_eq_some h,by have:=List.find?_some h;simpa using this⟩
theorem A6 {cs:List Change} {k:Int×Int}:jb cs k=none↔∀ c ∈ cs,ck c≠k:=by
 unfold jb
 rw[List.find?_eq_none]
 simp
end OT
set_option linter.unusedVariables false
set_option linter.unusedSimpArgs false
set_option linter.unusedSectionVars false
namespace OT
open Go
theorem IM (a b:Int×Int):bB a b=true\/a=b\/bB b a=true:=by
 obtain ⟨J,a2⟩:=a
 obtain ⟨b1,b2⟩:=b
 rw[qj,qj]
 simp only[Prod.mk.injEq]
 omega
theorem iM (x:Change) (F:List Change) (k:Int×Int):jb (x::F) k=if k=ck x then some x else jb F k:=by
 unfold jb
 rw[List.find?_cons]
 by_cases hk:k=ck x
 ·rw[if_pos hk,decide_eq_true hk.symm]
 ·rw[if_neg hk,decide_eq_false (Ne.symm hk)]
theorem IN {F:List Change} (hu:AW F):∀ {x:Change},x ∈ F->jb F (ck x)=some x:=by
 induction F with
 | nil=>intro x hx;cases hx
 | cons y F ih=>
  intro x hx
  rw[iM]
  rcases List.mem_cons.1 hx with rfl | hx
  ·rw[if_pos rfl]
  ·have h1:=(qq.1 hu).1 x hx
   rw[if_neg (λe=>by rw[e,dQ] at h1;cases h1)]
   exact ih (qq.1 hu).2 hx
structure TS (F:List Change) (L:Int×Int->Prop) (C rows:List Row):Prop where
 up:AW F
 ok:∀ x ∈ F,ig x=0
 here:∀ k,L k->jb F k=jt (look C k) (look rows k)
 off:∀ k,¬ L k->jb F k=none
theorem Qr {C rows:List Row} (hC:Good C) (hr:Good rows) {k:Int×Int} {c:Change} (h:jt (look C k) (look rows k)=some c):ck c=k/\ig c=0/\GG c=0/\tm c=look C k/\uu c=look rows k:=by
 cases h1:look C k with
 | none=>
  cases U:look rows k with
  | none=>rw[h1,U] at h;cases h
  | some b=>
   rw[h1,U] at h
   injection h with h
   obtain ⟨m,hk⟩:=(lD hr.1).1 U
   have:=hr.2 b m
   subst h
   refine ⟨hk,?_,?_,rfl,rfl⟩
   ·grind [ig]
   ·grind [GG,ig]
 | some a=>
  obtain ⟨ma,ha⟩:=(lD hC.1).1 h1
  have XE:=hC.2 a ma
  cases U:look rows k with
  | none=>
   rw[h1,U] at h
   injection h with h
   subst h
   refine ⟨ha,?_,?_,rfl,rfl⟩
   ·grind [ig]
   ·grind [GG,ig]
  | some b=>
   rw[h1,U,yg] at h
   obtain ⟨mb,hb⟩:=(lD hr.1).1 U
   have XF:=hr.2 b mb
   split at h
   ·cases h
   ·rename_i hn
    injection h with h
    subst h
    have hs:sameKey a b=true:=by
     unfold rk at ha hb
     unfold sameKey
     grind
    refine ⟨hb,?_,?_,rfl,rfl⟩
    ·grind [ig]
    ·grind [GG,ig]
theorem Od {a:Option Row}:jt a a=none:=by
 cases a with
 | none=>rfl
 | some a=>rw[yg,tW];rfl
end OT
set_option linter.unusedVariables false
set_option linter.unusedSimpArgs false
set_option linter.unusedSectionVars false
namespace OT
open Go
theorem G3 {B A:List Row} (hB:up B) (hA:up A) {k:Int×Int} {c:Change} (h:jt (look B k) (look A k)=some c):ck c=k:=by
 cases h1:look B k with
 | none=>
  cases U:look A k with
  | none=>rw[h1,U] at h;cases h
  | some b=>rw[h1,U] at h;injection h with h;subst h;exact ((lD hA).1 U).2
 | some a=>
  cases U:look A k with
  | none=>rw[h1,U] at h;injection h with h;subst h;exact ((lD hB).1 h1).2
  | some b=>
   rw[h1,U,yg] at h
   split at h
   ·cases h
   ·injection h with h
    subst h
    exact ((lD hA).1 U).2
theorem Fm {B A:List Row} (hB:up B) (hA:up A):∀ (ks:List Row),up ks->AW (ks.filterMap λx=>jt (look B (rk x)) (look A (rk x)))/\(∀ c ∈ ks.filterMap (λx=>jt (look B (rk x)) (look A (rk x))),∃ x ∈ ks,rk x=ck c) /\
  ∀ k,jb (ks.filterMap λx=>jt (look B (rk x)) (look A (rk x))) k=if (∃ x ∈ ks,rk x=k) then jt (look B k) (look A k) else none
 | [],_=>⟨List.Pairwise.nil,(λc hc=>by cases hc),λk=>by rw[if_neg (λ⟨x,hx,_⟩=>by cases hx)];rfl⟩
 | x::ks,hu=>by
  have GA:=nQ.1 hu
  obtain ⟨g1,g2,g3⟩:=Fm hB hA ks GA.2
  have iz:¬ ∃ y ∈ ks,rk y=rk x:=λ⟨y,hy,e⟩=>by
   have:=GA.1 y hy
   rw[e,dQ] at this
   cases this
  rw[List.filterMap_cons]
  cases hc:jt (look B (rk x)) (look A (rk x)) with
  | none=>
   refine ⟨g1,λc hm=>?_,λk=>?_⟩
   ·obtain ⟨y,hy,e⟩:=g2 c hm
    exact ⟨y,List.mem_cons_of_mem _ hy,e⟩
   ·show jb (ks.filterMap _) k=_
    rw[g3]
    by_cases hk:k=rk x
    ·subst hk
     rw[if_neg iz,if_pos ⟨x,List.mem_cons_self,rfl⟩,hc]
    ·have:(∃ y ∈ x::ks,rk y=k)↔∃ y ∈ ks,rk y=k:=by
      constructor
      ·rintro ⟨y,hy,e⟩
       rcases List.mem_cons.1 hy with rfl | hy
       ·exact absurd e.symm hk
       ·exact ⟨y,hy,e⟩
      ·rintro ⟨y,hy,e⟩
       exact ⟨y,List.mem_cons_of_mem _ hy,e⟩
     simp only[this]
  | some c=>
   have Qs:=G3 hB hA hc
   refine ⟨?_,λd hm=>?_,λk=>?_⟩
   ·show AW (c::ks.filterMap _)
    rw[qq]
    refine ⟨λd hd=>?_,g1⟩
    obtain ⟨y,hy,e⟩:=g2 d hd
    rw[Qs,<- e]
    exact GA.1 y hy
   ·rcases List.mem_cons.1 hm with rfl | hm
    ·exact ⟨x,List.mem_cons_self,Qs.symm⟩
    ·obtain ⟨y,hy,e⟩:=g2 d hm
     exact ⟨y,List.mem_cons_of_mem _ hy,e⟩
   ·show jb (c::ks.filterMap _) k=_
    rw[iM,g3,Qs]
    by_cases hk:k=rk x
    ·subst hk
     rw[if_pos rfl,if_pos ⟨x,List.mem_cons_self,rfl⟩,hc]
    ·rw[if_neg hk]
     have:(∃ y ∈ x::ks,rk y=k)↔∃ y ∈ ks,rk y=k:=by
      constructor
      ·rintro ⟨y,hy,e⟩
       rcases List.mem_cons.1 hy with rfl | hy
       ·exact absurd e.symm hk
       ·exact ⟨y,hy,e⟩
      ·rintro ⟨y,hy,e⟩
       exact ⟨y,List.mem_cons_of_mem _ hy,e⟩
     simp only[this]
theorem L8 {B A:List Row} (hB:Good B) (hA:Good A):TS (ip B A) (λ_=>True) B A:=by
 obtain ⟨h1,U,h3⟩:=E9 hB.1 hA.1
 obtain ⟨g1,g2,g3⟩:=Fm hB.1 hA.1 (xM B A) h1
 have hk:=(pW B hB.1 A B hB.1 hA.1 (λ_ h=>h) (λy _ x hx e=>⟨x,hx,e⟩)).2.2
 rw[h3] at g1 g2 g3
 have hf:∀ k,jb (ip B A) k=jt (look B k) (look A k):=λk=>by
  rw[g3]
  split
  ·rfl
  ·rename_i hn
   have DP:¬ ((∃ x ∈ B,rk x=k)\/∃ y ∈ A,rk y=k):=λh=>hn ((hk k).2 h)
   rw[tV (xs:=B) λy hy e=>DP (.inl ⟨y,hy,e⟩),tV (xs:=A) λy hy e=>DP (.inr ⟨y,hy,e⟩)]
   rfl
 refine ⟨g1,λx hx=>?_,λk _=>hf k,λk h=>absurd trivial h⟩
 have:=IN g1 hx
 rw[hf] at this
 exact (Qr hB hA this).2.1
theorem G4 {F G:List Change} (hF:AW F) (hG:AW G) (h:∀ k,jb F k=jb G k):F=G:=by
 induction F generalizing G with
 | nil=>
  cases G with
  | nil=>rfl
  | cons y G=>
   have:=h (ck y)
   rw[iM,if_pos rfl] at this
   cases this
 | cons x F ih=>
  have wo:=qq.1 hF
  cases G with
  | nil=>
   have:=h (ck x)
   rw[iM,if_pos rfl] at this
   cases this
  | cons y G=>
   have I0:=qq.1 hG
   have mI:ck x=ck y:=by
    rcases IM (ck x) (ck y) with g | g | g
    ·exfalso
     have h1:=h (ck x)
     rw[iM,if_pos rfl] at h1
     obtain ⟨m1,m2⟩:=A5 h1.symm
     rcases List.mem_cons.1 m1 with e | m
     ·rw[e,dQ] at g;cases g
     ·have:=jm g (I0.1 x m)
      rw[dQ] at this;cases this
    ·exact g
    ·exfalso
     have h1:=h (ck y)
     rw[iM (x:=y),if_pos rfl] at h1
     obtain ⟨m1,m2⟩:=A5 h1
     rcases List.mem_cons.1 m1 with e | m
     ·rw[e,dQ] at g;cases g
     ·have:=jm g (wo.1 y m)
      rw[dQ] at this;cases this
   have e:x=y:=by
    have h1:=h (ck x)
    rw[iM,if_pos rfl,iM,if_pos mI] at h1
    injection h1
   subst e
   congr 1
   refine ih wo.2 I0.2 λk=>?_
   have h1:=h k
   rw[iM,iM] at h1
   by_cases hk:k=ck x
   ·have e1:jb F k=none:=by
     rw[A6]
     intro z hz e
     have:=wo.1 z hz
     rw[e,hk,dQ] at this
     cases this
    have e2:jb G k=none:=by
     rw[A6]
     intro z hz e
     have:=I0.1 z hz
     rw[e,hk,dQ] at this
     cases this
    rw[e1,e2]
   ·rwa [if_neg hk,if_neg hk] at h1
theorem Oe {B A:List Row} (hB:Good B) (hA:Good A) {k0:Int×Int} (h:∀ k,k≠k0->look A k=look B k):ip B A=(jt (look B k0) (look A k0)).toList:=by
 have T:=L8 hB hA
 have hf:∀ k,jb (ip B A) k=if k=k0 then jt (look B k0) (look A k0) else none:=λk=>by
  rw[T.here k trivial]
  split
  ·rename_i hk;rw[hk]
  ·rename_i hk;rw[h k hk,Od]
 cases hc:jt (look B k0) (look A k0) with
 | none=>
  rw[hc] at hf
  refine G4 T.up List.Pairwise.nil λk=>?_
  rw[hf]
  split <;> rfl
 | some c=>
  rw[hc] at hf
  refine G4 T.up (by rw[show (some c).toList=[c] from rfl,qq];exact ⟨(λy hy=>by cases hy),List.Pairwise.nil⟩) λk=>?_
  rw[hf,show (some c).toList=[c] from rfl,iM,G3 hB.1 hA.1 hc]
  rfl
end OT
set_option linter.unusedVariables false
set_option linter.unusedSimpArgs false
set_option linter.unusedSectionVars false
namespace OT
open Go
structure Lk (ps:aH) (w:am):Prop where
 at_:p6 ps w.2.1=w.1
 ed:pU ps w.2.1
section
variable {ps:aH} {w:am} {n:Nat}
theorem Lk.q_ (h:Lk ps w) {P:Nat} {b:List UInt8} {m:Nat} (ho:okW (da w P b) m) (hP:P<=List.length w.1):Lk ps (da w P b):=by
 rcases rR hP b with e | ⟨e1,e2⟩
 ·rw[e];exact h
 ·refine ⟨by rw[e1,uQ,h.at_,e2],?_⟩
  rw[e1]
  exact qW h.ed (by rw[h.at_];exact yf (by rw[<-e2];exact ho.cv) hP)
theorem Lk.comp (h:Lk ps w) (ho:okW w n) {P:Nat} (hP:P < List.length w.1):Lk ps (gG w P):=h.q_ (nz ho hP) (Nat.le_of_lt hP)
theorem Lk.gd (h:Lk ps w) (ho:okW w n) {P:Nat} (hP:P < List.length w.1) {c:List UInt8} (hc:1<=c.length):Lk ps (gd w P c).2:=by
 have R:=(qm ho hP hc).ok
 have hk:=h.comp ho hP
 unfold OT.gd at R ⊢
 by_cases h8:fN (cI w.1 P) c=8
 ·rw[if_pos h8] at R ⊢
  by_cases h0:fN (fF (cI w.1 P)) c=0
  ·rw[if_pos h0] at R ⊢
   exact hk.q_ R (by rw[kg hP];omega)
  ·rw[if_neg h0];exact hk
 ·rw[if_neg h8] at R ⊢
  by_cases h0:fN (cI w.1 P) c=0
  ·rw[if_pos h0] at R ⊢
   exact h.q_ R (Nat.le_of_lt hP)
  ·rw[if_neg h0];exact h
theorem Lk.b_ (h:Lk ps w) (ho:okW w n) {P s:Nat} (gr:ax w.1 P s≠[]) {c:List UInt8} (hc:1<=c.length):Lk ps (b_ w P s c).2:=by
 have R:=(iI ho gr hc).ok
 have hP:=(kG ho.cv gr).1
 have hk:=h.comp ho hP
 unfold OT.b_ at R ⊢
 by_cases h8:jT (cI w.1 P) s c=8
 ·rw[if_pos h8] at R ⊢
  by_cases h0:jT (fF (cI w.1 P)) s c=0
  ·rw[if_pos h0] at R ⊢
   exact hk.q_ R (by rw[kg hP];omega)
  ·rw[if_neg h0];exact hk
 ·rw[if_neg h8] at R ⊢
  by_cases h0:jT (cI w.1 P) s c=0
  ·rw[if_pos h0] at R ⊢
   exact h.q_ R (Nat.le_of_lt hP)
  ·rw[if_neg h0];exact h
theorem Lk.eQ (h:Lk ps w) (ho:okW w n) {P s:Nat} (gr:ax w.1 P s≠[]):Lk ps (eQ w P s):=h.q_ (kh ho gr).1 (Nat.le_of_lt (kG ho.cv gr).1)
end
theorem Lk.dW {ps:aH} {c:List UInt8} (hc:1<=c.length) (no:Int):∀ (l:List Nat) (w:am) (n:Nat),Lk ps w->okW w n->(∀ P ∈ l,P < List.length w.1)->Lk ps (dW c no l w).2
 | [],w,n,h,_,_=>h
 | P::l,w,n,h,ho,hl=>by
  unfold OT.dW
  split
  ·exact Lk.dW hc no l w n h ho λQ hQ=>hl Q (List.mem_cons_of_mem _ hQ)
  ·have hP:=hl P List.mem_cons_self
   have R:=qm ho hP hc
   have hk:=h.gd ho hP hc
   split
   ·exact hk
   ·exact Lk.dW hc no l _ _ hk R.ok λQ hQ=>by rw[R.len];exact hl Q (List.mem_cons_of_mem _ hQ)
section
variable {ps:aH} {w:am} {n:Nat}
theorem Lk.dU (h:Lk ps w) (ho:okW w n) {c:List UInt8} (fj:1<=c.length) (hc:c.length<=20) (no:Int):Lk ps (dU w no c).2:=by
 have R:=(kj ho fj hc no).ok
 have G:=mw fj no (List.range (List.length w.1)) w n ho λP hP=>List.mem_range.1 hP
 have hk:=Lk.dW fj no (List.range (List.length w.1)) w n h ho λP hP=>List.mem_range.1 hP
 unfold OT.dU at R ⊢
 cases hr:(OT.dW c no (List.range (List.length w.1)) w).1 with
 | some a=>exact hk
 | none=>
  rw[hr] at R
  simp only at R ⊢
  by_cases nW:12<=List.length w.1
  ·rw[if_pos nW];exact hk
  ·rw[if_neg nW] at R ⊢
   exact hk.q_ R (by rw[(G.no hr).1];omega)
theorem Lk.gH (h:Lk ps w) (ho:okW w n) {P s A B:Nat} (h1:ax w.1 P s≠[]) (U:ax w.1 A B≠[]) (mv:Bool) {r:Row} (hr:cP r=0):Lk ps (gH w P s A B mv r).2:=by
 have R1:=iI ho U (cw (f:=bif mv then 2 else 0) hr).1
 have L1:=h.b_ ho U (cw (f:=bif mv then 2 else 0) hr).1
 have R2:=kj R1.ok (cw (f:=2) hr).1 (by have:=(cw (f:=2) hr).2;omega) (A:Int)
 have L2:=L1.dU R1.ok (cw (f:=2) hr).1 (by have:=(cw (f:=2) hr).2;omega) (A:Int)
 unfold OT.gH
 split
 ·exact L1
 ·split
  ·exact L2
  ·rename_i a ha
   have k1:=ko R2 (fP R1 h1 c6) c6
   have k2:=ko R2 (fP R1 U c6) c6
   have R3:=iI R2.ok k1 (c:=cn a.1 a.2) (by rw[ik];omega)
   have L3:=L2.b_ R2.ok k1 (c:=cn a.1 a.2) (by rw[ik];omega)
   cases mv with
   | false=>exact L3
   | true=>exact L3.eQ R3.ok (fP R3 k2 (by unfold cn;simp))
end
theorem Lk.start {ps:aH}:Lk ps (aW ps):=⟨rfl,trivial⟩
theorem Of {ps:aH} (hv:a7 ps=0) {c:Change} (hc:ig c=0) (h0:(nZ ps c).1=0):∃ w:am,nZ ps c=((0:Int),w.2.1,w.1,())/\okW w 40/\Lk ps w:=by
 obtain ⟨hR,S⟩:=eE.1 hv
 have ho:=iK hR
 have hL:Lk ps (aW ps):=Lk.start
 unfold nZ at h0 ⊢
 rw[if_pos hv,if_pos hc] at h0 ⊢
 cases hx:iJ ps (ck c).1 (ck c).2 with
 | none=>
  rw[hx] at h0
  simp only at h0 ⊢
  cases hw:c.1 with
  | true=>rw[hw] at h0;exact absurd h0 (show ¬ (8:Int)=0 by decide)
  | false=>
   rw[hw] at h0
   simp only[Bool.false_eq_true,if_false] at h0 ⊢
   have hr:=(kT hc).2 (ye (ps:=[]) (λp hp=>by cases hp) hc hw)
   have hk:=hL.dU ho (cw (f:=0) hr).1 (by have:=(cw (f:=0) hr).2;omega) (-1)
   rw[(mB h0).2]
   exact ⟨_,rfl,(GW ho hr).ok.mono (by omega),hk⟩
 | some x=>
  have hm:=List.mem_of_find?_eq_some hx
  obtain ⟨P,s,c1,c2,x1,x2,x3,x4,x5,x6⟩:=yd hv hm
  rw[hx] at h0
  simp only at h0 ⊢
  cases hb:(c.1&&Ty.eq aE (bS x) c.2.1) with
  | false=>rw[hb] at h0;exact absurd h0 (show ¬ (8:Int)=0 by decide)
  | true=>
   rw[hb] at h0
   simp only[if_true] at h0 ⊢
   cases hi:c.2.2.1 with
   | true=>
    rw[hi] at h0
    simp only[if_true] at h0 ⊢
    have hr:=(kT hc).2 hi
    unfold oG at h0 ⊢
    by_cases he:Ty.eq aE (bS x) c.2.2.2.1=true
    ·rw[if_pos he];exact ⟨_,rfl,ho.mono (by omega),hL⟩
    ·rw[if_neg he] at h0 ⊢
     rw[(mB h0).2]
     by_cases hf:bM (ax ps P s)=1
     ·obtain ⟨J,a2⟩:=S.stub P s c1 hf
      rw[x3,if_pos hf,if_pos hf,x1,x2,x4,x5,decide_eq_true hf,Int.toNat_natCast,Int.toNat_natCast,Int.toNat_natCast,Int.toNat_natCast]
      exact ⟨_,rfl,(rW ho (by omega) c1 J true hr).mono (by omega),hL.gH ho c1 J true hr⟩
     ·rw[x3,if_neg hf,if_neg hf,x1,x2,decide_eq_false hf,Int.toNat_natCast,Int.toNat_natCast]
      exact ⟨_,rfl,(rW ho (by omega) c1 c1 false hr).mono (by omega),hL.gH ho c1 c1 false hr⟩
   | false=>
    simp only[Bool.false_eq_true,if_false]
    obtain ⟨d1,d2,d3⟩:=kh ho c1
    have L1:=hL.eQ ho c1
    unfold xI
    rw[x1,x2,x4,x5,Int.toNat_natCast,Int.toNat_natCast,Int.toNat_natCast,Int.toNat_natCast,x3]
    by_cases hf:bM (ax ps P s)=1
    ·rw[if_pos hf]
     obtain ⟨J,a2⟩:=S.stub P s c1 hf
     have ne:¬ (f_ (ax ps P s)=P/\ga (ax ps P s)=s):=λhe=>by
      rw[he.1,he.2] at a2;exact c2 a2
     have k1:ax (eQ (aW ps) P s).1 (f_ (ax ps P s)) (ga (ax ps P s))≠[]:=by rw[d3,if_neg ne];exact J
     exact ⟨_,rfl,(kh d1 k1).1.mono (by omega),L1.eQ d1 k1⟩
    ·rw[if_neg hf]
     exact ⟨_,rfl,d1.mono (by omega),L1⟩
end OT
set_option linter.unusedVariables false
set_option linter.unusedSimpArgs false
set_option linter.unusedSectionVars false
namespace OT
open Go
def KJ (ps:aH):Prop:=ps.length<=100/\∀ p ∈ ps,List.length p<=64
theorem BO (ps:aH) (h:KJ ps):cD.aa (ps,())=some (ps,()):=by
 obtain ⟨h1,U⟩:=h
 refine aj (k:=114) λk hk=>(cD.af k _).trans ?_
 have:=d9 (B:=λself v=>cD.B0 0 self (λz=>cD.Q0 0 (ps,()) z) (ps,()) v) ps (λ(s:aH) (i:Int)=>(s,i)) (λ_ s x=>.inr (s++[x])) (λs=>(s,())) (λi s=>s.length=i) (by rw[aL];omega)
  (λi hi s self hI=>by
   show cD.b0 _ _ _ _=_
   unfold cD.b0
   have av:(i:Int) < (ps.length:Int):=by omega
   have hx:=U ps[i] (List.getElem_mem hi)
   simp only[av,decide_true,cond_true,Int.natCast_nonneg,if_true,Int.toNat_natCast,List.getElem?_eq_getElem hi,Option.bind_some]
   rw[gU _ (by omega)]
   have hc:s.length+[ps[i]].length<=cJ:=dR (by simp only[List.length_cons,List.length_nil];omega)
   simp only[Option.bind_some,hc,if_true])
  (λi hi s s' hI hs=>by injection hs with hs;rw[<-hs];simp[hI]) (λs self hI=>by
   show cD.b0 _ _ _ _=_
   unfold cD.b0
   simp only[Int.lt_irrefl,decide_false,cond_false]
   rfl) [] rfl k (by omega)
 rw[fi,nu] at this
 exact this
theorem BP (ps:aH) (h:KJ ps):cB.aa (ps,())=some (ps,()):=by
 obtain ⟨h1,U⟩:=h
 refine aj (k:=114) λk hk=>(cB.af k _).trans ?_
 have:=d9 (B:=λself v=>cB.B0 0 self (λz=>cB.Q0 0 (ps,()) z) (ps,()) v) ps (λ(s:aH) (i:Int)=>(s,i)) (λ_ s x=>.inr (s++[x])) (λs=>(s,())) (λi s=>s.length=i) (by rw[aL];omega)
  (λi hi s self hI=>by
   show cB.b0 _ _ _ _=_
   unfold cB.b0
   have av:(i:Int) < (ps.length:Int):=by omega
   have hx:=U ps[i] (List.getElem_mem hi)
   simp only[av,decide_true,cond_true,Int.natCast_nonneg,if_true,Int.toNat_natCast,List.getElem?_eq_getElem hi,Option.bind_some]
   rw[lw _ (by omega)]
   have hc:s.length+[ps[i]].length<=cJ:=dR (by simp only[List.length_cons,List.length_nil];omega)
   simp only[Option.bind_some,hc,if_true])
  (λi hi s s' hI hs=>by injection hs with hs;rw[<-hs];simp[hI]) (λs self hI=>by
   show cB.b0 _ _ _ _=_
   unfold cB.b0
   simp only[Int.lt_irrefl,decide_false,cond_false]
   rfl) [] rfl k (by omega)
 rw[fi,nu] at this
 exact this
theorem Fo (es:List bW) (hl:es.length<=1000) (h:∀ e ∈ es,List.length e.2.1<=64):cq.aa (es,())=some (es,()):=by
 refine aj (k:=1100) λk hk=>(cq.af k _).trans ?_
 have:=d9 (B:=λself v=>cq.B0 k self (λz=>cq.Q0 k (es,()) z) (es,()) v) es (λ(s:List bW) (i:Int)=>(s,i)) (λ_ s x=>.inr (s++[x])) (λs=>(s,())) (λi s=>s.length=i) (by rw[aL];omega)
  (λi hi s self hs=>by
   show cq.b0 _ _ _ _=_
   unfold cq.b0
   have av:(i:Int) < (es.length:Int):=by omega
   have Cy:=h _ (List.getElem_mem hi)
   rw[decide_eq_true av,cond_true,if_pos (Int.natCast_nonneg i)]
   simp only[Int.toNat_natCast,List.getElem?_eq_getElem hi,Option.bind_some]
   rw[gU _ (by omega)]
   simp only[Option.bind_some]
   rw[if_pos (dR (by simp only[List.length_cons,List.length_nil];omega))])
  (λi hi s s' hs hf=>by injection hf with hf;subst hf;simp[hs]) (λs self _=>by
   show cq.b0 _ _ _ _=_
   unfold cq.b0
   rw[decide_eq_false (Int.lt_irrefl _),cond_false]
   rfl) [] rfl k (by omega)
 rw[fi (g:=λ(s:List bW) (x:bW)=>s++[x]),nu,List.nil_append] at this
 exact this
def nU (s:aH) (e:bW):Int ⊕ aH:=
 if (List.length e.2.1:Int)=64 then (if 0<=e.1/\e.1<=(s.length:Int) then (if e.1=12 then .inl 2 else .inr (gP s e)) else .inl 1) else .inl 1
def pY (all:List bW) (ps:aH) (es:List bW):bI:=match es with
 | []=>((0:Int),all,ps,())
 | e::es=>match nU ps e with | .inl k=>lY k | .inr V_=>pY all V_ es
def rZ (ps:aH) (es:List bW):bI:=if (12:Int) < (ps.length:Int) then lY 2 else pY es ps es
theorem we {s:aH} {n:Nat} (h:s.length<=n) (e:bW):(gP s e).length<=n+1:=by
 unfold gP
 split
 ·rw[List.length_append];simp only[List.length_cons,List.length_nil];omega
 ·rw[List.length_set];omega
theorem A7 (all:List bW):∀ (es:List bW) (i:Nat) (ps:aH),cS (λ_ s e=>match nU s e with | .inl k=>.inl (lY k,()) | .inr s'=>.inr s') (λs=>(((0:Int),all,s,()),())) i es ps=(pY all ps es,())
 | [],_,_=>rfl
 | e::es,i,ps=>by
  simp only[cS,pY]
  cases nU ps e with
  | inl k=>rfl
  | inr s'=>exact A7 all es (i+1) s'
theorem CU {ps:aH} (hp:KJ ps) (Wa:ps.length<=13) {es:List bW} (he:Nv es):aV.aa (ps,es,())=some (rZ ps es,()):=by
 obtain ⟨hl,Cy⟩:=he
 refine aj (k:=1100) λk hk=>(aV.af k _).trans ?_
 unfold aV.p rZ
 by_cases nW:(12:Int) < (ps.length:Int)
 ·rw[decide_eq_true nW,cond_true,if_pos nW]
  rfl
 rw[decide_eq_false nW,cond_false,if_neg nW,BO ps hp,Option.bind_some]
 have:=d9 (B:=λself v=>aV.B0 k self (λz=>aV.Q0 k (ps,es,()) z) (ps,es,()) v) es (λ(s:aH) (i:Int)=>(s,i)) (λ_ s e=>match nU s e with | .inl k=>.inl (lY k,()) | .inr s'=>.inr s') (λs=>(((0:Int),es,s,()),())) (λi s=>s.length<=13+i) (by rw[aL];omega)
  (λi hi s self hs=>by
   show aV.b0 _ _ _ _=_
   unfold aV.b0
   have av:(i:Int) < (es.length:Int):=by omega
   have hx:=Cy _ (List.getElem_mem hi)
   rw[decide_eq_true av,cond_true,if_pos (Int.natCast_nonneg i)]
   simp only[Int.toNat_natCast,List.getElem?_eq_getElem hi,Option.bind_some,xi]
   unfold nU
   by_cases q1:(List.length (es[i]).2.1:Int)=64
   rotate_left
   ·rw[decide_eq_false q1,Bool.not_false,cond_true,if_neg q1]
    rfl
   rw[decide_eq_true q1,Bool.not_true,cond_false,if_pos q1]
   by_cases q2:0<=(es[i]).1/\(es[i]).1<=(s.length:Int)
   rotate_left
   ·have Qt:(decide (0<=(es[i]).1)&&decide ((es[i]).1<=(s.length:Int)))=false:=by
     rw[<-Bool.decide_and]
     exact decide_eq_false q2
    rw[Qt,Bool.not_false,cond_true,if_neg q2]
    rfl
   rw[decide_eq_true q2.1,decide_eq_true q2.2,Bool.and_self,Bool.not_true,cond_false,if_pos q2]
   by_cases q3:(es[i]).1=12
   ·rw[decide_eq_true q3,cond_true,if_pos q3]
    rfl
   rw[decide_eq_false q3,cond_false,if_neg q3]
   simp only[gU (es[i]).2.1 (by omega),Option.bind_some]
   unfold gP
   by_cases hq:(es[i]).1=(s.length:Int)
   ·have hn:(es[i]).1.toNat=s.length:=by omega
    rw[decide_eq_true hq,cond_true,if_pos (dR (by simp only[List.length_cons,List.length_nil];omega)),if_pos hn]
    have g:0<=(es[i]).1/\(es[i]).1 < ((s++[([]:List UInt8)]).length:Int):=by
     rw[List.length_append];simp only[List.length_cons,List.length_nil];omega
    rw[if_pos g,hn,List.getElem?_append_right (Nat.le_refl _),Nat.sub_self]
    show self ((s++[([]:List UInt8)]).set s.length (es[i]).2.1,_)=_
    rw[List.set_append_right _ _ (Nat.le_refl _),Nat.sub_self]
    rfl
   ·have hn:¬ (es[i]).1.toNat=s.length:=by omega
    have g:0<=(es[i]).1/\(es[i]).1 < (s.length:Int):=by omega
    rw[decide_eq_false hq,cond_false,if_pos g,if_neg hn,List.getElem?_eq_getElem (show (es[i]).1.toNat < s.length by omega)]
    rfl)
  (λi hi s s' hs hf=>by
   unfold nU at hf
   split at hf
   ·cases hf
   ·rename_i s2 U
    injection hf with hf
    subst hf
    split at U
    ·split at U
     ·split at U
      ·cases U
      ·injection U with U
       rw[<-U]
       have:=we hs es[i]
       omega
     ·cases U
    ·cases U)
  (λs self _=>by
   show aV.b0 _ _ _ _=_
   unfold aV.b0
   show (bif decide ((List.length es:Int) < (List.length es:Int)) then _ else _)=_
   rw[decide_eq_false (Int.lt_irrefl _),cond_false]
   show aV.q0 _ _=_
   unfold aV.q0
   rw[Fo es (by omega) Cy]
   rfl) ps (by omega) k (by omega)
 rw[A7] at this
 exact this
theorem yL (all:List bW):∀ (es acc:List bW) (i:Nat) (ps:aH),all=acc++es->cS (λ_ (s:List bW×aH) e=>match nU s.2 e with | .inl k=>.inl (lY k,()) | .inr s'=>.inr (s.1++[e],s')) (λs=>(((0:Int),s.1,s.2,()),())) i es (acc,ps)=(pY all ps es,())
 | [],acc,_,_,h=>by
  rw[List.append_nil] at h
  subst h
  rfl
 | e::es,acc,i,ps,h=>by
  simp only[cS,pY]
  cases nU ps e with
  | inl k=>rfl
  | inr s'=>exact yL all es (acc++[e]) (i+1) s' (by rw[h,List.append_assoc];rfl)
theorem CV {ps:aH} (hp:KJ ps) (Wa:ps.length<=13) {es:List bW} (he:Nv es):de.aa (ps,es,())=some (rZ ps es,()):=by
 obtain ⟨hl,Cy⟩:=he
 refine aj (k:=1100) λk hk=>(de.af k _).trans ?_
 unfold de.p rZ
 by_cases nW:(12:Int) < (ps.length:Int)
 ·rw[decide_eq_true nW,cond_true,if_pos nW,lC]
  rfl
 rw[decide_eq_false nW,cond_false,if_neg nW,BP ps hp,Option.bind_some]
 have:=d9 (B:=λself v=>de.B0 k self (λz=>de.Q0 k (ps,es,()) z) (ps,es,()) v) es (λ(s:List bW×aH) (i:Int)=>(((0:Int),s.1,s.2,()),i)) (λ_ (s:List bW×aH) e=>match nU s.2 e with | .inl k=>.inl (lY k,()) | .inr s'=>.inr (s.1++[e],s')) (λs=>(((0:Int),s.1,s.2,()),())) (λi s=>s.2.length<=13+i/\s.1.length=i) (by rw[aL];omega)
  (λi hi s self hs=>by
   show de.b0 _ _ _ _=_
   unfold de.b0
   have av:(i:Int) < (es.length:Int):=by omega
   have hx:=Cy _ (List.getElem_mem hi)
   rw[decide_eq_true av,cond_true,if_pos (Int.natCast_nonneg i)]
   simp only[Int.toNat_natCast,List.getElem?_eq_getElem hi,Option.bind_some,qQ,lC]
   unfold nU
   by_cases q1:(List.length (es[i]).2.1:Int)=64
   rotate_left
   ·rw[decide_eq_false q1,Bool.not_false,cond_true,if_neg q1]
   rw[decide_eq_true q1,Bool.not_true,cond_false,if_pos q1]
   by_cases q2:0<=(es[i]).1/\(es[i]).1<=(s.2.length:Int)
   rotate_left
   ·have Qt:(decide (0<=(es[i]).1)&&decide ((es[i]).1<=(s.2.length:Int)))=false:=by
     rw[<-Bool.decide_and]
     exact decide_eq_false q2
    rw[Qt,Bool.not_false,cond_true,if_neg q2]
   rw[decide_eq_true q2.1,decide_eq_true q2.2,Bool.and_self,Bool.not_true,cond_false,if_pos q2]
   by_cases q3:(es[i]).1=12
   ·rw[decide_eq_true q3,cond_true,if_pos q3]
   rw[decide_eq_false q3,cond_false,if_neg q3]
   simp only[lw (es[i]).2.1 (by omega),Option.bind_some]
   unfold gP
   by_cases hq:(es[i]).1=(s.2.length:Int)
   ·have hn:(es[i]).1.toNat=s.2.length:=by omega
    rw[decide_eq_true hq,cond_true,if_pos (dR (by simp only[List.length_cons,List.length_nil];omega)),if_pos (dR (by simp only[List.length_cons,List.length_nil];omega)),if_pos hn]
   ·have hn:¬ (es[i]).1.toNat=s.2.length:=by omega
    have g:0<=(es[i]).1/\(es[i]).1 < (s.2.length:Int):=by omega
    rw[decide_eq_false hq,cond_false,if_pos g,if_neg hn,List.getElem?_eq_getElem (show (es[i]).1.toNat < s.2.length by omega)]
    simp only[Option.bind_some]
    rw[if_pos (dR (by simp only[List.length_cons,List.length_nil];omega))])
  (λi hi s s' hs hf=>by
   unfold nU at hf
   split at hf
   ·cases hf
   ·rename_i s2 U
    injection hf with hf
    subst hf
    split at U
    ·split at U
     ·split at U
      ·cases U
      ·injection U with U
       rw[<-U]
       have:=we hs.1 es[i]
       exact ⟨by omega,by rw[List.length_append,hs.2];rfl⟩
     ·cases U
    ·cases U)
  (λs self _=>by
   show de.b0 _ _ _ _=_
   unfold de.b0
   show (bif decide ((List.length es:Int) < (List.length es:Int)) then _ else _)=_
   rw[decide_eq_false (Int.lt_irrefl _),cond_false]
   rfl) (([]:List bW),ps) ⟨by omega,rfl⟩ k (by omega)
 rw[yL es es [] 0 ps rfl] at this
 exact this
end OT
set_option linter.unusedVariables false
set_option linter.unusedSimpArgs false
set_option linter.unusedSectionVars false
namespace OT
open Go
theorem CG {ps:aH} {c:Change} (h0:(nZ ps c).1=0):a7 ps=0/\ig c=0:=by
 unfold nZ at h0
 by_cases hv:a7 ps=0
 ·rw[if_pos hv] at h0
  by_cases hc:ig c=0
  ·exact ⟨hv,hc⟩
  ·rw[if_neg hc] at h0
   exact absurd h0 hc
 ·rw[if_neg hv] at h0
  exact absurd h0 hv
theorem KK {ps:aH} {c:Change} (h0:(nZ ps c).1=0):oA (aq ps) c=true:=by
 obtain ⟨hv,hc⟩:=CG h0
 rw[CF (nC hv) hc]
 unfold nZ at h0
 rw[if_pos hv,if_pos hc] at h0
 have ez:=oS (dv hv) (ck c).1 (ck c).2
 unfold look tm
 cases hx:iJ ps (ck c).1 (ck c).2 with
 | none=>
  rw[hx] at ez h0
  have ez:eS (aq ps) (ck c)=false:=ez
  rw[ez]
  cases hw:c.1 with
  | true=>rw[hw] at h0;exact absurd h0 (show ¬ (8:Int)=0 by decide)
  | false=>rfl
 | some x=>
  rw[hx] at ez h0
  obtain ⟨f1,f2,_,_⟩:=ez
  have f1:eS (aq ps) (ck c)=true:=f1
  have f2:(aq ps)[pos (aq ps) (ck c)]?=some (bS x):=f2
  rw[f1,f2]
  simp only at h0
  cases hb:(c.1&&Ty.eq aE (bS x) c.2.1) with
  | false=>rw[hb] at h0;exact absurd h0 (show ¬ (8:Int)=0 by decide)
  | true=>
   rw[Bool.and_eq_true] at hb
   rw[hb.1,AP hb.2]
def xO (c:Change):Change:=(c.1,if c.1 then c.2.1 else kR,c.2.2.1,if c.2.2.1 then c.2.2.2.1 else kR,())
theorem IP (c:Change):kE.aa (c,())=some (xO c,()):=by
 refine aj (k:=0) λk _=>(kE.af k _).trans ?_
 obtain ⟨c1,cb,c2,ca,⟨⟩⟩:=c
 cases c1 <;> cases c2 <;> rfl
theorem L9 (d:Change):Ty.eq cX d d=true:=by
 have h1:=tW d.2.1
 have U:=tW d.2.2.2.1
 show (decide (d.1=d.1)&&(Ty.eq aE d.2.1 d.2.1&&(decide (d.2.2.1=d.2.2.1)&&(Ty.eq aE d.2.2.2.1 d.2.2.2.1&&true))))=true
 rw[h1,U,decide_eq_true rfl,decide_eq_true rfl]
 rfl
theorem CH (all:List bW):∀ (es:List bW) (ps:aH),List.length (pY all ps es).2.2.1<=ps.length+es.length
 | [],ps=>Nat.le_refl _
 | e::es,ps=>by
  unfold pY
  cases hs:nU ps e with
  | inl k=>exact Nat.zero_le _
  | inr s'=>
   have h1:s'.length<=ps.length+1:=by
    unfold nU at hs
    split at hs
    ·split at hs
     ·split at hs
      ·cases hs
      ·injection hs with hs
       rw[<-hs]
       exact we (Nat.le_refl _) e
     ·cases hs
    ·cases hs
   have:=CH all es s'
   rw[List.length_cons]
   show List.length (pY all s' es).2.2.1<=_
   omega
theorem IQ {x:aH} (hx:x.length<=13) {es:List bW} (he:es.length<=50):List.length (rZ x es).2.2.1<=1000:=by
 unfold rZ
 split
 ·exact Nat.zero_le _
 ·have:=CH es es x
  omega
theorem CW (d:Change):fA.aa ([d],[d],())=some (true,()):=by
 refine aj (k:=3) λk hk=>(fA.af k _).trans ?_
 obtain ⟨j,rfl⟩:∃ j,k=j+2:=⟨k - 2,by omega⟩
 unfold fA.p
 rw[show decide ((List.length [d]:Int)=(List.length [d]:Int))=true from decide_eq_true rfl,Bool.not_true,cond_false]
 show aD _ (j+2) (0:Int)=_
 rw[lR]
 show fA.b0 _ _ _ _=_
 unfold fA.b0
 show (bif !(Ty.eq cX d d) then _ else aD _ (j+1) (1:Int))=_
 rw[L9,Bool.not_true,cond_false,lR]
 rfl
theorem L_ {B:List Row} (hB:Good B) {c:Change} (hc:ig c=0) (hf:oA B c=true):ip B (lL B c)=(jt (tm c) (uu c)).toList:=by
 have:=Oe hB (tP hB hc) (k0:=ck c) λk hk=>by rw[CE hB hc,if_neg hk]
 rw[this,CE hB hc,if_pos rfl,(CF hB hc).1 hf]
theorem xP {c:Change} (hc:ig c=0) (h:¬ (c.1=true/\c.2.2.1=true/\Ty.eq aE c.2.1 c.2.2.2.1=true)):jt (tm c) (uu c)=some (xO c):=by
 obtain ⟨c1,cb,c2,ca,⟨⟩⟩:=c
 cases c1 <;> cases c2
 ·exact absurd hc (show ¬ (1:Int)=0 by decide)
 ·rfl
 ·rfl
 ·show jt (some cb) (some ca)=some (true,cb,true,ca,())
  rw[yg,if_neg λe=>h ⟨rfl,rfl,e⟩]
theorem Ma {c:Change} (h1:c.1=true) (U:c.2.2.1=true) (h3:Ty.eq aE c.2.1 c.2.2.2.1=true):jt (tm c) (uu c)=none:=by
 unfold tm uu
 rw[h1,U,if_pos rfl,if_pos rfl,yg,if_pos h3]
theorem zr {B A:List Row} (hB:Good B) (hA:Good A) (h1:B.length<=60) (U:A.length<=60):je.aa (B,A,())=some (((0:Int),ip B A,()),()):=by
 have KF:∀ z:Row,cP z=0->rl z:=λz hz=>by
  have:=nA (qn hz).2.2.2
  unfold rl
  rw[aL]
  omega
 refine aj (k:=0) λk _=>(je.af k _).trans ?_
 unfold je.p
 simp only
 rw[yD B (by rw[aL];omega) (λz hz=>KF z (hB.2 z hz)),yD A (by rw[aL];omega) (λz hz=>KF z (hA.2 z hz)),AZ hB h1,AZ hA U]
 simp only[Option.bind_some]
 rw[BK B A (by omega) (by omega)]
 rfl
theorem IR (v:fB.Arg) (hv:JS fB.ps v):fB.aa v=some (true,()):=by
 obtain ⟨c,⟨⟩⟩:=v
 refine aj (k:=0) λk _=>(fB.af k _).trans ?_
 show fB.p _=_
 unfold fB.p
 rw[LS]
 dsimp -zeta only [Option.bind_some]
 by_cases hl:(1048576:Int) < (c.length:Int)
 ·rw[decide_eq_true hl,cond_true]
 rw[decide_eq_false hl,cond_false]
 obtain ⟨ps,d,e1,hs,hn,hd⟩:=IL c (by omega)
 obtain ⟨x,es,e2,hx,xe,he⟩:=Ff c (by omega)
 have hP:=tU hs
 rw[e1]
 dsimp -zeta only [Option.bind_some]
 rw[FZ hP hd]
 dsimp -zeta only [Option.bind_some]
 by_cases h0:(nZ ps d).1=0
 rotate_left
 ·rw[decide_eq_false h0,Bool.not_false,cond_true,FY hP hd,Option.bind_some,decide_eq_true rfl]
 rw[decide_eq_true h0,Bool.not_true,cond_false]
 obtain ⟨wV,hc⟩:=CG h0
 have hf:=KK h0
 obtain ⟨w,f1,f2,f3⟩:=Of wV hc h0
 obtain ⟨v1,v2⟩:=Kq wV hc h0
 rw[f1] at v1 v2
 have v1:a7 w.1=0:=v1
 have v2:aq w.1=lL (aq ps) d:=v2
 have hB:=wy ps hP
 rw[if_pos wV] at hB
 have hA:=wy w.1 (KB v1)
 rw[if_pos v1] at hA
 have hg:=nC wV
 have hlen:=hn wV
 have Mh:(aq w.1).length<=41:=by rw[v2];have:=Ey (aq ps) d;omega
 have hM:ip (aq ps) (aq w.1)=(jt (tm d) (uu d)).toList:=by rw[v2];exact L_ hg hc hf
 rw[hB,f1]
 dsimp -zeta only [Option.bind_some]
 rw[hA]
 dsimp -zeta only [Option.bind_some]
 rw[zr hg (nC v1) (by omega) (by omega),Option.bind_some,hM]
 have hR:=jV wV
 have SM:aV.aa (ps,w.2.1,())=some (((0:Int),w.2.1,w.1,()),()):=by
  have:=CT (IB hR.1) (show List.length w.2.1<=1000 by have:List.length w.2.1<=40:=f2.el;omega) f3.ed
  rw[f3.at_] at this
  exact this
 have WH:=(jV v1).1.1
 extract_lets wt
 have hj:∀ b:Bool,(b=true->jt (tm d) (uu d)=none)->(b=false->jt (tm d) (uu d)=some (xO d))->wt b=some (true,()):=λb I4 Ox=>by
  dsimp -zeta only [wt]
  have Af:KJ x:=⟨by omega,hx⟩
  rw[e2]
  simp only[Option.bind_some]
  rw[CU Af xe he,CV Af xe he]
  simp only[Option.bind_some]
  simp only[decide_true,Bool.not_true,cond_false,cond_true]
  rw[wb _ _ (IQ xe he.1)]
  simp only[Option.bind_some,decide_true,Bool.not_true,cond_false]
  cases b with
  | true=>
   rw[cond_true,I4 rfl]
   show (bif decide (((0:Nat):Int)=0) then _ else _)=_
   rw[decide_eq_true (show ((0:Nat):Int)=0 from rfl),cond_true,SM]
   simp only[Option.bind_some]
   rw[wb _ _ (by omega),Option.bind_some,decide_eq_true rfl]
  | false=>
   rw[cond_false,Bool.not_false,cond_true,IP,Option.bind_some,Ox rfl]
   show ((fA.aa ([xO d],[xO d],())).bind _)=_
   rw[CW]
   simp only[Option.bind_some,cond_true]
   rw[SM]
   simp only[Option.bind_some]
   rw[wb _ _ (by omega),Option.bind_some,decide_eq_true rfl]
 clear_value wt
 cases h1:d.1 with
 | false=>exact hj false (λh=>by cases h) λ_=>xP hc λh=>by rw[h1] at h;cases h.1
 | true=>
  cases U:d.2.2.1 with
  | false=>exact hj false (λh=>by cases h) λ_=>xP hc λh=>by rw[U] at h;cases h.2.1
  | true=>exact hj _ (λh=>Ma h1 U h) λh=>xP hc λg=>by rw[g.2.2] at h;cases h
end OT
