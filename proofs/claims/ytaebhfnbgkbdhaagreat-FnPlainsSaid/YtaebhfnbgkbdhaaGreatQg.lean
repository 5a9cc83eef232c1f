/- The proof's parts, merged: FnPlains  the law.. No conditions but those that each states. -/
import Derived.Test.YtaebhfnbgkbdhaaGreatQf
set_option linter.unusedVariables false
set_option linter.unusedSimpArgs false
set_option linter.unusedSectionVars false
namespace OT
open Go
theorem Jz {p:Plain} {o:Op} {v:Int} {q:Plain} (hs:iJ p o v q):(o.1=7->q.1=p.1)/\(o.1=7\/o.1=8->List.length q.2.1+1=List.length p.2.1)/\(o.1=1->List.length q.2.1=List.length p.2.1+1)/\p.2.2.1<=q.2.2.1:=by
 cases hs with
 | @oI rows ts n _ hk hn hl=>exact ⟨λ_=>rfl,λh=>by omega,λ_=>List.length_append,by show v<=v+1;omega⟩
 | yX hk=>exact ⟨λ_=>rfl,λh=>by omega,λh=>by omega,Int.le_refl _⟩
 | u9 hk hj eA hm=>exact ⟨λh=>by omega,λh=>by omega,λh=>by omega,Int.le_refl _⟩
 | u_ hk hj eA HQ hm Co hb=>exact ⟨λh=>by omega,λh=>by omega,λh=>by omega,Int.le_refl _⟩
 | @pv rows ts n _ j hk hj eA=>exact ⟨λ_=>rfl,λ_=>by
   show (ts.take j++ts.drop (j+1)).length+1=ts.length
   rw[List.length_append,List.length_take,List.length_drop];omega,λh=>by omega,Int.le_refl _⟩
 | @rQ rows t ts n _ j hk hj eA hb=>exact ⟨λh=>by omega,λ_=>by
   show (ts.take j++ts.drop (j+1)).length+1=ts.length
   rw[List.length_append,List.length_take,List.length_drop];omega,λh=>by omega,Int.le_refl _⟩
 | sW hk hj eA hr ht=>have:=pw.1 hk;exact ⟨λh=>by omega,λh=>by omega,λh=>by omega,Int.le_refl _⟩
 | va hk hj eA ht=>have:=pw.1 hk;exact ⟨λh=>by omega,λh=>by omega,λh=>by omega,Int.le_refl _⟩
theorem LE {p:Plain} (h:bt p=0):(z7 p).length<=1000:=by
 have P:=aU h
 have T:=eo P.gb
 have h1:=(fL _ _ _ P.dP (Cw P.gb) (wD h)).2
 have h2:=z5 p.2.1 T.ng
 have h3:=T.len
 have h4:=P.len
 omega
theorem Dg (v:dy.Arg) (hv:G_ dy.ps v):dy.ab v=some (true,()):=by
 obtain ⟨c,⟨⟩⟩:=v
 refine ag (k:=0) λk _=>(dy.ae k _).trans ?_
 show dy.p _=_
 unfold dy.p
 rw[Jy]
 simp only[Option.bind_some]
 by_cases hl:(1048576:Int) < (c.length:Int)
 ·rw[decide_eq_true hl,cond_true]
 rw[decide_eq_false hl,cond_false]
 obtain ⟨p,o,e1,hp,ho⟩:=Ia c (by omega)
 have kh:=H8 ho
 rw[e1]
 simp only[Option.bind_some]
 by_cases h:bt p=0
 rotate_left
 ·obtain ⟨i1,i2⟩:=HC (o:=o) hp.1 h
  rw[i1,i2]
  simp only[Option.bind_some,h,decide_false,Bool.not_false,cond_true,decide_true]
 obtain ⟨R,⟨i1,i2⟩,hc⟩:=Jm hp.1 kh h
 rw[i1,i2]
 simp only[Option.bind_some]
 by_cases h0:R.1=0
 rotate_left
 ·simp only[h0,decide_false,Bool.not_false,cond_true,decide_true]
 obtain ⟨v,q,rfl,h2,hs⟩:=hc h0
 have hq:=ls h hs
 have oq:=sX hp.1 h hs
 obtain ⟨l1,l2,l3,l4⟩:=Jz hs
 have KN:=(eo (aU hq).gb).len
 have T7:=(eo (aU h).gb).len
 rw[vM p hp.1,vM q oq,kX q oq,Cz h,Cz hq,hq]
 simp only[Option.bind_some,decide_true,Bool.not_true,cond_false]
 by_cases h7:o.1=7
 ·rw[decide_eq_true h7,cond_true,l1 h7,zZ _ _ (by have:=(aU h).len;omega)]
  have:=l2 (.inl h7)
  simp only[Option.bind_some,decide_true,cond_true]
  rw[ct (by omega),decide_eq_true (by omega)]
 ·rw[decide_eq_false h7,cond_false,Jx h hs h7,zZ _ _ (LE h)]
  simp only[Option.bind_some,decide_true,cond_true,l4]
  by_cases h8:o.1=8
  ·have:=l2 (.inr h8)
   simp only[h8,decide_true,Bool.not_true,cond_false]
   rw[show al ((List.length p.2.1:Int) - 1)=(List.length p.2.1:Int) - 1 from ct (by omega),decide_eq_true (by omega),cond_true]
   rfl
  ·by_cases h1:o.1=1
   ·have:=l3 h1
    simp only[h1,show ¬ (1:Int)=8 by decide,decide_true,decide_false,Bool.not_true,Bool.not_false,cond_false,cond_true]
    rw[show al ((List.length p.2.1:Int)+1)=(List.length p.2.1:Int)+1 from ct (by omega),decide_eq_true (by omega)]
   ·simp only[h8,h1,decide_false,Bool.not_false,cond_true]
end OT
