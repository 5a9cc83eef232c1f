/- The proof's parts, merged: slices.SortFunc at simple structs, by the kit s contract at whatever length  what it computes, as a contract of this framework.. No conditions but those that each states. -/
import Derived.Test.YtaebhfnbgkbdhaaGreatRc
import Derived.Shelf.SlSortCmp.NoneTotal
import Derived.Test.YtaebhfnbgkbdhaaGreatProg
import Derived.KernelRfl
set_option linter.unusedVariables false
set_option linter.unusedSimpArgs false
namespace OT
open Go Go.Sort
instance U5 (e:Ty):Inhabited e.den:=⟨e.zero⟩
noncomputable def rH (e:Ty) (cs:e.den×e.den×Unit->Option (Int×Unit)) (v:List e.den):Option (List e.den):=open Classical in
 if List.length v<=cJ then (if h:∃ cf:e.den->e.den->Int,(∀ x y,cs (x,y,())=some (cf x y,()))/\SWO (Go.Proofs.ltOf cf) then some (pdq (Go.Proofs.ltOf h.choose) v.toArray 0 v.toArray.size (Lib.bitLen v.toArray.size) true true).toList else none) else none
theorem Eo {e:Ty} {cs:e.den×e.den×Unit->Option (Int×Unit)} {cf:e.den->e.den->Int} (h1:∀ x y,cs (x,y,())=some (cf x y,())) (U:SWO (Go.Proofs.ltOf cf)) (v:List e.den) (hl:List.length v<=cJ):rH e cs v=some (pdq (Go.Proofs.ltOf cf) v.toArray 0 v.toArray.size (Lib.bitLen v.toArray.size) true true).toList:=by
 have hex:∃ cf:e.den->e.den->Int,(∀ x y,cs (x,y,())=some (cf x y,()))/\SWO (Go.Proofs.ltOf cf):=⟨cf,h1,U⟩
 have he:hex.choose=cf:=by
  grind
 grind [rH]
theorem HT {e:Ty} {cs:e.den×e.den×Unit->Option (Int×Unit)} {v r:List e.den} (h:rH e cs v=some r):∃ cf:e.den->e.den->Int,(∀ x y,cs (x,y,())=some (cf x y,()))/\SWO (Go.Proofs.ltOf cf)/\List.length v<=cJ/\r=(pdq (Go.Proofs.ltOf cf) v.toArray 0 v.toArray.size (Lib.bitLen v.toArray.size) true true).toList:=by
 grind [Eo,rH]
theorem Ep {α:Type} [Inhabited α] {lt:α->α->Bool} (h:SWO lt) (v:List α):(pdq lt v.toArray 0 v.toArray.size (Lib.bitLen v.toArray.size) true true).toList.Perm v/\(pdq lt v.toArray 0 v.toArray.size (Lib.bitLen v.toArray.size) true true).toList.Pairwise λx y=>lt y x=false:=by
 have hs:=pdq_sorts lt h v.toArray 0 v.toArray.size (Lib.bitLen v.toArray.size) true true (Nat.zero_le _) (Nat.le_refl _) (Or.inl rfl)
 generalize pdq lt v.toArray 0 v.toArray.size (Lib.bitLen v.toArray.size) true true=p at hs ⊢
 obtain ⟨⟨h1,U,h3⟩,h4⟩:=hs
 refine ⟨?_,?_⟩
 ·grind [Array.extract_size]
 ·rw[List.pairwise_iff_getElem]
  intro i j hi hj ng
  have rt:j < p.size:=by simpa using hj
  have:=h4 i j (Nat.zero_le _) ng (by omega)
  grind
section
variable {P:Program}
theorem Li {w w':World} (h:Ext w w' (λ_ _=>0)):∃ q os,w'=grow (w.drewN q) os:=by
 refine ⟨w'.drawn - w.drawn,w'.heap.extract w.heap.size w'.heap.size,?_⟩
 have hh:w'.heap=w.heap++w'.heap.extract w.heap.size w'.heap.size:=by
  apply Array.ext_getElem?
  intro i
  by_cases hi:i < w.heap.size
  ·rw[h.obj i hi λ_=>rfl,Array.getElem?_append_left hi]
  grind
 have h1:=h.os
 have U:=h.tape
 have h3:=h.output
 have h4:=h.drawn
 cases w with
 | mk heap tape drawn os output=>
  cases w' <;> grind [grow,World.drewN,World.mk.injEq]
theorem Ll {α:Type} [Inhabited α] {enc:α->List Value} {k b m:Nat} {dk:Array α} {os:Array Obj} {w:World} {F0:FP} (h:ox P w F0) (hb:1<=F0 b 0):ox P (Go.Proofs.sortWorldK enc k w b 0 m dk os) λ_ _=>0:=λe=>by
 obtain ⟨⟨w0,g,hw⟩,hs,hf⟩:=h e
 grind [Go.Proofs.sortWorldK,grow,Go.Sort.putRowK,Go.Sort.putRow,Go.Sort.mapBlock,Go.Sort.ahead]
theorem Lm {e:Ty} (hs:px e=true) (ha:isAgg e=true) {g:Nat} {cF:e.den×e.den×Unit->Option (Int×Unit)} (hg:Sound P g { ps:=[(.ro,e),(.ro,e)],rs:=[(.int .i64,aw (.int .i64))],F:=cF }) {cf:e.den->e.den->Int} (hc:∀ x y,cF (x,y,())=some (cf x y,())) (b size:Nat) (w:World) (ht:∀ m dk os,ox P (Go.Proofs.sortWorldK (jO e) e.sz w b 0 m dk os) λ_ _=>0):Go.Proofs.CmpLays P g #[] (jO e) e.sz cf b 0 size w:=by
 intro m os dk _ x y
 have fX:iN P (Go.Proofs.sortWorldK (jO e) e.sz w b 0 m dk os) (λ_ _=>False) DV [(.ro,e),(.ro,e)] (x,y,()) [.agg (jO e x).toArray,.agg (jO e y).toArray] (λ_ _=>0):=
  ⟨_,_,λ_ _=>0,λ_ _=>0,rfl,λ_ _=>Nat.le_refl _,⟨jO e x,by simp[bq,ha],oh e hs x⟩,_,_,λ_ _=>0,λ_ _=>0,rfl,λ_ _=>Nat.le_refl _,⟨jO e y,by simp[bq,ha],oh e hs y⟩,rfl⟩
 refine (hg _ (λ_ _=>False) (λ_ _=>0) (x,y,()) _ fX (λ_ _=>Nat.zero_le _) (λ_ _ h=>by omega) (λ_ _ h=>by grind) (ht _ _ _) (cf x y,()) (hc x y)).mono ?_
 rintro ex w' ⟨rv,rfl,cr,A',G,GR,GM,_,_,_,_,_,_,_,mR,_⟩
 obtain ⟨cs,h1,U⟩:=mR
 refine ⟨?_,Li cr⟩
 have U:cs=[.int .i64 (cf x y)]:=U
 rw[h1,U]
 rfl
theorem N7 {ρ:Go.Shelf.Ren} (L:Go.Proofs.SlLaysF0.n6 P ρ) {e:Ty} (hs:px e=true) (ha:isAgg e=true) (hl:aC P e (.inl (ρ.t 24))=true) (h1:1<=e.sz) {g:Nat} {cF:e.den×e.den×Unit->Option (Int×Unit)}
  (hg:Ok P g { ps:=[(.ro,e),(.ro,e)],rs:=[(.int .i64,aw (.int .i64))],F:=cF }) (he:oO P (ρ.f 6) false) :
  Ok P (ρ.f 6) { ps:=[(.gj (ak (.ae e)),.ae e),(.fix g,.fn)],rs:=[],F:=λv=>(rH e cF v.1).map λr=>(r,()) }:=by
 refine ⟨?_,he⟩
 intro w A F0 v xs fX hle va Tg El out mh
 obtain ⟨vs,⟨fg,fv⟩,⟨⟩⟩:=v
 obtain ⟨x,Jv,F1,F2,rfl,hF,⟨cs,rfl,dw⟩,x2,Th,F3,F4,rfl,wo,⟨⟨bA,rfl,MY⟩,Ti⟩,Bq⟩:=fX
 have Bq:Th=[]:=Bq
 subst Bq
 have U6:fg=g:=Ti rfl
 subst U6
 obtain ⟨qY,rfl,fn,Wv,Ww⟩:=MY
 have QO:qY=#[]:=by
  obtain ⟨Ux,k1,_,_,k4⟩:=hg.2
  grind
 subst QO
 have D4:bq .fn [.func (.func fg) #[] #[]]=.func (.func fg) #[] #[]:=rfl
 have mh:(rH e cF vs).map (λr=>(r,()))=some out:=mh
 cases MZ:rH e cF vs with
 | none=>grind
 | some r=>
 rw[MZ] at mh
 injection mh with mh
 subst mh
 obtain ⟨cf,hc,hO,jF,hr⟩:=HT MZ
 have HU:=Ep hO vs
 rw[<-hr] at HU
 have Mo:=dw
 simp only[ah,hole,List.any_nil,Bool.false_eq_true,if_false,ak,m_,Md.own,if_true] at dw
 obtain ⟨xa,cap,rfl,g2,g3,g4,g5⟩:=dw
 have zR:bq (.ae e) [.slice xa (List.length vs) cap]=.slice xa (List.length vs) cap:=rfl
 rw[D4,zR]
 have Ln:∀ (w':World) (M0:FP),Ext w w' F0->(∀ b i,M0 b i<=F1 b i)->ah P w' A (.ae e) (ak (.ae e)) [] r [.slice xa (List.length vs) cap] M0 ->
   ∃ rv,Ending.returned (.tuple #[])=.returned rv/\Ext w w' F0/\∃ (A':Cells) (G GR GM:FP),(∀ b i,A b i->A' b i)/\(∀ b i,A' b i->A b i\/1<=F0 b i\/w.heap.size<=b)/\(∀ b i,1<=G b i->1<=F0 b i\/w.heap.size<=b)/\(∀ b i,G b i<=1)/\(∀ b i,1<=G b i->¬ A' b i)/\(∀ b i,1<=G b i\/A' b i->b < w'.heap.size)/\(∀ b i,GR b i+GM b i<=G b i) /\
   gL P w' A' [] rv GR/\iP P w' A' [(.gj (ak (.ae e)),.ae e),(.fix fg,.fn)] (r,()) [.slice xa (List.length vs) cap,.func (.func fg) #[] #[]] GM:=λw' M0 cr RI Pr=>
  ⟨_,rfl,cr,A,F0,λ_ _=>0,F0,λ_ _ h=>h,λ_ _ h=>.inl h,λ_ _ h=>.inl h,hle,va,λb i h=>Nat.lt_of_lt_of_le (Tg b i h) cr.size,λb i=>by grind,trivial,M0,F2,λb i=>by grind,⟨_,rfl,Pr⟩,trivial⟩
 by_cases h0:List.length vs=0
 ·have Xc:vs=[]:=List.eq_nil_of_length_eq_zero h0
  have Xd:r=[]:=by
   have:=HU.1.length_eq
   grind
  rw[h0]
  refine (Go.Proofs.AnyF.slices_SortFunc_none L xa cap (.func (.func fg) #[] #[]) w).mono ?_
  rintro ex w' ⟨rfl,hw⟩
  rw[hw]
  rw[h0] at Ln
  refine Ln w F1 (Ext.refl _ _) (λ_ _=>Nat.le_refl _) ?_
  grind
 ·cases xa with
  | none=>grind
  | some ad=>
   obtain ⟨q1,q2,q3,Fi,q4,q5⟩:=g5 ad rfl
   obtain ⟨b,off,sp⟩:=ad
   simp only at q1 q2 q3 q4 q5
   subst q1;subst q2
   obtain ⟨c,el,fr,c1,c2,c3,c4⟩:=q3
   have hb:=(Array.getElem?_eq_some_iff.1 c1).1
   have gn:vs.toArray.size=List.length vs:=by simp
   have Ps:List.length vs*e.sz<=cap*e.sz:=Nat.mul_le_mul_right _ g2
   have Bo:1<=List.length vs*e.sz:=Nat.mul_le_mul (show 1<=List.length vs by omega) h1
   have kZ:∀ (i:Nat) (y:e.den),vs[i]?=some y->Has w b (i*e.sz) (jO e y):=λi y hy=>by
    obtain ⟨L0,l1,l2,l3⟩:=q5 i y hy
    have:=Pq e hs (ah.flat e (Ci e hs) l3)
    grind
   have hH:Go.Sort.HoldsK (jO e) e.sz w b 0 vs.toArray:=by
    intro j hj
    rw[Go.Sort.size_flatK,gn] at hj
    rw[Nat.zero_add,Go.Sort.get_flatK _ _ _ _ (by grind)]
    have hi:j / e.sz < List.length vs:=by rw[Nat.div_lt_iff_lt_mul h1];exact hj
    have hy:=List.getElem?_eq_getElem hi
    have hm:=Nat.mod_lt j h1
    have kX:(jO e (vs[j / e.sz]))[j % e.sz]?=some ((jO e (vs[j / e.sz]))[j % e.sz]!):=by
     have hlen:=Ro.length e (oh (P:=P) (w:=w) (A:=A) e hs (vs[j / e.sz]))
     grind
    have Sg:=kZ _ _ hy _ _ kX
    have U7:j / e.sz*e.sz+j % e.sz=j:=by grind [Nat.div_add_mod]
    rw[U7] at Sg
    have jN:=Ro.one e (oh (P:=P) (w:=w) (A:=A) e hs (vs[j / e.sz])) _ (List.mem_of_getElem? kX)
    have Pt:=nG Sg jN
    refine ⟨?_,?_⟩
    ·grind
    ·simp only[World.frozen?,c1]
     have:=c3 j (by omega)
     grind
   have Ja:1<=F0 b 0:=by
    grind [bP]
   have Pu:=Go.Proofs.AnyQ.slices_SortFunc_eq L e.sz (λw=>by rw[wS hl,ha]) (λw=>run_sizeOf hl) (jO e) (λy=>Ro.length e (oh (P:=P) (w:=w) (A:=A) e hs y)) (λy u hu=>Ro.one e (oh (P:=P) (w:=w) (A:=A) e hs y) u hu) cf hO fg #[] b 0 cap vs.toArray w
    (λargs w=>wZ hg.2 args) (Lm hs ha hg.1 hc b _ w λm dk os=>Ll El Ja) hH hb (by grind [cJ])
   rw[gn] at Pu
   refine Pu.mono ?_
   rintro ex w' ⟨rfl,n,os,rfl⟩
   rw[gn] at hr
   have tG:(pdq (Go.Proofs.ltOf cf) vs.toArray 0 (List.length vs) (Lib.bitLen (List.length vs)) true true)=r.toArray:=by rw[hr]
   rw[tG]
   have rr:r.length=List.length vs:=HU.1.length_eq
   have hold:∀ b',b' < w.heap.size->b'≠b->(Go.Proofs.sortWorldK (jO e) e.sz w b 0 n r.toArray os).heap[b']?=w.heap[b']?:=λb' sB dI=>by
    grind [Go.Proofs.sortWorldK,grow,Go.Sort.putRowK,Go.Sort.putRow,Go.Sort.mapBlock,Go.Sort.ahead]
   have rg:(Go.Proofs.sortWorldK (jO e) e.sz w b 0 n r.toArray os).heap[b]?=some (.cells (Go.Sort.putCells id 0 (Go.Sort.flatK (jO e) e.sz r.toArray) c) el fr):=by
    simp only[Go.Proofs.sortWorldK,grow,Go.Sort.putRowK,Go.Sort.putRow,Go.Sort.mapBlock,Go.Sort.ahead]
    rw[Array.getElem?_append_left (by simpa using hb),Array.getElem?_modify,if_pos rfl,c1]
    rfl
   have mX:(Go.Sort.putCells id 0 (Go.Sort.flatK (jO e) e.sz r.toArray) c).size=c.size:=by simp[Go.Sort.putCells]
   have cr:Ext w (Go.Proofs.sortWorldK (jO e) e.sz w b 0 n r.toArray os) F0:=by
    have dj:∀ i,i < cap*e.sz->1<=F0 b i:=λi hi=>by
     grind [bP]
    refine ⟨?_,λb' i sB hz u hu=>?_,λb' m hm=>?_,λb' i sB=>?_,rfl,rfl,rfl,λb' sB hz=>?_,Nat.le_add_right _ _⟩
    ·grind
    ·by_cases BX:b'=b
     ·subst BX
      have hi:¬ i < cap*e.sz:=λhi=>by grind
      exfalso
      have:=Lh c1 hu
      grind
     grind [se]
    ·by_cases BX:b'=b
     ·subst BX
      obtain ⟨c',e',f',m1,m2,m3⟩:=hm
      rw[c1] at m1
      injection m1 with m1
      injection m1 with m1 m4 m5
      subst m1;subst m4;subst m5
      exact ⟨_,_,_,rg,by grind,m3⟩
     ·have sB:b' < w.heap.size:=hm.lt
      grind [pq]
    ·by_cases BX:b'=b
     ·grind [World.frozen?]
     grind [qw]
    grind
   refine Ln _ F1 cr (λ_ _=>Nat.le_refl _) ?_
   simp only[ah,hole,List.any_nil,Bool.false_eq_true,if_false,ak,m_,Md.own,if_true]
   refine ⟨some ⟨b,0,none⟩,cap,by rw[rr],by grind,g3,(λe=>by cases e),λad e2=>?_⟩
   injection e2 with e2
   subst e2
   refine ⟨rfl,rfl,⟨_,_,_,rg,by grind,c3,c4⟩,λ_ _ _=>0,λb' i=>?_,λi y hy=>?_⟩
   ·have h3:=q4 b' i
    have h4:aA (List.length r) (λ_ _ _=>0) b' i=0:=by
     generalize List.length r=nn
     induction nn <;> grind [aA]
    grind
   ·refine ⟨jO e y,Ro.length e (oh (P:=P) (w:=w) (A:=A) e hs y),λj u hu=>?_,?_⟩
    ·have hj:=(List.getElem?_eq_some_iff.1 hu).1
     have hlen:=Ro.length e (oh (P:=P) (w:=w) (A:=A) e hs y)
     have hi:=(List.getElem?_eq_some_iff.1 hy).1
     have ng:i*e.sz+j < r.length*e.sz:=by
      have:=Nat.mul_le_mul_right e.sz (show i+1<=r.length from hi)
      grind
     have hdiv:(i*e.sz+j) / e.sz=i:=(Go.Sort.blk_iff e.sz i _ h1).1 ⟨by omega,by omega⟩
     have Wx:(i*e.sz+j) % e.sz=j:=by grind [Nat.mod_eq_sub_div_mul]
     have pg:(Go.Sort.putCells id 0 (Go.Sort.flatK (jO e) e.sz r.toArray) c)[i*e.sz+j]?=some u:=by
      have av:i*e.sz+j < c.size:=by grind
      grind [Go.Sort.putCells,Go.Sort.size_flatK,Go.Sort.get_flatK]
     have jN:=Ro.one e (oh (P:=P) (w:=w) (A:=A) e hs y) _ (List.mem_of_getElem? hu)
     grind [FJ]
    grind [Ro.flat,Ci,oh]
end
end OT
set_option maxRecDepth 100000
set_option linter.unusedVariables false
namespace OT
open Go Go.Proofs.Tryz
abbrev aO:Type:=((List UInt8)×Int×Unit)
abbrev bH:Ty:=(bK [(.ae u8),i64])
abbrev Row:Type:=(Int×Int×Int×(List UInt8)×Unit)
abbrev aE:Ty:=(bK [i64,i64,i64,.str])
abbrev Change:Type:=(Bool×Row×Bool×Row×Unit)
abbrev cX:Ty:=(bK [.bool,aE,.bool,aE])
abbrev Key:Type:=(Int×Int×Unit)
abbrev Tj:Ty:=(bK [i64,i64])
abbrev Tx:Type:=(Int×(List Change)×(List Int)×(List Key)×Unit)
abbrev Sh:Ty:=(bK [i64,(.ae cX),(.ae i64),(.ae Tj)])
abbrev Plain:Type:=((List Row)×(List Tx)×Int×Unit)
abbrev JU:Ty:=(bK [(.ae aE),(.ae Sh),i64])
abbrev Qu:Type:=(Int×Int×Plain×Unit)
abbrev Pv:Ty:=(bK [i64,i64,JU])
abbrev py:Type:=(Int×Bool×Change×Unit)
abbrev Og:Ty:=(bK [i64,.bool,cX])
abbrev Op:Type:=(Int×Int×Row×Int×Unit)
abbrev Xe:Ty:=(bK [i64,i64,aE,i64])
abbrev Si:Type:=(Int×(List Int)×(List Int)×Plain×Unit)
abbrev QP:Ty:=(bK [i64,(.ae i64),(.ae i64),JU])
abbrev HV:Type:=(Int×(List Row)×Unit)
abbrev ug:Ty:=(bK [i64,(.ae aE)])
abbrev Sj:Type:=(Int×(List Tx)×Unit)
abbrev QQ:Ty:=(bK [i64,(.ae Sh)])
abbrev k8:Type:=(Int×Int×Int×Int×Row×Unit)
abbrev j0:Ty:=(bK [i64,i64,i64,i64,aE])
abbrev ai:Type:=(Int×Int×k8×Unit)
abbrev cE:Ty:=(bK [i64,i64,j0])
abbrev bW:Type:=(Int×(List UInt8)×Unit)
abbrev k9:Ty:=(bK [i64,(.ae u8)])
abbrev bI:Type:=(Int×(List bW)×(List (List UInt8))×Unit)
abbrev bd:Ty:=(bK [i64,(.ae k9),(.ae (.ae u8))])
abbrev am:Type:=((List (List UInt8))×(List bW)×Unit)
abbrev bc:Ty:=(bK [(.ae (.ae u8)),(.ae k9)])
abbrev Seen:Type:=(Row×Int×Int×Bool×Int×Int×Unit)
abbrev ct:Ty:=(bK [aE,i64,i64,.bool,i64,i64])
abbrev pz:Type:=(Int×Int×(List UInt8)×Unit)
abbrev eX:Ty:=(bK [i64,i64,(.ae u8)])
abbrev CO:Type:=(Int×(List Change)×Unit)
abbrev qf:Ty:=(bK [i64,(.ae cX)])
noncomputable def bi:TL:=[(22,(.ae u8)),(29,aE),(2,i64),(43,(.ae (.ae u8))),(5,u8),(3,i64),(50,bd),(182,j0),(45,cX),(4,.bool),(9,.str),(24,(.ae aE)),(184,cE),(48,(.ae k9)),(247,eX),(114,ct),(196,bc),(282,bc),(133,k9),(179,(.ae cE)),(53,(.ae cX)),(73,(.ae i64)),(105,(.ae ct)),(140,bH),(177,(.ae .str)),(38,ug),(55,qf),(238,(.arr 64 .bool)),(239,(.int .u64)),(240,(.map (.arr 2 i64) aE)),(241,(.arr 2 i64)),(243,(.map (.arr 2 i64) .bool))]
theorem aI:(HS prog bi&&C8 prog bi)=true:=by kernel_rfl
namespace nM
abbrev Arg:Type:=(List UInt8)×Unit
abbrev Out:Type:=Bool×Unit
abbrev ps:PQ:=[(.ro,(.ae u8))]
noncomputable def D:FD:={ fn:=f6,tl:=bi,ps:=ps,rs:=[(.bool,(aw .bool))] }
noncomputable def aa (a:Arg):Option Out:=@lift Out λk=>D.W k a
noncomputable def p (J:Arg):Option Out:=some (decide ((1048576:Int) < (J.1.length:Int)),())
theorem af (k:Nat) (J:Arg):@Eq (Option Out) (D.W k J) (p J):=by kernel_rfl
theorem ok:Ok prog 6 D.sig:=ay func6 aI (by kernel_rfl) (an _)
end nM
namespace fT
abbrev Arg:Type:=(List UInt8)×Unit
abbrev Out:Type:=aO×Unit
abbrev ps:PQ:=[(.ro,(.ae u8))]
noncomputable def D:FD:={ fn:=f25,tl:=bi,ps:=ps,rs:=[((.ptr bH),(.ptr true (aw bH)))] }
noncomputable def aa (a:Arg):Option Out:=@lift Out λk=>D.W k a
noncomputable def p (J:Arg):Option Out:=some ((J.1,(0:Int),()),())
theorem af (k:Nat) (J:Arg):@Eq (Option Out) (D.W k J) (p J):=by kernel_rfl
theorem ok:Ok prog 25 D.sig:=ay func25 aI (by kernel_rfl) (an _)
end fT
namespace aB
abbrev Arg:Type:=aO×Int×Unit
abbrev Out:Type:=Int×aO×Unit
abbrev ps:PQ:=[(.cZ (aw bH) (aw bH),bH),(.ro,i64)]
noncomputable def D:FD:={ fn:=f51,tl:=bi,ps:=ps,rs:=[(i64,(aw i64))],es:=[0],od:=[(8,[0,1,2,3,4,5,6,7,8,9,10,11,12,13,14,15]),(10,[0,1,2,3,4,5,6,7,8,9,10,11,12,13,14,15,16,17])] }
noncomputable def aa (a:Arg):Option Out:=@lift Out λk=>D.W k a
noncomputable def p (J:Arg):Option Out:=bif decide (J.2.1 < (1:Int)) then (some ((0:Int),(J.1.1,ag (J.1.2.1+(1:Int)),J.1.2.2),())) else bif decide ((J.1.1.length:Int)=(0:Int)) then (if J.2.1=0 then none else some ((ag ((ag ((ag (J.1.2.1+(1:Int))) - (1:Int)))*(7:Int))).tmod J.2.1,(J.1.1,ag (J.1.2.1+(1:Int)),J.1.2.2),())) else if (J.1.1.length:Int)=0 then none else if 0<=(ag ((ag (J.1.2.1+(1:Int))) - (1:Int))).tmod (J.1.1.length:Int) then ((J.1.1[((ag ((ag (J.1.2.1+(1:Int))) - (1:Int))).tmod (J.1.1.length:Int)).toNat]?).bind λx2=>if (J.1.1.length:Int)=0 then none else let j5:=λ(p4:Int)=>(if J.2.1=0 then none else some (p4.tmod J.2.1,(J.1.1,ag (J.1.2.1+(1:Int)),J.1.2.2),()):Option Out);bif decide ((200:Int) < J.2.1) then (if (J.1.1.length:Int)=0 then none else if 0<=(ag ((ag ((ag (J.1.2.1+(1:Int))) - (1:Int)))+(1:Int))).tmod (J.1.1.length:Int) then ((J.1.1[((ag ((ag ((ag (J.1.2.1+(1:Int))) - (1:Int)))+(1:Int))).tmod (J.1.1.length:Int)).toNat]?).bind λx3=>j5 (ag ((ag ((ag ((ag ((ag (x2.toNat:Int))+(ag ((ag ((ag ((ag (J.1.2.1+(1:Int))) - (1:Int))).tdiv (J.1.1.length:Int)))*(37:Int)))))*(251:Int)))+(ag ((ag (x3.toNat:Int))*(13:Int)))))+(ag ((ag (J.1.2.1+(1:Int))) - (1:Int)))))) else none) else j5 (ag ((ag (x2.toNat:Int))+(ag ((ag ((ag ((ag (J.1.2.1+(1:Int))) - (1:Int))).tdiv (J.1.1.length:Int)))*(37:Int)))))) else none
theorem af (k:Nat) (J:Arg):@Eq (Option Out) (D.W k J) (p J):=by kernel_rfl
theorem ok:Ok prog 51 D.sig:=ay func51 aI (by kernel_rfl) (an _)
end aB
namespace dm
abbrev Arg:Type:=aO×(List Int)×Unit
abbrev Out:Type:=Int×aO×Unit
abbrev ps:PQ:=[(.cZ (aw bH) (aw bH),bH),(.ro,(.ae i64))]
noncomputable def D:FD:={ fn:=f71,tl:=bi,ps:=ps,rs:=[(i64,(aw i64))],gl:=[(51,aB.D.sig)],es:=[0] }
noncomputable def aa (a:Arg):Option Out:=@lift Out λk=>D.W k a
noncomputable def p (J:Arg):Option Out:=(aB.aa (J.1,(J.2.1.length:Int),())).bind λr2=>if 0<=r2.1 then ((J.2.1[r2.1.toNat]?).bind λx3=>some (x3,r2.2.1,())) else none
theorem af (k:Nat) (J:Arg):@Eq (Option Out) (D.W k J) (p J):=by kernel_rfl
theorem ok:Ok prog 71 D.sig:=ay func71 aI (by kernel_rfl) (fc aB.ok (an _))
end dm
namespace dy
abbrev Arg:Type:=Int×Int×Int×Unit
abbrev Out:Type:=Bool×Unit
abbrev ps:PQ:=[(.ro,i64),(.ro,i64),(.ro,i64)]
noncomputable def D:FD:={ fn:=f76,tl:=bi,ps:=ps,rs:=[(.bool,(aw .bool))] }
noncomputable def aa (a:Arg):Option Out:=@lift Out λk=>D.W k a
noncomputable def p (J:Arg):Option Out:=bif decide (J.2.1<=J.1) then (some (decide (J.1<=J.2.2.1),())) else some (false,())
theorem af (k:Nat) (J:Arg):@Eq (Option Out) (D.W k J) (p J):=by kernel_rfl
theorem ok:Ok prog 76 D.sig:=ay func76 aI (by kernel_rfl) (an _)
end dy
namespace gM
abbrev Arg:Type:=(List UInt8)×Unit
abbrev Out:Type:=Bool×Unit
abbrev ps:PQ:=[(.ro,.str)]
noncomputable def D:FD:={ fn:=f185,tl:=bi,ps:=ps,rs:=[(.bool,(aw .bool))],lv:=[(2,[0,3])],lx:=[(0,[0])] }
noncomputable def aa (a:Arg):Option Out:=@lift Out λk=>D.W k a
noncomputable def T0 (J:Arg) (ab:Int):St:={ n:=23,sl:=[(0,.val .str J.1),(3,.val i64 ab)],vr:=[],aF:=[] }
noncomputable def b0 (self:Int->Option Out) (e0:(Unit)->Option Out) (J:Arg) (ab:Int):Option Out:=bif decide (ab < (J.1.length:Int)) then (if 0<=ab then ((J.1[ab.toNat]?).bind λeC=>bif decide ((eC.toNat:Int) < (97:Int)) then (some (false,())) else if 0<=ab then ((J.1[ab.toNat]?).bind λkB=>bif decide ((122:Int) < (kB.toNat:Int)) then (some (false,())) else self (ag (ab+(1:Int)))) else none) else none) else e0 ()
noncomputable abbrev B0 (_:Nat):=b0
noncomputable def q0 (J:Arg) (jP:(Unit)):Option Out:=some (decide ((J.1.length:Int)<=(8:Int)),())
noncomputable abbrev Q0 (_:Nat):=q0
noncomputable def s0 (k:Nat) (J:Arg):(Int)->Option Out:=λab=>D.L k [1,0,1,0,0] [0,3] [] (ap 0 (aU (D.N k [1,1]) D.K0)) (T0 J ab)
noncomputable def r0 (k:Nat) (J:Arg):(Int)->Option Out:=aD (λw v=>B0 k w (Q0 k J) J v) k
theorem aX (k:Nat) (J:Arg):s0 k J=r0 k J:=
 funext λab=>aR _ _ _ (T0 J) _ (λrec v=>by kernel_rfl) k ab
noncomputable def p (l0:(Int)->Option Out) (J:Arg):Option Out:=l0 (0:Int)
theorem af (k:Nat) (J:Arg):@Eq (Option Out) (D.W k J) (p (r0 k J) J):=
 Eq.trans (b:=p (s0 k J) J) (by kernel_rfl) (by rw[aX])
theorem ok:Ok prog 185 D.sig:=ay func185 aI (by kernel_rfl) (an _)
end gM
namespace dz
abbrev Arg:Type:=Row×Unit
abbrev Out:Type:=Int×Unit
abbrev ps:PQ:=[(.ro,(.ptr aE))]
noncomputable def D:FD:={ fn:=f136,tl:=bi,ps:=ps,rs:=[(i64,(aw i64))],gl:=[(76,dy.D.sig),(185,gM.D.sig)] }
noncomputable def aa (a:Arg):Option Out:=@lift Out λk=>D.W k a
noncomputable def p (J:Arg):Option Out:=(dy.aa (J.1.1,(0:Int),(3:Int),())).bind λr2=>bif !r2.1 then (some ((3:Int),())) else (dy.aa (J.1.2.1,(1:Int),(99:Int),())).bind λr3=>bif !r3.1 then (some ((3:Int),())) else (dy.aa (J.1.2.2.1,(0:Int),(999:Int),())).bind λr4=>bif !r4.1 then (some ((3:Int),())) else (gM.aa (J.1.2.2.2.1,())).bind λr5=>bif !r5.1 then (some ((5:Int),())) else some ((0:Int),())
theorem af (k:Nat) (J:Arg):@Eq (Option Out) (D.W k J) (p J):=by kernel_rfl
theorem ok:Ok prog 136 D.sig:=ay func136 aI (by kernel_rfl) (fc dy.ok (fc gM.ok (an _)))
end dz
namespace jG
abbrev Arg:Type:=Row×Row×Unit
abbrev Out:Type:=Bool×Unit
abbrev ps:PQ:=[(.ro,(.ptr aE)),(.ro,(.ptr aE))]
noncomputable def D:FD:={ fn:=f152,tl:=bi,ps:=ps,rs:=[(.bool,(aw .bool))],od:=[(1,[0,1,2,3,4,5,6,7,8,9,10,11,12,13,14,15,16,17,18,19,20,21,22,23,24,25,26,27,28,29,30,31])] }
noncomputable def aa (a:Arg):Option Out:=@lift Out λk=>D.W k a
noncomputable def p (J:Arg):Option Out:=bif decide (J.1.1 < J.2.1.1) then (some (true,())) else bif decide (J.1.1=J.2.1.1) then (some (decide (J.1.2.1 < J.2.1.2.1),())) else some (false,())
theorem af (k:Nat) (J:Arg):@Eq (Option Out) (D.W k J) (p J):=by kernel_rfl
theorem ok:Ok prog 152 D.sig:=ay func152 aI (by kernel_rfl) (an _)
end jG
namespace mi
abbrev Arg:Type:=Change×Unit
abbrev Out:Type:=Int×Int×Unit
abbrev ps:PQ:=[(.ro,(.ptr cX))]
noncomputable def D:FD:={ fn:=f137,tl:=bi,ps:=ps,rs:=[(i64,(aw i64)),(i64,(aw i64))],od:=[(2,[0,1,2,3,4,5,6,7,8,9,10,11]),(3,[0,1,2,3,4,5,6,7,8,9,10,11])] }
noncomputable def aa (a:Arg):Option Out:=@lift Out λk=>D.W k a
noncomputable def p (J:Arg):Option Out:=bif J.1.2.2.1 then (some (J.1.2.2.2.1.1,J.1.2.2.2.1.2.1,())) else some (J.1.2.1.1,J.1.2.1.2.1,())
theorem af (k:Nat) (J:Arg):@Eq (Option Out) (D.W k J) (p J):=by kernel_rfl
theorem ok:Ok prog 137 D.sig:=ay func137 aI (by kernel_rfl) (an _)
end mi
namespace iS
abbrev Arg:Type:=Change×Unit
abbrev Out:Type:=Int×Unit
abbrev ps:PQ:=[(.ro,(.ptr cX))]
noncomputable def D:FD:={ fn:=f65,tl:=bi,ps:=ps,rs:=[(i64,(aw i64))],gl:=[(136,dz.D.sig)],od:=[(1,[0,1,2,3,4,5,6,7,8,9,10,11,12,13,14,15,16,17,18,19,20,21,22,23,24,25,26,27,28,29,30,31,32,33,34,35,36,37,38,39,40,41,42,43,44,45,46,47,48,49])] }
noncomputable def aa (a:Arg):Option Out:=@lift Out λk=>D.W k a
noncomputable def p (J:Arg):Option Out:=let j5:Option Out:=bif J.1.1 then ((dz.aa (J.1.2.1,())).bind λr6=>bif !decide (r6.1=(0:Int)) then (some (r6.1,())) else bif J.1.2.2.1 then ((dz.aa (J.1.2.2.2.1,())).bind λr8=>some (r8.1,())) else some ((0:Int),())) else bif J.1.2.2.1 then ((dz.aa (J.1.2.2.2.1,())).bind λr9=>some (r9.1,())) else some ((0:Int),());bif !J.1.1 then (bif !J.1.2.2.1 then (some ((1:Int),())) else bif J.1.1 then (bif J.1.2.2.1 then (bif !decide (J.1.2.1.1=J.1.2.2.2.1.1) then (some ((1:Int),())) else bif !decide (J.1.2.1.2.1=J.1.2.2.2.1.2.1) then (some ((1:Int),())) else j5) else j5) else j5) else bif J.1.1 then (bif J.1.2.2.1 then (bif !decide (J.1.2.1.1=J.1.2.2.2.1.1) then (some ((1:Int),())) else bif !decide (J.1.2.1.2.1=J.1.2.2.2.1.2.1) then (some ((1:Int),())) else j5) else j5) else j5
theorem af (k:Nat) (J:Arg):@Eq (Option Out) (D.W k J) (p J):=by kernel_rfl
theorem ok:Ok prog 65 D.sig:=ay func65 aI (by kernel_rfl) (fc dz.ok (an _))
end iS
namespace eL
abbrev Arg:Type:=(List Row)×Int×Int×Unit
abbrev Out:Type:=Int×Unit
abbrev ps:PQ:=[(.ro,(.ae aE)),(.ro,i64),(.ro,i64)]
noncomputable def D:FD:={ fn:=f121,tl:=bi,ps:=ps,rs:=[(i64,(aw i64))],lv:=[(2,[0,1,2,7])],lx:=[(0,[])] }
noncomputable def aa (a:Arg):Option Out:=@lift Out λk=>D.W k a
noncomputable def T0 (J:Arg) (ab:Int):St:={ n:=31,sl:=[(0,.val (.ae aE) J.1),(1,.val i64 J.2.1),(2,.val i64 J.2.2.1),(7,.val i64 ab)],vr:=[],aF:=[] }
noncomputable def b0 (self:Int->Option Out) (e0:(Unit)->Option Out) (J:Arg) (ab:Int):Option Out:=bif decide (ab < (J.1.length:Int)) then (if 0<=ab then ((J.1[ab.toNat]?).bind λeC=>bif decide (eC.1=J.2.1) then (if 0<=ab then ((J.1[ab.toNat]?).bind λkB=>bif decide (kB.2.1=J.2.2.1) then (some (ab,())) else self (ag (ab+(1:Int)))) else none) else self (ag (ab+(1:Int)))) else none) else e0 ()
noncomputable abbrev B0 (_:Nat):=b0
noncomputable def q0 (J:Arg) (jP:(Unit)):Option Out:=some ((-1:Int),())
noncomputable abbrev Q0 (_:Nat):=q0
noncomputable def s0 (k:Nat) (J:Arg):(Int)->Option Out:=λab=>D.L k [1,0,1,0,0] [0,1,2,7] [] (ap 0 (aU (D.N k [1,1]) D.K0)) (T0 J ab)
noncomputable def r0 (k:Nat) (J:Arg):(Int)->Option Out:=aD (λw v=>B0 k w (Q0 k J) J v) k
theorem aX (k:Nat) (J:Arg):s0 k J=r0 k J:=
 funext λab=>aR _ _ _ (T0 J) _ (λrec v=>by kernel_rfl) k ab
noncomputable def p (l0:(Int)->Option Out) (J:Arg):Option Out:=l0 (0:Int)
theorem af (k:Nat) (J:Arg):@Eq (Option Out) (D.W k J) (p (r0 k J) J):=
 Eq.trans (b:=p (s0 k J) J) (by kernel_rfl) (by rw[aX])
theorem ok:Ok prog 121 D.sig:=ay func121 aI (by kernel_rfl) (an _)
end eL
namespace dD
abbrev Arg:Type:=(List Row)×Row×Unit
abbrev Out:Type:=(List Row)×Unit
abbrev ps:PQ:=[(.ro,(.ae aE)),(.ro,aE)]
noncomputable def D:FD:={ fn:=f122,tl:=bi,ps:=ps,rs:=[((.ae aE),(ak (.ae aE)))],gl:=[(152,jG.D.sig)],lv:=[(2,[0,3,5])],lx:=[(0,[0,3,5])],od:=[(5,[0,1,4,5,6,2,3,7,8])] }
noncomputable def aa (a:Arg):Option Out:=@lift Out λk=>D.W k a
noncomputable def T0 (J:Arg) (ab:Int):St:={ n:=32,sl:=[(0,.val (.ae aE) J.1),(3,.box aE (aw aE) [] J.2.1),(5,.val i64 ab)],vr:=[],aF:=[] }
noncomputable def b0 (self:Int->Option Out) (e0:Int->Option Out) (J:Arg) (ab:Int):Option Out:=bif decide (ab < (J.1.length:Int)) then (if 0<=ab then ((J.1[ab.toNat]?).bind λeC=>(jG.aa (eC,J.2.1,())).bind λft=>bif ft.1 then (self (ag (ab+(1:Int)))) else e0 ab) else none) else e0 ab
noncomputable abbrev B0 (_:Nat):=b0
noncomputable def q0 (J:Arg) (jP:Int):Option Out:=if 0<=jP/\jP<=(J.1.length:Int) then (if ([]:List Row).length+((J.1.take jP.toNat).drop 0).length<=cJ then (let Lo:=([]:List Row)++((J.1.take jP.toNat).drop 0);if 0<=jP/\jP<=(J.1.length:Int) then (if Lo.length+[J.2.1].length<=cJ then (if (Lo++[J.2.1]).length+((J.1.take J.1.length).drop jP.toNat).length<=cJ then (let Er:=(Lo++[J.2.1])++((J.1.take J.1.length).drop jP.toNat);some (Er,())) else none) else none) else none) else none) else none
noncomputable abbrev Q0 (_:Nat):=q0
noncomputable def s0 (k:Nat) (J:Arg):(Int)->Option Out:=λab=>D.L k [1,1,0,0,0] [0,3,5] [] (ap 0 (aU (D.N k [1,1,1]) D.K0)) (T0 J ab)
noncomputable def r0 (k:Nat) (J:Arg):(Int)->Option Out:=aD (λw v=>B0 k w (Q0 k J) J v) k
theorem aX (k:Nat) (J:Arg):s0 k J=r0 k J:=
 funext λab=>aR _ _ _ (T0 J) _ (λrec v=>by kernel_rfl) k ab
noncomputable def p (l0:(Int)->Option Out) (J:Arg):Option Out:=l0 (0:Int)
theorem af (k:Nat) (J:Arg):@Eq (Option Out) (D.W k J) (p (r0 k J) J):=
 Eq.trans (b:=p (s0 k J) J) (by kernel_rfl) (by rw[aX])
theorem ok:Ok prog 122 D.sig:=ay func122 aI (by kernel_rfl) (fc jG.ok (an _))
end dD
namespace bp
abbrev Arg:Type:=aO×Int×Unit
abbrev Out:Type:=Bool×aO×Unit
abbrev ps:PQ:=[(.cZ (aw bH) (aw bH),bH),(.ro,i64)]
noncomputable def D:FD:={ fn:=f27,tl:=bi,ps:=ps,rs:=[(.bool,(aw .bool))],gl:=[(51,aB.D.sig)],es:=[0] }
noncomputable def aa (a:Arg):Option Out:=@lift Out λk=>D.W k a
noncomputable def p (J:Arg):Option Out:=(aB.aa (J.1,J.2.1,())).bind λr2=>some (decide (r2.1=(0:Int)),r2.2.1,())
theorem af (k:Nat) (J:Arg):@Eq (Option Out) (D.W k J) (p J):=by kernel_rfl
theorem ok:Ok prog 27 D.sig:=ay func27 aI (by kernel_rfl) (fc aB.ok (an _))
end bp
namespace ep
abbrev Arg:Type:=aO×Unit
abbrev Out:Type:=Row×aO×Unit
abbrev ps:PQ:=[(.cZ (aw bH) (aw bH),bH)]
noncomputable def D:FD:={ fn:=f83,tl:=bi,ps:=ps,rs:=[(aE,(aw aE))],gl:=[(51,aB.D.sig),(71,dm.D.sig)],es:=[0] }
noncomputable def aa (a:Arg):Option Out:=@lift Out λk=>D.W k a
noncomputable def p (J:Arg):Option Out:=(aB.aa (J.1,(3:Int),())).bind λr2=>(aB.aa (r2.2.1,(6:Int),())).bind λr3=>(aB.aa (r3.2.1,(9:Int),())).bind λr4=>(dm.aa (r4.2.1,[r4.1,(300:Int),(999:Int)],())).bind λr5=>(aB.aa (r5.2.1,(4:Int),())).bind λr6=>if 0<=r6.1/\r6.1 < ([([]:List UInt8),([97]:List UInt8),([97,98,99]:List UInt8),([97,98,99,100,101,102,103,104]:List UInt8)].length:Int) then (([([]:List UInt8),([97]:List UInt8),([97,98,99]:List UInt8),([97,98,99,100,101,102,103,104]:List UInt8)][r6.1.toNat]?).bind λx7=>some ((r2.1,ag ((1:Int)+r3.1),r5.1,x7,()),r6.2.1,())) else none
theorem af (k:Nat) (J:Arg):@Eq (Option Out) (D.W k J) (p J):=by kernel_rfl
theorem ok:Ok prog 83 D.sig:=ay func83 aI (by kernel_rfl) (fc aB.ok (fc dm.ok (an _)))
end ep
namespace gx
abbrev Arg:Type:=aO×Unit
abbrev Out:Type:=Row×aO×Unit
abbrev ps:PQ:=[(.cZ (aw bH) (aw bH),bH)]
noncomputable def D:FD:={ fn:=f46,tl:=bi,ps:=ps,rs:=[(aE,(aw aE))],gl:=[(51,aB.D.sig),(71,dm.D.sig),(83,ep.D.sig)],es:=[0] }
noncomputable def aa (a:Arg):Option Out:=@lift Out λk=>D.W k a
noncomputable def p (J:Arg):Option Out:=(ep.aa (J.1,())).bind λr2=>(aB.aa (r2.2.1,(12:Int),())).bind λr3=>bif decide (r3.1=(0:Int)) then ((dm.aa (r3.2.1,[(-1:Int),(3:Int),(4:Int)],())).bind λr4=>some ((r4.1,r2.1.2),r4.2.1,())) else bif decide (r3.1=(1:Int)) then ((dm.aa (r3.2.1,[(0:Int),(99:Int),(100:Int)],())).bind λr5=>some ((r2.1.1,r5.1,r2.1.2.2),r5.2.1,())) else bif decide (r3.1=(2:Int)) then ((dm.aa (r3.2.1,[(-1:Int),(1000:Int)],())).bind λr6=>some ((r2.1.1,r2.1.2.1,r6.1,r2.1.2.2.2),r6.2.1,())) else bif decide (r3.1=(3:Int)) then ((aB.aa (r3.2.1,(3:Int),())).bind λr7=>if 0<=r7.1/\r7.1 < ([([65]:List UInt8),([97,98,99,100,101,102,103,104,105]:List UInt8),([97,32,98]:List UInt8)].length:Int) then (([([65]:List UInt8),([97,98,99,100,101,102,103,104,105]:List UInt8),([97,32,98]:List UInt8)][r7.1.toNat]?).bind λx8=>some ((r2.1.1,r2.1.2.1,r2.1.2.2.1,x8,r2.1.2.2.2.2),r7.2.1,())) else none) else some (r2.1,r3.2.1,())
theorem af (k:Nat) (J:Arg):@Eq (Option Out) (D.W k J) (p J):=by kernel_rfl
theorem ok:Ok prog 46 D.sig:=ay func46 aI (by kernel_rfl) (fc aB.ok (fc dm.ok (fc ep.ok (an _))))
end gx
namespace br
abbrev Arg:Type:=aO×Unit
abbrev Out:Type:=(List Row)×aO×Unit
abbrev ps:PQ:=[(.cZ (aw bH) (aw bH),bH)]
noncomputable def D:FD:={ fn:=f50,tl:=bi,ps:=ps,rs:=[((.ae aE),(ak (.ae aE)))],gl:=[(51,aB.D.sig),(83,ep.D.sig),(121,eL.D.sig),(122,dD.D.sig)],es:=[0],lv:=[(3,[0,3,4])],lx:=[(0,[0,3])] }
noncomputable def aa (a:Arg):Option Out:=@lift Out λk=>D.W k a
noncomputable def T0 (J:Arg) (aN:aO×(List Row)×Int):St:={ n:=26,sl:=[(0,.box bH (aw bH) [] aN.1),(3,.own (.ae aE) (ak (.ae aE)) [] aN.2.1),(4,.val i64 aN.2.2)],vr:=[],aF:=[(0,0,false)] }
noncomputable def b0 (self:(aO×(List Row)×Int)->Option Out) (e0:(aO×(List Row))->Option Out) (J:Arg) (aN:aO×(List Row)×Int):Option Out:=bif decide ((0:Int) < aN.2.2) then ((ep.aa (aN.1,())).bind λft=>(eL.aa (aN.2.1,ft.1.1,ft.1.2.1,())).bind λlS=>bif decide (lS.1 < (0:Int)) then ((dD.aa (aN.2.1,ft.1,())).bind λgN=>self (ft.2.1,gN.1,ag (aN.2.2 - (1:Int)))) else self (ft.2.1,aN.2.1,ag (aN.2.2 - (1:Int)))) else e0 (aN.1,aN.2.1)
noncomputable abbrev B0 (_:Nat):=b0
noncomputable def q0 (J:Arg) (mS:(aO×(List Row))):Option Out:=some (mS.2,mS.1,())
noncomputable abbrev Q0 (_:Nat):=q0
noncomputable def s0 (k:Nat) (J:Arg):(aO×(List Row)×Int)->Option Out:=λaN=>D.L k [1,1,0,1,0,0] [0,3,4] [] (ap 0 (aU (D.N k [1,1,1]) D.K0)) (T0 J aN)
noncomputable def r0 (k:Nat) (J:Arg):(aO×(List Row)×Int)->Option Out:=aD (λw v=>B0 k w (Q0 k J) J v) k
theorem aX (k:Nat) (J:Arg):s0 k J=r0 k J:=
 funext λaN=>aR _ _ _ (T0 J) _ (λrec v=>by kernel_rfl) k aN
noncomputable def p (l0:(aO×(List Row)×Int)->Option Out) (J:Arg):Option Out:=(aB.aa (J.1,(7:Int),())).bind λr2=>l0 (r2.2.1,([]:List Row),r2.1)
theorem af (k:Nat) (J:Arg):@Eq (Option Out) (D.W k J) (p (r0 k J) J):=
 Eq.trans (b:=p (s0 k J) J) (by kernel_rfl) (by rw[aX])
theorem ok:Ok prog 50 D.sig:=ay func50 aI (by kernel_rfl) (fc aB.ok (fc ep.ok (fc eL.ok (fc dD.ok (an _)))))
end br
namespace km
abbrev Arg:Type:=Int×Int×Int×Unit
abbrev Out:Type:=Bool×Unit
abbrev ps:PQ:=[(.ro,i64),(.ro,i64),(.ro,i64)]
noncomputable def D:FD:={ fn:=f43,tl:=bi,ps:=ps,rs:=[(.bool,(aw .bool))] }
noncomputable def aa (a:Arg):Option Out:=@lift Out λk=>D.W k a
noncomputable def p (J:Arg):Option Out:=bif decide (J.2.1<=J.1) then (some (decide (J.1<=J.2.2.1),())) else some (false,())
theorem af (k:Nat) (J:Arg):@Eq (Option Out) (D.W k J) (p J):=by kernel_rfl
theorem ok:Ok prog 43 D.sig:=ay func43 aI (by kernel_rfl) (an _)
end km
namespace bZ
abbrev Arg:Type:=Row×Unit
abbrev Out:Type:=Int×Unit
abbrev ps:PQ:=[(.ro,aE)]
noncomputable def D:FD:={ fn:=f111,tl:=bi,ps:=ps,rs:=[(i64,(aw i64))],gl:=[(43,km.D.sig)],lv:=[(6,[1,26,27])],lx:=[(0,[])] }
noncomputable def aa (a:Arg):Option Out:=@lift Out λk=>D.W k a
noncomputable def T0 (J:Arg) (aG:Int):St:={ n:=43,sl:=[(1,.box aE (aw aE) [] J.1),(26,.val i64 (J.1.2.2.2.1.length:Int)),(27,.val i64 aG)],vr:=[],aF:=[] }
noncomputable def b0 (self:Int->Option Out) (e0:(Unit)->Option Out) (J:Arg) (aG:Int):Option Out:=bif decide (aG < (J.1.2.2.2.1.length:Int)) then (if 0<=aG then ((J.1.2.2.2.1[aG.toNat]?).bind λsJ=>bif decide ((sJ.toNat:Int) < (97:Int)) then (some ((5:Int),())) else if 0<=aG then ((J.1.2.2.2.1[aG.toNat]?).bind λHW=>bif decide ((122:Int) < (HW.toNat:Int)) then (some ((5:Int),())) else self (ag (aG+(1:Int)))) else none) else none) else e0 ()
noncomputable abbrev B0 (_:Nat):=b0
noncomputable def q0 (J:Arg) (kC:(Unit)):Option Out:=some ((0:Int),())
noncomputable abbrev Q0 (_:Nat):=q0
noncomputable def s0 (k:Nat) (J:Arg):(Int)->Option Out:=λaG=>D.L k [1,1,1,0,1,0,0] [1,26,27] [] (ap 0 (aU (D.N k [1,1,1,1]) D.K0)) (T0 J aG)
noncomputable def r0 (k:Nat) (J:Arg):(Int)->Option Out:=aD (λw v=>B0 k w (Q0 k J) J v) k
theorem aX (k:Nat) (J:Arg):s0 k J=r0 k J:=
 funext λaG=>aR _ _ _ (T0 J) _ (λrec v=>by kernel_rfl) k aG
noncomputable def p (l0:(Int)->Option Out) (J:Arg):Option Out:=(km.aa (J.1.1,(0:Int),(3:Int),())).bind λr2=>bif !r2.1 then (some ((3:Int),())) else (km.aa (J.1.2.1,(1:Int),(99:Int),())).bind λr3=>bif !r3.1 then (some ((3:Int),())) else (km.aa (J.1.2.2.1,(0:Int),(999:Int),())).bind λr4=>bif !r4.1 then (some ((3:Int),())) else bif decide ((8:Int) < (J.1.2.2.2.1.length:Int)) then (some ((5:Int),())) else l0 (0:Int)
theorem af (k:Nat) (J:Arg):@Eq (Option Out) (D.W k J) (p (r0 k J) J):=
 Eq.trans (b:=p (s0 k J) J) (by kernel_rfl) (by rw[aX])
theorem ok:Ok prog 111 D.sig:=ay func111 aI (by kernel_rfl) (fc km.ok (an _))
end bZ
namespace dY
abbrev Arg:Type:=Row×Row×Unit
abbrev Out:Type:=Bool×Unit
abbrev ps:PQ:=[(.ro,aE),(.ro,aE)]
noncomputable def D:FD:={ fn:=f112,tl:=bi,ps:=ps,rs:=[(.bool,(aw .bool))] }
noncomputable def aa (a:Arg):Option Out:=@lift Out λk=>D.W k a
noncomputable def p (J:Arg):Option Out:=bif decide (J.1.1 < J.2.1.1) then (some (true,())) else bif decide (J.1.1=J.2.1.1) then (some (decide (J.1.2.1 < J.2.1.2.1),())) else some (false,())
theorem af (k:Nat) (J:Arg):@Eq (Option Out) (D.W k J) (p J):=by kernel_rfl
theorem ok:Ok prog 112 D.sig:=ay func112 aI (by kernel_rfl) (an _)
end dY
namespace df
abbrev Arg:Type:=(List Row)×Unit
abbrev Out:Type:=Int×Unit
abbrev ps:PQ:=[(.ro,(.ae aE))]
noncomputable def D:FD:={ fn:=f41,tl:=bi,ps:=ps,rs:=[(i64,(aw i64))],gl:=[(111,bZ.D.sig),(112,dY.D.sig)],lv:=[(4,[0,9,10,11])],lx:=[(0,[])],od:=[(9,[0,1,2,3,4,5,6,7,8,9,10,11])] }
noncomputable def aa (a:Arg):Option Out:=@lift Out λk=>D.W k a
noncomputable def T0 (J:Arg) (ab:Int):St:={ n:=34,sl:=[(0,.val (.ae aE) J.1),(9,.val (.ae aE) J.1),(10,.val i64 (J.1.length:Int)),(11,.val i64 ab)],vr:=[],aF:=[] }
noncomputable def b0 (self:Int->Option Out) (e0:(Unit)->Option Out) (J:Arg) (ab:Int):Option Out:=bif decide (ab < (J.1.length:Int)) then (if 0<=ab then ((J.1[ab.toNat]?).bind λeC=>(bZ.aa (eC,())).bind λft=>bif !decide (ft.1=(0:Int)) then (some (ft.1,())) else bif decide ((0:Int) < ab) then (if 0<=ag (ab - (1:Int)) then ((J.1[(ag (ab - (1:Int))).toNat]?).bind λfH=>(dY.aa (fH,eC,())).bind λgN=>bif !gN.1 then (some ((1:Int),())) else self (ag (ab+(1:Int)))) else none) else self (ag (ab+(1:Int)))) else none) else e0 ()
noncomputable abbrev B0 (_:Nat):=b0
noncomputable def q0 (J:Arg) (mS:(Unit)):Option Out:=some ((0:Int),())
noncomputable abbrev Q0 (_:Nat):=q0
noncomputable def s0 (k:Nat) (J:Arg):(Int)->Option Out:=λab=>D.L k [1,1,0,1,0,0] [0,9,10,11] [] (ap 0 (aU (D.N k [1,1,1]) D.K0)) (T0 J ab)
noncomputable def r0 (k:Nat) (J:Arg):(Int)->Option Out:=aD (λw v=>B0 k w (Q0 k J) J v) k
theorem aX (k:Nat) (J:Arg):s0 k J=r0 k J:=
 funext λab=>aR _ _ _ (T0 J) _ (λrec v=>by kernel_rfl) k ab
noncomputable def p (l0:(Int)->Option Out) (J:Arg):Option Out:=bif decide ((60:Int) < (J.1.length:Int)) then (some ((2:Int),())) else l0 (0:Int)
theorem af (k:Nat) (J:Arg):@Eq (Option Out) (D.W k J) (p (r0 k J) J):=
 Eq.trans (b:=p (s0 k J) J) (by kernel_rfl) (by rw[aX])
theorem ok:Ok prog 41 D.sig:=ay func41 aI (by kernel_rfl) (fc bZ.ok (fc dY.ok (an _)))
end df
namespace ej
abbrev Arg:Type:=Row×Row×Unit
abbrev Out:Type:=Int×Unit
abbrev ps:PQ:=[(.ro,aE),(.ro,aE)]
noncomputable def D:FD:={ fn:=f129,tl:=bi,ps:=ps,rs:=[(i64,(aw i64))],gl:=[(112,dY.D.sig)] }
noncomputable def aa (a:Arg):Option Out:=@lift Out λk=>D.W k a
noncomputable def p (J:Arg):Option Out:=(dY.aa (J.1,J.2.1,())).bind λr2=>bif r2.1 then (some ((-1:Int),())) else (dY.aa (J.2.1,J.1,())).bind λr3=>bif r3.1 then (some ((1:Int),())) else some ((0:Int),())
theorem af (k:Nat) (J:Arg):@Eq (Option Out) (D.W k J) (p J):=by kernel_rfl
theorem ok:Ok prog 129 D.sig:=ay func129 aI (by kernel_rfl) (fc dY.ok (an _))
end ej
namespace gt
abbrev Arg:Type:=Change×Unit
abbrev Out:Type:=Int×Unit
abbrev ps:PQ:=[(.ro,cX)]
noncomputable def D:FD:={ fn:=f53,tl:=bi,ps:=ps,rs:=[(i64,(aw i64))],gl:=[(111,bZ.D.sig),(129,ej.D.sig)] }
noncomputable def aa (a:Arg):Option Out:=@lift Out λk=>D.W k a
noncomputable def p (J:Arg):Option Out:=let j7:Option Out:=bif J.1.1 then ((bZ.aa (J.1.2.1,())).bind λr8=>bif !decide (r8.1=(0:Int)) then (some (r8.1,())) else bif J.1.2.2.1 then ((bZ.aa (J.1.2.2.2.1,())).bind λpA=>some (pA.1,())) else some ((0:Int),())) else bif J.1.2.2.1 then ((bZ.aa (J.1.2.2.2.1,())).bind λk_=>some (k_.1,())) else some ((0:Int),());bif !J.1.1 then (bif !J.1.2.2.1 then (some ((1:Int),())) else bif J.1.1 then (bif J.1.2.2.1 then ((ej.aa (J.1.2.1,J.1.2.2.2.1,())).bind λr2=>bif !decide (r2.1=(0:Int)) then (some ((1:Int),())) else j7) else j7) else j7) else bif J.1.1 then (bif J.1.2.2.1 then ((ej.aa (J.1.2.1,J.1.2.2.2.1,())).bind λr3=>bif !decide (r3.1=(0:Int)) then (some ((1:Int),())) else j7) else j7) else j7
theorem af (k:Nat) (J:Arg):@Eq (Option Out) (D.W k J) (p J):=by kernel_rfl
theorem ok:Ok prog 53 D.sig:=ay func53 aI (by kernel_rfl) (fc bZ.ok (fc ej.ok (an _)))
end gt
namespace eM
abbrev Arg:Type:=Change×Unit
abbrev Out:Type:=Row×Unit
abbrev ps:PQ:=[(.ro,cX)]
noncomputable def D:FD:={ fn:=f58,tl:=bi,ps:=ps,rs:=[(aE,(aw aE))] }
noncomputable def aa (a:Arg):Option Out:=@lift Out λk=>D.W k a
noncomputable def p (J:Arg):Option Out:=bif J.1.2.2.1 then (some (J.1.2.2.2.1,())) else some (J.1.2.1,())
theorem af (k:Nat) (J:Arg):@Eq (Option Out) (D.W k J) (p J):=by kernel_rfl
theorem ok:Ok prog 58 D.sig:=ay func58 aI (by kernel_rfl) (an _)
end eM
namespace bf
abbrev Arg:Type:=(List Row)×Row×(Nat×Int)×Unit
abbrev Out:Type:=Int×Bool×Unit
abbrev ps:PQ:=[(.ro,(.ae aE)),(.ro,aE),(.fix 129,.fn)]
noncomputable def D:FD:={ fn:=f130,tl:=bi,ps:=ps,rs:=[(i64,(aw i64)),(.bool,(aw .bool))],gl:=[(129,ej.D.sig)],lv:=[(3,[0,2,4,8,9,10])],lx:=[(0,[0,2,4,8,9])],od:=[(5,[0,1,2,3,4,5,6,7]),(8,[0,1,2,3,4,5,6,7,8,9,10,11,12,13,14,15])] }
noncomputable def aa (a:Arg):Option Out:=@lift Out λk=>D.W k a
noncomputable def T0 (J:Arg) (ab:Int×Int):St:={ n:=49,sl:=[(0,.val (.ae aE) J.1),(2,.val .fn ((129,J.2.2.1.2):Nat×Int)),(4,.box aE (aw aE) [] J.2.1),(8,.val i64 (J.1.length:Int)),(9,.val i64 ab.1),(10,.val i64 ab.2)],vr:=[],aF:=[] }
noncomputable def b0 (self:(Int×Int)->Option Out) (e0:Int->Option Out) (J:Arg) (ab:Int×Int):Option Out:=bif decide (ab.1 < ab.2) then (if 0<=ag ((IntKind.wrap .u64 (ag (ab.1+ab.2))).fdiv (2 ^ 1)) then ((J.1[(ag ((IntKind.wrap .u64 (ag (ab.1+ab.2))).fdiv (2 ^ 1))).toNat]?).bind λeC=>(ej.aa (eC,J.2.1,())).bind λft=>bif decide (ft.1 < (0:Int)) then (self (ag ((ag ((IntKind.wrap .u64 (ag (ab.1+ab.2))).fdiv (2 ^ 1)))+(1:Int)),ab.2)) else self (ab.1,ag ((IntKind.wrap .u64 (ag (ab.1+ab.2))).fdiv (2 ^ 1)))) else none) else e0 ab.1
noncomputable abbrev B0 (_:Nat):=b0
noncomputable def q0 (J:Arg) (jP:Int):Option Out:=bif decide (jP < (J.1.length:Int)) then (if 0<=jP then ((J.1[jP.toNat]?).bind λsJ=>(ej.aa (sJ,J.2.1,())).bind λfu=>some (jP,decide (fu.1=(0:Int)),())) else none) else some (jP,false,())
noncomputable abbrev Q0 (_:Nat):=q0
noncomputable def s0 (k:Nat) (J:Arg):(Int×Int)->Option Out:=λab=>D.L k [1,1,1,0,0,0] [0,2,4,8,9,10] [] (ap 0 (aU (D.N k [1,1,1,1]) D.K0)) (T0 J ab)
noncomputable def r0 (k:Nat) (J:Arg):(Int×Int)->Option Out:=aD (λw v=>B0 k w (Q0 k J) J v) k
theorem aX (k:Nat) (J:Arg):s0 k J=r0 k J:=
 funext λab=>aR _ _ _ (T0 J) _ (λrec v=>by kernel_rfl) k ab
noncomputable def p (l0:(Int×Int)->Option Out) (J:Arg):Option Out:=l0 ((0:Int),(J.1.length:Int))
theorem af (k:Nat) (J:Arg):@Eq (Option Out) (D.W k J) (p (r0 k J) J):=
 Eq.trans (b:=p (s0 k J) J) (by kernel_rfl) (by rw[aX])
theorem ok:Ok prog 130 D.sig:=ay func130 aI (by kernel_rfl) (fc ej.ok (an _))
end bf
namespace gu
abbrev Arg:Type:=Change×(List Row)×Unit
abbrev Out:Type:=Bool×Unit
abbrev ps:PQ:=[(.ro,cX),(.ro,(.ae aE))]
noncomputable def D:FD:={ fn:=f54,tl:=bi,ps:=ps,rs:=[(.bool,(aw .bool))],gl:=[(58,eM.D.sig),(130,bf.D.sig)],od:=[(2,[0,1,2,3,4,5,6,7,8,9,10,11,12,13,14,15,16,17])] }
noncomputable def aa (a:Arg):Option Out:=@lift Out λk=>D.W k a
noncomputable def p (J:Arg):Option Out:=(eM.aa (J.1,())).bind λr2=>(bf.aa (J.2.1,r2.1,((129,0):Nat×Int),())).bind λr3=>bif (r3.2.1 == J.1.1) then (bif !r3.2.1 then (some (true,())) else if 0<=r3.1 then ((J.2.1[r3.1.toNat]?).bind λx4=>some ((Ty.eq aE x4 J.1.2.1),())) else none) else some (false,())
theorem af (k:Nat) (J:Arg):@Eq (Option Out) (D.W k J) (p J):=by kernel_rfl
theorem ok:Ok prog 54 D.sig:=ay func54 aI (by kernel_rfl) (fc eM.ok (fc bf.ok (an _)))
end gu
namespace bN
abbrev Arg:Type:=(List UInt8)×Unit
abbrev Out:Type:=(List UInt8)×Unit
abbrev ps:PQ:=[(.ro,(.ae u8))]
noncomputable def D:FD:={ fn:=f77,tl:=bi,ps:=ps,rs:=[((.ae u8),(ak (.ae u8)))] }
noncomputable def aa (a:Arg):Option Out:=@lift Out λk=>D.W k a
noncomputable def p (J:Arg):Option Out:=if ([]:List UInt8).length+J.1.length<=cJ then (some (([]:List UInt8)++J.1,())) else none
theorem af (k:Nat) (J:Arg):@Eq (Option Out) (D.W k J) (p J):=by kernel_rfl
theorem ok:Ok prog 77 D.sig:=ay func77 aI (by kernel_rfl) (an _)
end bN
namespace a_
abbrev Arg:Type:=(List UInt8)×Unit
abbrev Out:Type:=Int×Unit
abbrev ps:PQ:=[(.ro,(.ae u8))]
noncomputable def D:FD:={ fn:=f171,tl:=bi,ps:=ps,rs:=[(i64,(aw i64))] }
noncomputable def aa (a:Arg):Option Out:=@lift Out λk=>D.W k a
noncomputable def p (J:Arg):Option Out:=(J.1[0]?).bind λx2=>some (ag (x2.toNat:Int),())
theorem af (k:Nat) (J:Arg):@Eq (Option Out) (D.W k J) (p J):=by kernel_rfl
theorem ok:Ok prog 171 D.sig:=ay func171 aI (by kernel_rfl) (an _)
end a_
namespace aP
abbrev Arg:Type:=(List UInt8)×Int×Unit
abbrev Out:Type:=Int×Unit
abbrev ps:PQ:=[(.ro,(.ae u8)),(.ro,i64)]
noncomputable def D:FD:={ fn:=f172,tl:=bi,ps:=ps,rs:=[(i64,(aw i64))] }
noncomputable def aa (a:Arg):Option Out:=@lift Out λk=>D.W k a
noncomputable def p (J:Arg):Option Out:=if 0<=ag ((3:Int)+(ag ((2:Int)*J.2.1))) then ((J.1[(ag ((3:Int)+(ag ((2:Int)*J.2.1)))).toNat]?).bind λx2=>some (ag (x2.toNat:Int),())) else none
theorem af (k:Nat) (J:Arg):@Eq (Option Out) (D.W k J) (p J):=by kernel_rfl
theorem ok:Ok prog 172 D.sig:=ay func172 aI (by kernel_rfl) (an _)
end aP
namespace d_
abbrev Arg:Type:=(List UInt8)×Unit
abbrev Out:Type:=Int×Unit
abbrev ps:PQ:=[(.ro,(.ae u8))]
noncomputable def D:FD:={ fn:=f205,tl:=bi,ps:=ps,rs:=[(i64,(aw i64))],gl:=[(171,a_.D.sig),(172,aP.D.sig)],lv:=[(2,[0,3])],lx:=[(0,[0])] }
noncomputable def aa (a:Arg):Option Out:=@lift Out λk=>D.W k a
noncomputable def T0 (J:Arg) (ab:Int):St:={ n:=17,sl:=[(0,.val (.ae u8) J.1),(3,.val i64 ab)],vr:=[],aF:=[] }
noncomputable def b0 (self:Int->Option Out) (e0:(Unit)->Option Out) (J:Arg) (ab:Int):Option Out:=(a_.aa (J.1,())).bind λuh=>bif decide (ab < uh.1) then ((aP.aa (J.1,ab,())).bind λft=>bif decide (ft.1=(0:Int)) then (some (ab,())) else self (ag (ab+(1:Int)))) else e0 ()
noncomputable abbrev B0 (_:Nat):=b0
noncomputable def q0 (J:Arg) (jP:(Unit)):Option Out:=(a_.aa (J.1,())).bind λgN=>some (gN.1,())
noncomputable abbrev Q0 (_:Nat):=q0
noncomputable def s0 (k:Nat) (J:Arg):(Int)->Option Out:=λab=>D.L k [1,0,1,0,0] [0,3] [] (ap 0 (aU (D.N k [1,1]) D.K0)) (T0 J ab)
noncomputable def r0 (k:Nat) (J:Arg):(Int)->Option Out:=aD (λw v=>B0 k w (Q0 k J) J v) k
theorem aX (k:Nat) (J:Arg):s0 k J=r0 k J:=
 funext λab=>aR _ _ _ (T0 J) _ (λrec v=>by kernel_rfl) k ab
noncomputable def p (l0:(Int)->Option Out) (J:Arg):Option Out:=l0 (0:Int)
theorem af (k:Nat) (J:Arg):@Eq (Option Out) (D.W k J) (p (r0 k J) J):=
 Eq.trans (b:=p (s0 k J) J) (by kernel_rfl) (by rw[aX])
theorem ok:Ok prog 205 D.sig:=ay func205 aI (by kernel_rfl) (fc a_.ok (fc aP.ok (an _)))
end d_
namespace et
abbrev Arg:Type:=(List UInt8)×Unit
abbrev Out:Type:=Int×Unit
abbrev ps:PQ:=[(.ro,(.ae u8))]
noncomputable def D:FD:={ fn:=f206,tl:=bi,ps:=ps,rs:=[(i64,(aw i64))],gl:=[(171,a_.D.sig),(172,aP.D.sig)],lv:=[(3,[0,3,4])],lx:=[(0,[3])] }
noncomputable def aa (a:Arg):Option Out:=@lift Out λk=>D.W k a
noncomputable def T0 (J:Arg) (aN:Int×Int):St:={ n:=21,sl:=[(0,.val (.ae u8) J.1),(3,.val i64 aN.1),(4,.val i64 aN.2)],vr:=[],aF:=[] }
noncomputable def b0 (self:(Int×Int)->Option Out) (e0:Int->Option Out) (J:Arg) (aN:Int×Int):Option Out:=(a_.aa (J.1,())).bind λft=>bif decide (aN.2 < ft.1) then ((aP.aa (J.1,aN.2,())).bind λlS=>self (ag (aN.1 - lS.1),ag (aN.2+(1:Int)))) else e0 aN.1
noncomputable abbrev B0 (_:Nat):=b0
noncomputable def q0 (J:Arg) (Pw:Int):Option Out:=some (Pw,())
noncomputable abbrev Q0 (_:Nat):=q0
noncomputable def s0 (k:Nat) (J:Arg):(Int×Int)->Option Out:=λaN=>D.L k [1,1,0,1,0,0] [0,3,4] [] (ap 0 (aU (D.N k [1,1,1]) D.K0)) (T0 J aN)
noncomputable def r0 (k:Nat) (J:Arg):(Int×Int)->Option Out:=aD (λw v=>B0 k w (Q0 k J) J v) k
theorem aX (k:Nat) (J:Arg):s0 k J=r0 k J:=
 funext λaN=>aR _ _ _ (T0 J) _ (λrec v=>by kernel_rfl) k aN
noncomputable def p (l0:(Int×Int)->Option Out) (J:Arg):Option Out:=(a_.aa (J.1,())).bind λr2=>l0 (ag ((62:Int) - (ag ((2:Int)*r2.1))),(0:Int))
theorem af (k:Nat) (J:Arg):@Eq (Option Out) (D.W k J) (p (r0 k J) J):=
 Eq.trans (b:=p (s0 k J) J) (by kernel_rfl) (by rw[aX])
theorem ok:Ok prog 206 D.sig:=ay func206 aI (by kernel_rfl) (fc a_.ok (fc aP.ok (an _)))
end et
namespace ek
abbrev Arg:Type:=(List UInt8)×Unit
abbrev Out:Type:=Int×Unit
abbrev ps:PQ:=[(.ro,(.ae u8))]
noncomputable def D:FD:={ fn:=f207,tl:=bi,ps:=ps,rs:=[(i64,(aw i64))] }
noncomputable def aa (a:Arg):Option Out:=@lift Out λk=>D.W k a
noncomputable def p (J:Arg):Option Out:=(J.1[1]?).bind λx2=>some (ag (x2.toNat:Int),())
theorem af (k:Nat) (J:Arg):@Eq (Option Out) (D.W k J) (p J):=by kernel_rfl
theorem ok:Ok prog 207 D.sig:=ay func207 aI (by kernel_rfl) (an _)
end ek
namespace dK
abbrev Arg:Type:=(List UInt8)×Int×Int×(List UInt8)×Unit
abbrev Out:Type:=(List UInt8)×Unit
abbrev ps:PQ:=[(.gj (ak (.ae u8)),(.ae u8)),(.ro,i64),(.ro,i64),(.ro,(.ae u8))]
noncomputable def D:FD:={ fn:=f208,tl:=bi,ps:=ps,rs:=[],es:=[0] }
noncomputable def aa (a:Arg):Option Out:=@lift Out λk=>D.W k a
noncomputable def p (J:Arg):Option Out:=if 0<=J.2.2.1/\J.2.2.1<=(J.1.length:Int) then (let y2:=jc J.1 J.2.2.1.toNat (min J.2.2.2.1.length (J.1.length - J.2.2.1.toNat)) J.2.2.2.1;if 0<=ag ((2:Int)+(ag ((2:Int)*J.2.1)))/\ag ((2:Int)+(ag ((2:Int)*J.2.1))) < (y2.length:Int) then ((y2[(ag ((2:Int)+(ag ((2:Int)*J.2.1)))).toNat]?).bind λx3=>let y4:=y2.set (ag ((2:Int)+(ag ((2:Int)*J.2.1)))).toNat (UInt8.ofInt J.2.2.1);if 0<=ag ((3:Int)+(ag ((2:Int)*J.2.1)))/\ag ((3:Int)+(ag ((2:Int)*J.2.1))) < (y4.length:Int) then ((y4[(ag ((3:Int)+(ag ((2:Int)*J.2.1)))).toNat]?).bind λx5=>let y6:=y4.set (ag ((3:Int)+(ag ((2:Int)*J.2.1)))).toNat (UInt8.ofInt (J.2.2.2.1.length:Int));some (y6,())) else none) else none) else none
theorem af (k:Nat) (J:Arg):@Eq (Option Out) (D.W k J) (p J):=by kernel_rfl
theorem ok:Ok prog 208 D.sig:=ay func208 aI (by kernel_rfl) (an _)
end dK
namespace cu
abbrev Arg:Type:=(List UInt8)×(List UInt8)×Unit
abbrev Out:Type:=(List UInt8)×Int×Int×Unit
abbrev ps:PQ:=[(.ro,(.ae u8)),(.ro,(.ae u8))]
noncomputable def D:FD:={ fn:=f167,tl:=bi,ps:=ps,rs:=[((.ae u8),(ak (.ae u8))),(i64,(aw i64)),(i64,(aw i64))],gl:=[(77,bN.D.sig),(171,a_.D.sig),(205,d_.D.sig),(206,et.D.sig),(207,ek.D.sig),(208,dK.D.sig)] }
noncomputable def aa (a:Arg):Option Out:=@lift Out λk=>D.W k a
noncomputable def p (J:Arg):Option Out:=(d_.aa (J.1,())).bind λr2=>(a_.aa (J.1,())).bind λr3=>let Sk:=λ(M1:Int) (M2:Int)=>((et.aa (J.1,())).bind λAl=>bif decide (Al.1 < ag ((J.2.1.length:Int)+M2)) then (some (([]:List UInt8),(0:Int),(9:Int),())) else (ek.aa (J.1,())).bind λAm=>bif decide (ag (Am.1 - (J.2.1.length:Int)) < ag ((2:Int)+(ag ((2:Int)*M1)))) then (some (([]:List UInt8),(0:Int),(8:Int),())) else (bN.aa (J.1,())).bind λwr=>if 0<=(0:Int)/\(0:Int) < (wr.1.length:Int) then ((wr.1[0]?).bind λM3=>if 0<=(1:Int)/\(1:Int) < ((wr.1.set 0 (UInt8.ofInt M1)).length:Int) then (((wr.1.set 0 (UInt8.ofInt M1))[1]?).bind λPx=>let U8:=(wr.1.set 0 (UInt8.ofInt M1)).set 1 (UInt8.ofInt (ag (Am.1 - (J.2.1.length:Int))));(dK.aa (U8,r2.1,ag (Am.1 - (J.2.1.length:Int)),J.2.1,())).bind λJV=>some (JV.1,r2.1,(0:Int),())) else none) else none:Option Out);bif decide (r2.1=r3.1) then (bif decide ((16:Int)<=r3.1) then (some (([]:List UInt8),(0:Int),(2:Int),())) else Sk (ag (r3.1+(1:Int))) (2:Int)) else Sk r3.1 (0:Int)
theorem af (k:Nat) (J:Arg):@Eq (Option Out) (D.W k J) (p J):=by kernel_rfl
theorem ok:Ok prog 167 D.sig:=ay func167 aI (by kernel_rfl) (fc bN.ok (fc a_.ok (fc d_.ok (fc et.ok (fc ek.ok (fc dK.ok (an _)))))))
end cu
namespace dH
abbrev Arg:Type:=Int×Int×Unit
abbrev Out:Type:=(List UInt8)×Unit
abbrev ps:PQ:=[(.ro,i64),(.ro,i64)]
noncomputable def D:FD:={ fn:=f168,tl:=bi,ps:=ps,rs:=[((.ae u8),(ak (.ae u8)))] }
noncomputable def aa (a:Arg):Option Out:=@lift Out λk=>D.W k a
noncomputable def p (J:Arg):Option Out:=some ([(1:UInt8),UInt8.ofInt J.1,UInt8.ofInt J.2.1],())
theorem af (k:Nat) (J:Arg):@Eq (Option Out) (D.W k J) (p J):=by kernel_rfl
theorem ok:Ok prog 168 D.sig:=ay func168 aI (by kernel_rfl) (an _)
end dH
namespace bO
abbrev Arg:Type:=Int×Row×Unit
abbrev Out:Type:=(List UInt8)×Unit
abbrev ps:PQ:=[(.ro,i64),(.ro,(.ptr aE))]
noncomputable def D:FD:={ fn:=f169,tl:=bi,ps:=ps,rs:=[((.ae u8),(ak (.ae u8)))],od:=[(1,[0,1,2,3,4,5,6,7,8,9,10,11,12,13,14,15,16,17,18,19,20,21,22,23,24,25,26,27,28,29,30,31])] }
noncomputable def aa (a:Arg):Option Out:=@lift Out λk=>D.W k a
noncomputable def p (J:Arg):Option Out:=if J.2.1.2.2.2.1.length<=cJ then (if [UInt8.ofInt J.1,UInt8.ofInt J.2.1.1,UInt8.ofInt J.2.1.2.1,UInt8.ofInt (ag (J.2.1.2.2.1.tdiv (256:Int))),UInt8.ofInt (J.2.1.2.2.1.tmod (256:Int)),UInt8.ofInt (J.2.1.2.2.2.1.length:Int)].length+J.2.1.2.2.2.1.length<=cJ then (let y2:=[UInt8.ofInt J.1,UInt8.ofInt J.2.1.1,UInt8.ofInt J.2.1.2.1,UInt8.ofInt (ag (J.2.1.2.2.1.tdiv (256:Int))),UInt8.ofInt (J.2.1.2.2.1.tmod (256:Int)),UInt8.ofInt (J.2.1.2.2.2.1.length:Int)]++J.2.1.2.2.2.1;some (y2,())) else none) else none
theorem af (k:Nat) (J:Arg):@Eq (Option Out) (D.W k J) (p J):=by kernel_rfl
theorem ok:Ok prog 169 D.sig:=ay func169 aI (by kernel_rfl) (an _)
end bO
namespace c9
abbrev Arg:Type:=UInt8×Unit
abbrev Out:Type:=(List UInt8)×Unit
abbrev ps:PQ:=[(.ro,u8)]
noncomputable def D:FD:={ fn:=f203,tl:=bi,ps:=ps,rs:=[((.ae u8),(ak (.ae u8)))],lv:=[(3,[0,3,4])],lx:=[(0,[3])] }
noncomputable def aa (a:Arg):Option Out:=@lift Out λk=>D.W k a
noncomputable def T0 (J:Arg) (ab:(List UInt8)×Int):St:={ n:=19,sl:=[(0,.val u8 J.1),(3,.own (.ae u8) (ak (.ae u8)) [] ab.1),(4,.val i64 ab.2)],vr:=[],aF:=[] }
noncomputable def b0 (self:((List UInt8)×Int)->Option Out) (e0:(List UInt8)->Option Out) (J:Arg) (ab:(List UInt8)×Int):Option Out:=bif decide (ab.2 < (64:Int)) then (if 0<=ab.2/\ab.2 < (ab.1.length:Int) then ((ab.1[ab.2.toNat]?).bind λeC=>self (ab.1.set ab.2.toNat J.1,ag (ab.2+(1:Int)))) else none) else e0 ab.1
noncomputable abbrev B0 (_:Nat):=b0
noncomputable def q0 (J:Arg) (kQ:(List UInt8)):Option Out:=if 0<=(0:Int)/\(0:Int) < (kQ.length:Int) then ((kQ[0]?).bind λfH=>if 0<=(1:Int)/\(1:Int) < ((kQ.set 0 (0:UInt8)).length:Int) then (((kQ.set 0 (0:UInt8))[1]?).bind λsJ=>let Er:=(kQ.set 0 (0:UInt8)).set 1 (64:UInt8);some (Er,())) else none) else none
noncomputable abbrev Q0 (_:Nat):=q0
noncomputable def s0 (k:Nat) (J:Arg):((List UInt8)×Int)->Option Out:=λab=>D.L k [1,1,0,1,0,0] [0,3,4] [] (ap 0 (aU (D.N k [1,1,1]) D.K0)) (T0 J ab)
noncomputable def r0 (k:Nat) (J:Arg):((List UInt8)×Int)->Option Out:=aD (λw v=>B0 k w (Q0 k J) J v) k
theorem aX (k:Nat) (J:Arg):s0 k J=r0 k J:=
 funext λab=>aR _ _ _ (T0 J) _ (λrec v=>by kernel_rfl) k ab
noncomputable def p (l0:((List UInt8)×Int)->Option Out) (J:Arg):Option Out:=if 0<=(64:Int)/\(64:Int)<=(64:Int)/\(64:Int)<=(cJ:Int) then (l0 (List.replicate 64 (0:UInt8),(0:Int))) else none
theorem af (k:Nat) (J:Arg):@Eq (Option Out) (D.W k J) (p (r0 k J) J):=
 Eq.trans (b:=p (s0 k J) J) (by kernel_rfl) (by rw[aX])
theorem ok:Ok prog 203 D.sig:=ay func203 aI (by kernel_rfl) (an _)
end c9
namespace ee
abbrev Arg:Type:=aO×Unit
abbrev Out:Type:=(List (List UInt8))×aO×Unit
abbrev ps:PQ:=[(.cZ (aw bH) (aw bH),bH)]
noncomputable def D:FD:={ fn:=f165,tl:=bi,ps:=ps,rs:=[((.ae (.ae u8)),(ak (.ae (.ae u8))))],gl:=[(27,bp.D.sig),(50,br.D.sig),(51,aB.D.sig),(167,cu.D.sig),(168,dH.D.sig),(169,bO.D.sig),(203,c9.D.sig)],es:=[0],lv:=[(4,[0,3,4,5])],lx:=[(0,[0,3]),(1,[0,3,4,5])],od:=[(7,[0,1,2,3,4,5,6,7,8,9,10,11,12,13,14]),(9,[0,1,2,3,4,5,6,7,8,9,10,11,12]),(14,[0,1,2,3,4,5,6,7,8,9,10,11,12,13,14,15])] }
noncomputable def aa (a:Arg):Option Out:=@lift Out λk=>D.W k a
noncomputable def T0 (J:Arg) (aZ:List Row) (aG:aO×(List (List UInt8))×Int):St:={ n:=83,sl:=[(0,.box bH (aw bH) [] aG.1),(3,.own (.ae (.ae u8)) (ak (.ae (.ae u8))) [] aG.2.1),(4,.own (.ae aE) (ak (.ae aE)) [] aZ),(5,.val i64 aG.2.2)],vr:=[],aF:=[(0,0,false)] }
noncomputable def b0 (self:(aO×(List (List UInt8))×Int)->Option Out) (e0:(aO×(List (List UInt8)))->Option Out) (J:Arg) (aZ:List Row) (aG:aO×(List (List UInt8))×Int):Option Out:=bif decide (aG.2.2 < (aZ.length:Int)) then ((bp.aa (aG.1,(3:Int),())).bind λfu=>bif fu.1 then (if 0<=(1:Int)/\(1:Int) < (aG.2.1.length:Int) then ((aG.2.1[1]?).bind λHX=>if 0<=aG.2.2/\aG.2.2 < (aZ.length:Int) then ((aZ[aG.2.2.toNat]?).bind λLp=>(bO.aa ((2:Int),Lp,())).bind λxg=>(aG.2.1[1]?).bind λza=>(cu.aa (za,xg.1,())).bind λsK=>bif decide (sK.2.2.1=(0:Int)) then (if 0<=(0:Int)/\(0:Int) < (aG.2.1.length:Int) then ((aG.2.1[0]?).bind λLq=>(dH.aa ((1:Int),sK.2.1,())).bind λsL=>(aG.2.1[0]?).bind λTl=>(cu.aa (Tl,sL.1,())).bind λBy=>bif decide (By.2.2.1=(0:Int)) then (if 0<=(1:Int)/\(1:Int) < (aG.2.1.length:Int) then ((aG.2.1[1]?).bind λWy=>if 0<=(0:Int)/\(0:Int) < ((aG.2.1.set 1 sK.1).length:Int) then (((aG.2.1.set 1 sK.1)[0]?).bind λBz=>self (fu.2.1,(aG.2.1.set 1 sK.1).set 0 By.1,ag (aG.2.2+(1:Int)))) else none) else none) else self (fu.2.1,aG.2.1,ag (aG.2.2+(1:Int)))) else none) else self (fu.2.1,aG.2.1,ag (aG.2.2+(1:Int)))) else none) else none) else (aB.aa (fu.2.1,(2:Int),())).bind λmT=>if 0<=mT.1/\mT.1 < (aG.2.1.length:Int) then ((aG.2.1[mT.1.toNat]?).bind λPy=>if 0<=aG.2.2/\aG.2.2 < (aZ.length:Int) then ((aZ[aG.2.2.toNat]?).bind λTm=>(bO.aa ((0:Int),Tm,())).bind λTn=>(aG.2.1[mT.1.toNat]?).bind λTo=>(cu.aa (To,Tn.1,())).bind λPz=>bif decide (Pz.2.2.1=(0:Int)) then (if 0<=mT.1/\mT.1 < (aG.2.1.length:Int) then ((aG.2.1[mT.1.toNat]?).bind λPA=>self (mT.2.1,aG.2.1.set mT.1.toNat Pz.1,ag (aG.2.2+(1:Int)))) else none) else self (mT.2.1,aG.2.1,ag (aG.2.2+(1:Int)))) else none) else none) else e0 (aG.1,aG.2.1)
noncomputable abbrev B0 (_:Nat):=b0
noncomputable def q0 (J:Arg) (aZ:List Row) (PB:(aO×(List (List UInt8)))):Option Out:=some (PB.2,PB.1,())
noncomputable abbrev Q0 (_:Nat):=q0
noncomputable def s0 (k:Nat) (J:Arg):(List Row)->(aO×(List (List UInt8))×Int)->Option Out:=λaZ=>λaG=>D.L k [1,1,1,0,1,0,0] [0,3,4,5] [] (ap 0 (aU (D.N k [1,1,1,1]) D.K0)) (T0 J aZ aG)
noncomputable def r0 (k:Nat) (J:Arg):(List Row)->(aO×(List (List UInt8))×Int)->Option Out:=λaZ=>aD (λw v=>B0 k w (Q0 k J aZ) J aZ v) k
theorem aX (k:Nat) (J:Arg):s0 k J=r0 k J:=
 funext λaZ=>funext λaG=>aR _ _ _ (T0 J aZ) _ (λrec v=>by kernel_rfl) k aG
noncomputable def p (l0:(List Row)->(aO×(List (List UInt8))×Int)->Option Out) (J:Arg):Option Out:=(c9.aa ((0:UInt8),())).bind λr2=>(c9.aa ((0:UInt8),())).bind λr3=>(br.aa (J.1,())).bind λr4=>l0 r4.1 (r4.2.1,[r2.1,r3.1],(0:Int))
theorem af (k:Nat) (J:Arg):@Eq (Option Out) (D.W k J) (p (r0 k J) J):=
 Eq.trans (b:=p (s0 k J) J) (by kernel_rfl) (by rw[aX])
theorem ok:Ok prog 165 D.sig:=ay func165 aI (by kernel_rfl) (fc bp.ok (fc br.ok (fc aB.ok (fc cu.ok (fc dH.ok (fc bO.ok (fc c9.ok (an _))))))))
end ee
namespace gR
abbrev Arg:Type:=(List UInt8)×Int×Unit
abbrev Out:Type:=Bool×Unit
abbrev ps:PQ:=[(.ro,(.ae u8)),(.ro,i64)]
noncomputable def D:FD:={ fn:=f213,tl:=bi,ps:=ps,rs:=[(.bool,(aw .bool))],gl:=[(76,dy.D.sig),(171,a_.D.sig),(172,aP.D.sig)] }
noncomputable def aa (a:Arg):Option Out:=@lift Out λk=>D.W k a
noncomputable def p (J:Arg):Option Out:=(a_.aa (J.1,())).bind λr2=>(dy.aa (J.2.1,(0:Int),ag (r2.1 - (1:Int)),())).bind λr3=>bif r3.1 then ((aP.aa (J.1,J.2.1,())).bind λr4=>some (decide ((0:Int) < r4.1),())) else some (false,())
theorem af (k:Nat) (J:Arg):@Eq (Option Out) (D.W k J) (p J):=by kernel_rfl
theorem ok:Ok prog 213 D.sig:=ay func213 aI (by kernel_rfl) (fc dy.ok (fc a_.ok (fc aP.ok (an _))))
end gR
namespace fY
abbrev Arg:Type:=(List UInt8)×Int×Unit
abbrev Out:Type:=(List UInt8)×Unit
abbrev ps:PQ:=[(.ro,(.ae u8)),(.ro,i64)]
noncomputable def D:FD:={ fn:=f222,tl:=bi,ps:=ps,rs:=[((.ae u8),(ak (.ae u8)))],gl:=[(77,bN.D.sig),(172,aP.D.sig)],lv:=[(4,[5])],lx:=[(0,[5])] }
noncomputable def aa (a:Arg):Option Out:=@lift Out λk=>D.W k a
noncomputable def T0 (J:Arg) (mU:List UInt8):St:={ n:=38,sl:=[(5,.own (.ae u8) (ak (.ae u8)) [] mU)],vr:=[],aF:=[] }
noncomputable def b0 (self:(List UInt8)->Option Out) (e0:(List UInt8)->Option Out) (J:Arg) (mU:List UInt8):Option Out:=if 0<=(0:Int)/\(0:Int) < (mU.length:Int) then ((mU[0]?).bind λHX=>bif decide ((0:Int) < (HX.toNat:Int)) then (if 0<=(0:Int)/\(0:Int) < (mU.length:Int) then ((mU[0]?).bind λLp=>(aP.aa (mU,ag ((ag (Lp.toNat:Int)) - (1:Int)),())).bind λxg=>bif decide (xg.1=(0:Int)) then (if 0<=(0:Int)/\(0:Int) < (mU.length:Int) then ((mU[0]?).bind λza=>if 0<=(0:Int)/\(0:Int) < (mU.length:Int) then ((mU[0]?).bind λHY=>let Tp:=mU.set 0 (UInt8.ofInt ((za.toNat:Int) - (1:Int)));self Tp) else none) else none) else e0 mU) else none) else e0 mU) else none
noncomputable abbrev B0 (_:Nat):=b0
noncomputable def q0 (J:Arg) (Tq:(List UInt8)):Option Out:=some (Tq,())
noncomputable abbrev Q0 (_:Nat):=q0
noncomputable def s0 (k:Nat) (J:Arg):(List UInt8)->Option Out:=λmU=>D.L k [1,1,1,1,0,0,0] [5] [] (ap 0 (aU (D.N k [1,1,1,1,1]) D.K0)) (T0 J mU)
noncomputable def r0 (k:Nat) (J:Arg):(List UInt8)->Option Out:=aD (λw v=>B0 k w (Q0 k J) J v) k
theorem aX (k:Nat) (J:Arg):s0 k J=r0 k J:=
 funext λmU=>aR _ _ _ (T0 J) _ (λrec v=>by kernel_rfl) k mU
noncomputable def p (l0:(List UInt8)->Option Out) (J:Arg):Option Out:=(bN.aa (J.1,())).bind λr2=>if 0<=ag ((2:Int)+(ag ((2:Int)*J.2.1)))/\ag ((2:Int)+(ag ((2:Int)*J.2.1))) < (r2.1.length:Int) then ((r2.1[(ag ((2:Int)+(ag ((2:Int)*J.2.1)))).toNat]?).bind λx3=>let y4:=r2.1.set (ag ((2:Int)+(ag ((2:Int)*J.2.1)))).toNat (0:UInt8);if 0<=ag ((3:Int)+(ag ((2:Int)*J.2.1)))/\ag ((3:Int)+(ag ((2:Int)*J.2.1))) < (y4.length:Int) then ((y4[(ag ((3:Int)+(ag ((2:Int)*J.2.1)))).toNat]?).bind λx5=>let y6:=y4.set (ag ((3:Int)+(ag ((2:Int)*J.2.1)))).toNat (0:UInt8);l0 y6) else none) else none
theorem af (k:Nat) (J:Arg):@Eq (Option Out) (D.W k J) (p (r0 k J) J):=
 Eq.trans (b:=p (s0 k J) J) (by kernel_rfl) (by rw[aX])
theorem ok:Ok prog 222 D.sig:=ay func222 aI (by kernel_rfl) (fc bN.ok (fc aP.ok (an _)))
end fY
namespace cK
abbrev Arg:Type:=(List UInt8)×Int×Unit
abbrev Out:Type:=Int×Unit
abbrev ps:PQ:=[(.ro,(.ae u8)),(.ro,i64)]
noncomputable def D:FD:={ fn:=f212,tl:=bi,ps:=ps,rs:=[(i64,(aw i64))] }
noncomputable def aa (a:Arg):Option Out:=@lift Out λk=>D.W k a
noncomputable def p (J:Arg):Option Out:=if 0<=ag ((2:Int)+(ag ((2:Int)*J.2.1))) then ((J.1[(ag ((2:Int)+(ag ((2:Int)*J.2.1)))).toNat]?).bind λx2=>some (ag (x2.toNat:Int),())) else none
theorem af (k:Nat) (J:Arg):@Eq (Option Out) (D.W k J) (p J):=by kernel_rfl
theorem ok:Ok prog 212 D.sig:=ay func212 aI (by kernel_rfl) (an _)
end cK
namespace gS
abbrev Arg:Type:=(List UInt8)×Int×(List UInt8)×Unit
abbrev Out:Type:=(List UInt8)×Int×Unit
abbrev ps:PQ:=[(.ro,(.ae u8)),(.ro,i64),(.ro,(.ae u8))]
noncomputable def D:FD:={ fn:=f223,tl:=bi,ps:=ps,rs:=[((.ae u8),(ak (.ae u8))),(i64,(aw i64))],gl:=[(77,bN.D.sig),(171,a_.D.sig),(172,aP.D.sig),(206,et.D.sig),(207,ek.D.sig),(208,dK.D.sig),(212,cK.D.sig)] }
noncomputable def aa (a:Arg):Option Out:=@lift Out λk=>D.W k a
noncomputable def p (J:Arg):Option Out:=(aP.aa (J.1,J.2.1,())).bind λr2=>(bN.aa (J.1,())).bind λr3=>bif decide ((J.2.2.1.length:Int)<=r2.1) then ((cK.aa (J.1,J.2.1,())).bind λr4=>(dK.aa (r3.1,J.2.1,ag ((ag (r4.1+r2.1)) - (J.2.2.1.length:Int)),J.2.2.1,())).bind λr5=>some (r5.1,(0:Int),())) else (et.aa (J.1,())).bind λr6=>bif decide (ag (r6.1+r2.1) < (J.2.2.1.length:Int)) then (some (([]:List UInt8),(9:Int),())) else (ek.aa (J.1,())).bind λr7=>(a_.aa (J.1,())).bind λr8=>bif decide (ag (r7.1 - (J.2.2.1.length:Int)) < ag ((2:Int)+(ag ((2:Int)*r8.1)))) then (some (([]:List UInt8),(8:Int),())) else if 0<=(1:Int)/\(1:Int) < (r3.1.length:Int) then ((r3.1[1]?).bind λx9=>let U9:=r3.1.set 1 (UInt8.ofInt (ag (r7.1 - (J.2.2.1.length:Int))));(dK.aa (U9,J.2.1,ag (r7.1 - (J.2.2.1.length:Int)),J.2.2.1,())).bind λk_=>some (k_.1,(0:Int),())) else none
theorem af (k:Nat) (J:Arg):@Eq (Option Out) (D.W k J) (p J):=by kernel_rfl
theorem ok:Ok prog 223 D.sig:=ay func223 aI (by kernel_rfl) (fc bN.ok (fc a_.ok (fc aP.ok (fc et.ok (fc ek.ok (fc dK.ok (fc cK.ok (an _))))))))
end gS
namespace dT
abbrev Arg:Type:=(List UInt8)×Int×Unit
abbrev Out:Type:=(List UInt8)×Unit
abbrev ps:PQ:=[(.ro,(.ae u8)),(.ro,i64)]
noncomputable def D:FD:={ fn:=f174,tl:=bi,ps:=ps,rs:=[((.ae u8),(ak (.ae u8)))],gl:=[(172,aP.D.sig),(212,cK.D.sig)] }
noncomputable def aa (a:Arg):Option Out:=@lift Out λk=>D.W k a
noncomputable def p (J:Arg):Option Out:=(cK.aa (J.1,J.2.1,())).bind λr2=>(aP.aa (J.1,J.2.1,())).bind λr3=>if 0<=r2.1/\r2.1<=ag (r2.1+r3.1)/\ag (r2.1+r3.1)<=(J.1.length:Int) then (if ([]:List UInt8).length+((J.1.take (ag (r2.1+r3.1)).toNat).drop r2.1.toNat).length<=cJ then (let y4:=([]:List UInt8)++((J.1.take (ag (r2.1+r3.1)).toNat).drop r2.1.toNat);some (y4,())) else none) else none
theorem af (k:Nat) (J:Arg):@Eq (Option Out) (D.W k J) (p J):=by kernel_rfl
theorem ok:Ok prog 174 D.sig:=ay func174 aI (by kernel_rfl) (fc aP.ok (fc cK.ok (an _)))
end dT
namespace bU
abbrev Arg:Type:=(List UInt8)×Unit
abbrev Out:Type:=(List UInt8)×Unit
abbrev ps:PQ:=[(.ro,(.ae u8))]
noncomputable def D:FD:={ fn:=f224,tl:=bi,ps:=ps,rs:=[((.ae u8),(ak (.ae u8)))],gl:=[(171,a_.D.sig),(172,aP.D.sig),(174,dT.D.sig),(208,dK.D.sig)],lv:=[(6,[0,3,4,5,6])],lx:=[(0,[4,5]),(1,[0,3,4,5,6])] }
noncomputable def aa (a:Arg):Option Out:=@lift Out λk=>D.W k a
noncomputable def T0 (J:Arg) (bG:Int) (bm:(List UInt8)×Int×Int):St:={ n:=44,sl:=[(0,.val (.ae u8) J.1),(3,.val i64 bG),(4,.own (.ae u8) (ak (.ae u8)) [] bm.1),(5,.val i64 bm.2.1),(6,.val i64 bm.2.2)],vr:=[],aF:=[] }
noncomputable def b0 (self:((List UInt8)×Int×Int)->Option Out) (e0:((List UInt8)×Int)->Option Out) (J:Arg) (bG:Int) (bm:(List UInt8)×Int×Int):Option Out:=bif decide (bm.2.2 < bG) then ((aP.aa (J.1,bm.2.2,())).bind λgN=>bif decide (gN.1=(0:Int)) then (self (bm.1,bm.2.1,ag (bm.2.2+(1:Int)))) else (dT.aa (J.1,bm.2.2,())).bind λfu=>(dK.aa (bm.1,bm.2.2,ag (bm.2.1 - (fu.1.length:Int)),fu.1,())).bind λjQ=>self (jQ.1,ag (bm.2.1 - (fu.1.length:Int)),ag (bm.2.2+(1:Int)))) else e0 (bm.1,bm.2.1)
noncomputable abbrev B0 (_:Nat):=b0
noncomputable def q0 (J:Arg) (bG:Int) (HZ:((List UInt8)×Int)):Option Out:=if 0<=(1:Int)/\(1:Int) < (HZ.1.length:Int) then ((HZ.1[1]?).bind λLr=>some (HZ.1.set 1 (UInt8.ofInt HZ.2),())) else none
noncomputable abbrev Q0 (_:Nat):=q0
noncomputable def s0 (k:Nat) (J:Arg):Int->((List UInt8)×Int×Int)->Option Out:=λbG=>λbm=>D.L k [1,1,1,1,1,0,1,0,0] [0,3,4,5,6] [] (ap 0 (aU (D.N k [1,1,1,1,1,1]) D.K0)) (T0 J bG bm)
noncomputable def r0 (k:Nat) (J:Arg):Int->((List UInt8)×Int×Int)->Option Out:=λbG=>aD (λw v=>B0 k w (Q0 k J bG) J bG v) k
theorem aX (k:Nat) (J:Arg):s0 k J=r0 k J:=
 funext λbG=>funext λbm=>aR _ _ _ (T0 J bG) _ (λrec v=>by kernel_rfl) k bm
noncomputable def p (l0:Int->((List UInt8)×Int×Int)->Option Out) (J:Arg):Option Out:=(a_.aa (J.1,())).bind λr2=>if 0<=(64:Int)/\(64:Int)<=(64:Int)/\(64:Int)<=(cJ:Int) then (if 0<=ag ((2:Int)+(ag ((2:Int)*r2.1)))/\ag ((2:Int)+(ag ((2:Int)*r2.1)))<=(J.1.length:Int) then (let y3:=jc (List.replicate 64 (0:UInt8)) 0 (min ((J.1.take (ag ((2:Int)+(ag ((2:Int)*r2.1)))).toNat).drop 0).length (List.replicate 64 (0:UInt8)).length) ((J.1.take (ag ((2:Int)+(ag ((2:Int)*r2.1)))).toNat).drop 0);l0 r2.1 (y3,(64:Int),(0:Int))) else none) else none
theorem af (k:Nat) (J:Arg):@Eq (Option Out) (D.W k J) (p (r0 k J) J):=
 Eq.trans (b:=p (s0 k J) J) (by kernel_rfl) (by rw[aX])
theorem ok:Ok prog 224 D.sig:=ay func224 aI (by kernel_rfl) (fc a_.ok (fc aP.ok (fc dT.ok (fc dK.ok (an _)))))
end bU
namespace iu
abbrev Arg:Type:=aO×Int×Unit
abbrev Out:Type:=(List UInt8)×aO×Unit
abbrev ps:PQ:=[(.cZ (aw bH) (aw bH),bH),(.ro,i64)]
noncomputable def D:FD:={ fn:=f227,tl:=bi,ps:=ps,rs:=[((.ae u8),(ak (.ae u8)))],gl:=[(51,aB.D.sig)],es:=[0],lv:=[(2,[0,1,5])],lx:=[(0,[0,5])] }
noncomputable def aa (a:Arg):Option Out:=@lift Out λk=>D.W k a
noncomputable def T0 (J:Arg) (ab:aO×Int×(List UInt8)):St:={ n:=18,sl:=[(0,.box bH (aw bH) [] ab.1),(1,.val i64 ab.2.1),(5,.own (.ae u8) (ak (.ae u8)) [] ab.2.2)],vr:=[],aF:=[(0,0,false)] }
noncomputable def b0 (self:(aO×Int×(List UInt8))->Option Out) (e0:(aO×(List UInt8))->Option Out) (J:Arg) (ab:aO×Int×(List UInt8)):Option Out:=bif decide ((0:Int) < ab.2.1) then ((aB.aa (ab.1,(256:Int),())).bind λuh=>if ab.2.2.length+[UInt8.ofInt uh.1].length<=cJ then (self (uh.2.1,ag (ab.2.1 - (1:Int)),ab.2.2++[UInt8.ofInt uh.1])) else none) else e0 (ab.1,ab.2.2)
noncomputable abbrev B0 (_:Nat):=b0
noncomputable def q0 (J:Arg) (kQ:(aO×(List UInt8))):Option Out:=some (kQ.2,kQ.1,())
noncomputable abbrev Q0 (_:Nat):=q0
noncomputable def s0 (k:Nat) (J:Arg):(aO×Int×(List UInt8))->Option Out:=λab=>D.L k [1,1,0,0,0] [0,1,5] [] (ap 0 (aU (D.N k [1,1,1]) D.K0)) (T0 J ab)
noncomputable def r0 (k:Nat) (J:Arg):(aO×Int×(List UInt8))->Option Out:=aD (λw v=>B0 k w (Q0 k J) J v) k
theorem aX (k:Nat) (J:Arg):s0 k J=r0 k J:=
 funext λab=>aR _ _ _ (T0 J) _ (λrec v=>by kernel_rfl) k ab
noncomputable def p (l0:(aO×Int×(List UInt8))->Option Out) (J:Arg):Option Out:=l0 (J.1,J.2.1,([]:List UInt8))
theorem af (k:Nat) (J:Arg):@Eq (Option Out) (D.W k J) (p (r0 k J) J):=
 Eq.trans (b:=p (s0 k J) J) (by kernel_rfl) (by rw[aX])
theorem ok:Ok prog 227 D.sig:=ay func227 aI (by kernel_rfl) (fc aB.ok (an _))
end iu
namespace cV
abbrev Arg:Type:=aO×Unit
abbrev Out:Type:=(List UInt8)×aO×Unit
abbrev ps:PQ:=[(.cZ (aw bH) (aw bH),bH)]
noncomputable def D:FD:={ fn:=f204,tl:=bi,ps:=ps,rs:=[((.ae u8),(ak (.ae u8)))],gl:=[(27,bp.D.sig),(51,aB.D.sig),(71,dm.D.sig),(167,cu.D.sig),(203,c9.D.sig),(213,gR.D.sig),(222,fY.D.sig),(223,gS.D.sig),(224,bU.D.sig),(227,iu.D.sig)],es:=[0],lv:=[(3,[0,3,4])],lx:=[(0,[0,3])] }
noncomputable def aa (a:Arg):Option Out:=@lift Out λk=>D.W k a
noncomputable def T0 (J:Arg) (aG:aO×(List UInt8)×Int):St:={ n:=75,sl:=[(0,.box bH (aw bH) [] aG.1),(3,.own (.ae u8) (ak (.ae u8)) [] aG.2.1),(4,.val i64 aG.2.2)],vr:=[],aF:=[(0,0,false)] }
noncomputable def b0 (self:(aO×(List UInt8)×Int)->Option Out) (e0:(aO×(List UInt8))->Option Out) (J:Arg) (aG:aO×(List UInt8)×Int):Option Out:=bif decide ((0:Int) < aG.2.2) then ((aB.aa (aG.1,(14:Int),())).bind λgN=>(iu.aa (gN.2.1,ag ((1:Int)+gN.1),())).bind λfu=>(aB.aa (fu.2.1,(5:Int),())).bind λjQ=>bif decide (jQ.1=(0:Int)) then ((aB.aa (jQ.2.1,(6:Int),())).bind λsM=>(gR.aa (aG.2.1,sM.1,())).bind λxg=>bif xg.1 then ((fY.aa (aG.2.1,sM.1,())).bind λEs=>self (sM.2.1,Es.1,ag (aG.2.2 - (1:Int)))) else self (sM.2.1,aG.2.1,ag (aG.2.2 - (1:Int)))) else bif decide (jQ.1=(1:Int)) then ((aB.aa (jQ.2.1,(6:Int),())).bind λsK=>(gR.aa (aG.2.1,sK.1,())).bind λTr=>bif Tr.1 then ((gS.aa (aG.2.1,sK.1,fu.1,())).bind λsL=>bif decide (sL.2.1=(0:Int)) then (self (sK.2.1,sL.1,ag (aG.2.2 - (1:Int)))) else self (sK.2.1,aG.2.1,ag (aG.2.2 - (1:Int)))) else self (sK.2.1,aG.2.1,ag (aG.2.2 - (1:Int)))) else bif decide (jQ.1=(2:Int)) then ((bp.aa (jQ.2.1,(3:Int),())).bind λBA=>bif BA.1 then ((bU.aa (aG.2.1,())).bind λBy=>self (BA.2.1,By.1,ag (aG.2.2 - (1:Int)))) else self (BA.2.1,aG.2.1,ag (aG.2.2 - (1:Int)))) else (cu.aa (aG.2.1,fu.1,())).bind λzb=>bif decide (zb.2.2.1=(0:Int)) then (self (jQ.2.1,zb.1,ag (aG.2.2 - (1:Int)))) else self (jQ.2.1,aG.2.1,ag (aG.2.2 - (1:Int)))) else e0 (aG.1,aG.2.1)
noncomputable abbrev B0 (_:Nat):=b0
noncomputable def q0 (J:Arg) (PC:(aO×(List UInt8))):Option Out:=some (PC.2,PC.1,())
noncomputable abbrev Q0 (_:Nat):=q0
noncomputable def s0 (k:Nat) (J:Arg):(aO×(List UInt8)×Int)->Option Out:=λaG=>D.L k [1,1,0,1,0,0] [0,3,4] [] (ap 0 (aU (D.N k [1,1,1]) D.K0)) (T0 J aG)
noncomputable def r0 (k:Nat) (J:Arg):(aO×(List UInt8)×Int)->Option Out:=aD (λw v=>B0 k w (Q0 k J) J v) k
theorem aX (k:Nat) (J:Arg):s0 k J=r0 k J:=
 funext λaG=>aR _ _ _ (T0 J) _ (λrec v=>by kernel_rfl) k aG
noncomputable def p (l0:(aO×(List UInt8)×Int)->Option Out) (J:Arg):Option Out:=(dm.aa (J.1,[(0:Int),(0:Int),(7:Int)],())).bind λr2=>(c9.aa (UInt8.ofInt r2.1,())).bind λr3=>(aB.aa (r2.2.1,(14:Int),())).bind λr4=>l0 (r4.2.1,r3.1,r4.1)
theorem af (k:Nat) (J:Arg):@Eq (Option Out) (D.W k J) (p (r0 k J) J):=
 Eq.trans (b:=p (s0 k J) J) (by kernel_rfl) (by rw[aX])
theorem ok:Ok prog 204 D.sig:=ay func204 aI (by kernel_rfl) (fc bp.ok (fc aB.ok (fc dm.ok (fc cu.ok (fc c9.ok (fc gR.ok (fc fY.ok (fc gS.ok (fc bU.ok (fc iu.ok (an _)))))))))))
end cV
namespace j6
abbrev Arg:Type:=aO×Unit
abbrev Out:Type:=(List UInt8)×aO×Unit
abbrev ps:PQ:=[(.cZ (aw bH) (aw bH),bH)]
noncomputable def D:FD:={ fn:=f166,tl:=bi,ps:=ps,rs:=[((.ae u8),(aw (.ae u8)))],gl:=[(51,aB.D.sig),(204,cV.D.sig)],es:=[0],fz:=[(4,2,0)] }
noncomputable def aa (a:Arg):Option Out:=@lift Out λk=>D.W k a
noncomputable def p (J:Arg):Option Out:=(cV.aa (J.1,())).bind λr2=>(aB.aa (r2.2.1,(12:Int),())).bind λr3=>bif decide (r3.1=(0:Int)) then (if 0<=(1:Int)/\(1:Int)<=(r2.1.length:Int) then (some ((r2.1.take r2.1.length).drop 1,r3.2.1,())) else none) else bif decide (r3.1=(1:Int)) then ((aB.aa (r3.2.1,(12:Int),())).bind λr4=>(aB.aa (r4.2.1,(70:Int),())).bind λr5=>if 0<=r4.1/\r4.1 < (r2.1.length:Int) then ((r2.1[r4.1.toNat]?).bind λx6=>some (r2.1.set r4.1.toNat (UInt8.ofInt r5.1),r5.2.1,())) else none) else some (r2.1,r3.2.1,())
theorem af (k:Nat) (J:Arg):@Eq (Option Out) (D.W k J) (p J):=by kernel_rfl
theorem ok:Ok prog 166 D.sig:=ay func166 aI (by kernel_rfl) (fc aB.ok (fc cV.ok (an _)))
end j6
namespace j8
abbrev Arg:Type:=aO×Unit
abbrev Out:Type:=(List (List UInt8))×aO×Unit
abbrev ps:PQ:=[(.cZ (aw bH) (aw bH),bH)]
noncomputable def D:FD:={ fn:=f115,tl:=bi,ps:=ps,rs:=[((.ae (.ae u8)),(.ae true (aw (.ae u8))))],gl:=[(51,aB.D.sig),(83,ep.D.sig),(165,ee.D.sig),(166,j6.D.sig),(167,cu.D.sig),(168,dH.D.sig),(169,bO.D.sig)],es:=[0],od:=[(8,[0,1,2,3,5,4,6,7,8,9,10,11,12,13,14,15]),(13,[0,1,2,3,4,5,6,7,8,9,10,11])],er:=[(8,[(2,16)])] }
noncomputable def aa (a:Arg):Option Out:=@lift Out λk=>D.W k a
noncomputable def p (J:Arg):Option Out:=(ee.aa (J.1,())).bind λr2=>(aB.aa (r2.2.1,(14:Int),())).bind λr3=>bif decide (r3.1=(0:Int)) then ((j6.aa (r3.2.1,())).bind λr4=>if 0<=(0:Int)/\(0:Int) < (r2.1.length:Int) then ((r2.1[0]?).bind λx5=>some (r2.1.set 0 r4.1,r4.2.1,())) else none) else bif decide (r3.1=(1:Int)) then (if 0<=(13:Int)/\(13:Int)<=(13:Int)/\(13:Int)<=(cJ:Int) then (some (List.replicate 13 ([]:List UInt8),r3.2.1,())) else none) else bif decide (r3.1=(2:Int)) then (if 0<=(0:Int)/\(0:Int) < (r2.1.length:Int) then ((r2.1[0]?).bind λx6=>(aB.aa (r3.2.1,(2:Int),())).bind λr7=>(aB.aa (r7.2.1,(3:Int),())).bind λr8=>(dH.aa (r7.1,r8.1,())).bind λr9=>(r2.1[0]?).bind λGF=>(cu.aa (GF,r9.1,())).bind λk_=>bif decide (k_.2.2.1=(0:Int)) then (if 0<=(0:Int)/\(0:Int) < (r2.1.length:Int) then ((r2.1[0]?).bind λXf=>some (r2.1.set 0 k_.1,r8.2.1,())) else none) else some (r2.1,r8.2.1,())) else none) else bif decide (r3.1=(3:Int)) then ((ep.aa (r3.2.1,())).bind λsN=>if 0<=(1:Int)/\(1:Int) < (r2.1.length:Int) then ((r2.1[1]?).bind λSl=>(bO.aa ((0:Int),sN.1,())).bind λAl=>(r2.1[1]?).bind λU_=>(cu.aa (U_,Al.1,())).bind λwr=>bif decide (wr.2.2.1=(0:Int)) then (if 0<=(1:Int)/\(1:Int) < (r2.1.length:Int) then ((r2.1[1]?).bind λM3=>some (r2.1.set 1 wr.1,sN.2.1,())) else none) else some (r2.1,sN.2.1,())) else none) else some (r2.1,r3.2.1,())
theorem af (k:Nat) (J:Arg):@Eq (Option Out) (D.W k J) (p J):=by kernel_rfl
theorem ok:Ok prog 115 D.sig:=ay func115 aI (by kernel_rfl) (fc aB.ok (fc ep.ok (fc ee.ok (fc j6.ok (fc cu.ok (fc dH.ok (fc bO.ok (an _))))))))
end j8
namespace kD
abbrev Arg:Type:=Int×Int×Unit
abbrev Out:Type:=Bool×Unit
abbrev ps:PQ:=[(.ro,i64),(.ro,i64)]
noncomputable def D:FD:={ fn:=f211,tl:=bi,ps:=ps,rs:=[(.bool,(aw .bool))],gl:=[(76,dy.D.sig)] }
noncomputable def aa (a:Arg):Option Out:=@lift Out λk=>D.W k a
noncomputable def p (J:Arg):Option Out:=(dy.aa (J.1,(0:Int),(11:Int),())).bind λr2=>bif r2.1 then ((dy.aa (J.2.1,(0:Int),(15:Int),())).bind λr3=>some (r3.1,())) else some (false,())
theorem af (k:Nat) (J:Arg):@Eq (Option Out) (D.W k J) (p J):=by kernel_rfl
theorem ok:Ok prog 211 D.sig:=ay func211 aI (by kernel_rfl) (fc dy.ok (an _))
end kD
namespace fC
abbrev Arg:Type:=(List UInt8)×Unit
abbrev Out:Type:=k8×Bool×Unit
abbrev ps:PQ:=[(.ro,(.ae u8))]
noncomputable def D:FD:={ fn:=f173,tl:=bi,ps:=ps,rs:=[(j0,(aw j0)),(.bool,(aw .bool))],gl:=[(136,dz.D.sig),(211,kD.D.sig)],od:=[(2,[0,1,2,3,4,5,6,7,8,9,10]),(3,[0,1,2,3,4,5,6,7]),(6,[0,1,2,3,4,5,6,7,8,9,10,11,12,13,14,15,16,17,18,19,20,21,22,23]),(7,[0,1,2,3,4,5,6,7,8,9])] }
noncomputable def aa (a:Arg):Option Out:=@lift Out λk=>D.W k a
noncomputable def p (J:Arg):Option Out:=let Sm:Option Out:=bif decide ((J.1.length:Int) < (6:Int)) then (some (((0:Int),(0:Int),(0:Int),(0:Int),((0:Int),(0:Int),(0:Int),([]:List UInt8),()),()),false,())) else (J.1[0]?).bind λVa=>bif decide ((Va.toNat:Int)=(1:Int)) then (some (((0:Int),(0:Int),(0:Int),(0:Int),((0:Int),(0:Int),(0:Int),([]:List UInt8),()),()),false,())) else (J.1[0]?).bind λM3=>bif decide ((2:Int) < (M3.toNat:Int)) then (some (((0:Int),(0:Int),(0:Int),(0:Int),((0:Int),(0:Int),(0:Int),([]:List UInt8),()),()),false,())) else (J.1[5]?).bind λPx=>bif !decide ((J.1.length:Int)=ag ((6:Int)+(ag (Px.toNat:Int)))) then (some (((0:Int),(0:Int),(0:Int),(0:Int),((0:Int),(0:Int),(0:Int),([]:List UInt8),()),()),false,())) else (J.1[1]?).bind λSn=>(J.1[2]?).bind λSo=>(J.1[3]?).bind λVb=>(J.1[4]?).bind λVc=>if 0<=(6:Int)/\(6:Int)<=(J.1.length:Int) then (let Sp:=ag ((ag ((ag (Vb.toNat:Int))*(256:Int)))+(ag (Vc.toNat:Int)));(J.1[0]?).bind λVd=>(dz.aa ((ag (Sn.toNat:Int),ag (So.toNat:Int),Sp,(J.1.take J.1.length).drop 6,()),())).bind λxh=>some (((0:Int),ag (Vd.toNat:Int),(0:Int),(0:Int),(ag (Sn.toNat:Int),ag (So.toNat:Int),Sp,(J.1.take J.1.length).drop 6,()),()),decide (xh.1=(0:Int)),())) else none;bif decide ((J.1.length:Int)=(3:Int)) then ((J.1[0]?).bind λx2=>bif decide ((x2.toNat:Int)=(1:Int)) then ((J.1[1]?).bind λx3=>(J.1[2]?).bind λx4=>(kD.aa (ag (x3.toNat:Int),ag (x4.toNat:Int),())).bind λr5=>some (((0:Int),(1:Int),ag (x3.toNat:Int),ag (x4.toNat:Int),((0:Int),(0:Int),(0:Int),([]:List UInt8),()),()),r5.1,())) else Sm) else Sm
theorem af (k:Nat) (J:Arg):@Eq (Option Out) (D.W k J) (p J):=by kernel_rfl
theorem ok:Ok prog 173 D.sig:=ay func173 aI (by kernel_rfl) (fc dz.ok (fc kD.ok (an _)))
end fC
namespace bX
abbrev Arg:Type:=(List (List UInt8))×Unit
abbrev Out:Type:=(List ai)×Unit
abbrev ps:PQ:=[(.ro,(.ae (.ae u8)))]
noncomputable def D:FD:={ fn:=f119,tl:=bi,ps:=ps,rs:=[((.ae cE),(ak (.ae cE)))],gl:=[(171,a_.D.sig),(172,aP.D.sig),(173,fC.D.sig),(174,dT.D.sig)],lv:=[(3,[0,3,4]),(6,[0,3,4,5])],lx:=[(0,[3]),(2,[0,3,4])] }
noncomputable def aa (a:Arg):Option Out:=@lift Out λk=>D.W k a
noncomputable def T0 (J:Arg) (ab:(List (List UInt8))×(List ai)×Int):St:={ n:=49,sl:=[(0,.val (.ae (.ae u8)) ab.1),(3,.own (.ae cE) (ak (.ae cE)) [] ab.2.1),(4,.val i64 ab.2.2)],vr:=[],aF:=[] }
noncomputable def S0 (rec:RT Out) (J:Arg):((List (List UInt8))×(List ai)×Int)->Option Out:=λab=>rec (T0 J ab)
noncomputable def dn (K:KT Out) (J:Arg):(List ai)->Option Out:=λz=>K (.exit 0) ({ n:=49,sl:=[(3,.own (.ae cE) (ak (.ae cE)) [] z)],vr:=[],aF:=[] })
noncomputable def T1 (J:Arg) (mY:List (List UInt8)) (jR:Int) (kJ:(List ai)×Int):St:={ n:=49,sl:=[(0,.val (.ae (.ae u8)) mY),(3,.own (.ae cE) (ak (.ae cE)) [] kJ.1),(4,.val i64 jR),(5,.val i64 kJ.2)],vr:=[],aF:=[] }
noncomputable def b1 (self:((List ai)×Int)->Option Out) (e2:(List ai)->Option Out) (J:Arg) (mY:List (List UInt8)) (jR:Int) (kJ:(List ai)×Int):Option Out:=if 0<=jR then ((mY[jR.toNat]?).bind λQR=>(a_.aa (QR,())).bind λQS=>bif decide (kJ.2 < QS.1) then (if 0<=jR then ((mY[jR.toNat]?).bind λH6=>(aP.aa (H6,kJ.2,())).bind λH7=>bif decide ((0:Int) < H7.1) then (if 0<=jR then ((mY[jR.toNat]?).bind λAn=>(dT.aa (An,kJ.2,())).bind λAo=>(fC.aa (Ao.1,())).bind λC9=>if kJ.1.length+[(jR,kJ.2,C9.1,())].length<=cJ then (let QT:=kJ.1++[(jR,kJ.2,C9.1,())];self (QT,ag (kJ.2+(1:Int)))) else none) else none) else self (kJ.1,ag (kJ.2+(1:Int)))) else none) else e2 kJ.1) else none
noncomputable abbrev B1 (_:Nat):=b1
noncomputable def q0 (self:((List (List UInt8))×(List ai)×Int)->Option Out) (e0:(List ai)->Option Out) (J:Arg) (mY:List (List UInt8)) (jR:Int) (M4:(List ai)):Option Out:=self (mY,M4,ag (jR+(1:Int)))
noncomputable abbrev Q0 (_:Nat):=q0
noncomputable def s1 (k:Nat) (rec:RT Out) (K:KT Out) (J:Arg):(List (List UInt8))->Int->((List ai)×Int)->Option Out:=λmY jR=>λkJ=>D.L k [1,1,0,1,0,0,1,0,0,1,0,0] [0,3,4,5] [] (ap 2 (ap 1 (aU (D.N k [1,1,0,1,0,0,1,1]) (gQ rec (eG [0,3,4] []) K)))) (T1 J mY jR kJ)
noncomputable def r1 (k:Nat) (self:((List (List UInt8))×(List ai)×Int)->Option Out) (e0:(List ai)->Option Out) (J:Arg):(List (List UInt8))->Int->((List ai)×Int)->Option Out:=λmY jR=>aD (λw v=>B1 k w (Q0 k self e0 J mY jR) J mY jR v) k
theorem lc (k:Nat) (rec:RT Out) (K:KT Out) (J:Arg):s1 k rec K J=r1 k (S0 rec J) (dn K J) J:=
 funext λmY=>funext λjR=>funext λkJ=>aR _ _ _ (T1 J mY jR) _ (λrec v=>by kernel_rfl) k kJ
noncomputable def b0 (self:((List (List UInt8))×(List ai)×Int)->Option Out) (e0:(List ai)->Option Out) (l1:(List (List UInt8))->Int->((List ai)×Int)->Option Out) (J:Arg) (ab:(List (List UInt8))×(List ai)×Int):Option Out:=bif decide (ab.2.2 < (ab.1.length:Int)) then (l1 ab.1 ab.2.2 (ab.2.1,(0:Int))) else e0 ab.2.1
noncomputable def B0 (k:Nat) (self:((List (List UInt8))×(List ai)×Int)->Option Out) (e0:(List ai)->Option Out) (J:Arg) (ab:(List (List UInt8))×(List ai)×Int):Option Out:=b0 self e0 (r1 k self e0 J) J ab
theorem ld (k:Nat) (rec:RT Out) (K:KT Out) (J:Arg) (ab:(List (List UInt8))×(List ai)×Int):D.N k [1,1,0,1,0,0] (T0 J ab) (gQ rec (eG [0,3,4] []) K)=B0 k (S0 rec J) (dn K J) J ab:=
 Eq.trans (b:=b0 (S0 rec J) (dn K J) (s1 k rec K J) J ab) (by kernel_rfl) (by rw[lc];rfl)
noncomputable def q1 (J:Arg) (rI:(List ai)):Option Out:=some (rI,())
noncomputable abbrev Q1 (_:Nat):=q1
theorem rJ (k:Nat) (J:Arg) (rI:(List ai)):dn (ap 0 (aU (D.N k [1,1,1]) D.K0)) J rI=q1 J rI:=by kernel_rfl
noncomputable def s0 (k:Nat) (J:Arg):((List (List UInt8))×(List ai)×Int)->Option Out:=λab=>D.L k [1,1,0,1,0,0] [0,3,4] [] (ap 0 (aU (D.N k [1,1,1]) D.K0)) (T0 J ab)
noncomputable def r0 (k:Nat) (J:Arg):((List (List UInt8))×(List ai)×Int)->Option Out:=aD (λw v=>B0 k w (Q1 k J) J v) k
theorem aX (k:Nat) (J:Arg):s0 k J=r0 k J:=by
 funext ab;
 have h0:dn (ap 0 (aU (D.N k [1,1,1]) D.K0)) J=Q1 k J:=funext λz=>rJ k J z
 refine (aR _ _ _ (T0 J) (λself v=>B0 k self (dn (ap 0 (aU (D.N k [1,1,1]) D.K0)) J) J v) (λrec v=>ld k rec (ap 0 (aU (D.N k [1,1,1]) D.K0)) J v) k ab).trans ?_
 rw[h0]
 rfl
noncomputable def p (l0:((List (List UInt8))×(List ai)×Int)->Option Out) (J:Arg):Option Out:=l0 (J.1,([]:List ai),(0:Int))
theorem af (k:Nat) (J:Arg):@Eq (Option Out) (D.W k J) (p (r0 k J) J):=
 Eq.trans (b:=p (s0 k J) J) (by kernel_rfl) (by rw[aX])
theorem ok:Ok prog 119 D.sig:=ay func119 aI (by kernel_rfl) (fc a_.ok (fc aP.ok (fc fC.ok (fc dT.ok (an _)))))
end bX
namespace fZ
abbrev Arg:Type:=(List (List UInt8))×Int×Int×Unit
abbrev Out:Type:=k8×Bool×Unit
abbrev ps:PQ:=[(.ro,(.ae (.ae u8))),(.ro,i64),(.ro,i64)]
noncomputable def D:FD:={ fn:=f175,tl:=bi,ps:=ps,rs:=[(j0,(aw j0)),(.bool,(aw .bool))],gl:=[(76,dy.D.sig),(173,fC.D.sig),(174,dT.D.sig),(213,gR.D.sig)] }
noncomputable def aa (a:Arg):Option Out:=@lift Out λk=>D.W k a
noncomputable def p (J:Arg):Option Out:=(dy.aa (J.2.1,(0:Int),ag ((J.1.length:Int) - (1:Int)),())).bind λr2=>bif !r2.1 then (some (((0:Int),(0:Int),(0:Int),(0:Int),((0:Int),(0:Int),(0:Int),([]:List UInt8),()),()),false,())) else if 0<=J.2.1 then ((J.1[J.2.1.toNat]?).bind λx3=>(gR.aa (x3,J.2.2.1,())).bind λr4=>bif !r4.1 then (some (((0:Int),(0:Int),(0:Int),(0:Int),((0:Int),(0:Int),(0:Int),([]:List UInt8),()),()),false,())) else if 0<=J.2.1 then ((J.1[J.2.1.toNat]?).bind λx5=>(dT.aa (x5,J.2.2.1,())).bind λr6=>(fC.aa (r6.1,())).bind λr7=>some (r7.1,r7.2.1,())) else none) else none
theorem af (k:Nat) (J:Arg):@Eq (Option Out) (D.W k J) (p J):=by kernel_rfl
theorem ok:Ok prog 175 D.sig:=ay func175 aI (by kernel_rfl) (fc dy.ok (fc fC.ok (fc dT.ok (fc gR.ok (an _)))))
end fZ
namespace dp
abbrev Arg:Type:=(List (List UInt8))×Unit
abbrev Out:Type:=(List ai)×Unit
abbrev ps:PQ:=[(.ro,(.ae (.ae u8)))]
noncomputable def D:FD:={ fn:=f120,tl:=bi,ps:=ps,rs:=[((.ae cE),(ak (.ae cE)))],gl:=[(119,bX.D.sig),(175,fZ.D.sig)],lv:=[(4,[0,3,4,5])],lx:=[(0,[3]),(1,[0,3,4,5])] }
noncomputable def aa (a:Arg):Option Out:=@lift Out λk=>D.W k a
noncomputable def T0 (J:Arg) (eD:List ai) (aN:(List ai)×Int):St:={ n:=50,sl:=[(0,.val (.ae (.ae u8)) J.1),(3,.own (.ae cE) (ak (.ae cE)) [] aN.1),(4,.own (.ae cE) (ak (.ae cE)) [] eD),(5,.val i64 aN.2)],vr:=[],aF:=[] }
noncomputable def b0 (self:((List ai)×Int)->Option Out) (e0:(List ai)->Option Out) (J:Arg) (eD:List ai) (aN:(List ai)×Int):Option Out:=bif decide (aN.2 < (eD.length:Int)) then (if 0<=aN.2/\aN.2 < (eD.length:Int) then ((eD[aN.2.toNat]?).bind λfH=>bif decide (fH.2.2.1.2.1=(2:Int)) then (self (aN.1,ag (aN.2+(1:Int)))) else let PD:=λ(PE:ai)=>(if aN.1.length+[PE].length<=cJ then (self (aN.1++[PE],ag (aN.2+(1:Int)))) else none:Option Out);bif decide (fH.2.2.1.2.1=(1:Int)) then ((fZ.aa (J.1,fH.2.2.1.2.2.1,fH.2.2.1.2.2.2.1,())).bind λgN=>PD (fH.1,fH.2.1,(fH.2.2.1.1,fH.2.2.1.2.1,fH.2.2.1.2.2.1,fH.2.2.1.2.2.2.1,gN.1.2.2.2.2.1,fH.2.2.1.2.2.2.2.2),fH.2.2.2)) else PD fH) else none) else e0 aN.1
noncomputable abbrev B0 (_:Nat):=b0
noncomputable def q0 (J:Arg) (eD:List ai) (H8:(List ai)):Option Out:=some (H8,())
noncomputable abbrev Q0 (_:Nat):=q0
noncomputable def s0 (k:Nat) (J:Arg):(List ai)->((List ai)×Int)->Option Out:=λeD=>λaN=>D.L k [1,1,1,0,1,0,0] [0,3,4,5] [] (ap 0 (aU (D.N k [1,1,1,1]) D.K0)) (T0 J eD aN)
noncomputable def r0 (k:Nat) (J:Arg):(List ai)->((List ai)×Int)->Option Out:=λeD=>aD (λw v=>B0 k w (Q0 k J eD) J eD v) k
theorem aX (k:Nat) (J:Arg):s0 k J=r0 k J:=
 funext λeD=>funext λaN=>aR _ _ _ (T0 J eD) _ (λrec v=>by kernel_rfl) k aN
noncomputable def p (l0:(List ai)->((List ai)×Int)->Option Out) (J:Arg):Option Out:=(bX.aa (J.1,())).bind λr2=>l0 r2.1 (([]:List ai),(0:Int))
theorem af (k:Nat) (J:Arg):@Eq (Option Out) (D.W k J) (p (r0 k J) J):=
 Eq.trans (b:=p (s0 k J) J) (by kernel_rfl) (by rw[aX])
theorem ok:Ok prog 120 D.sig:=ay func120 aI (by kernel_rfl) (fc bX.ok (fc fZ.ok (an _)))
end dp
namespace dq
abbrev Arg:Type:=(List (List UInt8))×Int×Int×Unit
abbrev Out:Type:=ai×Bool×Unit
abbrev ps:PQ:=[(.ro,(.ae (.ae u8))),(.ro,i64),(.ro,i64)]
noncomputable def D:FD:={ fn:=f138,tl:=bi,ps:=ps,rs:=[(cE,(aw cE)),(.bool,(aw .bool))],gl:=[(120,dp.D.sig)],lv:=[(3,[1,2,6,8,9])],lx:=[(0,[6])] }
noncomputable def aa (a:Arg):Option Out:=@lift Out λk=>D.W k a
noncomputable def T0 (J:Arg) (eD:List ai) (aN:Int):St:={ n:=43,sl:=[(1,.val i64 J.2.1),(2,.val i64 J.2.2.1),(6,.box cE (aw cE) [] ((0:Int),(0:Int),((0:Int),(0:Int),(0:Int),(0:Int),((0:Int),(0:Int),(0:Int),([]:List UInt8),()),()),())),(8,.own (.ae cE) (ak (.ae cE)) [] eD),(9,.val i64 aN)],vr:=[],aF:=[] }
noncomputable def b0 (self:Int->Option Out) (e0:(Unit)->Option Out) (J:Arg) (eD:List ai) (aN:Int):Option Out:=bif decide (aN < (eD.length:Int)) then (if 0<=aN/\aN < (eD.length:Int) then ((eD[aN.toNat]?).bind λfH=>bif decide (fH.2.2.1.2.2.2.2.1.1=J.2.1) then (if 0<=aN/\aN < (eD.length:Int) then ((eD[aN.toNat]?).bind λsJ=>bif decide (sJ.2.2.1.2.2.2.2.1.2.1=J.2.2.1) then (if 0<=aN/\aN < (eD.length:Int) then ((eD[aN.toNat]?).bind λHW=>some (HW,true,())) else none) else self (ag (aN+(1:Int)))) else none) else self (ag (aN+(1:Int)))) else none) else e0 ()
noncomputable abbrev B0 (_:Nat):=b0
noncomputable def q0 (J:Arg) (eD:List ai) (kC:(Unit)):Option Out:=some (((0:Int),(0:Int),((0:Int),(0:Int),(0:Int),(0:Int),((0:Int),(0:Int),(0:Int),([]:List UInt8),()),()),()),false,())
noncomputable abbrev Q0 (_:Nat):=q0
noncomputable def s0 (k:Nat) (J:Arg):(List ai)->(Int)->Option Out:=λeD=>λaN=>D.L k [1,1,0,1,0,0] [1,2,6,8,9] [] (ap 0 (aU (D.N k [1,1,1]) D.K0)) (T0 J eD aN)
noncomputable def r0 (k:Nat) (J:Arg):(List ai)->(Int)->Option Out:=λeD=>aD (λw v=>B0 k w (Q0 k J eD) J eD v) k
theorem aX (k:Nat) (J:Arg):s0 k J=r0 k J:=
 funext λeD=>funext λaN=>aR _ _ _ (T0 J eD) _ (λrec v=>by kernel_rfl) k aN
noncomputable def p (l0:(List ai)->(Int)->Option Out) (J:Arg):Option Out:=(dp.aa (J.1,())).bind λr2=>l0 r2.1 (0:Int)
theorem af (k:Nat) (J:Arg):@Eq (Option Out) (D.W k J) (p (r0 k J) J):=
 Eq.trans (b:=p (s0 k J) J) (by kernel_rfl) (by rw[aX])
theorem ok:Ok prog 138 D.sig:=ay func138 aI (by kernel_rfl) (fc dp.ok (an _))
end dq
namespace bY
abbrev Arg:Type:=Int×Unit
abbrev Out:Type:=bI×Unit
abbrev ps:PQ:=[(.ro,i64)]
noncomputable def D:FD:={ fn:=f64,tl:=bi,ps:=ps,rs:=[(bd,(ak bd))] }
noncomputable def aa (a:Arg):Option Out:=@lift Out λk=>D.W k a
noncomputable def p (J:Arg):Option Out:=some ((J.1,([]:List bW),([]:List (List UInt8)),()),())
theorem af (k:Nat) (J:Arg):@Eq (Option Out) (D.W k J) (p J):=by kernel_rfl
theorem ok:Ok prog 64 D.sig:=ay func64 aI (by kernel_rfl) (an _)
end bY
namespace cB
abbrev Arg:Type:=(List (List UInt8))×Unit
abbrev Out:Type:=(List (List UInt8))×Unit
abbrev ps:PQ:=[(.ro,(.ae (.ae u8)))]
noncomputable def D:FD:={ fn:=f75,tl:=bi,ps:=ps,rs:=[((.ae (.ae u8)),(ak (.ae (.ae u8))))],gl:=[(77,bN.D.sig)],lv:=[(3,[0,3,4])],lx:=[(0,[3])] }
noncomputable def aa (a:Arg):Option Out:=@lift Out λk=>D.W k a
noncomputable def T0 (J:Arg) (ab:(List (List UInt8))×Int):St:={ n:=21,sl:=[(0,.val (.ae (.ae u8)) J.1),(3,.own (.ae (.ae u8)) (ak (.ae (.ae u8))) [] ab.1),(4,.val i64 ab.2)],vr:=[],aF:=[] }
noncomputable def b0 (self:((List (List UInt8))×Int)->Option Out) (e0:(List (List UInt8))->Option Out) (J:Arg) (ab:(List (List UInt8))×Int):Option Out:=bif decide (ab.2 < (J.1.length:Int)) then (if 0<=ab.2 then ((J.1[ab.2.toNat]?).bind λeC=>(bN.aa (eC,())).bind λft=>if ab.1.length+[ft.1].length<=cJ then (self (ab.1++[ft.1],ag (ab.2+(1:Int)))) else none) else none) else e0 ab.1
noncomputable abbrev B0 (_:Nat):=b0
noncomputable def q0 (J:Arg) (jP:(List (List UInt8))):Option Out:=some (jP,())
noncomputable abbrev Q0 (_:Nat):=q0
noncomputable def s0 (k:Nat) (J:Arg):((List (List UInt8))×Int)->Option Out:=λab=>D.L k [1,1,0,1,0,0] [0,3,4] [] (ap 0 (aU (D.N k [1,1,1]) D.K0)) (T0 J ab)
noncomputable def r0 (k:Nat) (J:Arg):((List (List UInt8))×Int)->Option Out:=aD (λw v=>B0 k w (Q0 k J) J v) k
theorem aX (k:Nat) (J:Arg):s0 k J=r0 k J:=
 funext λab=>aR _ _ _ (T0 J) _ (λrec v=>by kernel_rfl) k ab
noncomputable def p (l0:((List (List UInt8))×Int)->Option Out) (J:Arg):Option Out:=l0 (([]:List (List UInt8)),(0:Int))
theorem af (k:Nat) (J:Arg):@Eq (Option Out) (D.W k J) (p (r0 k J) J):=
 Eq.trans (b:=p (s0 k J) J) (by kernel_rfl) (by rw[aX])
theorem ok:Ok prog 75 D.sig:=ay func75 aI (by kernel_rfl) (fc bN.ok (an _))
end cB
namespace eN
abbrev Arg:Type:=(List (List UInt8))×Unit
abbrev Out:Type:=am×Unit
abbrev ps:PQ:=[(.ro,(.ae (.ae u8)))]
noncomputable def D:FD:={ fn:=f186,tl:=bi,ps:=ps,rs:=[((.ptr bc),(ak (.ptr bc)))],gl:=[(75,cB.D.sig)] }
noncomputable def aa (a:Arg):Option Out:=@lift Out λk=>D.W k a
noncomputable def p (J:Arg):Option Out:=(cB.aa (J.1,())).bind λr2=>some ((r2.1,([]:List bW),()),())
theorem af (k:Nat) (J:Arg):@Eq (Option Out) (D.W k J) (p J):=by kernel_rfl
theorem ok:Ok prog 186 D.sig:=ay func186 aI (by kernel_rfl) (fc cB.ok (an _))
end eN
namespace c7
abbrev Arg:Type:=am×Int×(List UInt8)×Unit
abbrev Out:Type:=am×Unit
abbrev ps:PQ:=[(.cZ (ak bc) (ak bc),bc),(.ro,i64),(.ro,(.ae u8))]
noncomputable def D:FD:={ fn:=f221,tl:=bi,ps:=ps,rs:=[],gl:=[(77,bN.D.sig)],es:=[0],od:=[(1,[0,1,2,3,4,5,6,7,8,9,10,11]),(2,[0,1,2,3,4,5,6,7,8,9,10]),(3,[0,1,2,3,4,5,6,7,8]),(4,[0,1,2,3,4,5,6,7,8,9,10,11,12,13])] }
noncomputable def aa (a:Arg):Option Out:=@lift Out λk=>D.W k a
noncomputable def p (J:Arg):Option Out:=let j9:=λ(p8:am)=>((bN.aa (J.2.2.1,())).bind λpA=>if p8.2.1.length+[(J.2.1,pA.1,())].length<=cJ then (some ((p8.1,p8.2.1++[(J.2.1,pA.1,())],p8.2.2),())) else none:Option Out);bif decide (J.2.1=(J.1.1.length:Int)) then ((bN.aa (J.2.2.1,())).bind λr2=>if J.1.1.length+[r2.1].length<=cJ then (j9 (J.1.1++[r2.1],J.1.2)) else none) else if 0<=J.2.1/\J.2.1 < (J.1.1.length:Int) then ((J.1.1[J.2.1.toNat]?).bind λx3=>(J.1.1[J.2.1.toNat]?).bind λx4=>bif decide (x4=J.2.2.1) then (some (J.1,())) else (bN.aa (J.2.2.1,())).bind λr5=>if 0<=J.2.1/\J.2.1 < (J.1.1.length:Int) then ((J.1.1[J.2.1.toNat]?).bind λx6=>j9 (J.1.1.set J.2.1.toNat r5.1,J.1.2)) else none) else none
theorem af (k:Nat) (J:Arg):@Eq (Option Out) (D.W k J) (p J):=by kernel_rfl
theorem ok:Ok prog 221 D.sig:=ay func221 aI (by kernel_rfl) (fc bN.ok (an _))
end c7
namespace ju
abbrev Arg:Type:=am×Int×(List UInt8)×Unit
abbrev Out:Type:=Int×Bool×am×Unit
abbrev ps:PQ:=[(.cZ (ak bc) (ak bc),bc),(.ro,i64),(.ro,(.ae u8))]
noncomputable def D:FD:={ fn:=f220,tl:=bi,ps:=ps,rs:=[(i64,(aw i64)),(.bool,(aw .bool))],gl:=[(167,cu.D.sig),(221,c7.D.sig),(224,bU.D.sig)],es:=[0] }
noncomputable def aa (a:Arg):Option Out:=@lift Out λk=>D.W k a
noncomputable def p (J:Arg):Option Out:=if 0<=J.2.1/\J.2.1 < (J.1.1.length:Int) then ((J.1.1[J.2.1.toNat]?).bind λx2=>(J.1.1[J.2.1.toNat]?).bind λx3=>(cu.aa (x3,J.2.2.1,())).bind λr4=>let JW:=λ(M2:am) (Ve:List UInt8) (Vf:Int) (M5:Int)=>(bif !decide (M5=(0:Int)) then (some ((0:Int),false,M2,())) else (c7.aa (M2,J.2.1,Ve,())).bind λPG=>some (Vf,true,PG.1,()):Option Out);bif decide (r4.2.2.1=(8:Int)) then (if 0<=J.2.1/\J.2.1 < (J.1.1.length:Int) then ((J.1.1[J.2.1.toNat]?).bind λx5=>(J.1.1[J.2.1.toNat]?).bind λx6=>(bU.aa (x6,())).bind λr7=>(c7.aa (J.1,J.2.1,r7.1,())).bind λr8=>if 0<=J.2.1/\J.2.1 < (r8.1.1.length:Int) then ((r8.1.1[J.2.1.toNat]?).bind λx9=>(r8.1.1[J.2.1.toNat]?).bind λGF=>(cu.aa (GF,J.2.2.1,())).bind λk_=>JW r8.1 k_.1 k_.2.1 k_.2.2.1) else none) else none) else JW J.1 r4.1 r4.2.1 r4.2.2.1) else none
theorem af (k:Nat) (J:Arg):@Eq (Option Out) (D.W k J) (p J):=by kernel_rfl
theorem ok:Ok prog 220 D.sig:=ay func220 aI (by kernel_rfl) (fc cu.ok (fc c7.ok (fc bU.ok (an _))))
end ju
namespace cW
abbrev Arg:Type:=am×Int×(List UInt8)×Unit
abbrev Out:Type:=Int×Int×Bool×am×Unit
abbrev ps:PQ:=[(.cZ (ak bc) (ak bc),bc),(.ro,i64),(.ro,(.ae u8))]
noncomputable def D:FD:={ fn:=f187,tl:=bi,ps:=ps,rs:=[(i64,(aw i64)),(i64,(aw i64)),(.bool,(aw .bool))],gl:=[(167,cu.D.sig),(203,c9.D.sig),(220,ju.D.sig),(221,c7.D.sig)],es:=[0],lv:=[(2,[0,1,2,9])],lx:=[(0,[0,2]),(1,[0,1,2,9])] }
noncomputable def aa (a:Arg):Option Out:=@lift Out λk=>D.W k a
noncomputable def T0 (J:Arg) (ab:am×Int):St:={ n:=65,sl:=[(0,.box bc (ak bc) [] ab.1),(1,.val i64 J.2.1),(2,.val (.ae u8) J.2.2.1),(9,.val i64 ab.2)],vr:=[],aF:=[(0,0,false)] }
noncomputable def b0 (self:(am×Int)->Option Out) (e0:am->Option Out) (J:Arg) (ab:am×Int):Option Out:=bif decide (ab.2 < (ab.1.1.length:Int)) then (bif decide (ab.2=J.2.1) then (self (ab.1,ag (ab.2+(1:Int)))) else (ju.aa (ab.1,ab.2,J.2.2.1,())).bind λuh=>bif uh.2.1 then (some (ab.2,uh.1,true,uh.2.2.1,())) else self (uh.2.2.1,ag (ab.2+(1:Int)))) else e0 ab.1
noncomputable abbrev B0 (_:Nat):=b0
noncomputable def q0 (J:Arg) (kQ:am):Option Out:=bif decide ((12:Int)<=(kQ.1.length:Int)) then (some ((0:Int),(0:Int),false,kQ,())) else (c9.aa ((0:UInt8),())).bind λlS=>(cu.aa (lS.1,J.2.2.1,())).bind λgN=>(c7.aa (kQ,(kQ.1.length:Int),gN.1,())).bind λfu=>some (ag ((fu.1.1.length:Int) - (1:Int)),gN.2.1,true,fu.1,())
noncomputable abbrev Q0 (_:Nat):=q0
noncomputable def s0 (k:Nat) (J:Arg):(am×Int)->Option Out:=λab=>D.L k [1,0,1,0,0] [0,1,2,9] [] (ap 0 (aU (D.N k [1,1]) D.K0)) (T0 J ab)
noncomputable def r0 (k:Nat) (J:Arg):(am×Int)->Option Out:=aD (λw v=>B0 k w (Q0 k J) J v) k
theorem aX (k:Nat) (J:Arg):s0 k J=r0 k J:=
 funext λab=>aR _ _ _ (T0 J) _ (λrec v=>by kernel_rfl) k ab
noncomputable def p (l0:(am×Int)->Option Out) (J:Arg):Option Out:=l0 (J.1,(0:Int))
theorem af (k:Nat) (J:Arg):@Eq (Option Out) (D.W k J) (p (r0 k J) J):=
 Eq.trans (b:=p (s0 k J) J) (by kernel_rfl) (by rw[aX])
theorem ok:Ok prog 187 D.sig:=ay func187 aI (by kernel_rfl) (fc cu.ok (fc c9.ok (fc ju.ok (fc c7.ok (an _)))))
end cW
namespace eu
abbrev Arg:Type:=am×Unit
abbrev Out:Type:=bI×Unit
abbrev ps:PQ:=[(.jX (ak bc),bc)]
noncomputable def D:FD:={ fn:=f188,tl:=bi,ps:=ps,rs:=[(bd,(ak bd))],fz:=[(1,3,7),(1,7,7)],od:=[(1,[0,1,2,3,4,5,6,7,8,9])] }
noncomputable def aa (a:Arg):Option Out:=@lift Out λk=>D.W k a
noncomputable def p (J:Arg):Option Out:=some (((0:Int),J.1.2.1,J.1.1,()),())
theorem af (k:Nat) (J:Arg):@Eq (Option Out) (D.W k J) (p J):=by kernel_rfl
theorem ok:Ok prog 188 D.sig:=ay func188 aI (by kernel_rfl) (an _)
end eu
namespace fU
abbrev Arg:Type:=(List (List UInt8))×Row×Unit
abbrev Out:Type:=bI×Unit
abbrev ps:PQ:=[(.ro,(.ae (.ae u8))),(.ro,(.ptr aE))]
noncomputable def D:FD:={ fn:=f139,tl:=bi,ps:=ps,rs:=[(bd,(ak bd))],gl:=[(64,bY.D.sig),(169,bO.D.sig),(186,eN.D.sig),(187,cW.D.sig),(188,eu.D.sig)] }
noncomputable def aa (a:Arg):Option Out:=@lift Out λk=>D.W k a
noncomputable def p (J:Arg):Option Out:=(eN.aa (J.1,())).bind λr2=>(bO.aa ((0:Int),J.2.1,())).bind λr3=>(cW.aa (r2.1,(-1:Int),r3.1,())).bind λr4=>bif !r4.2.2.1 then ((bY.aa ((9:Int),())).bind λr5=>some (r5.1,())) else (eu.aa (r4.2.2.2.1,())).bind λr6=>some (r6.1,())
theorem af (k:Nat) (J:Arg):@Eq (Option Out) (D.W k J) (p J):=by kernel_rfl
theorem ok:Ok prog 139 D.sig:=ay func139 aI (by kernel_rfl) (fc bY.ok (fc bO.ok (fc eN.ok (fc cW.ok (fc eu.ok (an _))))))
end fU
namespace gy
abbrev Arg:Type:=am×Int×Int×Unit
abbrev Out:Type:=am×Unit
abbrev ps:PQ:=[(.cZ (ak bc) (ak bc),bc),(.ro,i64),(.ro,i64)]
noncomputable def D:FD:={ fn:=f189,tl:=bi,ps:=ps,rs:=[],gl:=[(221,c7.D.sig),(222,fY.D.sig)],es:=[0] }
noncomputable def aa (a:Arg):Option Out:=@lift Out λk=>D.W k a
noncomputable def p (J:Arg):Option Out:=if 0<=J.2.1/\J.2.1 < (J.1.1.length:Int) then ((J.1.1[J.2.1.toNat]?).bind λx2=>(J.1.1[J.2.1.toNat]?).bind λx3=>(fY.aa (x3,J.2.2.1,())).bind λr4=>(c7.aa (J.1,J.2.1,r4.1,())).bind λr5=>some (r5.1,())) else none
theorem af (k:Nat) (J:Arg):@Eq (Option Out) (D.W k J) (p J):=by kernel_rfl
theorem ok:Ok prog 189 D.sig:=ay func189 aI (by kernel_rfl) (fc c7.ok (fc fY.ok (an _)))
end gy
namespace fV
abbrev Arg:Type:=(List (List UInt8))×ai×Unit
abbrev Out:Type:=bI×Unit
abbrev ps:PQ:=[(.ro,(.ae (.ae u8))),(.ro,(.ptr cE))]
noncomputable def D:FD:={ fn:=f140,tl:=bi,ps:=ps,rs:=[(bd,(ak bd))],gl:=[(186,eN.D.sig),(188,eu.D.sig),(189,gy.D.sig)],od:=[(2,[0,1,2,3,4,5,6,7,8,9]),(4,[0,1,2,3,4,5,6,7,8,9,10,11])] }
noncomputable def aa (a:Arg):Option Out:=@lift Out λk=>D.W k a
noncomputable def p (J:Arg):Option Out:=(eN.aa (J.1,())).bind λr2=>(gy.aa (r2.1,J.2.1.1,J.2.1.2.1,())).bind λr3=>bif decide (J.2.1.2.2.1.2.1=(1:Int)) then ((gy.aa (r3.1,J.2.1.2.2.1.2.2.1,J.2.1.2.2.1.2.2.2.1,())).bind λr4=>(eu.aa (r4.1,())).bind λr6=>some (r6.1,())) else (eu.aa (r3.1,())).bind λr7=>some (r7.1,())
theorem af (k:Nat) (J:Arg):@Eq (Option Out) (D.W k J) (p J):=by kernel_rfl
theorem ok:Ok prog 140 D.sig:=ay func140 aI (by kernel_rfl) (fc eN.ok (fc eu.ok (fc gy.ok (an _))))
end fV
namespace gD
abbrev Arg:Type:=am×Int×Int×(List UInt8)×Unit
abbrev Out:Type:=Bool×am×Unit
abbrev ps:PQ:=[(.cZ (ak bc) (ak bc),bc),(.ro,i64),(.ro,i64),(.ro,(.ae u8))]
noncomputable def D:FD:={ fn:=f191,tl:=bi,ps:=ps,rs:=[(.bool,(aw .bool))],gl:=[(221,c7.D.sig),(223,gS.D.sig),(224,bU.D.sig)],es:=[0] }
noncomputable def aa (a:Arg):Option Out:=@lift Out λk=>D.W k a
noncomputable def p (J:Arg):Option Out:=if 0<=J.2.1/\J.2.1 < (J.1.1.length:Int) then ((J.1.1[J.2.1.toNat]?).bind λx2=>(J.1.1[J.2.1.toNat]?).bind λx3=>(gS.aa (x3,J.2.2.1,J.2.2.2.1,())).bind λr4=>bif decide (r4.2.1=(8:Int)) then (if 0<=J.2.1/\J.2.1 < (J.1.1.length:Int) then ((J.1.1[J.2.1.toNat]?).bind λx5=>(J.1.1[J.2.1.toNat]?).bind λx6=>(bU.aa (x6,())).bind λr7=>(c7.aa (J.1,J.2.1,r7.1,())).bind λr8=>if 0<=J.2.1/\J.2.1 < (r8.1.1.length:Int) then ((r8.1.1[J.2.1.toNat]?).bind λx9=>(r8.1.1[J.2.1.toNat]?).bind λGF=>(gS.aa (GF,J.2.2.1,J.2.2.2.1,())).bind λk_=>bif !decide (k_.2.1=(0:Int)) then (some (false,r8.1,())) else (c7.aa (r8.1,J.2.1,k_.1,())).bind λsN=>some (true,sN.1,())) else none) else none) else bif !decide (r4.2.1=(0:Int)) then (some (false,J.1,())) else (c7.aa (J.1,J.2.1,r4.1,())).bind λsO=>some (true,sO.1,())) else none
theorem af (k:Nat) (J:Arg):@Eq (Option Out) (D.W k J) (p J):=by kernel_rfl
theorem ok:Ok prog 191 D.sig:=ay func191 aI (by kernel_rfl) (fc c7.ok (fc gS.ok (fc bU.ok (an _))))
end gD
namespace j_
abbrev Arg:Type:=am×ai×Row×Unit
abbrev Out:Type:=Bool×am×Unit
abbrev ps:PQ:=[(.cZ (ak bc) (ak bc),bc),(.ro,(.ptr cE)),(.ro,(.ptr aE))]
noncomputable def D:FD:={ fn:=f190,tl:=bi,ps:=ps,rs:=[(.bool,(aw .bool))],gl:=[(168,dH.D.sig),(169,bO.D.sig),(187,cW.D.sig),(189,gy.D.sig),(191,gD.D.sig)],es:=[0],od:=[(9,[0,1,2,3,4,5,6,7,8,9,10,11,12])] }
noncomputable def aa (a:Arg):Option Out:=@lift Out λk=>D.W k a
noncomputable def p (J:Arg):Option Out:=(bO.aa ((2:Int),J.2.2.1,())).bind λr2=>(gD.aa (J.1,J.2.1.2.2.1.2.2.1,J.2.1.2.2.1.2.2.2.1,r2.1,())).bind λr3=>bif r3.1 then (some (true,r3.2.1,())) else (cW.aa (r3.2.1,J.2.1.2.2.1.2.2.1,r2.1,())).bind λr4=>bif !r4.2.2.1 then (some (false,r4.2.2.2.1,())) else (dH.aa (r4.1,r4.2.1,())).bind λr5=>(gD.aa (r4.2.2.2.1,J.2.1.1,J.2.1.2.1,r5.1,())).bind λr6=>(gy.aa (r6.2.1,J.2.1.2.2.1.2.2.1,J.2.1.2.2.1.2.2.2.1,())).bind λr7=>some (true,r7.1,())
theorem af (k:Nat) (J:Arg):@Eq (Option Out) (D.W k J) (p J):=by kernel_rfl
theorem ok:Ok prog 190 D.sig:=ay func190 aI (by kernel_rfl) (fc dH.ok (fc bO.ok (fc cW.ok (fc gy.ok (fc gD.ok (an _))))))
end j_
namespace dZ
abbrev Arg:Type:=(List (List UInt8))×ai×Row×Unit
abbrev Out:Type:=bI×Unit
abbrev ps:PQ:=[(.ro,(.ae (.ae u8))),(.ro,(.ptr cE)),(.ro,(.ptr aE))]
noncomputable def D:FD:={ fn:=f141,tl:=bi,ps:=ps,rs:=[(bd,(ak bd))],gl:=[(64,bY.D.sig),(168,dH.D.sig),(169,bO.D.sig),(186,eN.D.sig),(187,cW.D.sig),(188,eu.D.sig),(190,j_.D.sig),(191,gD.D.sig)],od:=[(2,[0,1,2,3,4,5,6,7,8]),(8,[0,1,2,3,4,5,6,7,8,9,10,11]),(10,[0,1,2,3,4,5,6,7,8,9,10,11,12,13,14]),(13,[0,1,2,3,4,5,6,7,8,9,10,11,12])] }
noncomputable def aa (a:Arg):Option Out:=@lift Out λk=>D.W k a
noncomputable def p (J:Arg):Option Out:=(eN.aa (J.1,())).bind λr2=>bif (Ty.eq aE J.2.1.2.2.1.2.2.2.2.1 J.2.2.1) then ((eu.aa (r2.1,())).bind λr3=>some (r3.1,())) else bif decide (J.2.1.2.2.1.2.1=(1:Int)) then ((j_.aa (r2.1,J.2.1,J.2.2.1,())).bind λr4=>bif !r4.1 then ((bY.aa ((9:Int),())).bind λr5=>some (r5.1,())) else (eu.aa (r4.2.1,())).bind λr6=>some (r6.1,())) else (bO.aa ((0:Int),J.2.2.1,())).bind λr7=>(gD.aa (r2.1,J.2.1.1,J.2.1.2.1,r7.1,())).bind λr8=>bif r8.1 then ((eu.aa (r8.2.1,())).bind λr9=>some (r9.1,())) else (bO.aa ((2:Int),J.2.2.1,())).bind λpA=>(cW.aa (r8.2.1,J.2.1.1,pA.1,())).bind λk_=>bif !k_.2.2.1 then ((bY.aa ((9:Int),())).bind λpB=>some (pB.1,())) else (dH.aa (k_.1,k_.2.1,())).bind λsN=>(gD.aa (k_.2.2.2.1,J.2.1.1,J.2.1.2.1,sN.1,())).bind λsO=>(eu.aa (sO.2.1,())).bind λAl=>some (Al.1,())
theorem af (k:Nat) (J:Arg):@Eq (Option Out) (D.W k J) (p J):=by kernel_rfl
theorem ok:Ok prog 141 D.sig:=ay func141 aI (by kernel_rfl) (fc bY.ok (fc dH.ok (fc bO.ok (fc eN.ok (fc cW.ok (fc eu.ok (fc j_.ok (fc gD.ok (an _)))))))))
end dZ
namespace ef
abbrev Arg:Type:=aO×Unit
abbrev Out:Type:=(List (List UInt8))×aO×Unit
abbrev ps:PQ:=[(.cZ (aw bH) (aw bH),bH)]
noncomputable def D:FD:={ fn:=f116,tl:=bi,ps:=ps,rs:=[((.ae (.ae u8)),(ak (.ae (.ae u8))))],gl:=[(27,bp.D.sig),(51,aB.D.sig),(83,ep.D.sig),(138,dq.D.sig),(139,fU.D.sig),(140,fV.D.sig),(141,dZ.D.sig)],es:=[0],lv:=[(3,[0,3,4])],lx:=[(0,[0,3])] }
noncomputable def aa (a:Arg):Option Out:=@lift Out λk=>D.W k a
noncomputable def T0 (J:Arg) (aN:aO×(List (List UInt8))×Int):St:={ n:=46,sl:=[(0,.box bH (aw bH) [] aN.1),(3,.own (.ae (.ae u8)) (ak (.ae (.ae u8))) [] aN.2.1),(4,.val i64 aN.2.2)],vr:=[],aF:=[(0,0,false)] }
noncomputable def b0 (self:(aO×(List (List UInt8))×Int)->Option Out) (e0:(aO×(List (List UInt8)))->Option Out) (J:Arg) (aN:aO×(List (List UInt8))×Int):Option Out:=bif decide ((0:Int) < aN.2.2) then ((ep.aa (aN.1,())).bind λft=>(dq.aa (aN.2.1,ft.1.1,ft.1.2.1,())).bind λlS=>bif !lS.2.1 then ((fU.aa (aN.2.1,ft.1,())).bind λgN=>bif decide (gN.1.1=(0:Int)) then (self (ft.2.1,gN.1.2.2.1,ag (aN.2.2 - (1:Int)))) else self (ft.2.1,aN.2.1,ag (aN.2.2 - (1:Int)))) else (bp.aa (ft.2.1,(4:Int),())).bind λfu=>bif fu.1 then ((fV.aa (aN.2.1,lS.1,())).bind λjQ=>bif decide (jQ.1.1=(0:Int)) then (self (fu.2.1,jQ.1.2.2.1,ag (aN.2.2 - (1:Int)))) else self (fu.2.1,aN.2.1,ag (aN.2.2 - (1:Int)))) else (dZ.aa (aN.2.1,lS.1,ft.1,())).bind λsM=>bif decide (sM.1.1=(0:Int)) then (self (fu.2.1,sM.1.2.2.1,ag (aN.2.2 - (1:Int)))) else self (fu.2.1,aN.2.1,ag (aN.2.2 - (1:Int)))) else e0 (aN.1,aN.2.1)
noncomputable abbrev B0 (_:Nat):=b0
noncomputable def q0 (J:Arg) (H8:(aO×(List (List UInt8)))):Option Out:=some (H8.2,H8.1,())
noncomputable abbrev Q0 (_:Nat):=q0
noncomputable def s0 (k:Nat) (J:Arg):(aO×(List (List UInt8))×Int)->Option Out:=λaN=>D.L k [1,1,0,1,0,0] [0,3,4] [] (ap 0 (aU (D.N k [1,1,1]) D.K0)) (T0 J aN)
noncomputable def r0 (k:Nat) (J:Arg):(aO×(List (List UInt8))×Int)->Option Out:=aD (λw v=>B0 k w (Q0 k J) J v) k
theorem aX (k:Nat) (J:Arg):s0 k J=r0 k J:=
 funext λaN=>aR _ _ _ (T0 J) _ (λrec v=>by kernel_rfl) k aN
noncomputable def p (l0:(aO×(List (List UInt8))×Int)->Option Out) (J:Arg):Option Out:=(aB.aa (J.1,(16:Int),())).bind λr2=>l0 (r2.2.1,([]:List (List UInt8)),r2.1)
theorem af (k:Nat) (J:Arg):@Eq (Option Out) (D.W k J) (p (r0 k J) J):=
 Eq.trans (b:=p (s0 k J) J) (by kernel_rfl) (by rw[aX])
theorem ok:Ok prog 116 D.sig:=ay func116 aI (by kernel_rfl) (fc bp.ok (fc aB.ok (fc ep.ok (fc dq.ok (fc fU.ok (fc fV.ok (fc dZ.ok (an _))))))))
end ef
namespace gz
abbrev Arg:Type:=aO×Unit
abbrev Out:Type:=(List (List UInt8))×aO×Unit
abbrev ps:PQ:=[(.cZ (aw bH) (aw bH),bH)]
noncomputable def D:FD:={ fn:=f45,tl:=bi,ps:=ps,rs:=[((.ae (.ae u8)),(.ae true (aw (.ae u8))))],gl:=[(27,bp.D.sig),(115,j8.D.sig),(116,ef.D.sig)],es:=[0] }
noncomputable def aa (a:Arg):Option Out:=@lift Out λk=>D.W k a
noncomputable def p (J:Arg):Option Out:=(bp.aa (J.1,(6:Int),())).bind λr2=>bif r2.1 then ((j8.aa (r2.2.1,())).bind λr3=>some (r3.1,r3.2.1,())) else (ef.aa (r2.2.1,())).bind λr4=>some (r4.1,r4.2.1,())
theorem af (k:Nat) (J:Arg):@Eq (Option Out) (D.W k J) (p J):=by kernel_rfl
theorem ok:Ok prog 45 D.sig:=ay func45 aI (by kernel_rfl) (fc bp.ok (fc j8.ok (fc ef.ok (an _))))
end gz
namespace lu
abbrev Arg:Type:=(List UInt8)×Int×Unit
abbrev Out:Type:=Bool×Unit
abbrev ps:PQ:=[(.ro,(.ae u8)),(.ro,i64)]
noncomputable def D:FD:={ fn:=f209,tl:=bi,ps:=ps,rs:=[(.bool,(aw .bool))],gl:=[(172,aP.D.sig),(207,ek.D.sig),(212,cK.D.sig)] }
noncomputable def aa (a:Arg):Option Out:=@lift Out λk=>D.W k a
noncomputable def p (J:Arg):Option Out:=(cK.aa (J.1,J.2.1,())).bind λr2=>(aP.aa (J.1,J.2.1,())).bind λr3=>bif decide (r2.1=(0:Int)) then (some (decide (r2.1=r3.1),())) else bif decide (r3.1=(0:Int)) then (some (decide (r2.1=r3.1),())) else (ek.aa (J.1,())).bind λr4=>bif decide (r4.1<=r2.1) then (some (decide (ag (r2.1+r3.1)<=(64:Int)),())) else some (false,())
theorem af (k:Nat) (J:Arg):@Eq (Option Out) (D.W k J) (p J):=by kernel_rfl
theorem ok:Ok prog 209 D.sig:=ay func209 aI (by kernel_rfl) (fc aP.ok (fc ek.ok (fc cK.ok (an _))))
end lu
namespace jv
abbrev Arg:Type:=(List UInt8)×Int×Int×Unit
abbrev Out:Type:=Bool×Unit
abbrev ps:PQ:=[(.ro,(.ae u8)),(.ro,i64),(.ro,i64)]
noncomputable def D:FD:={ fn:=f210,tl:=bi,ps:=ps,rs:=[(.bool,(aw .bool))],gl:=[(172,aP.D.sig),(212,cK.D.sig)] }
noncomputable def aa (a:Arg):Option Out:=@lift Out λk=>D.W k a
noncomputable def p (J:Arg):Option Out:=(aP.aa (J.1,J.2.1,())).bind λr2=>bif decide (r2.1=(0:Int)) then (some (true,())) else (aP.aa (J.1,J.2.2.1,())).bind λr3=>bif decide (r3.1=(0:Int)) then (some (true,())) else (cK.aa (J.1,J.2.1,())).bind λr4=>(aP.aa (J.1,J.2.1,())).bind λr5=>(cK.aa (J.1,J.2.2.1,())).bind λr6=>bif decide (ag (r4.1+r5.1)<=r6.1) then (some (true,())) else (cK.aa (J.1,J.2.2.1,())).bind λr7=>(aP.aa (J.1,J.2.2.1,())).bind λr8=>(cK.aa (J.1,J.2.1,())).bind λr9=>some (decide (ag (r7.1+r8.1)<=r9.1),())
theorem af (k:Nat) (J:Arg):@Eq (Option Out) (D.W k J) (p J):=by kernel_rfl
theorem ok:Ok prog 210 D.sig:=ay func210 aI (by kernel_rfl) (fc aP.ok (fc cK.ok (an _)))
end jv
namespace be
abbrev Arg:Type:=(List UInt8)×Unit
abbrev Out:Type:=Int×Unit
abbrev ps:PQ:=[(.ro,(.ae u8))]
noncomputable def D:FD:={ fn:=f170,tl:=bi,ps:=ps,rs:=[(i64,(aw i64))],gl:=[(171,a_.D.sig),(172,aP.D.sig),(207,ek.D.sig),(209,lu.D.sig),(210,jv.D.sig)],lv:=[(7,[0,3,4]),(12,[0,3,5]),(15,[0,3,5,6])],lx:=[(0,[0,3]),(2,[0,3]),(4,[0,3,5])] }
noncomputable def aa (a:Arg):Option Out:=@lift Out λk=>D.W k a
noncomputable def T0 (J:Arg) (aZ:Int) (aG:Int):St:={ n:=60,sl:=[(0,.val (.ae u8) J.1),(3,.val i64 aZ),(4,.val i64 aG)],vr:=[],aF:=[] }
noncomputable def S0 (rec:RT Out) (J:Arg) (aZ:Int):(Int)->Option Out:=λaG=>rec (T0 J aZ aG)
noncomputable def dn (K:KT Out) (J:Arg) (aZ:Int):(Unit)->Option Out:=λz=>K (.exit 0) ({ n:=60,sl:=[(0,.val (.ae u8) J.1),(3,.val i64 aZ)],vr:=[],aF:=[] })
noncomputable def b0 (self:Int->Option Out) (e0:(Unit)->Option Out) (J:Arg) (aZ:Int) (aG:Int):Option Out:=bif decide (aG < aZ) then ((lu.aa (J.1,aG,())).bind λfu=>bif !fu.1 then (some ((3:Int),())) else self (ag (aG+(1:Int)))) else e0 ()
noncomputable abbrev B0 (_:Nat):=b0
theorem ld (k:Nat) (rec:RT Out) (K:KT Out) (J:Arg) (aZ:Int) (aG:Int):D.N k [1,1,1,1,0,1,0,0] (T0 J aZ aG) (gQ rec (eG [0,3,4] []) K)=b0 (S0 rec J aZ) (dn K J aZ) J aZ aG:=by kernel_rfl
noncomputable def T1 (J:Arg) (bg:(List UInt8)×Int×Int):St:={ n:=60,sl:=[(0,.val (.ae u8) bg.1),(3,.val i64 bg.2.1),(5,.val i64 bg.2.2)],vr:=[],aF:=[] }
noncomputable def S1 (rec:RT Out) (J:Arg):((List UInt8)×Int×Int)->Option Out:=λbg=>rec (T1 J bg)
noncomputable def lT (K:KT Out) (J:Arg):((List UInt8)×Int)->Option Out:=λz=>K (.exit 2) ({ n:=60,sl:=[(0,.val (.ae u8) z.1),(3,.val i64 z.2)],vr:=[],aF:=[] })
noncomputable def T2 (J:Arg) (gE:List UInt8) (iD:Int) (gT:Int) (rK:Int):St:={ n:=60,sl:=[(0,.val (.ae u8) gE),(3,.val i64 iD),(5,.val i64 gT),(6,.val i64 rK)],vr:=[],aF:=[] }
noncomputable def b2 (self:Int->Option Out) (e4:(Unit)->Option Out) (J:Arg) (gE:List UInt8) (iD:Int) (gT:Int) (rK:Int):Option Out:=bif decide (rK < gT) then ((jv.aa (gE,gT,rK,())).bind λQU=>bif !QU.1 then (some ((8:Int),())) else self (ag (rK+(1:Int)))) else e4 ()
noncomputable abbrev B2 (_:Nat):=b2
noncomputable def q1 (self:((List UInt8)×Int×Int)->Option Out) (e2:((List UInt8)×Int)->Option Out) (J:Arg) (gE:List UInt8) (iD:Int) (gT:Int) (C_:(Unit)):Option Out:=self (gE,iD,ag (gT+(1:Int)))
noncomputable abbrev Q1 (_:Nat):=q1
noncomputable def s2 (k:Nat) (rec:RT Out) (K:KT Out) (J:Arg):(List UInt8)->Int->Int->(Int)->Option Out:=λgE iD gT=>λrK=>D.L k [1,1,1,1,1,0,1,0,0,1,0,0,1,0,0] [0,3,5,6] [] (ap 4 (ap 3 (aU (D.N k [1,1,1,1,1,0,1,0,0,1,1]) (gQ rec (eG [0,3,5] []) K)))) (T2 J gE iD gT rK)
noncomputable def r2 (k:Nat) (self:((List UInt8)×Int×Int)->Option Out) (e2:((List UInt8)×Int)->Option Out) (J:Arg):(List UInt8)->Int->Int->(Int)->Option Out:=λgE iD gT=>aD (λw v=>B2 k w (Q1 k self e2 J gE iD gT) J gE iD gT v) k
theorem vE (k:Nat) (rec:RT Out) (K:KT Out) (J:Arg):s2 k rec K J=r2 k (S1 rec J) (lT K J) J:=
 funext λgE=>funext λiD=>funext λgT=>funext λrK=>aR _ _ _ (T2 J gE iD gT) _ (λrec v=>by kernel_rfl) k rK
noncomputable def b1 (self:((List UInt8)×Int×Int)->Option Out) (e2:((List UInt8)×Int)->Option Out) (l2:(List UInt8)->Int->Int->(Int)->Option Out) (J:Arg) (bg:(List UInt8)×Int×Int):Option Out:=bif decide (bg.2.2 < bg.2.1) then (l2 bg.1 bg.2.1 bg.2.2 (0:Int)) else e2 (bg.1,bg.2.1)
noncomputable def B1 (k:Nat) (self:((List UInt8)×Int×Int)->Option Out) (e2:((List UInt8)×Int)->Option Out) (J:Arg) (bg:(List UInt8)×Int×Int):Option Out:=b1 self e2 (r2 k self e2 J) J bg
theorem Ap (k:Nat) (rec:RT Out) (K:KT Out) (J:Arg) (bg:(List UInt8)×Int×Int):D.N k [1,1,1,1,1,0,1,0,0] (T1 J bg) (gQ rec (eG [0,3,5] []) K)=B1 k (S1 rec J) (lT K J) J bg:=
 Eq.trans (b:=b1 (S1 rec J) (lT K J) (s2 k rec K J) J bg) (by kernel_rfl) (by rw[vE];rfl)
noncomputable def q2 (J:Arg) (xZ:((List UInt8)×Int)):Option Out:=bif decide ((0:Int) < xZ.2) then ((aP.aa (xZ.1,ag (xZ.2 - (1:Int)),())).bind λQV=>bif decide (QV.1=(0:Int)) then (some ((8:Int),())) else some ((0:Int),())) else some ((0:Int),())
noncomputable abbrev Q2 (_:Nat):=q2
theorem vF (k:Nat) (J:Arg) (xZ:((List UInt8)×Int)):lT (ap 2 (aU (D.N k [1,1,1,1,1,1]) D.K0)) J xZ=q2 J xZ:=by kernel_rfl
noncomputable def s1 (k:Nat) (J:Arg) (aZ:Int):((List UInt8)×Int×Int)->Option Out:=λbg=>D.L k [1,1,1,1,1,0,1,0,0] [0,3,5] [] (ap 2 (aU (D.N k [1,1,1,1,1,1]) D.K0)) (T1 J bg)
noncomputable def r1 (k:Nat) (J:Arg) (aZ:Int):((List UInt8)×Int×Int)->Option Out:=aD (λw v=>B1 k w (Q2 k J) J v) k
theorem lc (k:Nat) (J:Arg) (aZ:Int):s1 k J aZ=r1 k J aZ:=by
 funext bg;
 have U:lT (ap 2 (aU (D.N k [1,1,1,1,1,1]) D.K0)) J=Q2 k J:=funext λz=>vF k J z
 refine (aR _ _ _ (T1 J) (λself v=>B1 k self (lT (ap 2 (aU (D.N k [1,1,1,1,1,1]) D.K0)) J) J v) (λrec v=>Ap k rec (ap 2 (aU (D.N k [1,1,1,1,1,1]) D.K0)) J v) k bg).trans ?_
 rw[U]
 rfl
noncomputable def q0 (l1:((List UInt8)×Int×Int)->Option Out) (J:Arg) (aZ:Int) (kC:(Unit)):Option Out:=l1 (J.1,aZ,(0:Int))
noncomputable def Q0 (k:Nat) (J:Arg) (aZ:Int) (kC:(Unit)):Option Out:=q0 (r1 k J aZ) J aZ kC
theorem vG (k:Nat) (J:Arg) (aZ:Int) (kC:(Unit)):dn (ap 0 (aU (D.N k [1,1,1,1,1]) D.K0)) J aZ kC=Q0 k J aZ kC:=
 Eq.trans (b:=q0 (s1 k J aZ) J aZ kC) (by kernel_rfl) (by rw[lc];rfl)
noncomputable def s0 (k:Nat) (J:Arg):Int->(Int)->Option Out:=λaZ=>λaG=>D.L k [1,1,1,1,0,1,0,0] [0,3,4] [] (ap 0 (aU (D.N k [1,1,1,1,1]) D.K0)) (T0 J aZ aG)
noncomputable def r0 (k:Nat) (J:Arg):Int->(Int)->Option Out:=λaZ=>aD (λw v=>B0 k w (Q0 k J aZ) J aZ v) k
theorem aX (k:Nat) (J:Arg):s0 k J=r0 k J:=by
 funext aZ;funext aG;
 have h0:dn (ap 0 (aU (D.N k [1,1,1,1,1]) D.K0)) J aZ=Q0 k J aZ:=funext λz=>vG k J aZ z
 refine (aR _ _ _ (T0 J aZ) (λself v=>B0 k self (dn (ap 0 (aU (D.N k [1,1,1,1,1]) D.K0)) J aZ) J aZ v) (λrec v=>ld k rec (ap 0 (aU (D.N k [1,1,1,1,1]) D.K0)) J aZ v) k aG).trans ?_
 rw[h0]
 rfl
noncomputable def p (l0:Int->(Int)->Option Out) (J:Arg):Option Out:=bif !decide ((J.1.length:Int)=(64:Int)) then (some ((1:Int),())) else (a_.aa (J.1,())).bind λr2=>bif decide ((16:Int) < r2.1) then (some ((3:Int),())) else (ek.aa (J.1,())).bind λr3=>bif decide (r3.1 < ag ((2:Int)+(ag ((2:Int)*r2.1)))) then (some ((3:Int),())) else (ek.aa (J.1,())).bind λr4=>bif decide ((64:Int) < r4.1) then (some ((3:Int),())) else l0 r2.1 (0:Int)
theorem af (k:Nat) (J:Arg):@Eq (Option Out) (D.W k J) (p (r0 k J) J):=
 Eq.trans (b:=p (s0 k J) J) (by kernel_rfl) (by rw[aX])
theorem ok:Ok prog 170 D.sig:=ay func170 aI (by kernel_rfl) (fc a_.ok (fc aP.ok (fc ek.ok (fc lu.ok (fc jv.ok (an _))))))
end be
namespace cC
abbrev Arg:Type:=(List (List UInt8))×Unit
abbrev Out:Type:=Int×Unit
abbrev ps:PQ:=[(.ro,(.ae (.ae u8)))]
noncomputable def D:FD:={ fn:=f117,tl:=bi,ps:=ps,rs:=[(i64,(aw i64))],gl:=[(170,be.D.sig),(171,a_.D.sig),(172,aP.D.sig),(173,fC.D.sig),(174,dT.D.sig)],lv:=[(2,[0,3]),(8,[0,3,5])],lx:=[(0,[]),(2,[0,3])] }
noncomputable def aa (a:Arg):Option Out:=@lift Out λk=>D.W k a
noncomputable def T0 (J:Arg) (ab:(List (List UInt8))×Int):St:={ n:=50,sl:=[(0,.val (.ae (.ae u8)) ab.1),(3,.val i64 ab.2)],vr:=[],aF:=[] }
noncomputable def S0 (rec:RT Out) (J:Arg):((List (List UInt8))×Int)->Option Out:=λab=>rec (T0 J ab)
noncomputable def dn (K:KT Out) (J:Arg):(Unit)->Option Out:=λz=>K (.exit 0) ({ n:=50,sl:=[],vr:=[],aF:=[] })
noncomputable def T1 (J:Arg) (eO:List (List UInt8)) (dA:Int) (cz:Int):St:={ n:=50,sl:=[(0,.val (.ae (.ae u8)) eO),(3,.val i64 dA),(5,.val i64 cz)],vr:=[],aF:=[] }
noncomputable def b1 (self:Int->Option Out) (e2:(Unit)->Option Out) (J:Arg) (eO:List (List UInt8)) (dA:Int) (cz:Int):Option Out:=if 0<=dA then ((eO[dA.toNat]?).bind λH6=>(a_.aa (H6,())).bind λH7=>bif decide (cz < H7.1) then (if 0<=dA then ((eO[dA.toNat]?).bind λAn=>(aP.aa (An,cz,())).bind λAo=>bif decide ((0:Int) < Ao.1) then (if 0<=dA then ((eO[dA.toNat]?).bind λAq=>(dT.aa (Aq,cz,())).bind λiE=>(fC.aa (iE.1,())).bind λH9=>bif !H9.2.1 then (some ((5:Int),())) else self (ag (cz+(1:Int)))) else none) else self (ag (cz+(1:Int)))) else none) else e2 ()) else none
noncomputable abbrev B1 (_:Nat):=b1
noncomputable def q0 (self:((List (List UInt8))×Int)->Option Out) (e0:(Unit)->Option Out) (J:Arg) (eO:List (List UInt8)) (dA:Int) (rI:(Unit)):Option Out:=self (eO,ag (dA+(1:Int)))
noncomputable abbrev Q0 (_:Nat):=q0
noncomputable def s1 (k:Nat) (rec:RT Out) (K:KT Out) (J:Arg):(List (List UInt8))->Int->(Int)->Option Out:=λeO dA=>λcz=>D.L k [1,0,1,0,0,1,0,0,1,1,0,0] [0,3,5] [] (ap 2 (ap 1 (aU (D.N k [1,0,1,0,0,1,1]) (gQ rec (eG [0,3] []) K)))) (T1 J eO dA cz)
noncomputable def r1 (k:Nat) (self:((List (List UInt8))×Int)->Option Out) (e0:(Unit)->Option Out) (J:Arg):(List (List UInt8))->Int->(Int)->Option Out:=λeO dA=>aD (λw v=>B1 k w (Q0 k self e0 J eO dA) J eO dA v) k
theorem lc (k:Nat) (rec:RT Out) (K:KT Out) (J:Arg):s1 k rec K J=r1 k (S0 rec J) (dn K J) J:=
 funext λeO=>funext λdA=>funext λcz=>aR _ _ _ (T1 J eO dA) _ (λrec v=>by kernel_rfl) k cz
noncomputable def b0 (self:((List (List UInt8))×Int)->Option Out) (e0:(Unit)->Option Out) (l1:(List (List UInt8))->Int->(Int)->Option Out) (J:Arg) (ab:(List (List UInt8))×Int):Option Out:=bif decide (ab.2 < (ab.1.length:Int)) then (if 0<=ab.2 then ((ab.1[ab.2.toNat]?).bind λeC=>(be.aa (eC,())).bind λft=>bif !decide (ft.1=(0:Int)) then (some (ft.1,())) else l1 ab.1 ab.2 (0:Int)) else none) else e0 ()
noncomputable def B0 (k:Nat) (self:((List (List UInt8))×Int)->Option Out) (e0:(Unit)->Option Out) (J:Arg) (ab:(List (List UInt8))×Int):Option Out:=b0 self e0 (r1 k self e0 J) J ab
theorem ld (k:Nat) (rec:RT Out) (K:KT Out) (J:Arg) (ab:(List (List UInt8))×Int):D.N k [1,0,1,0,0] (T0 J ab) (gQ rec (eG [0,3] []) K)=B0 k (S0 rec J) (dn K J) J ab:=
 Eq.trans (b:=b0 (S0 rec J) (dn K J) (s1 k rec K J) J ab) (by kernel_rfl) (by rw[lc];rfl)
noncomputable def q1 (J:Arg) (Da:(Unit)):Option Out:=some ((0:Int),())
noncomputable abbrev Q1 (_:Nat):=q1
theorem rJ (k:Nat) (J:Arg) (Da:(Unit)):dn (ap 0 (aU (D.N k [1,1]) D.K0)) J Da=q1 J Da:=by kernel_rfl
noncomputable def s0 (k:Nat) (J:Arg):((List (List UInt8))×Int)->Option Out:=λab=>D.L k [1,0,1,0,0] [0,3] [] (ap 0 (aU (D.N k [1,1]) D.K0)) (T0 J ab)
noncomputable def r0 (k:Nat) (J:Arg):((List (List UInt8))×Int)->Option Out:=aD (λw v=>B0 k w (Q1 k J) J v) k
theorem aX (k:Nat) (J:Arg):s0 k J=r0 k J:=by
 funext ab;
 have h0:dn (ap 0 (aU (D.N k [1,1]) D.K0)) J=Q1 k J:=funext λz=>rJ k J z
 refine (aR _ _ _ (T0 J) (λself v=>B0 k self (dn (ap 0 (aU (D.N k [1,1]) D.K0)) J) J v) (λrec v=>ld k rec (ap 0 (aU (D.N k [1,1]) D.K0)) J v) k ab).trans ?_
 rw[h0]
 rfl
noncomputable def p (l0:((List (List UInt8))×Int)->Option Out) (J:Arg):Option Out:=l0 (J.1,(0:Int))
theorem af (k:Nat) (J:Arg):@Eq (Option Out) (D.W k J) (p (r0 k J) J):=
 Eq.trans (b:=p (s0 k J) J) (by kernel_rfl) (by rw[aX])
theorem ok:Ok prog 117 D.sig:=ay func117 aI (by kernel_rfl) (fc be.ok (fc a_.ok (fc aP.ok (fc fC.ok (fc dT.ok (an _))))))
end cC
namespace bt
abbrev Arg:Type:=(List ai)×(List (List UInt8))×Unit
abbrev Out:Type:=Int×Unit
abbrev ps:PQ:=[(.ro,(.ae cE)),(.ro,(.ae (.ae u8)))]
noncomputable def D:FD:={ fn:=f118,tl:=bi,ps:=ps,rs:=[(i64,(aw i64))],gl:=[(175,fZ.D.sig)],lv:=[(2,[0,1,5]),(9,[0,8]),(12,[0,8,9])],lx:=[(0,[0]),(1,[0,1,5]),(2,[]),(4,[0,8])],od:=[(5,[0,1,2,3,4,5,6,7,8,9,10,11,12,13,14,15,16,17,18,19]),(16,[0,1,2,3,4,5,6,7,8,9,10,11,12,13,14,15,16,17,18,19,20,21,22,23,24,25,26,27,28,29,30,31,32,33])],ar:=[(5,[6,12])],pd:=[(5,[17])] }
noncomputable def aa (a:Arg):Option Out:=@lift Out λk=>D.W k a
noncomputable def T0 (J:Arg) (ab:Int):St:={ n:=102,sl:=[(0,.val (.ae cE) J.1),(1,.val (.ae (.ae u8)) J.2.1),(5,.val i64 ab)],vr:=[],aF:=[] }
noncomputable def S0 (rec:RT Out) (J:Arg):(Int)->Option Out:=λab=>rec (T0 J ab)
noncomputable def dn (K:KT Out) (J:Arg):(Unit)->Option Out:=λz=>K (.exit 0) ({ n:=102,sl:=[(0,.val (.ae cE) J.1)],vr:=[],aF:=[] })
noncomputable def b0 (self:Int->Option Out) (e0:(Unit)->Option Out) (J:Arg) (ab:Int):Option Out:=bif decide (ab < (J.1.length:Int)) then (if 0<=ab then ((J.1[ab.toNat]?).bind λeC=>bif !decide (eC.2.2.1.2.1=(1:Int)) then (self (ag (ab+(1:Int)))) else if 0<=ab then ((J.1[ab.toNat]?).bind λkB=>if 0<=ab then ((J.1[ab.toNat]?).bind λfH=>(fZ.aa (J.2.1,kB.2.2.1.2.2.1,fH.2.2.1.2.2.2.1,())).bind λgN=>bif !gN.2.1 then (some ((4:Int),())) else bif !decide (gN.1.2.1=(2:Int)) then (some ((4:Int),())) else self (ag (ab+(1:Int)))) else none) else none) else none) else e0 ()
noncomputable abbrev B0 (_:Nat):=b0
theorem ld (k:Nat) (rec:RT Out) (K:KT Out) (J:Arg) (ab:Int):D.N k [1,0,1,0,0] (T0 J ab) (gQ rec (eG [0,1,5] []) K)=b0 (S0 rec J) (dn K J) J ab:=by kernel_rfl
noncomputable def T1 (J:Arg) (jS:(List ai)×Int):St:={ n:=102,sl:=[(0,.val (.ae cE) jS.1),(8,.val i64 jS.2)],vr:=[],aF:=[] }
noncomputable def S1 (rec:RT Out) (J:Arg):((List ai)×Int)->Option Out:=λjS=>rec (T1 J jS)
noncomputable def lT (K:KT Out) (J:Arg):(Unit)->Option Out:=λz=>K (.exit 2) ({ n:=102,sl:=[],vr:=[],aF:=[] })
noncomputable def T2 (J:Arg) (nN:List ai) (gE:Int) (nO:Int):St:={ n:=102,sl:=[(0,.val (.ae cE) nN),(8,.val i64 gE),(9,.val i64 nO)],vr:=[],aF:=[] }
noncomputable def b2 (self:Int->Option Out) (e4:(Unit)->Option Out) (J:Arg) (nN:List ai) (gE:Int) (nO:Int):Option Out:=bif decide (nO < gE) then (if 0<=gE then ((nN[gE.toNat]?).bind λH_=>if 0<=nO then ((nN[nO.toNat]?).bind λIa=>bif decide (H_.2.2.1.2.1=(1:Int)) then (bif decide (Ia.2.2.1.2.1=(1:Int)) then (bif decide (H_.2.2.1.2.2.1=Ia.2.2.1.2.2.1) then (bif decide (H_.2.2.1.2.2.2.1=Ia.2.2.1.2.2.2.1) then (some ((6:Int),())) else self (ag (nO+(1:Int)))) else self (ag (nO+(1:Int)))) else self (ag (nO+(1:Int)))) else self (ag (nO+(1:Int)))) else none) else none) else e4 ()
noncomputable abbrev B2 (_:Nat):=b2
noncomputable def q1 (self:((List ai)×Int)->Option Out) (e2:(Unit)->Option Out) (J:Arg) (nN:List ai) (gE:Int) (Wd:(Unit)):Option Out:=self (nN,ag (gE+(1:Int)))
noncomputable abbrev Q1 (_:Nat):=q1
noncomputable def s2 (k:Nat) (rec:RT Out) (K:KT Out) (J:Arg):(List ai)->Int->(Int)->Option Out:=λnN gE=>λnO=>D.L k [1,1,0,1,0,0,1,0,0,1,0,0] [0,8,9] [] (ap 4 (ap 3 (aU (D.N k [1,1,0,1,0,0,1,1]) (gQ rec (eG [0,8] []) K)))) (T2 J nN gE nO)
noncomputable def r2 (k:Nat) (self:((List ai)×Int)->Option Out) (e2:(Unit)->Option Out) (J:Arg):(List ai)->Int->(Int)->Option Out:=λnN gE=>aD (λw v=>B2 k w (Q1 k self e2 J nN gE) J nN gE v) k
theorem vE (k:Nat) (rec:RT Out) (K:KT Out) (J:Arg):s2 k rec K J=r2 k (S1 rec J) (lT K J) J:=
 funext λnN=>funext λgE=>funext λnO=>aR _ _ _ (T2 J nN gE) _ (λrec v=>by kernel_rfl) k nO
noncomputable def b1 (self:((List ai)×Int)->Option Out) (e2:(Unit)->Option Out) (l2:(List ai)->Int->(Int)->Option Out) (J:Arg) (jS:(List ai)×Int):Option Out:=bif decide (jS.2 < (jS.1.length:Int)) then (l2 jS.1 jS.2 (0:Int)) else e2 ()
noncomputable def B1 (k:Nat) (self:((List ai)×Int)->Option Out) (e2:(Unit)->Option Out) (J:Arg) (jS:(List ai)×Int):Option Out:=b1 self e2 (r2 k self e2 J) J jS
theorem Ap (k:Nat) (rec:RT Out) (K:KT Out) (J:Arg) (jS:(List ai)×Int):D.N k [1,1,0,1,0,0] (T1 J jS) (gQ rec (eG [0,8] []) K)=B1 k (S1 rec J) (lT K J) J jS:=
 Eq.trans (b:=b1 (S1 rec J) (lT K J) (s2 k rec K J) J jS) (by kernel_rfl) (by rw[vE];rfl)
noncomputable def q2 (J:Arg) (C_:(Unit)):Option Out:=some ((0:Int),())
noncomputable abbrev Q2 (_:Nat):=q2
theorem vF (k:Nat) (J:Arg) (C_:(Unit)):lT (ap 2 (aU (D.N k [1,1,1]) D.K0)) J C_=q2 J C_:=by kernel_rfl
noncomputable def s1 (k:Nat) (J:Arg):((List ai)×Int)->Option Out:=λjS=>D.L k [1,1,0,1,0,0] [0,8] [] (ap 2 (aU (D.N k [1,1,1]) D.K0)) (T1 J jS)
noncomputable def r1 (k:Nat) (J:Arg):((List ai)×Int)->Option Out:=aD (λw v=>B1 k w (Q2 k J) J v) k
theorem lc (k:Nat) (J:Arg):s1 k J=r1 k J:=by
 funext jS;
 have U:lT (ap 2 (aU (D.N k [1,1,1]) D.K0)) J=Q2 k J:=funext λz=>vF k J z
 refine (aR _ _ _ (T1 J) (λself v=>B1 k self (lT (ap 2 (aU (D.N k [1,1,1]) D.K0)) J) J v) (λrec v=>Ap k rec (ap 2 (aU (D.N k [1,1,1]) D.K0)) J v) k jS).trans ?_
 rw[U]
 rfl
noncomputable def q0 (l1:((List ai)×Int)->Option Out) (J:Arg) (mS:(Unit)):Option Out:=l1 (J.1,(0:Int))
noncomputable def Q0 (k:Nat) (J:Arg) (mS:(Unit)):Option Out:=q0 (r1 k J) J mS
theorem vG (k:Nat) (J:Arg) (mS:(Unit)):dn (ap 0 (aU (D.N k [1,1]) D.K0)) J mS=Q0 k J mS:=
 Eq.trans (b:=q0 (s1 k J) J mS) (by kernel_rfl) (by rw[lc];rfl)
noncomputable def s0 (k:Nat) (J:Arg):(Int)->Option Out:=λab=>D.L k [1,0,1,0,0] [0,1,5] [] (ap 0 (aU (D.N k [1,1]) D.K0)) (T0 J ab)
noncomputable def r0 (k:Nat) (J:Arg):(Int)->Option Out:=aD (λw v=>B0 k w (Q0 k J) J v) k
theorem aX (k:Nat) (J:Arg):s0 k J=r0 k J:=by
 funext ab;
 have h0:dn (ap 0 (aU (D.N k [1,1]) D.K0)) J=Q0 k J:=funext λz=>vG k J z
 refine (aR _ _ _ (T0 J) (λself v=>B0 k self (dn (ap 0 (aU (D.N k [1,1]) D.K0)) J) J v) (λrec v=>ld k rec (ap 0 (aU (D.N k [1,1]) D.K0)) J v) k ab).trans ?_
 rw[h0]
 rfl
noncomputable def p (l0:(Int)->Option Out) (J:Arg):Option Out:=l0 (0:Int)
theorem af (k:Nat) (J:Arg):@Eq (Option Out) (D.W k J) (p (r0 k J) J):=
 Eq.trans (b:=p (s0 k J) J) (by kernel_rfl) (by rw[aX])
theorem ok:Ok prog 118 D.sig:=ay func118 aI (by kernel_rfl) (fc fZ.ok (an _))
end bt
end OT
