/- The proof's parts, merged: strconv.FormatInt at base 10 and strings.Split as contracts of this framework.. No conditions but those that each states. -/
import Derived.Test.YteljaioipnoakaaDoorVc
import Derived.Shelf.Strconv.Itoa4
import Derived.Shelf.Strings.SplitShaped
import Derived.Test.YteljaioipnoakaaDoorProg
import Derived.KernelRfl
import Derived.Lib.IndexBytes
import Derived.Lib.IndexLaws
import Derived.Lib.CountLaws
import Derived.Lib.CutLaws
import Derived.Lib.Split
set_option linter.unusedVariables false
set_option linter.unusedSimpArgs false
namespace OT
open Go Go.Shelf Go.RowKit Go.Lib Go.Proofs
section
variable {P:Program} {ρ:Ren}
noncomputable def splitF (v:List UInt8×List UInt8×Unit):Option (List (List UInt8)×Unit):=if 1<=v.2.1.length/\v.1.length < 4294967281 then some ((splitB ⟨v.2.1.toArray⟩ 0 (countB ⟨v.1.toArray⟩ ⟨v.2.1.toArray⟩) ⟨v.1.toArray⟩).map fun b=>b.data.toList,()) else none
theorem split_ok (L:LaysM.n146 P ρ) (hT:(P.globalNamed "internal/bytealg.MaxLen").isSome=true) (hg:ρ.g 1 < P.globals.size) (he:EnterOk P (ρ.f 146) false) :
  Ok P (ρ.f 146) { ps:=[(.ro,.str),(.ro,.str)],rs:=[(.slc .str,roMd (.slc .str))],F:=splitF }:=by
 refine ⟨?_,he⟩
 intro w A F0 v xs hargs hle hdis hbnd htab out hout
 obtain ⟨sl,sepl,⟨⟩⟩:=v
 obtain ⟨x,xs',F1,F2,rfl,hF,⟨cs,rfl,hn⟩,x2,xs'',F3,F4,rfl,hF2,⟨cs2,rfl,hb⟩,hnil⟩:=hargs
 have hnil:xs''=[]:=hnil
 subst hnil
 have hn:cs=[.string ⟨List.toArray sl⟩]:=hn
 have hb:cs2=[.string ⟨List.toArray sepl⟩]:=hb
 subst hn;subst hb
 have hout:splitF (sl,sepl,())=some out:=hout
 unfold splitF at hout
 split at hout
 rotate_left
 ·cases hout
 rename_i hc
 obtain ⟨hc1,hc2⟩:=hc
 injection hout with hout
 subst hout
 obtain ⟨⟨w0,⟨g1,_⟩,hw⟩,_,_⟩:=htab (by simp[hasTab,hT])
 obtain ⟨m,hm⟩:=L.s1_3 w0 g1
 have hm:w.cell? ⟨ρ.g 1,0,none⟩=some (.int .i64 m):=by
  grind [World.cell?]
 obtain ⟨s,hs⟩:∃ s:ByteArray,s=⟨List.toArray sl⟩:=⟨_,rfl⟩
 obtain ⟨sep,hsep⟩:∃ s:ByteArray,s=⟨List.toArray sepl⟩:=⟨_,rfl⟩
 have h1:1<=sep.size:=by rw[hsep];show 1<=(List.toArray sepl).size;simpa using hc1
 have h2:s.size < 4294967281:=by rw[hs];show (List.toArray sl).size < _;simpa using hc2
 have hlen:=splitB_all sep h1 0 _ s rfl
 have hk:=Any.strings_Split { L with } L.i9 s sep m w h2 hm h1
 rw[hs,hsep] at hk
 refine hk.mono ?_
 rw[<-hs,<- hsep]
 rintro ex w' ⟨rfl,rfl⟩
 have hx:=ext_alloc w (.cells ((splitB sep 0 (countB s sep) s).map Value.string).toArray (ρ.t 9))
 refine ⟨_,rfl,hx.mono fun _ _ _=>rfl,fun b i=>A b i\/b=w.heap.size,fun _ _=>0,fun _ _=>0,fun _ _=>0,fun _ _ h=>.inl h,fun b i h=>?_,fun _ _ h=>absurd h (Nat.not_succ_le_zero 0),fun _ _=>Nat.zero_le _,fun _ _ h=>absurd h (Nat.not_succ_le_zero 0),fun b i h=>?_,fun _ _=>Nat.zero_le _,?_,trivial⟩
 ·grind
 ·rcases h.resolve_left (Nat.not_succ_le_zero 0) with h | h
  ·exact Nat.lt_of_lt_of_le (hbnd b i (.inr h)) hx.size
  simp_all
 ·refine ⟨[.slice (some ⟨w.heap.size,0,none⟩) (countB s sep+1) (countB s sep+1)],rfl,?_⟩
  have hl:((splitB sep 0 (countB s sep) s).map fun b=>b.data.toList).length=countB s sep+1:=by grind
  show Rep P _ _ (.slc .str) _ [] _ _ _
  simp only[Rep,hole,List.any_nil,Bool.false_eq_true,if_false]
  refine ⟨trivial,rfl,some ⟨w.heap.size,0,none⟩,countB s sep+1,by rw[<-hl],Nat.le_of_eq hl,(fun h=>by cases h),fun ad had=>?_⟩
  injection had with had
  subst had
  refine ⟨fun _=>rfl,fun i x hx'=>⟨[.string ⟨List.toArray x⟩],rfl,fun j u hu=>⟨?_,.inr rfl⟩,rfl⟩⟩
  have hj:j=0:=by
   grind
  subst hj
  simp only[List.getElem?_cons_zero,Option.some.injEq] at hu
  subst hu
  rw[List.getElem?_map,Option.map_eq_some_iff] at hx'
  obtain ⟨y,hy,rfl⟩:=hx'
  show ce _ w.heap.size (0+i*1+0)=some (.string y)
  rw[show 0+i*1+0=i+0 by omega]
  refine has_alloc w _ _ _ (k:=i) (L:=[.string y]) (fun j u hu=>?_) (fun u hu=>?_) 0 _ rfl
  ·grind
  ·simp only[List.mem_singleton] at hu
   subst hu;rfl
end
end OT
set_option maxRecDepth 100000
set_option linter.unusedVariables false
namespace OT
open Go Go.Proofs.Tryd
abbrev WordsResult:Type:=(Int×(List (List UInt8))×Unit)
abbrev tWordsResult:Ty:=(tupT [i64,(.slc .str)])
noncomputable def TL0:TL:=[(22,(.slc .str)),(9,.str),(24,tWordsResult),(2,i64),(3,i64),(5,u8),(36,(.slc u8))]
theorem tlOk:(tiOk prog TL0&&eqOkL prog TL0)=true:=by kernel_rfl
namespace spec_l1Cut
abbrev Arg:Type:=(List UInt8)×UInt8×Unit
abbrev Out:Type:=(List (List UInt8))×Unit
abbrev ps:PQ:=[(.ro,.str),(.ro,u8)]
noncomputable def D:FD:={ fn:=f14,tl:=TL0,ps:=ps,rs:=[((.slc .str),(ownMd (.slc .str)))],lv:=[(4,[0,1,5,6,7])],lx:=[(0,[5])] }
noncomputable def sem (a:Arg):Option Out:=@lift Out fun k=>D.W k a
noncomputable def T0 (a1:Arg) (v402:(List (List UInt8))×Int×Int):St:={ n:=36,sl:=[(0,.val .str a1.1),(1,.val u8 a1.2.1),(5,.own (.slc .str) (ownMd (.slc .str)) [] v402.1),(6,.val i64 v402.2.1),(7,.val i64 v402.2.2)],vr:=[],lent:=[] }
noncomputable def b0 (self:((List (List UInt8))×Int×Int)->Option Out) (e0:(List (List UInt8))->Option Out) (a1:Arg) (v402:(List (List UInt8))×Int×Int):Option Out:=bif decide (v402.2.2<=(a1.1.length:Int)) then (bif decide (v402.2.2=(a1.1.length:Int)) then (if 0<=v402.2.1/\v402.2.1<=v402.2.2/\v402.2.2<=(a1.1.length:Int) then (if v402.1.length+[(a1.1.take v402.2.2.toNat).drop v402.2.1.toNat].length<=CAP then (let y604:=v402.1++[(a1.1.take v402.2.2.toNat).drop v402.2.1.toNat];self (y604,w64 (v402.2.2+(1:Int)),w64 (v402.2.2+(1:Int)))) else none) else none) else if 0<=v402.2.2 then ((a1.1[v402.2.2.toNat]?).bind fun x603=>bif decide ((x603.toNat:Int)=(a1.2.1.toNat:Int)) then (if 0<=v402.2.1/\v402.2.1<=v402.2.2/\v402.2.2<=(a1.1.length:Int) then (if v402.1.length+[(a1.1.take v402.2.2.toNat).drop v402.2.1.toNat].length<=CAP then (let y605:=v402.1++[(a1.1.take v402.2.2.toNat).drop v402.2.1.toNat];self (y605,w64 (v402.2.2+(1:Int)),w64 (v402.2.2+(1:Int)))) else none) else none) else self (v402.1,v402.2.1,w64 (v402.2.2+(1:Int)))) else none) else e0 v402.1
noncomputable abbrev B0 (_:Nat):=b0
noncomputable def q0 (a1:Arg) (z606:(List (List UInt8))):Option Out:=some (z606,())
noncomputable abbrev Q0 (_:Nat):=q0
noncomputable def s0 (k:Nat) (a1:Arg):((List (List UInt8))×Int×Int)->Option Out:=fun v402=>D.L k [1,1,1,0,1,0,0] [0,1,5,6,7] [] (blockC 0 (seqC (D.N k [1,1,1,1]) D.K0)) (T0 a1 v402)
noncomputable def r0 (k:Nat) (a1:Arg):((List (List UInt8))×Int×Int)->Option Out:=rawIter (fun w v=>B0 k w (Q0 k a1) a1 v) k
theorem s0_eq (k:Nat) (a1:Arg):s0 k a1=r0 k a1:=
 funext fun v402=>iter_raw _ _ _ (T0 a1) _ (fun rec v=>by kernel_rfl) k v402
noncomputable def p (l0:((List (List UInt8))×Int×Int)->Option Out) (a1:Arg):Option Out:=l0 (([]:List (List UInt8)),(0:Int),(0:Int))
theorem raw_eq (k:Nat) (a1:Arg):@Eq (Option Out) (D.W k a1) (p (r0 k a1) a1):=
 Eq.trans (b:=p (s0 k a1) a1) (by kernel_rfl) (by rw[s0_eq])
theorem ok:Ok prog 14 D.sig:=fd_ok func14 tlOk (by kernel_rfl) (fn_nil _)
end spec_l1Cut
namespace spec_l16Words
abbrev Arg:Type:=(List UInt8)×Unit
abbrev Out:Type:=(List (List UInt8))×Unit
abbrev ps:PQ:=[(.ro,.str)]
noncomputable def D:FD:={ fn:=f9,tl:=TL0,ps:=ps,rs:=[((.slc .str),(ownMd (.slc .str)))],gl:=[(14,spec_l1Cut.D.sig)],lv:=[(4,[3,4,5])],lx:=[(0,[3])] }
noncomputable def sem (a:Arg):Option Out:=@lift Out fun k=>D.W k a
noncomputable def T0 (a1:Arg) (c404:List (List UInt8)) (v403:(List (List UInt8))×Int):St:={ n:=28,sl:=[(3,.own (.slc .str) (ownMd (.slc .str)) [] v403.1),(4,.own (.slc .str) (ownMd (.slc .str)) [] c404),(5,.val i64 v403.2)],vr:=[],lent:=[] }
noncomputable def b0 (self:((List (List UInt8))×Int)->Option Out) (e0:(List (List UInt8))->Option Out) (a1:Arg) (c404:List (List UInt8)) (v403:(List (List UInt8))×Int):Option Out:=bif decide (v403.2 < (c404.length:Int)) then (if 0<=v403.2/\v403.2 < (c404.length:Int) then ((c404[v403.2.toNat]?).bind fun x605=>bif !decide (x605=([]:List UInt8)) then (if 0<=v403.2/\v403.2 < (c404.length:Int) then ((c404[v403.2.toNat]?).bind fun x606=>if v403.1.length+[x606].length<=CAP then (self (v403.1++[x606],w64 (v403.2+(1:Int)))) else none) else none) else self (v403.1,w64 (v403.2+(1:Int)))) else none) else e0 v403.1
noncomputable abbrev B0 (_:Nat):=b0
noncomputable def q0 (a1:Arg) (c404:List (List UInt8)) (z607:(List (List UInt8))):Option Out:=some (z607,())
noncomputable abbrev Q0 (_:Nat):=q0
noncomputable def s0 (k:Nat) (a1:Arg):(List (List UInt8))->((List (List UInt8))×Int)->Option Out:=fun c404=>fun v403=>D.L k [1,1,1,0,1,0,0] [3,4,5] [] (blockC 0 (seqC (D.N k [1,1,1,1]) D.K0)) (T0 a1 c404 v403)
noncomputable def r0 (k:Nat) (a1:Arg):(List (List UInt8))->((List (List UInt8))×Int)->Option Out:=fun c404=>rawIter (fun w v=>B0 k w (Q0 k a1 c404) a1 c404 v) k
theorem s0_eq (k:Nat) (a1:Arg):s0 k a1=r0 k a1:=
 funext fun c404=>funext fun v403=>iter_raw _ _ _ (T0 a1 c404) _ (fun rec v=>by kernel_rfl) k v403
noncomputable def p (l0:(List (List UInt8))->((List (List UInt8))×Int)->Option Out) (a1:Arg):Option Out:=(spec_l1Cut.sem (a1.1,(32:UInt8),())).bind fun r2=>l0 r2.1 (([]:List (List UInt8)),(0:Int))
theorem raw_eq (k:Nat) (a1:Arg):@Eq (Option Out) (D.W k a1) (p (r0 k a1) a1):=
 Eq.trans (b:=p (s0 k a1) a1) (by kernel_rfl) (by rw[s0_eq])
theorem ok:Ok prog 9 D.sig:=fd_ok func9 tlOk (by kernel_rfl) (fc spec_l1Cut.ok (fn_nil _))
end spec_l16Words
namespace spec_WordsOf
abbrev Arg:Type:=(List UInt8)×Unit
abbrev Out:Type:=WordsResult×Unit
abbrev ps:PQ:=[(.ro,.str)]
noncomputable def D:FD:={ fn:=f4,tl:=TL0,ps:=ps,rs:=[(tWordsResult,(ownMd tWordsResult))],gl:=[(9,spec_l16Words.D.sig)] }
noncomputable def sem (a:Arg):Option Out:=@lift Out fun k=>D.W k a
noncomputable def p (a1:Arg):Option Out:=(spec_l16Words.sem (a1.1,())).bind fun r2=>some (((0:Int),r2.1,()),())
theorem raw_eq (k:Nat) (a1:Arg):@Eq (Option Out) (D.W k a1) (p a1):=by kernel_rfl
theorem ok:Ok prog 4 D.sig:=fd_ok func4 tlOk (by kernel_rfl) (fc spec_l16Words.ok (fn_nil _))
end spec_WordsOf
namespace strings_Split
open Go.Proofs
abbrev Arg:Type:=(List UInt8)×(List UInt8)×Unit
abbrev Out:Type:=(List (List UInt8))×Unit
noncomputable def sem (a:Arg):Option Out:=splitF a
noncomputable def sig:Sig:={ ps:=[(.ro,.str),(.ro,.str)],rs:=[((.slc .str),roMd (.slc .str))],F:=sem }
def lay_ren:Go.Shelf.Ren:=⟨fun | 146=>15 | 221=>17 | 268=>18 | 138=>19 | 143=>20 | 195=>21 | 197=>22 | 218=>23 | 219=>24 | 260=>25 | 217=>26 | 225=>27 | 224=>28 | 267=>29 | 266=>30 | 314=>31 | n=>n,fun | 9=>9 | 31=>22 | 3=>3 | 4=>4 | 0=>0 | 105=>40 | 21=>21 | 5=>5 | 46=>44 | 119=>45 | 139=>48 | 138=>47 | 146=>50 | 51=>49 | n=>n,fun | 1=>0 | 3=>1 | 4=>2 | n=>n⟩
theorem lay:Go.Proofs.LaysM.n146 Tryd.prog lay_ren:={
 mixed:=by kernel_rfl
 f138:=Tryd.func19.trans (congrArg some (by kernel_rfl))
 f143:=Tryd.func20.trans (congrArg some (by kernel_rfl))
 f146:=Tryd.func15.trans (congrArg some (by kernel_rfl))
 f195:=Tryd.func21.trans (congrArg some (by kernel_rfl))
 f197:=Tryd.func22.trans (congrArg some (by kernel_rfl))
 f217:=Tryd.func26.trans (congrArg some (by kernel_rfl))
 f218:=Tryd.func23.trans (congrArg some (by kernel_rfl))
 f219:=Tryd.func24.trans (congrArg some (by kernel_rfl))
 f221:=Tryd.func17.trans (congrArg some (by kernel_rfl))
 f224:=Tryd.func28.trans (congrArg some (by kernel_rfl))
 f225:=Tryd.func27.trans (congrArg some (by kernel_rfl))
 f260:=Tryd.func25.trans (congrArg some (by kernel_rfl))
 f266:=Tryd.func30.trans (congrArg some (by kernel_rfl))
 f267:=Tryd.func29.trans (congrArg some (by kernel_rfl))
 f268:=Tryd.func18.trans (congrArg some (by kernel_rfl))
 f314:=Tryd.func31.trans (congrArg some (by kernel_rfl))
 t0:=Tryd.underlying0
 a0:=Tryd.isAgg0
 z0:=Tryd.sizeOf0
 v0:=Tryd.zeroValue0
 t3:=Tryd.underlying3
 a3:=Tryd.isAgg3
 z3:=Tryd.sizeOf3
 v3:=Tryd.zeroValue3
 t4:=Tryd.underlying4
 a4:=Tryd.isAgg4
 z4:=Tryd.sizeOf4
 v4:=Tryd.zeroValue4
 t5:=Tryd.underlying5
 a5:=Tryd.isAgg5
 z5:=Tryd.sizeOf5
 v5:=Tryd.zeroValue5
 t9:=Tryd.underlying9
 a9:=Tryd.isAgg9
 z9:=Tryd.sizeOf9
 v9:=Tryd.zeroValue9
 t21:=Tryd.underlying21
 a21:=Tryd.isAgg21
 z21:=Tryd.sizeOf21
 v21:=Tryd.zeroValue21
 t31:=Tryd.underlying22
 a31:=Tryd.isAgg22
 z31:=Tryd.sizeOf22
 v31:=Tryd.zeroValue22
 t46:=Tryd.underlying44
 a46:=Tryd.isAgg44
 z46:=Tryd.sizeOf44
 v46:=Tryd.zeroValue44
 t51:=Tryd.underlying49
 a51:=Tryd.isAgg49
 z51:=Tryd.sizeOf49
 v51:=Tryd.zeroValue49
 t105:=Tryd.underlying40
 a105:=Tryd.isAgg40
 z105:=Tryd.sizeOf40
 v105:=Tryd.zeroValue40
 t119:=Tryd.underlying45
 a119:=Tryd.isAgg45
 z119:=Tryd.sizeOf45
 t138:=Tryd.underlying47
 a138:=Tryd.isAgg47
 z138:=Tryd.sizeOf47
 v138:=Tryd.zeroValue47
 t139:=Tryd.underlying48
 a139:=Tryd.isAgg48
 z139:=Tryd.sizeOf48
 v139:=Tryd.zeroValue48
 t146:=Tryd.underlying50
 a146:=Tryd.isAgg50
 z146:=Tryd.sizeOf50
 v146:=Tryd.zeroValue50
 g1:=by kernel_rfl
 g3:=by kernel_rfl
 g4:=by kernel_rfl
 i0:=by kernel_rfl
 i3:=by kernel_rfl
 i4:=by kernel_rfl
 i5:=by kernel_rfl
 i9:=by kernel_rfl
 i21:=by kernel_rfl
 i31:=by kernel_rfl
 i46:=by kernel_rfl
 i51:=by kernel_rfl
 i105:=by kernel_rfl
 i138:=by kernel_rfl
 i139:=by kernel_rfl
 i146:=by kernel_rfl
 m1:=by kernel_rfl
 s1_3:=fun w h=>Go.Proofs.cell_of_shapedOpen_int (zero:=#[.int .i64 0]) (t:=3) h (of_decide_eq_true (by kernel_rfl)) (by kernel_rfl) rfl (by kernel_rfl) (by kernel_rfl) Tryd.underlying3
 m3:=by kernel_rfl
 m4:=by kernel_rfl }
theorem ok:Ok prog 15 sig:=split_ok lay (by kernel_rfl) (of_decide_eq_true (by kernel_rfl)) ⟨f15,func15,by kernel_rfl,by kernel_rfl,by kernel_rfl⟩
end strings_Split
namespace impl_wordsOf
abbrev Arg:Type:=(List UInt8)×Unit
abbrev Out:Type:=(List (List UInt8))×Unit
abbrev ps:PQ:=[(.ro,.str)]
noncomputable def D:FD:={ fn:=f10,tl:=TL0,ps:=ps,rs:=[((.slc .str),(ownMd (.slc .str)))],gl:=[(15,strings_Split.sig)],lv:=[(3,[3,7,8,9])],lx:=[(0,[3])] }
noncomputable def sem (a:Arg):Option Out:=@lift Out fun k=>D.W k a
noncomputable def T0 (a1:Arg) (c404:List (List UInt8)) (c405:Int) (v403:(List (List UInt8))×Int):St:={ n:=21,sl:=[(3,.own (.slc .str) (ownMd (.slc .str)) [] v403.1),(7,.val (.slc .str) c404),(8,.val i64 c405),(9,.val i64 v403.2)],vr:=[],lent:=[] }
noncomputable def b0 (self:((List (List UInt8))×Int)->Option Out) (e0:(List (List UInt8))->Option Out) (a1:Arg) (c404:List (List UInt8)) (c405:Int) (v403:(List (List UInt8))×Int):Option Out:=bif decide (v403.2 < c405) then (if 0<=v403.2 then ((c404[v403.2.toNat]?).bind fun x606=>bif !decide (x606=([]:List UInt8)) then (if v403.1.length+[x606].length<=CAP then (self (v403.1++[x606],w64 (v403.2+(1:Int)))) else none) else self (v403.1,w64 (v403.2+(1:Int)))) else none) else e0 v403.1
noncomputable abbrev B0 (_:Nat):=b0
noncomputable def q0 (a1:Arg) (c404:List (List UInt8)) (c405:Int) (z607:(List (List UInt8))):Option Out:=some (z607,())
noncomputable abbrev Q0 (_:Nat):=q0
noncomputable def s0 (k:Nat) (a1:Arg):(List (List UInt8))->Int->((List (List UInt8))×Int)->Option Out:=fun c404 c405=>fun v403=>D.L k [1,1,0,1,0,0] [3,7,8,9] [] (blockC 0 (seqC (D.N k [1,1,1]) D.K0)) (T0 a1 c404 c405 v403)
noncomputable def r0 (k:Nat) (a1:Arg):(List (List UInt8))->Int->((List (List UInt8))×Int)->Option Out:=fun c404 c405=>rawIter (fun w v=>B0 k w (Q0 k a1 c404 c405) a1 c404 c405 v) k
theorem s0_eq (k:Nat) (a1:Arg):s0 k a1=r0 k a1:=
 funext fun c404=>funext fun c405=>funext fun v403=>iter_raw _ _ _ (T0 a1 c404 c405) _ (fun rec v=>by kernel_rfl) k v403
noncomputable def p (l0:(List (List UInt8))->Int->((List (List UInt8))×Int)->Option Out) (a1:Arg):Option Out:=(strings_Split.sem (a1.1,([32]:List UInt8),())).bind fun r2=>l0 r2.1 (r2.1.length:Int) (([]:List (List UInt8)),(0:Int))
theorem raw_eq (k:Nat) (a1:Arg):@Eq (Option Out) (D.W k a1) (p (r0 k a1) a1):=
 Eq.trans (b:=p (s0 k a1) a1) (by kernel_rfl) (by rw[s0_eq])
theorem ok:Ok prog 10 D.sig:=fd_ok func10 tlOk (by kernel_rfl) (fc strings_Split.ok (fn_nil _))
end impl_wordsOf
namespace impl_WordsOf
abbrev Arg:Type:=(List UInt8)×Unit
abbrev Out:Type:=WordsResult×Unit
abbrev ps:PQ:=[(.ro,.str)]
noncomputable def D:FD:={ fn:=f5,tl:=TL0,ps:=ps,rs:=[(tWordsResult,(ownMd tWordsResult))],gl:=[(10,impl_wordsOf.D.sig)] }
noncomputable def sem (a:Arg):Option Out:=@lift Out fun k=>D.W k a
noncomputable def p (a1:Arg):Option Out:=(impl_wordsOf.sem (a1.1,())).bind fun r2=>some (((0:Int),r2.1,()),())
theorem raw_eq (k:Nat) (a1:Arg):@Eq (Option Out) (D.W k a1) (p a1):=by kernel_rfl
theorem ok:Ok prog 5 D.sig:=fd_ok func5 tlOk (by kernel_rfl) (fc impl_wordsOf.ok (fn_nil _))
end impl_WordsOf
namespace laws_eqStringS
abbrev Arg:Type:=(List (List UInt8))×(List (List UInt8))×Unit
abbrev Out:Type:=Bool×Unit
abbrev ps:PQ:=[(.ro,(.slc .str)),(.ro,(.slc .str))]
noncomputable def D:FD:={ fn:=f11,tl:=TL0,ps:=ps,rs:=[(.bool,(roMd .bool))],lv:=[(4,[0,1,5])],lx:=[(0,[])],od:=[(6,[0,1,2,3,4,5,6,7,8])] }
noncomputable def sem (a:Arg):Option Out:=@lift Out fun k=>D.W k a
noncomputable def T0 (a1:Arg) (v402:Int):St:={ n:=26,sl:=[(0,.val (.slc .str) a1.1),(1,.val (.slc .str) a1.2.1),(5,.val i64 v402)],vr:=[],lent:=[] }
noncomputable def b0 (self:Int->Option Out) (e0:(Unit)->Option Out) (a1:Arg) (v402:Int):Option Out:=bif decide (v402 < (a1.1.length:Int)) then (if 0<=v402 then ((a1.1[v402.toNat]?).bind fun x603=>if 0<=v402 then ((a1.2.1[v402.toNat]?).bind fun x604=>bif !decide (x603=x604) then (some (false,())) else self (w64 (v402+(1:Int)))) else none) else none) else e0 ()
noncomputable abbrev B0 (_:Nat):=b0
noncomputable def q0 (a1:Arg) (z605:(Unit)):Option Out:=some (true,())
noncomputable abbrev Q0 (_:Nat):=q0
noncomputable def s0 (k:Nat) (a1:Arg):(Int)->Option Out:=fun v402=>D.L k [1,1,0,1,0,0] [0,1,5] [] (blockC 0 (seqC (D.N k [1,1,1]) D.K0)) (T0 a1 v402)
noncomputable def r0 (k:Nat) (a1:Arg):(Int)->Option Out:=rawIter (fun w v=>B0 k w (Q0 k a1) a1 v) k
theorem s0_eq (k:Nat) (a1:Arg):s0 k a1=r0 k a1:=
 funext fun v402=>iter_raw _ _ _ (T0 a1) _ (fun rec v=>by kernel_rfl) k v402
noncomputable def p (l0:(Int)->Option Out) (a1:Arg):Option Out:=bif !decide ((a1.1.length:Int)=(a1.2.1.length:Int)) then (some (false,())) else l0 (0:Int)
theorem raw_eq (k:Nat) (a1:Arg):@Eq (Option Out) (D.W k a1) (p (r0 k a1) a1):=
 Eq.trans (b:=p (s0 k a1) a1) (by kernel_rfl) (by rw[s0_eq])
theorem ok:Ok prog 11 D.sig:=fd_ok func11 tlOk (by kernel_rfl) (fn_nil _)
end laws_eqStringS
namespace laws_eqWordsResult
abbrev Arg:Type:=WordsResult×WordsResult×Unit
abbrev Out:Type:=Bool×Unit
abbrev ps:PQ:=[(.ro,tWordsResult),(.ro,tWordsResult)]
noncomputable def D:FD:={ fn:=f6,tl:=TL0,ps:=ps,rs:=[(.bool,(roMd .bool))],gl:=[(11,laws_eqStringS.D.sig)] }
noncomputable def sem (a:Arg):Option Out:=@lift Out fun k=>D.W k a
noncomputable def p (a1:Arg):Option Out:=bif !decide (a1.1.1=a1.2.1.1) then (some (false,())) else (laws_eqStringS.sem (a1.1.2.1,a1.2.1.2.1,())).bind fun r2=>bif !r2.1 then (some (false,())) else some (true,())
theorem raw_eq (k:Nat) (a1:Arg):@Eq (Option Out) (D.W k a1) (p a1):=by kernel_rfl
theorem ok:Ok prog 6 D.sig:=fd_ok func6 tlOk (by kernel_rfl) (fc laws_eqStringS.ok (fn_nil _))
end laws_eqWordsResult
namespace laws_markText
abbrev Arg:Type:=Int×Unit
abbrev Out:Type:=(List UInt8)×Unit
abbrev ps:PQ:=[(.ro,i64)]
noncomputable def D:FD:={ fn:=f16,tl:=TL0,ps:=ps,rs:=[(.str,(roMd .str))],lv:=[(4,[0,3])],lx:=[(0,[3])] }
noncomputable def sem (a:Arg):Option Out:=@lift Out fun k=>D.W k a
noncomputable def T0 (a1:Arg) (v402:Int×(List UInt8)):St:={ n:=20,sl:=[(0,.val i64 v402.1),(3,.val .str v402.2)],vr:=[],lent:=[] }
noncomputable def b0 (self:(Int×(List UInt8))->Option Out) (e0:(List UInt8)->Option Out) (a1:Arg) (v402:Int×(List UInt8)):Option Out:=bif decide ((0:Int) < v402.1) then (if [UInt8.ofInt (w64 ((48:Int)+(v402.1.tmod (10:Int))))].length+v402.2.length<=CAP then (self (w64 (v402.1.tdiv (10:Int)),[UInt8.ofInt (w64 ((48:Int)+(v402.1.tmod (10:Int))))]++v402.2)) else none) else e0 v402.2
noncomputable abbrev B0 (_:Nat):=b0
noncomputable def q0 (a1:Arg) (z603:(List UInt8)):Option Out:=if ([109]:List UInt8).length+z603.length<=CAP then (some (([109]:List UInt8)++z603,())) else none
noncomputable abbrev Q0 (_:Nat):=q0
noncomputable def s0 (k:Nat) (a1:Arg):(Int×(List UInt8))->Option Out:=fun v402=>D.L k [1,1,1,0,0,0] [0,3] [] (blockC 0 (seqC (D.N k [1,1,1,1]) D.K0)) (T0 a1 v402)
noncomputable def r0 (k:Nat) (a1:Arg):(Int×(List UInt8))->Option Out:=rawIter (fun w v=>B0 k w (Q0 k a1) a1 v) k
theorem s0_eq (k:Nat) (a1:Arg):s0 k a1=r0 k a1:=
 funext fun v402=>iter_raw _ _ _ (T0 a1) _ (fun rec v=>by kernel_rfl) k v402
noncomputable def p (l0:(Int×(List UInt8))->Option Out) (a1:Arg):Option Out:=bif decide (a1.1<=(0:Int)) then (some (([109,48]:List UInt8),())) else l0 (a1.1,([]:List UInt8))
theorem raw_eq (k:Nat) (a1:Arg):@Eq (Option Out) (D.W k a1) (p (r0 k a1) a1):=
 Eq.trans (b:=p (s0 k a1) a1) (by kernel_rfl) (by rw[s0_eq])
theorem ok:Ok prog 16 D.sig:=fd_ok func16 tlOk (by kernel_rfl) (fn_nil _)
end laws_markText
namespace laws_markStringS
abbrev Arg:Type:=(List (List UInt8))×Int×Unit
abbrev Out:Type:=Int×(List (List UInt8))×Unit
abbrev ps:PQ:=[(.muts (ownMd (.slc .str)),(.slc .str)),(.ro,i64)]
noncomputable def D:FD:={ fn:=f12,tl:=TL0,ps:=ps,rs:=[(i64,(roMd i64))],gl:=[(16,laws_markText.D.sig)],es:=[0],lv:=[(2,[0,1,5])],lx:=[(0,[0,1])] }
noncomputable def sem (a:Arg):Option Out:=@lift Out fun k=>D.W k a
noncomputable def T0 (a1:Arg) (v402:(List (List UInt8))×Int×Int):St:={ n:=20,sl:=[(0,.own (.slc .str) (ownMd (.slc .str)) [] v402.1),(1,.val i64 v402.2.1),(5,.val i64 v402.2.2)],vr:=[],lent:=[(0,0,true)] }
noncomputable def b0 (self:((List (List UInt8))×Int×Int)->Option Out) (e0:((List (List UInt8))×Int)->Option Out) (a1:Arg) (v402:(List (List UInt8))×Int×Int):Option Out:=bif decide (v402.2.2 < (v402.1.length:Int)) then ((laws_markText.sem (v402.2.1,())).bind fun r603=>if 0<=v402.2.2/\v402.2.2 < (v402.1.length:Int) then ((v402.1[v402.2.2.toNat]?).bind fun x604=>self (v402.1.set v402.2.2.toNat r603.1,w64 (v402.2.1+(1:Int)),w64 (v402.2.2+(1:Int)))) else none) else e0 (v402.1,v402.2.1)
noncomputable abbrev B0 (_:Nat):=b0
noncomputable def q0 (a1:Arg) (z605:((List (List UInt8))×Int)):Option Out:=some (z605.2,z605.1,())
noncomputable abbrev Q0 (_:Nat):=q0
noncomputable def s0 (k:Nat) (a1:Arg):((List (List UInt8))×Int×Int)->Option Out:=fun v402=>D.L k [1,0,1,0,0] [0,1,5] [] (blockC 0 (seqC (D.N k [1,1]) D.K0)) (T0 a1 v402)
noncomputable def r0 (k:Nat) (a1:Arg):((List (List UInt8))×Int×Int)->Option Out:=rawIter (fun w v=>B0 k w (Q0 k a1) a1 v) k
theorem s0_eq (k:Nat) (a1:Arg):s0 k a1=r0 k a1:=
 funext fun v402=>iter_raw _ _ _ (T0 a1) _ (fun rec v=>by kernel_rfl) k v402
noncomputable def p (l0:((List (List UInt8))×Int×Int)->Option Out) (a1:Arg):Option Out:=l0 (a1.1,a1.2.1,(0:Int))
theorem raw_eq (k:Nat) (a1:Arg):@Eq (Option Out) (D.W k a1) (p (r0 k a1) a1):=
 Eq.trans (b:=p (s0 k a1) a1) (by kernel_rfl) (by rw[s0_eq])
theorem ok:Ok prog 12 D.sig:=fd_ok func12 tlOk (by kernel_rfl) (fc laws_markText.ok (fn_nil _))
end laws_markStringS
namespace laws_markWordsResult
abbrev Arg:Type:=WordsResult×Int×Unit
abbrev Out:Type:=Int×WordsResult×Unit
abbrev ps:PQ:=[(.muts (ownMd tWordsResult),tWordsResult),(.ro,i64)]
noncomputable def D:FD:={ fn:=f7,tl:=TL0,ps:=ps,rs:=[(i64,(roMd i64))],gl:=[(12,laws_markStringS.D.sig)],es:=[2] }
noncomputable def sem (a:Arg):Option Out:=@lift Out fun k=>D.W k a
noncomputable def p (a1:Arg):Option Out:=(laws_markStringS.sem (a1.1.2.1,a1.2.1,())).bind fun r2=>some (r2.1,(a1.1.1,r2.2.1,a1.1.2.2),())
theorem raw_eq (k:Nat) (a1:Arg):@Eq (Option Out) (D.W k a1) (p a1):=by kernel_rfl
theorem ok:Ok prog 7 D.sig:=fd_ok func7 tlOk (by kernel_rfl) (fc laws_markStringS.ok (fn_nil _))
end laws_markWordsResult
namespace laws_heldStringS
abbrev Arg:Type:=(List (List UInt8))×Int×Unit
abbrev Out:Type:=Int×Unit
abbrev ps:PQ:=[(.ro,(.slc .str)),(.ro,i64)]
noncomputable def D:FD:={ fn:=f13,tl:=TL0,ps:=ps,rs:=[(i64,(roMd i64))],gl:=[(16,laws_markText.D.sig)],lv:=[(2,[0,1,5])],lx:=[(0,[1])],od:=[(4,[0,1,2,3,4,5,6])] }
noncomputable def sem (a:Arg):Option Out:=@lift Out fun k=>D.W k a
noncomputable def T0 (a1:Arg) (v402:Int×Int):St:={ n:=22,sl:=[(0,.val (.slc .str) a1.1),(1,.val i64 v402.1),(5,.val i64 v402.2)],vr:=[],lent:=[] }
noncomputable def b0 (self:(Int×Int)->Option Out) (e0:Int->Option Out) (a1:Arg) (v402:Int×Int):Option Out:=bif decide (v402.2 < (a1.1.length:Int)) then (if 0<=v402.2 then ((a1.1[v402.2.toNat]?).bind fun x603=>(laws_markText.sem (v402.1,())).bind fun r604=>bif !decide (x603=r604.1) then (some ((-1:Int),())) else self (w64 (v402.1+(1:Int)),w64 (v402.2+(1:Int)))) else none) else e0 v402.1
noncomputable abbrev B0 (_:Nat):=b0
noncomputable def q0 (a1:Arg) (z605:Int):Option Out:=some (z605,())
noncomputable abbrev Q0 (_:Nat):=q0
noncomputable def s0 (k:Nat) (a1:Arg):(Int×Int)->Option Out:=fun v402=>D.L k [1,0,1,0,0] [0,1,5] [] (blockC 0 (seqC (D.N k [1,1]) D.K0)) (T0 a1 v402)
noncomputable def r0 (k:Nat) (a1:Arg):(Int×Int)->Option Out:=rawIter (fun w v=>B0 k w (Q0 k a1) a1 v) k
theorem s0_eq (k:Nat) (a1:Arg):s0 k a1=r0 k a1:=
 funext fun v402=>iter_raw _ _ _ (T0 a1) _ (fun rec v=>by kernel_rfl) k v402
noncomputable def p (l0:(Int×Int)->Option Out) (a1:Arg):Option Out:=l0 (a1.2.1,(0:Int))
theorem raw_eq (k:Nat) (a1:Arg):@Eq (Option Out) (D.W k a1) (p (r0 k a1) a1):=
 Eq.trans (b:=p (s0 k a1) a1) (by kernel_rfl) (by rw[s0_eq])
theorem ok:Ok prog 13 D.sig:=fd_ok func13 tlOk (by kernel_rfl) (fc laws_markText.ok (fn_nil _))
end laws_heldStringS
namespace laws_heldWordsResult
abbrev Arg:Type:=WordsResult×Int×Unit
abbrev Out:Type:=Int×Unit
abbrev ps:PQ:=[(.ro,tWordsResult),(.ro,i64)]
noncomputable def D:FD:={ fn:=f8,tl:=TL0,ps:=ps,rs:=[(i64,(roMd i64))],gl:=[(13,laws_heldStringS.D.sig)] }
noncomputable def sem (a:Arg):Option Out:=@lift Out fun k=>D.W k a
noncomputable def p (a1:Arg):Option Out:=(laws_heldStringS.sem (a1.1.2.1,a1.2.1,())).bind fun r2=>bif decide (r2.1 < (0:Int)) then (some ((-1:Int),())) else some (r2.1,())
theorem raw_eq (k:Nat) (a1:Arg):@Eq (Option Out) (D.W k a1) (p a1):=by kernel_rfl
theorem ok:Ok prog 8 D.sig:=fd_ok func8 tlOk (by kernel_rfl) (fc laws_heldStringS.ok (fn_nil _))
end laws_heldWordsResult
namespace laws_FnExactWordsOf
abbrev Arg:Type:=(List UInt8)×Unit
abbrev Out:Type:=Bool×Unit
abbrev ps:PQ:=[(.ro,.str)]
noncomputable def D:FD:={ fn:=f3,tl:=TL0,ps:=ps,rs:=[(.bool,(roMd .bool))],gl:=[(4,spec_WordsOf.D.sig),(5,impl_WordsOf.D.sig),(6,laws_eqWordsResult.D.sig),(7,laws_markWordsResult.D.sig),(8,laws_heldWordsResult.D.sig)] }
noncomputable def sem (a:Arg):Option Out:=@lift Out fun k=>D.W k a
noncomputable def p (a1:Arg):Option Out:=bif decide ((1048576:Int) < (a1.1.length:Int)) then (some (true,())) else (spec_WordsOf.sem (a1.1,())).bind fun r2=>(impl_WordsOf.sem (a1.1,())).bind fun r3=>(laws_eqWordsResult.sem (r3.1,r2.1,())).bind fun r4=>bif !r4.1 then (some (false,())) else (laws_markWordsResult.sem (r3.1,(1:Int),())).bind fun r5=>(laws_heldWordsResult.sem (r5.2.1,(1:Int),())).bind fun r6=>bif decide (r6.1 < (0:Int)) then (some (false,())) else bif !decide (r6.1=r5.1) then (some (false,())) else (impl_WordsOf.sem (a1.1,())).bind fun r7=>(laws_eqWordsResult.sem (r7.1,r2.1,())).bind fun r8=>bif !r8.1 then (some (false,())) else (laws_heldWordsResult.sem (r5.2.1,(1:Int),())).bind fun r9=>bif decide (r9.1 < (0:Int)) then (some (false,())) else bif !decide (r9.1=r5.1) then (some (false,())) else some (true,())
theorem raw_eq (k:Nat) (a1:Arg):@Eq (Option Out) (D.W k a1) (p a1):=by kernel_rfl
theorem ok:Ok prog 3 D.sig:=fd_ok func3 tlOk (by kernel_rfl) (fc spec_WordsOf.ok (fc impl_WordsOf.ok (fc laws_eqWordsResult.ok (fc laws_markWordsResult.ok (fc laws_heldWordsResult.ok (fn_nil _))))))
end laws_FnExactWordsOf
end OT
set_option linter.unusedVariables false
set_option linter.unusedSimpArgs false
namespace OT
open Go
noncomputable def mtext (n:Int):List UInt8:=((laws_markText.sem (n,())).map (·.1)).getD []
theorem markText_eq (n:Int) (h:n<=9223372036854775807):laws_markText.sem (n,())=some (mtext n,()):=by
 have main:∃ t,laws_markText.sem (n,())=some (t,()):=by
  by_cases hn:n<=0
  ·refine ⟨[109,48],lift_eq (k:=0) fun k _=>(laws_markText.raw_eq k _).trans ?_⟩
   unfold laws_markText.p
   simp only[hn,decide_true,cond_true]
   try rfl
  ·have key:∀ (f:Nat) (m:Int) (out:List UInt8),0<=m->m<=9223372036854775807->m < 10 ^ f->out.length+f<=100->∃ t,t.length<=100/\∀ k,f < k->rawIter (fun self v=>laws_markText.B0 0 self (fun z=>laws_markText.Q0 0 (n,()) z) (n,()) v) k (m,out)=some (109::t,()):=by
    intro f
    induction f with
    | zero=>
     intro m out h0 h9 h1 h2
     have hm:m=0:=by simp at h1;omega
     subst hm
     refine ⟨out,by omega,fun k hk=>?_⟩
     cases k with
     | zero=>omega
     | succ k=>
      rw[rawIter_succ]
      show laws_markText.b0 _ _ _ _=_
      unfold laws_markText.b0 laws_markText.Q0 laws_markText.q0
      have hc:([109]:List UInt8).length+out.length<=CAP:=by simp only[CAP,List.length_cons,List.length_nil];omega
      simp only[show ¬ ((0:Int) < 0) by omega,decide_false,cond_false,hc,if_true]
      rfl
    | succ f ih=>
     intro m out h0 h9 h1 h2
     by_cases hm:0 < m
     ·have hq0:0<=m.tdiv 10:=Int.tdiv_nonneg h0 (by omega)
      have hq:m.tdiv 10 < 10 ^ f:=by
       rw[Int.tdiv_eq_ediv_of_nonneg h0]
       have:(10:Int) ^ (f+1)=10 ^ f*10:=Int.pow_succ 10 f
       omega
      have hd:=Int.emod_nonneg m (b:=10) (by omega)
      have hd2:=Int.emod_lt_of_pos m (b:=10) (by omega)
      obtain ⟨t,t1,t2⟩:=ih (m.tdiv 10) ([UInt8.ofInt (w64 (48+m.tmod 10))]++out) hq0 (by rw[Int.tdiv_eq_ediv_of_nonneg h0];omega) hq (by simp;omega)
      refine ⟨t,t1,fun k hk=>?_⟩
      cases k with
      | zero=>omega
      | succ k=>
       rw[rawIter_succ]
       show laws_markText.b0 _ _ _ _=_
       unfold laws_markText.b0
       have hw:w64 (m.tdiv 10)=m.tdiv 10:=w64_in ⟨by omega,by
        rw[Int.tdiv_eq_ediv_of_nonneg h0]
        omega⟩
       have hc:[UInt8.ofInt (w64 (48+m.tmod 10))].length+out.length<=CAP:=by simp only[CAP,List.length_cons,List.length_nil];omega
       simp only[hm,decide_true,cond_true,hc,if_true,hw]
       exact t2 k (by omega)
     ·have hm:m=0:=by omega
      subst hm
      refine ⟨out,by omega,fun k hk=>?_⟩
      cases k with
      | zero=>omega
      | succ k=>
       rw[rawIter_succ]
       show laws_markText.b0 _ _ _ _=_
       unfold laws_markText.b0 laws_markText.Q0 laws_markText.q0
       have hc:([109]:List UInt8).length+out.length<=CAP:=by simp only[CAP,List.length_cons,List.length_nil];omega
       simp only[show ¬ ((0:Int) < 0) by omega,decide_false,cond_false,hc,if_true]
       rfl
   obtain ⟨t,t1,t2⟩:=key 19 n [] (by omega) h (by omega) (by simp)
   refine ⟨109::t,lift_eq (k:=20) fun k hk=>(laws_markText.raw_eq k _).trans ?_⟩
   unfold laws_markText.p
   simp only[hn,decide_false,cond_false]
   exact t2 k (by omega)
 obtain ⟨t,ht⟩:=main
 rw[ht]
 simp[mtext,ht]
theorem eqStringS_self (x:List (List UInt8)) (h:zz (.slc .str) x<=4611686018427387904):laws_eqStringS.sem (x,x,())=some (true,()):=eqG (e:=.str) (f:=fun (a b:List UInt8)=>some (decide (a=b),())) (fun x k=>laws_eqStringS.raw_eq k (x,x,())) (fun a _=>by simp) x h
theorem eqWordsResult_self (x:WordsResult) (h:zz tWordsResult x<=4611686018427387904):laws_eqWordsResult.sem (x,x,())=some (true,()):=by
 have hz:zz tWordsResult x=(0+(zz (.slc .str) x.2.1+0)):=rfl
 refine lift_eq (k:=0) fun k _=>(laws_eqWordsResult.raw_eq k _).trans ?_
 show laws_eqWordsResult.p _=_
 unfold laws_eqWordsResult.p
 have q0:=eqStringS_self x.2.1 (by omega)
 simp[q0]
def EStringS (x:List UInt8) (k:Int) (y:List UInt8) (k':Int):Prop:=y=(mtext (k))/\k+1=k'
theorem mhStringS (x:List (List UInt8)) (k:Int) (h0:0<=k) (h1:k+32*((zz (.slc .str) x:Nat):Int)<=BIG):∃ (k':Int) (y:List (List UInt8)),laws_markStringS.sem (x,k,())=some (k',y,())/\laws_heldStringS.sem (y,k,())=some (k',())/\k<=k'/\k'<=k+32*((zz (.slc .str) x:Nat):Int):=by
 have hB:BIG=4611686018427387904:=rfl
 exact mhG (α:=List UInt8) (zz .str) EStringS (fun x k f=>laws_markStringS.raw_eq f (x,k,())) (fun y k f=>laws_heldStringS.raw_eq f (y,k,())) (fun (x:List UInt8) k h0 h1=>by
   exact ⟨_,_,by omega,by omega,⟨rfl,rfl⟩⟩) (fun i (acc:List (List UInt8)) k self (x y:List UInt8) k' hi hx h0 h1 h2 h3 hE hlt=>by
   obtain ⟨rfl,rfl⟩:=hE
   simp (disch:=omega) only [hlt,decide_true,cond_true,Int.natCast_nonneg,and_self,if_true,Int.toNat_natCast,hx,Option.bind_some,List.length_set,get_self_set,List.set_set,w64_in,markText_eq]) (fun _ i (ys:List (List UInt8)) k self (x y:List UInt8) k' hi hx h0 h1 h2 h3 hE hlt=>by
   obtain ⟨rfl,rfl⟩:=hE
   simp (disch:=omega) only [hlt,decide_true,cond_true,Int.natCast_nonneg,and_self,if_true,Int.toNat_natCast,hx,Option.bind_some,w64_in,markText_eq,beq_self_eq_true,Bool.not_true,cond_false,decide_false]) x k h0 h1
theorem mhWordsResult (x:WordsResult) (k:Int) (h0:0<=k) (h1:k+32*((zz tWordsResult x:Nat):Int)<=BIG):∃ (k':Int) (y:WordsResult),laws_markWordsResult.sem (x,k,())=some (k',y,())/\laws_heldWordsResult.sem (y,k,())=some (k',())/\k<=k'/\k'<=k+32*((zz tWordsResult x:Nat):Int):=by
 have hB:BIG=4611686018427387904:=rfl
 have hz:zz tWordsResult x=(0+(zz (.slc .str) x.2.1+0)):=rfl
 obtain ⟨k1,y1,e1,f1,g1,i1⟩:=mhStringS x.2.1 k (by omega) (by omega)
 have n1:¬ k1 < 0:=by omega
 refine ⟨k1,(x.1,y1,x.2.2),lift_eq (k:=0) fun f _=>(laws_markWordsResult.raw_eq f _).trans ?_,lift_eq (k:=0) fun f _=>(laws_heldWordsResult.raw_eq f _).trans ?_,by omega,by omega⟩
 ·show laws_markWordsResult.p _=_
  unfold laws_markWordsResult.p
  simp only[e1,Option.bind_some]
 ·show laws_heldWordsResult.p _=_
  unfold laws_heldWordsResult.p
  simp only[f1,n1,Option.bind_some,decide_false,cond_false]
end OT
set_option linter.unusedVariables false
set_option linter.unusedSimpArgs false
set_option linter.unusedSectionVars false
namespace OT
open Go Go.Lib
def cutL (c:UInt8):List UInt8->List (List UInt8)
 | []=>[[]]
 | x::l=>if x=c then []::cutL c l else match cutL c l with
  | h::t=>(x::h)::t
  | []=>[[x]]
theorem cutL_miss {c:UInt8}:∀ {l:List UInt8},(∀ x ∈ l,x≠c)->cutL c l=[l]
 | [],_=>rfl
 | x::l,h=>by
  have h1:=h x List.mem_cons_self
  have h2:=cutL_miss (c:=c) (l:=l) fun y hy=>h y (List.mem_cons_of_mem _ hy)
  simp only[cutL,if_neg h1,h2]
theorem cutL_hit {c:UInt8} {b:List UInt8}:∀ {a:List UInt8},(∀ x ∈ a,x≠c)->cutL c (a++c::b)=a::cutL c b
 | [],_=>by simp[cutL]
 | x::a,h=>by
  have h1:=h x List.mem_cons_self
  have h2:=cutL_hit (c:=c) (b:=b) (a:=a) fun y hy=>h y (List.mem_cons_of_mem _ hy)
  simp only[List.cons_append,cutL,if_neg h1,h2]
theorem cutL_zz (c:UInt8):∀ l:List UInt8,zz (.slc .str) (cutL c l)<=l.length+1
 | []=>Nat.le_refl _
 | x::l=>by
  have ih:=cutL_zz c l
  simp only[cutL]
  split
  ·have h1:zz (.slc .str) ([]::cutL c l)=zz .str []+1+zz (.slc .str) (cutL c l):=zz_cons (e:=.str) [] (cutL c l)
   have h2:zz .str []=0:=rfl
   rw[List.length_cons]
   omega
  ·split
   ·rename_i h t hc
    rw[hc] at ih
    have h1:zz (.slc .str) (h::t)=zz .str h+1+zz (.slc .str) t:=zz_cons (e:=.str) h t
    have h2:zz (.slc .str) ((x::h)::t)=zz .str (x::h)+1+zz (.slc .str) t:=zz_cons (e:=.str) (x::h) t
    have h3:zz .str (x::h)=zz .str h+1:=rfl
    rw[List.length_cons]
    omega
   ·have h1:zz (.slc .str) [[x]]=2:=rfl
    rw[List.length_cons]
    omega
theorem ext_list (s:ByteArray) (a b:Nat):(s.extract a b).data.toList=(s.data.toList.drop a).take (b - a):=by
 rw[ByteArray.data_extract,Array.toList_extract]
theorem split_cut (c:UInt8) (sep:ByteArray) (hsep:sep=⟨#[c]⟩):∀ (n:Nat) (s:ByteArray),s.size<=n->(splitB sep 0 (countB s sep) s).map (fun b=>b.data.toList)=cutL c s.data.toList:=by
 have h1:sep.size=1:=by rw[hsep];rfl
 have hc:((((sep[0]'(by omega)).toNat:Nat):Int)).toNat.toUInt8=c:=by
  subst hsep
  simp
  rfl
 have hone:∀ s:ByteArray,indexB s sep=indexByte s.data.toList c:=fun s=>by rw[one s sep h1,hc]
 intro n
 induction n with
 | zero=>
  intro s hs
  have hi:indexB s sep=-1:=by
   rcases indexB_cases s sep with h | ⟨i,_,h⟩
   ·exact h
   ·omega
  have hl:s.data.toList=[]:=List.eq_nil_of_length_eq_zero (by have:s.data.size=s.size:=rfl;rw[Array.length_toList];omega)
  rw[countB_miss s sep hi,splitB_miss sep 0 0 s hi,hl]
  simp[cutL,hl]
 | succ n ih=>
  intro s hs
  rcases indexB_cases s sep with h | ⟨i,h,hi⟩
  ·rw[countB_miss s sep h,splitB_miss sep 0 0 s h]
   rw[hone] at h
   have hno:=indexByte_none h
   rw[cutL_miss fun x hx e=>by
    obtain ⟨k,hk,rfl⟩:=List.getElem_of_mem hx
    exact hno k (by rw[List.getElem?_eq_getElem hk,e])]
   rfl
  ·rw[countB_hit s sep i (by omega) h,Nat.add_comm,splitB_hit sep 0 _ s i h]
   have h2:=h
   rw[hone] at h2
   obtain ⟨g1,g2⟩:=indexByte_some h2
   have hsz:s.data.toList.length=s.size:=by rw[Array.length_toList];rfl
   rw[List.map_cons,h1,ih _ (by rw[ByteArray.size_extract];omega),ext_list,ext_list]
   have hi2:i < s.data.toList.length:=by omega
   have hx:s.data.toList[i]=c:=by
    rw[List.getElem?_eq_getElem hi2] at g1
    injection g1
   have hs2:s.data.toList=s.data.toList.take i++c::s.data.toList.drop (i+1):=by
    conv=>lhs;rw[<-List.take_append_drop i s.data.toList,List.drop_eq_getElem_cons hi2,hx]
   have e1:((s.data.toList.drop 0).take (i+0 - 0))=s.data.toList.take i:=by simp
   have e2:((s.data.toList.drop (i+1)).take (s.size - (i+1)))=s.data.toList.drop (i+1):=List.take_of_length_le (by rw[List.length_drop,hsz];exact Nat.le_refl _)
   rw[e1,e2]
   conv=>rhs;rw[hs2]
   rw[cutL_hit fun x hx e=>by
    obtain ⟨k,hk,rfl⟩:=List.getElem_of_mem hx
    rw[List.length_take] at hk
    rw[List.getElem_take] at e
    exact g2 k (by omega) (by rw[List.getElem?_eq_getElem (by omega),e])]
theorem specCut_eq (l:List UInt8) (c:UInt8) (hl:l.length<=1048576):spec_l1Cut.sem (l,c,())=some (cutL c l,()):=by
 have main:∀ (n i from':Nat) (out:List (List UInt8)),l.length - i=n->from'<=i->i<=l.length->out.length<=i->(∀ x ∈ (l.take i).drop from',x≠c)->∀ k,n+2 < k->rawIter (fun w v=>spec_l1Cut.B0 0 w (spec_l1Cut.Q0 0 (l,c,())) (l,c,()) v) k (out,(from':Int),(i:Int))=some (out++cutL c (l.drop from'),()):=by
  intro n
  induction n with
  | zero=>
   intro i f out hn hf hi ho hx k hk
   obtain ⟨k,rfl⟩:∃ m,k=m+2:=⟨k - 2,by omega⟩
   have hil:i=l.length:=by omega
   subst hil
   rw[rawIter_succ]
   show spec_l1Cut.b0 _ _ _ _=_
   unfold spec_l1Cut.b0
   have hw:w64 ((l.length:Int)+1)=((l.length+1:Nat):Int):=by rw[w64_in (by omega)];omega
   simp only[Int.le_refl,decide_true,cond_true,Int.toNat_natCast]
   rw[if_pos ⟨by omega,by omega,trivial⟩,if_pos (cap_ok (by simp only[List.length_cons,List.length_nil];omega)),hw,rawIter_succ]
   show spec_l1Cut.b0 _ _ _ _=_
   unfold spec_l1Cut.b0
   rw[decide_eq_false (show ¬ ((l.length+1:Nat):Int)<=(l.length:Int) by omega),cond_false]
   rw[List.take_length] at hx ⊢
   rw[cutL_miss hx]
   rfl
  | succ n ih=>
   intro i f out hn hf hi ho hx k hk
   obtain ⟨k,rfl⟩:∃ m,k=m+1:=⟨k - 1,by omega⟩
   have hlt:i < l.length:=by omega
   rw[rawIter_succ]
   show spec_l1Cut.b0 _ _ _ _=_
   unfold spec_l1Cut.b0
   have hw:w64 ((i:Int)+1)=((i+1:Nat):Int):=by rw[w64_in (by omega)];omega
   have hle:(i:Int)<=(l.length:Int):=by omega
   have hne:¬ (i:Int)=(l.length:Int):=by omega
   have hin:(0:Int)<=(f:Int)/\(f:Int)<=(i:Int)/\(i:Int)<=(l.length:Int):=by omega
   have hi0:(0:Int)<=(i:Int)/\(i:Int) < (l.length:Int):=by omega
   have hcap:out.length+[(l.take i).drop f].length<=CAP:=cap_ok (by simp only[List.length_cons,List.length_nil];omega)
   simp only[hle,hne,hin,hi0,hcap,decide_true,decide_false,cond_true,cond_false,and_self,if_true,Int.toNat_natCast,List.getElem?_eq_getElem hlt,Option.bind_some,hw]
   have htk:l.take (i+1)=l.take i++[l[i]]:=List.take_succ_eq_append_getElem hlt
   have hd:l.drop f=(l.take i).drop f++l[i]::l.drop (i+1):=by
    rw[<-List.drop_eq_getElem_cons hlt]
    conv=>lhs;rw[<-List.take_append_drop i l]
    rw[List.drop_append_of_le_length (by rw[List.length_take];omega)]
   by_cases hcx:l[i]=c
   ·have hu:decide (((l[i]).toNat:Int)=(c.toNat:Int))=true:=by rw[hcx];simp
    simp only[hcx,decide_true,cond_true]
    refine (ih (i+1) (i+1) (out++[(l.take i).drop f]) (by omega) (Nat.le_refl _) (by omega) (by rw[List.length_append,List.length_cons,List.length_nil];omega) (fun x hx'=>by rw[List.drop_of_length_le (by rw[List.length_take];omega)] at hx';cases hx') k (by omega)).trans ?_
    rw[hd,hcx,cutL_hit hx,List.append_assoc]
    rfl
   ·have hu:decide (((l[i]).toNat:Int)=(c.toNat:Int))=false:=decide_eq_false fun e=>hcx (UInt8.toNat_inj.1 (by omega))
    simp only[hu,cond_false]
    refine ih (i+1) f out (by omega) (by omega) (by omega) (by omega) (fun x hx'=>?_) k (by omega)
    rw[htk,List.drop_append_of_le_length (by rw[List.length_take];omega)] at hx'
    rcases List.mem_append.1 hx' with g | g
    ·exact hx x g
    ·rw[List.mem_singleton] at g
     rw[g]
     exact hcx
 refine lift_eq (k:=l.length+3) fun k hk=>(spec_l1Cut.raw_eq k _).trans ?_
 have:=main l.length 0 0 [] (by omega) (Nat.le_refl _) (Nat.zero_le _) (Nat.zero_le _) (fun x hx=>by cases hx) k (by omega)
 rw[List.drop_zero,List.nil_append] at this
 exact this
theorem forI_foldw {S O α:Type} {g:S->α->S} {fin:S->O}:∀ (xs:List α) (i:Nat) (s:S),forI (fun _ s x=>.inr (g s x)) fin i xs s=fin (xs.foldl g s)
 | [],_,_=>rfl
 | x::xs,i,s=>by simp only[forI,List.foldl_cons];exact forI_foldw xs _ _
def wordsL (l:List UInt8):List (List UInt8):=(cutL 32 l).filter fun w=>!decide (w=[])
theorem fold_filter {α:Type} (p:α->Bool):∀ (xs s:List α),xs.foldl (fun s x=>if p x then s++[x] else s) s=s++xs.filter p
 | [],s=>by simp
 | x::xs,s=>by
  rw[List.foldl_cons,fold_filter p xs,List.filter_cons]
  cases h:p x
  ·simp[h]
  ·simp[h]
theorem cut_len (l:List UInt8) (c:UInt8):(cutL c l).length<=l.length+1:=Nat.le_trans (zz_len (e:=.str) (cutL c l)) (cutL_zz c l)
theorem specWords_eq (l:List UInt8) (hl:l.length<=1048576):spec_l16Words.sem (l,())=some (wordsL l,()):=by
 have hn:=cut_len l 32
 refine lift_eq (k:=l.length+3) fun k hk=>(spec_l16Words.raw_eq k _).trans ?_
 unfold spec_l16Words.p
 rw[specCut_eq l 32 hl]
 simp only[Option.bind_some]
 have:=for_loop (B:=fun w v=>spec_l16Words.B0 k w (spec_l16Words.Q0 k (l,()) (cutL 32 l)) (l,()) (cutL 32 l) v) (cutL 32 l) (fun (s:List (List UInt8)) (i:Int)=>(s,i)) (fun _ s x=>.inr (if !decide (x=[]) then s++[x] else s)) (fun s=>(s,())) (fun i s=>s.length<=i) (by rw[maxLen_val];omega)
  (fun i hi s self hI=>by
   show spec_l16Words.b0 _ _ _ _ _=_
   unfold spec_l16Words.b0
   have hlt:(i:Int) < ((cutL 32 l).length:Int):=by omega
   have hcap:∀ x:List UInt8,s.length+[x].length<=CAP:=fun x=>cap_ok (by simp only[List.length_cons,List.length_nil];omega)
   simp only[hlt,decide_true,cond_true,Int.natCast_nonneg,and_self,if_true,Int.toNat_natCast,List.getElem?_eq_getElem hi,Option.bind_some,hcap]
   cases !decide ((cutL 32 l)[i]=[]) <;> rfl)
  (fun i hi s s' hI hf=>by
   injection hf with hf
   subst hf
   split
   ·rw[List.length_append,List.length_cons,List.length_nil];omega
   ·omega) (fun s self _=>by
   show spec_l16Words.b0 _ _ _ _ _=_
   unfold spec_l16Words.b0
   rw[decide_eq_false (Int.lt_irrefl _),cond_false]
   rfl) [] (Nat.zero_le _) k (by omega)
 rw[forI_foldw,fold_filter,List.nil_append] at this
 exact this
theorem implWords_eq (l:List UInt8) (hl:l.length<=1048576):impl_wordsOf.sem (l,())=some (wordsL l,()):=by
 have hn:=cut_len l 32
 have hs:strings_Split.sem (l,([32]:List UInt8),())=some (cutL 32 l,()):=by
  show splitF (l,([32]:List UInt8),())=_
  unfold splitF
  rw[if_pos ⟨Nat.le_refl 1,by show l.length < _;omega⟩]
  have:=split_cut 32 ⟨([32]:List UInt8).toArray⟩ rfl _ ⟨l.toArray⟩ (Nat.le_refl _)
  show some ((splitB _ 0 _ _).map _,())=_
  rw[this]
 refine lift_eq (k:=l.length+3) fun k hk=>(impl_wordsOf.raw_eq k _).trans ?_
 unfold impl_wordsOf.p
 rw[hs]
 simp only[Option.bind_some]
 have:=for_loop (B:=fun w v=>impl_wordsOf.B0 k w (impl_wordsOf.Q0 k (l,()) (cutL 32 l) ((cutL 32 l).length:Int)) (l,()) (cutL 32 l) ((cutL 32 l).length:Int) v) (cutL 32 l) (fun (s:List (List UInt8)) (i:Int)=>(s,i)) (fun _ s x=>.inr (if !decide (x=[]) then s++[x] else s)) (fun s=>(s,())) (fun i s=>s.length<=i) (by rw[maxLen_val];omega)
  (fun i hi s self hI=>by
   show impl_wordsOf.b0 _ _ _ _ _ _=_
   unfold impl_wordsOf.b0
   have hlt:(i:Int) < ((cutL 32 l).length:Int):=by omega
   have hcap:∀ x:List UInt8,s.length+[x].length<=CAP:=fun x=>cap_ok (by simp only[List.length_cons,List.length_nil];omega)
   simp only[hlt,decide_true,cond_true,Int.natCast_nonneg,and_self,if_true,Int.toNat_natCast,List.getElem?_eq_getElem hi,Option.bind_some,hcap]
   cases !decide ((cutL 32 l)[i]=[]) <;> rfl)
  (fun i hi s s' hI hf=>by
   injection hf with hf
   subst hf
   split
   ·rw[List.length_append,List.length_cons,List.length_nil];omega
   ·omega) (fun s self _=>by
   show impl_wordsOf.b0 _ _ _ _ _ _=_
   unfold impl_wordsOf.b0
   rw[decide_eq_false (Int.lt_irrefl _),cond_false]
   rfl) [] (Nat.zero_le _) k (by omega)
 rw[forI_foldw,fold_filter,List.nil_append] at this
 exact this
theorem zz_filter {e:Ty} (p:e.den->Bool):∀ xs:List e.den,zz (.slc e) (xs.filter p)<=zz (.slc e) xs
 | []=>Nat.le_refl _
 | x::xs=>by
  have ih:=zz_filter p xs
  have h1:=zz_cons (e:=e) x xs
  rw[List.filter_cons]
  split
  ·have h2:=zz_cons (e:=e) x (xs.filter p)
   omega
  ·omega
theorem wordsOf_true (v:laws_FnExactWordsOf.Arg) (hv:okA laws_FnExactWordsOf.ps v):laws_FnExactWordsOf.sem v=some (true,()):=by
 obtain ⟨l,⟨⟩⟩:=v
 refine lift_eq (k:=0) fun k _=>(laws_FnExactWordsOf.raw_eq k _).trans ?_
 show laws_FnExactWordsOf.p _=_
 unfold laws_FnExactWordsOf.p
 by_cases hl:(1048576:Int) < (l.length:Int)
 ·rw[decide_eq_true hl,cond_true]
 rw[decide_eq_false hl,cond_false]
 have hl:l.length<=1048576:=by omega
 obtain ⟨R,hR⟩:∃ R:WordsResult,R=((0:Int),wordsL l,()):=⟨_,rfl⟩
 have h1:spec_WordsOf.sem (l,())=some (R,()):=lift_eq (k:=0) fun k _=>(spec_WordsOf.raw_eq k _).trans (by
  show spec_WordsOf.p _=_
  unfold spec_WordsOf.p
  rw[specWords_eq l hl,hR]
  rfl)
 have h2:impl_WordsOf.sem (l,())=some (R,()):=lift_eq (k:=0) fun k _=>(impl_WordsOf.raw_eq k _).trans (by
  show impl_WordsOf.p _=_
  unfold impl_WordsOf.p
  rw[implWords_eq l hl,hR]
  rfl)
 have hz:zz tWordsResult R<=1048577:=by
  have h3:zz tWordsResult R=0+(zz (.slc .str) (wordsL l)+0):=by rw[hR];rfl
  have h4:=zz_filter (e:=.str) (fun w=>!decide (w=[])) (cutL 32 l)
  have h5:=cutL_zz 32 l
  have h6:zz (.slc .str) (wordsL l)<=zz (.slc .str) (cutL 32 l):=h4
  omega
 have hB:BIG=4611686018427387904:=rfl
 obtain ⟨k',y,a1,a2,a3,a4⟩:=mhWordsResult R 1 (by omega) (by omega)
 simp only[h1,h2,eqWordsResult_self R (by omega),a1,a2,show ¬ k' < 0 by omega,Option.bind_some,Bool.not_true,decide_true,decide_false,cond_false,cond_true]
end OT
