/- The proof's parts, merged: Printed by gen.py, a program of this claim  what each Go function computes.. No conditions but those that each states. -/
import Derived.Test.YtljankkghppaiaaGreatTd
set_option maxRecDepth 100000
set_option linter.unusedVariables false
namespace OT
open Go Go.Proofs.Tryz
namespace impl_txFault
abbrev Arg:Type:=Tx×Unit
abbrev Out:Type:=Int×Unit
abbrev ps:PQ:=[(.ro,tTx)]
noncomputable def D:FD:={ fn:=f330,tl:=TL0,ps:=ps,rs:=[(i64,(roMd i64))],gl:=[(214,impl_in.D.sig),(246,impl_singleFault.D.sig),(248,impl_Change_lock.D.sig),(357,slices_Contains_Key.D.sig),(411,impl_isKey.D.sig)],lv:=[(2,[1,12,13,14]),(14,[1,6,41,42,43]),(21,[1,57,58,59])],lx:=[(0,[1]),(2,[1]),(4,[])],od:=[(7,[0,1,2,3,4,5]),(25,[0,1,2,3,4,5])] }
noncomputable def sem (a:Arg):Option Out:=@lift Out fun k=>D.W k a
noncomputable def T0 (a1:Arg) (v402:Int):St:={ n:=77,sl:=[(1,.box tTx (roMd tTx) [] a1.1),(12,.val (.slc tChange) a1.1.2.1),(13,.val i64 (a1.1.2.1.length:Int)),(14,.val i64 v402)],vr:=[],lent:=[] }
noncomputable def S0 (rec:RT Out) (a1:Arg):(Int)->Option Out:=fun v402=>rec (T0 a1 v402)
noncomputable def X0_0 (K:KT Out) (a1:Arg):(Unit)->Option Out:=fun z=>K (.exit 0) ({ n:=77,sl:=[(1,.box tTx (roMd tTx) [] a1.1)],vr:=[],lent:=[] })
noncomputable def b0 (self:Int->Option Out) (e0:(Unit)->Option Out) (a1:Arg) (v402:Int):Option Out:=bif decide (v402 < (a1.1.2.1.length:Int)) then (if 0<=v402 then ((a1.1.2.1[v402.toNat]?).bind fun x603=>(impl_singleFault.sem (x603,())).bind fun r604=>bif !decide (r604.1=(0:Int)) then (some (r604.1,())) else (impl_Change_lock.sem (x603,())).bind fun r605=>(slices_Contains_Key.sem (a1.1.2.2.2.1,r605.1,())).bind fun r606=>bif !r606.1 then (some ((8:Int),())) else self (w64 (v402+(1:Int)))) else none) else e0 ()
noncomputable abbrev B0 (_:Nat):=b0
theorem B0_eq (k:Nat) (rec:RT Out) (K:KT Out) (a1:Arg) (v402:Int):D.N k [1,0,1,0,0] (T0 a1 v402) (loopC rec (keepF [1,12,13,14] []) K)=b0 (S0 rec a1) (X0_0 K a1) a1 v402:=by kernel_rfl
noncomputable def T1 (a1:Arg) (v1008:Int×Int):St:={ n:=77,sl:=[(1,.box tTx (roMd tTx) [] a1.1),(6,.val i64 v1008.1),(41,.val (.slc i64) a1.1.2.2.1),(42,.val i64 (a1.1.2.2.1.length:Int)),(43,.val i64 v1008.2)],vr:=[],lent:=[] }
noncomputable def S1 (rec:RT Out) (a1:Arg):(Int×Int)->Option Out:=fun v1008=>rec (T1 a1 v1008)
noncomputable def X1_2 (K:KT Out) (a1:Arg):(Unit)->Option Out:=fun z=>K (.exit 2) ({ n:=77,sl:=[(1,.box tTx (roMd tTx) [] a1.1)],vr:=[],lent:=[] })
noncomputable def b1 (self:(Int×Int)->Option Out) (e2:(Unit)->Option Out) (a1:Arg) (v1008:Int×Int):Option Out:=bif decide (v1008.2 < (a1.1.2.2.1.length:Int)) then (if 0<=v1008.2 then ((a1.1.2.2.1[v1008.2.toNat]?).bind fun x1209=>(impl_in.sem (x1209,v1008.1,(a1.1.2.1.length:Int),())).bind fun r1210=>bif !r1210.1 then (some ((3:Int),())) else self (x1209,w64 (v1008.2+(1:Int)))) else none) else e2 ()
noncomputable abbrev B1 (_:Nat):=b1
theorem B1_eq (k:Nat) (rec:RT Out) (K:KT Out) (a1:Arg) (v1008:Int×Int):D.N k [1,1,1,1,0,1,0,0] (T1 a1 v1008) (loopC rec (keepF [1,6,41,42,43] []) K)=b1 (S1 rec a1) (X1_2 K a1) a1 v1008:=by kernel_rfl
noncomputable def T2 (a1:Arg) (v1612:Int):St:={ n:=77,sl:=[(1,.box tTx (roMd tTx) [] a1.1),(57,.val (.slc tKey) a1.1.2.2.2.1),(58,.val i64 (a1.1.2.2.2.1.length:Int)),(59,.val i64 v1612)],vr:=[],lent:=[] }
noncomputable def b2 (self:Int->Option Out) (e4:(Unit)->Option Out) (a1:Arg) (v1612:Int):Option Out:=bif decide (v1612 < (a1.1.2.2.2.1.length:Int)) then (if 0<=v1612 then ((a1.1.2.2.2.1[v1612.toNat]?).bind fun x1813=>(impl_isKey.sem (x1813.1,x1813.2.1,())).bind fun r1814=>bif !r1814.1 then (some ((3:Int),())) else if 0<=v1612/\v1612<=(a1.1.2.2.2.1.length:Int) then ((slices_Contains_Key.sem ((a1.1.2.2.2.1.take v1612.toNat).drop 0,x1813,())).bind fun r1815=>bif r1815.1 then (some ((6:Int),())) else self (w64 (v1612+(1:Int)))) else none) else none) else e4 ()
noncomputable abbrev B2 (_:Nat):=b2
noncomputable def q2 (a1:Arg) (z1816:(Unit)):Option Out:=some ((0:Int),())
noncomputable abbrev Q2 (_:Nat):=q2
noncomputable def s2 (k:Nat) (a1:Arg):(Int)->Option Out:=fun v1612=>D.L k [1,1,1,1,1,0,1,0,0] [1,57,58,59] [] (blockC 4 (seqC (D.N k [1,1,1,1,1,1]) D.K0)) (T2 a1 v1612)
noncomputable def r2 (k:Nat) (a1:Arg):(Int)->Option Out:=rawIter (fun w v=>B2 k w (Q2 k a1) a1 v) k
theorem s2_eq (k:Nat) (a1:Arg):s2 k a1=r2 k a1:=
 funext fun v1612=>iter_raw _ _ _ (T2 a1) _ (fun rec v=>by kernel_rfl) k v1612
noncomputable def q1 (l2:(Int)->Option Out) (a1:Arg) (z1211:(Unit)):Option Out:=l2 (0:Int)
noncomputable def Q1 (k:Nat) (a1:Arg) (z1211:(Unit)):Option Out:=q1 (r2 k a1) a1 z1211
theorem Q1_eq (k:Nat) (a1:Arg) (z1211:(Unit)):X1_2 (blockC 2 (seqC (D.N k [1,1,1,1,1]) D.K0)) a1 z1211=Q1 k a1 z1211:=
 Eq.trans (b:=q1 (s2 k a1) a1 z1211) (by kernel_rfl) (by rw[s2_eq];rfl)
noncomputable def s1 (k:Nat) (a1:Arg):(Int×Int)->Option Out:=fun v1008=>D.L k [1,1,1,1,0,1,0,0] [1,6,41,42,43] [] (blockC 2 (seqC (D.N k [1,1,1,1,1]) D.K0)) (T1 a1 v1008)
noncomputable def r1 (k:Nat) (a1:Arg):(Int×Int)->Option Out:=rawIter (fun w v=>B1 k w (Q1 k a1) a1 v) k
theorem s1_eq (k:Nat) (a1:Arg):s1 k a1=r1 k a1:=by
 funext v1008;
 have h2:X1_2 (blockC 2 (seqC (D.N k [1,1,1,1,1]) D.K0)) a1=Q1 k a1:=funext fun z=>Q1_eq k a1 z
 refine (iter_raw _ _ _ (T1 a1) (fun self v=>B1 k self (X1_2 (blockC 2 (seqC (D.N k [1,1,1,1,1]) D.K0)) a1) a1 v) (fun rec v=>B1_eq k rec (blockC 2 (seqC (D.N k [1,1,1,1,1]) D.K0)) a1 v) k v1008).trans ?_
 rw[h2]
 rfl
noncomputable def q0 (l1:(Int×Int)->Option Out) (a1:Arg) (z607:(Unit)):Option Out:=bif decide ((8:Int) < (a1.1.2.2.1.length:Int)) then (some ((2:Int),())) else bif decide ((12:Int) < (a1.1.2.2.2.1.length:Int)) then (some ((2:Int),())) else l1 ((0:Int),(0:Int))
noncomputable def Q0 (k:Nat) (a1:Arg) (z607:(Unit)):Option Out:=q0 (r1 k a1) a1 z607
theorem Q0_eq (k:Nat) (a1:Arg) (z607:(Unit)):X0_0 (blockC 0 (seqC (D.N k [1,1]) D.K0)) a1 z607=Q0 k a1 z607:=
 Eq.trans (b:=q0 (s1 k a1) a1 z607) (by kernel_rfl) (by rw[s1_eq];rfl)
noncomputable def s0 (k:Nat) (a1:Arg):(Int)->Option Out:=fun v402=>D.L k [1,0,1,0,0] [1,12,13,14] [] (blockC 0 (seqC (D.N k [1,1]) D.K0)) (T0 a1 v402)
noncomputable def r0 (k:Nat) (a1:Arg):(Int)->Option Out:=rawIter (fun w v=>B0 k w (Q0 k a1) a1 v) k
theorem s0_eq (k:Nat) (a1:Arg):s0 k a1=r0 k a1:=by
 funext v402;
 have h0:X0_0 (blockC 0 (seqC (D.N k [1,1]) D.K0)) a1=Q0 k a1:=funext fun z=>Q0_eq k a1 z
 refine (iter_raw _ _ _ (T0 a1) (fun self v=>B0 k self (X0_0 (blockC 0 (seqC (D.N k [1,1]) D.K0)) a1) a1 v) (fun rec v=>B0_eq k rec (blockC 0 (seqC (D.N k [1,1]) D.K0)) a1 v) k v402).trans ?_
 rw[h0]
 rfl
noncomputable def p (l0:(Int)->Option Out) (a1:Arg):Option Out:=l0 (0:Int)
theorem raw_eq (k:Nat) (a1:Arg):@Eq (Option Out) (D.W k a1) (p (r0 k a1) a1):=
 Eq.trans (b:=p (s0 k a1) a1) (by kernel_rfl) (by rw[s0_eq])
theorem ok:Ok prog 330 D.sig:=fd_ok func330 tlOk (by kernel_rfl) (fc impl_in.ok (fc impl_singleFault.ok (fc impl_Change_lock.ok (fc slices_Contains_Key.ok (fc impl_isKey.ok (fn_nil _))))))
end impl_txFault
namespace impl_TxsFault
abbrev Arg:Type:=(List Tx)×Unit
abbrev Out:Type:=Int×Unit
abbrev ps:PQ:=[(.ro,(.slc tTx))]
noncomputable def D:FD:={ fn:=f223,tl:=TL0,ps:=ps,rs:=[(i64,(roMd i64))],gl:=[(249,impl_undone.D.sig),(271,impl_isTx.D.sig),(330,impl_txFault.D.sig)],lv:=[(4,[0,14,15,16]),(16,[0,6,45,46,47]),(19,[0,6,45,46,47,52,53,54])],lx:=[(0,[0]),(2,[0]),(4,[0,6,45,46,47])],od:=[(8,[0,1,2,3,4,5,6,7,8,9,10,11,12])] }
noncomputable def sem (a:Arg):Option Out:=@lift Out fun k=>D.W k a
noncomputable def T0 (a1:Arg) (v402:Int):St:={ n:=68,sl:=[(0,.val (.slc tTx) a1.1),(14,.val (.slc tTx) a1.1),(15,.val i64 (a1.1.length:Int)),(16,.val i64 v402)],vr:=[],lent:=[] }
noncomputable def S0 (rec:RT Out) (a1:Arg):(Int)->Option Out:=fun v402=>rec (T0 a1 v402)
noncomputable def X0_0 (K:KT Out) (a1:Arg):(Unit)->Option Out:=fun z=>K (.exit 0) ({ n:=68,sl:=[(0,.val (.slc tTx) a1.1)],vr:=[],lent:=[] })
noncomputable def b0 (self:Int->Option Out) (e0:(Unit)->Option Out) (a1:Arg) (v402:Int):Option Out:=bif decide (v402 < (a1.1.length:Int)) then (if 0<=v402 then ((a1.1[v402.toNat]?).bind fun x603=>(impl_isTx.sem (x603.1,())).bind fun r604=>bif !r604.1 then (some ((3:Int),())) else bif decide ((0:Int) < v402) then (if 0<=w64 (v402 - (1:Int)) then ((a1.1[(w64 (v402 - (1:Int))).toNat]?).bind fun x605=>bif decide (x603.1<=x605.1) then (some ((1:Int),())) else (impl_txFault.sem (x603,())).bind fun r607=>bif !decide (r607.1=(0:Int)) then (some (r607.1,())) else self (w64 (v402+(1:Int)))) else none) else (impl_txFault.sem (x603,())).bind fun r608=>bif !decide (r608.1=(0:Int)) then (some (r608.1,())) else self (w64 (v402+(1:Int)))) else none) else e0 ()
noncomputable abbrev B0 (_:Nat):=b0
theorem B0_eq (k:Nat) (rec:RT Out) (K:KT Out) (a1:Arg) (v402:Int):D.N k [1,1,0,1,0,0] (T0 a1 v402) (loopC rec (keepF [0,14,15,16] []) K)=b0 (S0 rec a1) (X0_0 K a1) a1 v402:=by kernel_rfl
noncomputable def T1 (a1:Arg) (v1010:(List Tx)×(List (Key×Bool))×(List Tx)×Int×Int):St:={ n:=68,sl:=[(0,.val (.slc tTx) v1010.1),(6,.own (.map tKey .bool) (ownMd (.map tKey .bool)) [] v1010.2.1),(45,.val (.slc tTx) v1010.2.2.1),(46,.val i64 v1010.2.2.2.1),(47,.val i64 v1010.2.2.2.2)],vr:=[],lent:=[] }
noncomputable def S1 (rec:RT Out) (a1:Arg):((List Tx)×(List (Key×Bool))×(List Tx)×Int×Int)->Option Out:=fun v1010=>rec (T1 a1 v1010)
noncomputable def X1_2 (K:KT Out) (a1:Arg):(List Tx)->Option Out:=fun z=>K (.exit 2) ({ n:=68,sl:=[(0,.val (.slc tTx) z)],vr:=[],lent:=[] })
noncomputable def T2 (a1:Arg) (c1613:List Tx) (c1614:List Tx) (c1615:Int) (c1616:Int) (c1617:List Key) (c1618:Int) (v1612:(List (Key×Bool))×Int):St:={ n:=68,sl:=[(0,.val (.slc tTx) c1613),(6,.own (.map tKey .bool) (ownMd (.map tKey .bool)) [] v1612.1),(45,.val (.slc tTx) c1614),(46,.val i64 c1615),(47,.val i64 c1616),(52,.val (.slc tKey) c1617),(53,.val i64 c1618),(54,.val i64 v1612.2)],vr:=[],lent:=[] }
noncomputable def b2 (self:((List (Key×Bool))×Int)->Option Out) (e4:(List (Key×Bool))->Option Out) (a1:Arg) (c1613:List Tx) (c1614:List Tx) (c1615:Int) (c1616:Int) (c1617:List Key) (c1618:Int) (v1612:(List (Key×Bool))×Int):Option Out:=bif decide (v1612.2 < c1618) then (if 0<=v1612.2 then ((c1617[v1612.2.toNat]?).bind fun x1819=>bif orZ (mapGet tKey v1612.1 x1819) false then (some ((7:Int),())) else self (mapPut tKey v1612.1 x1819 true,w64 (v1612.2+(1:Int)))) else none) else e4 v1612.1
noncomputable abbrev B2 (_:Nat):=b2
noncomputable def q1 (self:((List Tx)×(List (Key×Bool))×(List Tx)×Int×Int)->Option Out) (e2:(List Tx)->Option Out) (a1:Arg) (c1613:List Tx) (c1614:List Tx) (c1615:Int) (c1616:Int) (c1617:List Key) (c1618:Int) (z1820:(List (Key×Bool))):Option Out:=self (c1613,z1820,c1614,c1615,w64 (c1616+(1:Int)))
noncomputable abbrev Q1 (_:Nat):=q1
noncomputable def s2 (k:Nat) (rec:RT Out) (K:KT Out) (a1:Arg):(List Tx)->(List Tx)->Int->Int->(List Key)->Int->((List (Key×Bool))×Int)->Option Out:=fun c1613 c1614 c1615 c1616 c1617 c1618=>fun v1612=>D.L k [1,1,1,1,0,1,0,0,1,1,0,0,1,1,0,0] [0,6,45,46,47,52,53,54] [] (blockC 4 (blockC 3 (seqC (D.N k [1,1,1,1,0,1,0,0,1,1,1]) (loopC rec (keepF [0,6,45,46,47] []) K)))) (T2 a1 c1613 c1614 c1615 c1616 c1617 c1618 v1612)
noncomputable def r2 (k:Nat) (self:((List Tx)×(List (Key×Bool))×(List Tx)×Int×Int)->Option Out) (e2:(List Tx)->Option Out) (a1:Arg):(List Tx)->(List Tx)->Int->Int->(List Key)->Int->((List (Key×Bool))×Int)->Option Out:=fun c1613 c1614 c1615 c1616 c1617 c1618=>rawIter (fun w v=>B2 k w (Q1 k self e2 a1 c1613 c1614 c1615 c1616 c1617 c1618) a1 c1613 c1614 c1615 c1616 c1617 c1618 v) k
theorem s2_eq (k:Nat) (rec:RT Out) (K:KT Out) (a1:Arg):s2 k rec K a1=r2 k (S1 rec a1) (X1_2 K a1) a1:=
 funext fun c1613=>funext fun c1614=>funext fun c1615=>funext fun c1616=>funext fun c1617=>funext fun c1618=>funext fun v1612=>iter_raw _ _ _ (T2 a1 c1613 c1614 c1615 c1616 c1617 c1618) _ (fun rec v=>by kernel_rfl) k v1612
noncomputable def b1 (self:((List Tx)×(List (Key×Bool))×(List Tx)×Int×Int)->Option Out) (e2:(List Tx)->Option Out) (l2:(List Tx)->(List Tx)->Int->Int->(List Key)->Int->((List (Key×Bool))×Int)->Option Out) (a1:Arg) (v1010:(List Tx)×(List (Key×Bool))×(List Tx)×Int×Int):Option Out:=bif decide (v1010.2.2.2.2 < v1010.2.2.2.1) then (if 0<=v1010.2.2.2.2 then ((v1010.2.2.1[v1010.2.2.2.2.toNat]?).bind fun x1211=>l2 v1010.1 v1010.2.2.1 v1010.2.2.2.1 v1010.2.2.2.2 x1211.2.2.2.1 (x1211.2.2.2.1.length:Int) (v1010.2.1,(0:Int))) else none) else e2 v1010.1
noncomputable def B1 (k:Nat) (self:((List Tx)×(List (Key×Bool))×(List Tx)×Int×Int)->Option Out) (e2:(List Tx)->Option Out) (a1:Arg) (v1010:(List Tx)×(List (Key×Bool))×(List Tx)×Int×Int):Option Out:=b1 self e2 (r2 k self e2 a1) a1 v1010
theorem B1_eq (k:Nat) (rec:RT Out) (K:KT Out) (a1:Arg) (v1010:(List Tx)×(List (Key×Bool))×(List Tx)×Int×Int):D.N k [1,1,1,1,0,1,0,0] (T1 a1 v1010) (loopC rec (keepF [0,6,45,46,47] []) K)=B1 k (S1 rec a1) (X1_2 K a1) a1 v1010:=
 Eq.trans (b:=b1 (S1 rec a1) (X1_2 K a1) (s2 k rec K a1) a1 v1010) (by kernel_rfl) (by rw[s2_eq];rfl)
noncomputable def q2 (a1:Arg) (z1821:(List Tx)):Option Out:=(impl_undone.sem (z1821,())).bind fun r1822=>bif decide ((12:Int) < r1822.1) then (some ((2:Int),())) else some ((0:Int),())
noncomputable abbrev Q2 (_:Nat):=q2
theorem Q2_eq (k:Nat) (a1:Arg) (z1821:(List Tx)):X1_2 (blockC 2 (seqC (D.N k [1,1,1,1,1]) D.K0)) a1 z1821=q2 a1 z1821:=by kernel_rfl
noncomputable def s1 (k:Nat) (a1:Arg):((List Tx)×(List (Key×Bool))×(List Tx)×Int×Int)->Option Out:=fun v1010=>D.L k [1,1,1,1,0,1,0,0] [0,6,45,46,47] [] (blockC 2 (seqC (D.N k [1,1,1,1,1]) D.K0)) (T1 a1 v1010)
noncomputable def r1 (k:Nat) (a1:Arg):((List Tx)×(List (Key×Bool))×(List Tx)×Int×Int)->Option Out:=rawIter (fun w v=>B1 k w (Q2 k a1) a1 v) k
theorem s1_eq (k:Nat) (a1:Arg):s1 k a1=r1 k a1:=by
 funext v1010;
 have h2:X1_2 (blockC 2 (seqC (D.N k [1,1,1,1,1]) D.K0)) a1=Q2 k a1:=funext fun z=>Q2_eq k a1 z
 refine (iter_raw _ _ _ (T1 a1) (fun self v=>B1 k self (X1_2 (blockC 2 (seqC (D.N k [1,1,1,1,1]) D.K0)) a1) a1 v) (fun rec v=>B1_eq k rec (blockC 2 (seqC (D.N k [1,1,1,1,1]) D.K0)) a1 v) k v1010).trans ?_
 rw[h2]
 rfl
noncomputable def q0 (l1:((List Tx)×(List (Key×Bool))×(List Tx)×Int×Int)->Option Out) (a1:Arg) (z609:(Unit)):Option Out:=l1 (a1.1,([]:List (Key×Bool)),a1.1,(a1.1.length:Int),(0:Int))
noncomputable def Q0 (k:Nat) (a1:Arg) (z609:(Unit)):Option Out:=q0 (r1 k a1) a1 z609
theorem Q0_eq (k:Nat) (a1:Arg) (z609:(Unit)):X0_0 (blockC 0 (seqC (D.N k [1,1,1]) D.K0)) a1 z609=Q0 k a1 z609:=
 Eq.trans (b:=q0 (s1 k a1) a1 z609) (by kernel_rfl) (by rw[s1_eq];rfl)
noncomputable def s0 (k:Nat) (a1:Arg):(Int)->Option Out:=fun v402=>D.L k [1,1,0,1,0,0] [0,14,15,16] [] (blockC 0 (seqC (D.N k [1,1,1]) D.K0)) (T0 a1 v402)
noncomputable def r0 (k:Nat) (a1:Arg):(Int)->Option Out:=rawIter (fun w v=>B0 k w (Q0 k a1) a1 v) k
theorem s0_eq (k:Nat) (a1:Arg):s0 k a1=r0 k a1:=by
 funext v402;
 have h0:X0_0 (blockC 0 (seqC (D.N k [1,1,1]) D.K0)) a1=Q0 k a1:=funext fun z=>Q0_eq k a1 z
 refine (iter_raw _ _ _ (T0 a1) (fun self v=>B0 k self (X0_0 (blockC 0 (seqC (D.N k [1,1,1]) D.K0)) a1) a1 v) (fun rec v=>B0_eq k rec (blockC 0 (seqC (D.N k [1,1,1]) D.K0)) a1 v) k v402).trans ?_
 rw[h0]
 rfl
noncomputable def p (l0:(Int)->Option Out) (a1:Arg):Option Out:=bif decide ((4:Int) < (a1.1.length:Int)) then (some ((2:Int),())) else l0 (0:Int)
theorem raw_eq (k:Nat) (a1:Arg):@Eq (Option Out) (D.W k a1) (p (r0 k a1) a1):=
 Eq.trans (b:=p (s0 k a1) a1) (by kernel_rfl) (by rw[s0_eq])
theorem ok:Ok prog 223 D.sig:=fd_ok func223 tlOk (by kernel_rfl) (fc impl_undone.ok (fc impl_isTx.ok (fc impl_txFault.ok (fn_nil _))))
end impl_TxsFault
namespace impl_keysOf
abbrev Arg:Type:=(List Row)×(List Tx)×Unit
abbrev Out:Type:=(List (Key×Bool))×Unit
abbrev ps:PQ:=[(.ro,(.slc tRow)),(.ro,(.slc tTx))]
noncomputable def D:FD:={ fn:=f224,tl:=TL0,ps:=ps,rs:=[((.map tKey .bool),(ownMd (.map tKey .bool)))],lv:=[(3,[1,5,13,14,15]),(8,[5,26,27,28]),(11,[5,26,27,28,33,34,35])],lx:=[(0,[1,5]),(2,[5]),(4,[5,26,27,28])] }
noncomputable def sem (a:Arg):Option Out:=@lift Out fun k=>D.W k a
noncomputable def T0 (a1:Arg) (v402:(List (Key×Bool))×Int):St:={ n:=44,sl:=[(1,.val (.slc tTx) a1.2.1),(5,.own (.map tKey .bool) (ownMd (.map tKey .bool)) [] v402.1),(13,.val (.slc tRow) a1.1),(14,.val i64 (a1.1.length:Int)),(15,.val i64 v402.2)],vr:=[],lent:=[] }
noncomputable def S0 (rec:RT Out) (a1:Arg):((List (Key×Bool))×Int)->Option Out:=fun v402=>rec (T0 a1 v402)
noncomputable def X0_0 (K:KT Out) (a1:Arg):(List (Key×Bool))->Option Out:=fun z=>K (.exit 0) ({ n:=44,sl:=[(1,.val (.slc tTx) a1.2.1),(5,.own (.map tKey .bool) (ownMd (.map tKey .bool)) [] z)],vr:=[],lent:=[] })
noncomputable def b0 (self:((List (Key×Bool))×Int)->Option Out) (e0:(List (Key×Bool))->Option Out) (a1:Arg) (v402:(List (Key×Bool))×Int):Option Out:=bif decide (v402.2 < (a1.1.length:Int)) then (if 0<=v402.2 then ((a1.1[v402.2.toNat]?).bind fun x603=>let y604:=mapPut tKey v402.1 (x603.1,x603.2.1,()) true;self (y604,w64 (v402.2+(1:Int)))) else none) else e0 v402.1
noncomputable abbrev B0 (_:Nat):=b0
theorem B0_eq (k:Nat) (rec:RT Out) (K:KT Out) (a1:Arg) (v402:(List (Key×Bool))×Int):D.N k [1,1,0,1,0,0] (T0 a1 v402) (loopC rec (keepF [1,5,13,14,15] []) K)=b0 (S0 rec a1) (X0_0 K a1) a1 v402:=by kernel_rfl
noncomputable def T1 (a1:Arg) (v1006:(List (Key×Bool))×(List Tx)×Int×Int):St:={ n:=44,sl:=[(5,.own (.map tKey .bool) (ownMd (.map tKey .bool)) [] v1006.1),(26,.val (.slc tTx) v1006.2.1),(27,.val i64 v1006.2.2.1),(28,.val i64 v1006.2.2.2)],vr:=[],lent:=[] }
noncomputable def S1 (rec:RT Out) (a1:Arg):((List (Key×Bool))×(List Tx)×Int×Int)->Option Out:=fun v1006=>rec (T1 a1 v1006)
noncomputable def X1_2 (K:KT Out) (a1:Arg):(List (Key×Bool))->Option Out:=fun z=>K (.exit 2) ({ n:=44,sl:=[(5,.own (.map tKey .bool) (ownMd (.map tKey .bool)) [] z)],vr:=[],lent:=[] })
noncomputable def T2 (a1:Arg) (c1609:List Tx) (c1610:Int) (c1611:Int) (c1612:List Key) (c1613:Int) (v1608:(List (Key×Bool))×Int):St:={ n:=44,sl:=[(5,.own (.map tKey .bool) (ownMd (.map tKey .bool)) [] v1608.1),(26,.val (.slc tTx) c1609),(27,.val i64 c1610),(28,.val i64 c1611),(33,.val (.slc tKey) c1612),(34,.val i64 c1613),(35,.val i64 v1608.2)],vr:=[],lent:=[] }
noncomputable def b2 (self:((List (Key×Bool))×Int)->Option Out) (e4:(List (Key×Bool))->Option Out) (a1:Arg) (c1609:List Tx) (c1610:Int) (c1611:Int) (c1612:List Key) (c1613:Int) (v1608:(List (Key×Bool))×Int):Option Out:=bif decide (v1608.2 < c1613) then (if 0<=v1608.2 then ((c1612[v1608.2.toNat]?).bind fun x1814=>self (mapPut tKey v1608.1 x1814 true,w64 (v1608.2+(1:Int)))) else none) else e4 v1608.1
noncomputable abbrev B2 (_:Nat):=b2
noncomputable def q1 (self:((List (Key×Bool))×(List Tx)×Int×Int)->Option Out) (e2:(List (Key×Bool))->Option Out) (a1:Arg) (c1609:List Tx) (c1610:Int) (c1611:Int) (c1612:List Key) (c1613:Int) (z1815:(List (Key×Bool))):Option Out:=self (z1815,c1609,c1610,w64 (c1611+(1:Int)))
noncomputable abbrev Q1 (_:Nat):=q1
noncomputable def s2 (k:Nat) (rec:RT Out) (K:KT Out) (a1:Arg):(List Tx)->Int->Int->(List Key)->Int->((List (Key×Bool))×Int)->Option Out:=fun c1609 c1610 c1611 c1612 c1613=>fun v1608=>D.L k [1,1,1,0,1,0,0,1,1,0,0,1,1,0,0] [5,26,27,28,33,34,35] [] (blockC 4 (blockC 3 (seqC (D.N k [1,1,1,0,1,0,0,1,1,1]) (loopC rec (keepF [5,26,27,28] []) K)))) (T2 a1 c1609 c1610 c1611 c1612 c1613 v1608)
noncomputable def r2 (k:Nat) (self:((List (Key×Bool))×(List Tx)×Int×Int)->Option Out) (e2:(List (Key×Bool))->Option Out) (a1:Arg):(List Tx)->Int->Int->(List Key)->Int->((List (Key×Bool))×Int)->Option Out:=fun c1609 c1610 c1611 c1612 c1613=>rawIter (fun w v=>B2 k w (Q1 k self e2 a1 c1609 c1610 c1611 c1612 c1613) a1 c1609 c1610 c1611 c1612 c1613 v) k
theorem s2_eq (k:Nat) (rec:RT Out) (K:KT Out) (a1:Arg):s2 k rec K a1=r2 k (S1 rec a1) (X1_2 K a1) a1:=
 funext fun c1609=>funext fun c1610=>funext fun c1611=>funext fun c1612=>funext fun c1613=>funext fun v1608=>iter_raw _ _ _ (T2 a1 c1609 c1610 c1611 c1612 c1613) _ (fun rec v=>by kernel_rfl) k v1608
noncomputable def b1 (self:((List (Key×Bool))×(List Tx)×Int×Int)->Option Out) (e2:(List (Key×Bool))->Option Out) (l2:(List Tx)->Int->Int->(List Key)->Int->((List (Key×Bool))×Int)->Option Out) (a1:Arg) (v1006:(List (Key×Bool))×(List Tx)×Int×Int):Option Out:=bif decide (v1006.2.2.2 < v1006.2.2.1) then (if 0<=v1006.2.2.2 then ((v1006.2.1[v1006.2.2.2.toNat]?).bind fun x1207=>l2 v1006.2.1 v1006.2.2.1 v1006.2.2.2 x1207.2.2.2.1 (x1207.2.2.2.1.length:Int) (v1006.1,(0:Int))) else none) else e2 v1006.1
noncomputable def B1 (k:Nat) (self:((List (Key×Bool))×(List Tx)×Int×Int)->Option Out) (e2:(List (Key×Bool))->Option Out) (a1:Arg) (v1006:(List (Key×Bool))×(List Tx)×Int×Int):Option Out:=b1 self e2 (r2 k self e2 a1) a1 v1006
theorem B1_eq (k:Nat) (rec:RT Out) (K:KT Out) (a1:Arg) (v1006:(List (Key×Bool))×(List Tx)×Int×Int):D.N k [1,1,1,0,1,0,0] (T1 a1 v1006) (loopC rec (keepF [5,26,27,28] []) K)=B1 k (S1 rec a1) (X1_2 K a1) a1 v1006:=
 Eq.trans (b:=b1 (S1 rec a1) (X1_2 K a1) (s2 k rec K a1) a1 v1006) (by kernel_rfl) (by rw[s2_eq];rfl)
noncomputable def q2 (a1:Arg) (z1816:(List (Key×Bool))):Option Out:=some (z1816,())
noncomputable abbrev Q2 (_:Nat):=q2
theorem Q2_eq (k:Nat) (a1:Arg) (z1816:(List (Key×Bool))):X1_2 (blockC 2 (seqC (D.N k [1,1,1,1]) D.K0)) a1 z1816=q2 a1 z1816:=by kernel_rfl
noncomputable def s1 (k:Nat) (a1:Arg):((List (Key×Bool))×(List Tx)×Int×Int)->Option Out:=fun v1006=>D.L k [1,1,1,0,1,0,0] [5,26,27,28] [] (blockC 2 (seqC (D.N k [1,1,1,1]) D.K0)) (T1 a1 v1006)
noncomputable def r1 (k:Nat) (a1:Arg):((List (Key×Bool))×(List Tx)×Int×Int)->Option Out:=rawIter (fun w v=>B1 k w (Q2 k a1) a1 v) k
theorem s1_eq (k:Nat) (a1:Arg):s1 k a1=r1 k a1:=by
 funext v1006;
 have h2:X1_2 (blockC 2 (seqC (D.N k [1,1,1,1]) D.K0)) a1=Q2 k a1:=funext fun z=>Q2_eq k a1 z
 refine (iter_raw _ _ _ (T1 a1) (fun self v=>B1 k self (X1_2 (blockC 2 (seqC (D.N k [1,1,1,1]) D.K0)) a1) a1 v) (fun rec v=>B1_eq k rec (blockC 2 (seqC (D.N k [1,1,1,1]) D.K0)) a1 v) k v1006).trans ?_
 rw[h2]
 rfl
noncomputable def q0 (l1:((List (Key×Bool))×(List Tx)×Int×Int)->Option Out) (a1:Arg) (z605:(List (Key×Bool))):Option Out:=l1 (z605,a1.2.1,(a1.2.1.length:Int),(0:Int))
noncomputable def Q0 (k:Nat) (a1:Arg) (z605:(List (Key×Bool))):Option Out:=q0 (r1 k a1) a1 z605
theorem Q0_eq (k:Nat) (a1:Arg) (z605:(List (Key×Bool))):X0_0 (blockC 0 (seqC (D.N k [1,1,1]) D.K0)) a1 z605=Q0 k a1 z605:=
 Eq.trans (b:=q0 (s1 k a1) a1 z605) (by kernel_rfl) (by rw[s1_eq];rfl)
noncomputable def s0 (k:Nat) (a1:Arg):((List (Key×Bool))×Int)->Option Out:=fun v402=>D.L k [1,1,0,1,0,0] [1,5,13,14,15] [] (blockC 0 (seqC (D.N k [1,1,1]) D.K0)) (T0 a1 v402)
noncomputable def r0 (k:Nat) (a1:Arg):((List (Key×Bool))×Int)->Option Out:=rawIter (fun w v=>B0 k w (Q0 k a1) a1 v) k
theorem s0_eq (k:Nat) (a1:Arg):s0 k a1=r0 k a1:=by
 funext v402;
 have h0:X0_0 (blockC 0 (seqC (D.N k [1,1,1]) D.K0)) a1=Q0 k a1:=funext fun z=>Q0_eq k a1 z
 refine (iter_raw _ _ _ (T0 a1) (fun self v=>B0 k self (X0_0 (blockC 0 (seqC (D.N k [1,1,1]) D.K0)) a1) a1 v) (fun rec v=>B0_eq k rec (blockC 0 (seqC (D.N k [1,1,1]) D.K0)) a1 v) k v402).trans ?_
 rw[h0]
 rfl
noncomputable def p (l0:((List (Key×Bool))×Int)->Option Out) (a1:Arg):Option Out:=l0 (([]:List (Key×Bool)),(0:Int))
theorem raw_eq (k:Nat) (a1:Arg):@Eq (Option Out) (D.W k a1) (p (r0 k a1) a1):=
 Eq.trans (b:=p (s0 k a1) a1) (by kernel_rfl) (by rw[s0_eq])
theorem ok:Ok prog 224 D.sig:=fd_ok func224 tlOk (by kernel_rfl) (fn_nil _)
end impl_keysOf
namespace impl_PlainFault
abbrev Arg:Type:=Plain×Unit
abbrev Out:Type:=Int×Unit
abbrev ps:PQ:=[(.ro,tPlain)]
noncomputable def D:FD:={ fn:=f98,tl:=TL0,ps:=ps,rs:=[(i64,(roMd i64))],gl:=[(181,impl_committed.D.sig),(207,impl_RowsFault.D.sig),(214,impl_in.D.sig),(223,impl_TxsFault.D.sig),(224,impl_keysOf.D.sig)],od:=[(7,[0,1,2,3,4,5,6,7,8,9,10,11,12,13,14,15,16,17,18,19,20,21,22,23])],ar:=[(7,[1,6,11,13,18,20])],bx:=[(7,[1])] }
noncomputable def sem (a:Arg):Option Out:=@lift Out fun k=>D.W k a
noncomputable def p (a1:Arg):Option Out:=(impl_RowsFault.sem (a1.1.1,())).bind fun r2=>bif !decide (r2.1=(0:Int)) then (some (r2.1,())) else (impl_TxsFault.sem (a1.1.2.1,())).bind fun r3=>bif !decide (r3.1=(0:Int)) then (some (r3.1,())) else let j8:Option Out:=(impl_keysOf.sem (a1.1.1,a1.1.2.1,())).bind fun r9=>bif decide ((12:Int) < (r9.1.length:Int)) then (some ((2:Int),())) else (impl_committed.sem (a1.1.1,a1.1.2.1,())).bind fun r10=>bif !decide (r10.2.1=(0:Int)) then (some ((8:Int),())) else some ((0:Int),());(impl_in.sem (a1.1.2.2.1,(1:Int),(100:Int),())).bind fun r4=>bif !r4.1 then (some ((3:Int),())) else bif decide ((0:Int) < (a1.1.2.1.length:Int)) then (if 0<=w64 ((a1.1.2.1.length:Int) - (1:Int)) then ((a1.1.2.1[(w64 ((a1.1.2.1.length:Int) - (1:Int))).toNat]?).bind fun x5=>bif decide (a1.1.2.2.1<=x5.1) then (some ((3:Int),())) else j8) else none) else j8
theorem raw_eq (k:Nat) (a1:Arg):@Eq (Option Out) (D.W k a1) (p a1):=by kernel_rfl
theorem ok:Ok prog 98 D.sig:=fd_ok func98 tlOk (by kernel_rfl) (fc impl_committed.ok (fc impl_RowsFault.ok (fc impl_in.ok (fc impl_TxsFault.ok (fc impl_keysOf.ok (fn_nil _))))))
end impl_PlainFault
namespace impl_onRow
abbrev Arg:Type:=Int×Unit
abbrev Out:Type:=Bool×Unit
abbrev ps:PQ:=[(.ro,i64)]
noncomputable def D:FD:={ fn:=f349,tl:=TL0,ps:=ps,rs:=[(.bool,(roMd .bool))] }
noncomputable def sem (a:Arg):Option Out:=@lift Out fun k=>D.W k a
noncomputable def p (a1:Arg):Option Out:=bif decide (a1.1=(2:Int)) then (some (true,())) else bif decide (a1.1=(3:Int)) then (some (true,())) else some (decide (a1.1=(4:Int)),())
theorem raw_eq (k:Nat) (a1:Arg):@Eq (Option Out) (D.W k a1) (p a1):=by kernel_rfl
theorem ok:Ok prog 349 D.sig:=fd_ok func349 tlOk (by kernel_rfl) (fn_nil _)
end impl_onRow
namespace impl_OpFault
abbrev Arg:Type:=Op×Unit
abbrev Out:Type:=Int×Unit
abbrev ps:PQ:=[(.ro,tOp)]
noncomputable def D:FD:={ fn:=f240,tl:=TL0,ps:=ps,rs:=[(i64,(roMd i64))],gl:=[(214,impl_in.D.sig),(271,impl_isTx.D.sig),(313,impl_RowFault.D.sig),(349,impl_onRow.D.sig)] }
noncomputable def sem (a:Arg):Option Out:=@lift Out fun k=>D.W k a
noncomputable def p (a1:Arg):Option Out:=let j29:=fun (p28:Bool)=>(let j47:Option Out:=let j55:Option Out:=bif !p28 then ((impl_isTx.sem (a1.1.2.1,())).bind fun r56=>bif !r56.1 then (some ((3:Int),())) else (impl_in.sem (a1.1.2.2.2.1,(0:Int),(7:Int),())).bind fun r57=>bif !r57.1 then (some ((3:Int),())) else (impl_onRow.sem (a1.1.1,())).bind fun r61=>bif r61.1 then ((impl_RowFault.sem (a1.1.2.2.1,())).bind fun r62=>some (r62.1,())) else some ((0:Int),())) else (impl_in.sem (a1.1.2.2.2.1,(0:Int),(7:Int),())).bind fun r58=>bif !r58.1 then (some ((3:Int),())) else (impl_onRow.sem (a1.1.1,())).bind fun r63=>bif r63.1 then ((impl_RowFault.sem (a1.1.2.2.1,())).bind fun r64=>some (r64.1,())) else some ((0:Int),());bif decide (a1.1.1=(4:Int)) then (bif !decide (a1.1.2.2.1.2.2.1=(0:Int)) then (some ((1:Int),())) else bif !decide (a1.1.2.2.1.2.2.2.1=([]:List UInt8)) then (some ((1:Int),())) else j55) else j55;(impl_in.sem (a1.1.1,(1:Int),(9:Int),())).bind fun r30=>bif !r30.1 then (some ((1:Int),())) else bif p28 then (bif !decide (a1.1.2.1=(0:Int)) then (some ((1:Int),())) else (impl_onRow.sem (a1.1.1,())).bind fun r31=>bif !r31.1 then (bif !(Ty.eq tRow a1.1.2.2.1 ((0:Int),(0:Int),(0:Int),([]:List UInt8),())) then (some ((1:Int),())) else bif !decide (a1.1.1=(6:Int)) then (bif !decide (a1.1.2.2.2.1=(0:Int)) then (some ((1:Int),())) else j47) else j47) else bif !decide (a1.1.1=(6:Int)) then (bif !decide (a1.1.2.2.2.1=(0:Int)) then (some ((1:Int),())) else j47) else j47) else (impl_onRow.sem (a1.1.1,())).bind fun r32=>bif !r32.1 then (bif !(Ty.eq tRow a1.1.2.2.1 ((0:Int),(0:Int),(0:Int),([]:List UInt8),())) then (some ((1:Int),())) else bif !decide (a1.1.1=(6:Int)) then (bif !decide (a1.1.2.2.2.1=(0:Int)) then (some ((1:Int),())) else j47) else j47) else bif !decide (a1.1.1=(6:Int)) then (bif !decide (a1.1.2.2.2.1=(0:Int)) then (some ((1:Int),())) else j47) else j47:Option Out);bif decide (a1.1.1=(1:Int)) then (j29 true) else j29 (decide (a1.1.1=(9:Int)))
theorem raw_eq (k:Nat) (a1:Arg):@Eq (Option Out) (D.W k a1) (p a1):=by kernel_rfl
theorem ok:Ok prog 240 D.sig:=fd_ok func240 tlOk (by kernel_rfl) (fc impl_in.ok (fc impl_isTx.ok (fc impl_RowFault.ok (fc impl_onRow.ok (fn_nil _)))))
end impl_OpFault
namespace impl_txAt_1
abbrev Arg:Type:=Tx×Int×Unit
abbrev Out:Type:=Bool×Unit
abbrev ps:PQ:=[(.ro,tTx),(.ro,(.ptr i64))]
noncomputable def D:FD:={ fn:=f351,tl:=TL0,ps:=ps,rs:=[(.bool,(roMd .bool))],cap:=true }
noncomputable def sem (a:Arg):Option Out:=@lift Out fun k=>D.W k a
noncomputable def p (a1:Arg):Option Out:=some (decide (a1.1.1=a1.2.1),())
theorem raw_eq (k:Nat) (a1:Arg):@Eq (Option Out) (D.W k a1) (p a1):=by kernel_rfl
theorem ok:Ok prog 351 D.sig:=fd_ok func351 tlOk (by kernel_rfl) (fn_nil _)
end impl_txAt_1
namespace slices_IndexFunc_Tx
abbrev Arg:Type:=(List Tx)×(Nat×Int)×Unit
abbrev Out:Type:=Int×Unit
abbrev ps:PQ:=[(.ro,(.slc tTx)),(.fix 351,.fn)]
noncomputable def D:FD:={ fn:=f350,tl:=TL0,ps:=ps,rs:=[(i64,(roMd i64))],gl:=[(351,impl_txAt_1.D.sig)],lv:=[(2,[0,1,7,8])],lx:=[(0,[])] }
noncomputable def sem (a:Arg):Option Out:=@lift Out fun k=>D.W k a
noncomputable def T0 (a1:Arg) (v402:Int):St:={ n:=19,sl:=[(0,.val (.slc tTx) a1.1),(1,.val .fn ((351,a1.2.1.2):Nat×Int)),(7,.val i64 (a1.1.length:Int)),(8,.val i64 v402)],vr:=[],lent:=[] }
noncomputable def b0 (self:Int->Option Out) (e0:(Unit)->Option Out) (a1:Arg) (v402:Int):Option Out:=bif decide (v402 < (a1.1.length:Int)) then (if 0<=v402 then ((a1.1[v402.toNat]?).bind fun x603=>(impl_txAt_1.sem (x603,a1.2.1.2,())).bind fun r604=>bif r604.1 then (some (v402,())) else self (w64 (v402+(1:Int)))) else none) else e0 ()
noncomputable abbrev B0 (_:Nat):=b0
noncomputable def q0 (a1:Arg) (z605:(Unit)):Option Out:=some ((-1:Int),())
noncomputable abbrev Q0 (_:Nat):=q0
noncomputable def s0 (k:Nat) (a1:Arg):(Int)->Option Out:=fun v402=>D.L k [1,0,1,0,0] [0,1,7,8] [] (blockC 0 (seqC (D.N k [1,1]) D.K0)) (T0 a1 v402)
noncomputable def r0 (k:Nat) (a1:Arg):(Int)->Option Out:=rawIter (fun w v=>B0 k w (Q0 k a1) a1 v) k
theorem s0_eq (k:Nat) (a1:Arg):s0 k a1=r0 k a1:=
 funext fun v402=>iter_raw _ _ _ (T0 a1) _ (fun rec v=>by kernel_rfl) k v402
noncomputable def p (l0:(Int)->Option Out) (a1:Arg):Option Out:=l0 (0:Int)
theorem raw_eq (k:Nat) (a1:Arg):@Eq (Option Out) (D.W k a1) (p (r0 k a1) a1):=
 Eq.trans (b:=p (s0 k a1) a1) (by kernel_rfl) (by rw[s0_eq])
theorem ok:Ok prog 350 D.sig:=fd_ok func350 tlOk (by kernel_rfl) (fc impl_txAt_1.ok (fn_nil _))
end slices_IndexFunc_Tx
namespace impl_txAt
abbrev Arg:Type:=(List Tx)×Int×Unit
abbrev Out:Type:=Int×Unit
abbrev ps:PQ:=[(.ro,(.slc tTx)),(.ro,i64)]
noncomputable def D:FD:={ fn:=f241,tl:=TL0,ps:=ps,rs:=[(i64,(roMd i64))],gl:=[(350,slices_IndexFunc_Tx.D.sig)] }
noncomputable def sem (a:Arg):Option Out:=@lift Out fun k=>D.W k a
noncomputable def p (a1:Arg):Option Out:=(slices_IndexFunc_Tx.sem (a1.1,((351,a1.2.1):Nat×Int),())).bind fun r2=>some (r2.1,())
theorem raw_eq (k:Nat) (a1:Arg):@Eq (Option Out) (D.W k a1) (p a1):=by kernel_rfl
theorem ok:Ok prog 241 D.sig:=fd_ok func241 tlOk (by kernel_rfl) (fc slices_IndexFunc_Tx.ok (fn_nil _))
end impl_txAt
namespace impl_tableMayBe
abbrev Arg:Type:=(List Row)×Change×Unit
abbrev Out:Type:=Int×Unit
abbrev ps:PQ:=[(.ro,(.slc tRow)),(.ro,tChange)]
noncomputable def D:FD:={ fn:=f421,tl:=TL0,ps:=ps,rs:=[(i64,(roMd i64))],gl:=[(198,impl_Change_key.D.sig),(214,impl_in.D.sig)],lv:=[(4,[3,28,29,30])],lx:=[(0,[])],od:=[(6,[0,1,2,3,4,5,6,7,8,9,10,11,12,13,14,15,16,17,18,19,20,21,22,23,24])],ar:=[(6,[1,2,8,13,17,21])],bx:=[(3,[3]),(6,[6])] }
noncomputable def sem (a:Arg):Option Out:=@lift Out fun k=>D.W k a
noncomputable def T0 (a1:Arg) (v1005:Int):St:={ n:=60,sl:=[(3,.cp tChange a1.2.1),(28,.val (.slc tRow) a1.1),(29,.val i64 (a1.1.length:Int)),(30,.val i64 v1005)],vr:=[],lent:=[] }
noncomputable def b0 (self:Int->Option Out) (e0:(Unit)->Option Out) (a1:Arg) (v1005:Int):Option Out:=bif decide (v1005 < (a1.1.length:Int)) then (if 0<=v1005 then ((a1.1[v1005.toNat]?).bind fun x1206=>(impl_Change_key.sem (a1.2.1,())).bind fun r1207=>bif decide (x1206.1=r1207.1.2.1) then (bif !decide (x1206.1=(0:Int)) then (bif !a1.2.1.2.2.1 then (some ((8:Int),())) else bif decide (a1.2.1.2.2.2.1.2.2.1 < (x1206.2.2.2.1.length:Int)) then (some ((8:Int),())) else self (w64 (v1005+(1:Int)))) else self (w64 (v1005+(1:Int)))) else self (w64 (v1005+(1:Int)))) else none) else e0 ()
noncomputable abbrev B0 (_:Nat):=b0
noncomputable def q0 (a1:Arg) (z1208:(Unit)):Option Out:=some ((0:Int),())
noncomputable abbrev Q0 (_:Nat):=q0
noncomputable def s0 (k:Nat) (a1:Arg):(Int)->Option Out:=fun v1005=>D.L k [1,1,0,1,0,0] [3,28,29,30] [] (blockC 0 (seqC (D.N k [1,1,1]) D.K0)) (T0 a1 v1005)
noncomputable def r0 (k:Nat) (a1:Arg):(Int)->Option Out:=rawIter (fun w v=>B0 k w (Q0 k a1) a1 v) k
theorem s0_eq (k:Nat) (a1:Arg):s0 k a1=r0 k a1:=
 funext fun v1005=>iter_raw _ _ _ (T0 a1) _ (fun rec v=>by kernel_rfl) k v1005
noncomputable def p (l0:(Int)->Option Out) (a1:Arg):Option Out:=let j604:Option Out:=l0 (0:Int);bif a1.2.1.2.2.1 then ((impl_in.sem (a1.2.1.2.2.2.1.2.1,(1:Int),(3:Int),())).bind fun r2=>bif !r2.1 then (some ((10:Int),())) else bif decide ((8:Int) < a1.2.1.2.2.2.1.2.2.1) then (some ((10:Int),())) else bif !decide (a1.2.1.2.2.2.1.2.2.2.1=([]:List UInt8)) then (some ((10:Int),())) else j604) else j604
theorem raw_eq (k:Nat) (a1:Arg):@Eq (Option Out) (D.W k a1) (p (r0 k a1) a1):=
 Eq.trans (b:=p (s0 k a1) a1) (by kernel_rfl) (by rw[s0_eq])
theorem ok:Ok prog 421 D.sig:=fd_ok func421 tlOk (by kernel_rfl) (fc impl_Change_key.ok (fc impl_in.ok (fn_nil _)))
end impl_tableMayBe
namespace impl_longest
abbrev Arg:Type:=(List Row)×Int×Unit
abbrev Out:Type:=Int×Bool×Unit
abbrev ps:PQ:=[(.ro,(.slc tRow)),(.ro,i64)]
noncomputable def D:FD:={ fn:=f422,tl:=TL0,ps:=ps,rs:=[(i64,(roMd i64)),(.bool,(roMd .bool))],lv:=[(2,[1,8,9,10])],lx:=[(0,[])] }
noncomputable def sem (a:Arg):Option Out:=@lift Out fun k=>D.W k a
noncomputable def T0 (a1:Arg) (v402:Int):St:={ n:=26,sl:=[(1,.val i64 a1.2.1),(8,.val (.slc tRow) a1.1),(9,.val i64 (a1.1.length:Int)),(10,.val i64 v402)],vr:=[],lent:=[] }
noncomputable def b0 (self:Int->Option Out) (e0:(Unit)->Option Out) (a1:Arg) (v402:Int):Option Out:=bif decide (v402 < (a1.1.length:Int)) then (if 0<=v402 then ((a1.1[v402.toNat]?).bind fun x603=>bif decide (x603.1=(0:Int)) then (bif decide (x603.2.1=a1.2.1) then (some (x603.2.2.1,true,())) else self (w64 (v402+(1:Int)))) else self (w64 (v402+(1:Int)))) else none) else e0 ()
noncomputable abbrev B0 (_:Nat):=b0
noncomputable def q0 (a1:Arg) (z604:(Unit)):Option Out:=some ((0:Int),false,())
noncomputable abbrev Q0 (_:Nat):=q0
noncomputable def s0 (k:Nat) (a1:Arg):(Int)->Option Out:=fun v402=>D.L k [1,0,1,0,0] [1,8,9,10] [] (blockC 0 (seqC (D.N k [1,1]) D.K0)) (T0 a1 v402)
noncomputable def r0 (k:Nat) (a1:Arg):(Int)->Option Out:=rawIter (fun w v=>B0 k w (Q0 k a1) a1 v) k
theorem s0_eq (k:Nat) (a1:Arg):s0 k a1=r0 k a1:=
 funext fun v402=>iter_raw _ _ _ (T0 a1) _ (fun rec v=>by kernel_rfl) k v402
noncomputable def p (l0:(Int)->Option Out) (a1:Arg):Option Out:=l0 (0:Int)
theorem raw_eq (k:Nat) (a1:Arg):@Eq (Option Out) (D.W k a1) (p (r0 k a1) a1):=
 Eq.trans (b:=p (s0 k a1) a1) (by kernel_rfl) (by rw[s0_eq])
theorem ok:Ok prog 422 D.sig:=fd_ok func422 tlOk (by kernel_rfl) (fn_nil _)
end impl_longest
namespace impl_mayBe
abbrev Arg:Type:=(List Row)×Change×Unit
abbrev Out:Type:=Int×Unit
abbrev ps:PQ:=[(.ro,(.slc tRow)),(.ro,tChange)]
noncomputable def D:FD:={ fn:=f352,tl:=TL0,ps:=ps,rs:=[(i64,(roMd i64))],gl:=[(198,impl_Change_key.D.sig),(421,impl_tableMayBe.D.sig),(422,impl_longest.D.sig)] }
noncomputable def sem (a:Arg):Option Out:=@lift Out fun k=>D.W k a
noncomputable def p (a1:Arg):Option Out:=(impl_Change_key.sem (a1.2.1,())).bind fun r2=>bif decide (r2.1.1=(0:Int)) then ((impl_tableMayBe.sem (a1.1,a1.2.1,())).bind fun r3=>some (r3.1,())) else bif !a1.2.1.2.2.1 then (some ((0:Int),())) else (impl_longest.sem (a1.1,a1.2.1.2.2.2.1.1,())).bind fun r4=>bif !r4.2.1 then (some ((4:Int),())) else bif decide (r4.1 < (a1.2.1.2.2.2.1.2.2.2.1.length:Int)) then (some ((10:Int),())) else some ((0:Int),())
theorem raw_eq (k:Nat) (a1:Arg):@Eq (Option Out) (D.W k a1) (p a1):=by kernel_rfl
theorem ok:Ok prog 352 D.sig:=fd_ok func352 tlOk (by kernel_rfl) (fc impl_Change_key.ok (fc impl_tableMayBe.ok (fc impl_longest.ok (fn_nil _))))
end impl_mayBe
namespace impl_checkChange
abbrev Arg:Type:=(List Row)×(List Tx)×Op×Unit
abbrev Out:Type:=ChangeResult×Unit
abbrev ps:PQ:=[(.ro,(.slc tRow)),(.ro,(.slc tTx)),(.ro,tOp)]
noncomputable def D:FD:={ fn:=f242,tl:=TL0,ps:=ps,rs:=[(tChangeResult,(roMd tChangeResult))],gl:=[(224,impl_keysOf.D.sig),(249,impl_undone.D.sig),(314,slices_BinarySearchFunc_Row.D.sig),(352,impl_mayBe.D.sig)],lv:=[(3,[0,1,5,6,7,24,25,26]),(7,[0,1,5,6,7,24,25,26,36,37,38])],lx:=[(0,[0,1,5,6,7]),(1,[0,1,5,6,7,24,25,26]),(2,[0,1,5,6,7,24,25,26])],od:=[(20,[0,1,2,3,4,5,6,7]),(22,[0,1,2,3,4,5])],ar:=[(20,[3]),(22,[1])],bx:=[(22,[5])] }
noncomputable def sem (a:Arg):Option Out:=@lift Out fun k=>D.W k a
noncomputable def T0 (a1:Arg) (v402:(List Row)×(List Tx)×Op×ChangeResult×Key×(List Tx)×Int×Int):St:={ n:=145,sl:=[(0,.val (.slc tRow) v402.1),(1,.val (.slc tTx) v402.2.1),(5,.box tOp (roMd tOp) [] v402.2.2.1),(6,.box tChangeResult (roMd tChangeResult) [] v402.2.2.2.1),(7,.box tKey (roMd tKey) [] v402.2.2.2.2.1),(24,.val (.slc tTx) v402.2.2.2.2.2.1),(25,.val i64 v402.2.2.2.2.2.2.1),(26,.val i64 v402.2.2.2.2.2.2.2)],vr:=[],lent:=[] }
noncomputable def S0 (rec:RT Out) (a1:Arg):((List Row)×(List Tx)×Op×ChangeResult×Key×(List Tx)×Int×Int)->Option Out:=fun v402=>rec (T0 a1 v402)
noncomputable def X0_0 (K:KT Out) (a1:Arg):((List Row)×(List Tx)×Op×ChangeResult×Key)->Option Out:=fun z=>K (.exit 0) ({ n:=145,sl:=[(0,.val (.slc tRow) z.1),(1,.val (.slc tTx) z.2.1),(5,.box tOp (roMd tOp) [] z.2.2.1),(6,.box tChangeResult (roMd tChangeResult) [] z.2.2.2.1),(7,.box tKey (roMd tKey) [] z.2.2.2.2)],vr:=[],lent:=[] })
noncomputable def T1 (a1:Arg) (c1005:List Row) (c1006:List Tx) (c1007:Op) (c1008:ChangeResult) (c1009:Key) (c1010:List Tx) (c1011:Int) (c1012:Int) (c1013:List Key) (c1014:Int) (v1004:Int):St:={ n:=145,sl:=[(0,.val (.slc tRow) c1005),(1,.val (.slc tTx) c1006),(5,.box tOp (roMd tOp) [] c1007),(6,.box tChangeResult (roMd tChangeResult) [] c1008),(7,.box tKey (roMd tKey) [] c1009),(24,.val (.slc tTx) c1010),(25,.val i64 c1011),(26,.val i64 c1012),(36,.val (.slc tKey) c1013),(37,.val i64 c1014),(38,.val i64 v1004)],vr:=[],lent:=[] }
noncomputable def b1 (self:Int->Option Out) (e2:(Unit)->Option Out) (a1:Arg) (c1005:List Row) (c1006:List Tx) (c1007:Op) (c1008:ChangeResult) (c1009:Key) (c1010:List Tx) (c1011:Int) (c1012:Int) (c1013:List Key) (c1014:Int) (v1004:Int):Option Out:=bif decide (v1004 < c1014) then (if 0<=v1004 then ((c1013[v1004.toNat]?).bind fun x1215=>bif (Ty.eq tKey x1215 c1009) then (some (((7:Int),false,(false,((0:Int),(0:Int),(0:Int),([]:List UInt8),()),false,((0:Int),(0:Int),(0:Int),([]:List UInt8),()),()),()),())) else bif !decide (c1009.1=(0:Int)) then (bif (Ty.eq tKey x1215 ((0:Int),c1009.1,())) then (some (((7:Int),false,(false,((0:Int),(0:Int),(0:Int),([]:List UInt8),()),false,((0:Int),(0:Int),(0:Int),([]:List UInt8),()),()),()),())) else bif decide (c1009.1=(0:Int)) then (bif decide (x1215.1=c1009.2.1) then (some (((7:Int),false,(false,((0:Int),(0:Int),(0:Int),([]:List UInt8),()),false,((0:Int),(0:Int),(0:Int),([]:List UInt8),()),()),()),())) else self (w64 (v1004+(1:Int)))) else self (w64 (v1004+(1:Int)))) else bif decide (c1009.1=(0:Int)) then (bif decide (x1215.1=c1009.2.1) then (some (((7:Int),false,(false,((0:Int),(0:Int),(0:Int),([]:List UInt8),()),false,((0:Int),(0:Int),(0:Int),([]:List UInt8),()),()),()),())) else self (w64 (v1004+(1:Int)))) else self (w64 (v1004+(1:Int)))) else none) else e2 ()
noncomputable abbrev B1 (_:Nat):=b1
noncomputable def q0 (self:((List Row)×(List Tx)×Op×ChangeResult×Key×(List Tx)×Int×Int)->Option Out) (e0:((List Row)×(List Tx)×Op×ChangeResult×Key)->Option Out) (a1:Arg) (c1005:List Row) (c1006:List Tx) (c1007:Op) (c1008:ChangeResult) (c1009:Key) (c1010:List Tx) (c1011:Int) (c1012:Int) (c1013:List Key) (c1014:Int) (z1216:(Unit)):Option Out:=self (c1005,c1006,c1007,c1008,c1009,c1010,c1011,w64 (c1012+(1:Int)))
noncomputable abbrev Q0 (_:Nat):=q0
noncomputable def s1 (k:Nat) (rec:RT Out) (K:KT Out) (a1:Arg):(List Row)->(List Tx)->Op->ChangeResult->Key->(List Tx)->Int->Int->(List Key)->Int->(Int)->Option Out:=fun c1005 c1006 c1007 c1008 c1009 c1010 c1011 c1012 c1013 c1014=>fun v1004=>D.L k [1,1,0,1,0,0,1,1,0,0,1,1,1,0,0] [0,1,5,6,7,24,25,26,36,37,38] [] (blockC 2 (blockC 1 (seqC (D.N k [1,1,0,1,0,0,1,1,1]) (loopC rec (keepF [0,1,5,6,7,24,25,26] []) K)))) (T1 a1 c1005 c1006 c1007 c1008 c1009 c1010 c1011 c1012 c1013 c1014 v1004)
noncomputable def r1 (k:Nat) (self:((List Row)×(List Tx)×Op×ChangeResult×Key×(List Tx)×Int×Int)->Option Out) (e0:((List Row)×(List Tx)×Op×ChangeResult×Key)->Option Out) (a1:Arg):(List Row)->(List Tx)->Op->ChangeResult->Key->(List Tx)->Int->Int->(List Key)->Int->(Int)->Option Out:=fun c1005 c1006 c1007 c1008 c1009 c1010 c1011 c1012 c1013 c1014=>rawIter (fun w v=>B1 k w (Q0 k self e0 a1 c1005 c1006 c1007 c1008 c1009 c1010 c1011 c1012 c1013 c1014) a1 c1005 c1006 c1007 c1008 c1009 c1010 c1011 c1012 c1013 c1014 v) k
theorem s1_eq (k:Nat) (rec:RT Out) (K:KT Out) (a1:Arg):s1 k rec K a1=r1 k (S0 rec a1) (X0_0 K a1) a1:=
 funext fun c1005=>funext fun c1006=>funext fun c1007=>funext fun c1008=>funext fun c1009=>funext fun c1010=>funext fun c1011=>funext fun c1012=>funext fun c1013=>funext fun c1014=>funext fun v1004=>iter_raw _ _ _ (T1 a1 c1005 c1006 c1007 c1008 c1009 c1010 c1011 c1012 c1013 c1014) _ (fun rec v=>by kernel_rfl) k v1004
noncomputable def b0 (self:((List Row)×(List Tx)×Op×ChangeResult×Key×(List Tx)×Int×Int)->Option Out) (e0:((List Row)×(List Tx)×Op×ChangeResult×Key)->Option Out) (l1:(List Row)->(List Tx)->Op->ChangeResult->Key->(List Tx)->Int->Int->(List Key)->Int->(Int)->Option Out) (a1:Arg) (v402:(List Row)×(List Tx)×Op×ChangeResult×Key×(List Tx)×Int×Int):Option Out:=bif decide (v402.2.2.2.2.2.2.2 < v402.2.2.2.2.2.2.1) then (if 0<=v402.2.2.2.2.2.2.2 then ((v402.2.2.2.2.2.1[v402.2.2.2.2.2.2.2.toNat]?).bind fun x603=>bif decide (x603.1=v402.2.2.1.2.1) then (self (v402.1,v402.2.1,v402.2.2.1,v402.2.2.2.1,v402.2.2.2.2.1,v402.2.2.2.2.2.1,v402.2.2.2.2.2.2.1,w64 (v402.2.2.2.2.2.2.2+(1:Int)))) else l1 v402.1 v402.2.1 v402.2.2.1 v402.2.2.2.1 v402.2.2.2.2.1 v402.2.2.2.2.2.1 v402.2.2.2.2.2.2.1 v402.2.2.2.2.2.2.2 x603.2.2.2.1 (x603.2.2.2.1.length:Int) (0:Int)) else none) else e0 (v402.1,v402.2.1,v402.2.2.1,v402.2.2.2.1,v402.2.2.2.2.1)
noncomputable def B0 (k:Nat) (self:((List Row)×(List Tx)×Op×ChangeResult×Key×(List Tx)×Int×Int)->Option Out) (e0:((List Row)×(List Tx)×Op×ChangeResult×Key)->Option Out) (a1:Arg) (v402:(List Row)×(List Tx)×Op×ChangeResult×Key×(List Tx)×Int×Int):Option Out:=b0 self e0 (r1 k self e0 a1) a1 v402
theorem B0_eq (k:Nat) (rec:RT Out) (K:KT Out) (a1:Arg) (v402:(List Row)×(List Tx)×Op×ChangeResult×Key×(List Tx)×Int×Int):D.N k [1,1,0,1,0,0] (T0 a1 v402) (loopC rec (keepF [0,1,5,6,7,24,25,26] []) K)=B0 k (S0 rec a1) (X0_0 K a1) a1 v402:=
 Eq.trans (b:=b0 (S0 rec a1) (X0_0 K a1) (s1 k rec K a1) a1 v402) (by kernel_rfl) (by rw[s1_eq];rfl)
noncomputable def q1 (a1:Arg) (z1217:((List Row)×(List Tx)×Op×ChangeResult×Key)):Option Out:=(slices_BinarySearchFunc_Row.sem (z1217.1,z1217.2.2.1.2.2.1,((312,0):Nat×Int),())).bind fun r1218=>let j1245:Option Out:=let j1259:Option Out:=let j1268:=fun (p1267:Change)=>(let j1273:=fun (p1272:Change)=>((impl_mayBe.sem (z1217.1,p1272,())).bind fun r1274=>bif !decide (r1274.1=(0:Int)) then (some ((r1274.1,false,(false,((0:Int),(0:Int),(0:Int),([]:List UInt8),()),false,((0:Int),(0:Int),(0:Int),([]:List UInt8),()),()),()),())) else (impl_keysOf.sem (z1217.1,z1217.2.1,())).bind fun r1275=>bif decide ((12:Int) < ((mapPut tKey r1275.1 z1217.2.2.2.2 true).length:Int)) then (some (((9:Int),false,(false,((0:Int),(0:Int),(0:Int),([]:List UInt8),()),false,((0:Int),(0:Int),(0:Int),([]:List UInt8),()),()),()),())) else (impl_undone.sem (z1217.2.1,())).bind fun r1276=>bif decide ((12:Int)<=r1276.1) then (some (((9:Int),false,(false,((0:Int),(0:Int),(0:Int),([]:List UInt8),()),false,((0:Int),(0:Int),(0:Int),([]:List UInt8),()),()),()),())) else bif p1272.1 then (bif p1272.2.2.1 then (bif (Ty.eq tRow p1272.2.1 p1272.2.2.2.1) then (some (((0:Int),false,(false,((0:Int),(0:Int),(0:Int),([]:List UInt8),()),false,((0:Int),(0:Int),(0:Int),([]:List UInt8),()),()),()),())) else some (((0:Int),true,p1272,()),())) else some (((0:Int),true,p1272,()),())) else some (((0:Int),true,p1272,()),()):Option Out);bif !decide (z1217.2.2.1.1=(4:Int)) then (j1273 (p1267.1,p1267.2.1,true,z1217.2.2.1.2.2.1,p1267.2.2.2.2)) else j1273 p1267:Option Out);bif r1218.2.1 then (if 0<=r1218.1 then ((z1217.1[r1218.1.toNat]?).bind fun x1260=>j1268 (true,x1260,false,((0:Int),(0:Int),(0:Int),([]:List UInt8),()),())) else none) else j1268 (false,((0:Int),(0:Int),(0:Int),([]:List UInt8),()),false,((0:Int),(0:Int),(0:Int),([]:List UInt8),()),());bif !decide (z1217.2.2.1.1=(2:Int)) then (bif !r1218.2.1 then (some (((4:Int),false,(false,((0:Int),(0:Int),(0:Int),([]:List UInt8),()),false,((0:Int),(0:Int),(0:Int),([]:List UInt8),()),()),()),())) else j1259) else j1259;bif decide (z1217.2.2.1.1=(2:Int)) then (bif r1218.2.1 then (some (((6:Int),false,(false,((0:Int),(0:Int),(0:Int),([]:List UInt8),()),false,((0:Int),(0:Int),(0:Int),([]:List UInt8),()),()),()),())) else j1245) else j1245
noncomputable abbrev Q1 (_:Nat):=q1
theorem Q1_eq (k:Nat) (a1:Arg) (z1217:((List Row)×(List Tx)×Op×ChangeResult×Key)):X0_0 (blockC 0 (seqC (D.N k [1,1,1]) D.K0)) a1 z1217=q1 a1 z1217:=by kernel_rfl
noncomputable def s0 (k:Nat) (a1:Arg):((List Row)×(List Tx)×Op×ChangeResult×Key×(List Tx)×Int×Int)->Option Out:=fun v402=>D.L k [1,1,0,1,0,0] [0,1,5,6,7,24,25,26] [] (blockC 0 (seqC (D.N k [1,1,1]) D.K0)) (T0 a1 v402)
noncomputable def r0 (k:Nat) (a1:Arg):((List Row)×(List Tx)×Op×ChangeResult×Key×(List Tx)×Int×Int)->Option Out:=rawIter (fun w v=>B0 k w (Q1 k a1) a1 v) k
theorem s0_eq (k:Nat) (a1:Arg):s0 k a1=r0 k a1:=by
 funext v402;
 have h0:X0_0 (blockC 0 (seqC (D.N k [1,1,1]) D.K0)) a1=Q1 k a1:=funext fun z=>Q1_eq k a1 z
 refine (iter_raw _ _ _ (T0 a1) (fun self v=>B0 k self (X0_0 (blockC 0 (seqC (D.N k [1,1,1]) D.K0)) a1) a1 v) (fun rec v=>B0_eq k rec (blockC 0 (seqC (D.N k [1,1,1]) D.K0)) a1 v) k v402).trans ?_
 rw[h0]
 rfl
noncomputable def p (l0:((List Row)×(List Tx)×Op×ChangeResult×Key×(List Tx)×Int×Int)->Option Out) (a1:Arg):Option Out:=l0 (a1.1,a1.2.1,a1.2.2.1,((0:Int),false,(false,((0:Int),(0:Int),(0:Int),([]:List UInt8),()),false,((0:Int),(0:Int),(0:Int),([]:List UInt8),()),()),()),(a1.2.2.1.2.2.1.1,a1.2.2.1.2.2.1.2.1,()),a1.2.1,(a1.2.1.length:Int),(0:Int))
theorem raw_eq (k:Nat) (a1:Arg):@Eq (Option Out) (D.W k a1) (p (r0 k a1) a1):=
 Eq.trans (b:=p (s0 k a1) a1) (by kernel_rfl) (by rw[s0_eq])
theorem ok:Ok prog 242 D.sig:=fd_ok func242 tlOk (by kernel_rfl) (fc impl_keysOf.ok (fc impl_undone.ok (fc slices_BinarySearchFunc_Row.ok (fc impl_mayBe.ok (fn_nil _)))))
end impl_checkChange
namespace impl_CheckOp
abbrev Arg:Type:=(List Row)×(List Tx)×Op×Unit
abbrev Out:Type:=ChangeResult×Unit
abbrev ps:PQ:=[(.ro,(.slc tRow)),(.ro,(.slc tTx)),(.ro,tOp)]
noncomputable def D:FD:={ fn:=f111,tl:=TL0,ps:=ps,rs:=[(tChangeResult,(roMd tChangeResult))],gl:=[(207,impl_RowsFault.D.sig),(223,impl_TxsFault.D.sig),(240,impl_OpFault.D.sig),(241,impl_txAt.D.sig),(242,impl_checkChange.D.sig)],lv:=[(2,[0,1,5,6,16,17,18])],lx:=[(0,[0,1,5,6])],od:=[(1,[0,2,4,8,1,3,5,6,7]),(22,[0,1,2,3,4,5,6,7,8])] }
noncomputable def sem (a:Arg):Option Out:=@lift Out fun k=>D.W k a
noncomputable def T0 (a1:Arg) (c406:List Int) (c407:Int) (v405:Int):St:={ n:=79,sl:=[(0,.val (.slc tRow) a1.1),(1,.val (.slc tTx) a1.2.1),(5,.box tOp (roMd tOp) [] a1.2.2.1),(6,.box tChangeResult (roMd tChangeResult) [] ((0:Int),false,(false,((0:Int),(0:Int),(0:Int),([]:List UInt8),()),false,((0:Int),(0:Int),(0:Int),([]:List UInt8),()),()),())),(16,.own (.slc i64) (ownMd (.slc i64)) [] c406),(17,.val i64 c407),(18,.val i64 v405)],vr:=[],lent:=[] }
noncomputable def b0 (self:Int->Option Out) (e0:(Unit)->Option Out) (a1:Arg) (c406:List Int) (c407:Int) (v405:Int):Option Out:=bif decide (v405 < c407) then (if 0<=v405/\v405 < (c406.length:Int) then ((c406[v405.toNat]?).bind fun x608=>bif !decide (x608=(0:Int)) then (some ((x608,false,(false,((0:Int),(0:Int),(0:Int),([]:List UInt8),()),false,((0:Int),(0:Int),(0:Int),([]:List UInt8),()),()),()),())) else self (w64 (v405+(1:Int)))) else none) else e0 ()
noncomputable abbrev B0 (_:Nat):=b0
noncomputable def q0 (a1:Arg) (c406:List Int) (c407:Int) (z609:(Unit)):Option Out:=bif decide (a1.2.2.1.1=(1:Int)) then (bif decide ((4:Int)<=(a1.2.1.length:Int)) then (some (((2:Int),false,(false,((0:Int),(0:Int),(0:Int),([]:List UInt8),()),false,((0:Int),(0:Int),(0:Int),([]:List UInt8),()),()),()),())) else some (((0:Int),false,(false,((0:Int),(0:Int),(0:Int),([]:List UInt8),()),false,((0:Int),(0:Int),(0:Int),([]:List UInt8),()),()),()),())) else bif decide (a1.2.2.1.1=(9:Int)) then (some (((0:Int),false,(false,((0:Int),(0:Int),(0:Int),([]:List UInt8),()),false,((0:Int),(0:Int),(0:Int),([]:List UInt8),()),()),()),())) else (impl_txAt.sem (a1.2.1,a1.2.2.1.2.1,())).bind fun r610=>bif decide (r610.1 < (0:Int)) then (some (((4:Int),false,(false,((0:Int),(0:Int),(0:Int),([]:List UInt8),()),false,((0:Int),(0:Int),(0:Int),([]:List UInt8),()),()),()),())) else let j616:Option Out:=some (((0:Int),false,(false,((0:Int),(0:Int),(0:Int),([]:List UInt8),()),false,((0:Int),(0:Int),(0:Int),([]:List UInt8),()),()),()),());bif decide (a1.2.2.1.1=(5:Int)) then (if 0<=r610.1 then ((a1.2.1[r610.1.toNat]?).bind fun x611=>bif decide ((8:Int)<=(x611.2.2.1.length:Int)) then (some (((2:Int),false,(false,((0:Int),(0:Int),(0:Int),([]:List UInt8),()),false,((0:Int),(0:Int),(0:Int),([]:List UInt8),()),()),()),())) else j616) else none) else bif decide (a1.2.2.1.1=(6:Int)) then (if 0<=r610.1 then ((a1.2.1[r610.1.toNat]?).bind fun x612=>bif decide ((x612.2.2.1.length:Int)<=a1.2.2.1.2.2.2.1) then (some (((3:Int),false,(false,((0:Int),(0:Int),(0:Int),([]:List UInt8),()),false,((0:Int),(0:Int),(0:Int),([]:List UInt8),()),()),()),())) else j616) else none) else bif decide (a1.2.2.1.1=(2:Int)) then (bif decide (a1.2.2.1.1=(2:Int)) then ((impl_checkChange.sem (a1.1,a1.2.1,a1.2.2.1,())).bind fun r613=>some (r613.1,())) else j616) else bif decide (a1.2.2.1.1=(3:Int)) then (bif decide (a1.2.2.1.1=(3:Int)) then ((impl_checkChange.sem (a1.1,a1.2.1,a1.2.2.1,())).bind fun r614=>some (r614.1,())) else j616) else bif decide (a1.2.2.1.1=(4:Int)) then ((impl_checkChange.sem (a1.1,a1.2.1,a1.2.2.1,())).bind fun r615=>some (r615.1,())) else j616
noncomputable abbrev Q0 (_:Nat):=q0
noncomputable def s0 (k:Nat) (a1:Arg):(List Int)->Int->(Int)->Option Out:=fun c406 c407=>fun v405=>D.L k [1,0,1,0,0] [0,1,5,6,16,17,18] [] (blockC 0 (seqC (D.N k [1,1]) D.K0)) (T0 a1 c406 c407 v405)
noncomputable def r0 (k:Nat) (a1:Arg):(List Int)->Int->(Int)->Option Out:=fun c406 c407=>rawIter (fun w v=>B0 k w (Q0 k a1 c406 c407) a1 c406 c407 v) k
theorem s0_eq (k:Nat) (a1:Arg):s0 k a1=r0 k a1:=
 funext fun c406=>funext fun c407=>funext fun v405=>iter_raw _ _ _ (T0 a1 c406 c407) _ (fun rec v=>by kernel_rfl) k v405
noncomputable def p (l0:(List Int)->Int->(Int)->Option Out) (a1:Arg):Option Out:=(impl_RowsFault.sem (a1.1,())).bind fun r2=>(impl_TxsFault.sem (a1.2.1,())).bind fun r3=>(impl_OpFault.sem (a1.2.2.1,())).bind fun r4=>l0 [r2.1,r3.1,r4.1] ([r2.1,r3.1,r4.1].length:Int) (0:Int)
theorem raw_eq (k:Nat) (a1:Arg):@Eq (Option Out) (D.W k a1) (p (r0 k a1) a1):=
 Eq.trans (b:=p (s0 k a1) a1) (by kernel_rfl) (by rw[s0_eq])
theorem ok:Ok prog 111 D.sig:=fd_ok func111 tlOk (by kernel_rfl) (fc impl_RowsFault.ok (fc impl_TxsFault.ok (fc impl_OpFault.ok (fc impl_txAt.ok (fc impl_checkChange.ok (fn_nil _))))))
end impl_CheckOp
namespace slices_Clone_Change
abbrev Arg:Type:=(List Change)×Unit
abbrev Out:Type:=(List Change)×Unit
abbrev ps:PQ:=[(.ro,(.slc tChange))]
noncomputable def D:FD:={ fn:=f353,tl:=TL0,ps:=ps,rs:=[((.slc tChange),(ownMd (.slc tChange)))] }
noncomputable def sem (a:Arg):Option Out:=@lift Out fun k=>D.W k a
noncomputable def p (a1:Arg):Option Out:=nilB a1.1 (some (([]:List Change),())) (if ([]:List Change).length+a1.1.length<=CAP then (some (([]:List Change)++a1.1,())) else none)
theorem raw_eq (k:Nat) (a1:Arg):@Eq (Option Out) (D.W k a1) (p a1):=by kernel_rfl
theorem ok:Ok prog 353 D.sig:=fd_ok func353 tlOk (by kernel_rfl) (fn_nil _)
end slices_Clone_Change
namespace slices_Clone_int64
abbrev Arg:Type:=(List Int)×Unit
abbrev Out:Type:=(List Int)×Unit
abbrev ps:PQ:=[(.ro,(.slc i64))]
noncomputable def D:FD:={ fn:=f354,tl:=TL0,ps:=ps,rs:=[((.slc i64),(ownMd (.slc i64)))] }
noncomputable def sem (a:Arg):Option Out:=@lift Out fun k=>D.W k a
noncomputable def p (a1:Arg):Option Out:=nilB a1.1 (some (([]:List Int),())) (if ([]:List Int).length+a1.1.length<=CAP then (some (([]:List Int)++a1.1,())) else none)
theorem raw_eq (k:Nat) (a1:Arg):@Eq (Option Out) (D.W k a1) (p a1):=by kernel_rfl
theorem ok:Ok prog 354 D.sig:=fd_ok func354 tlOk (by kernel_rfl) (fn_nil _)
end slices_Clone_int64
namespace slices_Clone_Key
abbrev Arg:Type:=(List Key)×Unit
abbrev Out:Type:=(List Key)×Unit
abbrev ps:PQ:=[(.ro,(.slc tKey))]
noncomputable def D:FD:={ fn:=f355,tl:=TL0,ps:=ps,rs:=[((.slc tKey),(ownMd (.slc tKey)))] }
noncomputable def sem (a:Arg):Option Out:=@lift Out fun k=>D.W k a
noncomputable def p (a1:Arg):Option Out:=nilB a1.1 (some (([]:List Key),())) (if ([]:List Key).length+a1.1.length<=CAP then (some (([]:List Key)++a1.1,())) else none)
theorem raw_eq (k:Nat) (a1:Arg):@Eq (Option Out) (D.W k a1) (p a1):=by kernel_rfl
theorem ok:Ok prog 355 D.sig:=fd_ok func355 tlOk (by kernel_rfl) (fn_nil _)
end slices_Clone_Key
namespace impl_ownTxs
abbrev Arg:Type:=(List Tx)×Unit
abbrev Out:Type:=(List Tx)×Unit
abbrev ps:PQ:=[(.ro,(.slc tTx))]
noncomputable def D:FD:={ fn:=f244,tl:=TL0,ps:=ps,rs:=[((.slc tTx),(ownMd (.slc tTx)))],gl:=[(353,slices_Clone_Change.D.sig),(354,slices_Clone_int64.D.sig),(355,slices_Clone_Key.D.sig)],lv:=[(3,[3,6,7,8])],lx:=[(0,[3])],od:=[(5,[0,1,2,3,4,6,7,9,10,5,8,11,12,13,14,15])] }
noncomputable def sem (a:Arg):Option Out:=@lift Out fun k=>D.W k a
noncomputable def T0 (a1:Arg) (v402:(List Tx)×Int):St:={ n:=29,sl:=[(3,.own (.slc tTx) (ownMd (.slc tTx)) [] v402.1),(6,.val (.slc tTx) a1.1),(7,.val i64 (a1.1.length:Int)),(8,.val i64 v402.2)],vr:=[],lent:=[] }
noncomputable def b0 (self:((List Tx)×Int)->Option Out) (e0:(List Tx)->Option Out) (a1:Arg) (v402:(List Tx)×Int):Option Out:=bif decide (v402.2 < (a1.1.length:Int)) then (if 0<=v402.2 then ((a1.1[v402.2.toNat]?).bind fun x603=>(slices_Clone_Change.sem (x603.2.1,())).bind fun r604=>(slices_Clone_int64.sem (x603.2.2.1,())).bind fun r605=>(slices_Clone_Key.sem (x603.2.2.2.1,())).bind fun r606=>if v402.1.length+[(x603.1,r604.1,r605.1,r606.1,())].length<=CAP then (let y607:=v402.1++[(x603.1,r604.1,r605.1,r606.1,())];self (y607,w64 (v402.2+(1:Int)))) else none) else none) else e0 v402.1
noncomputable abbrev B0 (_:Nat):=b0
noncomputable def q0 (a1:Arg) (z608:(List Tx)):Option Out:=some (z608,())
noncomputable abbrev Q0 (_:Nat):=q0
noncomputable def s0 (k:Nat) (a1:Arg):((List Tx)×Int)->Option Out:=fun v402=>D.L k [1,1,0,1,0,0] [3,6,7,8] [] (blockC 0 (seqC (D.N k [1,1,1]) D.K0)) (T0 a1 v402)
noncomputable def r0 (k:Nat) (a1:Arg):((List Tx)×Int)->Option Out:=rawIter (fun w v=>B0 k w (Q0 k a1) a1 v) k
theorem s0_eq (k:Nat) (a1:Arg):s0 k a1=r0 k a1:=
 funext fun v402=>iter_raw _ _ _ (T0 a1) _ (fun rec v=>by kernel_rfl) k v402
noncomputable def p (l0:((List Tx)×Int)->Option Out) (a1:Arg):Option Out:=l0 (([]:List Tx),(0:Int))
theorem raw_eq (k:Nat) (a1:Arg):@Eq (Option Out) (D.W k a1) (p (r0 k a1) a1):=
 Eq.trans (b:=p (s0 k a1) a1) (by kernel_rfl) (by rw[s0_eq])
theorem ok:Ok prog 244 D.sig:=fd_ok func244 tlOk (by kernel_rfl) (fc slices_Clone_Change.ok (fc slices_Clone_int64.ok (fc slices_Clone_Key.ok (fn_nil _))))
end impl_ownTxs
namespace impl_Plain_own
abbrev Arg:Type:=Plain×Unit
abbrev Out:Type:=Plain×Unit
abbrev ps:PQ:=[(.ro,tPlain)]
noncomputable def D:FD:={ fn:=f112,tl:=TL0,ps:=ps,rs:=[(tPlain,(ownMd tPlain))],gl:=[(243,slices_Clone_Row.D.sig),(244,impl_ownTxs.D.sig)],od:=[(1,[0,1,3,4,6,7,2,5,8,9])] }
noncomputable def sem (a:Arg):Option Out:=@lift Out fun k=>D.W k a
noncomputable def p (a1:Arg):Option Out:=(slices_Clone_Row.sem (a1.1.1,())).bind fun r2=>(impl_ownTxs.sem (a1.1.2.1,())).bind fun r3=>some ((r2.1,r3.1,a1.1.2.2.1,()),())
theorem raw_eq (k:Nat) (a1:Arg):@Eq (Option Out) (D.W k a1) (p a1):=by kernel_rfl
theorem ok:Ok prog 112 D.sig:=fd_ok func112 tlOk (by kernel_rfl) (fc slices_Clone_Row.ok (fc impl_ownTxs.ok (fn_nil _)))
end impl_Plain_own
namespace impl_Plain_turn_v
abbrev Arg:Type:=Plain×(List Change)×Unit
abbrev Out:Type:=Int×Plain×Unit
abbrev ps:PQ:=[(.mutp (ownMd tPlain),tPlain),(.ro,(.slc tChange))]
noncomputable def D:FD:={ fn:=f113,tl:=TL0,ps:=ps,rs:=[(i64,(roMd i64))],gl:=[(245,impl_ApplyChanges.D.sig)],es:=[0] }
noncomputable def sem (a:Arg):Option Out:=@lift Out fun k=>D.W k a
noncomputable def p (a1:Arg):Option Out:=(impl_ApplyChanges.sem (a1.1.1,a1.2.1,())).bind fun r2=>bif decide (r2.1.1=(0:Int)) then (some (r2.1.1,(r2.1.2.1,a1.1.2),())) else some (r2.1.1,a1.1,())
theorem raw_eq (k:Nat) (a1:Arg):@Eq (Option Out) (D.W k a1) (p a1):=by kernel_rfl
theorem ok:Ok prog 113 D.sig:=fd_ok func113 tlOk (by kernel_rfl) (fc impl_ApplyChanges.ok (fn_nil _))
end impl_Plain_turn_v
namespace impl_lockOf
abbrev Arg:Type:=(List Tx)×Key×Unit
abbrev Out:Type:=Int×Unit
abbrev ps:PQ:=[(.ro,(.slc tTx)),(.ro,tKey)]
noncomputable def D:FD:={ fn:=f247,tl:=TL0,ps:=ps,rs:=[(i64,(roMd i64))],gl:=[(357,slices_Contains_Key.D.sig)],lv:=[(2,[3,7,8,9])],lx:=[(0,[])] }
noncomputable def sem (a:Arg):Option Out:=@lift Out fun k=>D.W k a
noncomputable def T0 (a1:Arg) (v402:Int):St:={ n:=20,sl:=[(3,.box tKey (roMd tKey) [] a1.2.1),(7,.val (.slc tTx) a1.1),(8,.val i64 (a1.1.length:Int)),(9,.val i64 v402)],vr:=[],lent:=[] }
noncomputable def b0 (self:Int->Option Out) (e0:(Unit)->Option Out) (a1:Arg) (v402:Int):Option Out:=bif decide (v402 < (a1.1.length:Int)) then (if 0<=v402 then ((a1.1[v402.toNat]?).bind fun x603=>(slices_Contains_Key.sem (x603.2.2.2.1,a1.2.1,())).bind fun r604=>bif r604.1 then (some (x603.1,())) else self (w64 (v402+(1:Int)))) else none) else e0 ()
noncomputable abbrev B0 (_:Nat):=b0
noncomputable def q0 (a1:Arg) (z605:(Unit)):Option Out:=some ((0:Int),())
noncomputable abbrev Q0 (_:Nat):=q0
noncomputable def s0 (k:Nat) (a1:Arg):(Int)->Option Out:=fun v402=>D.L k [1,0,1,0,0] [3,7,8,9] [] (blockC 0 (seqC (D.N k [1,1]) D.K0)) (T0 a1 v402)
noncomputable def r0 (k:Nat) (a1:Arg):(Int)->Option Out:=rawIter (fun w v=>B0 k w (Q0 k a1) a1 v) k
theorem s0_eq (k:Nat) (a1:Arg):s0 k a1=r0 k a1:=
 funext fun v402=>iter_raw _ _ _ (T0 a1) _ (fun rec v=>by kernel_rfl) k v402
noncomputable def p (l0:(Int)->Option Out) (a1:Arg):Option Out:=l0 (0:Int)
theorem raw_eq (k:Nat) (a1:Arg):@Eq (Option Out) (D.W k a1) (p (r0 k a1) a1):=
 Eq.trans (b:=p (s0 k a1) a1) (by kernel_rfl) (by rw[s0_eq])
theorem ok:Ok prog 247 D.sig:=fd_ok func247 tlOk (by kernel_rfl) (fc slices_Contains_Key.ok (fn_nil _))
end impl_lockOf
namespace impl_noted
abbrev Arg:Type:=(List Tx)×Int×Change×Unit
abbrev Out:Type:=(List Tx)×Unit
abbrev ps:PQ:=[(.ro,(.slc tTx)),(.ro,i64),(.ro,tChange)]
noncomputable def D:FD:={ fn:=f250,tl:=TL0,ps:=ps,rs:=[((.slc tTx),(ownMd (.slc tTx)))],gl:=[(244,impl_ownTxs.D.sig),(248,impl_Change_lock.D.sig),(357,slices_Contains_Key.D.sig)],od:=[(3,[0,1,2,3,4,5,6,7,8,9,10]),(4,[0,1,2,3,4,5,6,7]),(5,[0,1,2,3,4,5,6,7,8,9,10,11])] }
noncomputable def sem (a:Arg):Option Out:=@lift Out fun k=>D.W k a
noncomputable def p (a1:Arg):Option Out:=(impl_ownTxs.sem (a1.1,())).bind fun r2=>if 0<=a1.2.1/\a1.2.1 < (r2.1.length:Int) then ((r2.1[a1.2.1.toNat]?).bind fun x3=>(r2.1[a1.2.1.toNat]?).bind fun x4=>(r2.1[a1.2.1.toNat]?).bind fun x5=>if x4.2.1.length+[a1.2.2.1].length<=CAP then (if a1.2.1.toNat=a1.2.1.toNat then ((r2.1.set a1.2.1.toNat x5)[a1.2.1.toNat]?).bind fun x6=>let y7:=(r2.1.set a1.2.1.toNat x5).set a1.2.1.toNat (x6.1,x4.2.1++[a1.2.2.1],x6.2.2);(y7[a1.2.1.toNat]?).bind fun x8=>(impl_Change_lock.sem (a1.2.2.1,())).bind fun r9=>(y7[a1.2.1.toNat]?).bind fun x10=>(slices_Contains_Key.sem (x10.2.2.2.1,r9.1,())).bind fun r11=>bif !r11.1 then ((y7[a1.2.1.toNat]?).bind fun x12=>(impl_Change_lock.sem (a1.2.2.1,())).bind fun r13=>(y7[a1.2.1.toNat]?).bind fun x14=>(y7[a1.2.1.toNat]?).bind fun x15=>if x14.2.2.2.1.length+[r13.1].length<=CAP then (if a1.2.1.toNat=a1.2.1.toNat then ((y7.set a1.2.1.toNat x15)[a1.2.1.toNat]?).bind fun x16=>let y17:=(y7.set a1.2.1.toNat x15).set a1.2.1.toNat (x16.1,x16.2.1,x16.2.2.1,x14.2.2.2.1++[r13.1],x16.2.2.2.2);some (y17,()) else none) else none) else some (y7,()) else none) else none) else none
theorem raw_eq (k:Nat) (a1:Arg):@Eq (Option Out) (D.W k a1) (p a1):=by kernel_rfl
theorem ok:Ok prog 250 D.sig:=fd_ok func250 tlOk (by kernel_rfl) (fc impl_ownTxs.ok (fc impl_Change_lock.ok (fc slices_Contains_Key.ok (fn_nil _))))
end impl_noted
namespace impl_NoteChange
abbrev Arg:Type:=(List Tx)×Int×Change×Unit
abbrev Out:Type:=TxsResult×Unit
abbrev ps:PQ:=[(.ro,(.slc tTx)),(.ro,i64),(.ro,tChange)]
noncomputable def D:FD:={ fn:=f114,tl:=TL0,ps:=ps,rs:=[(tTxsResult,(ownMd tTxsResult))],gl:=[(223,impl_TxsFault.D.sig),(241,impl_txAt.D.sig),(246,impl_singleFault.D.sig),(247,impl_lockOf.D.sig),(248,impl_Change_lock.D.sig),(249,impl_undone.D.sig),(250,impl_noted.D.sig)] }
noncomputable def sem (a:Arg):Option Out:=@lift Out fun k=>D.W k a
noncomputable def p (a1:Arg):Option Out:=(impl_TxsFault.sem (a1.1,())).bind fun r2=>bif !decide (r2.1=(0:Int)) then (some ((r2.1,([]:List Tx),()),())) else (impl_txAt.sem (a1.1,a1.2.1,())).bind fun r3=>bif decide (r3.1 < (0:Int)) then (some (((4:Int),([]:List Tx),()),())) else (impl_singleFault.sem (a1.2.2.1,())).bind fun r4=>bif !decide (r4.1=(0:Int)) then (some ((r4.1,([]:List Tx),()),())) else (impl_Change_lock.sem (a1.2.2.1,())).bind fun r5=>(impl_lockOf.sem (a1.1,r5.1,())).bind fun r6=>let j11:Option Out:=(impl_undone.sem (a1.1,())).bind fun r12=>bif decide ((12:Int)<=r12.1) then (some (((2:Int),([]:List Tx),()),())) else bif decide (r6.1=(0:Int)) then (if 0<=r3.1 then ((a1.1[r3.1.toNat]?).bind fun x13=>bif decide ((12:Int)<=(x13.2.2.2.1.length:Int)) then (some (((2:Int),([]:List Tx),()),())) else (impl_noted.sem (a1.1,r3.1,a1.2.2.1,())).bind fun r15=>some (((0:Int),r15.1,()),())) else none) else (impl_noted.sem (a1.1,r3.1,a1.2.2.1,())).bind fun r16=>some (((0:Int),r16.1,()),());bif !decide (r6.1=(0:Int)) then (bif !decide (r6.1=a1.2.1) then (some (((7:Int),([]:List Tx),()),())) else j11) else j11
theorem raw_eq (k:Nat) (a1:Arg):@Eq (Option Out) (D.W k a1) (p a1):=by kernel_rfl
theorem ok:Ok prog 114 D.sig:=fd_ok func114 tlOk (by kernel_rfl) (fc impl_TxsFault.ok (fc impl_txAt.ok (fc impl_singleFault.ok (fc impl_lockOf.ok (fc impl_Change_lock.ok (fc impl_undone.ok (fc impl_noted.ok (fn_nil _))))))))
end impl_NoteChange
namespace impl_marked
abbrev Arg:Type:=(List Tx)×Int×Unit
abbrev Out:Type:=(List Tx)×Int×Unit
abbrev ps:PQ:=[(.ro,(.slc tTx)),(.ro,i64)]
noncomputable def D:FD:={ fn:=f115,tl:=TL0,ps:=ps,rs:=[((.slc tTx),(ownMd (.slc tTx))),(i64,(roMd i64))],gl:=[(241,impl_txAt.D.sig),(244,impl_ownTxs.D.sig)],od:=[(3,[0,1,2,3,4,5,6,7,8,9,10,11,12,13,14]),(4,[0,1,2,3,4,5,6,7,8])] }
noncomputable def sem (a:Arg):Option Out:=@lift Out fun k=>D.W k a
noncomputable def p (a1:Arg):Option Out:=(impl_ownTxs.sem (a1.1,())).bind fun r2=>(impl_txAt.sem (r2.1,a1.2.1,())).bind fun r3=>if 0<=r3.1/\r3.1 < (r2.1.length:Int) then ((r2.1[r3.1.toNat]?).bind fun x4=>(r2.1[r3.1.toNat]?).bind fun x5=>(r2.1[r3.1.toNat]?).bind fun x6=>(r2.1[r3.1.toNat]?).bind fun x7=>(r2.1[r3.1.toNat]?).bind fun x8=>if x7.2.2.1.length+[(x6.2.1.length:Int)].length<=CAP then (if r3.1.toNat=r3.1.toNat then ((r2.1.set r3.1.toNat x8)[r3.1.toNat]?).bind fun x9=>let y10:=(r2.1.set r3.1.toNat x8).set r3.1.toNat (x9.1,x9.2.1,x7.2.2.1++[(x6.2.1.length:Int)],x9.2.2.2);(y10[r3.1.toNat]?).bind fun x11=>(y10[r3.1.toNat]?).bind fun x12=>some (y10,w64 ((x12.2.2.1.length:Int) - (1:Int)),()) else none) else none) else none
theorem raw_eq (k:Nat) (a1:Arg):@Eq (Option Out) (D.W k a1) (p a1):=by kernel_rfl
theorem ok:Ok prog 115 D.sig:=fd_ok func115 tlOk (by kernel_rfl) (fc impl_txAt.ok (fc impl_ownTxs.ok (fn_nil _)))
end impl_marked
namespace slices_Delete_Tx
open Go.Proofs
abbrev Arg:Type:=(List Tx)×Int×(Int)×Unit
abbrev Out:Type:=(List Tx)×Unit
noncomputable def sem (a:Arg):Option Out:=delF tTx a
noncomputable def sig:Sig:={ ps:=[(.eatv (ownMd (.slc tTx)),(.slc tTx)),(.ro,i64),(.ro,i64)],rs:=[((.slc tTx),ownMd (.slc tTx))],F:=sem,hol:=fun v H=>delH v.2.1 v.2.2.1 H }
def ren:Go.Shelf.Ren:=⟨fun | 45=>252 | n=>n,fun | 22=>33 | 23=>188 | 3=>3 | 4=>4 | 0=>0 | n=>n,fun n=>n⟩
theorem lay:SlLaysE0.n45 prog ren:=⟨by kernel_rfl,⟨f252.name,by decide,func252.trans (congrArg some (by kernel_rfl))⟩,underlying0,isAgg0,sizeOf0,zeroValue0,underlying3,isAgg3,sizeOf3,zeroValue3,underlying4,isAgg4,sizeOf4,zeroValue4,underlying33,isAgg33,sizeOf33,zeroValue33⟩
theorem ok:Ok prog 252 sig:=delete_ok (e:=tTx) lay (by kernel_rfl) (by decide) (by decide) ⟨f252,func252,by kernel_rfl,by kernel_rfl,by kernel_rfl⟩
end slices_Delete_Tx
namespace impl_cut
abbrev Arg:Type:=(List Tx)×Op×Unit
abbrev Out:Type:=(List Tx)×(List Change)×Unit
abbrev ps:PQ:=[(.ro,(.slc tTx)),(.ro,tOp)]
noncomputable def D:FD:={ fn:=f116,tl:=TL0,ps:=ps,rs:=[((.slc tTx),(ownMd (.slc tTx))),((.slc tChange),(ownMd (.slc tChange)))],gl:=[(241,impl_txAt.D.sig),(244,impl_ownTxs.D.sig),(251,impl_inverse.D.sig),(252,slices_Delete_Tx.sig)],od:=[(5,[0,1,2,3,4,5,6,7,8]),(8,[0,1,2,3,4,5,6,7,8,9,10,11])] }
noncomputable def sem (a:Arg):Option Out:=@lift Out fun k=>D.W k a
noncomputable def p (a1:Arg):Option Out:=(impl_ownTxs.sem (a1.1,())).bind fun r2=>(impl_txAt.sem (r2.1,a1.2.1.2.1,())).bind fun r3=>if 0<=r3.1/\r3.1 < (r2.1.length:Int) then (bif decide (a1.2.1.1=(6:Int)) then ((r2.1[r3.1.toNat]?).bind fun x4=>(r2.1[r3.1.toNat]?).bind fun x5=>if 0<=a1.2.1.2.2.2.1/\a1.2.1.2.2.2.1 < (x5.2.2.1.length:Int) then ((r2.1[r3.1.toNat]?).bind fun x6=>(x6.2.2.1[a1.2.1.2.2.2.1.toNat]?).bind fun x7=>(r2.1[r3.1.toNat]?).bind fun x8=>(r2.1[r3.1.toNat]?).bind fun x9=>if 0<=x7/\x7<=(x9.2.1.length:Int) then ((r2.1[r3.1.toNat]?).bind fun x10=>(impl_inverse.sem ((x10.2.1.take x9.2.1.length).drop x7.toNat,())).bind fun r11=>(r2.1[r3.1.toNat]?).bind fun x12=>(r2.1[r3.1.toNat]?).bind fun x13=>if 0<=x7/\x7<=(x13.2.1.length:Int) then ((r2.1[r3.1.toNat]?).bind fun x14=>(r2.1[r3.1.toNat]?).bind fun x15=>if r3.1.toNat=r3.1.toNat then ((r2.1.set r3.1.toNat x15)[r3.1.toNat]?).bind fun x16=>let y17:=(r2.1.set r3.1.toNat x15).set r3.1.toNat (x16.1,(x14.2.1.take x7.toNat).drop 0,x16.2.2);(y17[r3.1.toNat]?).bind fun x18=>(y17[r3.1.toNat]?).bind fun x19=>if 0<=w64 (a1.2.1.2.2.2.1+(1:Int))/\w64 (a1.2.1.2.2.2.1+(1:Int))<=(x19.2.2.1.length:Int) then ((y17[r3.1.toNat]?).bind fun x20=>(y17[r3.1.toNat]?).bind fun x21=>if r3.1.toNat=r3.1.toNat then ((y17.set r3.1.toNat x21)[r3.1.toNat]?).bind fun x22=>let y23:=(y17.set r3.1.toNat x21).set r3.1.toNat (x22.1,x22.2.1,(x20.2.2.1.take (w64 (a1.2.1.2.2.2.1+(1:Int))).toNat).drop 0,x22.2.2.2);some (y23,r11.1,()) else none) else none else none) else none) else none) else none) else (r2.1[r3.1.toNat]?).bind fun x24=>(r2.1[r3.1.toNat]?).bind fun x25=>(impl_inverse.sem (x25.2.1,())).bind fun r26=>(slices_Delete_Tx.sem (r2.1,r3.1,w64 (r3.1+(1:Int)),())).bind fun r27=>some (r27.1,r26.1,())) else none
theorem raw_eq (k:Nat) (a1:Arg):@Eq (Option Out) (D.W k a1) (p a1):=by kernel_rfl
theorem ok:Ok prog 116 D.sig:=fd_ok func116 tlOk (by kernel_rfl) (fc impl_txAt.ok (fc impl_ownTxs.ok (fc impl_inverse.ok (fc slices_Delete_Tx.ok (fn_nil _)))))
end impl_cut
namespace impl_DoPlain
abbrev Arg:Type:=Plain×Op×Unit
abbrev Out:Type:=PlainResult×Unit
abbrev ps:PQ:=[(.ro,tPlain),(.ro,tOp)]
noncomputable def D:FD:={ fn:=f20,tl:=TL0,ps:=ps,rs:=[(tPlainResult,(ownMd tPlainResult))],gl:=[(98,impl_PlainFault.D.sig),(111,impl_CheckOp.D.sig),(112,impl_Plain_own.D.sig),(113,impl_Plain_turn_v.D.sig),(114,impl_NoteChange.D.sig),(115,impl_marked.D.sig),(116,impl_cut.D.sig)] }
noncomputable def sem (a:Arg):Option Out:=@lift Out fun k=>D.W k a
noncomputable def p (a1:Arg):Option Out:=(impl_PlainFault.sem (a1.1,())).bind fun r2=>bif !decide (r2.1=(0:Int)) then (some ((r2.1,(0:Int),(([]:List Row),([]:List Tx),(0:Int),()),()),())) else (impl_CheckOp.sem (a1.1.1,a1.1.2.1,a1.2.1,())).bind fun r3=>bif !decide (r3.1.1=(0:Int)) then (some ((r3.1.1,(0:Int),(([]:List Row),([]:List Tx),(0:Int),()),()),())) else (impl_Plain_own.sem (a1.1,())).bind fun r4=>bif decide (a1.2.1.1=(1:Int)) then (bif decide (a1.1.2.2.1=(100:Int)) then (some (((9:Int),(0:Int),(([]:List Row),([]:List Tx),(0:Int),()),()),())) else if r4.1.2.1.length+[(a1.1.2.2.1,([]:List Change),([]:List Int),([]:List Key),())].length<=CAP then (let y5:=r4.1.2.1++[(a1.1.2.2.1,([]:List Change),([]:List Int),([]:List Key),())];some (((0:Int),a1.1.2.2.1,(r4.1.1,y5,w64 (r4.1.2.2.1+(1:Int)),r4.1.2.2.2),()),())) else none) else bif r3.1.2.1 then ((impl_Plain_turn_v.sem (r4.1,[r3.1.2.2.1],())).bind fun r6=>bif !decide (r6.1=(0:Int)) then (some ((r6.1,(0:Int),(([]:List Row),([]:List Tx),(0:Int),()),()),())) else (impl_NoteChange.sem (a1.1.2.1,a1.2.1.2.1,r3.1.2.2.1,())).bind fun r7=>bif !decide (r7.1.1=(0:Int)) then (some ((r7.1.1,(0:Int),(([]:List Row),([]:List Tx),(0:Int),()),()),())) else some (((0:Int),(0:Int),(r6.2.1.1,r7.1.2.1,r6.2.1.2.2),()),())) else bif decide (a1.2.1.1=(5:Int)) then ((impl_marked.sem (a1.1.2.1,a1.2.1.2.1,())).bind fun r8=>some (((0:Int),r8.2.1,(r4.1.1,r8.1,r4.1.2.2),()),())) else bif decide (a1.2.1.1=(6:Int)) then ((impl_cut.sem (a1.1.2.1,a1.2.1,())).bind fun r9=>(impl_Plain_turn_v.sem (r4.1,r9.2.1,())).bind fun r10=>bif !decide (r10.1=(0:Int)) then (some ((r10.1,(0:Int),(([]:List Row),([]:List Tx),(0:Int),()),()),())) else some (((0:Int),(0:Int),(r10.2.1.1,r9.1,r10.2.1.2.2),()),())) else bif decide (a1.2.1.1=(8:Int)) then ((impl_cut.sem (a1.1.2.1,a1.2.1,())).bind fun r11=>(impl_Plain_turn_v.sem (r4.1,r11.2.1,())).bind fun r12=>bif !decide (r12.1=(0:Int)) then (some ((r12.1,(0:Int),(([]:List Row),([]:List Tx),(0:Int),()),()),())) else some (((0:Int),(0:Int),(r12.2.1.1,r11.1,r12.2.1.2.2),()),())) else bif decide (a1.2.1.1=(7:Int)) then ((impl_cut.sem (a1.1.2.1,a1.2.1,())).bind fun r13=>some (((0:Int),(0:Int),(r4.1.1,r13.1,r4.1.2.2),()),())) else some (((0:Int),(0:Int),r4.1,()),())
theorem raw_eq (k:Nat) (a1:Arg):@Eq (Option Out) (D.W k a1) (p a1):=by kernel_rfl
theorem ok:Ok prog 20 D.sig:=fd_ok func20 tlOk (by kernel_rfl) (fc impl_PlainFault.ok (fc impl_CheckOp.ok (fc impl_Plain_own.ok (fc impl_Plain_turn_v.ok (fc impl_NoteChange.ok (fc impl_marked.ok (fc impl_cut.ok (fn_nil _))))))))
end impl_DoPlain
namespace laws_eqRow
abbrev Arg:Type:=Row×Row×Unit
abbrev Out:Type:=Bool×Unit
abbrev ps:PQ:=[(.ro,tRow),(.ro,tRow)]
noncomputable def D:FD:={ fn:=f253,tl:=TL0,ps:=ps,rs:=[(.bool,(roMd .bool))] }
noncomputable def sem (a:Arg):Option Out:=@lift Out fun k=>D.W k a
noncomputable def p (a1:Arg):Option Out:=bif !decide (a1.1.1=a1.2.1.1) then (some (false,())) else bif !decide (a1.1.2.1=a1.2.1.2.1) then (some (false,())) else bif !decide (a1.1.2.2.1=a1.2.1.2.2.1) then (some (false,())) else bif !decide (a1.1.2.2.2.1=a1.2.1.2.2.2.1) then (some (false,())) else some (true,())
theorem raw_eq (k:Nat) (a1:Arg):@Eq (Option Out) (D.W k a1) (p a1):=by kernel_rfl
theorem ok:Ok prog 253 D.sig:=fd_ok func253 tlOk (by kernel_rfl) (fn_nil _)
end laws_eqRow
namespace laws_eqRowS
abbrev Arg:Type:=(List Row)×(List Row)×Unit
abbrev Out:Type:=Bool×Unit
abbrev ps:PQ:=[(.ro,(.slc tRow)),(.ro,(.slc tRow))]
noncomputable def D:FD:={ fn:=f117,tl:=TL0,ps:=ps,rs:=[(.bool,(roMd .bool))],gl:=[(253,laws_eqRow.D.sig)],lv:=[(4,[0,1,5])],lx:=[(0,[])],od:=[(6,[0,1,2,3,4,5,6,7,8,9])] }
noncomputable def sem (a:Arg):Option Out:=@lift Out fun k=>D.W k a
noncomputable def T0 (a1:Arg) (v402:Int):St:={ n:=27,sl:=[(0,.val (.slc tRow) a1.1),(1,.val (.slc tRow) a1.2.1),(5,.val i64 v402)],vr:=[],lent:=[] }
noncomputable def b0 (self:Int->Option Out) (e0:(Unit)->Option Out) (a1:Arg) (v402:Int):Option Out:=bif decide (v402 < (a1.1.length:Int)) then (if 0<=v402 then ((a1.1[v402.toNat]?).bind fun x603=>if 0<=v402 then ((a1.2.1[v402.toNat]?).bind fun x604=>(laws_eqRow.sem (x603,x604,())).bind fun r605=>bif !r605.1 then (some (false,())) else self (w64 (v402+(1:Int)))) else none) else none) else e0 ()
noncomputable abbrev B0 (_:Nat):=b0
noncomputable def q0 (a1:Arg) (z606:(Unit)):Option Out:=some (true,())
noncomputable abbrev Q0 (_:Nat):=q0
noncomputable def s0 (k:Nat) (a1:Arg):(Int)->Option Out:=fun v402=>D.L k [1,1,0,1,0,0] [0,1,5] [] (blockC 0 (seqC (D.N k [1,1,1]) D.K0)) (T0 a1 v402)
noncomputable def r0 (k:Nat) (a1:Arg):(Int)->Option Out:=rawIter (fun w v=>B0 k w (Q0 k a1) a1 v) k
theorem s0_eq (k:Nat) (a1:Arg):s0 k a1=r0 k a1:=
 funext fun v402=>iter_raw _ _ _ (T0 a1) _ (fun rec v=>by kernel_rfl) k v402
noncomputable def p (l0:(Int)->Option Out) (a1:Arg):Option Out:=bif !decide ((a1.1.length:Int)=(a1.2.1.length:Int)) then (some (false,())) else l0 (0:Int)
theorem raw_eq (k:Nat) (a1:Arg):@Eq (Option Out) (D.W k a1) (p (r0 k a1) a1):=
 Eq.trans (b:=p (s0 k a1) a1) (by kernel_rfl) (by rw[s0_eq])
theorem ok:Ok prog 117 D.sig:=fd_ok func117 tlOk (by kernel_rfl) (fc laws_eqRow.ok (fn_nil _))
end laws_eqRowS
namespace laws_eqInt64S
abbrev Arg:Type:=(List Int)×(List Int)×Unit
abbrev Out:Type:=Bool×Unit
abbrev ps:PQ:=[(.ro,(.slc i64)),(.ro,(.slc i64))]
noncomputable def D:FD:={ fn:=f122,tl:=TL0,ps:=ps,rs:=[(.bool,(roMd .bool))],lv:=[(4,[0,1,5])],lx:=[(0,[])],od:=[(6,[0,1,2,3,4,5,6,7,8])] }
noncomputable def sem (a:Arg):Option Out:=@lift Out fun k=>D.W k a
noncomputable def T0 (a1:Arg) (v402:Int):St:={ n:=26,sl:=[(0,.val (.slc i64) a1.1),(1,.val (.slc i64) a1.2.1),(5,.val i64 v402)],vr:=[],lent:=[] }
noncomputable def b0 (self:Int->Option Out) (e0:(Unit)->Option Out) (a1:Arg) (v402:Int):Option Out:=bif decide (v402 < (a1.1.length:Int)) then (if 0<=v402 then ((a1.1[v402.toNat]?).bind fun x603=>if 0<=v402 then ((a1.2.1[v402.toNat]?).bind fun x604=>bif !decide (x603=x604) then (some (false,())) else self (w64 (v402+(1:Int)))) else none) else none) else e0 ()
noncomputable abbrev B0 (_:Nat):=b0
noncomputable def q0 (a1:Arg) (z605:(Unit)):Option Out:=some (true,())
noncomputable abbrev Q0 (_:Nat):=q0
noncomputable def s0 (k:Nat) (a1:Arg):(Int)->Option Out:=fun v402=>D.L k [1,1,0,1,0,0] [0,1,5] [] (blockC 0 (seqC (D.N k [1,1,1]) D.K0)) (T0 a1 v402)
noncomputable def r0 (k:Nat) (a1:Arg):(Int)->Option Out:=rawIter (fun w v=>B0 k w (Q0 k a1) a1 v) k
theorem s0_eq (k:Nat) (a1:Arg):s0 k a1=r0 k a1:=
 funext fun v402=>iter_raw _ _ _ (T0 a1) _ (fun rec v=>by kernel_rfl) k v402
noncomputable def p (l0:(Int)->Option Out) (a1:Arg):Option Out:=bif !decide ((a1.1.length:Int)=(a1.2.1.length:Int)) then (some (false,())) else l0 (0:Int)
theorem raw_eq (k:Nat) (a1:Arg):@Eq (Option Out) (D.W k a1) (p (r0 k a1) a1):=
 Eq.trans (b:=p (s0 k a1) a1) (by kernel_rfl) (by rw[s0_eq])
theorem ok:Ok prog 122 D.sig:=fd_ok func122 tlOk (by kernel_rfl) (fn_nil _)
end laws_eqInt64S
namespace laws_eqChange
abbrev Arg:Type:=Change×Change×Unit
abbrev Out:Type:=Bool×Unit
abbrev ps:PQ:=[(.ro,tChange),(.ro,tChange)]
noncomputable def D:FD:={ fn:=f278,tl:=TL0,ps:=ps,rs:=[(.bool,(roMd .bool))],gl:=[(253,laws_eqRow.D.sig)] }
noncomputable def sem (a:Arg):Option Out:=@lift Out fun k=>D.W k a
noncomputable def p (a1:Arg):Option Out:=bif !(a1.1.1 == a1.2.1.1) then (some (false,())) else (laws_eqRow.sem (a1.1.2.1,a1.2.1.2.1,())).bind fun r2=>bif !r2.1 then (some (false,())) else bif !(a1.1.2.2.1 == a1.2.1.2.2.1) then (some (false,())) else (laws_eqRow.sem (a1.1.2.2.2.1,a1.2.1.2.2.2.1,())).bind fun r3=>bif !r3.1 then (some (false,())) else some (true,())
theorem raw_eq (k:Nat) (a1:Arg):@Eq (Option Out) (D.W k a1) (p a1):=by kernel_rfl
theorem ok:Ok prog 278 D.sig:=fd_ok func278 tlOk (by kernel_rfl) (fc laws_eqRow.ok (fn_nil _))
end laws_eqChange
namespace laws_eqChangeS
abbrev Arg:Type:=(List Change)×(List Change)×Unit
abbrev Out:Type:=Bool×Unit
abbrev ps:PQ:=[(.ro,(.slc tChange)),(.ro,(.slc tChange))]
noncomputable def D:FD:={ fn:=f139,tl:=TL0,ps:=ps,rs:=[(.bool,(roMd .bool))],gl:=[(278,laws_eqChange.D.sig)],lv:=[(4,[0,1,5])],lx:=[(0,[])],od:=[(6,[0,1,2,3,4,5,6,7,8,9])] }
noncomputable def sem (a:Arg):Option Out:=@lift Out fun k=>D.W k a
noncomputable def T0 (a1:Arg) (v402:Int):St:={ n:=27,sl:=[(0,.val (.slc tChange) a1.1),(1,.val (.slc tChange) a1.2.1),(5,.val i64 v402)],vr:=[],lent:=[] }
noncomputable def b0 (self:Int->Option Out) (e0:(Unit)->Option Out) (a1:Arg) (v402:Int):Option Out:=bif decide (v402 < (a1.1.length:Int)) then (if 0<=v402 then ((a1.1[v402.toNat]?).bind fun x603=>if 0<=v402 then ((a1.2.1[v402.toNat]?).bind fun x604=>(laws_eqChange.sem (x603,x604,())).bind fun r605=>bif !r605.1 then (some (false,())) else self (w64 (v402+(1:Int)))) else none) else none) else e0 ()
noncomputable abbrev B0 (_:Nat):=b0
noncomputable def q0 (a1:Arg) (z606:(Unit)):Option Out:=some (true,())
noncomputable abbrev Q0 (_:Nat):=q0
noncomputable def s0 (k:Nat) (a1:Arg):(Int)->Option Out:=fun v402=>D.L k [1,1,0,1,0,0] [0,1,5] [] (blockC 0 (seqC (D.N k [1,1,1]) D.K0)) (T0 a1 v402)
noncomputable def r0 (k:Nat) (a1:Arg):(Int)->Option Out:=rawIter (fun w v=>B0 k w (Q0 k a1) a1 v) k
theorem s0_eq (k:Nat) (a1:Arg):s0 k a1=r0 k a1:=
 funext fun v402=>iter_raw _ _ _ (T0 a1) _ (fun rec v=>by kernel_rfl) k v402
noncomputable def p (l0:(Int)->Option Out) (a1:Arg):Option Out:=bif !decide ((a1.1.length:Int)=(a1.2.1.length:Int)) then (some (false,())) else l0 (0:Int)
theorem raw_eq (k:Nat) (a1:Arg):@Eq (Option Out) (D.W k a1) (p (r0 k a1) a1):=
 Eq.trans (b:=p (s0 k a1) a1) (by kernel_rfl) (by rw[s0_eq])
theorem ok:Ok prog 139 D.sig:=fd_ok func139 tlOk (by kernel_rfl) (fc laws_eqChange.ok (fn_nil _))
end laws_eqChangeS
namespace laws_eqKey
abbrev Arg:Type:=Key×Key×Unit
abbrev Out:Type:=Bool×Unit
abbrev ps:PQ:=[(.ro,tKey),(.ro,tKey)]
noncomputable def D:FD:={ fn:=f424,tl:=TL0,ps:=ps,rs:=[(.bool,(roMd .bool))] }
noncomputable def sem (a:Arg):Option Out:=@lift Out fun k=>D.W k a
noncomputable def p (a1:Arg):Option Out:=bif !decide (a1.1.1=a1.2.1.1) then (some (false,())) else bif !decide (a1.1.2.1=a1.2.1.2.1) then (some (false,())) else some (true,())
theorem raw_eq (k:Nat) (a1:Arg):@Eq (Option Out) (D.W k a1) (p a1):=by kernel_rfl
theorem ok:Ok prog 424 D.sig:=fd_ok func424 tlOk (by kernel_rfl) (fn_nil _)
end laws_eqKey
namespace laws_eqKeyS
abbrev Arg:Type:=(List Key)×(List Key)×Unit
abbrev Out:Type:=Bool×Unit
abbrev ps:PQ:=[(.ro,(.slc tKey)),(.ro,(.slc tKey))]
noncomputable def D:FD:={ fn:=f358,tl:=TL0,ps:=ps,rs:=[(.bool,(roMd .bool))],gl:=[(424,laws_eqKey.D.sig)],lv:=[(4,[0,1,5])],lx:=[(0,[])],od:=[(6,[0,1,2,3,4,5,6,7,8,9])] }
noncomputable def sem (a:Arg):Option Out:=@lift Out fun k=>D.W k a
noncomputable def T0 (a1:Arg) (v402:Int):St:={ n:=27,sl:=[(0,.val (.slc tKey) a1.1),(1,.val (.slc tKey) a1.2.1),(5,.val i64 v402)],vr:=[],lent:=[] }
noncomputable def b0 (self:Int->Option Out) (e0:(Unit)->Option Out) (a1:Arg) (v402:Int):Option Out:=bif decide (v402 < (a1.1.length:Int)) then (if 0<=v402 then ((a1.1[v402.toNat]?).bind fun x603=>if 0<=v402 then ((a1.2.1[v402.toNat]?).bind fun x604=>(laws_eqKey.sem (x603,x604,())).bind fun r605=>bif !r605.1 then (some (false,())) else self (w64 (v402+(1:Int)))) else none) else none) else e0 ()
noncomputable abbrev B0 (_:Nat):=b0
noncomputable def q0 (a1:Arg) (z606:(Unit)):Option Out:=some (true,())
noncomputable abbrev Q0 (_:Nat):=q0
noncomputable def s0 (k:Nat) (a1:Arg):(Int)->Option Out:=fun v402=>D.L k [1,1,0,1,0,0] [0,1,5] [] (blockC 0 (seqC (D.N k [1,1,1]) D.K0)) (T0 a1 v402)
noncomputable def r0 (k:Nat) (a1:Arg):(Int)->Option Out:=rawIter (fun w v=>B0 k w (Q0 k a1) a1 v) k
theorem s0_eq (k:Nat) (a1:Arg):s0 k a1=r0 k a1:=
 funext fun v402=>iter_raw _ _ _ (T0 a1) _ (fun rec v=>by kernel_rfl) k v402
noncomputable def p (l0:(Int)->Option Out) (a1:Arg):Option Out:=bif !decide ((a1.1.length:Int)=(a1.2.1.length:Int)) then (some (false,())) else l0 (0:Int)
theorem raw_eq (k:Nat) (a1:Arg):@Eq (Option Out) (D.W k a1) (p (r0 k a1) a1):=
 Eq.trans (b:=p (s0 k a1) a1) (by kernel_rfl) (by rw[s0_eq])
theorem ok:Ok prog 358 D.sig:=fd_ok func358 tlOk (by kernel_rfl) (fc laws_eqKey.ok (fn_nil _))
end laws_eqKeyS
namespace laws_eqTx
abbrev Arg:Type:=Tx×Tx×Unit
abbrev Out:Type:=Bool×Unit
abbrev ps:PQ:=[(.ro,tTx),(.ro,tTx)]
noncomputable def D:FD:={ fn:=f254,tl:=TL0,ps:=ps,rs:=[(.bool,(roMd .bool))],gl:=[(122,laws_eqInt64S.D.sig),(139,laws_eqChangeS.D.sig),(358,laws_eqKeyS.D.sig)] }
noncomputable def sem (a:Arg):Option Out:=@lift Out fun k=>D.W k a
noncomputable def p (a1:Arg):Option Out:=bif !decide (a1.1.1=a1.2.1.1) then (some (false,())) else (laws_eqChangeS.sem (a1.1.2.1,a1.2.1.2.1,())).bind fun r2=>bif !r2.1 then (some (false,())) else (laws_eqInt64S.sem (a1.1.2.2.1,a1.2.1.2.2.1,())).bind fun r3=>bif !r3.1 then (some (false,())) else (laws_eqKeyS.sem (a1.1.2.2.2.1,a1.2.1.2.2.2.1,())).bind fun r4=>bif !r4.1 then (some (false,())) else some (true,())
theorem raw_eq (k:Nat) (a1:Arg):@Eq (Option Out) (D.W k a1) (p a1):=by kernel_rfl
theorem ok:Ok prog 254 D.sig:=fd_ok func254 tlOk (by kernel_rfl) (fc laws_eqInt64S.ok (fc laws_eqChangeS.ok (fc laws_eqKeyS.ok (fn_nil _))))
end laws_eqTx
namespace laws_eqTxS
abbrev Arg:Type:=(List Tx)×(List Tx)×Unit
abbrev Out:Type:=Bool×Unit
abbrev ps:PQ:=[(.ro,(.slc tTx)),(.ro,(.slc tTx))]
noncomputable def D:FD:={ fn:=f118,tl:=TL0,ps:=ps,rs:=[(.bool,(roMd .bool))],gl:=[(254,laws_eqTx.D.sig)],lv:=[(4,[0,1,5])],lx:=[(0,[])],od:=[(6,[0,1,2,3,4,5,6,7,8,9])] }
noncomputable def sem (a:Arg):Option Out:=@lift Out fun k=>D.W k a
noncomputable def T0 (a1:Arg) (v402:Int):St:={ n:=27,sl:=[(0,.val (.slc tTx) a1.1),(1,.val (.slc tTx) a1.2.1),(5,.val i64 v402)],vr:=[],lent:=[] }
noncomputable def b0 (self:Int->Option Out) (e0:(Unit)->Option Out) (a1:Arg) (v402:Int):Option Out:=bif decide (v402 < (a1.1.length:Int)) then (if 0<=v402 then ((a1.1[v402.toNat]?).bind fun x603=>if 0<=v402 then ((a1.2.1[v402.toNat]?).bind fun x604=>(laws_eqTx.sem (x603,x604,())).bind fun r605=>bif !r605.1 then (some (false,())) else self (w64 (v402+(1:Int)))) else none) else none) else e0 ()
noncomputable abbrev B0 (_:Nat):=b0
noncomputable def q0 (a1:Arg) (z606:(Unit)):Option Out:=some (true,())
noncomputable abbrev Q0 (_:Nat):=q0
noncomputable def s0 (k:Nat) (a1:Arg):(Int)->Option Out:=fun v402=>D.L k [1,1,0,1,0,0] [0,1,5] [] (blockC 0 (seqC (D.N k [1,1,1]) D.K0)) (T0 a1 v402)
noncomputable def r0 (k:Nat) (a1:Arg):(Int)->Option Out:=rawIter (fun w v=>B0 k w (Q0 k a1) a1 v) k
theorem s0_eq (k:Nat) (a1:Arg):s0 k a1=r0 k a1:=
 funext fun v402=>iter_raw _ _ _ (T0 a1) _ (fun rec v=>by kernel_rfl) k v402
noncomputable def p (l0:(Int)->Option Out) (a1:Arg):Option Out:=bif !decide ((a1.1.length:Int)=(a1.2.1.length:Int)) then (some (false,())) else l0 (0:Int)
theorem raw_eq (k:Nat) (a1:Arg):@Eq (Option Out) (D.W k a1) (p (r0 k a1) a1):=
 Eq.trans (b:=p (s0 k a1) a1) (by kernel_rfl) (by rw[s0_eq])
theorem ok:Ok prog 118 D.sig:=fd_ok func118 tlOk (by kernel_rfl) (fc laws_eqTx.ok (fn_nil _))
end laws_eqTxS
namespace laws_eqPlain
abbrev Arg:Type:=Plain×Plain×Unit
abbrev Out:Type:=Bool×Unit
abbrev ps:PQ:=[(.ro,tPlain),(.ro,tPlain)]
noncomputable def D:FD:={ fn:=f22,tl:=TL0,ps:=ps,rs:=[(.bool,(roMd .bool))],gl:=[(117,laws_eqRowS.D.sig),(118,laws_eqTxS.D.sig)] }
noncomputable def sem (a:Arg):Option Out:=@lift Out fun k=>D.W k a
noncomputable def p (a1:Arg):Option Out:=(laws_eqRowS.sem (a1.1.1,a1.2.1.1,())).bind fun r2=>bif !r2.1 then (some (false,())) else (laws_eqTxS.sem (a1.1.2.1,a1.2.1.2.1,())).bind fun r3=>bif !r3.1 then (some (false,())) else bif !decide (a1.1.2.2.1=a1.2.1.2.2.1) then (some (false,())) else some (true,())
theorem raw_eq (k:Nat) (a1:Arg):@Eq (Option Out) (D.W k a1) (p a1):=by kernel_rfl
theorem ok:Ok prog 22 D.sig:=fd_ok func22 tlOk (by kernel_rfl) (fc laws_eqRowS.ok (fc laws_eqTxS.ok (fn_nil _)))
end laws_eqPlain
namespace laws_markText
abbrev Arg:Type:=Int×Unit
abbrev Out:Type:=(List UInt8)×Unit
abbrev ps:PQ:=[(.ro,i64)]
noncomputable def D:FD:={ fn:=f124,tl:=TL0,ps:=ps,rs:=[(.str,(roMd .str))],lv:=[(4,[0,3])],lx:=[(0,[3])] }
noncomputable def sem (a:Arg):Option Out:=@lift Out fun k=>D.W k a
noncomputable def T0 (a1:Arg) (v402:Int×(List UInt8)):St:={ n:=20,sl:=[(0,.val i64 v402.1),(3,.val .str v402.2)],vr:=[],lent:=[] }
noncomputable def b0 (self:(Int×(List UInt8))->Option Out) (e0:(List UInt8)->Option Out) (a1:Arg) (v402:Int×(List UInt8)):Option Out:=bif decide ((0:Int) < v402.1) then (if [UInt8.ofInt (w64 ((48:Int)+(v402.1.tmod (10:Int))))].length+v402.2.length<=CAP then (self (w64 (v402.1.tdiv (10:Int)),[UInt8.ofInt (w64 ((48:Int)+(v402.1.tmod (10:Int))))]++v402.2)) else none) else e0 v402.2
noncomputable abbrev B0 (_:Nat):=b0
noncomputable def q0 (a1:Arg) (z603:(List UInt8)):Option Out:=if ([109]:List UInt8).length+z603.length<=CAP then (some (([109]:List UInt8)++z603,())) else none
noncomputable abbrev Q0 (_:Nat):=q0
noncomputable def s0 (k:Nat) (a1:Arg):(Int×(List UInt8))->Option Out:=fun v402=>D.L k [1,1,1,0,0,0] [0,3] [] (blockC 0 (seqC (D.N k [1,1,1,1]) D.K0)) (T0 a1 v402)
noncomputable def r0 (k:Nat) (a1:Arg):(Int×(List UInt8))->Option Out:=rawIter (fun w v=>B0 k w (Q0 k a1) a1 v) k
theorem s0_eq (k:Nat) (a1:Arg):s0 k a1=r0 k a1:=
 funext fun v402=>iter_raw _ _ _ (T0 a1) _ (fun rec v=>by kernel_rfl) k v402
noncomputable def p (l0:(Int×(List UInt8))->Option Out) (a1:Arg):Option Out:=bif decide (a1.1<=(0:Int)) then (some (([109,48]:List UInt8),())) else l0 (a1.1,([]:List UInt8))
theorem raw_eq (k:Nat) (a1:Arg):@Eq (Option Out) (D.W k a1) (p (r0 k a1) a1):=
 Eq.trans (b:=p (s0 k a1) a1) (by kernel_rfl) (by rw[s0_eq])
theorem ok:Ok prog 124 D.sig:=fd_ok func124 tlOk (by kernel_rfl) (fn_nil _)
end laws_markText
namespace laws_markRowS
abbrev Arg:Type:=(List Row)×Int×Unit
abbrev Out:Type:=Int×(List Row)×Unit
abbrev ps:PQ:=[(.muts (ownMd (.slc tRow)),(.slc tRow)),(.ro,i64)]
noncomputable def D:FD:={ fn:=f119,tl:=TL0,ps:=ps,rs:=[(i64,(roMd i64))],gl:=[(124,laws_markText.D.sig)],es:=[0],lv:=[(2,[0,1,5])],lx:=[(0,[0,1])] }
noncomputable def sem (a:Arg):Option Out:=@lift Out fun k=>D.W k a
noncomputable def T0 (a1:Arg) (v402:(List Row)×Int×Int):St:={ n:=42,sl:=[(0,.own (.slc tRow) (ownMd (.slc tRow)) [] v402.1),(1,.val i64 v402.2.1),(5,.val i64 v402.2.2)],vr:=[],lent:=[(0,0,true)] }
noncomputable def b0 (self:((List Row)×Int×Int)->Option Out) (e0:((List Row)×Int)->Option Out) (a1:Arg) (v402:(List Row)×Int×Int):Option Out:=bif decide (v402.2.2 < (v402.1.length:Int)) then (if 0<=v402.2.2/\v402.2.2 < (v402.1.length:Int) then ((v402.1[v402.2.2.toNat]?).bind fun x603=>let y604:=v402.1.set v402.2.2.toNat (v402.2.1,x603.2);if 0<=v402.2.2/\v402.2.2 < (y604.length:Int) then ((y604[v402.2.2.toNat]?).bind fun x605=>let y606:=y604.set v402.2.2.toNat (x605.1,w64 (v402.2.1+(1:Int)),x605.2.2);if 0<=v402.2.2/\v402.2.2 < (y606.length:Int) then ((y606[v402.2.2.toNat]?).bind fun x607=>let y608:=y606.set v402.2.2.toNat (x607.1,x607.2.1,w64 ((w64 (v402.2.1+(1:Int)))+(1:Int)),x607.2.2.2);(laws_markText.sem (w64 ((w64 ((w64 (v402.2.1+(1:Int)))+(1:Int)))+(1:Int)),())).bind fun r609=>if 0<=v402.2.2/\v402.2.2 < (y608.length:Int) then ((y608[v402.2.2.toNat]?).bind fun x610=>let y611:=y608.set v402.2.2.toNat (x610.1,x610.2.1,x610.2.2.1,r609.1,x610.2.2.2.2);self (y611,w64 ((w64 ((w64 ((w64 (v402.2.1+(1:Int)))+(1:Int)))+(1:Int)))+(1:Int)),w64 (v402.2.2+(1:Int)))) else none) else none) else none) else none) else e0 (v402.1,v402.2.1)
noncomputable abbrev B0 (_:Nat):=b0
noncomputable def q0 (a1:Arg) (z612:((List Row)×Int)):Option Out:=some (z612.2,z612.1,())
noncomputable abbrev Q0 (_:Nat):=q0
noncomputable def s0 (k:Nat) (a1:Arg):((List Row)×Int×Int)->Option Out:=fun v402=>D.L k [1,0,1,0,0] [0,1,5] [] (blockC 0 (seqC (D.N k [1,1]) D.K0)) (T0 a1 v402)
noncomputable def r0 (k:Nat) (a1:Arg):((List Row)×Int×Int)->Option Out:=rawIter (fun w v=>B0 k w (Q0 k a1) a1 v) k
theorem s0_eq (k:Nat) (a1:Arg):s0 k a1=r0 k a1:=
 funext fun v402=>iter_raw _ _ _ (T0 a1) _ (fun rec v=>by kernel_rfl) k v402
noncomputable def p (l0:((List Row)×Int×Int)->Option Out) (a1:Arg):Option Out:=l0 (a1.1,a1.2.1,(0:Int))
theorem raw_eq (k:Nat) (a1:Arg):@Eq (Option Out) (D.W k a1) (p (r0 k a1) a1):=
 Eq.trans (b:=p (s0 k a1) a1) (by kernel_rfl) (by rw[s0_eq])
theorem ok:Ok prog 119 D.sig:=fd_ok func119 tlOk (by kernel_rfl) (fc laws_markText.ok (fn_nil _))
end laws_markRowS
namespace laws_markInt64S
abbrev Arg:Type:=(List Int)×Int×Unit
abbrev Out:Type:=Int×(List Int)×Unit
abbrev ps:PQ:=[(.muts (ownMd (.slc i64)),(.slc i64)),(.ro,i64)]
noncomputable def D:FD:={ fn:=f125,tl:=TL0,ps:=ps,rs:=[(i64,(roMd i64))],es:=[0],lv:=[(2,[0,1,5])],lx:=[(0,[0,1])] }
noncomputable def sem (a:Arg):Option Out:=@lift Out fun k=>D.W k a
noncomputable def T0 (a1:Arg) (v402:(List Int)×Int×Int):St:={ n:=19,sl:=[(0,.own (.slc i64) (ownMd (.slc i64)) [] v402.1),(1,.val i64 v402.2.1),(5,.val i64 v402.2.2)],vr:=[],lent:=[(0,0,true)] }
noncomputable def b0 (self:((List Int)×Int×Int)->Option Out) (e0:((List Int)×Int)->Option Out) (a1:Arg) (v402:(List Int)×Int×Int):Option Out:=bif decide (v402.2.2 < (v402.1.length:Int)) then (if 0<=v402.2.2/\v402.2.2 < (v402.1.length:Int) then ((v402.1[v402.2.2.toNat]?).bind fun x603=>self (v402.1.set v402.2.2.toNat v402.2.1,w64 (v402.2.1+(1:Int)),w64 (v402.2.2+(1:Int)))) else none) else e0 (v402.1,v402.2.1)
noncomputable abbrev B0 (_:Nat):=b0
noncomputable def q0 (a1:Arg) (z604:((List Int)×Int)):Option Out:=some (z604.2,z604.1,())
noncomputable abbrev Q0 (_:Nat):=q0
noncomputable def s0 (k:Nat) (a1:Arg):((List Int)×Int×Int)->Option Out:=fun v402=>D.L k [1,0,1,0,0] [0,1,5] [] (blockC 0 (seqC (D.N k [1,1]) D.K0)) (T0 a1 v402)
noncomputable def r0 (k:Nat) (a1:Arg):((List Int)×Int×Int)->Option Out:=rawIter (fun w v=>B0 k w (Q0 k a1) a1 v) k
theorem s0_eq (k:Nat) (a1:Arg):s0 k a1=r0 k a1:=
 funext fun v402=>iter_raw _ _ _ (T0 a1) _ (fun rec v=>by kernel_rfl) k v402
noncomputable def p (l0:((List Int)×Int×Int)->Option Out) (a1:Arg):Option Out:=l0 (a1.1,a1.2.1,(0:Int))
theorem raw_eq (k:Nat) (a1:Arg):@Eq (Option Out) (D.W k a1) (p (r0 k a1) a1):=
 Eq.trans (b:=p (s0 k a1) a1) (by kernel_rfl) (by rw[s0_eq])
theorem ok:Ok prog 125 D.sig:=fd_ok func125 tlOk (by kernel_rfl) (fn_nil _)
end laws_markInt64S
namespace laws_markChangeS
abbrev Arg:Type:=(List Change)×Int×Unit
abbrev Out:Type:=Int×(List Change)×Unit
abbrev ps:PQ:=[(.muts (ownMd (.slc tChange)),(.slc tChange)),(.ro,i64)]
noncomputable def D:FD:={ fn:=f146,tl:=TL0,ps:=ps,rs:=[(i64,(roMd i64))],gl:=[(124,laws_markText.D.sig)],es:=[0],lv:=[(2,[0,1,5])],lx:=[(0,[0,1])] }
noncomputable def sem (a:Arg):Option Out:=@lift Out fun k=>D.W k a
noncomputable def T0 (a1:Arg) (v402:(List Change)×Int×Int):St:={ n:=97,sl:=[(0,.own (.slc tChange) (ownMd (.slc tChange)) [] v402.1),(1,.val i64 v402.2.1),(5,.val i64 v402.2.2)],vr:=[],lent:=[(0,0,true)] }
noncomputable def b0 (self:((List Change)×Int×Int)->Option Out) (e0:((List Change)×Int)->Option Out) (a1:Arg) (v402:(List Change)×Int×Int):Option Out:=bif decide (v402.2.2 < (v402.1.length:Int)) then (if 0<=v402.2.2/\v402.2.2 < (v402.1.length:Int) then ((v402.1[v402.2.2.toNat]?).bind fun x603=>let y604:=v402.1.set v402.2.2.toNat (decide (v402.2.1.tmod (3:Int)=(0:Int)),x603.2);if 0<=v402.2.2/\v402.2.2 < (y604.length:Int) then ((y604[v402.2.2.toNat]?).bind fun x605=>let y606:=y604.set v402.2.2.toNat (x605.1,(w64 (v402.2.1+(1:Int)),x605.2.1.2),x605.2.2);if 0<=v402.2.2/\v402.2.2 < (y606.length:Int) then ((y606[v402.2.2.toNat]?).bind fun x607=>let y608:=y606.set v402.2.2.toNat (x607.1,(x607.2.1.1,w64 ((w64 (v402.2.1+(1:Int)))+(1:Int)),x607.2.1.2.2),x607.2.2);if 0<=v402.2.2/\v402.2.2 < (y608.length:Int) then ((y608[v402.2.2.toNat]?).bind fun x609=>let y610:=y608.set v402.2.2.toNat (x609.1,(x609.2.1.1,x609.2.1.2.1,w64 ((w64 ((w64 (v402.2.1+(1:Int)))+(1:Int)))+(1:Int)),x609.2.1.2.2.2),x609.2.2);(laws_markText.sem (w64 ((w64 ((w64 ((w64 (v402.2.1+(1:Int)))+(1:Int)))+(1:Int)))+(1:Int)),())).bind fun r611=>if 0<=v402.2.2/\v402.2.2 < (y610.length:Int) then ((y610[v402.2.2.toNat]?).bind fun x612=>let y613:=y610.set v402.2.2.toNat (x612.1,(x612.2.1.1,x612.2.1.2.1,x612.2.1.2.2.1,r611.1,x612.2.1.2.2.2.2),x612.2.2);if 0<=v402.2.2/\v402.2.2 < (y613.length:Int) then ((y613[v402.2.2.toNat]?).bind fun x614=>let y615:=y613.set v402.2.2.toNat (x614.1,x614.2.1,decide ((w64 ((w64 ((w64 ((w64 ((w64 (v402.2.1+(1:Int)))+(1:Int)))+(1:Int)))+(1:Int)))+(1:Int))).tmod (3:Int)=(0:Int)),x614.2.2.2);if 0<=v402.2.2/\v402.2.2 < (y615.length:Int) then ((y615[v402.2.2.toNat]?).bind fun x616=>let y617:=y615.set v402.2.2.toNat (x616.1,x616.2.1,x616.2.2.1,(w64 ((w64 ((w64 ((w64 ((w64 ((w64 (v402.2.1+(1:Int)))+(1:Int)))+(1:Int)))+(1:Int)))+(1:Int)))+(1:Int)),x616.2.2.2.1.2),x616.2.2.2.2);if 0<=v402.2.2/\v402.2.2 < (y617.length:Int) then ((y617[v402.2.2.toNat]?).bind fun x618=>let y619:=y617.set v402.2.2.toNat (x618.1,x618.2.1,x618.2.2.1,(x618.2.2.2.1.1,w64 ((w64 ((w64 ((w64 ((w64 ((w64 ((w64 (v402.2.1+(1:Int)))+(1:Int)))+(1:Int)))+(1:Int)))+(1:Int)))+(1:Int)))+(1:Int)),x618.2.2.2.1.2.2),x618.2.2.2.2);if 0<=v402.2.2/\v402.2.2 < (y619.length:Int) then ((y619[v402.2.2.toNat]?).bind fun x620=>let y621:=y619.set v402.2.2.toNat (x620.1,x620.2.1,x620.2.2.1,(x620.2.2.2.1.1,x620.2.2.2.1.2.1,w64 ((w64 ((w64 ((w64 ((w64 ((w64 ((w64 ((w64 (v402.2.1+(1:Int)))+(1:Int)))+(1:Int)))+(1:Int)))+(1:Int)))+(1:Int)))+(1:Int)))+(1:Int)),x620.2.2.2.1.2.2.2),x620.2.2.2.2);(laws_markText.sem (w64 ((w64 ((w64 ((w64 ((w64 ((w64 ((w64 ((w64 ((w64 (v402.2.1+(1:Int)))+(1:Int)))+(1:Int)))+(1:Int)))+(1:Int)))+(1:Int)))+(1:Int)))+(1:Int)))+(1:Int)),())).bind fun r622=>if 0<=v402.2.2/\v402.2.2 < (y621.length:Int) then ((y621[v402.2.2.toNat]?).bind fun x623=>let y624:=y621.set v402.2.2.toNat (x623.1,x623.2.1,x623.2.2.1,(x623.2.2.2.1.1,x623.2.2.2.1.2.1,x623.2.2.2.1.2.2.1,r622.1,x623.2.2.2.1.2.2.2.2),x623.2.2.2.2);self (y624,w64 ((w64 ((w64 ((w64 ((w64 ((w64 ((w64 ((w64 ((w64 ((w64 (v402.2.1+(1:Int)))+(1:Int)))+(1:Int)))+(1:Int)))+(1:Int)))+(1:Int)))+(1:Int)))+(1:Int)))+(1:Int)))+(1:Int)),w64 (v402.2.2+(1:Int)))) else none) else none) else none) else none) else none) else none) else none) else none) else none) else none) else e0 (v402.1,v402.2.1)
noncomputable abbrev B0 (_:Nat):=b0
noncomputable def q0 (a1:Arg) (z625:((List Change)×Int)):Option Out:=some (z625.2,z625.1,())
noncomputable abbrev Q0 (_:Nat):=q0
noncomputable def s0 (k:Nat) (a1:Arg):((List Change)×Int×Int)->Option Out:=fun v402=>D.L k [1,0,1,0,0] [0,1,5] [] (blockC 0 (seqC (D.N k [1,1]) D.K0)) (T0 a1 v402)
noncomputable def r0 (k:Nat) (a1:Arg):((List Change)×Int×Int)->Option Out:=rawIter (fun w v=>B0 k w (Q0 k a1) a1 v) k
theorem s0_eq (k:Nat) (a1:Arg):s0 k a1=r0 k a1:=
 funext fun v402=>iter_raw _ _ _ (T0 a1) _ (fun rec v=>by kernel_rfl) k v402
noncomputable def p (l0:((List Change)×Int×Int)->Option Out) (a1:Arg):Option Out:=l0 (a1.1,a1.2.1,(0:Int))
theorem raw_eq (k:Nat) (a1:Arg):@Eq (Option Out) (D.W k a1) (p (r0 k a1) a1):=
 Eq.trans (b:=p (s0 k a1) a1) (by kernel_rfl) (by rw[s0_eq])
theorem ok:Ok prog 146 D.sig:=fd_ok func146 tlOk (by kernel_rfl) (fc laws_markText.ok (fn_nil _))
end laws_markChangeS
namespace laws_markKeyS
abbrev Arg:Type:=(List Key)×Int×Unit
abbrev Out:Type:=Int×(List Key)×Unit
abbrev ps:PQ:=[(.muts (ownMd (.slc tKey)),(.slc tKey)),(.ro,i64)]
noncomputable def D:FD:={ fn:=f255,tl:=TL0,ps:=ps,rs:=[(i64,(roMd i64))],es:=[0],lv:=[(2,[0,1,5])],lx:=[(0,[0,1])] }
noncomputable def sem (a:Arg):Option Out:=@lift Out fun k=>D.W k a
noncomputable def T0 (a1:Arg) (v402:(List Key)×Int×Int):St:={ n:=27,sl:=[(0,.own (.slc tKey) (ownMd (.slc tKey)) [] v402.1),(1,.val i64 v402.2.1),(5,.val i64 v402.2.2)],vr:=[],lent:=[(0,0,true)] }
noncomputable def b0 (self:((List Key)×Int×Int)->Option Out) (e0:((List Key)×Int)->Option Out) (a1:Arg) (v402:(List Key)×Int×Int):Option Out:=bif decide (v402.2.2 < (v402.1.length:Int)) then (if 0<=v402.2.2/\v402.2.2 < (v402.1.length:Int) then ((v402.1[v402.2.2.toNat]?).bind fun x603=>let y604:=v402.1.set v402.2.2.toNat (v402.2.1,x603.2);if 0<=v402.2.2/\v402.2.2 < (y604.length:Int) then ((y604[v402.2.2.toNat]?).bind fun x605=>let y606:=y604.set v402.2.2.toNat (x605.1,w64 (v402.2.1+(1:Int)),x605.2.2);self (y606,w64 ((w64 (v402.2.1+(1:Int)))+(1:Int)),w64 (v402.2.2+(1:Int)))) else none) else none) else e0 (v402.1,v402.2.1)
noncomputable abbrev B0 (_:Nat):=b0
noncomputable def q0 (a1:Arg) (z607:((List Key)×Int)):Option Out:=some (z607.2,z607.1,())
noncomputable abbrev Q0 (_:Nat):=q0
noncomputable def s0 (k:Nat) (a1:Arg):((List Key)×Int×Int)->Option Out:=fun v402=>D.L k [1,0,1,0,0] [0,1,5] [] (blockC 0 (seqC (D.N k [1,1]) D.K0)) (T0 a1 v402)
noncomputable def r0 (k:Nat) (a1:Arg):((List Key)×Int×Int)->Option Out:=rawIter (fun w v=>B0 k w (Q0 k a1) a1 v) k
theorem s0_eq (k:Nat) (a1:Arg):s0 k a1=r0 k a1:=
 funext fun v402=>iter_raw _ _ _ (T0 a1) _ (fun rec v=>by kernel_rfl) k v402
noncomputable def p (l0:((List Key)×Int×Int)->Option Out) (a1:Arg):Option Out:=l0 (a1.1,a1.2.1,(0:Int))
theorem raw_eq (k:Nat) (a1:Arg):@Eq (Option Out) (D.W k a1) (p (r0 k a1) a1):=
 Eq.trans (b:=p (s0 k a1) a1) (by kernel_rfl) (by rw[s0_eq])
theorem ok:Ok prog 255 D.sig:=fd_ok func255 tlOk (by kernel_rfl) (fn_nil _)
end laws_markKeyS
namespace laws_markTxS
abbrev Arg:Type:=(List Tx)×Int×Unit
abbrev Out:Type:=Int×(List Tx)×Unit
abbrev ps:PQ:=[(.muts (ownMd (.slc tTx)),(.slc tTx)),(.ro,i64)]
noncomputable def D:FD:={ fn:=f120,tl:=TL0,ps:=ps,rs:=[(i64,(roMd i64))],gl:=[(125,laws_markInt64S.D.sig),(146,laws_markChangeS.D.sig),(255,laws_markKeyS.D.sig)],es:=[0],lv:=[(2,[0,1,5])],lx:=[(0,[0,1])] }
noncomputable def sem (a:Arg):Option Out:=@lift Out fun k=>D.W k a
noncomputable def T0 (a1:Arg) (v402:(List Tx)×Int×Int):St:={ n:=41,sl:=[(0,.own (.slc tTx) (ownMd (.slc tTx)) [] v402.1),(1,.val i64 v402.2.1),(5,.val i64 v402.2.2)],vr:=[],lent:=[(0,0,true)] }
noncomputable def b0 (self:((List Tx)×Int×Int)->Option Out) (e0:((List Tx)×Int)->Option Out) (a1:Arg) (v402:(List Tx)×Int×Int):Option Out:=bif decide (v402.2.2 < (v402.1.length:Int)) then (if 0<=v402.2.2/\v402.2.2 < (v402.1.length:Int) then ((v402.1[v402.2.2.toNat]?).bind fun x603=>let y604:=v402.1.set v402.2.2.toNat (v402.2.1,x603.2);if 0<=v402.2.2/\v402.2.2 < (y604.length:Int) then ((y604[v402.2.2.toNat]?).bind fun x605=>(y604[v402.2.2.toNat]?).bind fun x606=>(y604[v402.2.2.toNat]?).bind fun x607=>(laws_markChangeS.sem (x607.2.1,w64 (v402.2.1+(1:Int)),())).bind fun r608=>(y604[v402.2.2.toNat]?).bind fun x609=>let y610:=y604.set v402.2.2.toNat (x609.1,r608.2.1,x609.2.2);if 0<=v402.2.2/\v402.2.2 < (y610.length:Int) then ((y610[v402.2.2.toNat]?).bind fun x611=>(y610[v402.2.2.toNat]?).bind fun x612=>(y610[v402.2.2.toNat]?).bind fun x613=>(laws_markInt64S.sem (x613.2.2.1,r608.1,())).bind fun r614=>(y610[v402.2.2.toNat]?).bind fun x615=>let y616:=y610.set v402.2.2.toNat (x615.1,x615.2.1,r614.2.1,x615.2.2.2);if 0<=v402.2.2/\v402.2.2 < (y616.length:Int) then ((y616[v402.2.2.toNat]?).bind fun x617=>(y616[v402.2.2.toNat]?).bind fun x618=>(y616[v402.2.2.toNat]?).bind fun x619=>(laws_markKeyS.sem (x619.2.2.2.1,r614.1,())).bind fun r620=>(y616[v402.2.2.toNat]?).bind fun x621=>let y622:=y616.set v402.2.2.toNat (x621.1,x621.2.1,x621.2.2.1,r620.2.1,x621.2.2.2.2);self (y622,r620.1,w64 (v402.2.2+(1:Int)))) else none) else none) else none) else none) else e0 (v402.1,v402.2.1)
noncomputable abbrev B0 (_:Nat):=b0
noncomputable def q0 (a1:Arg) (z623:((List Tx)×Int)):Option Out:=some (z623.2,z623.1,())
noncomputable abbrev Q0 (_:Nat):=q0
noncomputable def s0 (k:Nat) (a1:Arg):((List Tx)×Int×Int)->Option Out:=fun v402=>D.L k [1,0,1,0,0] [0,1,5] [] (blockC 0 (seqC (D.N k [1,1]) D.K0)) (T0 a1 v402)
noncomputable def r0 (k:Nat) (a1:Arg):((List Tx)×Int×Int)->Option Out:=rawIter (fun w v=>B0 k w (Q0 k a1) a1 v) k
theorem s0_eq (k:Nat) (a1:Arg):s0 k a1=r0 k a1:=
 funext fun v402=>iter_raw _ _ _ (T0 a1) _ (fun rec v=>by kernel_rfl) k v402
noncomputable def p (l0:((List Tx)×Int×Int)->Option Out) (a1:Arg):Option Out:=l0 (a1.1,a1.2.1,(0:Int))
theorem raw_eq (k:Nat) (a1:Arg):@Eq (Option Out) (D.W k a1) (p (r0 k a1) a1):=
 Eq.trans (b:=p (s0 k a1) a1) (by kernel_rfl) (by rw[s0_eq])
theorem ok:Ok prog 120 D.sig:=fd_ok func120 tlOk (by kernel_rfl) (fc laws_markInt64S.ok (fc laws_markChangeS.ok (fc laws_markKeyS.ok (fn_nil _))))
end laws_markTxS
namespace laws_markPlain
abbrev Arg:Type:=Plain×Int×Unit
abbrev Out:Type:=Int×Plain×Unit
abbrev ps:PQ:=[(.muts (ownMd tPlain),tPlain),(.ro,i64)]
noncomputable def D:FD:={ fn:=f23,tl:=TL0,ps:=ps,rs:=[(i64,(roMd i64))],gl:=[(119,laws_markRowS.D.sig),(120,laws_markTxS.D.sig)],es:=[2] }
noncomputable def sem (a:Arg):Option Out:=@lift Out fun k=>D.W k a
noncomputable def p (a1:Arg):Option Out:=(laws_markRowS.sem (a1.1.1,a1.2.1,())).bind fun r2=>(laws_markTxS.sem (a1.1.2.1,r2.1,())).bind fun r3=>some (r3.1,(r2.2.1,r3.2.1,a1.1.2.2),())
theorem raw_eq (k:Nat) (a1:Arg):@Eq (Option Out) (D.W k a1) (p a1):=by kernel_rfl
theorem ok:Ok prog 23 D.sig:=fd_ok func23 tlOk (by kernel_rfl) (fc laws_markRowS.ok (fc laws_markTxS.ok (fn_nil _)))
end laws_markPlain
namespace laws_heldRowS
abbrev Arg:Type:=(List Row)×Int×Unit
abbrev Out:Type:=Int×Unit
abbrev ps:PQ:=[(.ro,(.slc tRow)),(.ro,i64)]
noncomputable def D:FD:={ fn:=f256,tl:=TL0,ps:=ps,rs:=[(i64,(roMd i64))],gl:=[(124,laws_markText.D.sig)],lv:=[(2,[0,1,5])],lx:=[(0,[1])],od:=[(13,[0,1,2,3,4,5,6,7])] }
noncomputable def sem (a:Arg):Option Out:=@lift Out fun k=>D.W k a
noncomputable def T0 (a1:Arg) (v402:Int×Int):St:={ n:=50,sl:=[(0,.val (.slc tRow) a1.1),(1,.val i64 v402.1),(5,.val i64 v402.2)],vr:=[],lent:=[] }
noncomputable def b0 (self:(Int×Int)->Option Out) (e0:Int->Option Out) (a1:Arg) (v402:Int×Int):Option Out:=bif decide (v402.2 < (a1.1.length:Int)) then (if 0<=v402.2 then ((a1.1[v402.2.toNat]?).bind fun x603=>bif !decide (x603.1=v402.1) then (some ((-1:Int),())) else if 0<=v402.2 then ((a1.1[v402.2.toNat]?).bind fun x604=>bif !decide (x604.2.1=w64 (v402.1+(1:Int))) then (some ((-1:Int),())) else if 0<=v402.2 then ((a1.1[v402.2.toNat]?).bind fun x605=>bif !decide (x605.2.2.1=w64 ((w64 (v402.1+(1:Int)))+(1:Int))) then (some ((-1:Int),())) else if 0<=v402.2 then ((a1.1[v402.2.toNat]?).bind fun x606=>(laws_markText.sem (w64 ((w64 ((w64 (v402.1+(1:Int)))+(1:Int)))+(1:Int)),())).bind fun r607=>bif !decide (x606.2.2.2.1=r607.1) then (some ((-1:Int),())) else self (w64 ((w64 ((w64 ((w64 (v402.1+(1:Int)))+(1:Int)))+(1:Int)))+(1:Int)),w64 (v402.2+(1:Int)))) else none) else none) else none) else none) else e0 v402.1
noncomputable abbrev B0 (_:Nat):=b0
noncomputable def q0 (a1:Arg) (z608:Int):Option Out:=some (z608,())
noncomputable abbrev Q0 (_:Nat):=q0
noncomputable def s0 (k:Nat) (a1:Arg):(Int×Int)->Option Out:=fun v402=>D.L k [1,0,1,0,0] [0,1,5] [] (blockC 0 (seqC (D.N k [1,1]) D.K0)) (T0 a1 v402)
noncomputable def r0 (k:Nat) (a1:Arg):(Int×Int)->Option Out:=rawIter (fun w v=>B0 k w (Q0 k a1) a1 v) k
theorem s0_eq (k:Nat) (a1:Arg):s0 k a1=r0 k a1:=
 funext fun v402=>iter_raw _ _ _ (T0 a1) _ (fun rec v=>by kernel_rfl) k v402
noncomputable def p (l0:(Int×Int)->Option Out) (a1:Arg):Option Out:=l0 (a1.2.1,(0:Int))
theorem raw_eq (k:Nat) (a1:Arg):@Eq (Option Out) (D.W k a1) (p (r0 k a1) a1):=
 Eq.trans (b:=p (s0 k a1) a1) (by kernel_rfl) (by rw[s0_eq])
theorem ok:Ok prog 256 D.sig:=fd_ok func256 tlOk (by kernel_rfl) (fc laws_markText.ok (fn_nil _))
end laws_heldRowS
namespace laws_heldInt64S
abbrev Arg:Type:=(List Int)×Int×Unit
abbrev Out:Type:=Int×Unit
abbrev ps:PQ:=[(.ro,(.slc i64)),(.ro,i64)]
noncomputable def D:FD:={ fn:=f126,tl:=TL0,ps:=ps,rs:=[(i64,(roMd i64))],lv:=[(2,[0,1,5])],lx:=[(0,[1])] }
noncomputable def sem (a:Arg):Option Out:=@lift Out fun k=>D.W k a
noncomputable def T0 (a1:Arg) (v402:Int×Int):St:={ n:=21,sl:=[(0,.val (.slc i64) a1.1),(1,.val i64 v402.1),(5,.val i64 v402.2)],vr:=[],lent:=[] }
noncomputable def b0 (self:(Int×Int)->Option Out) (e0:Int->Option Out) (a1:Arg) (v402:Int×Int):Option Out:=bif decide (v402.2 < (a1.1.length:Int)) then (if 0<=v402.2 then ((a1.1[v402.2.toNat]?).bind fun x603=>bif !decide (x603=v402.1) then (some ((-1:Int),())) else self (w64 (v402.1+(1:Int)),w64 (v402.2+(1:Int)))) else none) else e0 v402.1
noncomputable abbrev B0 (_:Nat):=b0
noncomputable def q0 (a1:Arg) (z604:Int):Option Out:=some (z604,())
noncomputable abbrev Q0 (_:Nat):=q0
noncomputable def s0 (k:Nat) (a1:Arg):(Int×Int)->Option Out:=fun v402=>D.L k [1,0,1,0,0] [0,1,5] [] (blockC 0 (seqC (D.N k [1,1]) D.K0)) (T0 a1 v402)
noncomputable def r0 (k:Nat) (a1:Arg):(Int×Int)->Option Out:=rawIter (fun w v=>B0 k w (Q0 k a1) a1 v) k
theorem s0_eq (k:Nat) (a1:Arg):s0 k a1=r0 k a1:=
 funext fun v402=>iter_raw _ _ _ (T0 a1) _ (fun rec v=>by kernel_rfl) k v402
noncomputable def p (l0:(Int×Int)->Option Out) (a1:Arg):Option Out:=l0 (a1.2.1,(0:Int))
theorem raw_eq (k:Nat) (a1:Arg):@Eq (Option Out) (D.W k a1) (p (r0 k a1) a1):=
 Eq.trans (b:=p (s0 k a1) a1) (by kernel_rfl) (by rw[s0_eq])
theorem ok:Ok prog 126 D.sig:=fd_ok func126 tlOk (by kernel_rfl) (fn_nil _)
end laws_heldInt64S
namespace laws_heldChangeS
abbrev Arg:Type:=(List Change)×Int×Unit
abbrev Out:Type:=Int×Unit
abbrev ps:PQ:=[(.ro,(.slc tChange)),(.ro,i64)]
noncomputable def D:FD:={ fn:=f147,tl:=TL0,ps:=ps,rs:=[(i64,(roMd i64))],gl:=[(124,laws_markText.D.sig)],lv:=[(2,[0,1,5])],lx:=[(0,[1])],od:=[(16,[0,1,2,3,4,5,6,7,8]),(31,[0,1,2,3,4,5,6,7,8])] }
noncomputable def sem (a:Arg):Option Out:=@lift Out fun k=>D.W k a
noncomputable def T0 (a1:Arg) (v402:Int×Int):St:={ n:=117,sl:=[(0,.val (.slc tChange) a1.1),(1,.val i64 v402.1),(5,.val i64 v402.2)],vr:=[],lent:=[] }
noncomputable def b0 (self:(Int×Int)->Option Out) (e0:Int->Option Out) (a1:Arg) (v402:Int×Int):Option Out:=bif decide (v402.2 < (a1.1.length:Int)) then (if 0<=v402.2 then ((a1.1[v402.2.toNat]?).bind fun x603=>bif !(x603.1 == (decide (v402.1.tmod (3:Int)=(0:Int)))) then (some ((-1:Int),())) else if 0<=v402.2 then ((a1.1[v402.2.toNat]?).bind fun x604=>bif !decide (x604.2.1.1=w64 (v402.1+(1:Int))) then (some ((-1:Int),())) else if 0<=v402.2 then ((a1.1[v402.2.toNat]?).bind fun x605=>bif !decide (x605.2.1.2.1=w64 ((w64 (v402.1+(1:Int)))+(1:Int))) then (some ((-1:Int),())) else if 0<=v402.2 then ((a1.1[v402.2.toNat]?).bind fun x606=>bif !decide (x606.2.1.2.2.1=w64 ((w64 ((w64 (v402.1+(1:Int)))+(1:Int)))+(1:Int))) then (some ((-1:Int),())) else if 0<=v402.2 then ((a1.1[v402.2.toNat]?).bind fun x607=>(laws_markText.sem (w64 ((w64 ((w64 ((w64 (v402.1+(1:Int)))+(1:Int)))+(1:Int)))+(1:Int)),())).bind fun r608=>bif !decide (x607.2.1.2.2.2.1=r608.1) then (some ((-1:Int),())) else if 0<=v402.2 then ((a1.1[v402.2.toNat]?).bind fun x609=>bif !(x609.2.2.1 == (decide ((w64 ((w64 ((w64 ((w64 ((w64 (v402.1+(1:Int)))+(1:Int)))+(1:Int)))+(1:Int)))+(1:Int))).tmod (3:Int)=(0:Int)))) then (some ((-1:Int),())) else if 0<=v402.2 then ((a1.1[v402.2.toNat]?).bind fun x610=>bif !decide (x610.2.2.2.1.1=w64 ((w64 ((w64 ((w64 ((w64 ((w64 (v402.1+(1:Int)))+(1:Int)))+(1:Int)))+(1:Int)))+(1:Int)))+(1:Int))) then (some ((-1:Int),())) else if 0<=v402.2 then ((a1.1[v402.2.toNat]?).bind fun x611=>bif !decide (x611.2.2.2.1.2.1=w64 ((w64 ((w64 ((w64 ((w64 ((w64 ((w64 (v402.1+(1:Int)))+(1:Int)))+(1:Int)))+(1:Int)))+(1:Int)))+(1:Int)))+(1:Int))) then (some ((-1:Int),())) else if 0<=v402.2 then ((a1.1[v402.2.toNat]?).bind fun x612=>bif !decide (x612.2.2.2.1.2.2.1=w64 ((w64 ((w64 ((w64 ((w64 ((w64 ((w64 ((w64 (v402.1+(1:Int)))+(1:Int)))+(1:Int)))+(1:Int)))+(1:Int)))+(1:Int)))+(1:Int)))+(1:Int))) then (some ((-1:Int),())) else if 0<=v402.2 then ((a1.1[v402.2.toNat]?).bind fun x613=>(laws_markText.sem (w64 ((w64 ((w64 ((w64 ((w64 ((w64 ((w64 ((w64 ((w64 (v402.1+(1:Int)))+(1:Int)))+(1:Int)))+(1:Int)))+(1:Int)))+(1:Int)))+(1:Int)))+(1:Int)))+(1:Int)),())).bind fun r614=>bif !decide (x613.2.2.2.1.2.2.2.1=r614.1) then (some ((-1:Int),())) else self (w64 ((w64 ((w64 ((w64 ((w64 ((w64 ((w64 ((w64 ((w64 ((w64 (v402.1+(1:Int)))+(1:Int)))+(1:Int)))+(1:Int)))+(1:Int)))+(1:Int)))+(1:Int)))+(1:Int)))+(1:Int)))+(1:Int)),w64 (v402.2+(1:Int)))) else none) else none) else none) else none) else none) else none) else none) else none) else none) else none) else e0 v402.1
noncomputable abbrev B0 (_:Nat):=b0
noncomputable def q0 (a1:Arg) (z615:Int):Option Out:=some (z615,())
noncomputable abbrev Q0 (_:Nat):=q0
noncomputable def s0 (k:Nat) (a1:Arg):(Int×Int)->Option Out:=fun v402=>D.L k [1,0,1,0,0] [0,1,5] [] (blockC 0 (seqC (D.N k [1,1]) D.K0)) (T0 a1 v402)
noncomputable def r0 (k:Nat) (a1:Arg):(Int×Int)->Option Out:=rawIter (fun w v=>B0 k w (Q0 k a1) a1 v) k
theorem s0_eq (k:Nat) (a1:Arg):s0 k a1=r0 k a1:=
 funext fun v402=>iter_raw _ _ _ (T0 a1) _ (fun rec v=>by kernel_rfl) k v402
noncomputable def p (l0:(Int×Int)->Option Out) (a1:Arg):Option Out:=l0 (a1.2.1,(0:Int))
theorem raw_eq (k:Nat) (a1:Arg):@Eq (Option Out) (D.W k a1) (p (r0 k a1) a1):=
 Eq.trans (b:=p (s0 k a1) a1) (by kernel_rfl) (by rw[s0_eq])
theorem ok:Ok prog 147 D.sig:=fd_ok func147 tlOk (by kernel_rfl) (fc laws_markText.ok (fn_nil _))
end laws_heldChangeS
namespace laws_heldKeyS
abbrev Arg:Type:=(List Key)×Int×Unit
abbrev Out:Type:=Int×Unit
abbrev ps:PQ:=[(.ro,(.slc tKey)),(.ro,i64)]
noncomputable def D:FD:={ fn:=f359,tl:=TL0,ps:=ps,rs:=[(i64,(roMd i64))],lv:=[(2,[0,1,5])],lx:=[(0,[1])] }
noncomputable def sem (a:Arg):Option Out:=@lift Out fun k=>D.W k a
noncomputable def T0 (a1:Arg) (v402:Int×Int):St:={ n:=31,sl:=[(0,.val (.slc tKey) a1.1),(1,.val i64 v402.1),(5,.val i64 v402.2)],vr:=[],lent:=[] }
noncomputable def b0 (self:(Int×Int)->Option Out) (e0:Int->Option Out) (a1:Arg) (v402:Int×Int):Option Out:=bif decide (v402.2 < (a1.1.length:Int)) then (if 0<=v402.2 then ((a1.1[v402.2.toNat]?).bind fun x603=>bif !decide (x603.1=v402.1) then (some ((-1:Int),())) else if 0<=v402.2 then ((a1.1[v402.2.toNat]?).bind fun x604=>bif !decide (x604.2.1=w64 (v402.1+(1:Int))) then (some ((-1:Int),())) else self (w64 ((w64 (v402.1+(1:Int)))+(1:Int)),w64 (v402.2+(1:Int)))) else none) else none) else e0 v402.1
noncomputable abbrev B0 (_:Nat):=b0
noncomputable def q0 (a1:Arg) (z605:Int):Option Out:=some (z605,())
noncomputable abbrev Q0 (_:Nat):=q0
noncomputable def s0 (k:Nat) (a1:Arg):(Int×Int)->Option Out:=fun v402=>D.L k [1,0,1,0,0] [0,1,5] [] (blockC 0 (seqC (D.N k [1,1]) D.K0)) (T0 a1 v402)
noncomputable def r0 (k:Nat) (a1:Arg):(Int×Int)->Option Out:=rawIter (fun w v=>B0 k w (Q0 k a1) a1 v) k
theorem s0_eq (k:Nat) (a1:Arg):s0 k a1=r0 k a1:=
 funext fun v402=>iter_raw _ _ _ (T0 a1) _ (fun rec v=>by kernel_rfl) k v402
noncomputable def p (l0:(Int×Int)->Option Out) (a1:Arg):Option Out:=l0 (a1.2.1,(0:Int))
theorem raw_eq (k:Nat) (a1:Arg):@Eq (Option Out) (D.W k a1) (p (r0 k a1) a1):=
 Eq.trans (b:=p (s0 k a1) a1) (by kernel_rfl) (by rw[s0_eq])
theorem ok:Ok prog 359 D.sig:=fd_ok func359 tlOk (by kernel_rfl) (fn_nil _)
end laws_heldKeyS
namespace laws_heldTxS
abbrev Arg:Type:=(List Tx)×Int×Unit
abbrev Out:Type:=Int×Unit
abbrev ps:PQ:=[(.ro,(.slc tTx)),(.ro,i64)]
noncomputable def D:FD:={ fn:=f257,tl:=TL0,ps:=ps,rs:=[(i64,(roMd i64))],gl:=[(126,laws_heldInt64S.D.sig),(147,laws_heldChangeS.D.sig),(359,laws_heldKeyS.D.sig)],lv:=[(2,[0,1,5])],lx:=[(0,[1])] }
noncomputable def sem (a:Arg):Option Out:=@lift Out fun k=>D.W k a
noncomputable def T0 (a1:Arg) (v402:Int×Int):St:={ n:=49,sl:=[(0,.val (.slc tTx) a1.1),(1,.val i64 v402.1),(5,.val i64 v402.2)],vr:=[],lent:=[] }
noncomputable def b0 (self:(Int×Int)->Option Out) (e0:Int->Option Out) (a1:Arg) (v402:Int×Int):Option Out:=bif decide (v402.2 < (a1.1.length:Int)) then (if 0<=v402.2 then ((a1.1[v402.2.toNat]?).bind fun x603=>bif !decide (x603.1=v402.1) then (some ((-1:Int),())) else if 0<=v402.2 then ((a1.1[v402.2.toNat]?).bind fun x604=>(laws_heldChangeS.sem (x604.2.1,w64 (v402.1+(1:Int)),())).bind fun r605=>bif decide (r605.1 < (0:Int)) then (some ((-1:Int),())) else if 0<=v402.2 then ((a1.1[v402.2.toNat]?).bind fun x606=>(laws_heldInt64S.sem (x606.2.2.1,r605.1,())).bind fun r607=>bif decide (r607.1 < (0:Int)) then (some ((-1:Int),())) else if 0<=v402.2 then ((a1.1[v402.2.toNat]?).bind fun x608=>(laws_heldKeyS.sem (x608.2.2.2.1,r607.1,())).bind fun r609=>bif decide (r609.1 < (0:Int)) then (some ((-1:Int),())) else self (r609.1,w64 (v402.2+(1:Int)))) else none) else none) else none) else none) else e0 v402.1
noncomputable abbrev B0 (_:Nat):=b0
noncomputable def q0 (a1:Arg) (z610:Int):Option Out:=some (z610,())
noncomputable abbrev Q0 (_:Nat):=q0
noncomputable def s0 (k:Nat) (a1:Arg):(Int×Int)->Option Out:=fun v402=>D.L k [1,0,1,0,0] [0,1,5] [] (blockC 0 (seqC (D.N k [1,1]) D.K0)) (T0 a1 v402)
noncomputable def r0 (k:Nat) (a1:Arg):(Int×Int)->Option Out:=rawIter (fun w v=>B0 k w (Q0 k a1) a1 v) k
theorem s0_eq (k:Nat) (a1:Arg):s0 k a1=r0 k a1:=
 funext fun v402=>iter_raw _ _ _ (T0 a1) _ (fun rec v=>by kernel_rfl) k v402
noncomputable def p (l0:(Int×Int)->Option Out) (a1:Arg):Option Out:=l0 (a1.2.1,(0:Int))
theorem raw_eq (k:Nat) (a1:Arg):@Eq (Option Out) (D.W k a1) (p (r0 k a1) a1):=
 Eq.trans (b:=p (s0 k a1) a1) (by kernel_rfl) (by rw[s0_eq])
theorem ok:Ok prog 257 D.sig:=fd_ok func257 tlOk (by kernel_rfl) (fc laws_heldInt64S.ok (fc laws_heldChangeS.ok (fc laws_heldKeyS.ok (fn_nil _))))
end laws_heldTxS
namespace laws_heldPlain
abbrev Arg:Type:=Plain×Int×Unit
abbrev Out:Type:=Int×Unit
abbrev ps:PQ:=[(.ro,tPlain),(.ro,i64)]
noncomputable def D:FD:={ fn:=f121,tl:=TL0,ps:=ps,rs:=[(i64,(roMd i64))],gl:=[(256,laws_heldRowS.D.sig),(257,laws_heldTxS.D.sig)] }
noncomputable def sem (a:Arg):Option Out:=@lift Out fun k=>D.W k a
noncomputable def p (a1:Arg):Option Out:=(laws_heldRowS.sem (a1.1.1,a1.2.1,())).bind fun r2=>bif decide (r2.1 < (0:Int)) then (some ((-1:Int),())) else (laws_heldTxS.sem (a1.1.2.1,r2.1,())).bind fun r3=>bif decide (r3.1 < (0:Int)) then (some ((-1:Int),())) else some (r3.1,())
theorem raw_eq (k:Nat) (a1:Arg):@Eq (Option Out) (D.W k a1) (p a1):=by kernel_rfl
theorem ok:Ok prog 121 D.sig:=fd_ok func121 tlOk (by kernel_rfl) (fc laws_heldRowS.ok (fc laws_heldTxS.ok (fn_nil _)))
end laws_heldPlain
namespace laws_szOpS
abbrev Arg:Type:=(List Op)×Int×Unit
abbrev Out:Type:=Int×Unit
abbrev ps:PQ:=[(.ro,(.slc tOp)),(.ro,i64)]
noncomputable def D:FD:={ fn:=f26,tl:=TL0,ps:=ps,rs:=[(i64,(roMd i64))],gl:=[(16,laws_szOp.D.sig)],lv:=[(5,[0,1,5])],lx:=[(0,[1])] }
noncomputable def sem (a:Arg):Option Out:=@lift Out fun k=>D.W k a
noncomputable def T0 (a1:Arg) (v402:Int×Int):St:={ n:=27,sl:=[(0,.val (.slc tOp) a1.1),(1,.val i64 v402.1),(5,.val i64 v402.2)],vr:=[],lent:=[] }
noncomputable def b0 (self:(Int×Int)->Option Out) (e0:Int->Option Out) (a1:Arg) (v402:Int×Int):Option Out:=bif decide (v402.2 < (a1.1.length:Int)) then (if 0<=v402.2 then ((a1.1[v402.2.toNat]?).bind fun x603=>(laws_szOp.sem (x603,v402.1,())).bind fun r604=>bif decide (r604.1 < (0:Int)) then (some ((-1:Int),())) else self (r604.1,w64 (v402.2+(1:Int)))) else none) else e0 v402.1
noncomputable abbrev B0 (_:Nat):=b0
noncomputable def q0 (a1:Arg) (z605:Int):Option Out:=some (z605,())
noncomputable abbrev Q0 (_:Nat):=q0
noncomputable def s0 (k:Nat) (a1:Arg):(Int×Int)->Option Out:=fun v402=>D.L k [1,1,1,0,1,0,0] [0,1,5] [] (blockC 0 (seqC (D.N k [1,1,1,1]) D.K0)) (T0 a1 v402)
noncomputable def r0 (k:Nat) (a1:Arg):(Int×Int)->Option Out:=rawIter (fun w v=>B0 k w (Q0 k a1) a1 v) k
theorem s0_eq (k:Nat) (a1:Arg):s0 k a1=r0 k a1:=
 funext fun v402=>iter_raw _ _ _ (T0 a1) _ (fun rec v=>by kernel_rfl) k v402
noncomputable def p (l0:(Int×Int)->Option Out) (a1:Arg):Option Out:=bif decide (w64 (a1.2.1 - (a1.1.length:Int)) < (0:Int)) then (some ((-1:Int),())) else l0 (w64 (a1.2.1 - (a1.1.length:Int)),(0:Int))
theorem raw_eq (k:Nat) (a1:Arg):@Eq (Option Out) (D.W k a1) (p (r0 k a1) a1):=
 Eq.trans (b:=p (s0 k a1) a1) (by kernel_rfl) (by rw[s0_eq])
theorem ok:Ok prog 26 D.sig:=fd_ok func26 tlOk (by kernel_rfl) (fc laws_szOp.ok (fn_nil _))
end laws_szOpS
namespace spec_RunPlain
abbrev Arg:Type:=(List Op)×Unit
abbrev Out:Type:=RunResult×Unit
abbrev ps:PQ:=[(.ro,(.slc tOp))]
noncomputable def D:FD:={ fn:=f27,tl:=TL0,ps:=ps,rs:=[(tRunResult,(.pair (roMd i64) (.pair (ownMd (.slc i64)) (.pair (ownMd (.slc i64)) (roMd (tupT [tPlain]))))))],gl:=[(17,spec_DoPlain.D.sig)],fz:=[(7,1,7)],lv:=[(5,[0,2,3,4])],lx:=[(0,[2,3])],lf:=[(5,[(3,(.pair .leaf (.pair (.slc true .leaf) (.pair (.slc true .leaf) (.pair (.pair (.slc false (.pair .leaf (.pair .leaf (.pair .leaf (.pair .leaf .leaf))))) (.pair (.slc false (.pair .leaf (.pair (.slc false (.pair .leaf (.pair (.pair .leaf (.pair .leaf (.pair .leaf (.pair .leaf .leaf)))) (.pair .leaf (.pair (.pair .leaf (.pair .leaf (.pair .leaf (.pair .leaf .leaf)))) .leaf))))) (.pair (.slc false .leaf) (.pair (.slc false (.pair .leaf (.pair .leaf .leaf))) .leaf))))) (.pair .leaf .leaf))) .leaf)))))])],od:=[(7,[0,1,2,3,4,5,6,7,8])],ar:=[(7,[5])],pd:=[(7,[7])],er:=[(7,[(1,9)])] }
noncomputable def sem (a:Arg):Option Out:=@lift Out fun k=>D.W k a
noncomputable def T0 (a1:Arg) (v402:RunResult×Int):St:={ n:=46,sl:=[(0,.val (.slc tOp) a1.1),(2,.box tRunResult (ownMd tRunResult) [] ((0:Int),([]:List Int),([]:List Int),(([]:List Row),([]:List Tx),(0:Int),()),())),(3,.box tRunResult (.pair (roMd i64) (.pair (ownMd (.slc i64)) (.pair (ownMd (.slc i64)) (roMd (tupT [tPlain]))))) [] v402.1),(4,.val i64 v402.2)],vr:=[],lent:=[] }
noncomputable def b0 (self:(RunResult×Int)->Option Out) (e0:RunResult->Option Out) (a1:Arg) (v402:RunResult×Int):Option Out:=bif decide (v402.2 < (a1.1.length:Int)) then (if 0<=v402.2 then ((a1.1[v402.2.toNat]?).bind fun x603=>(spec_DoPlain.sem (v402.1.2.2.2.1,x603,())).bind fun r604=>if v402.1.2.1.length+[r604.1.1].length<=CAP then (if v402.1.2.2.1.length+[r604.1.2.1].length<=CAP then (bif decide (r604.1.1=(0:Int)) then (self ((v402.1.1,v402.1.2.1++[r604.1.1],v402.1.2.2.1++[r604.1.2.1],r604.1.2.2.1,v402.1.2.2.2.2),w64 (v402.2+(1:Int)))) else self ((v402.1.1,v402.1.2.1++[r604.1.1],v402.1.2.2.1++[r604.1.2.1],v402.1.2.2.2),w64 (v402.2+(1:Int)))) else none) else none) else none) else e0 v402.1
noncomputable abbrev B0 (_:Nat):=b0
noncomputable def q0 (a1:Arg) (z605:RunResult):Option Out:=some (z605,())
noncomputable abbrev Q0 (_:Nat):=q0
noncomputable def s0 (k:Nat) (a1:Arg):(RunResult×Int)->Option Out:=fun v402=>D.L k [1,1,1,0,1,0,0] [0,2,3,4] [(3,(.pair .leaf (.pair (.slc true .leaf) (.pair (.slc true .leaf) (.pair (.pair (.slc false (.pair .leaf (.pair .leaf (.pair .leaf (.pair .leaf .leaf))))) (.pair (.slc false (.pair .leaf (.pair (.slc false (.pair .leaf (.pair (.pair .leaf (.pair .leaf (.pair .leaf (.pair .leaf .leaf)))) (.pair .leaf (.pair (.pair .leaf (.pair .leaf (.pair .leaf (.pair .leaf .leaf)))) .leaf))))) (.pair (.slc false .leaf) (.pair (.slc false (.pair .leaf (.pair .leaf .leaf))) .leaf))))) (.pair .leaf .leaf))) .leaf)))))] (blockC 0 (seqC (D.N k [1,1,1,1]) D.K0)) (T0 a1 v402)
noncomputable def r0 (k:Nat) (a1:Arg):(RunResult×Int)->Option Out:=rawIter (fun w v=>B0 k w (Q0 k a1) a1 v) k
theorem s0_eq (k:Nat) (a1:Arg):s0 k a1=r0 k a1:=
 funext fun v402=>iter_raw _ _ _ (T0 a1) _ (fun rec v=>by kernel_rfl) k v402
noncomputable def p (l0:(RunResult×Int)->Option Out) (a1:Arg):Option Out:=bif decide ((60:Int) < (a1.1.length:Int)) then (some (((2:Int),([]:List Int),([]:List Int),(([]:List Row),([]:List Tx),(0:Int),()),()),())) else l0 (((0:Int),([]:List Int),([]:List Int),(([]:List Row),([]:List Tx),(1:Int),()),()),(0:Int))
theorem raw_eq (k:Nat) (a1:Arg):@Eq (Option Out) (D.W k a1) (p (r0 k a1) a1):=
 Eq.trans (b:=p (s0 k a1) a1) (by kernel_rfl) (by rw[s0_eq])
theorem ok:Ok prog 27 D.sig:=fd_ok func27 tlOk (by kernel_rfl) (fc spec_DoPlain.ok (fn_nil _))
end spec_RunPlain
namespace laws_toOpS
abbrev Arg:Type:=(List Op)×Unit
abbrev Out:Type:=(List Op)×Unit
abbrev ps:PQ:=[(.ro,(.slc tOp))]
noncomputable def D:FD:={ fn:=f28,tl:=TL0,ps:=ps,rs:=[((.slc tOp),(ownMd (.slc tOp)))],gl:=[(19,laws_toOp.D.sig)],lv:=[(3,[0,3,4])],lx:=[(0,[3])] }
noncomputable def sem (a:Arg):Option Out:=@lift Out fun k=>D.W k a
noncomputable def T0 (a1:Arg) (v402:(List Op)×Int):St:={ n:=23,sl:=[(0,.val (.slc tOp) a1.1),(3,.own (.slc tOp) (ownMd (.slc tOp)) [] v402.1),(4,.val i64 v402.2)],vr:=[],lent:=[] }
noncomputable def b0 (self:((List Op)×Int)->Option Out) (e0:(List Op)->Option Out) (a1:Arg) (v402:(List Op)×Int):Option Out:=bif decide (v402.2 < (a1.1.length:Int)) then (if 0<=v402.2 then ((a1.1[v402.2.toNat]?).bind fun x603=>(laws_toOp.sem (x603,())).bind fun r604=>if 0<=v402.2/\v402.2 < (v402.1.length:Int) then ((v402.1[v402.2.toNat]?).bind fun x605=>self (v402.1.set v402.2.toNat r604.1,w64 (v402.2+(1:Int)))) else none) else none) else e0 v402.1
noncomputable abbrev B0 (_:Nat):=b0
noncomputable def q0 (a1:Arg) (z606:(List Op)):Option Out:=some (z606,())
noncomputable abbrev Q0 (_:Nat):=q0
noncomputable def s0 (k:Nat) (a1:Arg):((List Op)×Int)->Option Out:=fun v402=>D.L k [1,1,0,1,0,0] [0,3,4] [] (blockC 0 (seqC (D.N k [1,1,1]) D.K0)) (T0 a1 v402)
noncomputable def r0 (k:Nat) (a1:Arg):((List Op)×Int)->Option Out:=rawIter (fun w v=>B0 k w (Q0 k a1) a1 v) k
theorem s0_eq (k:Nat) (a1:Arg):s0 k a1=r0 k a1:=
 funext fun v402=>iter_raw _ _ _ (T0 a1) _ (fun rec v=>by kernel_rfl) k v402
noncomputable def p (l0:((List Op)×Int)->Option Out) (a1:Arg):Option Out:=if 0<=(a1.1.length:Int)/\(a1.1.length:Int)<=(a1.1.length:Int)/\(a1.1.length:Int)<=(CAP:Int) then (l0 (List.replicate (a1.1.length:Int).toNat ((0:Int),(0:Int),((0:Int),(0:Int),(0:Int),([]:List UInt8),()),(0:Int),()),(0:Int))) else none
theorem raw_eq (k:Nat) (a1:Arg):@Eq (Option Out) (D.W k a1) (p (r0 k a1) a1):=
 Eq.trans (b:=p (s0 k a1) a1) (by kernel_rfl) (by rw[s0_eq])
theorem ok:Ok prog 28 D.sig:=fd_ok func28 tlOk (by kernel_rfl) (fc laws_toOp.ok (fn_nil _))
end laws_toOpS
namespace impl_RunPlain
abbrev Arg:Type:=(List Op)×Unit
abbrev Out:Type:=RunResult×Unit
abbrev ps:PQ:=[(.ro,(.slc tOp))]
noncomputable def D:FD:={ fn:=f29,tl:=TL0,ps:=ps,rs:=[(tRunResult,(ownMd tRunResult))],gl:=[(20,impl_DoPlain.D.sig)],lv:=[(5,[2,3,13,14,15])],lx:=[(0,[2,3])] }
noncomputable def sem (a:Arg):Option Out:=@lift Out fun k=>D.W k a
noncomputable def T0 (a1:Arg) (v402:RunResult×Int):St:={ n:=45,sl:=[(2,.box tRunResult (ownMd tRunResult) [] ((0:Int),([]:List Int),([]:List Int),(([]:List Row),([]:List Tx),(0:Int),()),())),(3,.box tRunResult (ownMd tRunResult) [] v402.1),(13,.val (.slc tOp) a1.1),(14,.val i64 (a1.1.length:Int)),(15,.val i64 v402.2)],vr:=[],lent:=[] }
noncomputable def b0 (self:(RunResult×Int)->Option Out) (e0:RunResult->Option Out) (a1:Arg) (v402:RunResult×Int):Option Out:=bif decide (v402.2 < (a1.1.length:Int)) then (if 0<=v402.2 then ((a1.1[v402.2.toNat]?).bind fun x603=>(impl_DoPlain.sem (v402.1.2.2.2.1,x603,())).bind fun r604=>bif decide (r604.1.1=(0:Int)) then (if v402.1.2.1.length+[r604.1.1].length<=CAP then (if v402.1.2.2.1.length+[r604.1.2.1].length<=CAP then (self ((v402.1.1,v402.1.2.1++[r604.1.1],v402.1.2.2.1++[r604.1.2.1],r604.1.2.2.1,v402.1.2.2.2.2),w64 (v402.2+(1:Int)))) else none) else none) else if v402.1.2.1.length+[r604.1.1].length<=CAP then (if v402.1.2.2.1.length+[r604.1.2.1].length<=CAP then (self ((v402.1.1,v402.1.2.1++[r604.1.1],v402.1.2.2.1++[r604.1.2.1],v402.1.2.2.2),w64 (v402.2+(1:Int)))) else none) else none) else none) else e0 v402.1
noncomputable abbrev B0 (_:Nat):=b0
noncomputable def q0 (a1:Arg) (z605:RunResult):Option Out:=some (z605,())
noncomputable abbrev Q0 (_:Nat):=q0
noncomputable def s0 (k:Nat) (a1:Arg):(RunResult×Int)->Option Out:=fun v402=>D.L k [1,1,1,0,1,0,0] [2,3,13,14,15] [] (blockC 0 (seqC (D.N k [1,1,1,1]) D.K0)) (T0 a1 v402)
noncomputable def r0 (k:Nat) (a1:Arg):(RunResult×Int)->Option Out:=rawIter (fun w v=>B0 k w (Q0 k a1) a1 v) k
theorem s0_eq (k:Nat) (a1:Arg):s0 k a1=r0 k a1:=
 funext fun v402=>iter_raw _ _ _ (T0 a1) _ (fun rec v=>by kernel_rfl) k v402
noncomputable def p (l0:(RunResult×Int)->Option Out) (a1:Arg):Option Out:=bif decide ((60:Int) < (a1.1.length:Int)) then (some (((2:Int),([]:List Int),([]:List Int),(([]:List Row),([]:List Tx),(0:Int),()),()),())) else l0 (((0:Int),([]:List Int),([]:List Int),(([]:List Row),([]:List Tx),(1:Int),()),()),(0:Int))
theorem raw_eq (k:Nat) (a1:Arg):@Eq (Option Out) (D.W k a1) (p (r0 k a1) a1):=
 Eq.trans (b:=p (s0 k a1) a1) (by kernel_rfl) (by rw[s0_eq])
theorem ok:Ok prog 29 D.sig:=fd_ok func29 tlOk (by kernel_rfl) (fc impl_DoPlain.ok (fn_nil _))
end impl_RunPlain
namespace laws_eqRunResult
abbrev Arg:Type:=RunResult×RunResult×Unit
abbrev Out:Type:=Bool×Unit
abbrev ps:PQ:=[(.ro,tRunResult),(.ro,tRunResult)]
noncomputable def D:FD:={ fn:=f30,tl:=TL0,ps:=ps,rs:=[(.bool,(roMd .bool))],gl:=[(22,laws_eqPlain.D.sig),(122,laws_eqInt64S.D.sig)] }
noncomputable def sem (a:Arg):Option Out:=@lift Out fun k=>D.W k a
noncomputable def p (a1:Arg):Option Out:=bif !decide (a1.1.1=a1.2.1.1) then (some (false,())) else (laws_eqInt64S.sem (a1.1.2.1,a1.2.1.2.1,())).bind fun r2=>bif !r2.1 then (some (false,())) else (laws_eqInt64S.sem (a1.1.2.2.1,a1.2.1.2.2.1,())).bind fun r3=>bif !r3.1 then (some (false,())) else (laws_eqPlain.sem (a1.1.2.2.2.1,a1.2.1.2.2.2.1,())).bind fun r4=>bif !r4.1 then (some (false,())) else some (true,())
theorem raw_eq (k:Nat) (a1:Arg):@Eq (Option Out) (D.W k a1) (p a1):=by kernel_rfl
theorem ok:Ok prog 30 D.sig:=fd_ok func30 tlOk (by kernel_rfl) (fc laws_eqPlain.ok (fc laws_eqInt64S.ok (fn_nil _)))
end laws_eqRunResult
namespace laws_eqOp
abbrev Arg:Type:=Op×Op×Unit
abbrev Out:Type:=Bool×Unit
abbrev ps:PQ:=[(.ro,tOp),(.ro,tOp)]
noncomputable def D:FD:={ fn:=f123,tl:=TL0,ps:=ps,rs:=[(.bool,(roMd .bool))],gl:=[(253,laws_eqRow.D.sig)] }
noncomputable def sem (a:Arg):Option Out:=@lift Out fun k=>D.W k a
noncomputable def p (a1:Arg):Option Out:=bif !decide (a1.1.1=a1.2.1.1) then (some (false,())) else bif !decide (a1.1.2.1=a1.2.1.2.1) then (some (false,())) else (laws_eqRow.sem (a1.1.2.2.1,a1.2.1.2.2.1,())).bind fun r2=>bif !r2.1 then (some (false,())) else bif !decide (a1.1.2.2.2.1=a1.2.1.2.2.2.1) then (some (false,())) else some (true,())
theorem raw_eq (k:Nat) (a1:Arg):@Eq (Option Out) (D.W k a1) (p a1):=by kernel_rfl
theorem ok:Ok prog 123 D.sig:=fd_ok func123 tlOk (by kernel_rfl) (fc laws_eqRow.ok (fn_nil _))
end laws_eqOp
namespace laws_eqOpS
abbrev Arg:Type:=(List Op)×(List Op)×Unit
abbrev Out:Type:=Bool×Unit
abbrev ps:PQ:=[(.ro,(.slc tOp)),(.ro,(.slc tOp))]
noncomputable def D:FD:={ fn:=f31,tl:=TL0,ps:=ps,rs:=[(.bool,(roMd .bool))],gl:=[(123,laws_eqOp.D.sig)],lv:=[(4,[0,1,5])],lx:=[(0,[])],od:=[(6,[0,1,2,3,4,5,6,7,8,9])] }
noncomputable def sem (a:Arg):Option Out:=@lift Out fun k=>D.W k a
noncomputable def T0 (a1:Arg) (v402:Int):St:={ n:=27,sl:=[(0,.val (.slc tOp) a1.1),(1,.val (.slc tOp) a1.2.1),(5,.val i64 v402)],vr:=[],lent:=[] }
noncomputable def b0 (self:Int->Option Out) (e0:(Unit)->Option Out) (a1:Arg) (v402:Int):Option Out:=bif decide (v402 < (a1.1.length:Int)) then (if 0<=v402 then ((a1.1[v402.toNat]?).bind fun x603=>if 0<=v402 then ((a1.2.1[v402.toNat]?).bind fun x604=>(laws_eqOp.sem (x603,x604,())).bind fun r605=>bif !r605.1 then (some (false,())) else self (w64 (v402+(1:Int)))) else none) else none) else e0 ()
noncomputable abbrev B0 (_:Nat):=b0
noncomputable def q0 (a1:Arg) (z606:(Unit)):Option Out:=some (true,())
noncomputable abbrev Q0 (_:Nat):=q0
noncomputable def s0 (k:Nat) (a1:Arg):(Int)->Option Out:=fun v402=>D.L k [1,1,0,1,0,0] [0,1,5] [] (blockC 0 (seqC (D.N k [1,1,1]) D.K0)) (T0 a1 v402)
noncomputable def r0 (k:Nat) (a1:Arg):(Int)->Option Out:=rawIter (fun w v=>B0 k w (Q0 k a1) a1 v) k
theorem s0_eq (k:Nat) (a1:Arg):s0 k a1=r0 k a1:=
 funext fun v402=>iter_raw _ _ _ (T0 a1) _ (fun rec v=>by kernel_rfl) k v402
noncomputable def p (l0:(Int)->Option Out) (a1:Arg):Option Out:=bif !decide ((a1.1.length:Int)=(a1.2.1.length:Int)) then (some (false,())) else l0 (0:Int)
theorem raw_eq (k:Nat) (a1:Arg):@Eq (Option Out) (D.W k a1) (p (r0 k a1) a1):=
 Eq.trans (b:=p (s0 k a1) a1) (by kernel_rfl) (by rw[s0_eq])
theorem ok:Ok prog 31 D.sig:=fd_ok func31 tlOk (by kernel_rfl) (fc laws_eqOp.ok (fn_nil _))
end laws_eqOpS
namespace laws_markOpS
abbrev Arg:Type:=(List Op)×Int×Unit
abbrev Out:Type:=Int×(List Op)×Unit
abbrev ps:PQ:=[(.muts (ownMd (.slc tOp)),(.slc tOp)),(.ro,i64)]
noncomputable def D:FD:={ fn:=f32,tl:=TL0,ps:=ps,rs:=[(i64,(roMd i64))],gl:=[(124,laws_markText.D.sig)],es:=[0],lv:=[(2,[0,1,5])],lx:=[(0,[0,1])] }
noncomputable def sem (a:Arg):Option Out:=@lift Out fun k=>D.W k a
noncomputable def T0 (a1:Arg) (v402:(List Op)×Int×Int):St:={ n:=67,sl:=[(0,.own (.slc tOp) (ownMd (.slc tOp)) [] v402.1),(1,.val i64 v402.2.1),(5,.val i64 v402.2.2)],vr:=[],lent:=[(0,0,true)] }
noncomputable def b0 (self:((List Op)×Int×Int)->Option Out) (e0:((List Op)×Int)->Option Out) (a1:Arg) (v402:(List Op)×Int×Int):Option Out:=bif decide (v402.2.2 < (v402.1.length:Int)) then (if 0<=v402.2.2/\v402.2.2 < (v402.1.length:Int) then ((v402.1[v402.2.2.toNat]?).bind fun x603=>let y604:=v402.1.set v402.2.2.toNat (v402.2.1,x603.2);if 0<=v402.2.2/\v402.2.2 < (y604.length:Int) then ((y604[v402.2.2.toNat]?).bind fun x605=>let y606:=y604.set v402.2.2.toNat (x605.1,w64 (v402.2.1+(1:Int)),x605.2.2);if 0<=v402.2.2/\v402.2.2 < (y606.length:Int) then ((y606[v402.2.2.toNat]?).bind fun x607=>let y608:=y606.set v402.2.2.toNat (x607.1,x607.2.1,(w64 ((w64 (v402.2.1+(1:Int)))+(1:Int)),x607.2.2.1.2),x607.2.2.2);if 0<=v402.2.2/\v402.2.2 < (y608.length:Int) then ((y608[v402.2.2.toNat]?).bind fun x609=>let y610:=y608.set v402.2.2.toNat (x609.1,x609.2.1,(x609.2.2.1.1,w64 ((w64 ((w64 (v402.2.1+(1:Int)))+(1:Int)))+(1:Int)),x609.2.2.1.2.2),x609.2.2.2);if 0<=v402.2.2/\v402.2.2 < (y610.length:Int) then ((y610[v402.2.2.toNat]?).bind fun x611=>let y612:=y610.set v402.2.2.toNat (x611.1,x611.2.1,(x611.2.2.1.1,x611.2.2.1.2.1,w64 ((w64 ((w64 ((w64 (v402.2.1+(1:Int)))+(1:Int)))+(1:Int)))+(1:Int)),x611.2.2.1.2.2.2),x611.2.2.2);(laws_markText.sem (w64 ((w64 ((w64 ((w64 ((w64 (v402.2.1+(1:Int)))+(1:Int)))+(1:Int)))+(1:Int)))+(1:Int)),())).bind fun r613=>if 0<=v402.2.2/\v402.2.2 < (y612.length:Int) then ((y612[v402.2.2.toNat]?).bind fun x614=>let y615:=y612.set v402.2.2.toNat (x614.1,x614.2.1,(x614.2.2.1.1,x614.2.2.1.2.1,x614.2.2.1.2.2.1,r613.1,x614.2.2.1.2.2.2.2),x614.2.2.2);if 0<=v402.2.2/\v402.2.2 < (y615.length:Int) then ((y615[v402.2.2.toNat]?).bind fun x616=>let y617:=y615.set v402.2.2.toNat (x616.1,x616.2.1,x616.2.2.1,w64 ((w64 ((w64 ((w64 ((w64 ((w64 (v402.2.1+(1:Int)))+(1:Int)))+(1:Int)))+(1:Int)))+(1:Int)))+(1:Int)),x616.2.2.2.2);self (y617,w64 ((w64 ((w64 ((w64 ((w64 ((w64 ((w64 (v402.2.1+(1:Int)))+(1:Int)))+(1:Int)))+(1:Int)))+(1:Int)))+(1:Int)))+(1:Int)),w64 (v402.2.2+(1:Int)))) else none) else none) else none) else none) else none) else none) else none) else e0 (v402.1,v402.2.1)
noncomputable abbrev B0 (_:Nat):=b0
noncomputable def q0 (a1:Arg) (z618:((List Op)×Int)):Option Out:=some (z618.2,z618.1,())
noncomputable abbrev Q0 (_:Nat):=q0
noncomputable def s0 (k:Nat) (a1:Arg):((List Op)×Int×Int)->Option Out:=fun v402=>D.L k [1,0,1,0,0] [0,1,5] [] (blockC 0 (seqC (D.N k [1,1]) D.K0)) (T0 a1 v402)
noncomputable def r0 (k:Nat) (a1:Arg):((List Op)×Int×Int)->Option Out:=rawIter (fun w v=>B0 k w (Q0 k a1) a1 v) k
theorem s0_eq (k:Nat) (a1:Arg):s0 k a1=r0 k a1:=
 funext fun v402=>iter_raw _ _ _ (T0 a1) _ (fun rec v=>by kernel_rfl) k v402
noncomputable def p (l0:((List Op)×Int×Int)->Option Out) (a1:Arg):Option Out:=l0 (a1.1,a1.2.1,(0:Int))
theorem raw_eq (k:Nat) (a1:Arg):@Eq (Option Out) (D.W k a1) (p (r0 k a1) a1):=
 Eq.trans (b:=p (s0 k a1) a1) (by kernel_rfl) (by rw[s0_eq])
theorem ok:Ok prog 32 D.sig:=fd_ok func32 tlOk (by kernel_rfl) (fc laws_markText.ok (fn_nil _))
end laws_markOpS
namespace laws_markRunResult
abbrev Arg:Type:=RunResult×Int×Unit
abbrev Out:Type:=Int×RunResult×Unit
abbrev ps:PQ:=[(.muts (ownMd tRunResult),tRunResult),(.ro,i64)]
noncomputable def D:FD:={ fn:=f33,tl:=TL0,ps:=ps,rs:=[(i64,(roMd i64))],gl:=[(23,laws_markPlain.D.sig),(125,laws_markInt64S.D.sig)],es:=[2] }
noncomputable def sem (a:Arg):Option Out:=@lift Out fun k=>D.W k a
noncomputable def p (a1:Arg):Option Out:=(laws_markInt64S.sem (a1.1.2.1,a1.2.1,())).bind fun r2=>(laws_markInt64S.sem (a1.1.2.2.1,r2.1,())).bind fun r3=>(laws_markPlain.sem (a1.1.2.2.2.1,r3.1,())).bind fun r4=>some (r4.1,(a1.1.1,r2.2.1,r3.2.1,r4.2.1,a1.1.2.2.2.2),())
theorem raw_eq (k:Nat) (a1:Arg):@Eq (Option Out) (D.W k a1) (p a1):=by kernel_rfl
theorem ok:Ok prog 33 D.sig:=fd_ok func33 tlOk (by kernel_rfl) (fc laws_markPlain.ok (fc laws_markInt64S.ok (fn_nil _)))
end laws_markRunResult
namespace laws_heldRunResult
abbrev Arg:Type:=RunResult×Int×Unit
abbrev Out:Type:=Int×Unit
abbrev ps:PQ:=[(.ro,tRunResult),(.ro,i64)]
noncomputable def D:FD:={ fn:=f34,tl:=TL0,ps:=ps,rs:=[(i64,(roMd i64))],gl:=[(121,laws_heldPlain.D.sig),(126,laws_heldInt64S.D.sig)] }
noncomputable def sem (a:Arg):Option Out:=@lift Out fun k=>D.W k a
noncomputable def p (a1:Arg):Option Out:=(laws_heldInt64S.sem (a1.1.2.1,a1.2.1,())).bind fun r2=>bif decide (r2.1 < (0:Int)) then (some ((-1:Int),())) else (laws_heldInt64S.sem (a1.1.2.2.1,r2.1,())).bind fun r3=>bif decide (r3.1 < (0:Int)) then (some ((-1:Int),())) else (laws_heldPlain.sem (a1.1.2.2.2.1,r3.1,())).bind fun r4=>bif decide (r4.1 < (0:Int)) then (some ((-1:Int),())) else some (r4.1,())
theorem raw_eq (k:Nat) (a1:Arg):@Eq (Option Out) (D.W k a1) (p a1):=by kernel_rfl
theorem ok:Ok prog 34 D.sig:=fd_ok func34 tlOk (by kernel_rfl) (fc laws_heldPlain.ok (fc laws_heldInt64S.ok (fn_nil _)))
end laws_heldRunResult
namespace laws_FnExactRunPlain
abbrev Arg:Type:=(List Op)×Unit
abbrev Out:Type:=Bool×Unit
abbrev ps:PQ:=[(.ro,(.slc tOp))]
noncomputable def D:FD:={ fn:=f4,tl:=TL0,ps:=ps,rs:=[(.bool,(roMd .bool))],gl:=[(26,laws_szOpS.D.sig),(27,spec_RunPlain.D.sig),(28,laws_toOpS.D.sig),(29,impl_RunPlain.D.sig),(30,laws_eqRunResult.D.sig),(31,laws_eqOpS.D.sig),(32,laws_markOpS.D.sig),(33,laws_markRunResult.D.sig),(34,laws_heldRunResult.D.sig)] }
noncomputable def sem (a:Arg):Option Out:=@lift Out fun k=>D.W k a
noncomputable def p (a1:Arg):Option Out:=(laws_szOpS.sem (a1.1,(1048576:Int),())).bind fun r2=>bif decide (r2.1 < (0:Int)) then (some (true,())) else (laws_toOpS.sem (a1.1,())).bind fun r3=>(spec_RunPlain.sem (r3.1,())).bind fun r4=>(laws_toOpS.sem (a1.1,())).bind fun r5=>(impl_RunPlain.sem (r5.1,())).bind fun r6=>(laws_eqRunResult.sem (r6.1,r4.1,())).bind fun r7=>bif !r7.1 then (some (false,())) else (laws_toOpS.sem (a1.1,())).bind fun r8=>(laws_eqOpS.sem (r5.1,r8.1,())).bind fun r9=>bif !r9.1 then (some (false,())) else (laws_markOpS.sem (r5.1,(1:Int),())).bind fun r10=>bif decide (r10.1 < (0:Int)) then (some (false,())) else (laws_eqRunResult.sem (r6.1,r4.1,())).bind fun r11=>bif !r11.1 then (some (false,())) else (laws_markRunResult.sem (r6.1,(1:Int),())).bind fun r12=>(laws_heldRunResult.sem (r12.2.1,(1:Int),())).bind fun r13=>bif decide (r13.1 < (0:Int)) then (some (false,())) else bif !decide (r13.1=r12.1) then (some (false,())) else (laws_toOpS.sem (a1.1,())).bind fun r14=>(impl_RunPlain.sem (r14.1,())).bind fun r15=>(laws_eqRunResult.sem (r15.1,r4.1,())).bind fun r16=>bif !r16.1 then (some (false,())) else (laws_heldRunResult.sem (r12.2.1,(1:Int),())).bind fun r17=>bif decide (r17.1 < (0:Int)) then (some (false,())) else bif !decide (r17.1=r12.1) then (some (false,())) else some (true,())
theorem raw_eq (k:Nat) (a1:Arg):@Eq (Option Out) (D.W k a1) (p a1):=by kernel_rfl
theorem ok:Ok prog 4 D.sig:=fd_ok func4 tlOk (by kernel_rfl) (fc laws_szOpS.ok (fc spec_RunPlain.ok (fc laws_toOpS.ok (fc impl_RunPlain.ok (fc laws_eqRunResult.ok (fc laws_eqOpS.ok (fc laws_markOpS.ok (fc laws_markRunResult.ok (fc laws_heldRunResult.ok (fn_nil _))))))))))
end laws_FnExactRunPlain
end OT
set_option linter.unusedVariables false
set_option linter.unusedSimpArgs false
namespace OT
open Go
noncomputable def mtext (n:Int):List UInt8:=((laws_markText.sem (n,())).map (·.1)).getD []
theorem markText_eq (n:Int) (h:n<=9223372036854775807):laws_markText.sem (n,())=some (mtext n,()):=by
 have main:∃ t,laws_markText.sem (n,())=some (t,()):=by
  by_cases hn:n<=0
  ·refine ⟨[109,48],lift_eq (k:=0) fun k _=>(laws_markText.raw_eq k _).trans ?_⟩
   unfold laws_markText.p
   simp only[hn,decide_true,cond_true]
   try rfl
  ·have key:∀ (f:Nat) (m:Int) (out:List UInt8),0<=m->m<=9223372036854775807->m < 10 ^ f->out.length+f<=100->∃ t,t.length<=100/\∀ k,f < k->rawIter (fun self v=>laws_markText.B0 0 self (fun z=>laws_markText.Q0 0 (n,()) z) (n,()) v) k (m,out)=some (109::t,()):=by
    intro f
    induction f with
    | zero=>
     intro m out h0 h9 h1 h2
     have hm:m=0:=by simp at h1;omega
     subst hm
     refine ⟨out,by omega,fun k hk=>?_⟩
     cases k with
     | zero=>omega
     | succ k=>
      rw[rawIter_succ]
      show laws_markText.b0 _ _ _ _=_
      unfold laws_markText.b0 laws_markText.Q0 laws_markText.q0
      have hc:([109]:List UInt8).length+out.length<=CAP:=by simp only[CAP,List.length_cons,List.length_nil];omega
      simp only[show ¬ ((0:Int) < 0) by omega,decide_false,cond_false,hc,if_true]
      rfl
    | succ f ih=>
     intro m out h0 h9 h1 h2
     by_cases hm:0 < m
     ·have hq0:0<=m.tdiv 10:=Int.tdiv_nonneg h0 (by omega)
      have hq:m.tdiv 10 < 10 ^ f:=by
       rw[Int.tdiv_eq_ediv_of_nonneg h0]
       have:(10:Int) ^ (f+1)=10 ^ f*10:=Int.pow_succ 10 f
       omega
      have hd:=Int.emod_nonneg m (b:=10) (by omega)
      have hd2:=Int.emod_lt_of_pos m (b:=10) (by omega)
      obtain ⟨t,t1,t2⟩:=ih (m.tdiv 10) ([UInt8.ofInt (w64 (48+m.tmod 10))]++out) hq0 (by rw[Int.tdiv_eq_ediv_of_nonneg h0];omega) hq (by simp;omega)
      refine ⟨t,t1,fun k hk=>?_⟩
      cases k with
      | zero=>omega
      | succ k=>
       rw[rawIter_succ]
       show laws_markText.b0 _ _ _ _=_
       unfold laws_markText.b0
       have hw:w64 (m.tdiv 10)=m.tdiv 10:=w64_in ⟨by omega,by
        rw[Int.tdiv_eq_ediv_of_nonneg h0]
        omega⟩
       have hc:[UInt8.ofInt (w64 (48+m.tmod 10))].length+out.length<=CAP:=by simp only[CAP,List.length_cons,List.length_nil];omega
       simp only[hm,decide_true,cond_true,hc,if_true,hw]
       exact t2 k (by omega)
     ·have hm:m=0:=by omega
      subst hm
      refine ⟨out,by omega,fun k hk=>?_⟩
      cases k with
      | zero=>omega
      | succ k=>
       rw[rawIter_succ]
       show laws_markText.b0 _ _ _ _=_
       unfold laws_markText.b0 laws_markText.Q0 laws_markText.q0
       have hc:([109]:List UInt8).length+out.length<=CAP:=by simp only[CAP,List.length_cons,List.length_nil];omega
       simp only[show ¬ ((0:Int) < 0) by omega,decide_false,cond_false,hc,if_true]
       rfl
   obtain ⟨t,t1,t2⟩:=key 19 n [] (by omega) h (by omega) (by simp)
   refine ⟨109::t,lift_eq (k:=20) fun k hk=>(laws_markText.raw_eq k _).trans ?_⟩
   unfold laws_markText.p
   simp only[hn,decide_false,cond_false]
   exact t2 k (by omega)
 obtain ⟨t,ht⟩:=main
 rw[ht]
 simp[mtext,ht]
theorem szRow_eq (x:Row) (n:Int) (hx:okD tRow x) (h0:0<=n) (h1:n<=1048576):laws_szRow.sem (x,n,())=some (lft n (zz tRow x),()):=by
 have hz:zz tRow x=(0+(0+(0+(List.length x.2.2.2.1+0)))):=rfl
 refine lift_eq (k:=0) fun k _=>(laws_szRow.raw_eq k _).trans ?_
 show laws_szRow.p _=_
 unfold laws_szRow.p
 have hw:w64 (n - (List.length x.2.2.2.1:Int))=n - (List.length x.2.2.2.1:Int):=w64_in (by have h9:=hx.2.2.2.1;simp only[okD] at h9;rw[maxLen_val] at h9;omega)
 simp only[hw]
 by_cases hc:((List.length x.2.2.2.1:Nat):Int)<=n
 rotate_left
 ·have n1:n - ((List.length x.2.2.2.1:Nat):Int) < 0:=by omega
  have e2:lft n (zz tRow x)=-1:=if_neg (by omega)
  rw[e2];simp only[n1,decide_true,cond_true]
 have n1:¬ (n - ((List.length x.2.2.2.1:Nat):Int) < 0):=by omega
 simp only[n1,decide_false,cond_false]
 clear n1 hw
 have e2:lft n (zz tRow x)=(n - ((List.length x.2.2.2.1:Nat):Int)):=by unfold lft;rw[if_pos (by omega)];omega
 rw[e2]
theorem szOp_eq (x:Op) (n:Int) (hx:okD tOp x) (h0:0<=n) (h1:n<=1048576):laws_szOp.sem (x,n,())=some (lft n (zz tOp x),()):=by
 have hz:zz tOp x=(0+(0+((0+(0+(0+(List.length x.2.2.1.2.2.2.1+0))))+(0+0)))):=rfl
 refine lift_eq (k:=0) fun k _=>(laws_szOp.raw_eq k _).trans ?_
 show laws_szOp.p _=_
 unfold laws_szOp.p
 have hz2:zz tRow x.2.2.1=(0+(0+(0+(List.length x.2.2.1.2.2.2.1+0)))):=rfl
 simp only[szRow_eq x.2.2.1 (n) hx.2.2.1 (by omega) (by omega),Option.bind_some]
 by_cases hc:((zz tRow x.2.2.1:Nat):Int)<=n
 rotate_left
 ·have e1:lft (n) (zz tRow x.2.2.1)=-1:=if_neg hc
  have e2:lft n (zz tOp x)=-1:=if_neg (by omega)
  rw[e1,e2];rfl
 have e1:lft (n) (zz tRow x.2.2.1)=n - ((zz tRow x.2.2.1:Nat):Int):=if_pos hc
 have n1:¬ (n - ((zz tRow x.2.2.1:Nat):Int) < 0):=by omega
 simp only[e1,n1,decide_false,cond_false]
 clear e1 n1
 have e2:lft n (zz tOp x)=(n - ((zz tRow x.2.2.1:Nat):Int)):=by unfold lft;rw[if_pos (by omega)];omega
 rw[e2]
theorem toRow_eq (x:Row) (h:zz tRow x<=1048576):laws_toRow.sem (x,())=some (x,()):=by
 have hz:zz tRow x=(0+(0+(0+(List.length x.2.2.2.1+0)))):=rfl
 refine lift_eq (k:=0) fun k _=>(laws_toRow.raw_eq k _).trans ?_
 show laws_toRow.p _=_
 unfold laws_toRow.p
 rfl
theorem toOp_eq (x:Op) (h:zz tOp x<=1048576):laws_toOp.sem (x,())=some (x,()):=by
 have hz:zz tOp x=(0+(0+((0+(0+(0+(List.length x.2.2.1.2.2.2.1+0))))+(0+0)))):=rfl
 have hz2:zz tRow x.2.2.1=(0+(0+(0+(List.length x.2.2.1.2.2.2.1+0)))):=rfl
 refine lift_eq (k:=0) fun k _=>(laws_toOp.raw_eq k _).trans ?_
 show laws_toOp.p _=_
 unfold laws_toOp.p
 simp only[toRow_eq x.2.2.1 (by omega),Option.bind_some]
theorem eqRow_self (x:Row) (h:zz tRow x<=4611686018427387904):laws_eqRow.sem (x,x,())=some (true,()):=by
 have hz:zz tRow x=(0+(0+(0+(List.length x.2.2.2.1+0)))):=rfl
 refine lift_eq (k:=0) fun k _=>(laws_eqRow.raw_eq k _).trans ?_
 show laws_eqRow.p _=_
 unfold laws_eqRow.p
 simp[]
theorem eqRowS_self (x:List Row) (h:zz (.slc tRow) x<=4611686018427387904):laws_eqRowS.sem (x,x,())=some (true,()):=by
 have hl:x.length<=4611686018427387904:=Nat.le_trans (zz_len (e:=tRow) x) h
 refine lift_eq (k:=x.length+1) fun k hk=>(laws_eqRowS.raw_eq k _).trans ?_
 unfold laws_eqRowS.p
 simp only[decide_true,Bool.not_true,cond_false]
 have:=all_loop (B:=fun self v=>laws_eqRowS.B0 k self (fun z=>laws_eqRowS.Q0 k (x,x,()) z) (x,x,()) v) (xs:=x) (ys:=x) (fun _ _=>true) rfl (by rw[maxLen_val];omega) (fun i hi hj self=>by
   show laws_eqRowS.b0 _ _ _ _=_
   unfold laws_eqRowS.b0
   have hlt:(i:Int) < (x.length:Int):=by omega
   simp only[hlt,decide_true,cond_true,Int.natCast_nonneg,if_true,Int.toNat_natCast,List.getElem?_eq_getElem hi,Option.bind_some,Bool.not_true,cond_false,eqRow_self x[i] (by have:=zz_mem (e:=tRow) (List.getElem_mem hi);omega)]) (fun self=>by
   show laws_eqRowS.b0 _ _ _ _=_
   unfold laws_eqRowS.b0
   simp[laws_eqRowS.Q0,laws_eqRowS.q0]) k (by omega)
 rw[show allB (fun _ _=>true) x x=true by simp[allB]] at this
 exact this
theorem eqInt64S_self (x:List Int) (h:zz (.slc i64) x<=4611686018427387904):laws_eqInt64S.sem (x,x,())=some (true,()):=by
 have hl:x.length<=4611686018427387904:=Nat.le_trans (zz_len (e:=i64) x) h
 refine lift_eq (k:=x.length+1) fun k hk=>(laws_eqInt64S.raw_eq k _).trans ?_
 unfold laws_eqInt64S.p
 simp only[decide_true,Bool.not_true,cond_false]
 have:=all_loop (B:=fun self v=>laws_eqInt64S.B0 k self (fun z=>laws_eqInt64S.Q0 k (x,x,()) z) (x,x,()) v) (xs:=x) (ys:=x) (fun _ _=>true) rfl (by rw[maxLen_val];omega) (fun i hi hj self=>by
   show laws_eqInt64S.b0 _ _ _ _=_
   unfold laws_eqInt64S.b0
   have hlt:(i:Int) < (x.length:Int):=by omega
   simp only[hlt,decide_true,cond_true,Int.natCast_nonneg,if_true,Int.toNat_natCast,List.getElem?_eq_getElem hi,Option.bind_some,Bool.not_true,cond_false]) (fun self=>by
   show laws_eqInt64S.b0 _ _ _ _=_
   unfold laws_eqInt64S.b0
   simp[laws_eqInt64S.Q0,laws_eqInt64S.q0]) k (by omega)
 rw[show allB (fun _ _=>true) x x=true by simp[allB]] at this
 exact this
theorem eqChange_self (x:Change) (h:zz tChange x<=4611686018427387904):laws_eqChange.sem (x,x,())=some (true,()):=by
 have hz:zz tChange x=(0+((0+(0+(0+(List.length x.2.1.2.2.2.1+0))))+(0+((0+(0+(0+(List.length x.2.2.2.1.2.2.2.1+0))))+0)))):=rfl
 have hz1:zz tRow x.2.1=(0+(0+(0+(List.length x.2.1.2.2.2.1+0)))):=rfl
 have hz3:zz tRow x.2.2.2.1=(0+(0+(0+(List.length x.2.2.2.1.2.2.2.1+0)))):=rfl
 refine lift_eq (k:=0) fun k _=>(laws_eqChange.raw_eq k _).trans ?_
 show laws_eqChange.p _=_
 unfold laws_eqChange.p
 have q0:=eqRow_self x.2.1 (by omega)
 have q1:=eqRow_self x.2.2.2.1 (by omega)
 simp[q0,q1]
theorem eqChangeS_self (x:List Change) (h:zz (.slc tChange) x<=4611686018427387904):laws_eqChangeS.sem (x,x,())=some (true,()):=by
 have hl:x.length<=4611686018427387904:=Nat.le_trans (zz_len (e:=tChange) x) h
 refine lift_eq (k:=x.length+1) fun k hk=>(laws_eqChangeS.raw_eq k _).trans ?_
 unfold laws_eqChangeS.p
 simp only[decide_true,Bool.not_true,cond_false]
 have:=all_loop (B:=fun self v=>laws_eqChangeS.B0 k self (fun z=>laws_eqChangeS.Q0 k (x,x,()) z) (x,x,()) v) (xs:=x) (ys:=x) (fun _ _=>true) rfl (by rw[maxLen_val];omega) (fun i hi hj self=>by
   show laws_eqChangeS.b0 _ _ _ _=_
   unfold laws_eqChangeS.b0
   have hlt:(i:Int) < (x.length:Int):=by omega
   simp only[hlt,decide_true,cond_true,Int.natCast_nonneg,if_true,Int.toNat_natCast,List.getElem?_eq_getElem hi,Option.bind_some,Bool.not_true,cond_false,eqChange_self x[i] (by have:=zz_mem (e:=tChange) (List.getElem_mem hi);omega)]) (fun self=>by
   show laws_eqChangeS.b0 _ _ _ _=_
   unfold laws_eqChangeS.b0
   simp[laws_eqChangeS.Q0,laws_eqChangeS.q0]) k (by omega)
 rw[show allB (fun _ _=>true) x x=true by simp[allB]] at this
 exact this
theorem eqKey_self (x:Key) (h:zz tKey x<=4611686018427387904):laws_eqKey.sem (x,x,())=some (true,()):=by
 have hz:zz tKey x=(0+(0+0)):=rfl
 refine lift_eq (k:=0) fun k _=>(laws_eqKey.raw_eq k _).trans ?_
 show laws_eqKey.p _=_
 unfold laws_eqKey.p
 simp[]
theorem eqKeyS_self (x:List Key) (h:zz (.slc tKey) x<=4611686018427387904):laws_eqKeyS.sem (x,x,())=some (true,()):=by
 have hl:x.length<=4611686018427387904:=Nat.le_trans (zz_len (e:=tKey) x) h
 refine lift_eq (k:=x.length+1) fun k hk=>(laws_eqKeyS.raw_eq k _).trans ?_
 unfold laws_eqKeyS.p
 simp only[decide_true,Bool.not_true,cond_false]
 have:=all_loop (B:=fun self v=>laws_eqKeyS.B0 k self (fun z=>laws_eqKeyS.Q0 k (x,x,()) z) (x,x,()) v) (xs:=x) (ys:=x) (fun _ _=>true) rfl (by rw[maxLen_val];omega) (fun i hi hj self=>by
   show laws_eqKeyS.b0 _ _ _ _=_
   unfold laws_eqKeyS.b0
   have hlt:(i:Int) < (x.length:Int):=by omega
   simp only[hlt,decide_true,cond_true,Int.natCast_nonneg,if_true,Int.toNat_natCast,List.getElem?_eq_getElem hi,Option.bind_some,Bool.not_true,cond_false,eqKey_self x[i] (by have:=zz_mem (e:=tKey) (List.getElem_mem hi);omega)]) (fun self=>by
   show laws_eqKeyS.b0 _ _ _ _=_
   unfold laws_eqKeyS.b0
   simp[laws_eqKeyS.Q0,laws_eqKeyS.q0]) k (by omega)
 rw[show allB (fun _ _=>true) x x=true by simp[allB]] at this
 exact this
theorem eqTx_self (x:Tx) (h:zz tTx x<=4611686018427387904):laws_eqTx.sem (x,x,())=some (true,()):=by
 have hz:zz tTx x=(0+(zz (.slc tChange) x.2.1+(zz (.slc i64) x.2.2.1+(zz (.slc tKey) x.2.2.2.1+0)))):=rfl
 refine lift_eq (k:=0) fun k _=>(laws_eqTx.raw_eq k _).trans ?_
 show laws_eqTx.p _=_
 unfold laws_eqTx.p
 have q0:=eqChangeS_self x.2.1 (by omega)
 have q1:=eqInt64S_self x.2.2.1 (by omega)
 have q2:=eqKeyS_self x.2.2.2.1 (by omega)
 simp[q0,q1,q2]
theorem eqTxS_self (x:List Tx) (h:zz (.slc tTx) x<=4611686018427387904):laws_eqTxS.sem (x,x,())=some (true,()):=by
 have hl:x.length<=4611686018427387904:=Nat.le_trans (zz_len (e:=tTx) x) h
 refine lift_eq (k:=x.length+1) fun k hk=>(laws_eqTxS.raw_eq k _).trans ?_
 unfold laws_eqTxS.p
 simp only[decide_true,Bool.not_true,cond_false]
 have:=all_loop (B:=fun self v=>laws_eqTxS.B0 k self (fun z=>laws_eqTxS.Q0 k (x,x,()) z) (x,x,()) v) (xs:=x) (ys:=x) (fun _ _=>true) rfl (by rw[maxLen_val];omega) (fun i hi hj self=>by
   show laws_eqTxS.b0 _ _ _ _=_
   unfold laws_eqTxS.b0
   have hlt:(i:Int) < (x.length:Int):=by omega
   simp only[hlt,decide_true,cond_true,Int.natCast_nonneg,if_true,Int.toNat_natCast,List.getElem?_eq_getElem hi,Option.bind_some,Bool.not_true,cond_false,eqTx_self x[i] (by have:=zz_mem (e:=tTx) (List.getElem_mem hi);omega)]) (fun self=>by
   show laws_eqTxS.b0 _ _ _ _=_
   unfold laws_eqTxS.b0
   simp[laws_eqTxS.Q0,laws_eqTxS.q0]) k (by omega)
 rw[show allB (fun _ _=>true) x x=true by simp[allB]] at this
 exact this
theorem eqPlain_self (x:Plain) (h:zz tPlain x<=4611686018427387904):laws_eqPlain.sem (x,x,())=some (true,()):=by
 have hz:zz tPlain x=(zz (.slc tRow) x.1+(zz (.slc tTx) x.2.1+(0+0))):=rfl
 refine lift_eq (k:=0) fun k _=>(laws_eqPlain.raw_eq k _).trans ?_
 show laws_eqPlain.p _=_
 unfold laws_eqPlain.p
 have q0:=eqRowS_self x.1 (by omega)
 have q1:=eqTxS_self x.2.1 (by omega)
 simp[q0,q1]
def ERowS (x:Row) (k:Int) (y:Row) (k':Int):Prop:=y=((k),(k+1),(k+1+1),(mtext (k+1+1+1)),x.2.2.2.2)/\k+1+1+1+1=k'
theorem mhRowS (x:List Row) (k:Int) (h0:0<=k) (h1:k+32*((zz (.slc tRow) x:Nat):Int)<=BIG):∃ (k':Int) (y:List Row),laws_markRowS.sem (x,k,())=some (k',y,())/\laws_heldRowS.sem (y,k,())=some (k',())/\k<=k'/\k'<=k+32*((zz (.slc tRow) x:Nat):Int):=by
 have hB:BIG=4611686018427387904:=rfl
 have hl:List.length x<=zz (.slc tRow) x:=zz_len (e:=tRow) x
 have hs:sumW (fun x:Row=>32*(zz tRow x+1)) x=32*zz (.slc tRow) x:=sumW_32 (zz tRow) x
 obtain ⟨ys,k',g1,g2,g3,g4,g5⟩:=mark_loop (B:=fun self v=>laws_markRowS.B0 0 self (fun z=>laws_markRowS.Q0 0 (x,k,()) z) (x,k,()) v) (xs:=x) (by rw[maxLen_val];omega) ERowS (fun x:Row=>32*(zz tRow x+1)) (fun x hx k h0 h1=>by
   have hz:zz tRow x=(0+(0+(0+(List.length x.2.2.2.1+0)))):=rfl
   exact ⟨_,_,by omega,by omega,⟨rfl,rfl⟩⟩) (fun i acc k self x y k' hi hx h0 h1 h2 h3 hE=>by
   have hz:zz tRow x=(0+(0+(0+(List.length x.2.2.2.1+0)))):=rfl
   obtain ⟨rfl,rfl⟩:=hE
   show laws_markRowS.b0 _ _ _ _=_
   unfold laws_markRowS.b0
   have hlt:(i:Int) < (acc.length:Int):=by omega
   simp (disch:=omega) only [hlt,decide_true,cond_true,Int.natCast_nonneg,and_self,if_true,Int.toNat_natCast,hx,Option.bind_some,List.length_set,get_self_set,List.set_set,w64_in,markText_eq]) (fun acc k self=>by
   show laws_markRowS.b0 _ _ _ _=_
   unfold laws_markRowS.b0
   simp[laws_markRowS.Q0,laws_markRowS.q0]) k h0 (by rw[hs];omega)
 refine ⟨k',ys,lift_eq (k:=x.length+1) fun f hf=>(laws_markRowS.raw_eq f _).trans (g5 f (by omega)),?_,g1,by rw[hs] at g2;omega⟩
 refine lift_eq (k:=ys.length+1) fun f hf=>(laws_heldRowS.raw_eq f _).trans ?_
 exact held_loop (B:=fun self v=>laws_heldRowS.B0 0 self (fun z=>laws_heldRowS.Q0 0 (ys,k,()) z) (ys,k,()) v) (by rw[maxLen_val];omega) g4 (fun i k self x y k' hi hx h0 h1 h2 h3 hE=>by
   have hz:zz tRow x=(0+(0+(0+(List.length x.2.2.2.1+0)))):=rfl
   obtain ⟨rfl,rfl⟩:=hE
   show laws_heldRowS.b0 _ _ _ _=_
   unfold laws_heldRowS.b0
   have hlt:(i:Int) < (ys.length:Int):=by omega
   simp (disch:=omega) only [hlt,decide_true,cond_true,Int.natCast_nonneg,and_self,if_true,Int.toNat_natCast,hx,Option.bind_some,w64_in,markText_eq,beq_self_eq_true,Bool.not_true,cond_false,decide_false]) (fun k self=>by
   show laws_heldRowS.b0 _ _ _ _=_
   unfold laws_heldRowS.b0
   simp[laws_heldRowS.Q0,laws_heldRowS.q0]) f (by omega)
def EInt64S (x:Int) (k:Int) (y:Int) (k':Int):Prop:=y=(k)/\k+1=k'
theorem mhInt64S (x:List Int) (k:Int) (h0:0<=k) (h1:k+32*((zz (.slc i64) x:Nat):Int)<=BIG):∃ (k':Int) (y:List Int),laws_markInt64S.sem (x,k,())=some (k',y,())/\laws_heldInt64S.sem (y,k,())=some (k',())/\k<=k'/\k'<=k+32*((zz (.slc i64) x:Nat):Int):=by
 have hB:BIG=4611686018427387904:=rfl
 have hl:List.length x<=zz (.slc i64) x:=zz_len (e:=i64) x
 have hs:sumW (fun x:Int=>32*(zz i64 x+1)) x=32*zz (.slc i64) x:=sumW_32 (zz i64) x
 obtain ⟨ys,k',g1,g2,g3,g4,g5⟩:=mark_loop (B:=fun self v=>laws_markInt64S.B0 0 self (fun z=>laws_markInt64S.Q0 0 (x,k,()) z) (x,k,()) v) (xs:=x) (by rw[maxLen_val];omega) EInt64S (fun x:Int=>32*(zz i64 x+1)) (fun x hx k h0 h1=>by
   exact ⟨_,_,by omega,by omega,⟨rfl,rfl⟩⟩) (fun i acc k self x y k' hi hx h0 h1 h2 h3 hE=>by
   obtain ⟨rfl,rfl⟩:=hE
   show laws_markInt64S.b0 _ _ _ _=_
   unfold laws_markInt64S.b0
   have hlt:(i:Int) < (acc.length:Int):=by omega
   simp (disch:=omega) only [hlt,decide_true,cond_true,Int.natCast_nonneg,and_self,if_true,Int.toNat_natCast,hx,Option.bind_some,List.length_set,get_self_set,List.set_set,w64_in,markText_eq]) (fun acc k self=>by
   show laws_markInt64S.b0 _ _ _ _=_
   unfold laws_markInt64S.b0
   simp[laws_markInt64S.Q0,laws_markInt64S.q0]) k h0 (by rw[hs];omega)
 refine ⟨k',ys,lift_eq (k:=x.length+1) fun f hf=>(laws_markInt64S.raw_eq f _).trans (g5 f (by omega)),?_,g1,by rw[hs] at g2;omega⟩
 refine lift_eq (k:=ys.length+1) fun f hf=>(laws_heldInt64S.raw_eq f _).trans ?_
 exact held_loop (B:=fun self v=>laws_heldInt64S.B0 0 self (fun z=>laws_heldInt64S.Q0 0 (ys,k,()) z) (ys,k,()) v) (by rw[maxLen_val];omega) g4 (fun i k self x y k' hi hx h0 h1 h2 h3 hE=>by
   obtain ⟨rfl,rfl⟩:=hE
   show laws_heldInt64S.b0 _ _ _ _=_
   unfold laws_heldInt64S.b0
   have hlt:(i:Int) < (ys.length:Int):=by omega
   simp (disch:=omega) only [hlt,decide_true,cond_true,Int.natCast_nonneg,and_self,if_true,Int.toNat_natCast,hx,Option.bind_some,w64_in,markText_eq,beq_self_eq_true,Bool.not_true,cond_false,decide_false]) (fun k self=>by
   show laws_heldInt64S.b0 _ _ _ _=_
   unfold laws_heldInt64S.b0
   simp[laws_heldInt64S.Q0,laws_heldInt64S.q0]) f (by omega)
def EChangeS (x:Change) (k:Int) (y:Change) (k':Int):Prop:=y=((decide ((k).tmod (3:Int)=(0:Int))),((k+1),(k+1+1),(k+1+1+1),(mtext (k+1+1+1+1)),x.2.1.2.2.2.2),(decide ((k+1+1+1+1+1).tmod (3:Int)=(0:Int))),((k+1+1+1+1+1+1),(k+1+1+1+1+1+1+1),(k+1+1+1+1+1+1+1+1),(mtext (k+1+1+1+1+1+1+1+1+1)),x.2.2.2.1.2.2.2.2),x.2.2.2.2)/\k+1+1+1+1+1+1+1+1+1+1=k'
theorem mhChangeS (x:List Change) (k:Int) (h0:0<=k) (h1:k+32*((zz (.slc tChange) x:Nat):Int)<=BIG):∃ (k':Int) (y:List Change),laws_markChangeS.sem (x,k,())=some (k',y,())/\laws_heldChangeS.sem (y,k,())=some (k',())/\k<=k'/\k'<=k+32*((zz (.slc tChange) x:Nat):Int):=by
 have hB:BIG=4611686018427387904:=rfl
 have hl:List.length x<=zz (.slc tChange) x:=zz_len (e:=tChange) x
 have hs:sumW (fun x:Change=>32*(zz tChange x+1)) x=32*zz (.slc tChange) x:=sumW_32 (zz tChange) x
 obtain ⟨ys,k',g1,g2,g3,g4,g5⟩:=mark_loop (B:=fun self v=>laws_markChangeS.B0 0 self (fun z=>laws_markChangeS.Q0 0 (x,k,()) z) (x,k,()) v) (xs:=x) (by rw[maxLen_val];omega) EChangeS (fun x:Change=>32*(zz tChange x+1)) (fun x hx k h0 h1=>by
   have hz:zz tChange x=(0+((0+(0+(0+(List.length x.2.1.2.2.2.1+0))))+(0+((0+(0+(0+(List.length x.2.2.2.1.2.2.2.1+0))))+0)))):=rfl
   exact ⟨_,_,by omega,by omega,⟨rfl,rfl⟩⟩) (fun i acc k self x y k' hi hx h0 h1 h2 h3 hE=>by
   have hz:zz tChange x=(0+((0+(0+(0+(List.length x.2.1.2.2.2.1+0))))+(0+((0+(0+(0+(List.length x.2.2.2.1.2.2.2.1+0))))+0)))):=rfl
   obtain ⟨rfl,rfl⟩:=hE
   show laws_markChangeS.b0 _ _ _ _=_
   unfold laws_markChangeS.b0
   have hlt:(i:Int) < (acc.length:Int):=by omega
   simp (disch:=omega) only [hlt,decide_true,cond_true,Int.natCast_nonneg,and_self,if_true,Int.toNat_natCast,hx,Option.bind_some,List.length_set,get_self_set,List.set_set,w64_in,markText_eq]) (fun acc k self=>by
   show laws_markChangeS.b0 _ _ _ _=_
   unfold laws_markChangeS.b0
   simp[laws_markChangeS.Q0,laws_markChangeS.q0]) k h0 (by rw[hs];omega)
 refine ⟨k',ys,lift_eq (k:=x.length+1) fun f hf=>(laws_markChangeS.raw_eq f _).trans (g5 f (by omega)),?_,g1,by rw[hs] at g2;omega⟩
 refine lift_eq (k:=ys.length+1) fun f hf=>(laws_heldChangeS.raw_eq f _).trans ?_
 exact held_loop (B:=fun self v=>laws_heldChangeS.B0 0 self (fun z=>laws_heldChangeS.Q0 0 (ys,k,()) z) (ys,k,()) v) (by rw[maxLen_val];omega) g4 (fun i k self x y k' hi hx h0 h1 h2 h3 hE=>by
   have hz:zz tChange x=(0+((0+(0+(0+(List.length x.2.1.2.2.2.1+0))))+(0+((0+(0+(0+(List.length x.2.2.2.1.2.2.2.1+0))))+0)))):=rfl
   obtain ⟨rfl,rfl⟩:=hE
   show laws_heldChangeS.b0 _ _ _ _=_
   unfold laws_heldChangeS.b0
   have hlt:(i:Int) < (ys.length:Int):=by omega
   simp (disch:=omega) only [hlt,decide_true,cond_true,Int.natCast_nonneg,and_self,if_true,Int.toNat_natCast,hx,Option.bind_some,w64_in,markText_eq,beq_self_eq_true,Bool.not_true,cond_false,decide_false]) (fun k self=>by
   show laws_heldChangeS.b0 _ _ _ _=_
   unfold laws_heldChangeS.b0
   simp[laws_heldChangeS.Q0,laws_heldChangeS.q0]) f (by omega)
def EKeyS (x:Key) (k:Int) (y:Key) (k':Int):Prop:=y=((k),(k+1),x.2.2)/\k+1+1=k'
theorem mhKeyS (x:List Key) (k:Int) (h0:0<=k) (h1:k+32*((zz (.slc tKey) x:Nat):Int)<=BIG):∃ (k':Int) (y:List Key),laws_markKeyS.sem (x,k,())=some (k',y,())/\laws_heldKeyS.sem (y,k,())=some (k',())/\k<=k'/\k'<=k+32*((zz (.slc tKey) x:Nat):Int):=by
 have hB:BIG=4611686018427387904:=rfl
 have hl:List.length x<=zz (.slc tKey) x:=zz_len (e:=tKey) x
 have hs:sumW (fun x:Key=>32*(zz tKey x+1)) x=32*zz (.slc tKey) x:=sumW_32 (zz tKey) x
 obtain ⟨ys,k',g1,g2,g3,g4,g5⟩:=mark_loop (B:=fun self v=>laws_markKeyS.B0 0 self (fun z=>laws_markKeyS.Q0 0 (x,k,()) z) (x,k,()) v) (xs:=x) (by rw[maxLen_val];omega) EKeyS (fun x:Key=>32*(zz tKey x+1)) (fun x hx k h0 h1=>by
   have hz:zz tKey x=(0+(0+0)):=rfl
   exact ⟨_,_,by omega,by omega,⟨rfl,rfl⟩⟩) (fun i acc k self x y k' hi hx h0 h1 h2 h3 hE=>by
   have hz:zz tKey x=(0+(0+0)):=rfl
   obtain ⟨rfl,rfl⟩:=hE
   show laws_markKeyS.b0 _ _ _ _=_
   unfold laws_markKeyS.b0
   have hlt:(i:Int) < (acc.length:Int):=by omega
   simp (disch:=omega) only [hlt,decide_true,cond_true,Int.natCast_nonneg,and_self,if_true,Int.toNat_natCast,hx,Option.bind_some,List.length_set,get_self_set,List.set_set,w64_in,markText_eq]) (fun acc k self=>by
   show laws_markKeyS.b0 _ _ _ _=_
   unfold laws_markKeyS.b0
   simp[laws_markKeyS.Q0,laws_markKeyS.q0]) k h0 (by rw[hs];omega)
 refine ⟨k',ys,lift_eq (k:=x.length+1) fun f hf=>(laws_markKeyS.raw_eq f _).trans (g5 f (by omega)),?_,g1,by rw[hs] at g2;omega⟩
 refine lift_eq (k:=ys.length+1) fun f hf=>(laws_heldKeyS.raw_eq f _).trans ?_
 exact held_loop (B:=fun self v=>laws_heldKeyS.B0 0 self (fun z=>laws_heldKeyS.Q0 0 (ys,k,()) z) (ys,k,()) v) (by rw[maxLen_val];omega) g4 (fun i k self x y k' hi hx h0 h1 h2 h3 hE=>by
   have hz:zz tKey x=(0+(0+0)):=rfl
   obtain ⟨rfl,rfl⟩:=hE
   show laws_heldKeyS.b0 _ _ _ _=_
   unfold laws_heldKeyS.b0
   have hlt:(i:Int) < (ys.length:Int):=by omega
   simp (disch:=omega) only [hlt,decide_true,cond_true,Int.natCast_nonneg,and_self,if_true,Int.toNat_natCast,hx,Option.bind_some,w64_in,markText_eq,beq_self_eq_true,Bool.not_true,cond_false,decide_false]) (fun k self=>by
   show laws_heldKeyS.b0 _ _ _ _=_
   unfold laws_heldKeyS.b0
   simp[laws_heldKeyS.Q0,laws_heldKeyS.q0]) f (by omega)
def ETxS (x:Tx) (k:Int) (y:Tx) (k':Int):Prop:=∃ (r1:Int) (y1:List Change),∃ (r2:Int) (y2:List Int),∃ (r3:Int) (y3:List Key),laws_markChangeS.sem (x.2.1,k+1,())=some (r1,y1,())/\laws_heldChangeS.sem (y1,k+1,())=some (r1,())/\k+1<=r1/\r1<=k+1+32*((zz (.slc tChange) x.2.1:Nat):Int)/\laws_markInt64S.sem (x.2.2.1,r1,())=some (r2,y2,())/\laws_heldInt64S.sem (y2,r1,())=some (r2,())/\r1<=r2/\r2<=r1+32*((zz (.slc i64) x.2.2.1:Nat):Int)/\laws_markKeyS.sem (x.2.2.2.1,r2,())=some (r3,y3,())/\laws_heldKeyS.sem (y3,r2,())=some (r3,())/\r2<=r3/\r3<=r2+32*((zz (.slc tKey) x.2.2.2.1:Nat):Int)/\y=((k),y1,y2,y3,x.2.2.2.2)/\r3=k'
theorem mhTxS (x:List Tx) (k:Int) (h0:0<=k) (h1:k+32*((zz (.slc tTx) x:Nat):Int)<=BIG):∃ (k':Int) (y:List Tx),laws_markTxS.sem (x,k,())=some (k',y,())/\laws_heldTxS.sem (y,k,())=some (k',())/\k<=k'/\k'<=k+32*((zz (.slc tTx) x:Nat):Int):=by
 have hB:BIG=4611686018427387904:=rfl
 have hl:List.length x<=zz (.slc tTx) x:=zz_len (e:=tTx) x
 have hs:sumW (fun x:Tx=>32*(zz tTx x+1)) x=32*zz (.slc tTx) x:=sumW_32 (zz tTx) x
 obtain ⟨ys,k',g1,g2,g3,g4,g5⟩:=mark_loop (B:=fun self v=>laws_markTxS.B0 0 self (fun z=>laws_markTxS.Q0 0 (x,k,()) z) (x,k,()) v) (xs:=x) (by rw[maxLen_val];omega) ETxS (fun x:Tx=>32*(zz tTx x+1)) (fun x hx k h0 h1=>by
   have hz:zz tTx x=(0+(zz (.slc tChange) x.2.1+(zz (.slc i64) x.2.2.1+(zz (.slc tKey) x.2.2.2.1+0)))):=rfl
   obtain ⟨r1,y1,e1,f1,g1,i1⟩:=mhChangeS x.2.1 (k+1) (by omega) (by omega)
   obtain ⟨r2,y2,e2,f2,g2,i2⟩:=mhInt64S x.2.2.1 (r1) (by omega) (by omega)
   obtain ⟨r3,y3,e3,f3,g3,i3⟩:=mhKeyS x.2.2.2.1 (r2) (by omega) (by omega)
   exact ⟨_,_,by omega,by omega,⟨r1,y1,r2,y2,r3,y3,e1,f1,g1,i1,e2,f2,g2,i2,e3,f3,g3,i3,rfl,rfl⟩⟩) (fun i acc k self x y k' hi hx h0 h1 h2 h3 hE=>by
   have hz:zz tTx x=(0+(zz (.slc tChange) x.2.1+(zz (.slc i64) x.2.2.1+(zz (.slc tKey) x.2.2.2.1+0)))):=rfl
   obtain ⟨r1,y1,r2,y2,r3,y3,e1,f1,g1,i1,e2,f2,g2,i2,e3,f3,g3,i3,rfl,rfl⟩:=hE
   show laws_markTxS.b0 _ _ _ _=_
   unfold laws_markTxS.b0
   have hlt:(i:Int) < (acc.length:Int):=by omega
   simp (disch:=omega) only [hlt,decide_true,cond_true,Int.natCast_nonneg,and_self,if_true,Int.toNat_natCast,hx,Option.bind_some,List.length_set,get_self_set,List.set_set,w64_in,markText_eq,e1,e2,e3]) (fun acc k self=>by
   show laws_markTxS.b0 _ _ _ _=_
   unfold laws_markTxS.b0
   simp[laws_markTxS.Q0,laws_markTxS.q0]) k h0 (by rw[hs];omega)
 refine ⟨k',ys,lift_eq (k:=x.length+1) fun f hf=>(laws_markTxS.raw_eq f _).trans (g5 f (by omega)),?_,g1,by rw[hs] at g2;omega⟩
 refine lift_eq (k:=ys.length+1) fun f hf=>(laws_heldTxS.raw_eq f _).trans ?_
 exact held_loop (B:=fun self v=>laws_heldTxS.B0 0 self (fun z=>laws_heldTxS.Q0 0 (ys,k,()) z) (ys,k,()) v) (by rw[maxLen_val];omega) g4 (fun i k self x y k' hi hx h0 h1 h2 h3 hE=>by
   have hz:zz tTx x=(0+(zz (.slc tChange) x.2.1+(zz (.slc i64) x.2.2.1+(zz (.slc tKey) x.2.2.2.1+0)))):=rfl
   obtain ⟨r1,y1,r2,y2,r3,y3,e1,f1,g1,i1,e2,f2,g2,i2,e3,f3,g3,i3,rfl,rfl⟩:=hE
   show laws_heldTxS.b0 _ _ _ _=_
   unfold laws_heldTxS.b0
   have hlt:(i:Int) < (ys.length:Int):=by omega
   have n1:¬ r1 < 0:=by omega
   have n2:¬ r2 < 0:=by omega
   have n3:¬ r3 < 0:=by omega
   simp (disch:=omega) only [hlt,decide_true,cond_true,Int.natCast_nonneg,and_self,if_true,Int.toNat_natCast,hx,Option.bind_some,w64_in,markText_eq,beq_self_eq_true,Bool.not_true,cond_false,decide_false,f1,n1,f2,n2,f3,n3]) (fun k self=>by
   show laws_heldTxS.b0 _ _ _ _=_
   unfold laws_heldTxS.b0
   simp[laws_heldTxS.Q0,laws_heldTxS.q0]) f (by omega)
theorem mhPlain (x:Plain) (k:Int) (h0:0<=k) (h1:k+32*((zz tPlain x:Nat):Int)<=BIG):∃ (k':Int) (y:Plain),laws_markPlain.sem (x,k,())=some (k',y,())/\laws_heldPlain.sem (y,k,())=some (k',())/\k<=k'/\k'<=k+32*((zz tPlain x:Nat):Int):=by
 have hB:BIG=4611686018427387904:=rfl
 have hz:zz tPlain x=(zz (.slc tRow) x.1+(zz (.slc tTx) x.2.1+(0+0))):=rfl
 obtain ⟨k1,y1,e1,f1,g1,i1⟩:=mhRowS x.1 k (by omega) (by omega)
 have n1:¬ k1 < 0:=by omega
 obtain ⟨k2,y2,e2,f2,g2,i2⟩:=mhTxS x.2.1 k1 (by omega) (by omega)
 have n2:¬ k2 < 0:=by omega
 refine ⟨k2,(y1,y2,x.2.2.1,x.2.2.2),lift_eq (k:=0) fun f _=>(laws_markPlain.raw_eq f _).trans ?_,lift_eq (k:=0) fun f _=>(laws_heldPlain.raw_eq f _).trans ?_,by omega,by omega⟩
 ·show laws_markPlain.p _=_
  unfold laws_markPlain.p
  simp only[e1,e2,Option.bind_some]
 ·show laws_heldPlain.p _=_
  unfold laws_heldPlain.p
  simp only[f1,f2,n1,n2,Option.bind_some,decide_false,cond_false]
theorem szOpS_eq (x:List Op) (n:Int) (hx:okD (.slc tOp) x) (h0:0<=n) (h1:n<=1048576):laws_szOpS.sem (x,n,())=some (lft n (zz (.slc tOp) x),()):=by
 obtain ⟨hl,hel⟩:=hx
 have hl':=hl
 rw[maxLen_val] at hl'
 have hl':List.length x<=9223372036854775807:=hl'
 have hw:w64 (n - (List.length x:Int))=n - (List.length x:Int):=w64_in (by omega)
 have hz:zz (.slc tOp) x=List.length x+sumW (zz tOp) x:=rfl
 by_cases hc:n - (List.length x:Int) < 0
 ·have e1:lft n (zz (.slc tOp) x)=-1:=if_neg (by omega)
  rw[e1]
  refine lift_eq (k:=0) fun k _=>(laws_szOpS.raw_eq k _).trans ?_
  unfold laws_szOpS.p
  simp only[hw,hc,decide_true,cond_true]
  try rfl
 ·have e1:lft n (zz (.slc tOp) x)=lft (n - (List.length x:Int)) (sumW (zz tOp) x):=by rw[hz,lft_add (by omega)]
  rw[e1]
  refine lift_eq (k:=List.length x+1) fun k hk=>(laws_szOpS.raw_eq k _).trans ?_
  unfold laws_szOpS.p
  simp only[hw,hc,decide_false,cond_false]
  exact sz_loop (B:=fun self v=>laws_szOpS.B0 0 self (fun z=>laws_szOpS.Q0 0 (x,n,()) z) (x,n,()) v) (xs:=x) hl (zz tOp) (fun i hi m self hm0 hm1=>by
    show laws_szOpS.b0 _ _ _ _=_
    unfold laws_szOpS.b0
    have hlt:(i:Int) < (List.length x:Int):=by omega
    simp only[hlt,decide_true,cond_true,Int.natCast_nonneg,if_true,Int.toNat_natCast,List.getElem?_eq_getElem hi,Option.bind_some,szOp_eq x[i] m (hel _ (List.getElem_mem hi)) hm0 hm1]
    by_cases hs:lft m (zz tOp x[i]) < 0 <;> simp[hs]) (fun m self=>by
    show laws_szOpS.b0 _ _ _ _=_
    unfold laws_szOpS.b0
    simp[laws_szOpS.Q0,laws_szOpS.q0]) _ (by omega) (by omega) k (by omega)
theorem toOpS_eq (x:List Op) (h:zz (.slc tOp) x<=1048576):laws_toOpS.sem (x,())=some (x,()):=by
 have hl:x.length<=1048576:=Nat.le_trans (zz_len (e:=tOp) x) h
 refine lift_eq (k:=x.length+1) fun k hk=>(laws_toOpS.raw_eq k _).trans ?_
 unfold laws_toOpS.p
 have hc:0<=(x.length:Int)/\(x.length:Int)<=(x.length:Int)/\(x.length:Int)<=(CAP:Int):=by simp only[CAP];omega
 simp only[hc,and_self,if_true,Int.toNat_natCast]
 exact copy_loop (B:=fun self v=>laws_toOpS.B0 k self (fun z=>laws_toOpS.Q0 k (x,()) z) (x,()) v) (xs:=x) (by rw[maxLen_val];omega) (fun i hi acc self ha=>by
  show laws_toOpS.b0 _ _ _ _=_
  unfold laws_toOpS.b0
  have hlt:(i:Int) < (x.length:Int):=by omega
  have hlt2:(i:Int) < (acc.length:Int):=by omega
  simp only[hlt,hlt2,decide_true,cond_true,Int.natCast_nonneg,and_self,if_true,Int.toNat_natCast,List.getElem?_eq_getElem hi,List.getElem?_eq_getElem (show i < acc.length by omega),Option.bind_some,toOp_eq x[i] (by have:=zz_mem (e:=tOp) (List.getElem_mem hi);omega)]) (fun acc self=>by
  show laws_toOpS.b0 _ _ _ _=_
  unfold laws_toOpS.b0
  simp[laws_toOpS.Q0,laws_toOpS.q0]) _ k (by omega)
theorem eqRunResult_self (x:RunResult) (h:zz tRunResult x<=4611686018427387904):laws_eqRunResult.sem (x,x,())=some (true,()):=by
 have hz:zz tRunResult x=(0+(zz (.slc i64) x.2.1+(zz (.slc i64) x.2.2.1+((zz (.slc tRow) x.2.2.2.1.1+(zz (.slc tTx) x.2.2.2.1.2.1+(0+0)))+0)))):=rfl
 have hz3:zz tPlain x.2.2.2.1=(zz (.slc tRow) x.2.2.2.1.1+(zz (.slc tTx) x.2.2.2.1.2.1+(0+0))):=rfl
 refine lift_eq (k:=0) fun k _=>(laws_eqRunResult.raw_eq k _).trans ?_
 show laws_eqRunResult.p _=_
 unfold laws_eqRunResult.p
 have q0:=eqInt64S_self x.2.1 (by omega)
 have q1:=eqInt64S_self x.2.2.1 (by omega)
 have q2:=eqPlain_self x.2.2.2.1 (by omega)
 simp[q0,q1,q2]
theorem eqOp_self (x:Op) (h:zz tOp x<=4611686018427387904):laws_eqOp.sem (x,x,())=some (true,()):=by
 have hz:zz tOp x=(0+(0+((0+(0+(0+(List.length x.2.2.1.2.2.2.1+0))))+(0+0)))):=rfl
 have hz2:zz tRow x.2.2.1=(0+(0+(0+(List.length x.2.2.1.2.2.2.1+0)))):=rfl
 refine lift_eq (k:=0) fun k _=>(laws_eqOp.raw_eq k _).trans ?_
 show laws_eqOp.p _=_
 unfold laws_eqOp.p
 have q0:=eqRow_self x.2.2.1 (by omega)
 simp[q0]
theorem eqOpS_self (x:List Op) (h:zz (.slc tOp) x<=4611686018427387904):laws_eqOpS.sem (x,x,())=some (true,()):=by
 have hl:x.length<=4611686018427387904:=Nat.le_trans (zz_len (e:=tOp) x) h
 refine lift_eq (k:=x.length+1) fun k hk=>(laws_eqOpS.raw_eq k _).trans ?_
 unfold laws_eqOpS.p
 simp only[decide_true,Bool.not_true,cond_false]
 have:=all_loop (B:=fun self v=>laws_eqOpS.B0 k self (fun z=>laws_eqOpS.Q0 k (x,x,()) z) (x,x,()) v) (xs:=x) (ys:=x) (fun _ _=>true) rfl (by rw[maxLen_val];omega) (fun i hi hj self=>by
   show laws_eqOpS.b0 _ _ _ _=_
   unfold laws_eqOpS.b0
   have hlt:(i:Int) < (x.length:Int):=by omega
   simp only[hlt,decide_true,cond_true,Int.natCast_nonneg,if_true,Int.toNat_natCast,List.getElem?_eq_getElem hi,Option.bind_some,Bool.not_true,cond_false,eqOp_self x[i] (by have:=zz_mem (e:=tOp) (List.getElem_mem hi);omega)]) (fun self=>by
   show laws_eqOpS.b0 _ _ _ _=_
   unfold laws_eqOpS.b0
   simp[laws_eqOpS.Q0,laws_eqOpS.q0]) k (by omega)
 rw[show allB (fun _ _=>true) x x=true by simp[allB]] at this
 exact this
def KOpS (x:Op) (k:Int) (y:Op) (k':Int):Prop:=y=((k),(k+1),((k+1+1),(k+1+1+1),(k+1+1+1+1),(mtext (k+1+1+1+1+1)),x.2.2.1.2.2.2.2),(k+1+1+1+1+1+1),x.2.2.2.2)/\k+1+1+1+1+1+1+1=k'
theorem mkOpS (x:List Op) (k:Int) (h0:0<=k) (h1:k+32*((zz (.slc tOp) x:Nat):Int)<=BIG):∃ (k':Int) (y:List Op),laws_markOpS.sem (x,k,())=some (k',y,())/\k<=k'/\k'<=k+32*((zz (.slc tOp) x:Nat):Int):=by
 have hB:BIG=4611686018427387904:=rfl
 have hl:List.length x<=zz (.slc tOp) x:=zz_len (e:=tOp) x
 have hs:sumW (fun x:Op=>32*(zz tOp x+1)) x=32*zz (.slc tOp) x:=sumW_32 (zz tOp) x
 obtain ⟨ys,k',g1,g2,g3,g4,g5⟩:=mark_loop (B:=fun self v=>laws_markOpS.B0 0 self (fun z=>laws_markOpS.Q0 0 (x,k,()) z) (x,k,()) v) (xs:=x) (by rw[maxLen_val];omega) KOpS (fun x:Op=>32*(zz tOp x+1)) (fun x hx k h0 h1=>by
   have hz:zz tOp x=(0+(0+((0+(0+(0+(List.length x.2.2.1.2.2.2.1+0))))+(0+0)))):=rfl
   exact ⟨_,_,by omega,by omega,⟨rfl,rfl⟩⟩) (fun i acc k self x y k' hi hx h0 h1 h2 h3 hE=>by
   have hz:zz tOp x=(0+(0+((0+(0+(0+(List.length x.2.2.1.2.2.2.1+0))))+(0+0)))):=rfl
   obtain ⟨rfl,rfl⟩:=hE
   show laws_markOpS.b0 _ _ _ _=_
   unfold laws_markOpS.b0
   have hlt:(i:Int) < (acc.length:Int):=by omega
   simp (disch:=omega) only [hlt,decide_true,cond_true,Int.natCast_nonneg,and_self,if_true,Int.toNat_natCast,hx,Option.bind_some,List.length_set,get_self_set,List.set_set,w64_in,markText_eq]) (fun acc k self=>by
   show laws_markOpS.b0 _ _ _ _=_
   unfold laws_markOpS.b0
   simp[laws_markOpS.Q0,laws_markOpS.q0]) k h0 (by rw[hs];omega)
 refine ⟨k',ys,lift_eq (k:=x.length+1) fun f hf=>(laws_markOpS.raw_eq f _).trans (g5 f (by omega)),g1,by rw[hs] at g2;omega⟩
theorem mhRunResult (x:RunResult) (k:Int) (h0:0<=k) (h1:k+32*((zz tRunResult x:Nat):Int)<=BIG):∃ (k':Int) (y:RunResult),laws_markRunResult.sem (x,k,())=some (k',y,())/\laws_heldRunResult.sem (y,k,())=some (k',())/\k<=k'/\k'<=k+32*((zz tRunResult x:Nat):Int):=by
 have hB:BIG=4611686018427387904:=rfl
 have hz:zz tRunResult x=(0+(zz (.slc i64) x.2.1+(zz (.slc i64) x.2.2.1+((zz (.slc tRow) x.2.2.2.1.1+(zz (.slc tTx) x.2.2.2.1.2.1+(0+0)))+0)))):=rfl
 obtain ⟨k1,y1,e1,f1,g1,i1⟩:=mhInt64S x.2.1 k (by omega) (by omega)
 have n1:¬ k1 < 0:=by omega
 obtain ⟨k2,y2,e2,f2,g2,i2⟩:=mhInt64S x.2.2.1 k1 (by omega) (by omega)
 have n2:¬ k2 < 0:=by omega
 have hz3:zz tPlain x.2.2.2.1=(zz (.slc tRow) x.2.2.2.1.1+(zz (.slc tTx) x.2.2.2.1.2.1+(0+0))):=rfl
 obtain ⟨k3,y3,e3,f3,g3,i3⟩:=mhPlain x.2.2.2.1 k2 (by omega) (by omega)
 have n3:¬ k3 < 0:=by omega
 refine ⟨k3,(x.1,y1,y2,y3,x.2.2.2.2),lift_eq (k:=0) fun f _=>(laws_markRunResult.raw_eq f _).trans ?_,lift_eq (k:=0) fun f _=>(laws_heldRunResult.raw_eq f _).trans ?_,by omega,by omega⟩
 ·show laws_markRunResult.p _=_
  unfold laws_markRunResult.p
  simp only[e1,e2,e3,Option.bind_some]
 ·show laws_heldRunResult.p _=_
  unfold laws_heldRunResult.p
  simp only[f1,f2,f3,n1,n2,n3,Option.bind_some,decide_false,cond_false]
end OT
set_option linter.unusedVariables false
set_option linter.unusedSimpArgs false
namespace OT
open Go
theorem specIn_eq (a b c:Int):spec_l1In.sem (a,b,c,())=some (decide (b<=a)&&decide (a<=c),()):=by
 refine lift_eq (k:=0) fun k _=>(spec_l1In.raw_eq k _).trans ?_
 show spec_l1In.p _=_
 unfold spec_l1In.p
 by_cases h:b<=a <;> simp[h]
theorem implIn_eq (a b c:Int):impl_in.sem (a,b,c,())=some (decide (b<=a)&&decide (a<=c),()):=by
 refine lift_eq (k:=0) fun k _=>(impl_in.raw_eq k _).trans ?_
 show impl_in.p _=_
 unfold impl_in.p
 by_cases h:b<=a <;> simp[h]
theorem isTx_eq (a:Int):impl_isTx.sem (a,())=some (decide (1<=a)&&decide (a<=99),()):=by
 refine lift_eq (k:=0) fun k _=>(impl_isTx.raw_eq k _).trans ?_
 show impl_isTx.p _=_
 unfold impl_isTx.p
 simp[implIn_eq]
def inB (a b c:Int):Bool:=decide (b<=a)&&decide (a<=c)
theorem forI_fold {S O α:Type} {g:S->α->S} {fin:S->O}:∀ (xs:List α) (i:Nat) (s:S),forI (fun _ s x=>.inr (g s x)) fin i xs s=fin (xs.foldl g s)
 | [],_,_=>rfl
 | x::xs,i,s=>by simp only[forI,List.foldl_cons];exact forI_fold xs _ _
theorem fold_self {α:Type}:∀ (xs s:List α),xs.foldl (fun s x=>s++[x]) s=s++xs
 | [],s=>by simp
 | x::xs,s=>by rw[List.foldl_cons,fold_self];simp
end OT
set_option linter.unusedVariables false
set_option linter.unusedSimpArgs false
namespace OT
open Go
def letter (c:UInt8):Bool:=!decide ((c.toNat:Int) < 97)&&!decide ((122:Int) < (c.toNat:Int))
def textB (s:List UInt8):Bool:=s.all letter&&decide (s.length<=8)
def rowF (x:Row):Int:=if inB x.1 0 3&&(inB x.2.1 1 99&&inB x.2.2.1 0 999) then (if textB x.2.2.2.1 then 0 else 5) else 3
theorem len8 (s:List UInt8):decide ((s.length:Int)<=8)=decide (s.length<=8):=by
 by_cases h:s.length<=8
 ·have:(s.length:Int)<=8:=by omega
  simp[h,this]
 ·have:¬ (s.length:Int)<=8:=by omega
  simp[h,this]
theorem specText_eq (s:List UInt8) (h:s.length<=maxLen):spec_l1Text.sem (s,())=some (textB s,()):=by
 refine lift_eq (k:=s.length+1) fun k hk=>(spec_l1Text.raw_eq k _).trans ?_
 have:=for_loop (B:=fun self v=>spec_l1Text.B0 0 self (fun z=>spec_l1Text.Q0 0 (s,()) z) (s,()) v) s (fun (_:Unit) (i:Int)=>i) (fun _ _ x=>if letter x then .inr () else .inl (false,())) (fun _=>(decide (s.length<=8),())) (fun _ _=>True) h
  (fun i hi _ self _=>by
   show spec_l1Text.b0 _ _ _ _=_
   unfold spec_l1Text.b0
   have hlt:(i:Int) < (s.length:Int):=by omega
   simp only[hlt,decide_true,cond_true,Int.natCast_nonneg,if_true,Int.toNat_natCast,List.getElem?_eq_getElem hi,Option.bind_some]
   unfold letter
   by_cases h1:((s[i].toNat:Int) < 97) <;> by_cases h2:((122:Int) < (s[i].toNat:Int)) <;> simp[h1,h2]) (fun _ _ _ _ _ _=>trivial) (fun _ self _=>by
   show spec_l1Text.b0 _ _ _ _=_
   unfold spec_l1Text.b0
   simp[spec_l1Text.Q0,spec_l1Text.q0,len8]) () trivial k (by omega)
 refine this.trans ?_
 rw[forI_check letter (false,()) (fun _=>(decide (s.length<=8),()))]
 unfold textB
 cases s.all letter <;> rfl
theorem specRow_eq (x:Row) (h:List.length x.2.2.2.1<=maxLen):spec_l1Fault.sem (x,())=some (rowF x,()):=by
 refine lift_eq (k:=0) fun k _=>(spec_l1Fault.raw_eq k _).trans ?_
 show spec_l1Fault.p _=_
 unfold spec_l1Fault.p rowF inB
 simp only[specIn_eq,specText_eq _ h,Option.bind_some]
 cases decide ((0:Int)<=x.1) <;> cases decide (x.1<=3) <;> cases decide ((1:Int)<=x.2.1) <;> cases decide (x.2.1<=99) <;> cases decide ((0:Int)<=x.2.2.1) <;> cases decide (x.2.2.1<=999) <;> cases textB x.2.2.2.1 <;> rfl
theorem implRow_eq (x:Row) (h:List.length x.2.2.2.1<=maxLen):impl_RowFault.sem (x,())=some (rowF x,()):=by
 refine lift_eq (k:=List.length x.2.2.2.1+1) fun k hk=>(impl_RowFault.raw_eq k _).trans ?_
 have:=for_loop (B:=fun self v=>impl_RowFault.B0 0 self (fun z=>impl_RowFault.Q0 0 (x,()) z) (x,()) v) x.2.2.2.1 (fun (_:Unit) (i:Int)=>i) (fun _ _ c=>if letter c then .inr () else .inl (5,())) (fun _=>(0,())) (fun _ _=>True) h
  (fun i hi _ self _=>by
   show impl_RowFault.b0 _ _ _ _=_
   unfold impl_RowFault.b0
   have hlt:(i:Int) < (List.length x.2.2.2.1:Int):=by omega
   simp only[hlt,decide_true,cond_true,Int.natCast_nonneg,if_true,Int.toNat_natCast,List.getElem?_eq_getElem hi,Option.bind_some]
   unfold letter
   by_cases h1:(((x.2.2.2.1)[i].toNat:Int) < 97) <;> by_cases h2:((122:Int) < ((x.2.2.2.1)[i].toNat:Int)) <;> simp[h1,h2]) (fun _ _ _ _ _ _=>trivial) (fun _ self _=>by
   show impl_RowFault.b0 _ _ _ _=_
   unfold impl_RowFault.b0
   simp[impl_RowFault.Q0,impl_RowFault.q0]) () trivial k (by omega)
 rw[forI_check letter (5,()) (fun _=>(0,()))] at this
 have this:impl_RowFault.r0 k (x,()) 0=_:=this
 unfold impl_RowFault.p rowF inB textB
 simp only[implIn_eq,this,Option.bind_some]
 have h8:decide ((8:Int) < (List.length x.2.2.2.1:Int))=!decide (List.length x.2.2.2.1<=8):=by
  by_cases hc:List.length x.2.2.2.1<=8
  ·have:¬ (8:Int) < (List.length x.2.2.2.1:Int):=by omega
   simp[hc,this]
  ·have:(8:Int) < (List.length x.2.2.2.1:Int):=by omega
   simp[hc,this]
 rw[h8]
 cases decide ((0:Int)<=x.1) <;> cases decide (x.1<=3) <;> cases decide ((1:Int)<=x.2.1) <;> cases decide (x.2.1<=99) <;> cases decide ((0:Int)<=x.2.2.1) <;> cases decide (x.2.2.1<=999) <;> cases decide (List.length x.2.2.2.1<=8) <;> cases (x.2.2.2.1).all letter <;> rfl
def rl (x:Row):Prop:=List.length x.2.2.2.1<=maxLen
def cl (c:Change):Prop:=rl c.2.1/\rl c.2.2.2.1
def sameKey (a b:Row):Bool:=decide (a.1=b.1)&&decide (a.2.1=b.2.1)
def befB (a b:Int×Int):Bool:=decide (a.1 < b.1)||(decide (a.1=b.1)&&decide (a.2 < b.2))
def chF (c:Change):Int:=if (!c.1&&!c.2.2.1)||(c.1&&c.2.2.1&&!sameKey c.2.1 c.2.2.2.1) then 1 else if c.1&&!decide (rowF c.2.1=0) then rowF c.2.1 else if c.2.2.1 then rowF c.2.2.2.1 else 0
def chS (c:Change):Int:=if chF c=0 then (if c.1&&c.2.2.1&&Ty.eq tRow c.2.1 c.2.2.2.1 then 1 else 0) else chF c
def ck (c:Change):Int×Int:=if c.2.2.1 then (c.2.2.2.1.1,c.2.2.2.1.2.1) else (c.2.1.1,c.2.1.2.1)
theorem specChange_eq (c:Change) (h:cl c):spec_l6Change.sem (c,())=some (chF c,()):=by
 refine lift_eq (k:=0) fun k _=>(spec_l6Change.raw_eq k _).trans ?_
 show spec_l6Change.p _=_
 unfold spec_l6Change.p chF sameKey
 simp only[specRow_eq _ h.1,specRow_eq _ h.2,Option.bind_some]
 cases c.1 <;> cases c.2.2.1 <;> by_cases h1:c.2.1.1=c.2.2.2.1.1 <;> by_cases h2:c.2.1.2.1=c.2.2.2.1.2.1 <;> by_cases h3:rowF c.2.1=0 <;> simp[h1,h2,h3]
theorem isBefore_eq (a b:Row):impl_IsBefore.sem (a,b,())=some (befB (a.1,a.2.1) (b.1,b.2.1),()):=by
 refine lift_eq (k:=0) fun k _=>(impl_IsBefore.raw_eq k _).trans ?_
 show impl_IsBefore.p _=_
 unfold impl_IsBefore.p befB
 by_cases h1:a.1 < b.1 <;> by_cases h2:a.1=b.1 <;> simp[h1,h2]
theorem order_eq (a b:Row):impl_order.sem (a,b,())=some (if befB (a.1,a.2.1) (b.1,b.2.1) then -1 else if befB (b.1,b.2.1) (a.1,a.2.1) then 1 else 0,()):=by
 refine lift_eq (k:=0) fun k _=>(impl_order.raw_eq k _).trans ?_
 show impl_order.p _=_
 unfold impl_order.p
 simp only[isBefore_eq,Option.bind_some]
 cases befB (a.1,a.2.1) (b.1,b.2.1) <;> cases befB (b.1,b.2.1) (a.1,a.2.1) <;> rfl
theorem order_zero (a b:Row):decide ((if befB (a.1,a.2.1) (b.1,b.2.1) then (-1:Int) else if befB (b.1,b.2.1) (a.1,a.2.1) then 1 else 0)=0)=sameKey a b:=by
 unfold befB sameKey
 by_cases h1:a.1 < b.1
 ·have:¬ a.1=b.1:=by omega
  simp[h1,this]
 ·by_cases h2:a.1=b.1
  ·by_cases h3:a.2.1 < b.2.1
   ·have:¬ a.2.1=b.2.1:=by omega
    simp[h2,h3,this]
   ·by_cases h4:b.2.1 < a.2.1
    ·have:¬ a.2.1=b.2.1:=by omega
     simp[h2,h3,h4,this]
    ·have:a.2.1=b.2.1:=by omega
     simp[h2,this]
  ·have:b.1 < a.1:=by omega
   simp[h1,h2,this]
theorem implChange_eq (c:Change) (h:cl c):impl_changeFault.sem (c,())=some (chF c,()):=by
 refine lift_eq (k:=0) fun k _=>(impl_changeFault.raw_eq k _).trans ?_
 show impl_changeFault.p _=_
 unfold impl_changeFault.p chF
 simp only[implRow_eq _ h.1,implRow_eq _ h.2,order_eq,Option.bind_some,order_zero]
 cases c.1 <;> cases c.2.2.1 <;> cases sameKey c.2.1 c.2.2.2.1 <;> by_cases h3:rowF c.2.1=0 <;> simp[h3]
theorem specChangeS_eq (c:Change) (h:cl c):spec_l9Change.sem (c,())=some (chS c,()):=by
 refine lift_eq (k:=0) fun k _=>(spec_l9Change.raw_eq k _).trans ?_
 show spec_l9Change.p _=_
 unfold spec_l9Change.p chS
 simp only[specChange_eq c h,Option.bind_some]
 by_cases h1:chF c=0
 ·simp only[h1,decide_true,Bool.not_true,cond_false,if_true]
  cases c.1 <;> cases c.2.2.1 <;> cases Ty.eq tRow c.2.1 c.2.2.2.1 <;> rfl
 ·simp[h1]
theorem single_eq (c:Change) (h:cl c):impl_singleFault.sem (c,())=some (chS c,()):=by
 refine lift_eq (k:=0) fun k _=>(impl_singleFault.raw_eq k _).trans ?_
 show impl_singleFault.p _=_
 unfold impl_singleFault.p chS
 simp only[implChange_eq c h,Option.bind_some]
 by_cases h1:chF c=0
 ·simp only[h1,decide_true,Bool.not_true,cond_false,if_true]
  cases c.1 <;> cases c.2.2.1 <;> cases Ty.eq tRow c.2.1 c.2.2.2.1 <;> rfl
 ·simp[h1]
theorem specKey_eq (c:Change):spec_l6Key.sem (c,())=some ((ck c).1,(ck c).2,()):=by
 refine lift_eq (k:=0) fun k _=>(spec_l6Key.raw_eq k _).trans ?_
 show spec_l6Key.p _=_
 unfold spec_l6Key.p ck
 cases c.2.2.1 <;> rfl
def keyRow (c:Change):Row:=if c.2.2.1 then c.2.2.2.1 else c.2.1
theorem keyRow_ck (c:Change):((keyRow c).1,(keyRow c).2.1)=ck c:=by unfold keyRow ck;cases c.2.2.1 <;> rfl
theorem implKey_eq (c:Change):impl_Change_key.sem (c,())=some (keyRow c,()):=by
 refine lift_eq (k:=0) fun k _=>(impl_Change_key.raw_eq k _).trans ?_
 show impl_Change_key.p _=_
 unfold impl_Change_key.p keyRow
 cases c.2.2.1 <;> rfl
theorem len60 (n:Nat) (m:Nat):decide ((m:Int) < (n:Int))=decide (m < n):=by
 by_cases h:m < n
 ·have:(m:Int) < (n:Int):=by omega
  simp[h,this]
 ·have:¬ (m:Int) < (n:Int):=by omega
  simp[h,this]
theorem wprev {i:Nat} (hi:0 < i) (h:i<=maxLen):w64 ((i:Int) - 1)=((i - 1:Nat):Int):=by
 rw[maxLen_val] at h
 rw[w64_in (by omega)];omega
theorem rl_ok {x:Row} (h:okD tRow x):rl x:=h.2.2.2.1
end OT
set_option linter.unusedVariables false
set_option linter.unusedSimpArgs false
namespace OT
open Go
def rk (x:Row):Int×Int:=(x.1,x.2.1)
theorem befB_iff (a b:Int×Int):befB a b=true↔a.1 < b.1\/(a.1=b.1/\a.2 < b.2):=by unfold befB;simp
theorem befB_trans {a b c:Int×Int} (h1:befB a b=true) (h2:befB b c=true):befB a c=true:=by
 rw[befB_iff] at *;omega
theorem befB_irr (a:Int×Int):befB a a=false:=by
 cases h:befB a a with
 | false=>rfl
 | true=>rw[befB_iff] at h;omega
theorem befB_tri {a b:Int×Int} (h1:befB a b=false) (h2:befB b a=false):a=b:=by
 have n1:¬ (a.1 < b.1\/(a.1=b.1/\a.2 < b.2)):=fun h=>by rw[(befB_iff a b).2 h] at h1;cases h1
 have n2:¬ (b.1 < a.1\/(b.1=a.1/\b.2 < a.2)):=fun h=>by rw[(befB_iff b a).2 h] at h2;cases h2
 have e1:a.1=b.1:=by omega
 have e2:a.2=b.2:=by omega
 obtain ⟨a1,a2⟩:=a
 obtain ⟨b1,b2⟩:=b
 simp only at e1 e2
 rw[e1,e2]
def up (xs:List Row):Prop:=xs.Pairwise (fun a b=>befB (rk a) (rk b)=true)
theorem up_cons {x:Row} {xs:List Row}:up (x::xs)↔(∀ y ∈ xs,befB (rk x) (rk y)=true)/\up xs:=List.pairwise_cons
def pos:List Row->Int×Int->Nat
 | [],_=>0
 | x::xs,k=>if befB (rk x) k then pos xs k+1 else 0
theorem pos_le:∀ (xs:List Row) (k:Int×Int),pos xs k<=xs.length
 | [],_=>Nat.le_refl _
 | x::xs,k=>by simp only[pos];split <;> simp[pos_le xs k]
theorem pos_lt:∀ (xs:List Row) (k:Int×Int) (i:Nat) (h:i < xs.length),i < pos xs k->befB (rk xs[i]) k=true
 | x::xs,k,i,h,hp=>by
  simp only[pos] at hp
  split at hp
  ·rename_i hx
   cases i with
   | zero=>exact hx
   | succ i=>exact pos_lt xs k i (by simpa using h) (by omega)
  ·omega
theorem up_not:∀ (xs:List Row) (k:Int×Int) (i:Nat) (h:i < xs.length),up xs->pos xs k<=i->befB (rk xs[i]) k=false
 | x::xs,k,i,h,hu,hp=>by
  simp only[pos] at hp
  split at hp
  ·cases i with
   | zero=>omega
   | succ i=>exact up_not xs k i (by simpa using h) (up_cons.1 hu).2 (by omega)
  ·rename_i hx
   have hx:befB (rk x) k=false:=by simpa using hx
   cases i with
   | zero=>exact hx
   | succ i=>
    have hi':i < xs.length:=by simpa using h
    have hm:befB (rk x) (rk xs[i])=true:=(up_cons.1 hu).1 _ (List.getElem_mem _)
    show befB (rk xs[i]) k=false
    cases hb:befB (rk xs[i]) k with
    | false=>rfl
    | true=>rw[befB_trans hm hb] at hx;cases hx
def fnd (xs:List Row) (k:Int×Int):Bool:=match xs[pos xs k]? with
 | some x=>decide (rk x=k)
 | none=>false
theorem fnd_lt {xs:List Row} {k:Int×Int} (h:fnd xs k=true):∃ hp:pos xs k < xs.length,rk xs[pos xs k]=k:=by
 unfold fnd at h
 split at h
 ·rename_i x hx
  obtain ⟨hp,e⟩:=List.getElem?_eq_some_iff.1 hx
  subst e
  exact ⟨hp,by simpa using h⟩
 ·cases h
theorem ord_lt (a b:Row):decide ((if befB (a.1,a.2.1) (b.1,b.2.1) then (-1:Int) else if befB (b.1,b.2.1) (a.1,a.2.1) then 1 else 0) < 0)=befB (rk a) (rk b):=by
 unfold rk
 cases befB (a.1,a.2.1) (b.1,b.2.1) <;> cases befB (b.1,b.2.1) (a.1,a.2.1) <;> rfl
theorem sameKey_rk (a b:Row):sameKey a b=decide (rk a=rk b):=by
 unfold sameKey rk
 by_cases h1:a.1=b.1 <;> by_cases h2:a.2.1=b.2.1 <;> simp[h1,h2]
theorem half (lo hi:Nat) (h:lo+hi<=4611686018427387904):w64 ((IntKind.wrap .u64 (w64 ((lo:Int)+(hi:Int)))).fdiv (2 ^ 1))=(((lo+hi) / 2:Nat):Int):=by
 have e1:w64 ((lo:Int)+(hi:Int))=((lo+hi:Nat):Int):=by rw[w64_in (by omega)];omega
 rw[e1]
 have e2:IntKind.wrap .u64 ((lo+hi:Nat):Int)=((lo+hi:Nat):Int):=by
  simp only[IntKind.wrap]
  first | rfl | (simp[IntKind.bits,IntKind.signed];omega) | omega
 rw[e2]
 have e3:(((lo+hi:Nat):Int)).fdiv (2 ^ 1)=(((lo+hi) / 2:Nat):Int):=by
  rw[Int.fdiv_eq_ediv_of_nonneg _ (by omega)]
  omega
 rw[e3,w64_in (by omega)]
theorem search_eq (xs:List Row) (key:Row) (f:Nat×Int) (hu:up xs) (hl:xs.length<=2000000):slices_BinarySearchFunc_Row.sem (xs,key,f,())=some ((pos xs (rk key):Int),fnd xs (rk key),()):=by
 have hp:=pos_le xs (rk key)
 have hq:slices_BinarySearchFunc_Row.Q0 0 (xs,key,f,()) (pos xs (rk key):Int)=some ((pos xs (rk key):Int),fnd xs (rk key),()):=by
  show slices_BinarySearchFunc_Row.q0 _ _=_
  unfold slices_BinarySearchFunc_Row.q0 fnd
  by_cases hlt:pos xs (rk key) < xs.length
  ·have h1:((pos xs (rk key):Nat):Int) < (xs.length:Int):=by omega
   simp only[h1,decide_true,cond_true,Int.natCast_nonneg,if_true,Int.toNat_natCast,List.getElem?_eq_getElem hlt,Option.bind_some,order_eq,order_zero,sameKey_rk]
  ·have h1:¬ ((pos xs (rk key):Nat):Int) < (xs.length:Int):=by omega
   simp only[h1,decide_false,cond_false]
   rw[List.getElem?_eq_none (by omega)]
 refine lift_eq (k:=xs.length+1) fun k hk=>(slices_BinarySearchFunc_Row.raw_eq k _).trans ?_
 refine rawIter_eq (B:=fun self v=>slices_BinarySearchFunc_Row.B0 0 self (fun z=>slices_BinarySearchFunc_Row.Q0 0 (xs,key,f,()) z) (xs,key,f,()) v) (fun _=>((pos xs (rk key):Int),fnd xs (rk key),()))
  (fun v=>∃ lo hi:Nat,v=((lo:Int),(hi:Int))/\lo<=pos xs (rk key)/\pos xs (rk key)<=hi/\hi<=xs.length) (fun v=>(v.2 - v.1).toNat) (fun v hv self=>?_) k (0,(xs.length:Int)) ⟨0,xs.length,rfl,by omega,hp,by omega⟩ (by simp;omega)
 obtain ⟨lo,hi,rfl,h1,h2,h3⟩:=hv
 by_cases hlt:lo < hi
 ·right
  have hlt':(lo:Int) < (hi:Int):=by omega
  have hm:(lo+hi) / 2 < xs.length:=by omega
  have hb:∀ self,slices_BinarySearchFunc_Row.B0 0 self (fun z=>slices_BinarySearchFunc_Row.Q0 0 (xs,key,f,()) z) (xs,key,f,()) ((lo:Int),(hi:Int))=if befB (rk xs[(lo+hi) / 2]) (rk key) then self (w64 ((((lo+hi) / 2:Nat):Int)+1),(hi:Int)) else self ((lo:Int),(((lo+hi) / 2:Nat):Int)):=fun self=>by
   show slices_BinarySearchFunc_Row.b0 _ _ _ _=_
   unfold slices_BinarySearchFunc_Row.b0
   simp only[hlt',decide_true,cond_true,half lo hi (by omega),Int.natCast_nonneg,if_true,Int.toNat_natCast,List.getElem?_eq_getElem hm,Option.bind_some,order_eq,ord_lt]
   cases befB (rk xs[(lo+hi) / 2]) (rk key) <;> rfl
  cases hc:befB (rk xs[(lo+hi) / 2]) (rk key) with
  | true=>
   refine ⟨((((lo+hi) / 2+1:Nat):Int),(hi:Int)),?_,rfl,⟨_,_,rfl,?_,h2,h3⟩,by simp only;omega⟩
   ·rw[hb,hc,if_pos rfl,w64_in (by omega)];rfl
   ·rcases Nat.lt_or_ge ((lo+hi) / 2) (pos xs (rk key)) with h | h
    ·omega
    ·rw[up_not xs _ _ hm hu h] at hc;cases hc
  | false=>
   refine ⟨((lo:Int),(((lo+hi) / 2:Nat):Int)),?_,rfl,⟨_,_,rfl,h1,?_,by omega⟩,by simp only;omega⟩
   ·rw[hb,hc];rfl
   ·rcases Nat.lt_or_ge ((lo+hi) / 2) (pos xs (rk key)) with h | h
    ·rw[pos_lt xs _ _ hm h] at hc;cases hc
    ·exact h
 ·left
  have e:lo=pos xs (rk key):=by omega
  have hlt':¬ (lo:Int) < (hi:Int):=by omega
  show slices_BinarySearchFunc_Row.b0 _ _ _ _=_
  unfold slices_BinarySearchFunc_Row.b0
  simp only[hlt',decide_false,cond_false]
  rw[e]
  exact hq
def fits1 (xs:List Row) (c:Change):Bool:=(fnd xs (ck c) == c.1)&&(!fnd xs (ck c)||(match xs[pos xs (ck c)]? with | some x=>Ty.eq tRow x c.2.1 | none=>true))
def done1 (xs:List Row) (c:Change):List Row:=xs.take (pos xs (ck c))++(if c.2.2.1 then [c.2.2.2.1] else [])++xs.drop (pos xs (ck c)+if fnd xs (ck c) then 1 else 0)
theorem rk_key (c:Change):rk (keyRow c)=ck c:=keyRow_ck c
theorem fitsTo_eq (c:Change) (xs:List Row) (hu:up xs) (hl:xs.length<=2000000):impl_Change_fitsTo.sem (c,xs,())=some (fits1 xs c,()):=by
 refine lift_eq (k:=0) fun k _=>(impl_Change_fitsTo.raw_eq k _).trans ?_
 show impl_Change_fitsTo.p _=_
 unfold impl_Change_fitsTo.p fits1
 simp only[implKey_eq,search_eq xs _ _ hu hl,rk_key,Option.bind_some]
 cases hf:fnd xs (ck c) with
 | false=>cases c.1 <;> rfl
 | true=>
  obtain ⟨hp,hk⟩:=fnd_lt hf
  simp only[Int.natCast_nonneg,if_true,Int.toNat_natCast,List.getElem?_eq_getElem hp,Option.bind_some]
  cases c.1 <;> rfl
theorem changed_eq (xs:List Row) (c:Change) (hu:up xs) (hl:xs.length<=2000000):impl_changed.sem (xs,c,())=some (done1 xs c,()):=by
 refine lift_eq (k:=0) fun k _=>(impl_changed.raw_eq k _).trans ?_
 show impl_changed.p _=_
 unfold impl_changed.p done1
 have hp:=pos_le xs (ck c)
 have hpi:0<=((pos xs (ck c):Nat):Int)/\((pos xs (ck c):Nat):Int)<=(xs.length:Int):=by omega
 have c1:([]:List Row).length+(List.take (pos xs (ck c)) xs).length<=CAP:=cap_ok (by simp;omega)
 simp only[implKey_eq,search_eq xs _ _ hu hl,rk_key,Option.bind_some,hpi,and_self,if_true,Int.toNat_natCast,c1,List.drop_zero,List.nil_append,List.take_length]
 have c2:(List.take (pos xs (ck c)) xs).length+[c.2.2.2.1].length<=CAP:=cap_ok (by simp;omega)
 have hd:∀ (p7:List Row) (n:Nat),p7.length<=2000001->p7.length+(List.drop n xs).length<=CAP:=fun p7 n h=>cap_ok (by rw[List.length_drop];omega)
 have hw:w64 (((pos xs (ck c):Nat):Int)+1)=((pos xs (ck c)+1:Nat):Int):=by rw[w64_in (by omega)];rfl
 have c3:=hd (List.take (pos xs (ck c)) xs++[c.2.2.2.1])
 have c4:=hd (List.take (pos xs (ck c)) xs)
 have l3:(List.take (pos xs (ck c)) xs++[c.2.2.2.1]).length<=2000001:=by simp;omega
 have l4:(List.take (pos xs (ck c)) xs).length<=2000001:=by simp;omega
 cases hf:fnd xs (ck c) with
 | false=>
  cases c.2.2.1 with
  | false=>simp only[cond_false,hpi,and_self,if_true,Int.toNat_natCast,c4 _ l4,Bool.false_eq_true,if_false,List.append_nil,Nat.add_zero]
  | true=>simp only[cond_true,cond_false,c2,hpi,and_self,if_true,Int.toNat_natCast,c3 _ l3,Bool.false_eq_true,if_false,Nat.add_zero]
 | true=>
  obtain ⟨hpl,_⟩:=fnd_lt hf
  have hpi2:0<=((pos xs (ck c)+1:Nat):Int)/\((pos xs (ck c)+1:Nat):Int)<=(xs.length:Int):=by omega
  cases c.2.2.1 with
  | false=>simp only[cond_true,cond_false,hw,hpi2,and_self,if_true,Int.toNat_natCast,c4 _ l4,Bool.false_eq_true,if_false,List.append_nil]
  | true=>simp only[cond_true,cond_false,c2,hw,hpi2,and_self,if_true,Int.toNat_natCast,c3 _ l3]
theorem specBefore_eq (a b:Row):spec_l1Before.sem (a,b,())=some (befB (rk a) (rk b),()):=by
 refine lift_eq (k:=0) fun k _=>(spec_l1Before.raw_eq k _).trans ?_
 show spec_l1Before.p _=_
 unfold spec_l1Before.p befB rk
 by_cases h1:a.1 < b.1 <;> by_cases h2:a.1=b.1 <;> simp[h1,h2]
theorem fnd_cons_lt {x:Row} {xs:List Row} {k:Int×Int} (h:befB (rk x) k=true):fnd (x::xs) k=fnd xs k:=by
 unfold fnd
 simp only[pos,h,if_true,List.getElem?_cons_succ]
theorem fnd_mem {xs:List Row} {k:Int×Int} (h:fnd xs k=true):∃ y ∈ xs,rk y=k:=by
 obtain ⟨hp,hk⟩:=fnd_lt h
 exact ⟨_,List.getElem_mem hp,hk⟩
theorem at_forI (k:Int×Int):∀ (xs:List Row) (j:Nat),up xs->forI (fun i (_:Unit) x=>if rk x=k then .inl ((i:Int),()) else .inr ()) (fun _=>((-1:Int),())) j xs ()=if fnd xs k then (((j+pos xs k:Nat):Int),()) else (-1,())
 | [],j,_=>by simp[forI,fnd]
 | x::xs,j,hu=>by
  have hu:=up_cons.1 hu
  simp only[forI]
  by_cases hx:rk x=k
  ·have hb:befB (rk x) k=false:=by rw[hx];exact befB_irr k
   have hf:fnd (x::xs) k=true:=by
    have hp0:pos (x::xs) k=0:=by simp only[pos,hb,Bool.false_eq_true,if_false]
    unfold fnd
    rw[hp0]
    simp[hx]
   simp[hx,hf,pos,befB_irr]
  ·simp only[hx,if_false]
   rw[at_forI k xs (j+1) hu.2]
   cases hb:befB (rk x) k with
   | true=>
    rw[fnd_cons_lt hb]
    simp only[pos,hb,if_true]
    have:j+1+pos xs k=j+(pos xs k+1):=by omega
    rw[this]
   | false=>
    have h1:fnd (x::xs) k=false:=by simp[fnd,pos,hb,hx]
    have h2:fnd xs k=false:=by
     cases h:fnd xs k with
     | false=>rfl
     | true=>
      obtain ⟨y,hy,e⟩:=fnd_mem h
      have:=hu.1 y hy
      rw[e,hb] at this;cases this
    simp[h1,h2]
def atI (xs:List Row) (k:Int×Int):Int:=if fnd xs k then (pos xs k:Int) else -1
theorem specAt_eq (xs:List Row) (t k:Int) (hu:up xs) (hl:xs.length<=2000000):spec_l6At.sem (xs,t,k,())=some (atI xs (t,k),()):=by
 refine lift_eq (k:=xs.length+1) fun f hf=>(spec_l6At.raw_eq f _).trans ?_
 have:=for_loop (B:=fun self v=>spec_l6At.B0 0 self (fun z=>spec_l6At.Q0 0 (xs,t,k,()) z) (xs,t,k,()) v) xs (fun (_:Unit) (i:Int)=>i) (fun i _ x=>if rk x=(t,k) then .inl ((i:Int),()) else .inr ()) (fun _=>((-1:Int),())) (fun _ _=>True) (by rw[maxLen_val];omega)
  (fun i hi _ self _=>by
   show spec_l6At.b0 _ _ _ _=_
   unfold spec_l6At.b0 rk
   have hlt:(i:Int) < (xs.length:Int):=by omega
   simp only[hlt,decide_true,cond_true,Int.natCast_nonneg,if_true,Int.toNat_natCast,List.getElem?_eq_getElem hi,Option.bind_some]
   by_cases h1:xs[i].1=t <;> by_cases h2:xs[i].2.1=k <;> simp[h1,h2]) (fun _ _ _ _ _ _=>trivial) (fun _ self _=>by
   show spec_l6At.b0 _ _ _ _=_
   unfold spec_l6At.b0
   simp[spec_l6At.Q0,spec_l6At.q0]) () trivial f (by omega)
 rw[at_forI (t,k) xs 0 hu] at this
 have this:spec_l6At.r0 f (xs,t,k,()) 0=_:=this
 unfold spec_l6At.p
 rw[this]
 unfold atI
 cases fnd xs (t,k) <;> simp <;> rfl
theorem pos_forI {O:Type} (k:Int×Int) (g:Nat->O) (n:Nat):∀ (xs:List Row) (j:Nat),j+xs.length=n->forI (fun i (_:Unit) x=>if befB (rk x) k then .inr () else .inl (g i)) (fun _=>g n) j xs ()=g (j+pos xs k)
 | [],j,h=>by simp[forI,pos] at *;rw[h]
 | x::xs,j,h=>by
  simp only[forI,pos]
  cases hb:befB (rk x) k with
  | true=>
   simp only[if_true]
   rw[pos_forI k g n xs (j+1) (by simp at h;omega)]
   congr 1;omega
  | false=>simp
def put1 (xs:List Row) (r:Row):List Row:=xs.take (pos xs (rk r))++[r]++xs.drop (pos xs (rk r))
theorem specPut_eq (xs:List Row) (r:Row) (hl:xs.length<=2000000):spec_l6Put.sem (xs,r,())=some (put1 xs r,()):=by
 refine lift_eq (k:=xs.length+1) fun f hf=>(spec_l6Put.raw_eq f _).trans ?_
 have hq:∀ i:Nat,i<=xs.length->spec_l6Put.Q0 0 (xs,r,()) (i:Int)=some (xs.take i++[r]++xs.drop i,()):=fun i hi=>by
  show spec_l6Put.q0 _ _=_
  unfold spec_l6Put.q0
  have hpi:0<=(i:Int)/\(i:Int)<=(xs.length:Int):=by omega
  have c1:([]:List Row).length+(List.take i xs).length<=CAP:=cap_ok (by simp;omega)
  have c2:(List.take i xs).length+[r].length<=CAP:=cap_ok (by simp;omega)
  have c3:(List.take i xs++[r]).length+(List.drop i xs).length<=CAP:=cap_ok (by simp;omega)
  simp only[hpi,and_self,if_true,Int.toNat_natCast,c1,List.drop_zero,List.nil_append,List.take_length,c2,c3]
 have:=for_loop (B:=fun self v=>spec_l6Put.B0 0 self (fun z=>spec_l6Put.Q0 0 (xs,r,()) z) (xs,r,()) v) xs (fun (_:Unit) (i:Int)=>i) (fun i _ x=>if befB (rk x) (rk r) then .inr () else .inl (xs.take i++[r]++xs.drop i,())) (fun _=>(xs.take xs.length++[r]++xs.drop xs.length,())) (fun _ _=>True) (by rw[maxLen_val];omega)
  (fun i hi _ self _=>by
   show spec_l6Put.b0 _ _ _ _=_
   unfold spec_l6Put.b0
   have hlt:(i:Int) < (xs.length:Int):=by omega
   simp only[hlt,decide_true,cond_true,Int.natCast_nonneg,if_true,Int.toNat_natCast,List.getElem?_eq_getElem hi,Option.bind_some,specBefore_eq]
   cases befB (rk xs[i]) (rk r) with
   | true=>rfl
   | false=>exact hq i (by omega)) (fun _ _ _ _ _ _=>trivial) (fun _ self _=>by
   show spec_l6Put.b0 _ _ _ _=_
   unfold spec_l6Put.b0
   have hlt:¬ (xs.length:Int) < (xs.length:Int):=by omega
   simp only[hlt,decide_false,cond_false]
   exact hq _ (Nat.le_refl _)) () trivial f (by omega)
 rw[pos_forI (rk r) (fun i=>(xs.take i++[r]++xs.drop i,())) xs.length xs 0 (by omega)] at this
 refine this.trans ?_
 simp[put1]
theorem rem_forI (t:Int):∀ (xs:List Row) (j:Nat) (s:List Row),forI (O:=List Row×Unit) (fun i s x=>if (i:Int)=t then .inr s else .inr (s++[x])) (fun s=>(s,())) j xs s=(s++(if (j:Int)<=t/\t < j+xs.length then xs.take (t - j).toNat++xs.drop ((t - j).toNat+1) else xs),())
 | [],j,s=>by
  have:¬ ((j:Int)<=t/\t < j+(([]:List Row).length:Int)):=fun h=>by
   have h2:(([]:List Row).length:Int)=0:=rfl
   omega
  simp only[forI,this,if_false,List.append_nil]
 | x::xs,j,s=>by
  simp only[forI]
  by_cases h:(j:Int)=t
  ·have h1:¬ (((j+1:Nat):Int)<=t/\t < ((j+1:Nat):Int)+(xs.length:Int)):=by omega
   have h2:(j:Int)<=t/\t < (j:Int)+((x::xs).length:Int):=by simp;omega
   have h3:(t - j).toNat=0:=by omega
   simp only[h,if_true]
   rw[rem_forI t xs (j+1) s,if_neg h1]
   rw[<-h] at h2 ⊢
   have h3:((j:Int) - j).toNat=0:=by omega
   rw[if_pos h2,h3]
   simp
  ·simp only[h,if_false]
   rw[rem_forI t xs (j+1) (s++[x])]
   by_cases hc:(j:Int)<=t/\t < (j:Int)+((x::xs).length:Int)
   ·have hc2:((j+1:Nat):Int)<=t/\t < ((j+1:Nat):Int)+(xs.length:Int):=by simp at hc;omega
    have h3:(t - j).toNat=(t - ((j+1:Nat):Int)).toNat+1:=by omega
    rw[if_pos hc,if_pos hc2,h3]
    simp
   ·have hc2:¬ (((j+1:Nat):Int)<=t/\t < ((j+1:Nat):Int)+(xs.length:Int)):=by simp at hc;omega
    rw[if_neg hc,if_neg hc2]
    simp
def rem1 (xs:List Row) (k:Int×Int):List Row:=if fnd xs k then xs.take (pos xs k)++xs.drop (pos xs k+1) else xs
theorem pos_append (k:Int×Int):∀ (l1 l2:List Row),(∀ x ∈ l1,befB (rk x) k=true)->pos (l1++l2) k=l1.length+pos l2 k
 | [],l2,_=>by simp
 | x::l1,l2,h=>by
  simp only[List.cons_append,pos,h x List.mem_cons_self,if_true,List.length_cons]
  rw[pos_append k l1 l2 fun y hy=>h y (List.mem_cons_of_mem _ hy)]
  omega
theorem take_bef {xs:List Row} {k:Int×Int} {x:Row} (h:x ∈ xs.take (pos xs k)):befB (rk x) k=true:=by
 obtain ⟨i,hi,e⟩:=List.mem_iff_getElem.1 h
 have hp:=pos_le xs k
 rw[List.length_take] at hi
 rw[List.getElem_take] at e
 rw[<-e]
 exact pos_lt xs k i (by omega) (by omega)
theorem pos_drop {xs:List Row} {k:Int×Int} (hu:up xs) {n:Nat} (hn:pos xs k<=n):pos (xs.drop n) k=0:=by
 cases hd:xs.drop n with
 | nil=>rfl
 | cons y ys=>
  have hlt:n < xs.length:=by
   rcases Nat.lt_or_ge n xs.length with h | h
   ·exact h
   ·rw[List.drop_eq_nil_of_le h] at hd;cases hd
  rw[List.drop_eq_getElem_cons hlt] at hd
  injection hd with h1 h2
  simp only[pos]
  rw[<-h1,up_not xs k n hlt hu hn]
  rfl
theorem put_rem {xs:List Row} {k:Int×Int} {r:Row} (hu:up xs) (hk:rk r=k):put1 (rem1 xs k) r=xs.take (pos xs k)++[r]++xs.drop (pos xs k+if fnd xs k then 1 else 0):=by
 have hp:=pos_le xs k
 have key:∀ n,pos xs k<=n->pos (xs.take (pos xs k)++xs.drop n) k=pos xs k:=fun n hn=>by
  rw[pos_append k _ _ fun x hx=>take_bef hx,pos_drop hu hn,List.length_take]
  omega
 have hl:(xs.take (pos xs k)).length=pos xs k:=by rw[List.length_take];omega
 unfold put1 rem1
 rw[hk]
 cases fnd xs k with
 | true=>
  simp only[if_true]
  rw[key _ (by omega),List.take_left' hl,List.drop_left' hl]
 | false=>
  simp
theorem specDo_eq (xs:List Row) (c:Change) (hu:up xs) (hl:xs.length<=2000000) (hc:c.2.2.1=true->rk c.2.2.2.1=ck c):spec_l6Do.sem (xs,c,())=some (if fits1 xs c then (done1 xs c,true,()) else ([],false,())):=by
 refine lift_eq (k:=xs.length+1) fun f hf=>(spec_l6Do.raw_eq f _).trans ?_
 have hp:=pos_le xs (ck c)
 have hlp:=for_loop (B:=fun self v=>spec_l6Do.B0 0 self (fun z=>spec_l6Do.Q0 0 (xs,c,()) (atI xs (ck c)) z) (xs,c,()) (atI xs (ck c)) v) (O:=List Row×Bool×Unit) xs (fun (s:List Row) (i:Int)=>(s,i)) (fun i s x=>if (i:Int)=atI xs (ck c) then .inr s else .inr (s++[x]))
  (fun s=>(if c.2.2.1 then put1 s c.2.2.2.1 else s,true,())) (fun i s=>s.length<=i) (by rw[maxLen_val];omega)
  (fun i hi s self hI=>by
   show spec_l6Do.b0 _ _ _ _ _=_
   unfold spec_l6Do.b0
   have hlt:(i:Int) < (xs.length:Int):=by omega
   simp only[hlt,decide_true,cond_true,Int.natCast_nonneg,if_true,Int.toNat_natCast,List.getElem?_eq_getElem hi,Option.bind_some]
   have c2:s.length+[xs[i]].length<=CAP:=cap_ok (by simp;omega)
   by_cases h:(i:Int)=atI xs (ck c)
   ·simp[h]
   ·simp only[h,decide_false,Bool.not_false,cond_true,c2,if_true,if_false]) (fun i hi s s' hI hf=>by
   split at hf <;> (injection hf with hf;rw[<-hf];first | omega | (simp;omega))) (fun s self hI=>by
   show spec_l6Do.b0 _ _ _ _ _=_
   unfold spec_l6Do.b0
   have hlt:¬ (xs.length:Int) < (xs.length:Int):=by omega
   simp only[hlt,decide_false,cond_false,spec_l6Do.Q0,spec_l6Do.q0,specPut_eq s _ (by omega),Option.bind_some]
   cases c.2.2.1 <;> rfl) [] (Nat.le_refl _) f (by omega)
 have hfin:∀ (xs0:List Row) (j:Nat) (s:List Row),forI (O:=List Row×Bool×Unit) (fun i s x=>if (i:Int)=atI xs (ck c) then .inr s else .inr (s++[x])) (fun s=>(if c.2.2.1 then put1 s c.2.2.2.1 else s,true,())) j xs0 s
   = (fun s=>(if c.2.2.1 then put1 s c.2.2.2.1 else s,true,())) (forI (O:=List Row×Unit) (fun i s x=>if (i:Int)=atI xs (ck c) then .inr s else .inr (s++[x])) (fun s=>(s,())) j xs0 s).1:=by
  intro xs0
  induction xs0 with
  | nil=>intro j s;rfl
  | cons x xs0 ih=>
   intro j s
   simp only[forI]
   by_cases h:(j:Int)=atI xs (ck c)
   ·simp only[h,if_true];exact ih _ _
   ·simp only[h,if_false];exact ih _ _
 rw[hfin,rem_forI (atI xs (ck c)) xs 0 []] at hlp
 have hrem:([]++(if ((0:Nat):Int)<=atI xs (ck c)/\atI xs (ck c) < ((0:Nat):Int)+(xs.length:Int) then xs.take (atI xs (ck c) - ((0:Nat):Int)).toNat++xs.drop ((atI xs (ck c) - ((0:Nat):Int)).toNat+1) else xs))=rem1 xs (ck c):=by
  unfold atI rem1
  cases hfd:fnd xs (ck c) with
  | true=>
   obtain ⟨hpl,_⟩:=fnd_lt hfd
   simp only[if_true]
   rw[if_pos (by omega)]
   have:(((pos xs (ck c):Nat):Int) - ((0:Nat):Int)).toNat=pos xs (ck c):=by omega
   rw[this];rfl
  | false=>simp
 simp only[hrem] at hlp
 have hlp:spec_l6Do.r0 f (xs,c,()) (atI xs (ck c)) (([]:List Row),(0:Int))=_:=hlp
 unfold spec_l6Do.p fits1
 simp only[specKey_eq,specAt_eq xs _ _ hu hl,Option.bind_some,hlp]
 have hdone:(if c.2.2.1 then put1 (rem1 xs (ck c)) c.2.2.2.1 else rem1 xs (ck c))=done1 xs c:=by
  unfold done1
  cases hi:c.2.2.1 with
  | true=>simp only[if_true];exact put_rem hu (hc hi)
  | false=>
   simp only[Bool.false_eq_true,if_false,List.append_nil]
   unfold rem1
   cases fnd xs (ck c) with
   | true=>simp
   | false=>simp
 rw[hdone]
 cases hfd:fnd xs (ck c) with
 | true=>
  obtain ⟨hpl,hk⟩:=fnd_lt hfd
  have ha:atI xs (ck c)=(pos xs (ck c):Int):=by unfold atI;rw[hfd];rfl
  simp only[ha,Int.natCast_nonneg,decide_true,cond_true,if_true,Int.toNat_natCast,List.getElem?_eq_getElem hpl,Option.bind_some]
  cases c.1 with
  | true=>cases Ty.eq tRow xs[pos xs (ck c)] c.2.1 <;> rfl
  | false=>rfl
 | false=>
  have ha:atI xs (ck c)=-1:=by unfold atI;rw[hfd];rfl
  simp only[ha]
  cases c.1 <;> rfl
end OT
set_option linter.unusedVariables false
set_option linter.unusedSimpArgs false
namespace OT
open Go
def rowsStep (xs:List Row) (i:Nat) (x:Row):Sum (Int×Unit) Unit:=
 if rowF x=0 then (if 0 < i then (match xs[i - 1]? with | some y=>if befB (rk y) (rk x) then .inr () else .inl (1,()) | none=>.inl (1,())) else .inr ()) else .inl (rowF x,())
def rowsF (xs:List Row):Int:=if 60 < xs.length then 2 else (forI (fun i (_:Unit) x=>rowsStep xs i x) (fun _=>((0:Int),())) 0 xs ()).1
theorem specRows_eq (xs:List Row) (hl:xs.length<=maxLen) (h:∀ c ∈ xs,rl c):spec_l6Rows.sem (xs,())=some (rowsF xs,()):=by
 refine lift_eq (k:=xs.length+1) fun k hk=>(spec_l6Rows.raw_eq k _).trans ?_
 have:=for_loop (B:=fun self v=>spec_l6Rows.B0 0 self (fun z=>spec_l6Rows.Q0 0 (xs,()) z) (xs,()) v) xs (fun (_:Unit) (i:Int)=>i) (fun i _ x=>rowsStep xs i x) (fun _=>(0,())) (fun _ _=>True) hl
  (fun i hi _ self _=>by
   show spec_l6Rows.b0 _ _ _ _=_
   unfold spec_l6Rows.b0 rowsStep
   have hlt:(i:Int) < (xs.length:Int):=by omega
   simp only[hlt,decide_true,cond_true,Int.natCast_nonneg,if_true,Int.toNat_natCast,List.getElem?_eq_getElem hi,Option.bind_some,specRow_eq _ (h _ (List.getElem_mem hi))]
   by_cases h1:rowF xs[i]=0
   ·simp only[h1,decide_true,Bool.not_true,cond_false,if_true]
    by_cases h0:0 < i
    ·have h0':(0:Int) < (i:Int):=by omega
     have hi':i - 1 < xs.length:=by omega
     simp only[h0,h0',decide_true,cond_true,if_true,wprev h0 (by omega),Int.natCast_nonneg,Int.toNat_natCast,List.getElem?_eq_getElem hi',Option.bind_some,specBefore_eq]
     cases befB (rk xs[i - 1]) (rk xs[i]) <;> rfl
    ·have h0':¬ (0:Int) < (i:Int):=by omega
     simp[h0,h0']
   ·simp[h1]) (fun _ _ _ _ _ _=>trivial) (fun _ self _=>by
   show spec_l6Rows.b0 _ _ _ _=_
   unfold spec_l6Rows.b0
   simp[spec_l6Rows.Q0,spec_l6Rows.q0]) () trivial k (by omega)
 have this:spec_l6Rows.r0 k (xs,()) 0=_:=this
 unfold spec_l6Rows.p rowsF
 rw[this,show (60:Int)=((60:Nat):Int) from rfl]
 simp only[len60]
 by_cases h1:60 < xs.length <;> simp[h1] <;> rfl
theorem implRows_eq (xs:List Row) (hl:xs.length<=maxLen) (h:∀ c ∈ xs,rl c):impl_RowsFault.sem (xs,())=some (rowsF xs,()):=by
 refine lift_eq (k:=xs.length+1) fun k hk=>(impl_RowsFault.raw_eq k _).trans ?_
 have:=for_loop (B:=fun self v=>impl_RowsFault.B0 0 self (fun z=>impl_RowsFault.Q0 0 (xs,()) z) (xs,()) v) xs (fun (_:Unit) (i:Int)=>i) (fun i _ x=>rowsStep xs i x) (fun _=>(0,())) (fun _ _=>True) hl
  (fun i hi _ self _=>by
   show impl_RowsFault.b0 _ _ _ _=_
   unfold impl_RowsFault.b0 rowsStep rk
   have hlt:(i:Int) < (xs.length:Int):=by omega
   simp only[hlt,decide_true,cond_true,Int.natCast_nonneg,if_true,Int.toNat_natCast,List.getElem?_eq_getElem hi,Option.bind_some,implRow_eq _ (h _ (List.getElem_mem hi))]
   by_cases h1:rowF xs[i]=0
   ·simp only[h1,decide_true,Bool.not_true,cond_false,if_true]
    by_cases h0:0 < i
    ·have h0':(0:Int) < (i:Int):=by omega
     have hi':i - 1 < xs.length:=by omega
     simp only[h0,h0',decide_true,cond_true,if_true,wprev h0 (by omega),Int.natCast_nonneg,Int.toNat_natCast,List.getElem?_eq_getElem hi',Option.bind_some,isBefore_eq]
     cases befB (xs[i - 1].1,xs[i - 1].2.1) (xs[i].1,xs[i].2.1) <;> rfl
    ·have h0':¬ (0:Int) < (i:Int):=by omega
     simp[h0,h0']
   ·simp[h1]) (fun _ _ _ _ _ _=>trivial) (fun _ self _=>by
   show impl_RowsFault.b0 _ _ _ _=_
   unfold impl_RowsFault.b0
   simp[impl_RowsFault.Q0,impl_RowsFault.q0]) () trivial k (by omega)
 have this:impl_RowsFault.r0 k (xs,()) 0=_:=this
 unfold impl_RowsFault.p rowsF
 rw[this,show (60:Int)=((60:Nat):Int) from rfl]
 simp only[len60]
 by_cases h1:60 < xs.length <;> simp[h1] <;> rfl
theorem forI_none {α:Type} {f:Nat->Unit->α->Sum (Int×Unit) Unit} (hf:∀ i s x o,f i s x=.inl o->o.1≠0):∀ (xs:List α) (j:Nat),(forI f (fun _=>((0:Int),())) j xs ()).1=0->∀ i (hi:i < xs.length),f (j+i) () xs[i]=.inr ()
 | x::xs,j,h,i,hi=>by
  simp only[forI] at h
  cases hx:f j () x with
  | inl o=>rw[hx] at h;exact absurd h (hf _ _ _ _ hx)
  | inr u=>
   rw[hx] at h
   cases i with
   | zero=>exact hx
   | succ i=>
    have:=forI_none hf xs (j+1) h i (by simpa using hi)
    rw[show j+(i+1)=j+1+i by omega]
    exact this
theorem up_adj:∀ (xs:List Row),(∀ i (hi:i < xs.length),0 < i->befB (rk (xs[i - 1]'(by omega))) (rk xs[i])=true)->up xs
 | [],_=>List.Pairwise.nil
 | [x],_=>List.pairwise_singleton _ _
 | x::y::xs,h=>by
  have hu:up (y::xs):=up_adj (y::xs) fun i hi h0=>by
   have:=h (i+1) (by simp at hi ⊢;omega) (by omega)
   simp only[Nat.add_sub_cancel] at this
   have e:(x::y::xs)[i]'(by simp at hi ⊢;omega)=(y::xs)[i - 1]'(by simp at hi ⊢;omega):=by
    cases i with
    | zero=>omega
    | succ i=>rfl
   rw[e] at this
   exact this
  have hxy:befB (rk x) (rk y)=true:=h 1 (by simp) (by omega)
  refine up_cons.2 ⟨fun z hz=>?_,hu⟩
  rcases List.mem_cons.1 hz with rfl | hz
  ·exact hxy
  ·exact befB_trans hxy ((up_cons.1 hu).1 z hz)
theorem rowF_text {x:Row} (h:rowF x=0):List.length x.2.2.2.1<=8:=by
 unfold rowF at h
 split at h
 ·split at h
  ·rename_i ht
   unfold textB at ht
   simp only[Bool.and_eq_true,decide_eq_true_eq] at ht
   exact ht.2
  ·cases h
 ·cases h
structure Good (xs:List Row):Prop where
 up:up xs
 ok:∀ x ∈ xs,rowF x=0
theorem rowsF_good {xs:List Row} (h:rowsF xs=0):Good xs/\xs.length<=60:=by
 unfold rowsF at h
 split at h
 ·cases h
 ·rename_i hl
  have hn:=forI_none (f:=fun i (_:Unit) x=>rowsStep xs i x) (fun i s x o ho=>by
   unfold rowsStep at ho
   split at ho
   ·split at ho
    ·split at ho
     ·split at ho
      ·cases ho
      ·injection ho with ho;rw[<-ho];decide
     ·injection ho with ho;rw[<-ho];decide
    ·cases ho
   ·rename_i hx
    injection ho with ho;rw[<-ho];exact hx) xs 0 h
  have h1:∀ i (hi:i < xs.length),rowF xs[i]=0:=fun i hi=>by
   have:=hn i hi
   unfold rowsStep at this
   split at this
   ·assumption
   ·cases this
  refine ⟨⟨up_adj xs fun i hi h0=>?_,fun x hx=>?_⟩,by omega⟩
  ·have:=hn i hi
   unfold rowsStep at this
   rw[if_pos (h1 i hi),Nat.zero_add,if_pos h0,List.getElem?_eq_getElem (show i - 1 < xs.length by omega)] at this
   simp only at this
   split at this
   ·assumption
   ·cases this
  ·obtain ⟨i,hi,rfl⟩:=List.mem_iff_getElem.1 hx
   exact h1 i hi
theorem chF_key {c:Change} (h:chF c=0):(c.2.2.1=true->rk c.2.2.2.1=ck c)/\(c.2.2.1=true->rowF c.2.2.2.1=0):=by
 refine ⟨fun hi=>by unfold rk ck;rw[hi];rfl,fun hi=>?_⟩
 unfold chF at h
 split at h
 ·cases h
 ·split at h
  ·rename_i h2
   simp only[Bool.and_eq_true,Bool.not_eq_true',decide_eq_false_iff_not] at h2
   exact absurd h h2.2
  ·first | exact h | (rw[if_pos hi] at h;exact h)
theorem good_done {xs:List Row} {c:Change} (h:Good xs) (hc:chF c=0):Good (done1 xs c):=by
 obtain ⟨hk,hr⟩:=chF_key hc
 have hb:=h.up
 constructor
 ·unfold done1 up
  have h1:(xs.take (pos xs (ck c))).Pairwise (fun a b=>befB (rk a) (rk b)=true):=hb.sublist (List.take_sublist _ _)
  have hdr:∀ n,(xs.drop n).Pairwise (fun a b=>befB (rk a) (rk b)=true):=fun n=>hb.sublist (List.drop_sublist _ _)
  have hafter:∀ y ∈ xs.drop (pos xs (ck c)+if fnd xs (ck c) then 1 else 0),befB (ck c) (rk y)=true:=fun y hy=>by
   obtain ⟨i,e⟩:=List.mem_iff_getElem?.1 hy
   rw[List.getElem?_drop] at e
   obtain ⟨hlt,e1⟩:=List.getElem?_eq_some_iff.1 e
   have hn:=up_not xs (ck c) _ hlt hb (by omega)
   rw[e1] at hn
   clear e1 hlt
   cases hbb:befB (ck c) (rk y) with
   | true=>rfl
   | false=>
    have he:=befB_tri hbb hn
    exfalso
    cases hf:fnd xs (ck c) with
    | true=>
     obtain ⟨hp,hkk⟩:=fnd_lt hf
     rw[hf] at e
     simp only[if_true] at e
     obtain ⟨hlt,e⟩:=List.getElem?_eq_some_iff.1 e
     have:=List.pairwise_iff_getElem.1 hb (pos xs (ck c)) (pos xs (ck c)+1+i) hp hlt (by omega)
     rw[e,hkk,he] at this
     rw[befB_irr] at this;cases this
    | false=>
     rw[hf] at e
     simp only[Bool.false_eq_true,if_false,Nat.add_zero] at e
     obtain ⟨hlt,e⟩:=List.getElem?_eq_some_iff.1 e
     have hp:pos xs (ck c) < xs.length:=by omega
     have hn0:=up_not xs (ck c) _ hp hb (Nat.le_refl _)
     have hne:rk xs[pos xs (ck c)]≠ck c:=fun e2=>by
      unfold fnd at hf
      rw[List.getElem?_eq_getElem hp] at hf
      simp[e2] at hf
     have hlt0:befB (ck c) (rk xs[pos xs (ck c)])=true:=by
      cases hb0:befB (ck c) (rk xs[pos xs (ck c)]) with
      | true=>rfl
      | false=>exact absurd (befB_tri hb0 hn0).symm hne
     cases i with
     | zero=>
      simp only[Nat.add_zero] at e
      rw[e,<- he,befB_irr] at hlt0;cases hlt0
     | succ i=>
      have:=List.pairwise_iff_getElem.1 hb (pos xs (ck c)) (pos xs (ck c)+(i+1)) hp hlt (by omega)
      rw[e] at this
      have:=befB_trans hlt0 this
      rw[<-he,befB_irr] at this;cases this
  have hcross:∀ a ∈ xs.take (pos xs (ck c)),∀ y ∈ xs.drop (pos xs (ck c)+if fnd xs (ck c) then 1 else 0),befB (rk a) (rk y)=true:=fun a ha y hy=>befB_trans (take_bef ha) (hafter y hy)
  cases hi:c.2.2.1 with
  | true=>
   have hkc:=hk hi
   simp only[if_true]
   refine List.pairwise_append.2 ⟨List.pairwise_append.2 ⟨h1,List.pairwise_singleton _ _,fun a ha b hb=>?_⟩,hdr _,fun a ha y hy=>?_⟩
   ·rw[List.mem_singleton] at hb;subst hb;rw[hkc];exact take_bef ha
   ·rcases List.mem_append.1 ha with ha | ha
    ·exact hcross a ha y hy
    ·rw[List.mem_singleton] at ha;subst ha;rw[hkc];exact hafter y hy
  | false=>
   simp only[Bool.false_eq_true,if_false,List.append_nil]
   exact List.pairwise_append.2 ⟨h1,hdr _,hcross⟩
 ·intro x hx
  unfold done1 at hx
  rcases List.mem_append.1 hx with hx | hx
  ·rcases List.mem_append.1 hx with hx | hx
   ·exact h.ok x (List.mem_of_mem_take hx)
   ·split at hx
    ·rename_i hi
     rw[List.mem_singleton] at hx
     rw[hx];exact hr hi
    ·cases hx
  ·exact h.ok x (List.mem_of_mem_drop hx)
theorem done_len (xs:List Row) (c:Change):(done1 xs c).length<=xs.length+1:=by
 unfold done1
 rw[List.length_append,List.length_append,List.length_take,List.length_drop]
 have:(if c.2.2.1=true then [c.2.2.2.1] else []).length<=1:=by split <;> simp
 omega
def applyStep (i:Nat) (s:List Row) (c:Change):Sum (RowsResult×Unit) (List Row):=if chF c=0 then (if fits1 s c then .inr (done1 s c) else .inl ((8,[],()),())) else .inl ((chF c,[],()),())
def applyFin (s:List Row):RowsResult×Unit:=if 60 < s.length then ((2,[],()),()) else ((0,s,()),())
def applyF (xs:List Row) (cs:List Change):RowsResult:=if rowsF xs=0 then (forI applyStep applyFin 0 cs xs).1 else (rowsF xs,[],())
theorem applyInv (n i:Nat) (s s':List Row) (c:Change) (h:Good s/\s.length<=60+i) (hf:applyStep n s c=.inr s'):Good s'/\s'.length<=60+(i+1):=by
 unfold applyStep at hf
 split at hf
 ·rename_i hc
  split at hf
  ·injection hf with hf
   subst hf
   exact ⟨good_done h.1 hc,by have:=done_len s c;omega⟩
  ·cases hf
 ·cases hf
theorem cloneRow_eq (xs:List Row) (h:xs.length<=1048576):slices_Clone_Row.sem (xs,())=some (xs,()):=by
 refine lift_eq (k:=0) fun k _=>(slices_Clone_Row.raw_eq k _).trans ?_
 show slices_Clone_Row.p _=_
 unfold slices_Clone_Row.p
 have c1:([]:List Row).length+xs.length<=CAP:=cap_ok (by simp only[List.length_nil];omega)
 exact nilB_eq (fun e=>by have e:xs=[]:=e;subst e;rfl) (by rw[if_pos c1];rfl)
theorem implApply_eq (xs:List Row) (cs:List Change) (hl:xs.length<=maxLen) (h:∀ x ∈ xs,rl x) (hcl:cs.length<=1048576) (hc:∀ c ∈ cs,cl c):impl_ApplyChanges.sem (xs,cs,())=some (applyF xs cs,()):=by
 refine lift_eq (k:=cs.length+1) fun k hk=>(impl_ApplyChanges.raw_eq k _).trans ?_
 unfold impl_ApplyChanges.p applyF
 simp only[implRows_eq xs hl h,Option.bind_some]
 by_cases h0:rowsF xs=0
 ·obtain ⟨hg,hn⟩:=rowsF_good h0
  simp only[h0,decide_true,Bool.not_true,cond_false,if_true,cloneRow_eq xs (by omega),Option.bind_some]
  exact for_loop (B:=fun self v=>impl_ApplyChanges.B0 0 self (fun z=>impl_ApplyChanges.Q0 0 (xs,cs,()) z) (xs,cs,()) v) cs (fun (s:List Row) (i:Int)=>(s,i)) applyStep applyFin (fun i s=>Good s/\s.length<=60+i) (by rw[maxLen_val];omega)
   (fun i hi s self hI=>by
    show impl_ApplyChanges.b0 _ _ _ _=_
    unfold impl_ApplyChanges.b0 applyStep
    have hlt:(i:Int) < (cs.length:Int):=by omega
    simp only[hlt,decide_true,cond_true,Int.natCast_nonneg,if_true,Int.toNat_natCast,List.getElem?_eq_getElem hi,Option.bind_some,implChange_eq _ (hc _ (List.getElem_mem hi)),fitsTo_eq _ s hI.1.up (by omega),changed_eq s _ hI.1.up (by omega)]
    by_cases h1:chF cs[i]=0
    ·simp only[h1,decide_true,Bool.not_true,cond_false,if_true]
     cases fits1 s cs[i] <;> rfl
    ·simp[h1]) (fun i hi s s' hI hf=>applyInv _ i s s' _ hI hf) (fun s self hI=>by
    show impl_ApplyChanges.b0 _ _ _ _=_
    unfold impl_ApplyChanges.b0 applyFin
    have hlt:¬ (cs.length:Int) < (cs.length:Int):=by omega
    simp only[hlt,decide_false,cond_false,impl_ApplyChanges.Q0,impl_ApplyChanges.q0]
    rw[show (60:Int)=((60:Nat):Int) from rfl,len60]
    by_cases h1:60 < s.length <;> simp[h1]) xs ⟨hg,by omega⟩ k (by omega)
 ·simp[h0];(try rfl)
theorem good_zz:∀ {xs:List Row},(∀ x ∈ xs,rowF x=0)->zz (.slc tRow) xs<=9*xs.length
 | [],_=>Nat.le_refl _
 | x::xs,h=>by
  have h1:zz (.slc tRow) (x::xs:List Row)=zz tRow x+1+zz (.slc tRow) xs:=zz_cons (e:=tRow) x xs
  have h2:=rowF_text (h x List.mem_cons_self)
  have h3:zz tRow x=0+(0+(0+(List.length x.2.2.2.1+0))):=rfl
  have h4:=good_zz fun y hy=>h y (List.mem_cons_of_mem _ hy)
  simp only[List.length_cons]
  omega
end OT
set_option linter.unusedVariables false
set_option linter.unusedSimpArgs false
set_option linter.unusedSectionVars false
namespace OT
open Go
theorem fnd_at {xs:List Row} {k:Int×Int} (hu:up xs) {i:Nat} (hi:i < xs.length) (hk:rk xs[i]=k):fnd xs k=true/\pos xs k=i:=by
 have h1:¬ i < pos xs k:=fun hlt=>by
  have:=pos_lt xs k i hi hlt
  rw[hk,befB_irr] at this
  cases this
 have hp:pos xs k < xs.length:=by omega
 have h2:pos xs k=i:=by
  by_cases he:pos xs k=i
  ·exact he
  ·have h3:=List.pairwise_iff_getElem.1 hu (pos xs k) i hp hi (by omega)
   have h4:=up_not xs k (pos xs k) hp hu (Nat.le_refl _)
   rw[hk] at h3
   rw[h3] at h4
   cases h4
 refine ⟨?_,h2⟩
 unfold fnd
 rw[h2,List.getElem?_eq_getElem hi]
 simpa using hk
theorem done_mem {xs:List Row} (hu:up xs) (c:Change) (r:Row):r ∈ done1 xs c↔(r ∈ xs/\rk r≠ck c)\/(c.2.2.1=true/\r=c.2.2.2.1):=by
 have key:(r ∈ xs.take (pos xs (ck c))\/r ∈ xs.drop (pos xs (ck c)+if fnd xs (ck c) then 1 else 0))↔(r ∈ xs/\rk r≠ck c):=by
  constructor
  ·rintro (h | h)
   ·exact ⟨List.mem_of_mem_take h,fun he=>by have:=take_bef h;rw[he,befB_irr] at this;cases this⟩
   ·refine ⟨List.mem_of_mem_drop h,fun he=>?_⟩
    obtain ⟨i,hi,hr⟩:=List.getElem_of_mem h
    rw[List.getElem_drop] at hr
    rw[List.length_drop] at hi
    obtain ⟨f1,f2⟩:=fnd_at hu (i:=pos xs (ck c)+(if fnd xs (ck c) then 1 else 0)+i) (k:=ck c) (by omega) (by rw[hr];exact he)
    rw[f1] at f2
    simp only[if_true] at f2
    omega
  ·rintro ⟨h,hne⟩
   obtain ⟨i,hi,hr⟩:=List.getElem_of_mem h
   by_cases h1:i < pos xs (ck c)
   ·left
    rw[List.mem_take_iff_getElem]
    exact ⟨i,by omega,hr⟩
   ·right
    rw[List.mem_drop_iff_getElem]
    by_cases hf:fnd xs (ck c)=true
    ·rw[if_pos hf]
     obtain ⟨hp,hk⟩:=fnd_lt hf
     have:i≠pos xs (ck c):=fun he=>hne (by subst he;rw[<-hr];exact hk)
     exact ⟨i - (pos xs (ck c)+1),by omega,by rw[<-hr];congr 1;omega⟩
    ·rw[if_neg hf]
     exact ⟨i - (pos xs (ck c)+0),by omega,by rw[<-hr];congr 1;omega⟩
 unfold done1
 rw[List.mem_append,List.mem_append]
 constructor
 ·rintro ((h | h) | h)
  ·exact .inl (key.1 (.inl h))
  ·cases hi:c.2.2.1 with
   | true=>rw[hi] at h;exact .inr ⟨rfl,List.mem_singleton.1 h⟩
   | false=>rw[hi] at h;cases h
  ·exact .inl (key.1 (.inr h))
 ·rintro (h | ⟨hi,rfl⟩)
  ·rcases key.2 h with h | h
   ·exact .inl (.inl h)
   ·exact .inr h
  ·rw[hi];exact .inl (.inr (List.mem_singleton.2 rfl))
theorem row_eq {a b:Row} (h:Ty.eq tRow a b=true):a=b:=by
 have e:Ty.eq tRow a b=(decide (a.1=b.1)&&(decide (a.2.1=b.2.1)&&(decide (a.2.2.1=b.2.2.1)&&(decide (a.2.2.2.1=b.2.2.2.1)&&true)))):=rfl
 rw[e] at h
 simp only[Bool.and_eq_true,decide_eq_true_eq,and_true] at h
 obtain ⟨a1,a2,a3,a4,⟨⟩⟩:=a
 obtain ⟨b1,b2,b3,b4,⟨⟩⟩:=b
 obtain ⟨h1,h2,h3,h4⟩:=h
 simp only at h1 h2 h3 h4
 rw[h1,h2,h3,h4]
end OT
