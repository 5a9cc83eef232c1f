/- The proof's parts, merged: Printed by gen.py, a program of this claim  what each Go function computes.. No conditions but those that each states. -/
import Derived.Test.YthpkgnffmmmhiaaGreatSd
import Derived.Test.YthpkgnffmmmhiaaGreatProg
import Derived.KernelRfl
set_option maxRecDepth 100000
set_option linter.unusedVariables false
namespace OT
open Go Go.Proofs.Tryz
abbrev L1Src:Type:=((List UInt8)×Int×Unit)
abbrev tL1Src:Ty:=(tupT [(.slc u8),i64])
abbrev Row:Type:=(Int×Int×Int×(List UInt8)×Unit)
abbrev tRow:Ty:=(tupT [i64,i64,i64,.str])
abbrev CellResult:Type:=(Int×Int×Int×Int×Row×Unit)
abbrev tCellResult:Ty:=(tupT [i64,i64,i64,i64,tRow])
abbrev L6Spot:Type:=(Int×Int×CellResult×Unit)
abbrev tL6Spot:Ty:=(tupT [i64,i64,tCellResult])
abbrev Edit:Type:=(Int×(List UInt8)×Unit)
abbrev tEdit:Ty:=(tupT [i64,(.slc u8)])
abbrev EditsResult:Type:=(Int×(List Edit)×(List (List UInt8))×Unit)
abbrev tEditsResult:Ty:=(tupT [i64,(.slc tEdit),(.slc (.slc u8))])
abbrev L7Work:Type:=((List (List UInt8))×(List Edit)×Unit)
abbrev tL7Work:Ty:=(tupT [(.slc (.slc u8)),(.slc tEdit)])
abbrev Seen:Type:=(Row×Int×Int×Bool×Int×Int×Unit)
abbrev tSeen:Ty:=(tupT [tRow,i64,i64,.bool,i64,i64])
abbrev PageResult:Type:=(Int×Int×(List UInt8)×Unit)
abbrev tPageResult:Ty:=(tupT [i64,i64,(.slc u8)])
abbrev RowsResult:Type:=(Int×(List Row)×Unit)
abbrev tRowsResult:Ty:=(tupT [i64,(.slc tRow)])
abbrev PlaceResult:Type:=(Int×Int×Int×Row×Unit)
abbrev tPlaceResult:Ty:=(tupT [i64,i64,i64,tRow])
abbrev Change:Type:=(Bool×Row×Bool×Row×Unit)
abbrev tChange:Ty:=(tupT [.bool,tRow,.bool,tRow])
abbrev ChangesResult:Type:=(Int×(List Change)×Unit)
abbrev tChangesResult:Ty:=(tupT [i64,(.slc tChange)])
abbrev Key:Type:=(Int×Int×Unit)
abbrev tKey:Ty:=(tupT [i64,i64])
abbrev Tx:Type:=(Int×(List Change)×(List Int)×(List Key)×Unit)
abbrev tTx:Ty:=(tupT [i64,(.slc tChange),(.slc i64),(.slc tKey)])
abbrev Plain:Type:=((List Row)×(List Tx)×Int×Unit)
abbrev tPlain:Ty:=(tupT [(.slc tRow),(.slc tTx),i64])
abbrev PlainResult:Type:=(Int×Int×Plain×Unit)
abbrev tPlainResult:Ty:=(tupT [i64,i64,tPlain])
abbrev ChangeResult:Type:=(Int×Bool×Change×Unit)
abbrev tChangeResult:Ty:=(tupT [i64,.bool,tChange])
abbrev Op:Type:=(Int×Int×Row×Int×Unit)
abbrev tOp:Ty:=(tupT [i64,i64,tRow,i64])
abbrev RunResult:Type:=(Int×(List Int)×(List Int)×Plain×Unit)
abbrev tRunResult:Ty:=(tupT [i64,(.slc i64),(.slc i64),tPlain])
abbrev TxsResult:Type:=(Int×(List Tx)×Unit)
abbrev tTxsResult:Ty:=(tupT [i64,(.slc tTx)])
abbrev Record:Type:=(Int×Int×Int×(List Edit)×Unit)
abbrev tRecord:Ty:=(tupT [i64,i64,i64,(.slc tEdit)])
abbrev Miner:Type:=((List (List UInt8))×(List ChangesResult)×Unit)
abbrev tMiner:Ty:=(tupT [(.slc (.slc u8)),(.slc tChangesResult)])
abbrev MinerResult:Type:=(Int×Bool×Bool×Int×(List Change)×Miner×Unit)
abbrev tMinerResult:Ty:=(tupT [i64,.bool,.bool,i64,(.slc tChange),tMiner])
abbrev MinedResult:Type:=(Int×(List ChangesResult)×Miner×Unit)
abbrev tMinedResult:Ty:=(tupT [i64,(.slc tChangesResult),tMiner])
noncomputable def TL0:TL:=[(22,(.slc u8)),(2,i64),(26,tRow),(5,u8),(24,(.slc (.slc u8))),(3,i64),(159,tCellResult),(31,tEditsResult),(9,.str),(161,tL6Spot),(33,(.slc tRow)),(29,(.slc tEdit)),(382,tL7Work),(147,tSeen),(267,tL7Work),(272,(.slc tL6Spot)),(73,(.slc i64)),(142,(.slc tSeen)),(189,tEdit),(372,tPageResult),(35,tRowsResult),(38,tPlaceResult),(170,(.slc .str)),(260,tL1Src),(4,.bool),(363,(.arr 64 .bool)),(365,(.map (.arr 2 i64) tRow)),(366,(.arr 2 i64)),(368,(.map (.arr 2 i64) .bool))]
theorem tlOk:(tiOk prog TL0&&eqOkL prog TL0)=true:=by kernel_rfl
namespace laws_lwBig
abbrev Arg:Type:=(List UInt8)×Unit
abbrev Out:Type:=Bool×Unit
abbrev ps:PQ:=[(.ro,(.slc u8))]
noncomputable def D:FD:={ fn:=f13,tl:=TL0,ps:=ps,rs:=[(.bool,(roMd .bool))] }
noncomputable def sem (a:Arg):Option Out:=@lift Out fun k=>D.W k a
noncomputable def p (a1:Arg):Option Out:=some (decide ((1048576:Int) < (a1.1.length:Int)),())
theorem raw_eq (k:Nat) (a1:Arg):@Eq (Option Out) (D.W k a1) (p a1):=by kernel_rfl
theorem ok:Ok prog 13 D.sig:=fd_ok func13 tlOk (by kernel_rfl) (fn_nil _)
end laws_lwBig
namespace spec_l1Source
abbrev Arg:Type:=(List UInt8)×Unit
abbrev Out:Type:=L1Src×Unit
abbrev ps:PQ:=[(.ro,(.slc u8))]
noncomputable def D:FD:={ fn:=f83,tl:=TL0,ps:=ps,rs:=[((.ptr tL1Src),(.ptr true (roMd tL1Src)))] }
noncomputable def sem (a:Arg):Option Out:=@lift Out fun k=>D.W k a
noncomputable def p (a1:Arg):Option Out:=some ((a1.1,(0:Int),()),())
theorem raw_eq (k:Nat) (a1:Arg):@Eq (Option Out) (D.W k a1) (p a1):=by kernel_rfl
theorem ok:Ok prog 83 D.sig:=fd_ok func83 tlOk (by kernel_rfl) (fn_nil _)
end spec_l1Source
namespace spec_l1Next
abbrev Arg:Type:=L1Src×Int×Unit
abbrev Out:Type:=Int×L1Src×Unit
abbrev ps:PQ:=[(.mutp (roMd tL1Src),tL1Src),(.ro,i64)]
noncomputable def D:FD:={ fn:=f101,tl:=TL0,ps:=ps,rs:=[(i64,(roMd i64))],es:=[0],od:=[(8,[0,1,2,3,4,5,6,7,8,9,10,11,12,13,14,15]),(10,[0,1,2,3,4,5,6,7,8,9,10,11,12,13,14,15,16,17])] }
noncomputable def sem (a:Arg):Option Out:=@lift Out fun k=>D.W k a
noncomputable def p (a1:Arg):Option Out:=bif decide (a1.2.1 < (1:Int)) then (some ((0:Int),(a1.1.1,w64 (a1.1.2.1+(1:Int)),a1.1.2.2),())) else bif decide ((a1.1.1.length:Int)=(0:Int)) then (if a1.2.1=0 then none else some ((w64 ((w64 ((w64 (a1.1.2.1+(1:Int))) - (1:Int)))*(7:Int))).tmod a1.2.1,(a1.1.1,w64 (a1.1.2.1+(1:Int)),a1.1.2.2),())) else if (a1.1.1.length:Int)=0 then none else if 0<=(w64 ((w64 (a1.1.2.1+(1:Int))) - (1:Int))).tmod (a1.1.1.length:Int) then ((a1.1.1[((w64 ((w64 (a1.1.2.1+(1:Int))) - (1:Int))).tmod (a1.1.1.length:Int)).toNat]?).bind fun x2=>if (a1.1.1.length:Int)=0 then none else let j5:=fun (p4:Int)=>(if a1.2.1=0 then none else some (p4.tmod a1.2.1,(a1.1.1,w64 (a1.1.2.1+(1:Int)),a1.1.2.2),()):Option Out);bif decide ((200:Int) < a1.2.1) then (if (a1.1.1.length:Int)=0 then none else if 0<=(w64 ((w64 ((w64 (a1.1.2.1+(1:Int))) - (1:Int)))+(1:Int))).tmod (a1.1.1.length:Int) then ((a1.1.1[((w64 ((w64 ((w64 (a1.1.2.1+(1:Int))) - (1:Int)))+(1:Int))).tmod (a1.1.1.length:Int)).toNat]?).bind fun x3=>j5 (w64 ((w64 ((w64 ((w64 ((w64 (x2.toNat:Int))+(w64 ((w64 ((w64 ((w64 (a1.1.2.1+(1:Int))) - (1:Int))).tdiv (a1.1.1.length:Int)))*(37:Int)))))*(251:Int)))+(w64 ((w64 (x3.toNat:Int))*(13:Int)))))+(w64 ((w64 (a1.1.2.1+(1:Int))) - (1:Int)))))) else none) else j5 (w64 ((w64 (x2.toNat:Int))+(w64 ((w64 ((w64 ((w64 (a1.1.2.1+(1:Int))) - (1:Int))).tdiv (a1.1.1.length:Int)))*(37:Int)))))) else none
theorem raw_eq (k:Nat) (a1:Arg):@Eq (Option Out) (D.W k a1) (p a1):=by kernel_rfl
theorem ok:Ok prog 101 D.sig:=fd_ok func101 tlOk (by kernel_rfl) (fn_nil _)
end spec_l1Next
namespace spec_l1Chance
abbrev Arg:Type:=L1Src×Int×Unit
abbrev Out:Type:=Bool×L1Src×Unit
abbrev ps:PQ:=[(.mutp (roMd tL1Src),tL1Src),(.ro,i64)]
noncomputable def D:FD:={ fn:=f99,tl:=TL0,ps:=ps,rs:=[(.bool,(roMd .bool))],gl:=[(101,spec_l1Next.D.sig)],es:=[0] }
noncomputable def sem (a:Arg):Option Out:=@lift Out fun k=>D.W k a
noncomputable def p (a1:Arg):Option Out:=(spec_l1Next.sem (a1.1,a1.2.1,())).bind fun r2=>some (decide (r2.1=(0:Int)),r2.2.1,())
theorem raw_eq (k:Nat) (a1:Arg):@Eq (Option Out) (D.W k a1) (p a1):=by kernel_rfl
theorem ok:Ok prog 99 D.sig:=fd_ok func99 tlOk (by kernel_rfl) (fc spec_l1Next.ok (fn_nil _))
end spec_l1Chance
namespace spec_l1Pick
abbrev Arg:Type:=L1Src×(List Int)×Unit
abbrev Out:Type:=Int×L1Src×Unit
abbrev ps:PQ:=[(.mutp (roMd tL1Src),tL1Src),(.ro,(.slc i64))]
noncomputable def D:FD:={ fn:=f117,tl:=TL0,ps:=ps,rs:=[(i64,(roMd i64))],gl:=[(101,spec_l1Next.D.sig)],es:=[0] }
noncomputable def sem (a:Arg):Option Out:=@lift Out fun k=>D.W k a
noncomputable def p (a1:Arg):Option Out:=(spec_l1Next.sem (a1.1,(a1.2.1.length:Int),())).bind fun r2=>if 0<=r2.1 then ((a1.2.1[r2.1.toNat]?).bind fun x3=>some (x3,r2.2.1,())) else none
theorem raw_eq (k:Nat) (a1:Arg):@Eq (Option Out) (D.W k a1) (p a1):=by kernel_rfl
theorem ok:Ok prog 117 D.sig:=fd_ok func117 tlOk (by kernel_rfl) (fc spec_l1Next.ok (fn_nil _))
end spec_l1Pick
namespace spec_l1Draw
abbrev Arg:Type:=L1Src×Unit
abbrev Out:Type:=Row×L1Src×Unit
abbrev ps:PQ:=[(.mutp (roMd tL1Src),tL1Src)]
noncomputable def D:FD:={ fn:=f186,tl:=TL0,ps:=ps,rs:=[(tRow,(roMd tRow))],gl:=[(101,spec_l1Next.D.sig),(117,spec_l1Pick.D.sig)],es:=[0] }
noncomputable def sem (a:Arg):Option Out:=@lift Out fun k=>D.W k a
noncomputable def p (a1:Arg):Option Out:=(spec_l1Next.sem (a1.1,(3:Int),())).bind fun r2=>(spec_l1Next.sem (r2.2.1,(6:Int),())).bind fun r3=>(spec_l1Next.sem (r3.2.1,(9:Int),())).bind fun r4=>(spec_l1Pick.sem (r4.2.1,[r4.1,(300:Int),(999:Int)],())).bind fun r5=>(spec_l1Next.sem (r5.2.1,(4:Int),())).bind fun r6=>if 0<=r6.1/\r6.1 < ([([]:List UInt8),([97]:List UInt8),([97,98,99]:List UInt8),([97,98,99,100,101,102,103,104]:List UInt8)].length:Int) then (([([]:List UInt8),([97]:List UInt8),([97,98,99]:List UInt8),([97,98,99,100,101,102,103,104]:List UInt8)][r6.1.toNat]?).bind fun x7=>some ((r2.1,w64 ((1:Int)+r3.1),r5.1,x7,()),r6.2.1,())) else none
theorem raw_eq (k:Nat) (a1:Arg):@Eq (Option Out) (D.W k a1) (p a1):=by kernel_rfl
theorem ok:Ok prog 186 D.sig:=fd_ok func186 tlOk (by kernel_rfl) (fc spec_l1Next.ok (fc spec_l1Pick.ok (fn_nil _)))
end spec_l1Draw
namespace spec_l1Cell
abbrev Arg:Type:=Int×Row×Unit
abbrev Out:Type:=(List UInt8)×Unit
abbrev ps:PQ:=[(.ro,i64),(.ro,(.ptr tRow))]
noncomputable def D:FD:={ fn:=f202,tl:=TL0,ps:=ps,rs:=[((.slc u8),(ownMd (.slc u8)))],od:=[(1,[0,1,2,3,4,5,6,7,8,9,10,11,12,13,14,15,16,17,18,19,20,21,22,23,24,25,26,27,28,29,30,31])] }
noncomputable def sem (a:Arg):Option Out:=@lift Out fun k=>D.W k a
noncomputable def p (a1:Arg):Option Out:=if a1.2.1.2.2.2.1.length<=CAP then (if [UInt8.ofInt a1.1,UInt8.ofInt a1.2.1.1,UInt8.ofInt a1.2.1.2.1,UInt8.ofInt (w64 (a1.2.1.2.2.1.tdiv (256:Int))),UInt8.ofInt (a1.2.1.2.2.1.tmod (256:Int)),UInt8.ofInt (a1.2.1.2.2.2.1.length:Int)].length+a1.2.1.2.2.2.1.length<=CAP then (let y2:=[UInt8.ofInt a1.1,UInt8.ofInt a1.2.1.1,UInt8.ofInt a1.2.1.2.1,UInt8.ofInt (w64 (a1.2.1.2.2.1.tdiv (256:Int))),UInt8.ofInt (a1.2.1.2.2.1.tmod (256:Int)),UInt8.ofInt (a1.2.1.2.2.2.1.length:Int)]++a1.2.1.2.2.2.1;some (y2,())) else none) else none
theorem raw_eq (k:Nat) (a1:Arg):@Eq (Option Out) (D.W k a1) (p a1):=by kernel_rfl
theorem ok:Ok prog 202 D.sig:=fd_ok func202 tlOk (by kernel_rfl) (fn_nil _)
end spec_l1Cell
namespace spec_l1Stub
abbrev Arg:Type:=Int×Int×Unit
abbrev Out:Type:=(List UInt8)×Unit
abbrev ps:PQ:=[(.ro,i64),(.ro,i64)]
noncomputable def D:FD:={ fn:=f210,tl:=TL0,ps:=ps,rs:=[((.slc u8),(ownMd (.slc u8)))] }
noncomputable def sem (a:Arg):Option Out:=@lift Out fun k=>D.W k a
noncomputable def p (a1:Arg):Option Out:=some ([(1:UInt8),UInt8.ofInt a1.1,UInt8.ofInt a1.2.1],())
theorem raw_eq (k:Nat) (a1:Arg):@Eq (Option Out) (D.W k a1) (p a1):=by kernel_rfl
theorem ok:Ok prog 210 D.sig:=fd_ok func210 tlOk (by kernel_rfl) (fn_nil _)
end spec_l1Stub
namespace spec_l1Before
abbrev Arg:Type:=Row×Row×Unit
abbrev Out:Type:=Bool×Unit
abbrev ps:PQ:=[(.ro,(.ptr tRow)),(.ro,(.ptr tRow))]
noncomputable def D:FD:={ fn:=f302,tl:=TL0,ps:=ps,rs:=[(.bool,(roMd .bool))],od:=[(1,[0,1,2,3,4,5,6,7,8,9,10,11,12,13,14,15,16,17,18,19,20,21,22,23,24,25,26,27,28,29,30,31])] }
noncomputable def sem (a:Arg):Option Out:=@lift Out fun k=>D.W k a
noncomputable def p (a1:Arg):Option Out:=bif decide (a1.1.1 < a1.2.1.1) then (some (true,())) else bif decide (a1.1.1=a1.2.1.1) then (some (decide (a1.1.2.1 < a1.2.1.2.1),())) else some (false,())
theorem raw_eq (k:Nat) (a1:Arg):@Eq (Option Out) (D.W k a1) (p a1):=by kernel_rfl
theorem ok:Ok prog 302 D.sig:=fd_ok func302 tlOk (by kernel_rfl) (fn_nil _)
end spec_l1Before
namespace spec_l6Put
abbrev Arg:Type:=(List Row)×Row×Unit
abbrev Out:Type:=(List Row)×Unit
abbrev ps:PQ:=[(.ro,(.slc tRow)),(.ro,tRow)]
noncomputable def D:FD:={ fn:=f204,tl:=TL0,ps:=ps,rs:=[((.slc tRow),(ownMd (.slc tRow)))],gl:=[(302,spec_l1Before.D.sig)],lv:=[(2,[0,3,5])],lx:=[(0,[0,3,5])],od:=[(5,[0,1,4,5,6,2,3,7,8])] }
noncomputable def sem (a:Arg):Option Out:=@lift Out fun k=>D.W k a
noncomputable def T0 (a1:Arg) (v402:Int):St:={ n:=32,sl:=[(0,.val (.slc tRow) a1.1),(3,.box tRow (roMd tRow) [] a1.2.1),(5,.val i64 v402)],vr:=[],lent:=[] }
noncomputable def b0 (self:Int->Option Out) (e0:Int->Option Out) (a1:Arg) (v402:Int):Option Out:=bif decide (v402 < (a1.1.length:Int)) then (if 0<=v402 then ((a1.1[v402.toNat]?).bind fun x603=>(spec_l1Before.sem (x603,a1.2.1,())).bind fun r604=>bif r604.1 then (self (w64 (v402+(1:Int)))) else e0 v402) else none) else e0 v402
noncomputable abbrev B0 (_:Nat):=b0
noncomputable def q0 (a1:Arg) (z605:Int):Option Out:=if 0<=z605/\z605<=(a1.1.length:Int) then (if ([]:List Row).length+((a1.1.take z605.toNat).drop 0).length<=CAP then (let y606:=([]:List Row)++((a1.1.take z605.toNat).drop 0);if 0<=z605/\z605<=(a1.1.length:Int) then (if y606.length+[a1.2.1].length<=CAP then (if (y606++[a1.2.1]).length+((a1.1.take a1.1.length).drop z605.toNat).length<=CAP then (let y607:=(y606++[a1.2.1])++((a1.1.take a1.1.length).drop z605.toNat);some (y607,())) else none) else none) else none) else none) else none
noncomputable abbrev Q0 (_:Nat):=q0
noncomputable def s0 (k:Nat) (a1:Arg):(Int)->Option Out:=fun v402=>D.L k [1,1,0,0,0] [0,3,5] [] (blockC 0 (seqC (D.N k [1,1,1]) D.K0)) (T0 a1 v402)
noncomputable def r0 (k:Nat) (a1:Arg):(Int)->Option Out:=rawIter (fun w v=>B0 k w (Q0 k a1) a1 v) k
theorem s0_eq (k:Nat) (a1:Arg):s0 k a1=r0 k a1:=
 funext fun v402=>iter_raw _ _ _ (T0 a1) _ (fun rec v=>by kernel_rfl) k v402
noncomputable def p (l0:(Int)->Option Out) (a1:Arg):Option Out:=l0 (0:Int)
theorem raw_eq (k:Nat) (a1:Arg):@Eq (Option Out) (D.W k a1) (p (r0 k a1) a1):=
 Eq.trans (b:=p (s0 k a1) a1) (by kernel_rfl) (by rw[s0_eq])
theorem ok:Ok prog 204 D.sig:=fd_ok func204 tlOk (by kernel_rfl) (fc spec_l1Before.ok (fn_nil _))
end spec_l6Put
namespace spec_l6At
abbrev Arg:Type:=(List Row)×Int×Int×Unit
abbrev Out:Type:=Int×Unit
abbrev ps:PQ:=[(.ro,(.slc tRow)),(.ro,i64),(.ro,i64)]
noncomputable def D:FD:={ fn:=f211,tl:=TL0,ps:=ps,rs:=[(i64,(roMd i64))],lv:=[(2,[0,1,2,7])],lx:=[(0,[])] }
noncomputable def sem (a:Arg):Option Out:=@lift Out fun k=>D.W k a
noncomputable def T0 (a1:Arg) (v402:Int):St:={ n:=31,sl:=[(0,.val (.slc tRow) a1.1),(1,.val i64 a1.2.1),(2,.val i64 a1.2.2.1),(7,.val i64 v402)],vr:=[],lent:=[] }
noncomputable def b0 (self:Int->Option Out) (e0:(Unit)->Option Out) (a1:Arg) (v402:Int):Option Out:=bif decide (v402 < (a1.1.length:Int)) then (if 0<=v402 then ((a1.1[v402.toNat]?).bind fun x603=>bif decide (x603.1=a1.2.1) then (if 0<=v402 then ((a1.1[v402.toNat]?).bind fun x604=>bif decide (x604.2.1=a1.2.2.1) then (some (v402,())) else self (w64 (v402+(1:Int)))) else none) else self (w64 (v402+(1:Int)))) else none) else e0 ()
noncomputable abbrev B0 (_:Nat):=b0
noncomputable def q0 (a1:Arg) (z605:(Unit)):Option Out:=some ((-1:Int),())
noncomputable abbrev Q0 (_:Nat):=q0
noncomputable def s0 (k:Nat) (a1:Arg):(Int)->Option Out:=fun v402=>D.L k [1,0,1,0,0] [0,1,2,7] [] (blockC 0 (seqC (D.N k [1,1]) D.K0)) (T0 a1 v402)
noncomputable def r0 (k:Nat) (a1:Arg):(Int)->Option Out:=rawIter (fun w v=>B0 k w (Q0 k a1) a1 v) k
theorem s0_eq (k:Nat) (a1:Arg):s0 k a1=r0 k a1:=
 funext fun v402=>iter_raw _ _ _ (T0 a1) _ (fun rec v=>by kernel_rfl) k v402
noncomputable def p (l0:(Int)->Option Out) (a1:Arg):Option Out:=l0 (0:Int)
theorem raw_eq (k:Nat) (a1:Arg):@Eq (Option Out) (D.W k a1) (p (r0 k a1) a1):=
 Eq.trans (b:=p (s0 k a1) a1) (by kernel_rfl) (by rw[s0_eq])
theorem ok:Ok prog 211 D.sig:=fd_ok func211 tlOk (by kernel_rfl) (fn_nil _)
end spec_l6At
namespace spec_l6DrawRows
abbrev Arg:Type:=L1Src×Unit
abbrev Out:Type:=(List Row)×L1Src×Unit
abbrev ps:PQ:=[(.mutp (roMd tL1Src),tL1Src)]
noncomputable def D:FD:={ fn:=f106,tl:=TL0,ps:=ps,rs:=[((.slc tRow),(ownMd (.slc tRow)))],gl:=[(101,spec_l1Next.D.sig),(186,spec_l1Draw.D.sig),(204,spec_l6Put.D.sig),(211,spec_l6At.D.sig)],es:=[0],lv:=[(3,[0,3,4])],lx:=[(0,[0,3])] }
noncomputable def sem (a:Arg):Option Out:=@lift Out fun k=>D.W k a
noncomputable def T0 (a1:Arg) (v403:L1Src×(List Row)×Int):St:={ n:=26,sl:=[(0,.box tL1Src (roMd tL1Src) [] v403.1),(3,.own (.slc tRow) (ownMd (.slc tRow)) [] v403.2.1),(4,.val i64 v403.2.2)],vr:=[],lent:=[(0,0,false)] }
noncomputable def b0 (self:(L1Src×(List Row)×Int)->Option Out) (e0:(L1Src×(List Row))->Option Out) (a1:Arg) (v403:L1Src×(List Row)×Int):Option Out:=bif decide ((0:Int) < v403.2.2) then ((spec_l1Draw.sem (v403.1,())).bind fun r604=>(spec_l6At.sem (v403.2.1,r604.1.1,r604.1.2.1,())).bind fun r605=>bif decide (r605.1 < (0:Int)) then ((spec_l6Put.sem (v403.2.1,r604.1,())).bind fun r606=>self (r604.2.1,r606.1,w64 (v403.2.2 - (1:Int)))) else self (r604.2.1,v403.2.1,w64 (v403.2.2 - (1:Int)))) else e0 (v403.1,v403.2.1)
noncomputable abbrev B0 (_:Nat):=b0
noncomputable def q0 (a1:Arg) (z607:(L1Src×(List Row))):Option Out:=some (z607.2,z607.1,())
noncomputable abbrev Q0 (_:Nat):=q0
noncomputable def s0 (k:Nat) (a1:Arg):(L1Src×(List Row)×Int)->Option Out:=fun v403=>D.L k [1,1,0,1,0,0] [0,3,4] [] (blockC 0 (seqC (D.N k [1,1,1]) D.K0)) (T0 a1 v403)
noncomputable def r0 (k:Nat) (a1:Arg):(L1Src×(List Row)×Int)->Option Out:=rawIter (fun w v=>B0 k w (Q0 k a1) a1 v) k
theorem s0_eq (k:Nat) (a1:Arg):s0 k a1=r0 k a1:=
 funext fun v403=>iter_raw _ _ _ (T0 a1) _ (fun rec v=>by kernel_rfl) k v403
noncomputable def p (l0:(L1Src×(List Row)×Int)->Option Out) (a1:Arg):Option Out:=(spec_l1Next.sem (a1.1,(7:Int),())).bind fun r2=>l0 (r2.2.1,([]:List Row),r2.1)
theorem raw_eq (k:Nat) (a1:Arg):@Eq (Option Out) (D.W k a1) (p (r0 k a1) a1):=
 Eq.trans (b:=p (s0 k a1) a1) (by kernel_rfl) (by rw[s0_eq])
theorem ok:Ok prog 106 D.sig:=fd_ok func106 tlOk (by kernel_rfl) (fc spec_l1Next.ok (fc spec_l1Draw.ok (fc spec_l6Put.ok (fc spec_l6At.ok (fn_nil _)))))
end spec_l6DrawRows
namespace spec_l2Copy
abbrev Arg:Type:=(List UInt8)×Unit
abbrev Out:Type:=(List UInt8)×Unit
abbrev ps:PQ:=[(.ro,(.slc u8))]
noncomputable def D:FD:={ fn:=f124,tl:=TL0,ps:=ps,rs:=[((.slc u8),(ownMd (.slc u8)))] }
noncomputable def sem (a:Arg):Option Out:=@lift Out fun k=>D.W k a
noncomputable def p (a1:Arg):Option Out:=if ([]:List UInt8).length+a1.1.length<=CAP then (some (([]:List UInt8)++a1.1,())) else none
theorem raw_eq (k:Nat) (a1:Arg):@Eq (Option Out) (D.W k a1) (p a1):=by kernel_rfl
theorem ok:Ok prog 124 D.sig:=fd_ok func124 tlOk (by kernel_rfl) (fn_nil _)
end spec_l2Copy
namespace spec_l2Count
abbrev Arg:Type:=(List UInt8)×Unit
abbrev Out:Type:=Int×Unit
abbrev ps:PQ:=[(.ro,(.slc u8))]
noncomputable def D:FD:={ fn:=f294,tl:=TL0,ps:=ps,rs:=[(i64,(roMd i64))] }
noncomputable def sem (a:Arg):Option Out:=@lift Out fun k=>D.W k a
noncomputable def p (a1:Arg):Option Out:=(a1.1[0]?).bind fun x2=>some (w64 (x2.toNat:Int),())
theorem raw_eq (k:Nat) (a1:Arg):@Eq (Option Out) (D.W k a1) (p a1):=by kernel_rfl
theorem ok:Ok prog 294 D.sig:=fd_ok func294 tlOk (by kernel_rfl) (fn_nil _)
end spec_l2Count
namespace spec_l2Size
abbrev Arg:Type:=(List UInt8)×Int×Unit
abbrev Out:Type:=Int×Unit
abbrev ps:PQ:=[(.ro,(.slc u8)),(.ro,i64)]
noncomputable def D:FD:={ fn:=f295,tl:=TL0,ps:=ps,rs:=[(i64,(roMd i64))] }
noncomputable def sem (a:Arg):Option Out:=@lift Out fun k=>D.W k a
noncomputable def p (a1:Arg):Option Out:=if 0<=w64 ((3:Int)+(w64 ((2:Int)*a1.2.1))) then ((a1.1[(w64 ((3:Int)+(w64 ((2:Int)*a1.2.1)))).toNat]?).bind fun x2=>some (w64 (x2.toNat:Int),())) else none
theorem raw_eq (k:Nat) (a1:Arg):@Eq (Option Out) (D.W k a1) (p a1):=by kernel_rfl
theorem ok:Ok prog 295 D.sig:=fd_ok func295 tlOk (by kernel_rfl) (fn_nil _)
end spec_l2Size
namespace spec_l2Empty
abbrev Arg:Type:=(List UInt8)×Unit
abbrev Out:Type:=Int×Unit
abbrev ps:PQ:=[(.ro,(.slc u8))]
noncomputable def D:FD:={ fn:=f353,tl:=TL0,ps:=ps,rs:=[(i64,(roMd i64))],gl:=[(294,spec_l2Count.D.sig),(295,spec_l2Size.D.sig)],lv:=[(2,[0,3])],lx:=[(0,[0])] }
noncomputable def sem (a:Arg):Option Out:=@lift Out fun k=>D.W k a
noncomputable def T0 (a1:Arg) (v402:Int):St:={ n:=17,sl:=[(0,.val (.slc u8) a1.1),(3,.val i64 v402)],vr:=[],lent:=[] }
noncomputable def b0 (self:Int->Option Out) (e0:(Unit)->Option Out) (a1:Arg) (v402:Int):Option Out:=(spec_l2Count.sem (a1.1,())).bind fun r603=>bif decide (v402 < r603.1) then ((spec_l2Size.sem (a1.1,v402,())).bind fun r604=>bif decide (r604.1=(0:Int)) then (some (v402,())) else self (w64 (v402+(1:Int)))) else e0 ()
noncomputable abbrev B0 (_:Nat):=b0
noncomputable def q0 (a1:Arg) (z605:(Unit)):Option Out:=(spec_l2Count.sem (a1.1,())).bind fun r606=>some (r606.1,())
noncomputable abbrev Q0 (_:Nat):=q0
noncomputable def s0 (k:Nat) (a1:Arg):(Int)->Option Out:=fun v402=>D.L k [1,0,1,0,0] [0,3] [] (blockC 0 (seqC (D.N k [1,1]) D.K0)) (T0 a1 v402)
noncomputable def r0 (k:Nat) (a1:Arg):(Int)->Option Out:=rawIter (fun w v=>B0 k w (Q0 k a1) a1 v) k
theorem s0_eq (k:Nat) (a1:Arg):s0 k a1=r0 k a1:=
 funext fun v402=>iter_raw _ _ _ (T0 a1) _ (fun rec v=>by kernel_rfl) k v402
noncomputable def p (l0:(Int)->Option Out) (a1:Arg):Option Out:=l0 (0:Int)
theorem raw_eq (k:Nat) (a1:Arg):@Eq (Option Out) (D.W k a1) (p (r0 k a1) a1):=
 Eq.trans (b:=p (s0 k a1) a1) (by kernel_rfl) (by rw[s0_eq])
theorem ok:Ok prog 353 D.sig:=fd_ok func353 tlOk (by kernel_rfl) (fc spec_l2Count.ok (fc spec_l2Size.ok (fn_nil _)))
end spec_l2Empty
namespace spec_l2Free
abbrev Arg:Type:=(List UInt8)×Unit
abbrev Out:Type:=Int×Unit
abbrev ps:PQ:=[(.ro,(.slc u8))]
noncomputable def D:FD:={ fn:=f354,tl:=TL0,ps:=ps,rs:=[(i64,(roMd i64))],gl:=[(294,spec_l2Count.D.sig),(295,spec_l2Size.D.sig)],lv:=[(3,[0,3,4])],lx:=[(0,[3])] }
noncomputable def sem (a:Arg):Option Out:=@lift Out fun k=>D.W k a
noncomputable def T0 (a1:Arg) (v403:Int×Int):St:={ n:=21,sl:=[(0,.val (.slc u8) a1.1),(3,.val i64 v403.1),(4,.val i64 v403.2)],vr:=[],lent:=[] }
noncomputable def b0 (self:(Int×Int)->Option Out) (e0:Int->Option Out) (a1:Arg) (v403:Int×Int):Option Out:=(spec_l2Count.sem (a1.1,())).bind fun r604=>bif decide (v403.2 < r604.1) then ((spec_l2Size.sem (a1.1,v403.2,())).bind fun r605=>self (w64 (v403.1 - r605.1),w64 (v403.2+(1:Int)))) else e0 v403.1
noncomputable abbrev B0 (_:Nat):=b0
noncomputable def q0 (a1:Arg) (z606:Int):Option Out:=some (z606,())
noncomputable abbrev Q0 (_:Nat):=q0
noncomputable def s0 (k:Nat) (a1:Arg):(Int×Int)->Option Out:=fun v403=>D.L k [1,1,0,1,0,0] [0,3,4] [] (blockC 0 (seqC (D.N k [1,1,1]) D.K0)) (T0 a1 v403)
noncomputable def r0 (k:Nat) (a1:Arg):(Int×Int)->Option Out:=rawIter (fun w v=>B0 k w (Q0 k a1) a1 v) k
theorem s0_eq (k:Nat) (a1:Arg):s0 k a1=r0 k a1:=
 funext fun v403=>iter_raw _ _ _ (T0 a1) _ (fun rec v=>by kernel_rfl) k v403
noncomputable def p (l0:(Int×Int)->Option Out) (a1:Arg):Option Out:=(spec_l2Count.sem (a1.1,())).bind fun r2=>l0 (w64 ((62:Int) - (w64 ((2:Int)*r2.1))),(0:Int))
theorem raw_eq (k:Nat) (a1:Arg):@Eq (Option Out) (D.W k a1) (p (r0 k a1) a1):=
 Eq.trans (b:=p (s0 k a1) a1) (by kernel_rfl) (by rw[s0_eq])
theorem ok:Ok prog 354 D.sig:=fd_ok func354 tlOk (by kernel_rfl) (fc spec_l2Count.ok (fc spec_l2Size.ok (fn_nil _)))
end spec_l2Free
namespace spec_l2Low
abbrev Arg:Type:=(List UInt8)×Unit
abbrev Out:Type:=Int×Unit
abbrev ps:PQ:=[(.ro,(.slc u8))]
noncomputable def D:FD:={ fn:=f355,tl:=TL0,ps:=ps,rs:=[(i64,(roMd i64))] }
noncomputable def sem (a:Arg):Option Out:=@lift Out fun k=>D.W k a
noncomputable def p (a1:Arg):Option Out:=(a1.1[1]?).bind fun x2=>some (w64 (x2.toNat:Int),())
theorem raw_eq (k:Nat) (a1:Arg):@Eq (Option Out) (D.W k a1) (p a1):=by kernel_rfl
theorem ok:Ok prog 355 D.sig:=fd_ok func355 tlOk (by kernel_rfl) (fn_nil _)
end spec_l2Low
namespace spec_l2Stand
abbrev Arg:Type:=(List UInt8)×Int×Int×(List UInt8)×Unit
abbrev Out:Type:=(List UInt8)×Unit
abbrev ps:PQ:=[(.muts (ownMd (.slc u8)),(.slc u8)),(.ro,i64),(.ro,i64),(.ro,(.slc u8))]
noncomputable def D:FD:={ fn:=f356,tl:=TL0,ps:=ps,rs:=[],es:=[0] }
noncomputable def sem (a:Arg):Option Out:=@lift Out fun k=>D.W k a
noncomputable def p (a1:Arg):Option Out:=if 0<=a1.2.2.1/\a1.2.2.1<=(a1.1.length:Int) then (let y2:=over a1.1 a1.2.2.1.toNat (min a1.2.2.2.1.length (a1.1.length - a1.2.2.1.toNat)) a1.2.2.2.1;if 0<=w64 ((2:Int)+(w64 ((2:Int)*a1.2.1)))/\w64 ((2:Int)+(w64 ((2:Int)*a1.2.1))) < (y2.length:Int) then ((y2[(w64 ((2:Int)+(w64 ((2:Int)*a1.2.1)))).toNat]?).bind fun x3=>let y4:=y2.set (w64 ((2:Int)+(w64 ((2:Int)*a1.2.1)))).toNat (UInt8.ofInt a1.2.2.1);if 0<=w64 ((3:Int)+(w64 ((2:Int)*a1.2.1)))/\w64 ((3:Int)+(w64 ((2:Int)*a1.2.1))) < (y4.length:Int) then ((y4[(w64 ((3:Int)+(w64 ((2:Int)*a1.2.1)))).toNat]?).bind fun x5=>let y6:=y4.set (w64 ((3:Int)+(w64 ((2:Int)*a1.2.1)))).toNat (UInt8.ofInt (a1.2.2.2.1.length:Int));some (y6,())) else none) else none) else none
theorem raw_eq (k:Nat) (a1:Arg):@Eq (Option Out) (D.W k a1) (p a1):=by kernel_rfl
theorem ok:Ok prog 356 D.sig:=fd_ok func356 tlOk (by kernel_rfl) (fn_nil _)
end spec_l2Stand
namespace spec_l2Put
abbrev Arg:Type:=(List UInt8)×(List UInt8)×Unit
abbrev Out:Type:=(List UInt8)×Int×Int×Unit
abbrev ps:PQ:=[(.ro,(.slc u8)),(.ro,(.slc u8))]
noncomputable def D:FD:={ fn:=f285,tl:=TL0,ps:=ps,rs:=[((.slc u8),(ownMd (.slc u8))),(i64,(roMd i64)),(i64,(roMd i64))],gl:=[(124,spec_l2Copy.D.sig),(294,spec_l2Count.D.sig),(353,spec_l2Empty.D.sig),(354,spec_l2Free.D.sig),(355,spec_l2Low.D.sig),(356,spec_l2Stand.D.sig)] }
noncomputable def sem (a:Arg):Option Out:=@lift Out fun k=>D.W k a
noncomputable def p (a1:Arg):Option Out:=(spec_l2Empty.sem (a1.1,())).bind fun r2=>(spec_l2Count.sem (a1.1,())).bind fun r3=>let j14:=fun (p12:Int) (p13:Int)=>((spec_l2Free.sem (a1.1,())).bind fun r15=>bif decide (r15.1 < w64 ((a1.2.1.length:Int)+p13)) then (some (([]:List UInt8),(0:Int),(9:Int),())) else (spec_l2Low.sem (a1.1,())).bind fun r16=>bif decide (w64 (r16.1 - (a1.2.1.length:Int)) < w64 ((2:Int)+(w64 ((2:Int)*p12)))) then (some (([]:List UInt8),(0:Int),(8:Int),())) else (spec_l2Copy.sem (a1.1,())).bind fun r17=>if 0<=(0:Int)/\(0:Int) < (r17.1.length:Int) then ((r17.1[0]?).bind fun x18=>if 0<=(1:Int)/\(1:Int) < ((r17.1.set 0 (UInt8.ofInt p12)).length:Int) then (((r17.1.set 0 (UInt8.ofInt p12))[1]?).bind fun x19=>let y20:=(r17.1.set 0 (UInt8.ofInt p12)).set 1 (UInt8.ofInt (w64 (r16.1 - (a1.2.1.length:Int))));(spec_l2Stand.sem (y20,r2.1,w64 (r16.1 - (a1.2.1.length:Int)),a1.2.1,())).bind fun r21=>some (r21.1,r2.1,(0:Int),())) else none) else none:Option Out);bif decide (r2.1=r3.1) then (bif decide ((16:Int)<=r3.1) then (some (([]:List UInt8),(0:Int),(2:Int),())) else j14 (w64 (r3.1+(1:Int))) (2:Int)) else j14 r3.1 (0:Int)
theorem raw_eq (k:Nat) (a1:Arg):@Eq (Option Out) (D.W k a1) (p a1):=by kernel_rfl
theorem ok:Ok prog 285 D.sig:=fd_ok func285 tlOk (by kernel_rfl) (fc spec_l2Copy.ok (fc spec_l2Count.ok (fc spec_l2Empty.ok (fc spec_l2Free.ok (fc spec_l2Low.ok (fc spec_l2Stand.ok (fn_nil _)))))))
end spec_l2Put
namespace spec_l2New
abbrev Arg:Type:=UInt8×Unit
abbrev Out:Type:=(List UInt8)×Unit
abbrev ps:PQ:=[(.ro,u8)]
noncomputable def D:FD:={ fn:=f300,tl:=TL0,ps:=ps,rs:=[((.slc u8),(ownMd (.slc u8)))],lv:=[(3,[0,3,4])],lx:=[(0,[3])] }
noncomputable def sem (a:Arg):Option Out:=@lift Out fun k=>D.W k a
noncomputable def T0 (a1:Arg) (v402:(List UInt8)×Int):St:={ n:=19,sl:=[(0,.val u8 a1.1),(3,.own (.slc u8) (ownMd (.slc u8)) [] v402.1),(4,.val i64 v402.2)],vr:=[],lent:=[] }
noncomputable def b0 (self:((List UInt8)×Int)->Option Out) (e0:(List UInt8)->Option Out) (a1:Arg) (v402:(List UInt8)×Int):Option Out:=bif decide (v402.2 < (64:Int)) then (if 0<=v402.2/\v402.2 < (v402.1.length:Int) then ((v402.1[v402.2.toNat]?).bind fun x603=>self (v402.1.set v402.2.toNat a1.1,w64 (v402.2+(1:Int)))) else none) else e0 v402.1
noncomputable abbrev B0 (_:Nat):=b0
noncomputable def q0 (a1:Arg) (z604:(List UInt8)):Option Out:=if 0<=(0:Int)/\(0:Int) < (z604.length:Int) then ((z604[0]?).bind fun x605=>if 0<=(1:Int)/\(1:Int) < ((z604.set 0 (0:UInt8)).length:Int) then (((z604.set 0 (0:UInt8))[1]?).bind fun x606=>let y607:=(z604.set 0 (0:UInt8)).set 1 (64:UInt8);some (y607,())) else none) else none
noncomputable abbrev Q0 (_:Nat):=q0
noncomputable def s0 (k:Nat) (a1:Arg):((List UInt8)×Int)->Option Out:=fun v402=>D.L k [1,1,0,1,0,0] [0,3,4] [] (blockC 0 (seqC (D.N k [1,1,1]) D.K0)) (T0 a1 v402)
noncomputable def r0 (k:Nat) (a1:Arg):((List UInt8)×Int)->Option Out:=rawIter (fun w v=>B0 k w (Q0 k a1) a1 v) k
theorem s0_eq (k:Nat) (a1:Arg):s0 k a1=r0 k a1:=
 funext fun v402=>iter_raw _ _ _ (T0 a1) _ (fun rec v=>by kernel_rfl) k v402
noncomputable def p (l0:((List UInt8)×Int)->Option Out) (a1:Arg):Option Out:=if 0<=(64:Int)/\(64:Int)<=(64:Int)/\(64:Int)<=(CAP:Int) then (l0 (List.replicate 64 (0:UInt8),(0:Int))) else none
theorem raw_eq (k:Nat) (a1:Arg):@Eq (Option Out) (D.W k a1) (p (r0 k a1) a1):=
 Eq.trans (b:=p (s0 k a1) a1) (by kernel_rfl) (by rw[s0_eq])
theorem ok:Ok prog 300 D.sig:=fd_ok func300 tlOk (by kernel_rfl) (fn_nil _)
end spec_l2New
namespace spec_l6Pages
abbrev Arg:Type:=L1Src×Unit
abbrev Out:Type:=(List (List UInt8))×L1Src×Unit
abbrev ps:PQ:=[(.mutp (roMd tL1Src),tL1Src)]
noncomputable def D:FD:={ fn:=f283,tl:=TL0,ps:=ps,rs:=[((.slc (.slc u8)),(ownMd (.slc (.slc u8))))],gl:=[(99,spec_l1Chance.D.sig),(101,spec_l1Next.D.sig),(106,spec_l6DrawRows.D.sig),(202,spec_l1Cell.D.sig),(210,spec_l1Stub.D.sig),(285,spec_l2Put.D.sig),(300,spec_l2New.D.sig)],es:=[0],lv:=[(4,[0,3,4,5])],lx:=[(0,[0,3]),(1,[0,3,4,5])],od:=[(7,[0,1,2,3,4,5,6,7,8,9,10,11,12,13,14]),(9,[0,1,2,3,4,5,6,7,8,9,10,11,12]),(14,[0,1,2,3,4,5,6,7,8,9,10,11,12,13,14,15])] }
noncomputable def sem (a:Arg):Option Out:=@lift Out fun k=>D.W k a
noncomputable def T0 (a1:Arg) (c406:List Row) (v405:L1Src×(List (List UInt8))×Int):St:={ n:=83,sl:=[(0,.box tL1Src (roMd tL1Src) [] v405.1),(3,.own (.slc (.slc u8)) (ownMd (.slc (.slc u8))) [] v405.2.1),(4,.own (.slc tRow) (ownMd (.slc tRow)) [] c406),(5,.val i64 v405.2.2)],vr:=[],lent:=[(0,0,false)] }
noncomputable def b0 (self:(L1Src×(List (List UInt8))×Int)->Option Out) (e0:(L1Src×(List (List UInt8)))->Option Out) (a1:Arg) (c406:List Row) (v405:L1Src×(List (List UInt8))×Int):Option Out:=bif decide (v405.2.2 < (c406.length:Int)) then ((spec_l1Chance.sem (v405.1,(3:Int),())).bind fun r607=>bif r607.1 then (if 0<=(1:Int)/\(1:Int) < (v405.2.1.length:Int) then ((v405.2.1[1]?).bind fun x608=>if 0<=v405.2.2/\v405.2.2 < (c406.length:Int) then ((c406[v405.2.2.toNat]?).bind fun x609=>(spec_l1Cell.sem ((2:Int),x609,())).bind fun r610=>(v405.2.1[1]?).bind fun x611=>(spec_l2Put.sem (x611,r610.1,())).bind fun r612=>bif decide (r612.2.2.1=(0:Int)) then (if 0<=(0:Int)/\(0:Int) < (v405.2.1.length:Int) then ((v405.2.1[0]?).bind fun x613=>(spec_l1Stub.sem ((1:Int),r612.2.1,())).bind fun r614=>(v405.2.1[0]?).bind fun x615=>(spec_l2Put.sem (x615,r614.1,())).bind fun r616=>bif decide (r616.2.2.1=(0:Int)) then (if 0<=(1:Int)/\(1:Int) < (v405.2.1.length:Int) then ((v405.2.1[1]?).bind fun x617=>if 0<=(0:Int)/\(0:Int) < ((v405.2.1.set 1 r612.1).length:Int) then (((v405.2.1.set 1 r612.1)[0]?).bind fun x618=>self (r607.2.1,(v405.2.1.set 1 r612.1).set 0 r616.1,w64 (v405.2.2+(1:Int)))) else none) else none) else self (r607.2.1,v405.2.1,w64 (v405.2.2+(1:Int)))) else none) else self (r607.2.1,v405.2.1,w64 (v405.2.2+(1:Int)))) else none) else none) else (spec_l1Next.sem (r607.2.1,(2:Int),())).bind fun r619=>if 0<=r619.1/\r619.1 < (v405.2.1.length:Int) then ((v405.2.1[r619.1.toNat]?).bind fun x620=>if 0<=v405.2.2/\v405.2.2 < (c406.length:Int) then ((c406[v405.2.2.toNat]?).bind fun x621=>(spec_l1Cell.sem ((0:Int),x621,())).bind fun r622=>(v405.2.1[r619.1.toNat]?).bind fun x623=>(spec_l2Put.sem (x623,r622.1,())).bind fun r624=>bif decide (r624.2.2.1=(0:Int)) then (if 0<=r619.1/\r619.1 < (v405.2.1.length:Int) then ((v405.2.1[r619.1.toNat]?).bind fun x625=>self (r619.2.1,v405.2.1.set r619.1.toNat r624.1,w64 (v405.2.2+(1:Int)))) else none) else self (r619.2.1,v405.2.1,w64 (v405.2.2+(1:Int)))) else none) else none) else e0 (v405.1,v405.2.1)
noncomputable abbrev B0 (_:Nat):=b0
noncomputable def q0 (a1:Arg) (c406:List Row) (z626:(L1Src×(List (List UInt8)))):Option Out:=some (z626.2,z626.1,())
noncomputable abbrev Q0 (_:Nat):=q0
noncomputable def s0 (k:Nat) (a1:Arg):(List Row)->(L1Src×(List (List UInt8))×Int)->Option Out:=fun c406=>fun v405=>D.L k [1,1,1,0,1,0,0] [0,3,4,5] [] (blockC 0 (seqC (D.N k [1,1,1,1]) D.K0)) (T0 a1 c406 v405)
noncomputable def r0 (k:Nat) (a1:Arg):(List Row)->(L1Src×(List (List UInt8))×Int)->Option Out:=fun c406=>rawIter (fun w v=>B0 k w (Q0 k a1 c406) a1 c406 v) k
theorem s0_eq (k:Nat) (a1:Arg):s0 k a1=r0 k a1:=
 funext fun c406=>funext fun v405=>iter_raw _ _ _ (T0 a1 c406) _ (fun rec v=>by kernel_rfl) k v405
noncomputable def p (l0:(List Row)->(L1Src×(List (List UInt8))×Int)->Option Out) (a1:Arg):Option Out:=(spec_l2New.sem ((0:UInt8),())).bind fun r2=>(spec_l2New.sem ((0:UInt8),())).bind fun r3=>(spec_l6DrawRows.sem (a1.1,())).bind fun r4=>l0 r4.1 (r4.2.1,[r2.1,r3.1],(0:Int))
theorem raw_eq (k:Nat) (a1:Arg):@Eq (Option Out) (D.W k a1) (p (r0 k a1) a1):=
 Eq.trans (b:=p (s0 k a1) a1) (by kernel_rfl) (by rw[s0_eq])
theorem ok:Ok prog 283 D.sig:=fd_ok func283 tlOk (by kernel_rfl) (fc spec_l1Chance.ok (fc spec_l1Next.ok (fc spec_l6DrawRows.ok (fc spec_l1Cell.ok (fc spec_l1Stub.ok (fc spec_l2Put.ok (fc spec_l2New.ok (fn_nil _))))))))
end spec_l6Pages
namespace spec_l2Place
abbrev Arg:Type:=(List UInt8)×Int×Unit
abbrev Out:Type:=Int×Unit
abbrev ps:PQ:=[(.ro,(.slc u8)),(.ro,i64)]
noncomputable def D:FD:={ fn:=f366,tl:=TL0,ps:=ps,rs:=[(i64,(roMd i64))] }
noncomputable def sem (a:Arg):Option Out:=@lift Out fun k=>D.W k a
noncomputable def p (a1:Arg):Option Out:=if 0<=w64 ((2:Int)+(w64 ((2:Int)*a1.2.1))) then ((a1.1[(w64 ((2:Int)+(w64 ((2:Int)*a1.2.1)))).toNat]?).bind fun x2=>some (w64 (x2.toNat:Int),())) else none
theorem raw_eq (k:Nat) (a1:Arg):@Eq (Option Out) (D.W k a1) (p a1):=by kernel_rfl
theorem ok:Ok prog 366 D.sig:=fd_ok func366 tlOk (by kernel_rfl) (fn_nil _)
end spec_l2Place
namespace spec_l2Set
abbrev Arg:Type:=(List UInt8)×Int×(List UInt8)×Unit
abbrev Out:Type:=(List UInt8)×Int×Unit
abbrev ps:PQ:=[(.ro,(.slc u8)),(.ro,i64),(.ro,(.slc u8))]
noncomputable def D:FD:={ fn:=f306,tl:=TL0,ps:=ps,rs:=[((.slc u8),(ownMd (.slc u8))),(i64,(roMd i64))],gl:=[(124,spec_l2Copy.D.sig),(294,spec_l2Count.D.sig),(295,spec_l2Size.D.sig),(354,spec_l2Free.D.sig),(355,spec_l2Low.D.sig),(356,spec_l2Stand.D.sig),(366,spec_l2Place.D.sig)] }
noncomputable def sem (a:Arg):Option Out:=@lift Out fun k=>D.W k a
noncomputable def p (a1:Arg):Option Out:=(spec_l2Size.sem (a1.1,a1.2.1,())).bind fun r2=>(spec_l2Copy.sem (a1.1,())).bind fun r3=>bif decide ((a1.2.2.1.length:Int)<=r2.1) then ((spec_l2Place.sem (a1.1,a1.2.1,())).bind fun r4=>(spec_l2Stand.sem (r3.1,a1.2.1,w64 ((w64 (r4.1+r2.1)) - (a1.2.2.1.length:Int)),a1.2.2.1,())).bind fun r5=>some (r5.1,(0:Int),())) else (spec_l2Free.sem (a1.1,())).bind fun r6=>bif decide (w64 (r6.1+r2.1) < (a1.2.2.1.length:Int)) then (some (([]:List UInt8),(9:Int),())) else (spec_l2Low.sem (a1.1,())).bind fun r7=>(spec_l2Count.sem (a1.1,())).bind fun r8=>bif decide (w64 (r7.1 - (a1.2.2.1.length:Int)) < w64 ((2:Int)+(w64 ((2:Int)*r8.1)))) then (some (([]:List UInt8),(8:Int),())) else if 0<=(1:Int)/\(1:Int) < (r3.1.length:Int) then ((r3.1[1]?).bind fun x9=>let y10:=r3.1.set 1 (UInt8.ofInt (w64 (r7.1 - (a1.2.2.1.length:Int))));(spec_l2Stand.sem (y10,a1.2.1,w64 (r7.1 - (a1.2.2.1.length:Int)),a1.2.2.1,())).bind fun r11=>some (r11.1,(0:Int),())) else none
theorem raw_eq (k:Nat) (a1:Arg):@Eq (Option Out) (D.W k a1) (p a1):=by kernel_rfl
theorem ok:Ok prog 306 D.sig:=fd_ok func306 tlOk (by kernel_rfl) (fc spec_l2Copy.ok (fc spec_l2Count.ok (fc spec_l2Size.ok (fc spec_l2Free.ok (fc spec_l2Low.ok (fc spec_l2Stand.ok (fc spec_l2Place.ok (fn_nil _))))))))
end spec_l2Set
namespace spec_l2Cell
abbrev Arg:Type:=(List UInt8)×Int×Unit
abbrev Out:Type:=(List UInt8)×Unit
abbrev ps:PQ:=[(.ro,(.slc u8)),(.ro,i64)]
noncomputable def D:FD:={ fn:=f297,tl:=TL0,ps:=ps,rs:=[((.slc u8),(ownMd (.slc u8)))],gl:=[(295,spec_l2Size.D.sig),(366,spec_l2Place.D.sig)] }
noncomputable def sem (a:Arg):Option Out:=@lift Out fun k=>D.W k a
noncomputable def p (a1:Arg):Option Out:=(spec_l2Place.sem (a1.1,a1.2.1,())).bind fun r2=>(spec_l2Size.sem (a1.1,a1.2.1,())).bind fun r3=>if 0<=r2.1/\r2.1<=w64 (r2.1+r3.1)/\w64 (r2.1+r3.1)<=(a1.1.length:Int) then (if ([]:List UInt8).length+((a1.1.take (w64 (r2.1+r3.1)).toNat).drop r2.1.toNat).length<=CAP then (let y4:=([]:List UInt8)++((a1.1.take (w64 (r2.1+r3.1)).toNat).drop r2.1.toNat);some (y4,())) else none) else none
theorem raw_eq (k:Nat) (a1:Arg):@Eq (Option Out) (D.W k a1) (p a1):=by kernel_rfl
theorem ok:Ok prog 297 D.sig:=fd_ok func297 tlOk (by kernel_rfl) (fc spec_l2Size.ok (fc spec_l2Place.ok (fn_nil _)))
end spec_l2Cell
namespace spec_l2Compact
abbrev Arg:Type:=(List UInt8)×Unit
abbrev Out:Type:=(List UInt8)×Unit
abbrev ps:PQ:=[(.ro,(.slc u8))]
noncomputable def D:FD:={ fn:=f307,tl:=TL0,ps:=ps,rs:=[((.slc u8),(ownMd (.slc u8)))],gl:=[(294,spec_l2Count.D.sig),(295,spec_l2Size.D.sig),(297,spec_l2Cell.D.sig),(356,spec_l2Stand.D.sig)],lv:=[(6,[0,3,4,5,6])],lx:=[(0,[4,5]),(1,[0,3,4,5,6])] }
noncomputable def sem (a:Arg):Option Out:=@lift Out fun k=>D.W k a
noncomputable def T0 (a1:Arg) (c405:Int) (v404:(List UInt8)×Int×Int):St:={ n:=44,sl:=[(0,.val (.slc u8) a1.1),(3,.val i64 c405),(4,.own (.slc u8) (ownMd (.slc u8)) [] v404.1),(5,.val i64 v404.2.1),(6,.val i64 v404.2.2)],vr:=[],lent:=[] }
noncomputable def b0 (self:((List UInt8)×Int×Int)->Option Out) (e0:((List UInt8)×Int)->Option Out) (a1:Arg) (c405:Int) (v404:(List UInt8)×Int×Int):Option Out:=bif decide (v404.2.2 < c405) then ((spec_l2Size.sem (a1.1,v404.2.2,())).bind fun r606=>bif decide (r606.1=(0:Int)) then (self (v404.1,v404.2.1,w64 (v404.2.2+(1:Int)))) else (spec_l2Cell.sem (a1.1,v404.2.2,())).bind fun r607=>(spec_l2Stand.sem (v404.1,v404.2.2,w64 (v404.2.1 - (r607.1.length:Int)),r607.1,())).bind fun r608=>self (r608.1,w64 (v404.2.1 - (r607.1.length:Int)),w64 (v404.2.2+(1:Int)))) else e0 (v404.1,v404.2.1)
noncomputable abbrev B0 (_:Nat):=b0
noncomputable def q0 (a1:Arg) (c405:Int) (z609:((List UInt8)×Int)):Option Out:=if 0<=(1:Int)/\(1:Int) < (z609.1.length:Int) then ((z609.1[1]?).bind fun x610=>some (z609.1.set 1 (UInt8.ofInt z609.2),())) else none
noncomputable abbrev Q0 (_:Nat):=q0
noncomputable def s0 (k:Nat) (a1:Arg):Int->((List UInt8)×Int×Int)->Option Out:=fun c405=>fun v404=>D.L k [1,1,1,1,1,0,1,0,0] [0,3,4,5,6] [] (blockC 0 (seqC (D.N k [1,1,1,1,1,1]) D.K0)) (T0 a1 c405 v404)
noncomputable def r0 (k:Nat) (a1:Arg):Int->((List UInt8)×Int×Int)->Option Out:=fun c405=>rawIter (fun w v=>B0 k w (Q0 k a1 c405) a1 c405 v) k
theorem s0_eq (k:Nat) (a1:Arg):s0 k a1=r0 k a1:=
 funext fun c405=>funext fun v404=>iter_raw _ _ _ (T0 a1 c405) _ (fun rec v=>by kernel_rfl) k v404
noncomputable def p (l0:Int->((List UInt8)×Int×Int)->Option Out) (a1:Arg):Option Out:=(spec_l2Count.sem (a1.1,())).bind fun r2=>if 0<=(64:Int)/\(64:Int)<=(64:Int)/\(64:Int)<=(CAP:Int) then (if 0<=w64 ((2:Int)+(w64 ((2:Int)*r2.1)))/\w64 ((2:Int)+(w64 ((2:Int)*r2.1)))<=(a1.1.length:Int) then (let y3:=over (List.replicate 64 (0:UInt8)) 0 (min ((a1.1.take (w64 ((2:Int)+(w64 ((2:Int)*r2.1)))).toNat).drop 0).length (List.replicate 64 (0:UInt8)).length) ((a1.1.take (w64 ((2:Int)+(w64 ((2:Int)*r2.1)))).toNat).drop 0);l0 r2.1 (y3,(64:Int),(0:Int))) else none) else none
theorem raw_eq (k:Nat) (a1:Arg):@Eq (Option Out) (D.W k a1) (p (r0 k a1) a1):=
 Eq.trans (b:=p (s0 k a1) a1) (by kernel_rfl) (by rw[s0_eq])
theorem ok:Ok prog 307 D.sig:=fd_ok func307 tlOk (by kernel_rfl) (fc spec_l2Count.ok (fc spec_l2Size.ok (fc spec_l2Cell.ok (fc spec_l2Stand.ok (fn_nil _)))))
end spec_l2Compact
namespace spec_l1In
abbrev Arg:Type:=Int×Int×Int×Unit
abbrev Out:Type:=Bool×Unit
abbrev ps:PQ:=[(.ro,i64),(.ro,i64),(.ro,i64)]
noncomputable def D:FD:={ fn:=f123,tl:=TL0,ps:=ps,rs:=[(.bool,(roMd .bool))] }
noncomputable def sem (a:Arg):Option Out:=@lift Out fun k=>D.W k a
noncomputable def p (a1:Arg):Option Out:=bif decide (a1.2.1<=a1.1) then (some (decide (a1.1<=a1.2.2.1),())) else some (false,())
theorem raw_eq (k:Nat) (a1:Arg):@Eq (Option Out) (D.W k a1) (p a1):=by kernel_rfl
theorem ok:Ok prog 123 D.sig:=fd_ok func123 tlOk (by kernel_rfl) (fn_nil _)
end spec_l1In
namespace spec_l2Has
abbrev Arg:Type:=(List UInt8)×Int×Unit
abbrev Out:Type:=Bool×Unit
abbrev ps:PQ:=[(.ro,(.slc u8)),(.ro,i64)]
noncomputable def D:FD:={ fn:=f367,tl:=TL0,ps:=ps,rs:=[(.bool,(roMd .bool))],gl:=[(123,spec_l1In.D.sig),(294,spec_l2Count.D.sig),(295,spec_l2Size.D.sig)] }
noncomputable def sem (a:Arg):Option Out:=@lift Out fun k=>D.W k a
noncomputable def p (a1:Arg):Option Out:=(spec_l2Count.sem (a1.1,())).bind fun r2=>(spec_l1In.sem (a1.2.1,(0:Int),w64 (r2.1 - (1:Int)),())).bind fun r3=>bif r3.1 then ((spec_l2Size.sem (a1.1,a1.2.1,())).bind fun r4=>some (decide ((0:Int) < r4.1),())) else some (false,())
theorem raw_eq (k:Nat) (a1:Arg):@Eq (Option Out) (D.W k a1) (p a1):=by kernel_rfl
theorem ok:Ok prog 367 D.sig:=fd_ok func367 tlOk (by kernel_rfl) (fc spec_l1In.ok (fc spec_l2Count.ok (fc spec_l2Size.ok (fn_nil _))))
end spec_l2Has
namespace spec_l2Drop
abbrev Arg:Type:=(List UInt8)×Int×Unit
abbrev Out:Type:=(List UInt8)×Unit
abbrev ps:PQ:=[(.ro,(.slc u8)),(.ro,i64)]
noncomputable def D:FD:={ fn:=f368,tl:=TL0,ps:=ps,rs:=[((.slc u8),(ownMd (.slc u8)))],gl:=[(124,spec_l2Copy.D.sig),(295,spec_l2Size.D.sig)],lv:=[(4,[5])],lx:=[(0,[5])] }
noncomputable def sem (a:Arg):Option Out:=@lift Out fun k=>D.W k a
noncomputable def T0 (a1:Arg) (v407:List UInt8):St:={ n:=38,sl:=[(5,.own (.slc u8) (ownMd (.slc u8)) [] v407)],vr:=[],lent:=[] }
noncomputable def b0 (self:(List UInt8)->Option Out) (e0:(List UInt8)->Option Out) (a1:Arg) (v407:List UInt8):Option Out:=if 0<=(0:Int)/\(0:Int) < (v407.length:Int) then ((v407[0]?).bind fun x608=>bif decide ((0:Int) < (x608.toNat:Int)) then (if 0<=(0:Int)/\(0:Int) < (v407.length:Int) then ((v407[0]?).bind fun x609=>(spec_l2Size.sem (v407,w64 ((w64 (x609.toNat:Int)) - (1:Int)),())).bind fun r610=>bif decide (r610.1=(0:Int)) then (if 0<=(0:Int)/\(0:Int) < (v407.length:Int) then ((v407[0]?).bind fun x611=>if 0<=(0:Int)/\(0:Int) < (v407.length:Int) then ((v407[0]?).bind fun x612=>let y613:=v407.set 0 (UInt8.ofInt ((x611.toNat:Int) - (1:Int)));self y613) else none) else none) else e0 v407) else none) else e0 v407) else none
noncomputable abbrev B0 (_:Nat):=b0
noncomputable def q0 (a1:Arg) (z614:(List UInt8)):Option Out:=some (z614,())
noncomputable abbrev Q0 (_:Nat):=q0
noncomputable def s0 (k:Nat) (a1:Arg):(List UInt8)->Option Out:=fun v407=>D.L k [1,1,1,1,0,0,0] [5] [] (blockC 0 (seqC (D.N k [1,1,1,1,1]) D.K0)) (T0 a1 v407)
noncomputable def r0 (k:Nat) (a1:Arg):(List UInt8)->Option Out:=rawIter (fun w v=>B0 k w (Q0 k a1) a1 v) k
theorem s0_eq (k:Nat) (a1:Arg):s0 k a1=r0 k a1:=
 funext fun v407=>iter_raw _ _ _ (T0 a1) _ (fun rec v=>by kernel_rfl) k v407
noncomputable def p (l0:(List UInt8)->Option Out) (a1:Arg):Option Out:=(spec_l2Copy.sem (a1.1,())).bind fun r2=>if 0<=w64 ((2:Int)+(w64 ((2:Int)*a1.2.1)))/\w64 ((2:Int)+(w64 ((2:Int)*a1.2.1))) < (r2.1.length:Int) then ((r2.1[(w64 ((2:Int)+(w64 ((2:Int)*a1.2.1)))).toNat]?).bind fun x3=>let y4:=r2.1.set (w64 ((2:Int)+(w64 ((2:Int)*a1.2.1)))).toNat (0:UInt8);if 0<=w64 ((3:Int)+(w64 ((2:Int)*a1.2.1)))/\w64 ((3:Int)+(w64 ((2:Int)*a1.2.1))) < (y4.length:Int) then ((y4[(w64 ((3:Int)+(w64 ((2:Int)*a1.2.1)))).toNat]?).bind fun x5=>let y6:=y4.set (w64 ((3:Int)+(w64 ((2:Int)*a1.2.1)))).toNat (0:UInt8);l0 y6) else none) else none
theorem raw_eq (k:Nat) (a1:Arg):@Eq (Option Out) (D.W k a1) (p (r0 k a1) a1):=
 Eq.trans (b:=p (s0 k a1) a1) (by kernel_rfl) (by rw[s0_eq])
theorem ok:Ok prog 368 D.sig:=fd_ok func368 tlOk (by kernel_rfl) (fc spec_l2Copy.ok (fc spec_l2Size.ok (fn_nil _)))
end spec_l2Drop
namespace spec_l1Some
abbrev Arg:Type:=L1Src×Int×Unit
abbrev Out:Type:=(List UInt8)×L1Src×Unit
abbrev ps:PQ:=[(.mutp (roMd tL1Src),tL1Src),(.ro,i64)]
noncomputable def D:FD:={ fn:=f387,tl:=TL0,ps:=ps,rs:=[((.slc u8),(ownMd (.slc u8)))],gl:=[(101,spec_l1Next.D.sig)],es:=[0],lv:=[(2,[0,1,5])],lx:=[(0,[0,5])] }
noncomputable def sem (a:Arg):Option Out:=@lift Out fun k=>D.W k a
noncomputable def T0 (a1:Arg) (v402:L1Src×Int×(List UInt8)):St:={ n:=18,sl:=[(0,.box tL1Src (roMd tL1Src) [] v402.1),(1,.val i64 v402.2.1),(5,.own (.slc u8) (ownMd (.slc u8)) [] v402.2.2)],vr:=[],lent:=[(0,0,false)] }
noncomputable def b0 (self:(L1Src×Int×(List UInt8))->Option Out) (e0:(L1Src×(List UInt8))->Option Out) (a1:Arg) (v402:L1Src×Int×(List UInt8)):Option Out:=bif decide ((0:Int) < v402.2.1) then ((spec_l1Next.sem (v402.1,(256:Int),())).bind fun r603=>if v402.2.2.length+[UInt8.ofInt r603.1].length<=CAP then (self (r603.2.1,w64 (v402.2.1 - (1:Int)),v402.2.2++[UInt8.ofInt r603.1])) else none) else e0 (v402.1,v402.2.2)
noncomputable abbrev B0 (_:Nat):=b0
noncomputable def q0 (a1:Arg) (z604:(L1Src×(List UInt8))):Option Out:=some (z604.2,z604.1,())
noncomputable abbrev Q0 (_:Nat):=q0
noncomputable def s0 (k:Nat) (a1:Arg):(L1Src×Int×(List UInt8))->Option Out:=fun v402=>D.L k [1,1,0,0,0] [0,1,5] [] (blockC 0 (seqC (D.N k [1,1,1]) D.K0)) (T0 a1 v402)
noncomputable def r0 (k:Nat) (a1:Arg):(L1Src×Int×(List UInt8))->Option Out:=rawIter (fun w v=>B0 k w (Q0 k a1) a1 v) k
theorem s0_eq (k:Nat) (a1:Arg):s0 k a1=r0 k a1:=
 funext fun v402=>iter_raw _ _ _ (T0 a1) _ (fun rec v=>by kernel_rfl) k v402
noncomputable def p (l0:(L1Src×Int×(List UInt8))->Option Out) (a1:Arg):Option Out:=l0 (a1.1,a1.2.1,([]:List UInt8))
theorem raw_eq (k:Nat) (a1:Arg):@Eq (Option Out) (D.W k a1) (p (r0 k a1) a1):=
 Eq.trans (b:=p (s0 k a1) a1) (by kernel_rfl) (by rw[s0_eq])
theorem ok:Ok prog 387 D.sig:=fd_ok func387 tlOk (by kernel_rfl) (fc spec_l1Next.ok (fn_nil _))
end spec_l1Some
namespace spec_l2Right
abbrev Arg:Type:=L1Src×Unit
abbrev Out:Type:=(List UInt8)×L1Src×Unit
abbrev ps:PQ:=[(.mutp (roMd tL1Src),tL1Src)]
noncomputable def D:FD:={ fn:=f352,tl:=TL0,ps:=ps,rs:=[((.slc u8),(ownMd (.slc u8)))],gl:=[(99,spec_l1Chance.D.sig),(101,spec_l1Next.D.sig),(117,spec_l1Pick.D.sig),(285,spec_l2Put.D.sig),(300,spec_l2New.D.sig),(306,spec_l2Set.D.sig),(307,spec_l2Compact.D.sig),(367,spec_l2Has.D.sig),(368,spec_l2Drop.D.sig),(387,spec_l1Some.D.sig)],es:=[0],lv:=[(3,[0,3,4])],lx:=[(0,[0,3])] }
noncomputable def sem (a:Arg):Option Out:=@lift Out fun k=>D.W k a
noncomputable def T0 (a1:Arg) (v405:L1Src×(List UInt8)×Int):St:={ n:=75,sl:=[(0,.box tL1Src (roMd tL1Src) [] v405.1),(3,.own (.slc u8) (ownMd (.slc u8)) [] v405.2.1),(4,.val i64 v405.2.2)],vr:=[],lent:=[(0,0,false)] }
noncomputable def b0 (self:(L1Src×(List UInt8)×Int)->Option Out) (e0:(L1Src×(List UInt8))->Option Out) (a1:Arg) (v405:L1Src×(List UInt8)×Int):Option Out:=bif decide ((0:Int) < v405.2.2) then ((spec_l1Next.sem (v405.1,(14:Int),())).bind fun r606=>(spec_l1Some.sem (r606.2.1,w64 ((1:Int)+r606.1),())).bind fun r607=>(spec_l1Next.sem (r607.2.1,(5:Int),())).bind fun r608=>bif decide (r608.1=(0:Int)) then ((spec_l1Next.sem (r608.2.1,(6:Int),())).bind fun r609=>(spec_l2Has.sem (v405.2.1,r609.1,())).bind fun r610=>bif r610.1 then ((spec_l2Drop.sem (v405.2.1,r609.1,())).bind fun r611=>self (r609.2.1,r611.1,w64 (v405.2.2 - (1:Int)))) else self (r609.2.1,v405.2.1,w64 (v405.2.2 - (1:Int)))) else bif decide (r608.1=(1:Int)) then ((spec_l1Next.sem (r608.2.1,(6:Int),())).bind fun r612=>(spec_l2Has.sem (v405.2.1,r612.1,())).bind fun r613=>bif r613.1 then ((spec_l2Set.sem (v405.2.1,r612.1,r607.1,())).bind fun r614=>bif decide (r614.2.1=(0:Int)) then (self (r612.2.1,r614.1,w64 (v405.2.2 - (1:Int)))) else self (r612.2.1,v405.2.1,w64 (v405.2.2 - (1:Int)))) else self (r612.2.1,v405.2.1,w64 (v405.2.2 - (1:Int)))) else bif decide (r608.1=(2:Int)) then ((spec_l1Chance.sem (r608.2.1,(3:Int),())).bind fun r615=>bif r615.1 then ((spec_l2Compact.sem (v405.2.1,())).bind fun r616=>self (r615.2.1,r616.1,w64 (v405.2.2 - (1:Int)))) else self (r615.2.1,v405.2.1,w64 (v405.2.2 - (1:Int)))) else (spec_l2Put.sem (v405.2.1,r607.1,())).bind fun r617=>bif decide (r617.2.2.1=(0:Int)) then (self (r608.2.1,r617.1,w64 (v405.2.2 - (1:Int)))) else self (r608.2.1,v405.2.1,w64 (v405.2.2 - (1:Int)))) else e0 (v405.1,v405.2.1)
noncomputable abbrev B0 (_:Nat):=b0
noncomputable def q0 (a1:Arg) (z618:(L1Src×(List UInt8))):Option Out:=some (z618.2,z618.1,())
noncomputable abbrev Q0 (_:Nat):=q0
noncomputable def s0 (k:Nat) (a1:Arg):(L1Src×(List UInt8)×Int)->Option Out:=fun v405=>D.L k [1,1,0,1,0,0] [0,3,4] [] (blockC 0 (seqC (D.N k [1,1,1]) D.K0)) (T0 a1 v405)
noncomputable def r0 (k:Nat) (a1:Arg):(L1Src×(List UInt8)×Int)->Option Out:=rawIter (fun w v=>B0 k w (Q0 k a1) a1 v) k
theorem s0_eq (k:Nat) (a1:Arg):s0 k a1=r0 k a1:=
 funext fun v405=>iter_raw _ _ _ (T0 a1) _ (fun rec v=>by kernel_rfl) k v405
noncomputable def p (l0:(L1Src×(List UInt8)×Int)->Option Out) (a1:Arg):Option Out:=(spec_l1Pick.sem (a1.1,[(0:Int),(0:Int),(7:Int)],())).bind fun r2=>(spec_l2New.sem (UInt8.ofInt r2.1,())).bind fun r3=>(spec_l1Next.sem (r2.2.1,(14:Int),())).bind fun r4=>l0 (r4.2.1,r3.1,r4.1)
theorem raw_eq (k:Nat) (a1:Arg):@Eq (Option Out) (D.W k a1) (p (r0 k a1) a1):=
 Eq.trans (b:=p (s0 k a1) a1) (by kernel_rfl) (by rw[s0_eq])
theorem ok:Ok prog 352 D.sig:=fd_ok func352 tlOk (by kernel_rfl) (fc spec_l1Chance.ok (fc spec_l1Next.ok (fc spec_l1Pick.ok (fc spec_l2Put.ok (fc spec_l2New.ok (fc spec_l2Set.ok (fc spec_l2Compact.ok (fc spec_l2Has.ok (fc spec_l2Drop.ok (fc spec_l1Some.ok (fn_nil _)))))))))))
end spec_l2Right
namespace spec_l2Bent
abbrev Arg:Type:=L1Src×Unit
abbrev Out:Type:=(List UInt8)×L1Src×Unit
abbrev ps:PQ:=[(.mutp (roMd tL1Src),tL1Src)]
noncomputable def D:FD:={ fn:=f284,tl:=TL0,ps:=ps,rs:=[((.slc u8),(roMd (.slc u8)))],gl:=[(101,spec_l1Next.D.sig),(352,spec_l2Right.D.sig)],es:=[0],fz:=[(4,2,0)] }
noncomputable def sem (a:Arg):Option Out:=@lift Out fun k=>D.W k a
noncomputable def p (a1:Arg):Option Out:=(spec_l2Right.sem (a1.1,())).bind fun r2=>(spec_l1Next.sem (r2.2.1,(12:Int),())).bind fun r3=>bif decide (r3.1=(0:Int)) then (if 0<=(1:Int)/\(1:Int)<=(r2.1.length:Int) then (some ((r2.1.take r2.1.length).drop 1,r3.2.1,())) else none) else bif decide (r3.1=(1:Int)) then ((spec_l1Next.sem (r3.2.1,(12:Int),())).bind fun r4=>(spec_l1Next.sem (r4.2.1,(70:Int),())).bind fun r5=>if 0<=r4.1/\r4.1 < (r2.1.length:Int) then ((r2.1[r4.1.toNat]?).bind fun x6=>some (r2.1.set r4.1.toNat (UInt8.ofInt r5.1),r5.2.1,())) else none) else some (r2.1,r3.2.1,())
theorem raw_eq (k:Nat) (a1:Arg):@Eq (Option Out) (D.W k a1) (p a1):=by kernel_rfl
theorem ok:Ok prog 284 D.sig:=fd_ok func284 tlOk (by kernel_rfl) (fc spec_l1Next.ok (fc spec_l2Right.ok (fn_nil _)))
end spec_l2Bent
namespace spec_l6Bent
abbrev Arg:Type:=L1Src×Unit
abbrev Out:Type:=(List (List UInt8))×L1Src×Unit
abbrev ps:PQ:=[(.mutp (roMd tL1Src),tL1Src)]
noncomputable def D:FD:={ fn:=f184,tl:=TL0,ps:=ps,rs:=[((.slc (.slc u8)),(.slc true (roMd (.slc u8))))],gl:=[(101,spec_l1Next.D.sig),(186,spec_l1Draw.D.sig),(202,spec_l1Cell.D.sig),(210,spec_l1Stub.D.sig),(283,spec_l6Pages.D.sig),(284,spec_l2Bent.D.sig),(285,spec_l2Put.D.sig)],es:=[0],od:=[(8,[0,1,2,3,5,4,6,7,8,9,10,11,12,13,14,15]),(13,[0,1,2,3,4,5,6,7,8,9,10,11])],er:=[(8,[(2,16)])] }
noncomputable def sem (a:Arg):Option Out:=@lift Out fun k=>D.W k a
noncomputable def p (a1:Arg):Option Out:=(spec_l6Pages.sem (a1.1,())).bind fun r2=>(spec_l1Next.sem (r2.2.1,(14:Int),())).bind fun r3=>bif decide (r3.1=(0:Int)) then ((spec_l2Bent.sem (r3.2.1,())).bind fun r4=>if 0<=(0:Int)/\(0:Int) < (r2.1.length:Int) then ((r2.1[0]?).bind fun x5=>some (r2.1.set 0 r4.1,r4.2.1,())) else none) else bif decide (r3.1=(1:Int)) then (if 0<=(13:Int)/\(13:Int)<=(13:Int)/\(13:Int)<=(CAP:Int) then (some (List.replicate 13 ([]:List UInt8),r3.2.1,())) else none) else bif decide (r3.1=(2:Int)) then (if 0<=(0:Int)/\(0:Int) < (r2.1.length:Int) then ((r2.1[0]?).bind fun x6=>(spec_l1Next.sem (r3.2.1,(2:Int),())).bind fun r7=>(spec_l1Next.sem (r7.2.1,(3:Int),())).bind fun r8=>(spec_l1Stub.sem (r7.1,r8.1,())).bind fun r9=>(r2.1[0]?).bind fun x10=>(spec_l2Put.sem (x10,r9.1,())).bind fun r11=>bif decide (r11.2.2.1=(0:Int)) then (if 0<=(0:Int)/\(0:Int) < (r2.1.length:Int) then ((r2.1[0]?).bind fun x12=>some (r2.1.set 0 r11.1,r8.2.1,())) else none) else some (r2.1,r8.2.1,())) else none) else bif decide (r3.1=(3:Int)) then ((spec_l1Draw.sem (r3.2.1,())).bind fun r13=>if 0<=(1:Int)/\(1:Int) < (r2.1.length:Int) then ((r2.1[1]?).bind fun x14=>(spec_l1Cell.sem ((0:Int),r13.1,())).bind fun r15=>(r2.1[1]?).bind fun x16=>(spec_l2Put.sem (x16,r15.1,())).bind fun r17=>bif decide (r17.2.2.1=(0:Int)) then (if 0<=(1:Int)/\(1:Int) < (r2.1.length:Int) then ((r2.1[1]?).bind fun x18=>some (r2.1.set 1 r17.1,r13.2.1,())) else none) else some (r2.1,r13.2.1,())) else none) else some (r2.1,r3.2.1,())
theorem raw_eq (k:Nat) (a1:Arg):@Eq (Option Out) (D.W k a1) (p a1):=by kernel_rfl
theorem ok:Ok prog 184 D.sig:=fd_ok func184 tlOk (by kernel_rfl) (fc spec_l1Next.ok (fc spec_l1Draw.ok (fc spec_l1Cell.ok (fc spec_l1Stub.ok (fc spec_l6Pages.ok (fc spec_l2Bent.ok (fc spec_l2Put.ok (fn_nil _))))))))
end spec_l6Bent
namespace spec_l1Text
abbrev Arg:Type:=(List UInt8)×Unit
abbrev Out:Type:=Bool×Unit
abbrev ps:PQ:=[(.ro,.str)]
noncomputable def D:FD:={ fn:=f199,tl:=TL0,ps:=ps,rs:=[(.bool,(roMd .bool))],lv:=[(2,[0,3])],lx:=[(0,[0])] }
noncomputable def sem (a:Arg):Option Out:=@lift Out fun k=>D.W k a
noncomputable def T0 (a1:Arg) (v402:Int):St:={ n:=23,sl:=[(0,.val .str a1.1),(3,.val i64 v402)],vr:=[],lent:=[] }
noncomputable def b0 (self:Int->Option Out) (e0:(Unit)->Option Out) (a1:Arg) (v402:Int):Option Out:=bif decide (v402 < (a1.1.length:Int)) then (if 0<=v402 then ((a1.1[v402.toNat]?).bind fun x603=>bif decide ((x603.toNat:Int) < (97:Int)) then (some (false,())) else if 0<=v402 then ((a1.1[v402.toNat]?).bind fun x604=>bif decide ((122:Int) < (x604.toNat:Int)) then (some (false,())) else self (w64 (v402+(1:Int)))) else none) else none) else e0 ()
noncomputable abbrev B0 (_:Nat):=b0
noncomputable def q0 (a1:Arg) (z605:(Unit)):Option Out:=some (decide ((a1.1.length:Int)<=(8:Int)),())
noncomputable abbrev Q0 (_:Nat):=q0
noncomputable def s0 (k:Nat) (a1:Arg):(Int)->Option Out:=fun v402=>D.L k [1,0,1,0,0] [0,3] [] (blockC 0 (seqC (D.N k [1,1]) D.K0)) (T0 a1 v402)
noncomputable def r0 (k:Nat) (a1:Arg):(Int)->Option Out:=rawIter (fun w v=>B0 k w (Q0 k a1) a1 v) k
theorem s0_eq (k:Nat) (a1:Arg):s0 k a1=r0 k a1:=
 funext fun v402=>iter_raw _ _ _ (T0 a1) _ (fun rec v=>by kernel_rfl) k v402
noncomputable def p (l0:(Int)->Option Out) (a1:Arg):Option Out:=l0 (0:Int)
theorem raw_eq (k:Nat) (a1:Arg):@Eq (Option Out) (D.W k a1) (p (r0 k a1) a1):=
 Eq.trans (b:=p (s0 k a1) a1) (by kernel_rfl) (by rw[s0_eq])
theorem ok:Ok prog 199 D.sig:=fd_ok func199 tlOk (by kernel_rfl) (fn_nil _)
end spec_l1Text
namespace spec_l1Fault
abbrev Arg:Type:=Row×Unit
abbrev Out:Type:=Int×Unit
abbrev ps:PQ:=[(.ro,(.ptr tRow))]
noncomputable def D:FD:={ fn:=f94,tl:=TL0,ps:=ps,rs:=[(i64,(roMd i64))],gl:=[(123,spec_l1In.D.sig),(199,spec_l1Text.D.sig)] }
noncomputable def sem (a:Arg):Option Out:=@lift Out fun k=>D.W k a
noncomputable def p (a1:Arg):Option Out:=(spec_l1In.sem (a1.1.1,(0:Int),(3:Int),())).bind fun r2=>bif !r2.1 then (some ((3:Int),())) else (spec_l1In.sem (a1.1.2.1,(1:Int),(99:Int),())).bind fun r3=>bif !r3.1 then (some ((3:Int),())) else (spec_l1In.sem (a1.1.2.2.1,(0:Int),(999:Int),())).bind fun r4=>bif !r4.1 then (some ((3:Int),())) else (spec_l1Text.sem (a1.1.2.2.2.1,())).bind fun r5=>bif !r5.1 then (some ((5:Int),())) else some ((0:Int),())
theorem raw_eq (k:Nat) (a1:Arg):@Eq (Option Out) (D.W k a1) (p a1):=by kernel_rfl
theorem ok:Ok prog 94 D.sig:=fd_ok func94 tlOk (by kernel_rfl) (fc spec_l1In.ok (fc spec_l1Text.ok (fn_nil _)))
end spec_l1Fault
namespace spec_l1Place
abbrev Arg:Type:=Int×Int×Unit
abbrev Out:Type:=Bool×Unit
abbrev ps:PQ:=[(.ro,i64),(.ro,i64)]
noncomputable def D:FD:={ fn:=f365,tl:=TL0,ps:=ps,rs:=[(.bool,(roMd .bool))],gl:=[(123,spec_l1In.D.sig)] }
noncomputable def sem (a:Arg):Option Out:=@lift Out fun k=>D.W k a
noncomputable def p (a1:Arg):Option Out:=(spec_l1In.sem (a1.1,(0:Int),(11:Int),())).bind fun r2=>bif r2.1 then ((spec_l1In.sem (a1.2.1,(0:Int),(15:Int),())).bind fun r3=>some (r3.1,())) else some (false,())
theorem raw_eq (k:Nat) (a1:Arg):@Eq (Option Out) (D.W k a1) (p a1):=by kernel_rfl
theorem ok:Ok prog 365 D.sig:=fd_ok func365 tlOk (by kernel_rfl) (fc spec_l1In.ok (fn_nil _))
end spec_l1Place
namespace spec_l1Read
abbrev Arg:Type:=(List UInt8)×Unit
abbrev Out:Type:=CellResult×Bool×Unit
abbrev ps:PQ:=[(.ro,(.slc u8))]
noncomputable def D:FD:={ fn:=f296,tl:=TL0,ps:=ps,rs:=[(tCellResult,(roMd tCellResult)),(.bool,(roMd .bool))],gl:=[(94,spec_l1Fault.D.sig),(365,spec_l1Place.D.sig)],od:=[(2,[0,1,2,3,4,5,6,7,8,9,10]),(3,[0,1,2,3,4,5,6,7]),(6,[0,1,2,3,4,5,6,7,8,9,10,11,12,13,14,15,16,17,18,19,20,21,22,23]),(7,[0,1,2,3,4,5,6,7,8,9])] }
noncomputable def sem (a:Arg):Option Out:=@lift Out fun k=>D.W k a
noncomputable def p (a1:Arg):Option Out:=let j16:Option Out:=bif decide ((a1.1.length:Int) < (6:Int)) then (some (((0:Int),(0:Int),(0:Int),(0:Int),((0:Int),(0:Int),(0:Int),([]:List UInt8),()),()),false,())) else (a1.1[0]?).bind fun x17=>bif decide ((x17.toNat:Int)=(1:Int)) then (some (((0:Int),(0:Int),(0:Int),(0:Int),((0:Int),(0:Int),(0:Int),([]:List UInt8),()),()),false,())) else (a1.1[0]?).bind fun x18=>bif decide ((2:Int) < (x18.toNat:Int)) then (some (((0:Int),(0:Int),(0:Int),(0:Int),((0:Int),(0:Int),(0:Int),([]:List UInt8),()),()),false,())) else (a1.1[5]?).bind fun x19=>bif !decide ((a1.1.length:Int)=w64 ((6:Int)+(w64 (x19.toNat:Int)))) then (some (((0:Int),(0:Int),(0:Int),(0:Int),((0:Int),(0:Int),(0:Int),([]:List UInt8),()),()),false,())) else (a1.1[1]?).bind fun x20=>(a1.1[2]?).bind fun x21=>(a1.1[3]?).bind fun x22=>(a1.1[4]?).bind fun x23=>if 0<=(6:Int)/\(6:Int)<=(a1.1.length:Int) then (let y24:=w64 ((w64 ((w64 (x22.toNat:Int))*(256:Int)))+(w64 (x23.toNat:Int)));(a1.1[0]?).bind fun x25=>(spec_l1Fault.sem ((w64 (x20.toNat:Int),w64 (x21.toNat:Int),y24,(a1.1.take a1.1.length).drop 6,()),())).bind fun r26=>some (((0:Int),w64 (x25.toNat:Int),(0:Int),(0:Int),(w64 (x20.toNat:Int),w64 (x21.toNat:Int),y24,(a1.1.take a1.1.length).drop 6,()),()),decide (r26.1=(0:Int)),())) else none;bif decide ((a1.1.length:Int)=(3:Int)) then ((a1.1[0]?).bind fun x2=>bif decide ((x2.toNat:Int)=(1:Int)) then ((a1.1[1]?).bind fun x3=>(a1.1[2]?).bind fun x4=>(spec_l1Place.sem (w64 (x3.toNat:Int),w64 (x4.toNat:Int),())).bind fun r5=>some (((0:Int),(1:Int),w64 (x3.toNat:Int),w64 (x4.toNat:Int),((0:Int),(0:Int),(0:Int),([]:List UInt8),()),()),r5.1,())) else j16) else j16
theorem raw_eq (k:Nat) (a1:Arg):@Eq (Option Out) (D.W k a1) (p a1):=by kernel_rfl
theorem ok:Ok prog 296 D.sig:=fd_ok func296 tlOk (by kernel_rfl) (fc spec_l1Fault.ok (fc spec_l1Place.ok (fn_nil _)))
end spec_l1Read
namespace spec_l6Spots
abbrev Arg:Type:=(List (List UInt8))×Unit
abbrev Out:Type:=(List L6Spot)×Unit
abbrev ps:PQ:=[(.ro,(.slc (.slc u8)))]
noncomputable def D:FD:={ fn:=f197,tl:=TL0,ps:=ps,rs:=[((.slc tL6Spot),(ownMd (.slc tL6Spot)))],gl:=[(294,spec_l2Count.D.sig),(295,spec_l2Size.D.sig),(296,spec_l1Read.D.sig),(297,spec_l2Cell.D.sig)],lv:=[(3,[0,3,4]),(6,[0,3,4,5])],lx:=[(0,[3]),(2,[0,3,4])] }
noncomputable def sem (a:Arg):Option Out:=@lift Out fun k=>D.W k a
noncomputable def T0 (a1:Arg) (v402:(List (List UInt8))×(List L6Spot)×Int):St:={ n:=49,sl:=[(0,.val (.slc (.slc u8)) v402.1),(3,.own (.slc tL6Spot) (ownMd (.slc tL6Spot)) [] v402.2.1),(4,.val i64 v402.2.2)],vr:=[],lent:=[] }
noncomputable def S0 (rec:RT Out) (a1:Arg):((List (List UInt8))×(List L6Spot)×Int)->Option Out:=fun v402=>rec (T0 a1 v402)
noncomputable def X0_0 (K:KT Out) (a1:Arg):(List L6Spot)->Option Out:=fun z=>K (.exit 0) ({ n:=49,sl:=[(3,.own (.slc tL6Spot) (ownMd (.slc tL6Spot)) [] z)],vr:=[],lent:=[] })
noncomputable def T1 (a1:Arg) (c1004:List (List UInt8)) (c1005:Int) (v1003:(List L6Spot)×Int):St:={ n:=49,sl:=[(0,.val (.slc (.slc u8)) c1004),(3,.own (.slc tL6Spot) (ownMd (.slc tL6Spot)) [] v1003.1),(4,.val i64 c1005),(5,.val i64 v1003.2)],vr:=[],lent:=[] }
noncomputable def b1 (self:((List L6Spot)×Int)->Option Out) (e2:(List L6Spot)->Option Out) (a1:Arg) (c1004:List (List UInt8)) (c1005:Int) (v1003:(List L6Spot)×Int):Option Out:=if 0<=c1005 then ((c1004[c1005.toNat]?).bind fun x1206=>(spec_l2Count.sem (x1206,())).bind fun r1207=>bif decide (v1003.2 < r1207.1) then (if 0<=c1005 then ((c1004[c1005.toNat]?).bind fun x1208=>(spec_l2Size.sem (x1208,v1003.2,())).bind fun r1209=>bif decide ((0:Int) < r1209.1) then (if 0<=c1005 then ((c1004[c1005.toNat]?).bind fun x1210=>(spec_l2Cell.sem (x1210,v1003.2,())).bind fun r1211=>(spec_l1Read.sem (r1211.1,())).bind fun r1212=>if v1003.1.length+[(c1005,v1003.2,r1212.1,())].length<=CAP then (let y1213:=v1003.1++[(c1005,v1003.2,r1212.1,())];self (y1213,w64 (v1003.2+(1:Int)))) else none) else none) else self (v1003.1,w64 (v1003.2+(1:Int)))) else none) else e2 v1003.1) else none
noncomputable abbrev B1 (_:Nat):=b1
noncomputable def q0 (self:((List (List UInt8))×(List L6Spot)×Int)->Option Out) (e0:(List L6Spot)->Option Out) (a1:Arg) (c1004:List (List UInt8)) (c1005:Int) (z1214:(List L6Spot)):Option Out:=self (c1004,z1214,w64 (c1005+(1:Int)))
noncomputable abbrev Q0 (_:Nat):=q0
noncomputable def s1 (k:Nat) (rec:RT Out) (K:KT Out) (a1:Arg):(List (List UInt8))->Int->((List L6Spot)×Int)->Option Out:=fun c1004 c1005=>fun v1003=>D.L k [1,1,0,1,0,0,1,0,0,1,0,0] [0,3,4,5] [] (blockC 2 (blockC 1 (seqC (D.N k [1,1,0,1,0,0,1,1]) (loopC rec (keepF [0,3,4] []) K)))) (T1 a1 c1004 c1005 v1003)
noncomputable def r1 (k:Nat) (self:((List (List UInt8))×(List L6Spot)×Int)->Option Out) (e0:(List L6Spot)->Option Out) (a1:Arg):(List (List UInt8))->Int->((List L6Spot)×Int)->Option Out:=fun c1004 c1005=>rawIter (fun w v=>B1 k w (Q0 k self e0 a1 c1004 c1005) a1 c1004 c1005 v) k
theorem s1_eq (k:Nat) (rec:RT Out) (K:KT Out) (a1:Arg):s1 k rec K a1=r1 k (S0 rec a1) (X0_0 K a1) a1:=
 funext fun c1004=>funext fun c1005=>funext fun v1003=>iter_raw _ _ _ (T1 a1 c1004 c1005) _ (fun rec v=>by kernel_rfl) k v1003
noncomputable def b0 (self:((List (List UInt8))×(List L6Spot)×Int)->Option Out) (e0:(List L6Spot)->Option Out) (l1:(List (List UInt8))->Int->((List L6Spot)×Int)->Option Out) (a1:Arg) (v402:(List (List UInt8))×(List L6Spot)×Int):Option Out:=bif decide (v402.2.2 < (v402.1.length:Int)) then (l1 v402.1 v402.2.2 (v402.2.1,(0:Int))) else e0 v402.2.1
noncomputable def B0 (k:Nat) (self:((List (List UInt8))×(List L6Spot)×Int)->Option Out) (e0:(List L6Spot)->Option Out) (a1:Arg) (v402:(List (List UInt8))×(List L6Spot)×Int):Option Out:=b0 self e0 (r1 k self e0 a1) a1 v402
theorem B0_eq (k:Nat) (rec:RT Out) (K:KT Out) (a1:Arg) (v402:(List (List UInt8))×(List L6Spot)×Int):D.N k [1,1,0,1,0,0] (T0 a1 v402) (loopC rec (keepF [0,3,4] []) K)=B0 k (S0 rec a1) (X0_0 K a1) a1 v402:=
 Eq.trans (b:=b0 (S0 rec a1) (X0_0 K a1) (s1 k rec K a1) a1 v402) (by kernel_rfl) (by rw[s1_eq];rfl)
noncomputable def q1 (a1:Arg) (z1215:(List L6Spot)):Option Out:=some (z1215,())
noncomputable abbrev Q1 (_:Nat):=q1
theorem Q1_eq (k:Nat) (a1:Arg) (z1215:(List L6Spot)):X0_0 (blockC 0 (seqC (D.N k [1,1,1]) D.K0)) a1 z1215=q1 a1 z1215:=by kernel_rfl
noncomputable def s0 (k:Nat) (a1:Arg):((List (List UInt8))×(List L6Spot)×Int)->Option Out:=fun v402=>D.L k [1,1,0,1,0,0] [0,3,4] [] (blockC 0 (seqC (D.N k [1,1,1]) D.K0)) (T0 a1 v402)
noncomputable def r0 (k:Nat) (a1:Arg):((List (List UInt8))×(List L6Spot)×Int)->Option Out:=rawIter (fun w v=>B0 k w (Q1 k a1) a1 v) k
theorem s0_eq (k:Nat) (a1:Arg):s0 k a1=r0 k a1:=by
 funext v402;
 have h0:X0_0 (blockC 0 (seqC (D.N k [1,1,1]) D.K0)) a1=Q1 k a1:=funext fun z=>Q1_eq k a1 z
 refine (iter_raw _ _ _ (T0 a1) (fun self v=>B0 k self (X0_0 (blockC 0 (seqC (D.N k [1,1,1]) D.K0)) a1) a1 v) (fun rec v=>B0_eq k rec (blockC 0 (seqC (D.N k [1,1,1]) D.K0)) a1 v) k v402).trans ?_
 rw[h0]
 rfl
noncomputable def p (l0:((List (List UInt8))×(List L6Spot)×Int)->Option Out) (a1:Arg):Option Out:=l0 (a1.1,([]:List L6Spot),(0:Int))
theorem raw_eq (k:Nat) (a1:Arg):@Eq (Option Out) (D.W k a1) (p (r0 k a1) a1):=
 Eq.trans (b:=p (s0 k a1) a1) (by kernel_rfl) (by rw[s0_eq])
theorem ok:Ok prog 197 D.sig:=fd_ok func197 tlOk (by kernel_rfl) (fc spec_l2Count.ok (fc spec_l2Size.ok (fc spec_l1Read.ok (fc spec_l2Cell.ok (fn_nil _)))))
end spec_l6Spots
namespace spec_l6Cell
abbrev Arg:Type:=(List (List UInt8))×Int×Int×Unit
abbrev Out:Type:=CellResult×Bool×Unit
abbrev ps:PQ:=[(.ro,(.slc (.slc u8))),(.ro,i64),(.ro,i64)]
noncomputable def D:FD:={ fn:=f298,tl:=TL0,ps:=ps,rs:=[(tCellResult,(roMd tCellResult)),(.bool,(roMd .bool))],gl:=[(123,spec_l1In.D.sig),(296,spec_l1Read.D.sig),(297,spec_l2Cell.D.sig),(367,spec_l2Has.D.sig)] }
noncomputable def sem (a:Arg):Option Out:=@lift Out fun k=>D.W k a
noncomputable def p (a1:Arg):Option Out:=(spec_l1In.sem (a1.2.1,(0:Int),w64 ((a1.1.length:Int) - (1:Int)),())).bind fun r2=>bif !r2.1 then (some (((0:Int),(0:Int),(0:Int),(0:Int),((0:Int),(0:Int),(0:Int),([]:List UInt8),()),()),false,())) else if 0<=a1.2.1 then ((a1.1[a1.2.1.toNat]?).bind fun x3=>(spec_l2Has.sem (x3,a1.2.2.1,())).bind fun r4=>bif !r4.1 then (some (((0:Int),(0:Int),(0:Int),(0:Int),((0:Int),(0:Int),(0:Int),([]:List UInt8),()),()),false,())) else if 0<=a1.2.1 then ((a1.1[a1.2.1.toNat]?).bind fun x5=>(spec_l2Cell.sem (x5,a1.2.2.1,())).bind fun r6=>(spec_l1Read.sem (r6.1,())).bind fun r7=>some (r7.1,r7.2.1,())) else none) else none
theorem raw_eq (k:Nat) (a1:Arg):@Eq (Option Out) (D.W k a1) (p a1):=by kernel_rfl
theorem ok:Ok prog 298 D.sig:=fd_ok func298 tlOk (by kernel_rfl) (fc spec_l1In.ok (fc spec_l1Read.ok (fc spec_l2Cell.ok (fc spec_l2Has.ok (fn_nil _)))))
end spec_l6Cell
namespace spec_l6Seen
abbrev Arg:Type:=(List (List UInt8))×Unit
abbrev Out:Type:=(List L6Spot)×Unit
abbrev ps:PQ:=[(.ro,(.slc (.slc u8)))]
noncomputable def D:FD:={ fn:=f198,tl:=TL0,ps:=ps,rs:=[((.slc tL6Spot),(ownMd (.slc tL6Spot)))],gl:=[(197,spec_l6Spots.D.sig),(298,spec_l6Cell.D.sig)],lv:=[(4,[0,3,4,5])],lx:=[(0,[3]),(1,[0,3,4,5])] }
noncomputable def sem (a:Arg):Option Out:=@lift Out fun k=>D.W k a
noncomputable def T0 (a1:Arg) (c404:List L6Spot) (v403:(List L6Spot)×Int):St:={ n:=50,sl:=[(0,.val (.slc (.slc u8)) a1.1),(3,.own (.slc tL6Spot) (ownMd (.slc tL6Spot)) [] v403.1),(4,.own (.slc tL6Spot) (ownMd (.slc tL6Spot)) [] c404),(5,.val i64 v403.2)],vr:=[],lent:=[] }
noncomputable def b0 (self:((List L6Spot)×Int)->Option Out) (e0:(List L6Spot)->Option Out) (a1:Arg) (c404:List L6Spot) (v403:(List L6Spot)×Int):Option Out:=bif decide (v403.2 < (c404.length:Int)) then (if 0<=v403.2/\v403.2 < (c404.length:Int) then ((c404[v403.2.toNat]?).bind fun x605=>bif decide (x605.2.2.1.2.1=(2:Int)) then (self (v403.1,w64 (v403.2+(1:Int)))) else let j609:=fun (p608:L6Spot)=>(if v403.1.length+[p608].length<=CAP then (self (v403.1++[p608],w64 (v403.2+(1:Int)))) else none:Option Out);bif decide (x605.2.2.1.2.1=(1:Int)) then ((spec_l6Cell.sem (a1.1,x605.2.2.1.2.2.1,x605.2.2.1.2.2.2.1,())).bind fun r606=>j609 (x605.1,x605.2.1,(x605.2.2.1.1,x605.2.2.1.2.1,x605.2.2.1.2.2.1,x605.2.2.1.2.2.2.1,r606.1.2.2.2.2.1,x605.2.2.1.2.2.2.2.2),x605.2.2.2)) else j609 x605) else none) else e0 v403.1
noncomputable abbrev B0 (_:Nat):=b0
noncomputable def q0 (a1:Arg) (c404:List L6Spot) (z610:(List L6Spot)):Option Out:=some (z610,())
noncomputable abbrev Q0 (_:Nat):=q0
noncomputable def s0 (k:Nat) (a1:Arg):(List L6Spot)->((List L6Spot)×Int)->Option Out:=fun c404=>fun v403=>D.L k [1,1,1,0,1,0,0] [0,3,4,5] [] (blockC 0 (seqC (D.N k [1,1,1,1]) D.K0)) (T0 a1 c404 v403)
noncomputable def r0 (k:Nat) (a1:Arg):(List L6Spot)->((List L6Spot)×Int)->Option Out:=fun c404=>rawIter (fun w v=>B0 k w (Q0 k a1 c404) a1 c404 v) k
theorem s0_eq (k:Nat) (a1:Arg):s0 k a1=r0 k a1:=
 funext fun c404=>funext fun v403=>iter_raw _ _ _ (T0 a1 c404) _ (fun rec v=>by kernel_rfl) k v403
noncomputable def p (l0:(List L6Spot)->((List L6Spot)×Int)->Option Out) (a1:Arg):Option Out:=(spec_l6Spots.sem (a1.1,())).bind fun r2=>l0 r2.1 (([]:List L6Spot),(0:Int))
theorem raw_eq (k:Nat) (a1:Arg):@Eq (Option Out) (D.W k a1) (p (r0 k a1) a1):=
 Eq.trans (b:=p (s0 k a1) a1) (by kernel_rfl) (by rw[s0_eq])
theorem ok:Ok prog 198 D.sig:=fd_ok func198 tlOk (by kernel_rfl) (fc spec_l6Spots.ok (fc spec_l6Cell.ok (fn_nil _)))
end spec_l6Seen
namespace spec_l6Find
abbrev Arg:Type:=(List (List UInt8))×Int×Int×Unit
abbrev Out:Type:=L6Spot×Bool×Unit
abbrev ps:PQ:=[(.ro,(.slc (.slc u8))),(.ro,i64),(.ro,i64)]
noncomputable def D:FD:={ fn:=f95,tl:=TL0,ps:=ps,rs:=[(tL6Spot,(roMd tL6Spot)),(.bool,(roMd .bool))],gl:=[(198,spec_l6Seen.D.sig)],lv:=[(3,[1,2,6,8,9])],lx:=[(0,[6])] }
noncomputable def sem (a:Arg):Option Out:=@lift Out fun k=>D.W k a
noncomputable def T0 (a1:Arg) (c404:List L6Spot) (v403:Int):St:={ n:=43,sl:=[(1,.val i64 a1.2.1),(2,.val i64 a1.2.2.1),(6,.box tL6Spot (roMd tL6Spot) [] ((0:Int),(0:Int),((0:Int),(0:Int),(0:Int),(0:Int),((0:Int),(0:Int),(0:Int),([]:List UInt8),()),()),())),(8,.own (.slc tL6Spot) (ownMd (.slc tL6Spot)) [] c404),(9,.val i64 v403)],vr:=[],lent:=[] }
noncomputable def b0 (self:Int->Option Out) (e0:(Unit)->Option Out) (a1:Arg) (c404:List L6Spot) (v403:Int):Option Out:=bif decide (v403 < (c404.length:Int)) then (if 0<=v403/\v403 < (c404.length:Int) then ((c404[v403.toNat]?).bind fun x605=>bif decide (x605.2.2.1.2.2.2.2.1.1=a1.2.1) then (if 0<=v403/\v403 < (c404.length:Int) then ((c404[v403.toNat]?).bind fun x606=>bif decide (x606.2.2.1.2.2.2.2.1.2.1=a1.2.2.1) then (if 0<=v403/\v403 < (c404.length:Int) then ((c404[v403.toNat]?).bind fun x607=>some (x607,true,())) else none) else self (w64 (v403+(1:Int)))) else none) else self (w64 (v403+(1:Int)))) else none) else e0 ()
noncomputable abbrev B0 (_:Nat):=b0
noncomputable def q0 (a1:Arg) (c404:List L6Spot) (z608:(Unit)):Option Out:=some (((0:Int),(0:Int),((0:Int),(0:Int),(0:Int),(0:Int),((0:Int),(0:Int),(0:Int),([]:List UInt8),()),()),()),false,())
noncomputable abbrev Q0 (_:Nat):=q0
noncomputable def s0 (k:Nat) (a1:Arg):(List L6Spot)->(Int)->Option Out:=fun c404=>fun v403=>D.L k [1,1,0,1,0,0] [1,2,6,8,9] [] (blockC 0 (seqC (D.N k [1,1,1]) D.K0)) (T0 a1 c404 v403)
noncomputable def r0 (k:Nat) (a1:Arg):(List L6Spot)->(Int)->Option Out:=fun c404=>rawIter (fun w v=>B0 k w (Q0 k a1 c404) a1 c404 v) k
theorem s0_eq (k:Nat) (a1:Arg):s0 k a1=r0 k a1:=
 funext fun c404=>funext fun v403=>iter_raw _ _ _ (T0 a1 c404) _ (fun rec v=>by kernel_rfl) k v403
noncomputable def p (l0:(List L6Spot)->(Int)->Option Out) (a1:Arg):Option Out:=(spec_l6Seen.sem (a1.1,())).bind fun r2=>l0 r2.1 (0:Int)
theorem raw_eq (k:Nat) (a1:Arg):@Eq (Option Out) (D.W k a1) (p (r0 k a1) a1):=
 Eq.trans (b:=p (s0 k a1) a1) (by kernel_rfl) (by rw[s0_eq])
theorem ok:Ok prog 95 D.sig:=fd_ok func95 tlOk (by kernel_rfl) (fc spec_l6Seen.ok (fn_nil _))
end spec_l6Find
namespace spec_l7Bad
abbrev Arg:Type:=Int×Unit
abbrev Out:Type:=EditsResult×Unit
abbrev ps:PQ:=[(.ro,i64)]
noncomputable def D:FD:={ fn:=f93,tl:=TL0,ps:=ps,rs:=[(tEditsResult,(ownMd tEditsResult))] }
noncomputable def sem (a:Arg):Option Out:=@lift Out fun k=>D.W k a
noncomputable def p (a1:Arg):Option Out:=some ((a1.1,([]:List Edit),([]:List (List UInt8)),()),())
theorem raw_eq (k:Nat) (a1:Arg):@Eq (Option Out) (D.W k a1) (p a1):=by kernel_rfl
theorem ok:Ok prog 93 D.sig:=fd_ok func93 tlOk (by kernel_rfl) (fn_nil _)
end spec_l7Bad
namespace spec_l7Copy
abbrev Arg:Type:=(List (List UInt8))×Unit
abbrev Out:Type:=(List (List UInt8))×Unit
abbrev ps:PQ:=[(.ro,(.slc (.slc u8)))]
noncomputable def D:FD:={ fn:=f122,tl:=TL0,ps:=ps,rs:=[((.slc (.slc u8)),(ownMd (.slc (.slc u8))))],gl:=[(124,spec_l2Copy.D.sig)],lv:=[(3,[0,3,4])],lx:=[(0,[3])] }
noncomputable def sem (a:Arg):Option Out:=@lift Out fun k=>D.W k a
noncomputable def T0 (a1:Arg) (v402:(List (List UInt8))×Int):St:={ n:=21,sl:=[(0,.val (.slc (.slc u8)) a1.1),(3,.own (.slc (.slc u8)) (ownMd (.slc (.slc u8))) [] v402.1),(4,.val i64 v402.2)],vr:=[],lent:=[] }
noncomputable def b0 (self:((List (List UInt8))×Int)->Option Out) (e0:(List (List UInt8))->Option Out) (a1:Arg) (v402:(List (List UInt8))×Int):Option Out:=bif decide (v402.2 < (a1.1.length:Int)) then (if 0<=v402.2 then ((a1.1[v402.2.toNat]?).bind fun x603=>(spec_l2Copy.sem (x603,())).bind fun r604=>if v402.1.length+[r604.1].length<=CAP then (self (v402.1++[r604.1],w64 (v402.2+(1:Int)))) else none) else none) else e0 v402.1
noncomputable abbrev B0 (_:Nat):=b0
noncomputable def q0 (a1:Arg) (z605:(List (List UInt8))):Option Out:=some (z605,())
noncomputable abbrev Q0 (_:Nat):=q0
noncomputable def s0 (k:Nat) (a1:Arg):((List (List UInt8))×Int)->Option Out:=fun v402=>D.L k [1,1,0,1,0,0] [0,3,4] [] (blockC 0 (seqC (D.N k [1,1,1]) D.K0)) (T0 a1 v402)
noncomputable def r0 (k:Nat) (a1:Arg):((List (List UInt8))×Int)->Option Out:=rawIter (fun w v=>B0 k w (Q0 k a1) a1 v) k
theorem s0_eq (k:Nat) (a1:Arg):s0 k a1=r0 k a1:=
 funext fun v402=>iter_raw _ _ _ (T0 a1) _ (fun rec v=>by kernel_rfl) k v402
noncomputable def p (l0:((List (List UInt8))×Int)->Option Out) (a1:Arg):Option Out:=l0 (([]:List (List UInt8)),(0:Int))
theorem raw_eq (k:Nat) (a1:Arg):@Eq (Option Out) (D.W k a1) (p (r0 k a1) a1):=
 Eq.trans (b:=p (s0 k a1) a1) (by kernel_rfl) (by rw[s0_eq])
theorem ok:Ok prog 122 D.sig:=fd_ok func122 tlOk (by kernel_rfl) (fc spec_l2Copy.ok (fn_nil _))
end spec_l7Copy
namespace spec_l7Start
abbrev Arg:Type:=(List (List UInt8))×Unit
abbrev Out:Type:=L7Work×Unit
abbrev ps:PQ:=[(.ro,(.slc (.slc u8)))]
noncomputable def D:FD:={ fn:=f200,tl:=TL0,ps:=ps,rs:=[((.ptr tL7Work),(ownMd (.ptr tL7Work)))],gl:=[(122,spec_l7Copy.D.sig)] }
noncomputable def sem (a:Arg):Option Out:=@lift Out fun k=>D.W k a
noncomputable def p (a1:Arg):Option Out:=(spec_l7Copy.sem (a1.1,())).bind fun r2=>some ((r2.1,([]:List Edit),()),())
theorem raw_eq (k:Nat) (a1:Arg):@Eq (Option Out) (D.W k a1) (p a1):=by kernel_rfl
theorem ok:Ok prog 200 D.sig:=fd_ok func200 tlOk (by kernel_rfl) (fc spec_l7Copy.ok (fn_nil _))
end spec_l7Start
namespace spec_l7Turn
abbrev Arg:Type:=L7Work×Int×(List UInt8)×Unit
abbrev Out:Type:=L7Work×Unit
abbrev ps:PQ:=[(.mutp (ownMd tL7Work),tL7Work),(.ro,i64),(.ro,(.slc u8))]
noncomputable def D:FD:={ fn:=f301,tl:=TL0,ps:=ps,rs:=[],gl:=[(124,spec_l2Copy.D.sig)],es:=[0],od:=[(1,[0,1,2,3,4,5,6,7,8,9,10,11]),(2,[0,1,2,3,4,5,6,7,8,9,10]),(3,[0,1,2,3,4,5,6,7,8]),(4,[0,1,2,3,4,5,6,7,8,9,10,11,12,13])] }
noncomputable def sem (a:Arg):Option Out:=@lift Out fun k=>D.W k a
noncomputable def p (a1:Arg):Option Out:=let j9:=fun (p8:L7Work)=>((spec_l2Copy.sem (a1.2.2.1,())).bind fun r10=>if p8.2.1.length+[(a1.2.1,r10.1,())].length<=CAP then (some ((p8.1,p8.2.1++[(a1.2.1,r10.1,())],p8.2.2),())) else none:Option Out);bif decide (a1.2.1=(a1.1.1.length:Int)) then ((spec_l2Copy.sem (a1.2.2.1,())).bind fun r2=>if a1.1.1.length+[r2.1].length<=CAP then (j9 (a1.1.1++[r2.1],a1.1.2)) else none) else if 0<=a1.2.1/\a1.2.1 < (a1.1.1.length:Int) then ((a1.1.1[a1.2.1.toNat]?).bind fun x3=>(a1.1.1[a1.2.1.toNat]?).bind fun x4=>bif decide (x4=a1.2.2.1) then (some (a1.1,())) else (spec_l2Copy.sem (a1.2.2.1,())).bind fun r5=>if 0<=a1.2.1/\a1.2.1 < (a1.1.1.length:Int) then ((a1.1.1[a1.2.1.toNat]?).bind fun x6=>j9 (a1.1.1.set a1.2.1.toNat r5.1,a1.1.2)) else none) else none
theorem raw_eq (k:Nat) (a1:Arg):@Eq (Option Out) (D.W k a1) (p a1):=by kernel_rfl
theorem ok:Ok prog 301 D.sig:=fd_ok func301 tlOk (by kernel_rfl) (fc spec_l2Copy.ok (fn_nil _))
end spec_l7Turn
namespace spec_l7PutIn
abbrev Arg:Type:=L7Work×Int×(List UInt8)×Unit
abbrev Out:Type:=Int×Bool×L7Work×Unit
abbrev ps:PQ:=[(.mutp (ownMd tL7Work),tL7Work),(.ro,i64),(.ro,(.slc u8))]
noncomputable def D:FD:={ fn:=f299,tl:=TL0,ps:=ps,rs:=[(i64,(roMd i64)),(.bool,(roMd .bool))],gl:=[(285,spec_l2Put.D.sig),(301,spec_l7Turn.D.sig),(307,spec_l2Compact.D.sig)],es:=[0] }
noncomputable def sem (a:Arg):Option Out:=@lift Out fun k=>D.W k a
noncomputable def p (a1:Arg):Option Out:=if 0<=a1.2.1/\a1.2.1 < (a1.1.1.length:Int) then ((a1.1.1[a1.2.1.toNat]?).bind fun x2=>(a1.1.1[a1.2.1.toNat]?).bind fun x3=>(spec_l2Put.sem (x3,a1.2.2.1,())).bind fun r4=>let j17:=fun (p13:L7Work) (p14:List UInt8) (p15:Int) (p16:Int)=>(bif !decide (p16=(0:Int)) then (some ((0:Int),false,p13,())) else (spec_l7Turn.sem (p13,a1.2.1,p14,())).bind fun r18=>some (p15,true,r18.1,()):Option Out);bif decide (r4.2.2.1=(8:Int)) then (if 0<=a1.2.1/\a1.2.1 < (a1.1.1.length:Int) then ((a1.1.1[a1.2.1.toNat]?).bind fun x5=>(a1.1.1[a1.2.1.toNat]?).bind fun x6=>(spec_l2Compact.sem (x6,())).bind fun r7=>(spec_l7Turn.sem (a1.1,a1.2.1,r7.1,())).bind fun r8=>if 0<=a1.2.1/\a1.2.1 < (r8.1.1.length:Int) then ((r8.1.1[a1.2.1.toNat]?).bind fun x9=>(r8.1.1[a1.2.1.toNat]?).bind fun x10=>(spec_l2Put.sem (x10,a1.2.2.1,())).bind fun r11=>j17 r8.1 r11.1 r11.2.1 r11.2.2.1) else none) else none) else j17 a1.1 r4.1 r4.2.1 r4.2.2.1) else none
theorem raw_eq (k:Nat) (a1:Arg):@Eq (Option Out) (D.W k a1) (p a1):=by kernel_rfl
theorem ok:Ok prog 299 D.sig:=fd_ok func299 tlOk (by kernel_rfl) (fc spec_l2Put.ok (fc spec_l7Turn.ok (fc spec_l2Compact.ok (fn_nil _))))
end spec_l7PutIn
namespace spec_l7Place
abbrev Arg:Type:=L7Work×Int×(List UInt8)×Unit
abbrev Out:Type:=Int×Int×Bool×L7Work×Unit
abbrev ps:PQ:=[(.mutp (ownMd tL7Work),tL7Work),(.ro,i64),(.ro,(.slc u8))]
noncomputable def D:FD:={ fn:=f201,tl:=TL0,ps:=ps,rs:=[(i64,(roMd i64)),(i64,(roMd i64)),(.bool,(roMd .bool))],gl:=[(285,spec_l2Put.D.sig),(299,spec_l7PutIn.D.sig),(300,spec_l2New.D.sig),(301,spec_l7Turn.D.sig)],es:=[0],lv:=[(2,[0,1,2,9])],lx:=[(0,[0,2]),(1,[0,1,2,9])] }
noncomputable def sem (a:Arg):Option Out:=@lift Out fun k=>D.W k a
noncomputable def T0 (a1:Arg) (v402:L7Work×Int):St:={ n:=65,sl:=[(0,.box tL7Work (ownMd tL7Work) [] v402.1),(1,.val i64 a1.2.1),(2,.val (.slc u8) a1.2.2.1),(9,.val i64 v402.2)],vr:=[],lent:=[(0,0,false)] }
noncomputable def b0 (self:(L7Work×Int)->Option Out) (e0:L7Work->Option Out) (a1:Arg) (v402:L7Work×Int):Option Out:=bif decide (v402.2 < (v402.1.1.length:Int)) then (bif decide (v402.2=a1.2.1) then (self (v402.1,w64 (v402.2+(1:Int)))) else (spec_l7PutIn.sem (v402.1,v402.2,a1.2.2.1,())).bind fun r603=>bif r603.2.1 then (some (v402.2,r603.1,true,r603.2.2.1,())) else self (r603.2.2.1,w64 (v402.2+(1:Int)))) else e0 v402.1
noncomputable abbrev B0 (_:Nat):=b0
noncomputable def q0 (a1:Arg) (z604:L7Work):Option Out:=bif decide ((12:Int)<=(z604.1.length:Int)) then (some ((0:Int),(0:Int),false,z604,())) else (spec_l2New.sem ((0:UInt8),())).bind fun r605=>(spec_l2Put.sem (r605.1,a1.2.2.1,())).bind fun r606=>(spec_l7Turn.sem (z604,(z604.1.length:Int),r606.1,())).bind fun r607=>some (w64 ((r607.1.1.length:Int) - (1:Int)),r606.2.1,true,r607.1,())
noncomputable abbrev Q0 (_:Nat):=q0
noncomputable def s0 (k:Nat) (a1:Arg):(L7Work×Int)->Option Out:=fun v402=>D.L k [1,0,1,0,0] [0,1,2,9] [] (blockC 0 (seqC (D.N k [1,1]) D.K0)) (T0 a1 v402)
noncomputable def r0 (k:Nat) (a1:Arg):(L7Work×Int)->Option Out:=rawIter (fun w v=>B0 k w (Q0 k a1) a1 v) k
theorem s0_eq (k:Nat) (a1:Arg):s0 k a1=r0 k a1:=
 funext fun v402=>iter_raw _ _ _ (T0 a1) _ (fun rec v=>by kernel_rfl) k v402
noncomputable def p (l0:(L7Work×Int)->Option Out) (a1:Arg):Option Out:=l0 (a1.1,(0:Int))
theorem raw_eq (k:Nat) (a1:Arg):@Eq (Option Out) (D.W k a1) (p (r0 k a1) a1):=
 Eq.trans (b:=p (s0 k a1) a1) (by kernel_rfl) (by rw[s0_eq])
theorem ok:Ok prog 201 D.sig:=fd_ok func201 tlOk (by kernel_rfl) (fc spec_l2Put.ok (fc spec_l7PutIn.ok (fc spec_l2New.ok (fc spec_l7Turn.ok (fn_nil _)))))
end spec_l7Place
namespace spec_l7Done
abbrev Arg:Type:=L7Work×Unit
abbrev Out:Type:=EditsResult×Unit
abbrev ps:PQ:=[(.eat (ownMd tL7Work),tL7Work)]
noncomputable def D:FD:={ fn:=f203,tl:=TL0,ps:=ps,rs:=[(tEditsResult,(ownMd tEditsResult))],fz:=[(1,3,7),(1,7,7)],od:=[(1,[0,1,2,3,4,5,6,7,8,9])] }
noncomputable def sem (a:Arg):Option Out:=@lift Out fun k=>D.W k a
noncomputable def p (a1:Arg):Option Out:=some (((0:Int),a1.1.2.1,a1.1.1,()),())
theorem raw_eq (k:Nat) (a1:Arg):@Eq (Option Out) (D.W k a1) (p a1):=by kernel_rfl
theorem ok:Ok prog 203 D.sig:=fd_ok func203 tlOk (by kernel_rfl) (fn_nil _)
end spec_l7Done
namespace spec_l7Insert
abbrev Arg:Type:=(List (List UInt8))×Row×Unit
abbrev Out:Type:=EditsResult×Unit
abbrev ps:PQ:=[(.ro,(.slc (.slc u8))),(.ro,(.ptr tRow))]
noncomputable def D:FD:={ fn:=f96,tl:=TL0,ps:=ps,rs:=[(tEditsResult,(ownMd tEditsResult))],gl:=[(93,spec_l7Bad.D.sig),(200,spec_l7Start.D.sig),(201,spec_l7Place.D.sig),(202,spec_l1Cell.D.sig),(203,spec_l7Done.D.sig)] }
noncomputable def sem (a:Arg):Option Out:=@lift Out fun k=>D.W k a
noncomputable def p (a1:Arg):Option Out:=(spec_l7Start.sem (a1.1,())).bind fun r2=>(spec_l1Cell.sem ((0:Int),a1.2.1,())).bind fun r3=>(spec_l7Place.sem (r2.1,(-1:Int),r3.1,())).bind fun r4=>bif !r4.2.2.1 then ((spec_l7Bad.sem ((9:Int),())).bind fun r5=>some (r5.1,())) else (spec_l7Done.sem (r4.2.2.2.1,())).bind fun r6=>some (r6.1,())
theorem raw_eq (k:Nat) (a1:Arg):@Eq (Option Out) (D.W k a1) (p a1):=by kernel_rfl
theorem ok:Ok prog 96 D.sig:=fd_ok func96 tlOk (by kernel_rfl) (fc spec_l7Bad.ok (fc spec_l7Start.ok (fc spec_l7Place.ok (fc spec_l1Cell.ok (fc spec_l7Done.ok (fn_nil _))))))
end spec_l7Insert
namespace spec_l7Set
abbrev Arg:Type:=L7Work×Int×Int×(List UInt8)×Unit
abbrev Out:Type:=Bool×L7Work×Unit
abbrev ps:PQ:=[(.mutp (ownMd tL7Work),tL7Work),(.ro,i64),(.ro,i64),(.ro,(.slc u8))]
noncomputable def D:FD:={ fn:=f209,tl:=TL0,ps:=ps,rs:=[(.bool,(roMd .bool))],gl:=[(301,spec_l7Turn.D.sig),(306,spec_l2Set.D.sig),(307,spec_l2Compact.D.sig)],es:=[0] }
noncomputable def sem (a:Arg):Option Out:=@lift Out fun k=>D.W k a
noncomputable def p (a1:Arg):Option Out:=if 0<=a1.2.1/\a1.2.1 < (a1.1.1.length:Int) then ((a1.1.1[a1.2.1.toNat]?).bind fun x2=>(a1.1.1[a1.2.1.toNat]?).bind fun x3=>(spec_l2Set.sem (x3,a1.2.2.1,a1.2.2.2.1,())).bind fun r4=>bif decide (r4.2.1=(8:Int)) then (if 0<=a1.2.1/\a1.2.1 < (a1.1.1.length:Int) then ((a1.1.1[a1.2.1.toNat]?).bind fun x5=>(a1.1.1[a1.2.1.toNat]?).bind fun x6=>(spec_l2Compact.sem (x6,())).bind fun r7=>(spec_l7Turn.sem (a1.1,a1.2.1,r7.1,())).bind fun r8=>if 0<=a1.2.1/\a1.2.1 < (r8.1.1.length:Int) then ((r8.1.1[a1.2.1.toNat]?).bind fun x9=>(r8.1.1[a1.2.1.toNat]?).bind fun x10=>(spec_l2Set.sem (x10,a1.2.2.1,a1.2.2.2.1,())).bind fun r11=>bif !decide (r11.2.1=(0:Int)) then (some (false,r8.1,())) else (spec_l7Turn.sem (r8.1,a1.2.1,r11.1,())).bind fun r13=>some (true,r13.1,())) else none) else none) else bif !decide (r4.2.1=(0:Int)) then (some (false,a1.1,())) else (spec_l7Turn.sem (a1.1,a1.2.1,r4.1,())).bind fun r14=>some (true,r14.1,())) else none
theorem raw_eq (k:Nat) (a1:Arg):@Eq (Option Out) (D.W k a1) (p a1):=by kernel_rfl
theorem ok:Ok prog 209 D.sig:=fd_ok func209 tlOk (by kernel_rfl) (fc spec_l7Turn.ok (fc spec_l2Set.ok (fc spec_l2Compact.ok (fn_nil _))))
end spec_l7Set
namespace spec_l7Drop
abbrev Arg:Type:=L7Work×Int×Int×Unit
abbrev Out:Type:=L7Work×Unit
abbrev ps:PQ:=[(.mutp (ownMd tL7Work),tL7Work),(.ro,i64),(.ro,i64)]
noncomputable def D:FD:={ fn:=f305,tl:=TL0,ps:=ps,rs:=[],gl:=[(301,spec_l7Turn.D.sig),(368,spec_l2Drop.D.sig)],es:=[0] }
noncomputable def sem (a:Arg):Option Out:=@lift Out fun k=>D.W k a
noncomputable def p (a1:Arg):Option Out:=if 0<=a1.2.1/\a1.2.1 < (a1.1.1.length:Int) then ((a1.1.1[a1.2.1.toNat]?).bind fun x2=>(a1.1.1[a1.2.1.toNat]?).bind fun x3=>(spec_l2Drop.sem (x3,a1.2.2.1,())).bind fun r4=>(spec_l7Turn.sem (a1.1,a1.2.1,r4.1,())).bind fun r5=>some (r5.1,())) else none
theorem raw_eq (k:Nat) (a1:Arg):@Eq (Option Out) (D.W k a1) (p a1):=by kernel_rfl
theorem ok:Ok prog 305 D.sig:=fd_ok func305 tlOk (by kernel_rfl) (fc spec_l7Turn.ok (fc spec_l2Drop.ok (fn_nil _)))
end spec_l7Drop
namespace spec_l7Move
abbrev Arg:Type:=L7Work×L6Spot×Row×Unit
abbrev Out:Type:=Bool×L7Work×Unit
abbrev ps:PQ:=[(.mutp (ownMd tL7Work),tL7Work),(.ro,(.ptr tL6Spot)),(.ro,(.ptr tRow))]
noncomputable def D:FD:={ fn:=f208,tl:=TL0,ps:=ps,rs:=[(.bool,(roMd .bool))],gl:=[(201,spec_l7Place.D.sig),(202,spec_l1Cell.D.sig),(209,spec_l7Set.D.sig),(210,spec_l1Stub.D.sig),(305,spec_l7Drop.D.sig)],es:=[0],od:=[(9,[0,1,2,3,4,5,6,7,8,9,10,11,12])] }
noncomputable def sem (a:Arg):Option Out:=@lift Out fun k=>D.W k a
noncomputable def p (a1:Arg):Option Out:=(spec_l1Cell.sem ((2:Int),a1.2.2.1,())).bind fun r2=>(spec_l7Set.sem (a1.1,a1.2.1.2.2.1.2.2.1,a1.2.1.2.2.1.2.2.2.1,r2.1,())).bind fun r3=>bif r3.1 then (some (true,r3.2.1,())) else (spec_l7Place.sem (r3.2.1,a1.2.1.2.2.1.2.2.1,r2.1,())).bind fun r4=>bif !r4.2.2.1 then (some (false,r4.2.2.2.1,())) else (spec_l1Stub.sem (r4.1,r4.2.1,())).bind fun r5=>(spec_l7Set.sem (r4.2.2.2.1,a1.2.1.1,a1.2.1.2.1,r5.1,())).bind fun r6=>(spec_l7Drop.sem (r6.2.1,a1.2.1.2.2.1.2.2.1,a1.2.1.2.2.1.2.2.2.1,())).bind fun r7=>some (true,r7.1,())
theorem raw_eq (k:Nat) (a1:Arg):@Eq (Option Out) (D.W k a1) (p a1):=by kernel_rfl
theorem ok:Ok prog 208 D.sig:=fd_ok func208 tlOk (by kernel_rfl) (fc spec_l7Place.ok (fc spec_l1Cell.ok (fc spec_l7Set.ok (fc spec_l1Stub.ok (fc spec_l7Drop.ok (fn_nil _))))))
end spec_l7Move
namespace spec_l7Update
abbrev Arg:Type:=(List (List UInt8))×L6Spot×Row×Unit
abbrev Out:Type:=EditsResult×Unit
abbrev ps:PQ:=[(.ro,(.slc (.slc u8))),(.ro,(.ptr tL6Spot)),(.ro,(.ptr tRow))]
noncomputable def D:FD:={ fn:=f103,tl:=TL0,ps:=ps,rs:=[(tEditsResult,(ownMd tEditsResult))],gl:=[(93,spec_l7Bad.D.sig),(200,spec_l7Start.D.sig),(201,spec_l7Place.D.sig),(202,spec_l1Cell.D.sig),(203,spec_l7Done.D.sig),(208,spec_l7Move.D.sig),(209,spec_l7Set.D.sig),(210,spec_l1Stub.D.sig)],od:=[(2,[0,1,2,3,4,5,6,7,8]),(8,[0,1,2,3,4,5,6,7,8,9,10,11]),(10,[0,1,2,3,4,5,6,7,8,9,10,11,12,13,14]),(13,[0,1,2,3,4,5,6,7,8,9,10,11,12])] }
noncomputable def sem (a:Arg):Option Out:=@lift Out fun k=>D.W k a
noncomputable def p (a1:Arg):Option Out:=(spec_l7Start.sem (a1.1,())).bind fun r2=>bif (Ty.eq tRow a1.2.1.2.2.1.2.2.2.2.1 a1.2.2.1) then ((spec_l7Done.sem (r2.1,())).bind fun r3=>some (r3.1,())) else bif decide (a1.2.1.2.2.1.2.1=(1:Int)) then ((spec_l7Move.sem (r2.1,a1.2.1,a1.2.2.1,())).bind fun r4=>bif !r4.1 then ((spec_l7Bad.sem ((9:Int),())).bind fun r5=>some (r5.1,())) else (spec_l7Done.sem (r4.2.1,())).bind fun r6=>some (r6.1,())) else (spec_l1Cell.sem ((0:Int),a1.2.2.1,())).bind fun r7=>(spec_l7Set.sem (r2.1,a1.2.1.1,a1.2.1.2.1,r7.1,())).bind fun r8=>bif r8.1 then ((spec_l7Done.sem (r8.2.1,())).bind fun r9=>some (r9.1,())) else (spec_l1Cell.sem ((2:Int),a1.2.2.1,())).bind fun r10=>(spec_l7Place.sem (r8.2.1,a1.2.1.1,r10.1,())).bind fun r11=>bif !r11.2.2.1 then ((spec_l7Bad.sem ((9:Int),())).bind fun r12=>some (r12.1,())) else (spec_l1Stub.sem (r11.1,r11.2.1,())).bind fun r13=>(spec_l7Set.sem (r11.2.2.2.1,a1.2.1.1,a1.2.1.2.1,r13.1,())).bind fun r14=>(spec_l7Done.sem (r14.2.1,())).bind fun r15=>some (r15.1,())
theorem raw_eq (k:Nat) (a1:Arg):@Eq (Option Out) (D.W k a1) (p a1):=by kernel_rfl
theorem ok:Ok prog 103 D.sig:=fd_ok func103 tlOk (by kernel_rfl) (fc spec_l7Bad.ok (fc spec_l7Start.ok (fc spec_l7Place.ok (fc spec_l1Cell.ok (fc spec_l7Done.ok (fc spec_l7Move.ok (fc spec_l7Set.ok (fc spec_l1Stub.ok (fn_nil _)))))))))
end spec_l7Update
namespace spec_l7Delete
abbrev Arg:Type:=(List (List UInt8))×L6Spot×Unit
abbrev Out:Type:=EditsResult×Unit
abbrev ps:PQ:=[(.ro,(.slc (.slc u8))),(.ro,(.ptr tL6Spot))]
noncomputable def D:FD:={ fn:=f215,tl:=TL0,ps:=ps,rs:=[(tEditsResult,(ownMd tEditsResult))],gl:=[(200,spec_l7Start.D.sig),(203,spec_l7Done.D.sig),(305,spec_l7Drop.D.sig)],od:=[(2,[0,1,2,3,4,5,6,7,8,9]),(4,[0,1,2,3,4,5,6,7,8,9,10,11])] }
noncomputable def sem (a:Arg):Option Out:=@lift Out fun k=>D.W k a
noncomputable def p (a1:Arg):Option Out:=(spec_l7Start.sem (a1.1,())).bind fun r2=>(spec_l7Drop.sem (r2.1,a1.2.1.1,a1.2.1.2.1,())).bind fun r3=>bif decide (a1.2.1.2.2.1.2.1=(1:Int)) then ((spec_l7Drop.sem (r3.1,a1.2.1.2.2.1.2.2.1,a1.2.1.2.2.1.2.2.2.1,())).bind fun r4=>(spec_l7Done.sem (r4.1,())).bind fun r6=>some (r6.1,())) else (spec_l7Done.sem (r3.1,())).bind fun r7=>some (r7.1,())
theorem raw_eq (k:Nat) (a1:Arg):@Eq (Option Out) (D.W k a1) (p a1):=by kernel_rfl
theorem ok:Ok prog 215 D.sig:=fd_ok func215 tlOk (by kernel_rfl) (fc spec_l7Start.ok (fc spec_l7Done.ok (fc spec_l7Drop.ok (fn_nil _))))
end spec_l7Delete
namespace spec_l7Pages
abbrev Arg:Type:=L1Src×Unit
abbrev Out:Type:=(List (List UInt8))×L1Src×Unit
abbrev ps:PQ:=[(.mutp (roMd tL1Src),tL1Src)]
noncomputable def D:FD:={ fn:=f185,tl:=TL0,ps:=ps,rs:=[((.slc (.slc u8)),(ownMd (.slc (.slc u8))))],gl:=[(95,spec_l6Find.D.sig),(96,spec_l7Insert.D.sig),(99,spec_l1Chance.D.sig),(101,spec_l1Next.D.sig),(103,spec_l7Update.D.sig),(186,spec_l1Draw.D.sig),(215,spec_l7Delete.D.sig)],es:=[0],lv:=[(3,[0,3,4])],lx:=[(0,[0,3])] }
noncomputable def sem (a:Arg):Option Out:=@lift Out fun k=>D.W k a
noncomputable def T0 (a1:Arg) (v403:L1Src×(List (List UInt8))×Int):St:={ n:=46,sl:=[(0,.box tL1Src (roMd tL1Src) [] v403.1),(3,.own (.slc (.slc u8)) (ownMd (.slc (.slc u8))) [] v403.2.1),(4,.val i64 v403.2.2)],vr:=[],lent:=[(0,0,false)] }
noncomputable def b0 (self:(L1Src×(List (List UInt8))×Int)->Option Out) (e0:(L1Src×(List (List UInt8)))->Option Out) (a1:Arg) (v403:L1Src×(List (List UInt8))×Int):Option Out:=bif decide ((0:Int) < v403.2.2) then ((spec_l1Draw.sem (v403.1,())).bind fun r604=>(spec_l6Find.sem (v403.2.1,r604.1.1,r604.1.2.1,())).bind fun r605=>bif !r605.2.1 then ((spec_l7Insert.sem (v403.2.1,r604.1,())).bind fun r606=>bif decide (r606.1.1=(0:Int)) then (self (r604.2.1,r606.1.2.2.1,w64 (v403.2.2 - (1:Int)))) else self (r604.2.1,v403.2.1,w64 (v403.2.2 - (1:Int)))) else (spec_l1Chance.sem (r604.2.1,(4:Int),())).bind fun r607=>bif r607.1 then ((spec_l7Delete.sem (v403.2.1,r605.1,())).bind fun r608=>bif decide (r608.1.1=(0:Int)) then (self (r607.2.1,r608.1.2.2.1,w64 (v403.2.2 - (1:Int)))) else self (r607.2.1,v403.2.1,w64 (v403.2.2 - (1:Int)))) else (spec_l7Update.sem (v403.2.1,r605.1,r604.1,())).bind fun r609=>bif decide (r609.1.1=(0:Int)) then (self (r607.2.1,r609.1.2.2.1,w64 (v403.2.2 - (1:Int)))) else self (r607.2.1,v403.2.1,w64 (v403.2.2 - (1:Int)))) else e0 (v403.1,v403.2.1)
noncomputable abbrev B0 (_:Nat):=b0
noncomputable def q0 (a1:Arg) (z610:(L1Src×(List (List UInt8)))):Option Out:=some (z610.2,z610.1,())
noncomputable abbrev Q0 (_:Nat):=q0
noncomputable def s0 (k:Nat) (a1:Arg):(L1Src×(List (List UInt8))×Int)->Option Out:=fun v403=>D.L k [1,1,0,1,0,0] [0,3,4] [] (blockC 0 (seqC (D.N k [1,1,1]) D.K0)) (T0 a1 v403)
noncomputable def r0 (k:Nat) (a1:Arg):(L1Src×(List (List UInt8))×Int)->Option Out:=rawIter (fun w v=>B0 k w (Q0 k a1) a1 v) k
theorem s0_eq (k:Nat) (a1:Arg):s0 k a1=r0 k a1:=
 funext fun v403=>iter_raw _ _ _ (T0 a1) _ (fun rec v=>by kernel_rfl) k v403
noncomputable def p (l0:(L1Src×(List (List UInt8))×Int)->Option Out) (a1:Arg):Option Out:=(spec_l1Next.sem (a1.1,(16:Int),())).bind fun r2=>l0 (r2.2.1,([]:List (List UInt8)),r2.1)
theorem raw_eq (k:Nat) (a1:Arg):@Eq (Option Out) (D.W k a1) (p (r0 k a1) a1):=
 Eq.trans (b:=p (s0 k a1) a1) (by kernel_rfl) (by rw[s0_eq])
theorem ok:Ok prog 185 D.sig:=fd_ok func185 tlOk (by kernel_rfl) (fc spec_l6Find.ok (fc spec_l7Insert.ok (fc spec_l1Chance.ok (fc spec_l1Next.ok (fc spec_l7Update.ok (fc spec_l1Draw.ok (fc spec_l7Delete.ok (fn_nil _))))))))
end spec_l7Pages
namespace spec_l7Bent
abbrev Arg:Type:=L1Src×Unit
abbrev Out:Type:=(List (List UInt8))×L1Src×Unit
abbrev ps:PQ:=[(.mutp (roMd tL1Src),tL1Src)]
noncomputable def D:FD:={ fn:=f84,tl:=TL0,ps:=ps,rs:=[((.slc (.slc u8)),(.slc true (roMd (.slc u8))))],gl:=[(99,spec_l1Chance.D.sig),(184,spec_l6Bent.D.sig),(185,spec_l7Pages.D.sig)],es:=[0] }
noncomputable def sem (a:Arg):Option Out:=@lift Out fun k=>D.W k a
noncomputable def p (a1:Arg):Option Out:=(spec_l1Chance.sem (a1.1,(6:Int),())).bind fun r2=>bif r2.1 then ((spec_l6Bent.sem (r2.2.1,())).bind fun r3=>some (r3.1,r3.2.1,())) else (spec_l7Pages.sem (r2.2.1,())).bind fun r4=>some (r4.1,r4.2.1,())
theorem raw_eq (k:Nat) (a1:Arg):@Eq (Option Out) (D.W k a1) (p a1):=by kernel_rfl
theorem ok:Ok prog 84 D.sig:=fd_ok func84 tlOk (by kernel_rfl) (fc spec_l1Chance.ok (fc spec_l6Bent.ok (fc spec_l7Pages.ok (fn_nil _))))
end spec_l7Bent
namespace spec_l1Bent
abbrev Arg:Type:=L1Src×Unit
abbrev Out:Type:=Row×L1Src×Unit
abbrev ps:PQ:=[(.mutp (roMd tL1Src),tL1Src)]
noncomputable def D:FD:={ fn:=f85,tl:=TL0,ps:=ps,rs:=[(tRow,(roMd tRow))],gl:=[(101,spec_l1Next.D.sig),(117,spec_l1Pick.D.sig),(186,spec_l1Draw.D.sig)],es:=[0] }
noncomputable def sem (a:Arg):Option Out:=@lift Out fun k=>D.W k a
noncomputable def p (a1:Arg):Option Out:=(spec_l1Draw.sem (a1.1,())).bind fun r2=>(spec_l1Next.sem (r2.2.1,(12:Int),())).bind fun r3=>bif decide (r3.1=(0:Int)) then ((spec_l1Pick.sem (r3.2.1,[(-1:Int),(3:Int),(4:Int)],())).bind fun r4=>some ((r4.1,r2.1.2),r4.2.1,())) else bif decide (r3.1=(1:Int)) then ((spec_l1Pick.sem (r3.2.1,[(0:Int),(99:Int),(100:Int)],())).bind fun r5=>some ((r2.1.1,r5.1,r2.1.2.2),r5.2.1,())) else bif decide (r3.1=(2:Int)) then ((spec_l1Pick.sem (r3.2.1,[(-1:Int),(1000:Int)],())).bind fun r6=>some ((r2.1.1,r2.1.2.1,r6.1,r2.1.2.2.2),r6.2.1,())) else bif decide (r3.1=(3:Int)) then ((spec_l1Next.sem (r3.2.1,(3:Int),())).bind fun r7=>if 0<=r7.1/\r7.1 < ([([65]:List UInt8),([97,98,99,100,101,102,103,104,105]:List UInt8),([97,32,98]:List UInt8)].length:Int) then (([([65]:List UInt8),([97,98,99,100,101,102,103,104,105]:List UInt8),([97,32,98]:List UInt8)][r7.1.toNat]?).bind fun x8=>some ((r2.1.1,r2.1.2.1,r2.1.2.2.1,x8,r2.1.2.2.2.2),r7.2.1,())) else none) else some (r2.1,r3.2.1,())
theorem raw_eq (k:Nat) (a1:Arg):@Eq (Option Out) (D.W k a1) (p a1):=by kernel_rfl
theorem ok:Ok prog 85 D.sig:=fd_ok func85 tlOk (by kernel_rfl) (fc spec_l1Next.ok (fc spec_l1Pick.ok (fc spec_l1Draw.ok (fn_nil _))))
end spec_l1Bent
namespace spec_DrawInsertEdits
abbrev Arg:Type:=(List UInt8)×Unit
abbrev Out:Type:=(List (List UInt8))×Row×Unit
abbrev ps:PQ:=[(.ro,(.slc u8))]
noncomputable def D:FD:={ fn:=f14,tl:=TL0,ps:=ps,rs:=[((.slc (.slc u8)),(.slc true (roMd (.slc u8)))),(tRow,(roMd tRow))],gl:=[(83,spec_l1Source.D.sig),(84,spec_l7Bent.D.sig),(85,spec_l1Bent.D.sig)] }
noncomputable def sem (a:Arg):Option Out:=@lift Out fun k=>D.W k a
noncomputable def p (a1:Arg):Option Out:=(spec_l1Source.sem (a1.1,())).bind fun r2=>(spec_l7Bent.sem (r2.1,())).bind fun r3=>(spec_l1Bent.sem (r3.2.1,())).bind fun r4=>some (r3.1,r4.1,())
theorem raw_eq (k:Nat) (a1:Arg):@Eq (Option Out) (D.W k a1) (p a1):=by kernel_rfl
theorem ok:Ok prog 14 D.sig:=fd_ok func14 tlOk (by kernel_rfl) (fc spec_l1Source.ok (fc spec_l7Bent.ok (fc spec_l1Bent.ok (fn_nil _))))
end spec_DrawInsertEdits
namespace impl_slots
abbrev Arg:Type:=(List UInt8)×Unit
abbrev Out:Type:=Int×Unit
abbrev ps:PQ:=[(.ro,(.slc u8))]
noncomputable def D:FD:={ fn:=f188,tl:=TL0,ps:=ps,rs:=[(i64,(roMd i64))] }
noncomputable def sem (a:Arg):Option Out:=@lift Out fun k=>D.W k a
noncomputable def p (a1:Arg):Option Out:=(a1.1[0]?).bind fun x2=>some (w64 (x2.toNat:Int),())
theorem raw_eq (k:Nat) (a1:Arg):@Eq (Option Out) (D.W k a1) (p a1):=by kernel_rfl
theorem ok:Ok prog 188 D.sig:=fd_ok func188 tlOk (by kernel_rfl) (fn_nil _)
end impl_slots
namespace impl_spot
abbrev Arg:Type:=(List UInt8)×Int×Unit
abbrev Out:Type:=Int×Int×Unit
abbrev ps:PQ:=[(.ro,(.slc u8)),(.ro,i64)]
noncomputable def D:FD:={ fn:=f286,tl:=TL0,ps:=ps,rs:=[(i64,(roMd i64)),(i64,(roMd i64))],od:=[(1,[0,1,2,3,4,5,6,7,8,9,10,11,12,13,14,15])] }
noncomputable def sem (a:Arg):Option Out:=@lift Out fun k=>D.W k a
noncomputable def p (a1:Arg):Option Out:=if 0<=w64 ((2:Int)+(w64 ((2:Int)*a1.2.1))) then ((a1.1[(w64 ((2:Int)+(w64 ((2:Int)*a1.2.1)))).toNat]?).bind fun x2=>if 0<=w64 ((3:Int)+(w64 ((2:Int)*a1.2.1))) then ((a1.1[(w64 ((3:Int)+(w64 ((2:Int)*a1.2.1)))).toNat]?).bind fun x3=>some (w64 (x2.toNat:Int),w64 (x3.toNat:Int),())) else none) else none
theorem raw_eq (k:Nat) (a1:Arg):@Eq (Option Out) (D.W k a1) (p a1):=by kernel_rfl
theorem ok:Ok prog 286 D.sig:=fd_ok func286 tlOk (by kernel_rfl) (fn_nil _)
end impl_spot
namespace impl_PageFault
abbrev Arg:Type:=(List UInt8)×Unit
abbrev Out:Type:=Int×Unit
abbrev ps:PQ:=[(.ro,(.slc u8))]
noncomputable def D:FD:={ fn:=f187,tl:=TL0,ps:=ps,rs:=[(i64,(roMd i64))],gl:=[(188,impl_slots.D.sig),(286,impl_spot.D.sig)],lv:=[(7,[0,3,4,35,36]),(15,[0,3,8,66,67]),(19,[0,3,8,10,11,12,66,67])],lx:=[(0,[0,3]),(2,[0,3]),(4,[0,3,8,66,67])],od:=[(3,[0,2,3,4,5,1,6,7])] }
noncomputable def sem (a:Arg):Option Out:=@lift Out fun k=>D.W k a
noncomputable def T0 (a1:Arg) (c405:Int) (c406:Int) (v404:Int):St:={ n:=101,sl:=[(0,.val (.slc u8) a1.1),(3,.val i64 c405),(4,.val i64 c406),(35,.val i64 c405),(36,.val i64 v404)],vr:=[],lent:=[] }
noncomputable def S0 (rec:RT Out) (a1:Arg) (c405:Int) (c406:Int):(Int)->Option Out:=fun v404=>rec (T0 a1 c405 c406 v404)
noncomputable def X0_0 (K:KT Out) (a1:Arg) (c405:Int) (c406:Int):(Unit)->Option Out:=fun z=>K (.exit 0) ({ n:=101,sl:=[(0,.val (.slc u8) a1.1),(3,.val i64 c405)],vr:=[],lent:=[] })
noncomputable def b0 (self:Int->Option Out) (e0:(Unit)->Option Out) (a1:Arg) (c405:Int) (c406:Int) (v404:Int):Option Out:=bif decide (v404 < c405) then ((impl_spot.sem (a1.1,v404,())).bind fun r607=>bif !((decide (r607.1=(0:Int))) == (decide (r607.2.1=(0:Int)))) then (some ((3:Int),())) else bif !decide (r607.1=(0:Int)) then (bif decide (r607.1 < c406) then (some ((3:Int),())) else bif decide ((64:Int) < w64 (r607.1+r607.2.1)) then (some ((3:Int),())) else self (w64 (v404+(1:Int)))) else bif decide ((64:Int) < w64 (r607.1+r607.2.1)) then (some ((3:Int),())) else self (w64 (v404+(1:Int)))) else e0 ()
noncomputable abbrev B0 (_:Nat):=b0
theorem B0_eq (k:Nat) (rec:RT Out) (K:KT Out) (a1:Arg) (c405:Int) (c406:Int) (v404:Int):D.N k [1,1,1,1,0,1,0,0] (T0 a1 c405 c406 v404) (loopC rec (keepF [0,3,4,35,36] []) K)=b0 (S0 rec a1 c405 c406) (X0_0 K a1 c405 c406) a1 c405 c406 v404:=by kernel_rfl
noncomputable def T1 (a1:Arg) (v1009:(List UInt8)×Int×(List Bool)×Int×Int):St:={ n:=101,sl:=[(0,.val (.slc u8) v1009.1),(3,.val i64 v1009.2.1),(8,.box (.arr 64 .bool) (roMd (.arr 64 .bool)) [] v1009.2.2.1),(66,.val i64 v1009.2.2.2.1),(67,.val i64 v1009.2.2.2.2)],vr:=[],lent:=[] }
noncomputable def S1 (rec:RT Out) (a1:Arg):((List UInt8)×Int×(List Bool)×Int×Int)->Option Out:=fun v1009=>rec (T1 a1 v1009)
noncomputable def X1_2 (K:KT Out) (a1:Arg):((List UInt8)×Int)->Option Out:=fun z=>K (.exit 2) ({ n:=101,sl:=[(0,.val (.slc u8) z.1),(3,.val i64 z.2)],vr:=[],lent:=[] })
noncomputable def T2 (a1:Arg) (c1612:List UInt8) (c1613:Int) (c1614:Int) (c1615:Int) (c1616:Int) (c1617:Int) (v1611:(List Bool)×Int):St:={ n:=101,sl:=[(0,.val (.slc u8) c1612),(3,.val i64 c1613),(8,.box (.arr 64 .bool) (roMd (.arr 64 .bool)) [] v1611.1),(10,.val i64 c1614),(11,.val i64 c1615),(12,.val i64 v1611.2),(66,.val i64 c1616),(67,.val i64 c1617)],vr:=[],lent:=[] }
noncomputable def b2 (self:((List Bool)×Int)->Option Out) (e4:(List Bool)->Option Out) (a1:Arg) (c1612:List UInt8) (c1613:Int) (c1614:Int) (c1615:Int) (c1616:Int) (c1617:Int) (v1611:(List Bool)×Int):Option Out:=bif decide (v1611.2 < w64 (c1614+c1615)) then (if 0<=v1611.2/\v1611.2 < (v1611.1.length:Int) then ((v1611.1[v1611.2.toNat]?).bind fun x1818=>bif x1818 then (some ((8:Int),())) else if 0<=v1611.2/\v1611.2 < (v1611.1.length:Int) then ((v1611.1[v1611.2.toNat]?).bind fun x1819=>self (v1611.1.set v1611.2.toNat true,w64 (v1611.2+(1:Int)))) else none) else none) else e4 v1611.1
noncomputable abbrev B2 (_:Nat):=b2
noncomputable def q1 (self:((List UInt8)×Int×(List Bool)×Int×Int)->Option Out) (e2:((List UInt8)×Int)->Option Out) (a1:Arg) (c1612:List UInt8) (c1613:Int) (c1614:Int) (c1615:Int) (c1616:Int) (c1617:Int) (z1820:(List Bool)):Option Out:=self (c1612,c1613,z1820,c1616,w64 (c1617+(1:Int)))
noncomputable abbrev Q1 (_:Nat):=q1
noncomputable def s2 (k:Nat) (rec:RT Out) (K:KT Out) (a1:Arg):(List UInt8)->Int->Int->Int->Int->Int->((List Bool)×Int)->Option Out:=fun c1612 c1613 c1614 c1615 c1616 c1617=>fun v1611=>D.L k [1,1,1,1,1,1,0,1,0,0,1,1,0,0,1,1,1,0,0] [0,3,8,10,11,12,66,67] [] (blockC 4 (blockC 3 (seqC (D.N k [1,1,1,1,1,1,0,1,0,0,1,1,1]) (loopC rec (keepF [0,3,8,66,67] []) K)))) (T2 a1 c1612 c1613 c1614 c1615 c1616 c1617 v1611)
noncomputable def r2 (k:Nat) (self:((List UInt8)×Int×(List Bool)×Int×Int)->Option Out) (e2:((List UInt8)×Int)->Option Out) (a1:Arg):(List UInt8)->Int->Int->Int->Int->Int->((List Bool)×Int)->Option Out:=fun c1612 c1613 c1614 c1615 c1616 c1617=>rawIter (fun w v=>B2 k w (Q1 k self e2 a1 c1612 c1613 c1614 c1615 c1616 c1617) a1 c1612 c1613 c1614 c1615 c1616 c1617 v) k
theorem s2_eq (k:Nat) (rec:RT Out) (K:KT Out) (a1:Arg):s2 k rec K a1=r2 k (S1 rec a1) (X1_2 K a1) a1:=
 funext fun c1612=>funext fun c1613=>funext fun c1614=>funext fun c1615=>funext fun c1616=>funext fun c1617=>funext fun v1611=>iter_raw _ _ _ (T2 a1 c1612 c1613 c1614 c1615 c1616 c1617) _ (fun rec v=>by kernel_rfl) k v1611
noncomputable def b1 (self:((List UInt8)×Int×(List Bool)×Int×Int)->Option Out) (e2:((List UInt8)×Int)->Option Out) (l2:(List UInt8)->Int->Int->Int->Int->Int->((List Bool)×Int)->Option Out) (a1:Arg) (v1009:(List UInt8)×Int×(List Bool)×Int×Int):Option Out:=bif decide (v1009.2.2.2.2 < v1009.2.2.2.1) then ((impl_spot.sem (v1009.1,v1009.2.2.2.2,())).bind fun r1210=>l2 v1009.1 v1009.2.1 r1210.1 r1210.2.1 v1009.2.2.2.1 v1009.2.2.2.2 (v1009.2.2.1,r1210.1)) else e2 (v1009.1,v1009.2.1)
noncomputable def B1 (k:Nat) (self:((List UInt8)×Int×(List Bool)×Int×Int)->Option Out) (e2:((List UInt8)×Int)->Option Out) (a1:Arg) (v1009:(List UInt8)×Int×(List Bool)×Int×Int):Option Out:=b1 self e2 (r2 k self e2 a1) a1 v1009
theorem B1_eq (k:Nat) (rec:RT Out) (K:KT Out) (a1:Arg) (v1009:(List UInt8)×Int×(List Bool)×Int×Int):D.N k [1,1,1,1,1,1,0,1,0,0] (T1 a1 v1009) (loopC rec (keepF [0,3,8,66,67] []) K)=B1 k (S1 rec a1) (X1_2 K a1) a1 v1009:=
 Eq.trans (b:=b1 (S1 rec a1) (X1_2 K a1) (s2 k rec K a1) a1 v1009) (by kernel_rfl) (by rw[s2_eq];rfl)
noncomputable def q2 (a1:Arg) (z1821:((List UInt8)×Int)):Option Out:=bif decide ((0:Int) < z1821.2) then (if 0<=w64 ((w64 ((2:Int)*z1821.2))+(1:Int)) then ((z1821.1[(w64 ((w64 ((2:Int)*z1821.2))+(1:Int))).toNat]?).bind fun x1822=>bif decide ((x1822.toNat:Int)=(0:Int)) then (some ((8:Int),())) else some ((0:Int),())) else none) else some ((0:Int),())
noncomputable abbrev Q2 (_:Nat):=q2
theorem Q2_eq (k:Nat) (a1:Arg) (z1821:((List UInt8)×Int)):X1_2 (blockC 2 (seqC (D.N k [1,1,1,1,1,1,1]) D.K0)) a1 z1821=q2 a1 z1821:=by kernel_rfl
noncomputable def s1 (k:Nat) (a1:Arg) (c405:Int) (c406:Int):((List UInt8)×Int×(List Bool)×Int×Int)->Option Out:=fun v1009=>D.L k [1,1,1,1,1,1,0,1,0,0] [0,3,8,66,67] [] (blockC 2 (seqC (D.N k [1,1,1,1,1,1,1]) D.K0)) (T1 a1 v1009)
noncomputable def r1 (k:Nat) (a1:Arg) (c405:Int) (c406:Int):((List UInt8)×Int×(List Bool)×Int×Int)->Option Out:=rawIter (fun w v=>B1 k w (Q2 k a1) a1 v) k
theorem s1_eq (k:Nat) (a1:Arg) (c405:Int) (c406:Int):s1 k a1 c405 c406=r1 k a1 c405 c406:=by
 funext v1009;
 have h2:X1_2 (blockC 2 (seqC (D.N k [1,1,1,1,1,1,1]) D.K0)) a1=Q2 k a1:=funext fun z=>Q2_eq k a1 z
 refine (iter_raw _ _ _ (T1 a1) (fun self v=>B1 k self (X1_2 (blockC 2 (seqC (D.N k [1,1,1,1,1,1,1]) D.K0)) a1) a1 v) (fun rec v=>B1_eq k rec (blockC 2 (seqC (D.N k [1,1,1,1,1,1,1]) D.K0)) a1 v) k v1009).trans ?_
 rw[h2]
 rfl
noncomputable def q0 (l1:((List UInt8)×Int×(List Bool)×Int×Int)->Option Out) (a1:Arg) (c405:Int) (c406:Int) (z608:(Unit)):Option Out:=l1 (a1.1,c405,List.replicate 64 false,c405,(0:Int))
noncomputable def Q0 (k:Nat) (a1:Arg) (c405:Int) (c406:Int) (z608:(Unit)):Option Out:=q0 (r1 k a1 c405 c406) a1 c405 c406 z608
theorem Q0_eq (k:Nat) (a1:Arg) (c405:Int) (c406:Int) (z608:(Unit)):X0_0 (blockC 0 (seqC (D.N k [1,1,1,1,1]) D.K0)) a1 c405 c406 z608=Q0 k a1 c405 c406 z608:=
 Eq.trans (b:=q0 (s1 k a1 c405 c406) a1 c405 c406 z608) (by kernel_rfl) (by rw[s1_eq];rfl)
noncomputable def s0 (k:Nat) (a1:Arg):Int->Int->(Int)->Option Out:=fun c405 c406=>fun v404=>D.L k [1,1,1,1,0,1,0,0] [0,3,4,35,36] [] (blockC 0 (seqC (D.N k [1,1,1,1,1]) D.K0)) (T0 a1 c405 c406 v404)
noncomputable def r0 (k:Nat) (a1:Arg):Int->Int->(Int)->Option Out:=fun c405 c406=>rawIter (fun w v=>B0 k w (Q0 k a1 c405 c406) a1 c405 c406 v) k
theorem s0_eq (k:Nat) (a1:Arg):s0 k a1=r0 k a1:=by
 funext c405;funext c406;funext v404;
 have h0:X0_0 (blockC 0 (seqC (D.N k [1,1,1,1,1]) D.K0)) a1 c405 c406=Q0 k a1 c405 c406:=funext fun z=>Q0_eq k a1 c405 c406 z
 refine (iter_raw _ _ _ (T0 a1 c405 c406) (fun self v=>B0 k self (X0_0 (blockC 0 (seqC (D.N k [1,1,1,1,1]) D.K0)) a1 c405 c406) a1 c405 c406 v) (fun rec v=>B0_eq k rec (blockC 0 (seqC (D.N k [1,1,1,1,1]) D.K0)) a1 c405 c406 v) k v404).trans ?_
 rw[h0]
 rfl
noncomputable def p (l0:Int->Int->(Int)->Option Out) (a1:Arg):Option Out:=bif !decide ((a1.1.length:Int)=(64:Int)) then (some ((1:Int),())) else (a1.1[1]?).bind fun x2=>(impl_slots.sem (a1.1,())).bind fun r3=>bif decide ((16:Int) < r3.1) then (some ((3:Int),())) else bif decide (w64 (x2.toNat:Int) < w64 ((2:Int)+(w64 ((2:Int)*r3.1)))) then (some ((3:Int),())) else bif decide ((64:Int) < w64 (x2.toNat:Int)) then (some ((3:Int),())) else l0 r3.1 (w64 (x2.toNat:Int)) (0:Int)
theorem raw_eq (k:Nat) (a1:Arg):@Eq (Option Out) (D.W k a1) (p (r0 k a1) a1):=
 Eq.trans (b:=p (s0 k a1) a1) (by kernel_rfl) (by rw[s0_eq])
theorem ok:Ok prog 187 D.sig:=fd_ok func187 tlOk (by kernel_rfl) (fc impl_slots.ok (fc impl_spot.ok (fn_nil _)))
end impl_PageFault
namespace impl_hasSlot
abbrev Arg:Type:=(List UInt8)×Int×Unit
abbrev Out:Type:=Bool×Unit
abbrev ps:PQ:=[(.ro,(.slc u8)),(.ro,i64)]
noncomputable def D:FD:={ fn:=f189,tl:=TL0,ps:=ps,rs:=[(.bool,(roMd .bool))],gl:=[(188,impl_slots.D.sig)] }
noncomputable def sem (a:Arg):Option Out:=@lift Out fun k=>D.W k a
noncomputable def p (a1:Arg):Option Out:=bif decide ((0:Int)<=a1.2.1) then ((impl_slots.sem (a1.1,())).bind fun r2=>bif decide (a1.2.1 < r2.1) then (if 0<=w64 ((3:Int)+(w64 ((2:Int)*a1.2.1))) then ((a1.1[(w64 ((3:Int)+(w64 ((2:Int)*a1.2.1)))).toNat]?).bind fun x3=>some (!decide ((x3.toNat:Int)=(0:Int)),())) else none) else some (false,())) else some (false,())
theorem raw_eq (k:Nat) (a1:Arg):@Eq (Option Out) (D.W k a1) (p a1):=by kernel_rfl
theorem ok:Ok prog 189 D.sig:=fd_ok func189 tlOk (by kernel_rfl) (fc impl_slots.ok (fn_nil _))
end impl_hasSlot
namespace impl_in
abbrev Arg:Type:=Int×Int×Int×Unit
abbrev Out:Type:=Bool×Unit
abbrev ps:PQ:=[(.ro,i64),(.ro,i64),(.ro,i64)]
noncomputable def D:FD:={ fn:=f119,tl:=TL0,ps:=ps,rs:=[(.bool,(roMd .bool))] }
noncomputable def sem (a:Arg):Option Out:=@lift Out fun k=>D.W k a
noncomputable def p (a1:Arg):Option Out:=bif decide (a1.2.1<=a1.1) then (some (decide (a1.1<=a1.2.2.1),())) else some (false,())
theorem raw_eq (k:Nat) (a1:Arg):@Eq (Option Out) (D.W k a1) (p a1):=by kernel_rfl
theorem ok:Ok prog 119 D.sig:=fd_ok func119 tlOk (by kernel_rfl) (fn_nil _)
end impl_in
namespace impl_RowFault
abbrev Arg:Type:=Row×Unit
abbrev Out:Type:=Int×Unit
abbrev ps:PQ:=[(.ro,tRow)]
noncomputable def D:FD:={ fn:=f87,tl:=TL0,ps:=ps,rs:=[(i64,(roMd i64))],gl:=[(119,impl_in.D.sig)],lv:=[(6,[1,26,27])],lx:=[(0,[])] }
noncomputable def sem (a:Arg):Option Out:=@lift Out fun k=>D.W k a
noncomputable def T0 (a1:Arg) (v405:Int):St:={ n:=43,sl:=[(1,.box tRow (roMd tRow) [] a1.1),(26,.val i64 (a1.1.2.2.2.1.length:Int)),(27,.val i64 v405)],vr:=[],lent:=[] }
noncomputable def b0 (self:Int->Option Out) (e0:(Unit)->Option Out) (a1:Arg) (v405:Int):Option Out:=bif decide (v405 < (a1.1.2.2.2.1.length:Int)) then (if 0<=v405 then ((a1.1.2.2.2.1[v405.toNat]?).bind fun x606=>bif decide ((x606.toNat:Int) < (97:Int)) then (some ((5:Int),())) else if 0<=v405 then ((a1.1.2.2.2.1[v405.toNat]?).bind fun x607=>bif decide ((122:Int) < (x607.toNat:Int)) then (some ((5:Int),())) else self (w64 (v405+(1:Int)))) else none) else none) else e0 ()
noncomputable abbrev B0 (_:Nat):=b0
noncomputable def q0 (a1:Arg) (z608:(Unit)):Option Out:=some ((0:Int),())
noncomputable abbrev Q0 (_:Nat):=q0
noncomputable def s0 (k:Nat) (a1:Arg):(Int)->Option Out:=fun v405=>D.L k [1,1,1,0,1,0,0] [1,26,27] [] (blockC 0 (seqC (D.N k [1,1,1,1]) D.K0)) (T0 a1 v405)
noncomputable def r0 (k:Nat) (a1:Arg):(Int)->Option Out:=rawIter (fun w v=>B0 k w (Q0 k a1) a1 v) k
theorem s0_eq (k:Nat) (a1:Arg):s0 k a1=r0 k a1:=
 funext fun v405=>iter_raw _ _ _ (T0 a1) _ (fun rec v=>by kernel_rfl) k v405
noncomputable def p (l0:(Int)->Option Out) (a1:Arg):Option Out:=(impl_in.sem (a1.1.1,(0:Int),(3:Int),())).bind fun r2=>bif !r2.1 then (some ((3:Int),())) else (impl_in.sem (a1.1.2.1,(1:Int),(99:Int),())).bind fun r3=>bif !r3.1 then (some ((3:Int),())) else (impl_in.sem (a1.1.2.2.1,(0:Int),(999:Int),())).bind fun r4=>bif !r4.1 then (some ((3:Int),())) else bif decide ((8:Int) < (a1.1.2.2.2.1.length:Int)) then (some ((5:Int),())) else l0 (0:Int)
theorem raw_eq (k:Nat) (a1:Arg):@Eq (Option Out) (D.W k a1) (p (r0 k a1) a1):=
 Eq.trans (b:=p (s0 k a1) a1) (by kernel_rfl) (by rw[s0_eq])
theorem ok:Ok prog 87 D.sig:=fd_ok func87 tlOk (by kernel_rfl) (fc impl_in.ok (fn_nil _))
end impl_RowFault
namespace impl_UnpackCell
abbrev Arg:Type:=(List UInt8)×Unit
abbrev Out:Type:=CellResult×Unit
abbrev ps:PQ:=[(.ro,(.slc u8))]
noncomputable def D:FD:={ fn:=f190,tl:=TL0,ps:=ps,rs:=[(tCellResult,(roMd tCellResult))],gl:=[(87,impl_RowFault.D.sig)],od:=[(2,[0,1,2,3,4,5,6,7,8,9]),(5,[0,1,2,3,4,5,6,7,8,9,10,11,12,13,14,15,16,17,18,19,20,21,22,23]),(8,[0,1,2,3,4,5,6])] }
noncomputable def sem (a:Arg):Option Out:=@lift Out fun k=>D.W k a
noncomputable def p (a1:Arg):Option Out:=let j25:Option Out:=let j37:Option Out:=(a1.1[1]?).bind fun x38=>(a1.1[2]?).bind fun x39=>(a1.1[3]?).bind fun x40=>(a1.1[4]?).bind fun x41=>if 0<=(6:Int)/\(6:Int)<=(a1.1.length:Int) then (let y42:=w64 ((BitVec.ofInt 64 (w64 ((w64 (x40.toNat:Int))*2 ^ 8)) ||| BitVec.ofInt 64 (w64 (x41.toNat:Int))).toNat:Int);(impl_RowFault.sem ((w64 (x38.toNat:Int),w64 (x39.toNat:Int),y42,(a1.1.take a1.1.length).drop 6,()),())).bind fun r43=>bif !decide (r43.1=(0:Int)) then (some (((5:Int),(0:Int),(0:Int),(0:Int),((0:Int),(0:Int),(0:Int),([]:List UInt8),()),()),())) else (a1.1[0]?).bind fun x44=>some (((0:Int),w64 (x44.toNat:Int),(0:Int),(0:Int),(w64 (x38.toNat:Int),w64 (x39.toNat:Int),y42,(a1.1.take a1.1.length).drop 6,()),()),())) else none;bif decide ((a1.1.length:Int) < (6:Int)) then (some (((5:Int),(0:Int),(0:Int),(0:Int),((0:Int),(0:Int),(0:Int),([]:List UInt8),()),()),())) else (a1.1[0]?).bind fun x26=>bif !decide ((x26.toNat:Int)=(0:Int)) then ((a1.1[0]?).bind fun x27=>bif !decide ((x27.toNat:Int)=(2:Int)) then (some (((5:Int),(0:Int),(0:Int),(0:Int),((0:Int),(0:Int),(0:Int),([]:List UInt8),()),()),())) else (a1.1[5]?).bind fun x28=>bif !decide ((a1.1.length:Int)=w64 ((6:Int)+(w64 (x28.toNat:Int)))) then (some (((5:Int),(0:Int),(0:Int),(0:Int),((0:Int),(0:Int),(0:Int),([]:List UInt8),()),()),())) else j37) else (a1.1[5]?).bind fun x29=>bif !decide ((a1.1.length:Int)=w64 ((6:Int)+(w64 (x29.toNat:Int)))) then (some (((5:Int),(0:Int),(0:Int),(0:Int),((0:Int),(0:Int),(0:Int),([]:List UInt8),()),()),())) else j37;bif decide ((a1.1.length:Int)=(3:Int)) then ((a1.1[0]?).bind fun x2=>bif decide ((x2.toNat:Int)=(1:Int)) then ((a1.1[1]?).bind fun x3=>bif decide ((x3.toNat:Int) < (12:Int)) then ((a1.1[2]?).bind fun x4=>bif decide ((x4.toNat:Int) < (16:Int)) then ((a1.1[1]?).bind fun x5=>(a1.1[2]?).bind fun x6=>some (((0:Int),(1:Int),w64 (x5.toNat:Int),w64 (x6.toNat:Int),((0:Int),(0:Int),(0:Int),([]:List UInt8),()),()),())) else j25) else j25) else j25) else j25
theorem raw_eq (k:Nat) (a1:Arg):@Eq (Option Out) (D.W k a1) (p a1):=by kernel_rfl
theorem ok:Ok prog 190 D.sig:=fd_ok func190 tlOk (by kernel_rfl) (fc impl_RowFault.ok (fn_nil _))
end impl_UnpackCell
namespace impl_cellAt
abbrev Arg:Type:=(List UInt8)×Int×Unit
abbrev Out:Type:=(List UInt8)×Unit
abbrev ps:PQ:=[(.ro,(.slc u8)),(.ro,i64)]
noncomputable def D:FD:={ fn:=f191,tl:=TL0,ps:=ps,rs:=[((.slc u8),(roMd (.slc u8)))],gl:=[(286,impl_spot.D.sig)] }
noncomputable def sem (a:Arg):Option Out:=@lift Out fun k=>D.W k a
noncomputable def p (a1:Arg):Option Out:=(impl_spot.sem (a1.1,a1.2.1,())).bind fun r2=>if 0<=r2.1/\r2.1<=w64 (r2.1+r2.2.1)/\w64 (r2.1+r2.2.1)<=(a1.1.length:Int) then (some ((a1.1.take (w64 (r2.1+r2.2.1)).toNat).drop r2.1.toNat,())) else none
theorem raw_eq (k:Nat) (a1:Arg):@Eq (Option Out) (D.W k a1) (p a1):=by kernel_rfl
theorem ok:Ok prog 191 D.sig:=fd_ok func191 tlOk (by kernel_rfl) (fc impl_spot.ok (fn_nil _))
end impl_cellAt
namespace impl_IsBefore
abbrev Arg:Type:=Row×Row×Unit
abbrev Out:Type:=Bool×Unit
abbrev ps:PQ:=[(.ro,tRow),(.ro,tRow)]
noncomputable def D:FD:={ fn:=f216,tl:=TL0,ps:=ps,rs:=[(.bool,(roMd .bool))] }
noncomputable def sem (a:Arg):Option Out:=@lift Out fun k=>D.W k a
noncomputable def p (a1:Arg):Option Out:=bif decide (a1.1.1 < a1.2.1.1) then (some (true,())) else bif decide (a1.1.1=a1.2.1.1) then (some (decide (a1.1.2.1 < a1.2.1.2.1),())) else some (false,())
theorem raw_eq (k:Nat) (a1:Arg):@Eq (Option Out) (D.W k a1) (p a1):=by kernel_rfl
theorem ok:Ok prog 216 D.sig:=fd_ok func216 tlOk (by kernel_rfl) (fn_nil _)
end impl_IsBefore
namespace impl_order
abbrev Arg:Type:=Row×Row×Unit
abbrev Out:Type:=Int×Unit
abbrev ps:PQ:=[(.ro,tRow),(.ro,tRow)]
noncomputable def D:FD:={ fn:=f212,tl:=TL0,ps:=ps,rs:=[(i64,(roMd i64))],gl:=[(216,impl_IsBefore.D.sig)] }
noncomputable def sem (a:Arg):Option Out:=@lift Out fun k=>D.W k a
noncomputable def p (a1:Arg):Option Out:=(impl_IsBefore.sem (a1.1,a1.2.1,())).bind fun r2=>bif r2.1 then (some ((-1:Int),())) else (impl_IsBefore.sem (a1.2.1,a1.1,())).bind fun r3=>bif r3.1 then (some ((1:Int),())) else some ((0:Int),())
theorem raw_eq (k:Nat) (a1:Arg):@Eq (Option Out) (D.W k a1) (p a1):=by kernel_rfl
theorem ok:Ok prog 212 D.sig:=fd_ok func212 tlOk (by kernel_rfl) (fc impl_IsBefore.ok (fn_nil _))
end impl_order
namespace impl_look_1
abbrev Arg:Type:=Seen×Seen×Unit
abbrev Out:Type:=Int×Unit
abbrev ps:PQ:=[(.ro,tSeen),(.ro,tSeen)]
noncomputable def D:FD:={ fn:=f288,tl:=TL0,ps:=ps,rs:=[(i64,(roMd i64))],gl:=[(212,impl_order.D.sig)] }
noncomputable def sem (a:Arg):Option Out:=@lift Out fun k=>D.W k a
noncomputable def p (a1:Arg):Option Out:=(impl_order.sem (a1.1.1,a1.2.1.1,())).bind fun r2=>some (r2.1,())
theorem raw_eq (k:Nat) (a1:Arg):@Eq (Option Out) (D.W k a1) (p a1):=by kernel_rfl
theorem ok:Ok prog 288 D.sig:=fd_ok func288 tlOk (by kernel_rfl) (fc impl_order.ok (fn_nil _))
end impl_look_1
namespace slices_SortFunc_seen
open Go.Proofs
abbrev Arg:Type:=(List Seen)×(Nat×Int)×Unit
abbrev Out:Type:=(List Seen)×Unit
noncomputable def sem (a:Arg):Option Out:=(sortF tSeen impl_look_1.sem a.1).map fun r=>(r,())
noncomputable def sig:Sig:={ ps:=[(.muts (ownMd (.slc tSeen)),.slc tSeen),(.fix 288,.fn)],rs:=[],F:=sem }
def sortlay_ren:Go.Shelf.Ren:=⟨fun | 6=>287 | 15=>358 | 14=>357 | 28=>396 | 29=>397 | 20=>388 | 21=>389 | 22=>390 | 23=>391 | 24=>392 | 25=>393 | 26=>394 | 27=>395 | 46=>401 | 47=>402 | 48=>403 | 49=>404 | 50=>405 | 57=>407 | n=>n,fun | 22=>142 | 24=>147 | 25=>370 | 3=>3 | 39=>364 | 0=>0 | 53=>454 | 55=>456 | 4=>4 | 46=>448 | 45=>447 | 50=>289 | 5=>5 | 9=>9 | 66=>458 | 70=>462 | 76=>465 | 77=>361 | n=>n,fun | n=>n⟩
theorem sortlay:Go.Proofs.SlLaysF0.n6 Tryz.prog sortlay_ren:={
 mixed:=by kernel_rfl
 f6:=⟨Tryz.f287.name,by decide,Tryz.func287.trans (congrArg some (by kernel_rfl))⟩
 f14:=⟨Tryz.f357.name,by decide,Tryz.func357.trans (congrArg some (by kernel_rfl))⟩
 f15:=Tryz.func358.trans (congrArg some (by kernel_rfl))
 f20:=⟨Tryz.f388.name,by decide,Tryz.func388.trans (congrArg some (by kernel_rfl))⟩
 f21:=⟨Tryz.f389.name,by decide,Tryz.func389.trans (congrArg some (by kernel_rfl))⟩
 f22:=⟨Tryz.f390.name,by decide,Tryz.func390.trans (congrArg some (by kernel_rfl))⟩
 f23:=⟨Tryz.f391.name,by decide,Tryz.func391.trans (congrArg some (by kernel_rfl))⟩
 f24:=⟨Tryz.f392.name,by decide,Tryz.func392.trans (congrArg some (by kernel_rfl))⟩
 f25:=⟨Tryz.f393.name,by decide,Tryz.func393.trans (congrArg some (by kernel_rfl))⟩
 f26:=⟨Tryz.f394.name,by decide,Tryz.func394.trans (congrArg some (by kernel_rfl))⟩
 f27:=⟨Tryz.f395.name,by decide,Tryz.func395.trans (congrArg some (by kernel_rfl))⟩
 f28:=Tryz.func396.trans (congrArg some (by kernel_rfl))
 f29:=Tryz.func397.trans (congrArg some (by kernel_rfl))
 f46:=⟨Tryz.f401.name,by decide,Tryz.func401.trans (congrArg some (by kernel_rfl))⟩
 f47:=Tryz.func402.trans (congrArg some (by kernel_rfl))
 f48:=Tryz.func403.trans (congrArg some (by kernel_rfl))
 f49:=⟨Tryz.f404.name,by decide,Tryz.func404.trans (congrArg some (by kernel_rfl))⟩
 f50:=⟨Tryz.f405.name,by decide,Tryz.func405.trans (congrArg some (by kernel_rfl))⟩
 f57:=⟨Tryz.f407.name,by decide,Tryz.func407.trans (congrArg some (by kernel_rfl))⟩
 t0:=Tryz.underlying0
 a0:=Tryz.isAgg0
 z0:=Tryz.sizeOf0
 v0:=Tryz.zeroValue0
 t3:=Tryz.underlying3
 a3:=Tryz.isAgg3
 z3:=Tryz.sizeOf3
 v3:=Tryz.zeroValue3
 t4:=Tryz.underlying4
 a4:=Tryz.isAgg4
 z4:=Tryz.sizeOf4
 v4:=Tryz.zeroValue4
 t5:=Tryz.underlying5
 a5:=Tryz.isAgg5
 z5:=Tryz.sizeOf5
 v5:=Tryz.zeroValue5
 t9:=Tryz.underlying9
 a9:=Tryz.isAgg9
 z9:=Tryz.sizeOf9
 v9:=Tryz.zeroValue9
 t22:=Tryz.underlying142
 a22:=Tryz.isAgg142
 z22:=Tryz.sizeOf142
 v22:=Tryz.zeroValue142
 t25:=Tryz.underlying370
 a25:=Tryz.isAgg370
 z25:=Tryz.sizeOf370
 v25:=Tryz.zeroValue370
 t39:=Tryz.underlying364
 a39:=Tryz.isAgg364
 z39:=Tryz.sizeOf364
 v39:=Tryz.zeroValue364
 t45:=Tryz.underlying447
 a45:=Tryz.isAgg447
 z45:=Tryz.sizeOf447
 v45:=Tryz.zeroValue447
 t46:=Tryz.underlying448
 a46:=Tryz.isAgg448
 z46:=Tryz.sizeOf448
 v46:=Tryz.zeroValue448
 t50:=Tryz.underlying289
 a50:=Tryz.isAgg289
 z50:=Tryz.sizeOf289
 v50:=Tryz.zeroValue289
 t53:=Tryz.underlying454
 a53:=Tryz.isAgg454
 z53:=Tryz.sizeOf454
 v53:=Tryz.zeroValue454
 t55:=Tryz.underlying456
 a55:=Tryz.isAgg456
 z55:=Tryz.sizeOf456
 v55:=Tryz.zeroValue456
 t66:=Tryz.underlying458
 a66:=Tryz.isAgg458
 z66:=Tryz.sizeOf458
 v66:=Tryz.zeroValue458
 t70:=Tryz.underlying462
 a70:=Tryz.isAgg462
 z70:=Tryz.sizeOf462
 v70:=Tryz.zeroValue462
 t76:=Tryz.underlying465
 a76:=Tryz.isAgg465
 z76:=Tryz.sizeOf465
 v76:=Tryz.zeroValue465
 t77:=Tryz.underlying361
 a77:=Tryz.isAgg361
 z77:=Tryz.sizeOf361
 v77:=Tryz.zeroValue361 }
theorem ok:Ok prog 287 sig:=sort_ok (e:=tSeen) sortlay rfl rfl (by kernel_rfl) (by decide) (g:=288) (cF:=impl_look_1.sem) impl_look_1.ok ⟨f287,func287,by kernel_rfl,by kernel_rfl,by kernel_rfl⟩
end slices_SortFunc_seen
namespace impl_look
abbrev Arg:Type:=(List (List UInt8))×Unit
abbrev Out:Type:=(List Seen)×Int×Unit
abbrev ps:PQ:=[(.ro,(.slc (.slc u8)))]
noncomputable def D:FD:={ fn:=f192,tl:=TL0,ps:=ps,rs:=[((.slc tSeen),(ownMd (.slc tSeen))),(i64,(roMd i64))],gl:=[(188,impl_slots.D.sig),(189,impl_hasSlot.D.sig),(190,impl_UnpackCell.D.sig),(191,impl_cellAt.D.sig),(216,impl_IsBefore.D.sig),(287,slices_SortFunc_seen.sig)],lv:=[(4,[4,5,6,21,22,23]),(7,[4,5,6,7,8,21,22,23,29,30]),(21,[4,5,6,81,82,83]),(29,[4,5,6,15,101,102,103]),(40,[4,19])],lx:=[(0,[4,5,6]),(2,[4,5,6,21,22,23]),(3,[4,5,6,7,8,21,22,23,29,30]),(5,[4,5,6]),(7,[4]),(9,[4])],od:=[(42,[0,1,2,3,4,5,6,7,8,9,10,11,12])] }
noncomputable def sem (a:Arg):Option Out:=@lift Out fun k=>D.W k a
noncomputable def T0 (a1:Arg) (v402:(List Seen)×(List Seen)×(List ((List Int)×Row))×(List (List UInt8))×Int×Int):St:={ n:=148,sl:=[(4,.own (.slc tSeen) (ownMd (.slc tSeen)) [] v402.1),(5,.own (.slc tSeen) (ownMd (.slc tSeen)) [] v402.2.1),(6,.own (.map (.arr 2 i64) tRow) (ownMd (.map (.arr 2 i64) tRow)) [] v402.2.2.1),(21,.val (.slc (.slc u8)) v402.2.2.2.1),(22,.val i64 v402.2.2.2.2.1),(23,.val i64 v402.2.2.2.2.2)],vr:=[],lent:=[] }
noncomputable def S0 (rec:RT Out) (a1:Arg):((List Seen)×(List Seen)×(List ((List Int)×Row))×(List (List UInt8))×Int×Int)->Option Out:=fun v402=>rec (T0 a1 v402)
noncomputable def X0_0 (K:KT Out) (a1:Arg):((List Seen)×(List Seen)×(List ((List Int)×Row)))->Option Out:=fun z=>K (.exit 0) ({ n:=148,sl:=[(4,.own (.slc tSeen) (ownMd (.slc tSeen)) [] z.1),(5,.own (.slc tSeen) (ownMd (.slc tSeen)) [] z.2.1),(6,.own (.map (.arr 2 i64) tRow) (ownMd (.map (.arr 2 i64) tRow)) [] z.2.2)],vr:=[],lent:=[] })
noncomputable def T1 (a1:Arg) (c1006:Int) (c1007:List UInt8) (c1008:List (List UInt8)) (c1009:Int) (c1010:Int) (v1005:(List Seen)×(List Seen)×(List ((List Int)×Row))×Int):St:={ n:=148,sl:=[(4,.own (.slc tSeen) (ownMd (.slc tSeen)) [] v1005.1),(5,.own (.slc tSeen) (ownMd (.slc tSeen)) [] v1005.2.1),(6,.own (.map (.arr 2 i64) tRow) (ownMd (.map (.arr 2 i64) tRow)) [] v1005.2.2.1),(7,.val i64 c1006),(8,.val (.slc u8) c1007),(21,.val (.slc (.slc u8)) c1008),(22,.val i64 c1009),(23,.val i64 c1006),(29,.val i64 c1010),(30,.val i64 v1005.2.2.2)],vr:=[],lent:=[] }
noncomputable def b1 (self:((List Seen)×(List Seen)×(List ((List Int)×Row))×Int)->Option Out) (e2:((List Seen)×(List Seen)×(List ((List Int)×Row)))->Option Out) (a1:Arg) (c1006:Int) (c1007:List UInt8) (c1008:List (List UInt8)) (c1009:Int) (c1010:Int) (v1005:(List Seen)×(List Seen)×(List ((List Int)×Row))×Int):Option Out:=bif decide (v1005.2.2.2 < c1010) then ((impl_hasSlot.sem (c1007,v1005.2.2.2,())).bind fun r1211=>bif !r1211.1 then (self (v1005.1,v1005.2.1,v1005.2.2.1,w64 (v1005.2.2.2+(1:Int)))) else (impl_cellAt.sem (c1007,v1005.2.2.2,())).bind fun r1212=>(impl_UnpackCell.sem (r1212.1,())).bind fun r1213=>bif !decide (r1213.1.1=(0:Int)) then (some (([]:List Seen),(5:Int),())) else bif decide (r1213.1.2.1=(0:Int)) then (if v1005.1.length+[(r1213.1.2.2.2.2.1,c1006,v1005.2.2.2,false,c1006,v1005.2.2.2,())].length<=CAP then (let y1214:=v1005.1++[(r1213.1.2.2.2.2.1,c1006,v1005.2.2.2,false,c1006,v1005.2.2.2,())];self (y1214,v1005.2.1,v1005.2.2.1,w64 (v1005.2.2.2+(1:Int)))) else none) else bif decide (r1213.1.2.1=(2:Int)) then (if 0 < (List.replicate 2 (0:Int)).length then (if 1 < ((List.replicate 2 (0:Int)).set 0 c1006).length then (let y1215:=mapPut (.arr 2 i64) v1005.2.2.1 (((List.replicate 2 (0:Int)).set 0 c1006).set 1 v1005.2.2.2) r1213.1.2.2.2.2.1;self (v1005.1,v1005.2.1,y1215,w64 (v1005.2.2.2+(1:Int)))) else none) else none) else if v1005.2.1.length+[(((0:Int),(0:Int),(0:Int),([]:List UInt8),()),c1006,v1005.2.2.2,true,r1213.1.2.2.1,r1213.1.2.2.2.1,())].length<=CAP then (let y1216:=v1005.2.1++[(((0:Int),(0:Int),(0:Int),([]:List UInt8),()),c1006,v1005.2.2.2,true,r1213.1.2.2.1,r1213.1.2.2.2.1,())];self (v1005.1,y1216,v1005.2.2.1,w64 (v1005.2.2.2+(1:Int)))) else none) else e2 (v1005.1,v1005.2.1,v1005.2.2.1)
noncomputable abbrev B1 (_:Nat):=b1
noncomputable def q0 (self:((List Seen)×(List Seen)×(List ((List Int)×Row))×(List (List UInt8))×Int×Int)->Option Out) (e0:((List Seen)×(List Seen)×(List ((List Int)×Row)))->Option Out) (a1:Arg) (c1006:Int) (c1007:List UInt8) (c1008:List (List UInt8)) (c1009:Int) (c1010:Int) (z1217:((List Seen)×(List Seen)×(List ((List Int)×Row)))):Option Out:=self (z1217.1,z1217.2.1,z1217.2.2,c1008,c1009,w64 (c1006+(1:Int)))
noncomputable abbrev Q0 (_:Nat):=q0
noncomputable def s1 (k:Nat) (rec:RT Out) (K:KT Out) (a1:Arg):Int->(List UInt8)->(List (List UInt8))->Int->Int->((List Seen)×(List Seen)×(List ((List Int)×Row))×Int)->Option Out:=fun c1006 c1007 c1008 c1009 c1010=>fun v1005=>D.L k [1,1,1,0,1,0,0,1,1,0,0,1,1,0,0] [4,5,6,7,8,21,22,23,29,30] [] (blockC 2 (blockC 1 (seqC (D.N k [1,1,1,0,1,0,0,1,1,1]) (loopC rec (keepF [4,5,6,21,22,23] []) K)))) (T1 a1 c1006 c1007 c1008 c1009 c1010 v1005)
noncomputable def r1 (k:Nat) (self:((List Seen)×(List Seen)×(List ((List Int)×Row))×(List (List UInt8))×Int×Int)->Option Out) (e0:((List Seen)×(List Seen)×(List ((List Int)×Row)))->Option Out) (a1:Arg):Int->(List UInt8)->(List (List UInt8))->Int->Int->((List Seen)×(List Seen)×(List ((List Int)×Row))×Int)->Option Out:=fun c1006 c1007 c1008 c1009 c1010=>rawIter (fun w v=>B1 k w (Q0 k self e0 a1 c1006 c1007 c1008 c1009 c1010) a1 c1006 c1007 c1008 c1009 c1010 v) k
theorem s1_eq (k:Nat) (rec:RT Out) (K:KT Out) (a1:Arg):s1 k rec K a1=r1 k (S0 rec a1) (X0_0 K a1) a1:=
 funext fun c1006=>funext fun c1007=>funext fun c1008=>funext fun c1009=>funext fun c1010=>funext fun v1005=>iter_raw _ _ _ (T1 a1 c1006 c1007 c1008 c1009 c1010) _ (fun rec v=>by kernel_rfl) k v1005
noncomputable def b0 (self:((List Seen)×(List Seen)×(List ((List Int)×Row))×(List (List UInt8))×Int×Int)->Option Out) (e0:((List Seen)×(List Seen)×(List ((List Int)×Row)))->Option Out) (l1:Int->(List UInt8)->(List (List UInt8))->Int->Int->((List Seen)×(List Seen)×(List ((List Int)×Row))×Int)->Option Out) (a1:Arg) (v402:(List Seen)×(List Seen)×(List ((List Int)×Row))×(List (List UInt8))×Int×Int):Option Out:=bif decide (v402.2.2.2.2.2 < v402.2.2.2.2.1) then (if 0<=v402.2.2.2.2.2 then ((v402.2.2.2.1[v402.2.2.2.2.2.toNat]?).bind fun x603=>(impl_slots.sem (x603,())).bind fun r604=>l1 v402.2.2.2.2.2 x603 v402.2.2.2.1 v402.2.2.2.2.1 r604.1 (v402.1,v402.2.1,v402.2.2.1,(0:Int))) else none) else e0 (v402.1,v402.2.1,v402.2.2.1)
noncomputable def B0 (k:Nat) (self:((List Seen)×(List Seen)×(List ((List Int)×Row))×(List (List UInt8))×Int×Int)->Option Out) (e0:((List Seen)×(List Seen)×(List ((List Int)×Row)))->Option Out) (a1:Arg) (v402:(List Seen)×(List Seen)×(List ((List Int)×Row))×(List (List UInt8))×Int×Int):Option Out:=b0 self e0 (r1 k self e0 a1) a1 v402
theorem B0_eq (k:Nat) (rec:RT Out) (K:KT Out) (a1:Arg) (v402:(List Seen)×(List Seen)×(List ((List Int)×Row))×(List (List UInt8))×Int×Int):D.N k [1,1,1,0,1,0,0] (T0 a1 v402) (loopC rec (keepF [4,5,6,21,22,23] []) K)=B0 k (S0 rec a1) (X0_0 K a1) a1 v402:=
 Eq.trans (b:=b0 (S0 rec a1) (X0_0 K a1) (s1 k rec K a1) a1 v402) (by kernel_rfl) (by rw[s1_eq];rfl)
noncomputable def T2 (a1:Arg) (c1620:List Seen) (c1621:List Seen) (c1622:List ((List Int)×Row)) (c1623:Int) (v1619:Int):St:={ n:=148,sl:=[(4,.own (.slc tSeen) (ownMd (.slc tSeen)) [] c1620),(5,.own (.slc tSeen) (ownMd (.slc tSeen)) [] c1621),(6,.own (.map (.arr 2 i64) tRow) (ownMd (.map (.arr 2 i64) tRow)) [] c1622),(81,.ref 5 [] [0,0]),(82,.val i64 c1623),(83,.val i64 v1619)],vr:=[],lent:=[] }
noncomputable def S2 (rec:RT Out) (a1:Arg) (c1620:List Seen) (c1621:List Seen) (c1622:List ((List Int)×Row)) (c1623:Int):(Int)->Option Out:=fun v1619=>rec (T2 a1 c1620 c1621 c1622 c1623 v1619)
noncomputable def X2_5 (K:KT Out) (a1:Arg) (c1620:List Seen) (c1621:List Seen) (c1622:List ((List Int)×Row)) (c1623:Int):(Unit)->Option Out:=fun z=>K (.exit 5) ({ n:=148,sl:=[(4,.own (.slc tSeen) (ownMd (.slc tSeen)) [] c1620),(5,.own (.slc tSeen) (ownMd (.slc tSeen)) [] c1621),(6,.own (.map (.arr 2 i64) tRow) (ownMd (.map (.arr 2 i64) tRow)) [] c1622)],vr:=[],lent:=[] })
noncomputable def b2 (self:Int->Option Out) (e5:(Unit)->Option Out) (a1:Arg) (c1620:List Seen) (c1621:List Seen) (c1622:List ((List Int)×Row)) (c1623:Int) (v1619:Int):Option Out:=bif decide (v1619 < c1623) then (if 0<=v1619/\v1619 < (c1621.length:Int) then ((c1621[v1619.toNat]?).bind fun x1824=>if 0 < (List.replicate 2 (0:Int)).length then (if 1 < ((List.replicate 2 (0:Int)).set 0 x1824.2.2.2.2.1).length then (let y1825:=orZ (mapGet (.arr 2 i64) c1622 (((List.replicate 2 (0:Int)).set 0 x1824.2.2.2.2.1).set 1 x1824.2.2.2.2.2.1)) ((0:Int),(0:Int),(0:Int),([]:List UInt8),());bif !(mapGet (.arr 2 i64) c1622 (((List.replicate 2 (0:Int)).set 0 x1824.2.2.2.2.1).set 1 x1824.2.2.2.2.2.1)).isSome then (some (([]:List Seen),(4:Int),())) else self (w64 (v1619+(1:Int)))) else none) else none) else none) else e5 ()
noncomputable abbrev B2 (_:Nat):=b2
theorem B2_eq (k:Nat) (rec:RT Out) (K:KT Out) (a1:Arg) (c1620:List Seen) (c1621:List Seen) (c1622:List ((List Int)×Row)) (c1623:Int) (v1619:Int):D.N k [1,1,1,1,0,1,0,0] (T2 a1 c1620 c1621 c1622 c1623 v1619) (loopC rec (keepF [4,5,6,81,82,83] []) K)=b2 (S2 rec a1 c1620 c1621 c1622 c1623) (X2_5 K a1 c1620 c1621 c1622 c1623) a1 c1620 c1621 c1622 c1623 v1619:=by kernel_rfl
noncomputable def T3 (a1:Arg) (c2228:List Seen) (c2229:List ((List Int)×Row)) (c2230:Int) (v2227:(List Seen)×(List ((List Int)×Bool))×Int):St:={ n:=148,sl:=[(4,.own (.slc tSeen) (ownMd (.slc tSeen)) [] v2227.1),(5,.own (.slc tSeen) (ownMd (.slc tSeen)) [] c2228),(6,.own (.map (.arr 2 i64) tRow) (ownMd (.map (.arr 2 i64) tRow)) [] c2229),(15,.own (.map (.arr 2 i64) .bool) (ownMd (.map (.arr 2 i64) .bool)) [] v2227.2.1),(101,.ref 5 [] [0,0]),(102,.val i64 c2230),(103,.val i64 v2227.2.2)],vr:=[],lent:=[] }
noncomputable def S3 (rec:RT Out) (a1:Arg) (c2228:List Seen) (c2229:List ((List Int)×Row)) (c2230:Int):((List Seen)×(List ((List Int)×Bool))×Int)->Option Out:=fun v2227=>rec (T3 a1 c2228 c2229 c2230 v2227)
noncomputable def X3_7 (K:KT Out) (a1:Arg) (c2228:List Seen) (c2229:List ((List Int)×Row)) (c2230:Int):(List Seen)->Option Out:=fun z=>K (.exit 7) ({ n:=148,sl:=[(4,.own (.slc tSeen) (ownMd (.slc tSeen)) [] z)],vr:=[],lent:=[] })
noncomputable def b3 (self:((List Seen)×(List ((List Int)×Bool))×Int)->Option Out) (e7:(List Seen)->Option Out) (a1:Arg) (c2228:List Seen) (c2229:List ((List Int)×Row)) (c2230:Int) (v2227:(List Seen)×(List ((List Int)×Bool))×Int):Option Out:=bif decide (v2227.2.2 < c2230) then (if 0<=v2227.2.2/\v2227.2.2 < (c2228.length:Int) then ((c2228[v2227.2.2.toNat]?).bind fun x2431=>if 0 < (List.replicate 2 (0:Int)).length then (if 1 < ((List.replicate 2 (0:Int)).set 0 x2431.2.2.2.2.1).length then (let y2432:=((List.replicate 2 (0:Int)).set 0 x2431.2.2.2.2.1).set 1 x2431.2.2.2.2.2.1;bif orZ (mapGet (.arr 2 i64) v2227.2.1 y2432) false then (some (([]:List Seen),(6:Int),())) else let y2433:=orZ (mapGet (.arr 2 i64) c2229 y2432) ((0:Int),(0:Int),(0:Int),([]:List UInt8),());if v2227.1.length+[(y2433,x2431.2)].length<=CAP then (self (v2227.1++[(y2433,x2431.2)],mapPut (.arr 2 i64) v2227.2.1 y2432 true,w64 (v2227.2.2+(1:Int)))) else none) else none) else none) else none) else e7 v2227.1
noncomputable abbrev B3 (_:Nat):=b3
theorem B3_eq (k:Nat) (rec:RT Out) (K:KT Out) (a1:Arg) (c2228:List Seen) (c2229:List ((List Int)×Row)) (c2230:Int) (v2227:(List Seen)×(List ((List Int)×Bool))×Int):D.N k [1,1,1,1,1,1,0,1,0,0] (T3 a1 c2228 c2229 c2230 v2227) (loopC rec (keepF [4,5,6,15,101,102,103] []) K)=b3 (S3 rec a1 c2228 c2229 c2230) (X3_7 K a1 c2228 c2229 c2230) a1 c2228 c2229 c2230 v2227:=by kernel_rfl
noncomputable def T4 (a1:Arg) (c2837:List Seen) (v2836:Int):St:={ n:=148,sl:=[(4,.own (.slc tSeen) (ownMd (.slc tSeen)) [] c2837),(19,.val i64 v2836)],vr:=[],lent:=[] }
noncomputable def b4 (self:Int->Option Out) (e9:(Unit)->Option Out) (a1:Arg) (c2837:List Seen) (v2836:Int):Option Out:=bif decide (v2836 < (c2837.length:Int)) then (if 0<=w64 (v2836 - (1:Int))/\w64 (v2836 - (1:Int)) < (c2837.length:Int) then ((c2837[(w64 (v2836 - (1:Int))).toNat]?).bind fun x3038=>if 0<=v2836/\v2836 < (c2837.length:Int) then ((c2837[v2836.toNat]?).bind fun x3039=>(impl_IsBefore.sem (x3038.1,x3039.1,())).bind fun r3040=>bif !r3040.1 then (some (([]:List Seen),(8:Int),())) else self (w64 (v2836+(1:Int)))) else none) else none) else e9 ()
noncomputable abbrev B4 (_:Nat):=b4
noncomputable def q4 (a1:Arg) (c2837:List Seen) (z3041:(Unit)):Option Out:=some (c2837,(0:Int),())
noncomputable abbrev Q4 (_:Nat):=q4
noncomputable def s4 (k:Nat) (a1:Arg) (c2228:List Seen) (c2229:List ((List Int)×Row)) (c2230:Int):(List Seen)->(Int)->Option Out:=fun c2837=>fun v2836=>D.L k [1,1,1,1,1,1,1,1,0,1,0,0] [4,19] [] (blockC 9 (seqC (D.N k [1,1,1,1,1,1,1,1,1]) D.K0)) (T4 a1 c2837 v2836)
noncomputable def r4 (k:Nat) (a1:Arg) (c2228:List Seen) (c2229:List ((List Int)×Row)) (c2230:Int):(List Seen)->(Int)->Option Out:=fun c2837=>rawIter (fun w v=>B4 k w (Q4 k a1 c2837) a1 c2837 v) k
theorem s4_eq (k:Nat) (a1:Arg) (c2228:List Seen) (c2229:List ((List Int)×Row)) (c2230:Int):s4 k a1 c2228 c2229 c2230=r4 k a1 c2228 c2229 c2230:=
 funext fun c2837=>funext fun v2836=>iter_raw _ _ _ (T4 a1 c2837) _ (fun rec v=>by kernel_rfl) k v2836
noncomputable def q3 (l4:(List Seen)->(Int)->Option Out) (a1:Arg) (c2228:List Seen) (c2229:List ((List Int)×Row)) (c2230:Int) (z2434:(List Seen)):Option Out:=(slices_SortFunc_seen.sem (z2434,((288,0):Nat×Int),())).bind fun r2435=>l4 r2435.1 (1:Int)
noncomputable def Q3 (k:Nat) (a1:Arg) (c2228:List Seen) (c2229:List ((List Int)×Row)) (c2230:Int) (z2434:(List Seen)):Option Out:=q3 (r4 k a1 c2228 c2229 c2230) a1 c2228 c2229 c2230 z2434
theorem Q3_eq (k:Nat) (a1:Arg) (c2228:List Seen) (c2229:List ((List Int)×Row)) (c2230:Int) (z2434:(List Seen)):X3_7 (blockC 7 (seqC (D.N k [1,1,1,1,1,1,1]) D.K0)) a1 c2228 c2229 c2230 z2434=Q3 k a1 c2228 c2229 c2230 z2434:=
 Eq.trans (b:=q3 (s4 k a1 c2228 c2229 c2230) a1 c2228 c2229 c2230 z2434) (by kernel_rfl) (by rw[s4_eq];rfl)
noncomputable def s3 (k:Nat) (a1:Arg) (c1620:List Seen) (c1621:List Seen) (c1622:List ((List Int)×Row)) (c1623:Int):(List Seen)->(List ((List Int)×Row))->Int->((List Seen)×(List ((List Int)×Bool))×Int)->Option Out:=fun c2228 c2229 c2230=>fun v2227=>D.L k [1,1,1,1,1,1,0,1,0,0] [4,5,6,15,101,102,103] [] (blockC 7 (seqC (D.N k [1,1,1,1,1,1,1]) D.K0)) (T3 a1 c2228 c2229 c2230 v2227)
noncomputable def r3 (k:Nat) (a1:Arg) (c1620:List Seen) (c1621:List Seen) (c1622:List ((List Int)×Row)) (c1623:Int):(List Seen)->(List ((List Int)×Row))->Int->((List Seen)×(List ((List Int)×Bool))×Int)->Option Out:=fun c2228 c2229 c2230=>rawIter (fun w v=>B3 k w (Q3 k a1 c2228 c2229 c2230) a1 c2228 c2229 c2230 v) k
theorem s3_eq (k:Nat) (a1:Arg) (c1620:List Seen) (c1621:List Seen) (c1622:List ((List Int)×Row)) (c1623:Int):s3 k a1 c1620 c1621 c1622 c1623=r3 k a1 c1620 c1621 c1622 c1623:=by
 funext c2228;funext c2229;funext c2230;funext v2227;
 have h7:X3_7 (blockC 7 (seqC (D.N k [1,1,1,1,1,1,1]) D.K0)) a1 c2228 c2229 c2230=Q3 k a1 c2228 c2229 c2230:=funext fun z=>Q3_eq k a1 c2228 c2229 c2230 z
 refine (iter_raw _ _ _ (T3 a1 c2228 c2229 c2230) (fun self v=>B3 k self (X3_7 (blockC 7 (seqC (D.N k [1,1,1,1,1,1,1]) D.K0)) a1 c2228 c2229 c2230) a1 c2228 c2229 c2230 v) (fun rec v=>B3_eq k rec (blockC 7 (seqC (D.N k [1,1,1,1,1,1,1]) D.K0)) a1 c2228 c2229 c2230 v) k v2227).trans ?_
 rw[h7]
 rfl
noncomputable def q2 (l3:(List Seen)->(List ((List Int)×Row))->Int->((List Seen)×(List ((List Int)×Bool))×Int)->Option Out) (a1:Arg) (c1620:List Seen) (c1621:List Seen) (c1622:List ((List Int)×Row)) (c1623:Int) (z1826:(Unit)):Option Out:=l3 c1621 c1622 (c1621.length:Int) (c1620,([]:List ((List Int)×Bool)),(0:Int))
noncomputable def Q2 (k:Nat) (a1:Arg) (c1620:List Seen) (c1621:List Seen) (c1622:List ((List Int)×Row)) (c1623:Int) (z1826:(Unit)):Option Out:=q2 (r3 k a1 c1620 c1621 c1622 c1623) a1 c1620 c1621 c1622 c1623 z1826
theorem Q2_eq (k:Nat) (a1:Arg) (c1620:List Seen) (c1621:List Seen) (c1622:List ((List Int)×Row)) (c1623:Int) (z1826:(Unit)):X2_5 (blockC 5 (seqC (D.N k [1,1,1,1,1]) D.K0)) a1 c1620 c1621 c1622 c1623 z1826=Q2 k a1 c1620 c1621 c1622 c1623 z1826:=
 Eq.trans (b:=q2 (s3 k a1 c1620 c1621 c1622 c1623) a1 c1620 c1621 c1622 c1623 z1826) (by kernel_rfl) (by rw[s3_eq];rfl)
noncomputable def s2 (k:Nat) (a1:Arg):(List Seen)->(List Seen)->(List ((List Int)×Row))->Int->(Int)->Option Out:=fun c1620 c1621 c1622 c1623=>fun v1619=>D.L k [1,1,1,1,0,1,0,0] [4,5,6,81,82,83] [] (blockC 5 (seqC (D.N k [1,1,1,1,1]) D.K0)) (T2 a1 c1620 c1621 c1622 c1623 v1619)
noncomputable def r2 (k:Nat) (a1:Arg):(List Seen)->(List Seen)->(List ((List Int)×Row))->Int->(Int)->Option Out:=fun c1620 c1621 c1622 c1623=>rawIter (fun w v=>B2 k w (Q2 k a1 c1620 c1621 c1622 c1623) a1 c1620 c1621 c1622 c1623 v) k
theorem s2_eq (k:Nat) (a1:Arg):s2 k a1=r2 k a1:=by
 funext c1620;funext c1621;funext c1622;funext c1623;funext v1619;
 have h5:X2_5 (blockC 5 (seqC (D.N k [1,1,1,1,1]) D.K0)) a1 c1620 c1621 c1622 c1623=Q2 k a1 c1620 c1621 c1622 c1623:=funext fun z=>Q2_eq k a1 c1620 c1621 c1622 c1623 z
 refine (iter_raw _ _ _ (T2 a1 c1620 c1621 c1622 c1623) (fun self v=>B2 k self (X2_5 (blockC 5 (seqC (D.N k [1,1,1,1,1]) D.K0)) a1 c1620 c1621 c1622 c1623) a1 c1620 c1621 c1622 c1623 v) (fun rec v=>B2_eq k rec (blockC 5 (seqC (D.N k [1,1,1,1,1]) D.K0)) a1 c1620 c1621 c1622 c1623 v) k v1619).trans ?_
 rw[h5]
 rfl
noncomputable def q1 (l2:(List Seen)->(List Seen)->(List ((List Int)×Row))->Int->(Int)->Option Out) (a1:Arg) (z1218:((List Seen)×(List Seen)×(List ((List Int)×Row)))):Option Out:=l2 z1218.1 z1218.2.1 z1218.2.2 (z1218.2.1.length:Int) (0:Int)
noncomputable def Q1 (k:Nat) (a1:Arg) (z1218:((List Seen)×(List Seen)×(List ((List Int)×Row)))):Option Out:=q1 (r2 k a1) a1 z1218
theorem Q1_eq (k:Nat) (a1:Arg) (z1218:((List Seen)×(List Seen)×(List ((List Int)×Row)))):X0_0 (blockC 0 (seqC (D.N k [1,1,1,1]) D.K0)) a1 z1218=Q1 k a1 z1218:=
 Eq.trans (b:=q1 (s2 k a1) a1 z1218) (by kernel_rfl) (by rw[s2_eq];rfl)
noncomputable def s0 (k:Nat) (a1:Arg):((List Seen)×(List Seen)×(List ((List Int)×Row))×(List (List UInt8))×Int×Int)->Option Out:=fun v402=>D.L k [1,1,1,0,1,0,0] [4,5,6,21,22,23] [] (blockC 0 (seqC (D.N k [1,1,1,1]) D.K0)) (T0 a1 v402)
noncomputable def r0 (k:Nat) (a1:Arg):((List Seen)×(List Seen)×(List ((List Int)×Row))×(List (List UInt8))×Int×Int)->Option Out:=rawIter (fun w v=>B0 k w (Q1 k a1) a1 v) k
theorem s0_eq (k:Nat) (a1:Arg):s0 k a1=r0 k a1:=by
 funext v402;
 have h0:X0_0 (blockC 0 (seqC (D.N k [1,1,1,1]) D.K0)) a1=Q1 k a1:=funext fun z=>Q1_eq k a1 z
 refine (iter_raw _ _ _ (T0 a1) (fun self v=>B0 k self (X0_0 (blockC 0 (seqC (D.N k [1,1,1,1]) D.K0)) a1) a1 v) (fun rec v=>B0_eq k rec (blockC 0 (seqC (D.N k [1,1,1,1]) D.K0)) a1 v) k v402).trans ?_
 rw[h0]
 rfl
noncomputable def p (l0:((List Seen)×(List Seen)×(List ((List Int)×Row))×(List (List UInt8))×Int×Int)->Option Out) (a1:Arg):Option Out:=l0 (([]:List Seen),([]:List Seen),([]:List ((List Int)×Row)),a1.1,(a1.1.length:Int),(0:Int))
theorem raw_eq (k:Nat) (a1:Arg):@Eq (Option Out) (D.W k a1) (p (r0 k a1) a1):=
 Eq.trans (b:=p (s0 k a1) a1) (by kernel_rfl) (by rw[s0_eq])
theorem ok:Ok prog 192 D.sig:=fd_ok func192 tlOk (by kernel_rfl) (fc impl_slots.ok (fc impl_hasSlot.ok (fc impl_UnpackCell.ok (fc impl_cellAt.ok (fc impl_IsBefore.ok (fc slices_SortFunc_seen.ok (fn_nil _)))))))
end impl_look
namespace impl_view
abbrev Arg:Type:=(List (List UInt8))×Unit
abbrev Out:Type:=(List Seen)×Int×Unit
abbrev ps:PQ:=[(.ro,(.slc (.slc u8)))]
noncomputable def D:FD:={ fn:=f86,tl:=TL0,ps:=ps,rs:=[((.slc tSeen),(ownMd (.slc tSeen))),(i64,(roMd i64))],gl:=[(187,impl_PageFault.D.sig),(188,impl_slots.D.sig),(189,impl_hasSlot.D.sig),(190,impl_UnpackCell.D.sig),(191,impl_cellAt.D.sig),(192,impl_look.D.sig)],lv:=[(4,[0,11,12,13]),(10,[0,5,11,12,13,23,24])],lx:=[(0,[0]),(2,[0,11,12,13])] }
noncomputable def sem (a:Arg):Option Out:=@lift Out fun k=>D.W k a
noncomputable def T0 (a1:Arg) (v402:(List (List UInt8))×(List (List UInt8))×Int×Int):St:={ n:=44,sl:=[(0,.val (.slc (.slc u8)) v402.1),(11,.val (.slc (.slc u8)) v402.2.1),(12,.val i64 v402.2.2.1),(13,.val i64 v402.2.2.2)],vr:=[],lent:=[] }
noncomputable def S0 (rec:RT Out) (a1:Arg):((List (List UInt8))×(List (List UInt8))×Int×Int)->Option Out:=fun v402=>rec (T0 a1 v402)
noncomputable def X0_0 (K:KT Out) (a1:Arg):(List (List UInt8))->Option Out:=fun z=>K (.exit 0) ({ n:=44,sl:=[(0,.val (.slc (.slc u8)) z)],vr:=[],lent:=[] })
noncomputable def T1 (a1:Arg) (c1007:List (List UInt8)) (c1008:List UInt8) (c1009:List (List UInt8)) (c1010:Int) (c1011:Int) (c1012:Int) (v1006:Int):St:={ n:=44,sl:=[(0,.val (.slc (.slc u8)) c1007),(5,.val (.slc u8) c1008),(11,.val (.slc (.slc u8)) c1009),(12,.val i64 c1010),(13,.val i64 c1011),(23,.val i64 c1012),(24,.val i64 v1006)],vr:=[],lent:=[] }
noncomputable def b1 (self:Int->Option Out) (e2:(Unit)->Option Out) (a1:Arg) (c1007:List (List UInt8)) (c1008:List UInt8) (c1009:List (List UInt8)) (c1010:Int) (c1011:Int) (c1012:Int) (v1006:Int):Option Out:=bif decide (v1006 < c1012) then ((impl_hasSlot.sem (c1008,v1006,())).bind fun r1213=>bif r1213.1 then ((impl_cellAt.sem (c1008,v1006,())).bind fun r1214=>(impl_UnpackCell.sem (r1214.1,())).bind fun r1215=>bif !decide (r1215.1.1=(0:Int)) then (some (([]:List Seen),(5:Int),())) else self (w64 (v1006+(1:Int)))) else self (w64 (v1006+(1:Int)))) else e2 ()
noncomputable abbrev B1 (_:Nat):=b1
noncomputable def q0 (self:((List (List UInt8))×(List (List UInt8))×Int×Int)->Option Out) (e0:(List (List UInt8))->Option Out) (a1:Arg) (c1007:List (List UInt8)) (c1008:List UInt8) (c1009:List (List UInt8)) (c1010:Int) (c1011:Int) (c1012:Int) (z1216:(Unit)):Option Out:=self (c1007,c1009,c1010,w64 (c1011+(1:Int)))
noncomputable abbrev Q0 (_:Nat):=q0
noncomputable def s1 (k:Nat) (rec:RT Out) (K:KT Out) (a1:Arg):(List (List UInt8))->(List UInt8)->(List (List UInt8))->Int->Int->Int->(Int)->Option Out:=fun c1007 c1008 c1009 c1010 c1011 c1012=>fun v1006=>D.L k [1,1,0,1,0,0,1,1,0,0,1,1,1,0,0] [0,5,11,12,13,23,24] [] (blockC 2 (blockC 1 (seqC (D.N k [1,1,0,1,0,0,1,1,1]) (loopC rec (keepF [0,11,12,13] []) K)))) (T1 a1 c1007 c1008 c1009 c1010 c1011 c1012 v1006)
noncomputable def r1 (k:Nat) (self:((List (List UInt8))×(List (List UInt8))×Int×Int)->Option Out) (e0:(List (List UInt8))->Option Out) (a1:Arg):(List (List UInt8))->(List UInt8)->(List (List UInt8))->Int->Int->Int->(Int)->Option Out:=fun c1007 c1008 c1009 c1010 c1011 c1012=>rawIter (fun w v=>B1 k w (Q0 k self e0 a1 c1007 c1008 c1009 c1010 c1011 c1012) a1 c1007 c1008 c1009 c1010 c1011 c1012 v) k
theorem s1_eq (k:Nat) (rec:RT Out) (K:KT Out) (a1:Arg):s1 k rec K a1=r1 k (S0 rec a1) (X0_0 K a1) a1:=
 funext fun c1007=>funext fun c1008=>funext fun c1009=>funext fun c1010=>funext fun c1011=>funext fun c1012=>funext fun v1006=>iter_raw _ _ _ (T1 a1 c1007 c1008 c1009 c1010 c1011 c1012) _ (fun rec v=>by kernel_rfl) k v1006
noncomputable def b0 (self:((List (List UInt8))×(List (List UInt8))×Int×Int)->Option Out) (e0:(List (List UInt8))->Option Out) (l1:(List (List UInt8))->(List UInt8)->(List (List UInt8))->Int->Int->Int->(Int)->Option Out) (a1:Arg) (v402:(List (List UInt8))×(List (List UInt8))×Int×Int):Option Out:=bif decide (v402.2.2.2 < v402.2.2.1) then (if 0<=v402.2.2.2 then ((v402.2.1[v402.2.2.2.toNat]?).bind fun x603=>(impl_PageFault.sem (x603,())).bind fun r604=>bif !decide (r604.1=(0:Int)) then (some (([]:List Seen),r604.1,())) else (impl_slots.sem (x603,())).bind fun r605=>l1 v402.1 x603 v402.2.1 v402.2.2.1 v402.2.2.2 r605.1 (0:Int)) else none) else e0 v402.1
noncomputable def B0 (k:Nat) (self:((List (List UInt8))×(List (List UInt8))×Int×Int)->Option Out) (e0:(List (List UInt8))->Option Out) (a1:Arg) (v402:(List (List UInt8))×(List (List UInt8))×Int×Int):Option Out:=b0 self e0 (r1 k self e0 a1) a1 v402
theorem B0_eq (k:Nat) (rec:RT Out) (K:KT Out) (a1:Arg) (v402:(List (List UInt8))×(List (List UInt8))×Int×Int):D.N k [1,1,0,1,0,0] (T0 a1 v402) (loopC rec (keepF [0,11,12,13] []) K)=B0 k (S0 rec a1) (X0_0 K a1) a1 v402:=
 Eq.trans (b:=b0 (S0 rec a1) (X0_0 K a1) (s1 k rec K a1) a1 v402) (by kernel_rfl) (by rw[s1_eq];rfl)
noncomputable def q1 (a1:Arg) (z1217:(List (List UInt8))):Option Out:=(impl_look.sem (z1217,())).bind fun r1218=>some (r1218.1,r1218.2.1,())
noncomputable abbrev Q1 (_:Nat):=q1
theorem Q1_eq (k:Nat) (a1:Arg) (z1217:(List (List UInt8))):X0_0 (blockC 0 (seqC (D.N k [1,1,1]) D.K0)) a1 z1217=q1 a1 z1217:=by kernel_rfl
noncomputable def s0 (k:Nat) (a1:Arg):((List (List UInt8))×(List (List UInt8))×Int×Int)->Option Out:=fun v402=>D.L k [1,1,0,1,0,0] [0,11,12,13] [] (blockC 0 (seqC (D.N k [1,1,1]) D.K0)) (T0 a1 v402)
noncomputable def r0 (k:Nat) (a1:Arg):((List (List UInt8))×(List (List UInt8))×Int×Int)->Option Out:=rawIter (fun w v=>B0 k w (Q1 k a1) a1 v) k
theorem s0_eq (k:Nat) (a1:Arg):s0 k a1=r0 k a1:=by
 funext v402;
 have h0:X0_0 (blockC 0 (seqC (D.N k [1,1,1]) D.K0)) a1=Q1 k a1:=funext fun z=>Q1_eq k a1 z
 refine (iter_raw _ _ _ (T0 a1) (fun self v=>B0 k self (X0_0 (blockC 0 (seqC (D.N k [1,1,1]) D.K0)) a1) a1 v) (fun rec v=>B0_eq k rec (blockC 0 (seqC (D.N k [1,1,1]) D.K0)) a1 v) k v402).trans ?_
 rw[h0]
 rfl
noncomputable def p (l0:((List (List UInt8))×(List (List UInt8))×Int×Int)->Option Out) (a1:Arg):Option Out:=bif decide ((12:Int) < (a1.1.length:Int)) then (some (([]:List Seen),(2:Int),())) else l0 (a1.1,a1.1,(a1.1.length:Int),(0:Int))
theorem raw_eq (k:Nat) (a1:Arg):@Eq (Option Out) (D.W k a1) (p (r0 k a1) a1):=
 Eq.trans (b:=p (s0 k a1) a1) (by kernel_rfl) (by rw[s0_eq])
theorem ok:Ok prog 86 D.sig:=fd_ok func86 tlOk (by kernel_rfl) (fc impl_PageFault.ok (fc impl_slots.ok (fc impl_hasSlot.ok (fc impl_UnpackCell.ok (fc impl_cellAt.ok (fc impl_look.ok (fn_nil _)))))))
end impl_view
namespace impl_find
abbrev Arg:Type:=(List Seen)×Int×Int×Unit
abbrev Out:Type:=Seen×Bool×Unit
abbrev ps:PQ:=[(.ro,(.slc tSeen)),(.ro,i64),(.ro,i64)]
noncomputable def D:FD:={ fn:=f88,tl:=TL0,ps:=ps,rs:=[(tSeen,(roMd tSeen)),(.bool,(roMd .bool))],lv:=[(2,[1,2,6,10,11,12])],lx:=[(0,[6])] }
noncomputable def sem (a:Arg):Option Out:=@lift Out fun k=>D.W k a
noncomputable def T0 (a1:Arg) (v402:Int):St:={ n:=31,sl:=[(1,.val i64 a1.2.1),(2,.val i64 a1.2.2.1),(6,.box tSeen (roMd tSeen) [] (((0:Int),(0:Int),(0:Int),([]:List UInt8),()),(0:Int),(0:Int),false,(0:Int),(0:Int),())),(10,.val (.slc tSeen) a1.1),(11,.val i64 (a1.1.length:Int)),(12,.val i64 v402)],vr:=[],lent:=[] }
noncomputable def b0 (self:Int->Option Out) (e0:(Unit)->Option Out) (a1:Arg) (v402:Int):Option Out:=bif decide (v402 < (a1.1.length:Int)) then (if 0<=v402 then ((a1.1[v402.toNat]?).bind fun x603=>bif decide (x603.1.1=a1.2.1) then (bif decide (x603.1.2.1=a1.2.2.1) then (some (x603,true,())) else self (w64 (v402+(1:Int)))) else self (w64 (v402+(1:Int)))) else none) else e0 ()
noncomputable abbrev B0 (_:Nat):=b0
noncomputable def q0 (a1:Arg) (z604:(Unit)):Option Out:=some ((((0:Int),(0:Int),(0:Int),([]:List UInt8),()),(0:Int),(0:Int),false,(0:Int),(0:Int),()),false,())
noncomputable abbrev Q0 (_:Nat):=q0
noncomputable def s0 (k:Nat) (a1:Arg):(Int)->Option Out:=fun v402=>D.L k [1,0,1,0,0] [1,2,6,10,11,12] [] (blockC 0 (seqC (D.N k [1,1]) D.K0)) (T0 a1 v402)
noncomputable def r0 (k:Nat) (a1:Arg):(Int)->Option Out:=rawIter (fun w v=>B0 k w (Q0 k a1) a1 v) k
theorem s0_eq (k:Nat) (a1:Arg):s0 k a1=r0 k a1:=
 funext fun v402=>iter_raw _ _ _ (T0 a1) _ (fun rec v=>by kernel_rfl) k v402
noncomputable def p (l0:(Int)->Option Out) (a1:Arg):Option Out:=l0 (0:Int)
theorem raw_eq (k:Nat) (a1:Arg):@Eq (Option Out) (D.W k a1) (p (r0 k a1) a1):=
 Eq.trans (b:=p (s0 k a1) a1) (by kernel_rfl) (by rw[s0_eq])
theorem ok:Ok prog 88 D.sig:=fd_ok func88 tlOk (by kernel_rfl) (fn_nil _)
end impl_find
namespace impl_copied
abbrev Arg:Type:=(List UInt8)×Unit
abbrev Out:Type:=(List UInt8)×Unit
abbrev ps:PQ:=[(.ro,(.slc u8))]
noncomputable def D:FD:={ fn:=f120,tl:=TL0,ps:=ps,rs:=[((.slc u8),(ownMd (.slc u8)))] }
noncomputable def sem (a:Arg):Option Out:=@lift Out fun k=>D.W k a
noncomputable def p (a1:Arg):Option Out:=if ([]:List UInt8).length+a1.1.length<=CAP then (some (([]:List UInt8)++a1.1,())) else none
theorem raw_eq (k:Nat) (a1:Arg):@Eq (Option Out) (D.W k a1) (p a1):=by kernel_rfl
theorem ok:Ok prog 120 D.sig:=fd_ok func120 tlOk (by kernel_rfl) (fn_nil _)
end impl_copied
namespace impl_copies
abbrev Arg:Type:=(List (List UInt8))×Unit
abbrev Out:Type:=(List (List UInt8))×Unit
abbrev ps:PQ:=[(.ro,(.slc (.slc u8)))]
noncomputable def D:FD:={ fn:=f118,tl:=TL0,ps:=ps,rs:=[((.slc (.slc u8)),(ownMd (.slc (.slc u8))))],gl:=[(120,impl_copied.D.sig)],lv:=[(3,[3,6,7,8])],lx:=[(0,[3])] }
noncomputable def sem (a:Arg):Option Out:=@lift Out fun k=>D.W k a
noncomputable def T0 (a1:Arg) (v402:(List (List UInt8))×Int):St:={ n:=19,sl:=[(3,.own (.slc (.slc u8)) (ownMd (.slc (.slc u8))) [] v402.1),(6,.val (.slc (.slc u8)) a1.1),(7,.val i64 (a1.1.length:Int)),(8,.val i64 v402.2)],vr:=[],lent:=[] }
noncomputable def b0 (self:((List (List UInt8))×Int)->Option Out) (e0:(List (List UInt8))->Option Out) (a1:Arg) (v402:(List (List UInt8))×Int):Option Out:=bif decide (v402.2 < (a1.1.length:Int)) then (if 0<=v402.2 then ((a1.1[v402.2.toNat]?).bind fun x603=>(impl_copied.sem (x603,())).bind fun r604=>if v402.1.length+[r604.1].length<=CAP then (self (v402.1++[r604.1],w64 (v402.2+(1:Int)))) else none) else none) else e0 v402.1
noncomputable abbrev B0 (_:Nat):=b0
noncomputable def q0 (a1:Arg) (z605:(List (List UInt8))):Option Out:=some (z605,())
noncomputable abbrev Q0 (_:Nat):=q0
noncomputable def s0 (k:Nat) (a1:Arg):((List (List UInt8))×Int)->Option Out:=fun v402=>D.L k [1,1,0,1,0,0] [3,6,7,8] [] (blockC 0 (seqC (D.N k [1,1,1]) D.K0)) (T0 a1 v402)
noncomputable def r0 (k:Nat) (a1:Arg):((List (List UInt8))×Int)->Option Out:=rawIter (fun w v=>B0 k w (Q0 k a1) a1 v) k
theorem s0_eq (k:Nat) (a1:Arg):s0 k a1=r0 k a1:=
 funext fun v402=>iter_raw _ _ _ (T0 a1) _ (fun rec v=>by kernel_rfl) k v402
noncomputable def p (l0:((List (List UInt8))×Int)->Option Out) (a1:Arg):Option Out:=l0 (([]:List (List UInt8)),(0:Int))
theorem raw_eq (k:Nat) (a1:Arg):@Eq (Option Out) (D.W k a1) (p (r0 k a1) a1):=
 Eq.trans (b:=p (s0 k a1) a1) (by kernel_rfl) (by rw[s0_eq])
theorem ok:Ok prog 118 D.sig:=fd_ok func118 tlOk (by kernel_rfl) (fc impl_copied.ok (fn_nil _))
end impl_copies
namespace impl_deskOf
abbrev Arg:Type:=(List (List UInt8))×Unit
abbrev Out:Type:=L7Work×Unit
abbrev ps:PQ:=[(.ro,(.slc (.slc u8)))]
noncomputable def D:FD:={ fn:=f89,tl:=TL0,ps:=ps,rs:=[((.ptr tL7Work),(ownMd (.ptr tL7Work)))],gl:=[(118,impl_copies.D.sig)] }
noncomputable def sem (a:Arg):Option Out:=@lift Out fun k=>D.W k a
noncomputable def p (a1:Arg):Option Out:=(impl_copies.sem (a1.1,())).bind fun r2=>some ((r2.1,([]:List Edit),()),())
theorem raw_eq (k:Nat) (a1:Arg):@Eq (Option Out) (D.W k a1) (p a1):=by kernel_rfl
theorem ok:Ok prog 89 D.sig:=fd_ok func89 tlOk (by kernel_rfl) (fc impl_copies.ok (fn_nil _))
end impl_deskOf
namespace impl_desk_result
abbrev Arg:Type:=L7Work×Unit
abbrev Out:Type:=EditsResult×Unit
abbrev ps:PQ:=[(.eat (ownMd tL7Work),tL7Work)]
noncomputable def D:FD:={ fn:=f111,tl:=TL0,ps:=ps,rs:=[(tEditsResult,(ownMd tEditsResult))],fz:=[(1,3,7),(1,7,7)],od:=[(1,[0,1,2,3,4,5,6,7,8,9])] }
noncomputable def sem (a:Arg):Option Out:=@lift Out fun k=>D.W k a
noncomputable def p (a1:Arg):Option Out:=some (((0:Int),a1.1.2.1,a1.1.1,()),())
theorem raw_eq (k:Nat) (a1:Arg):@Eq (Option Out) (D.W k a1) (p a1):=by kernel_rfl
theorem ok:Ok prog 111 D.sig:=fd_ok func111 tlOk (by kernel_rfl) (fn_nil _)
end impl_desk_result
namespace impl_desk_done
abbrev Arg:Type:=L7Work×Bool×Unit
abbrev Out:Type:=EditsResult×Unit
abbrev ps:PQ:=[(.eat (ownMd tL7Work),tL7Work),(.ro,.bool)]
noncomputable def D:FD:={ fn:=f90,tl:=TL0,ps:=ps,rs:=[(tEditsResult,(ownMd tEditsResult))],gl:=[(111,impl_desk_result.D.sig)] }
noncomputable def sem (a:Arg):Option Out:=@lift Out fun k=>D.W k a
noncomputable def p (a1:Arg):Option Out:=bif !a1.2.1 then (some (((9:Int),([]:List Edit),([]:List (List UInt8)),()),())) else (impl_desk_result.sem (a1.1,())).bind fun r2=>some (r2.1,())
theorem raw_eq (k:Nat) (a1:Arg):@Eq (Option Out) (D.W k a1) (p a1):=by kernel_rfl
theorem ok:Ok prog 90 D.sig:=fd_ok func90 tlOk (by kernel_rfl) (fc impl_desk_result.ok (fn_nil _))
end impl_desk_done
namespace impl_cellFault
abbrev Arg:Type:=(List UInt8)×(List UInt8)×Unit
abbrev Out:Type:=Int×Unit
abbrev ps:PQ:=[(.ro,(.slc u8)),(.ro,(.slc u8))]
noncomputable def D:FD:={ fn:=f359,tl:=TL0,ps:=ps,rs:=[(i64,(roMd i64))],gl:=[(187,impl_PageFault.D.sig)] }
noncomputable def sem (a:Arg):Option Out:=@lift Out fun k=>D.W k a
noncomputable def p (a1:Arg):Option Out:=(impl_PageFault.sem (a1.1,())).bind fun r2=>bif !decide (r2.1=(0:Int)) then (some (r2.1,())) else bif decide ((a1.2.1.length:Int) < (1:Int)) then (some ((1:Int),())) else bif decide ((20:Int) < (a1.2.1.length:Int)) then (some ((1:Int),())) else some ((0:Int),())
theorem raw_eq (k:Nat) (a1:Arg):@Eq (Option Out) (D.W k a1) (p a1):=by kernel_rfl
theorem ok:Ok prog 359 D.sig:=fd_ok func359 tlOk (by kernel_rfl) (fc impl_PageFault.ok (fn_nil _))
end impl_cellFault
namespace impl_freeIn
abbrev Arg:Type:=(List UInt8)×Unit
abbrev Out:Type:=Int×Unit
abbrev ps:PQ:=[(.ro,(.slc u8))]
noncomputable def D:FD:={ fn:=f360,tl:=TL0,ps:=ps,rs:=[(i64,(roMd i64))],gl:=[(188,impl_slots.D.sig),(286,impl_spot.D.sig)],lv:=[(3,[0,3,12,13])],lx:=[(0,[3])] }
noncomputable def sem (a:Arg):Option Out:=@lift Out fun k=>D.W k a
noncomputable def T0 (a1:Arg) (c405:Int) (v404:Int×Int):St:={ n:=27,sl:=[(0,.val (.slc u8) a1.1),(3,.val i64 v404.1),(12,.val i64 c405),(13,.val i64 v404.2)],vr:=[],lent:=[] }
noncomputable def b0 (self:(Int×Int)->Option Out) (e0:Int->Option Out) (a1:Arg) (c405:Int) (v404:Int×Int):Option Out:=bif decide (v404.2 < c405) then ((impl_spot.sem (a1.1,v404.2,())).bind fun r606=>self (w64 (v404.1 - r606.2.1),w64 (v404.2+(1:Int)))) else e0 v404.1
noncomputable abbrev B0 (_:Nat):=b0
noncomputable def q0 (a1:Arg) (c405:Int) (z607:Int):Option Out:=some (z607,())
noncomputable abbrev Q0 (_:Nat):=q0
noncomputable def s0 (k:Nat) (a1:Arg):Int->(Int×Int)->Option Out:=fun c405=>fun v404=>D.L k [1,1,0,1,0,0] [0,3,12,13] [] (blockC 0 (seqC (D.N k [1,1,1]) D.K0)) (T0 a1 c405 v404)
noncomputable def r0 (k:Nat) (a1:Arg):Int->(Int×Int)->Option Out:=fun c405=>rawIter (fun w v=>B0 k w (Q0 k a1 c405) a1 c405 v) k
theorem s0_eq (k:Nat) (a1:Arg):s0 k a1=r0 k a1:=
 funext fun c405=>funext fun v404=>iter_raw _ _ _ (T0 a1 c405) _ (fun rec v=>by kernel_rfl) k v404
noncomputable def p (l0:Int->(Int×Int)->Option Out) (a1:Arg):Option Out:=(impl_slots.sem (a1.1,())).bind fun r2=>(impl_slots.sem (a1.1,())).bind fun r3=>l0 r3.1 (w64 ((62:Int) - (w64 ((2:Int)*r2.1))),(0:Int))
theorem raw_eq (k:Nat) (a1:Arg):@Eq (Option Out) (D.W k a1) (p (r0 k a1) a1):=
 Eq.trans (b:=p (s0 k a1) a1) (by kernel_rfl) (by rw[s0_eq])
theorem ok:Ok prog 360 D.sig:=fd_ok func360 tlOk (by kernel_rfl) (fc impl_slots.ok (fc impl_spot.ok (fn_nil _)))
end impl_freeIn
namespace impl_write
abbrev Arg:Type:=(List UInt8)×Int×Int×(List UInt8)×Unit
abbrev Out:Type:=(List UInt8)×Unit
abbrev ps:PQ:=[(.ro,(.slc u8)),(.ro,i64),(.ro,i64),(.ro,(.slc u8))]
noncomputable def D:FD:={ fn:=f361,tl:=TL0,ps:=ps,rs:=[((.slc u8),(ownMd (.slc u8)))],gl:=[(120,impl_copied.D.sig)] }
noncomputable def sem (a:Arg):Option Out:=@lift Out fun k=>D.W k a
noncomputable def p (a1:Arg):Option Out:=(impl_copied.sem (a1.1,())).bind fun r2=>if 0<=a1.2.2.1/\a1.2.2.1<=(r2.1.length:Int) then (let y3:=over r2.1 a1.2.2.1.toNat (min a1.2.2.2.1.length (r2.1.length - a1.2.2.1.toNat)) a1.2.2.2.1;if 0<=w64 ((2:Int)+(w64 ((2:Int)*a1.2.1)))/\w64 ((2:Int)+(w64 ((2:Int)*a1.2.1))) < (y3.length:Int) then ((y3[(w64 ((2:Int)+(w64 ((2:Int)*a1.2.1)))).toNat]?).bind fun x4=>let y5:=y3.set (w64 ((2:Int)+(w64 ((2:Int)*a1.2.1)))).toNat (UInt8.ofInt a1.2.2.1);if 0<=w64 ((3:Int)+(w64 ((2:Int)*a1.2.1)))/\w64 ((3:Int)+(w64 ((2:Int)*a1.2.1))) < (y5.length:Int) then ((y5[(w64 ((3:Int)+(w64 ((2:Int)*a1.2.1)))).toNat]?).bind fun x6=>let y7:=y5.set (w64 ((3:Int)+(w64 ((2:Int)*a1.2.1)))).toNat (UInt8.ofInt (a1.2.2.2.1.length:Int));some (y7,())) else none) else none) else none
theorem raw_eq (k:Nat) (a1:Arg):@Eq (Option Out) (D.W k a1) (p a1):=by kernel_rfl
theorem ok:Ok prog 361 D.sig:=fd_ok func361 tlOk (by kernel_rfl) (fc impl_copied.ok (fn_nil _))
end impl_write
namespace impl_PutSlot
abbrev Arg:Type:=(List UInt8)×(List UInt8)×Unit
abbrev Out:Type:=PageResult×Unit
abbrev ps:PQ:=[(.ro,(.slc u8)),(.ro,(.slc u8))]
noncomputable def D:FD:={ fn:=f289,tl:=TL0,ps:=ps,rs:=[(tPageResult,(ownMd tPageResult))],gl:=[(188,impl_slots.D.sig),(359,impl_cellFault.D.sig),(360,impl_freeIn.D.sig),(361,impl_write.D.sig)],lv:=[(6,[0,1,4,6,7])],lx:=[(0,[0,1,4,6,7])] }
noncomputable def sem (a:Arg):Option Out:=@lift Out fun k=>D.W k a
noncomputable def T0 (a1:Arg) (c405:Int) (v404:Int):St:={ n:=88,sl:=[(0,.val (.slc u8) a1.1),(1,.val (.slc u8) a1.2.1),(4,.box tPageResult (ownMd tPageResult) [] ((0:Int),(0:Int),([]:List UInt8),())),(6,.val i64 c405),(7,.val i64 v404)],vr:=[],lent:=[] }
noncomputable def b0 (self:Int->Option Out) (e0:Int->Option Out) (a1:Arg) (c405:Int) (v404:Int):Option Out:=bif decide (v404 < c405) then (if 0<=w64 ((3:Int)+(w64 ((2:Int)*v404))) then ((a1.1[(w64 ((3:Int)+(w64 ((2:Int)*v404)))).toNat]?).bind fun x606=>bif !decide ((x606.toNat:Int)=(0:Int)) then (self (w64 (v404+(1:Int)))) else e0 v404) else none) else e0 v404
noncomputable abbrev B0 (_:Nat):=b0
noncomputable def q0 (a1:Arg) (c405:Int) (z607:Int):Option Out:=let j616:=fun (p615:Int)=>((impl_freeIn.sem (a1.1,())).bind fun r617=>bif decide (r617.1 < w64 ((a1.2.1.length:Int)+p615)) then (some (((9:Int),(0:Int),([]:List UInt8),()),())) else (a1.1[1]?).bind fun x618=>bif decide (w64 ((w64 (x618.toNat:Int)) - (w64 ((w64 ((2:Int)+(w64 ((2:Int)*c405))))+p615))) < (a1.2.1.length:Int)) then (some (((8:Int),(0:Int),([]:List UInt8),()),())) else (impl_write.sem (a1.1,z607,w64 ((w64 (x618.toNat:Int)) - (a1.2.1.length:Int)),a1.2.1,())).bind fun r619=>if 0<=(0:Int)/\(0:Int) < (r619.1.length:Int) then ((r619.1[0]?).bind fun x620=>let y621:=r619.1.set 0 (UInt8.ofInt (w64 (c405+(w64 (p615.tdiv (2:Int))))));if 0<=(1:Int)/\(1:Int) < (y621.length:Int) then ((y621[1]?).bind fun x622=>let y623:=y621.set 1 (UInt8.ofInt (w64 ((w64 (x618.toNat:Int)) - (a1.2.1.length:Int))));some (((0:Int),z607,y623,()),())) else none) else none:Option Out);bif decide (z607=c405) then (bif decide (c405=(16:Int)) then (some (((2:Int),(0:Int),([]:List UInt8),()),())) else j616 (2:Int)) else j616 (0:Int)
noncomputable abbrev Q0 (_:Nat):=q0
noncomputable def s0 (k:Nat) (a1:Arg):Int->(Int)->Option Out:=fun c405=>fun v404=>D.L k [1,1,1,1,0,0,0] [0,1,4,6,7] [] (blockC 0 (seqC (D.N k [1,1,1,1,1]) D.K0)) (T0 a1 c405 v404)
noncomputable def r0 (k:Nat) (a1:Arg):Int->(Int)->Option Out:=fun c405=>rawIter (fun w v=>B0 k w (Q0 k a1 c405) a1 c405 v) k
theorem s0_eq (k:Nat) (a1:Arg):s0 k a1=r0 k a1:=
 funext fun c405=>funext fun v404=>iter_raw _ _ _ (T0 a1 c405) _ (fun rec v=>by kernel_rfl) k v404
noncomputable def p (l0:Int->(Int)->Option Out) (a1:Arg):Option Out:=(impl_cellFault.sem (a1.1,a1.2.1,())).bind fun r2=>bif !decide (r2.1=(0:Int)) then (some ((r2.1,(0:Int),([]:List UInt8),()),())) else (impl_slots.sem (a1.1,())).bind fun r3=>l0 r3.1 (0:Int)
theorem raw_eq (k:Nat) (a1:Arg):@Eq (Option Out) (D.W k a1) (p (r0 k a1) a1):=
 Eq.trans (b:=p (s0 k a1) a1) (by kernel_rfl) (by rw[s0_eq])
theorem ok:Ok prog 289 D.sig:=fd_ok func289 tlOk (by kernel_rfl) (fc impl_slots.ok (fc impl_cellFault.ok (fc impl_freeIn.ok (fc impl_write.ok (fn_nil _)))))
end impl_PutSlot
namespace impl_desk_edit
abbrev Arg:Type:=L7Work×Int×(List UInt8)×Unit
abbrev Out:Type:=L7Work×Unit
abbrev ps:PQ:=[(.mutp (ownMd tL7Work),tL7Work),(.ro,i64),(.ro,(.slc u8))]
noncomputable def D:FD:={ fn:=f291,tl:=TL0,ps:=ps,rs:=[],gl:=[(120,impl_copied.D.sig)],es:=[0],od:=[(1,[0,1,2,3,4,5,6,7,8,9,10,11]),(2,[0,1,2,3,4,5,6,7,8,9,10]),(3,[0,1,2,3,4,5,6,7,8]),(4,[0,1,2,3,4,5,6,7,8,9,10,11,12,13])] }
noncomputable def sem (a:Arg):Option Out:=@lift Out fun k=>D.W k a
noncomputable def p (a1:Arg):Option Out:=let j9:=fun (p8:L7Work)=>((impl_copied.sem (a1.2.2.1,())).bind fun r10=>if p8.2.1.length+[(a1.2.1,r10.1,())].length<=CAP then (some ((p8.1,p8.2.1++[(a1.2.1,r10.1,())],p8.2.2),())) else none:Option Out);bif decide (a1.2.1=(a1.1.1.length:Int)) then ((impl_copied.sem (a1.2.2.1,())).bind fun r2=>if a1.1.1.length+[r2.1].length<=CAP then (j9 (a1.1.1++[r2.1],a1.1.2)) else none) else if 0<=a1.2.1/\a1.2.1 < (a1.1.1.length:Int) then ((a1.1.1[a1.2.1.toNat]?).bind fun x3=>(a1.1.1[a1.2.1.toNat]?).bind fun x4=>bif decide (x4=a1.2.2.1) then (some (a1.1,())) else (impl_copied.sem (a1.2.2.1,())).bind fun r5=>if 0<=a1.2.1/\a1.2.1 < (a1.1.1.length:Int) then ((a1.1.1[a1.2.1.toNat]?).bind fun x6=>j9 (a1.1.1.set a1.2.1.toNat r5.1,a1.1.2)) else none) else none
theorem raw_eq (k:Nat) (a1:Arg):@Eq (Option Out) (D.W k a1) (p a1):=by kernel_rfl
theorem ok:Ok prog 291 D.sig:=fd_ok func291 tlOk (by kernel_rfl) (fc impl_copied.ok (fn_nil _))
end impl_desk_edit
namespace impl_CompactPage
abbrev Arg:Type:=(List UInt8)×Unit
abbrev Out:Type:=PageResult×Unit
abbrev ps:PQ:=[(.ro,(.slc u8))]
noncomputable def D:FD:={ fn:=f362,tl:=TL0,ps:=ps,rs:=[(tPageResult,(ownMd tPageResult))],gl:=[(187,impl_PageFault.D.sig),(188,impl_slots.D.sig),(189,impl_hasSlot.D.sig),(191,impl_cellAt.D.sig)],lv:=[(9,[0,2,5,6,25,26])],lx:=[(0,[2,5,6]),(1,[0,2,5,6,25,26])] }
noncomputable def sem (a:Arg):Option Out:=@lift Out fun k=>D.W k a
noncomputable def T0 (a1:Arg) (c406:Int) (v405:(List UInt8)×Int×Int):St:={ n:=59,sl:=[(0,.val (.slc u8) a1.1),(2,.box tPageResult (ownMd tPageResult) [] ((0:Int),(0:Int),([]:List UInt8),())),(5,.own (.slc u8) (ownMd (.slc u8)) [] v405.1),(6,.val i64 v405.2.1),(25,.val i64 c406),(26,.val i64 v405.2.2)],vr:=[],lent:=[] }
noncomputable def b0 (self:((List UInt8)×Int×Int)->Option Out) (e0:((List UInt8)×Int)->Option Out) (a1:Arg) (c406:Int) (v405:(List UInt8)×Int×Int):Option Out:=bif decide (v405.2.2 < c406) then ((impl_hasSlot.sem (a1.1,v405.2.2,())).bind fun r607=>bif !r607.1 then (self (v405.1,v405.2.1,w64 (v405.2.2+(1:Int)))) else (impl_cellAt.sem (a1.1,v405.2.2,())).bind fun r608=>if 0<=w64 (v405.2.1 - (r608.1.length:Int))/\w64 (v405.2.1 - (r608.1.length:Int))<=(v405.1.length:Int) then (let y609:=over v405.1 (w64 (v405.2.1 - (r608.1.length:Int))).toNat (min r608.1.length (v405.1.length - (w64 (v405.2.1 - (r608.1.length:Int))).toNat)) r608.1;if 0<=w64 ((2:Int)+(w64 ((2:Int)*v405.2.2)))/\w64 ((2:Int)+(w64 ((2:Int)*v405.2.2))) < (y609.length:Int) then ((y609[(w64 ((2:Int)+(w64 ((2:Int)*v405.2.2)))).toNat]?).bind fun x610=>let y611:=y609.set (w64 ((2:Int)+(w64 ((2:Int)*v405.2.2)))).toNat (UInt8.ofInt (w64 (v405.2.1 - (r608.1.length:Int))));self (y611,w64 (v405.2.1 - (r608.1.length:Int)),w64 (v405.2.2+(1:Int)))) else none) else none) else e0 (v405.1,v405.2.1)
noncomputable abbrev B0 (_:Nat):=b0
noncomputable def q0 (a1:Arg) (c406:Int) (z612:((List UInt8)×Int)):Option Out:=if 0<=(1:Int)/\(1:Int) < (z612.1.length:Int) then ((z612.1[1]?).bind fun x613=>some (((0:Int),(0:Int),z612.1.set 1 (UInt8.ofInt z612.2),()),())) else none
noncomputable abbrev Q0 (_:Nat):=q0
noncomputable def s0 (k:Nat) (a1:Arg):Int->((List UInt8)×Int×Int)->Option Out:=fun c406=>fun v405=>D.L k [1,1,1,1,1,1,0,1,0,0] [0,2,5,6,25,26] [] (blockC 0 (seqC (D.N k [1,1,1,1,1,1,1]) D.K0)) (T0 a1 c406 v405)
noncomputable def r0 (k:Nat) (a1:Arg):Int->((List UInt8)×Int×Int)->Option Out:=fun c406=>rawIter (fun w v=>B0 k w (Q0 k a1 c406) a1 c406 v) k
theorem s0_eq (k:Nat) (a1:Arg):s0 k a1=r0 k a1:=
 funext fun c406=>funext fun v405=>iter_raw _ _ _ (T0 a1 c406) _ (fun rec v=>by kernel_rfl) k v405
noncomputable def p (l0:Int->((List UInt8)×Int×Int)->Option Out) (a1:Arg):Option Out:=(impl_PageFault.sem (a1.1,())).bind fun r2=>bif !decide (r2.1=(0:Int)) then (some ((r2.1,(0:Int),([]:List UInt8),()),())) else (impl_slots.sem (a1.1,())).bind fun r3=>if 0<=(64:Int)/\(64:Int)<=(64:Int)/\(64:Int)<=(CAP:Int) then (if 0<=w64 ((2:Int)+(w64 ((2:Int)*r3.1)))/\w64 ((2:Int)+(w64 ((2:Int)*r3.1)))<=(a1.1.length:Int) then (let y4:=over (List.replicate 64 (0:UInt8)) 0 (min ((a1.1.take (w64 ((2:Int)+(w64 ((2:Int)*r3.1)))).toNat).drop 0).length (List.replicate 64 (0:UInt8)).length) ((a1.1.take (w64 ((2:Int)+(w64 ((2:Int)*r3.1)))).toNat).drop 0);l0 r3.1 (y4,(64:Int),(0:Int))) else none) else none
theorem raw_eq (k:Nat) (a1:Arg):@Eq (Option Out) (D.W k a1) (p (r0 k a1) a1):=
 Eq.trans (b:=p (s0 k a1) a1) (by kernel_rfl) (by rw[s0_eq])
theorem ok:Ok prog 362 D.sig:=fd_ok func362 tlOk (by kernel_rfl) (fc impl_PageFault.ok (fc impl_slots.ok (fc impl_hasSlot.ok (fc impl_cellAt.ok (fn_nil _)))))
end impl_CompactPage
namespace impl_desk_compact
abbrev Arg:Type:=L7Work×Int×Unit
abbrev Out:Type:=L7Work×Unit
abbrev ps:PQ:=[(.mutp (ownMd tL7Work),tL7Work),(.ro,i64)]
noncomputable def D:FD:={ fn:=f290,tl:=TL0,ps:=ps,rs:=[],gl:=[(291,impl_desk_edit.D.sig),(362,impl_CompactPage.D.sig)],es:=[0] }
noncomputable def sem (a:Arg):Option Out:=@lift Out fun k=>D.W k a
noncomputable def p (a1:Arg):Option Out:=if 0<=a1.2.1/\a1.2.1 < (a1.1.1.length:Int) then ((a1.1.1[a1.2.1.toNat]?).bind fun x2=>(a1.1.1[a1.2.1.toNat]?).bind fun x3=>(impl_CompactPage.sem (x3,())).bind fun r4=>(impl_desk_edit.sem (a1.1,a1.2.1,r4.1.2.2.1,())).bind fun r5=>some (r5.1,())) else none
theorem raw_eq (k:Nat) (a1:Arg):@Eq (Option Out) (D.W k a1) (p a1):=by kernel_rfl
theorem ok:Ok prog 290 D.sig:=fd_ok func290 tlOk (by kernel_rfl) (fc impl_desk_edit.ok (fc impl_CompactPage.ok (fn_nil _)))
end impl_desk_compact
namespace impl_newPage
abbrev Arg:Type:=UInt8×Unit
abbrev Out:Type:=(List UInt8)×Unit
abbrev ps:PQ:=[(.ro,u8)]
noncomputable def D:FD:={ fn:=f292,tl:=TL0,ps:=ps,rs:=[((.slc u8),(ownMd (.slc u8)))],lv:=[(3,[0,3,7,8])],lx:=[(0,[3])] }
noncomputable def sem (a:Arg):Option Out:=@lift Out fun k=>D.W k a
noncomputable def T0 (a1:Arg) (v402:(List UInt8)×Int):St:={ n:=21,sl:=[(0,.val u8 a1.1),(3,.own (.slc u8) (ownMd (.slc u8)) [] v402.1),(7,.val i64 ((List.replicate 64 (0:UInt8)).length:Int)),(8,.val i64 v402.2)],vr:=[],lent:=[] }
noncomputable def b0 (self:((List UInt8)×Int)->Option Out) (e0:(List UInt8)->Option Out) (a1:Arg) (v402:(List UInt8)×Int):Option Out:=bif decide (v402.2 < ((List.replicate 64 (0:UInt8)).length:Int)) then (if 0<=v402.2/\v402.2 < (v402.1.length:Int) then ((v402.1[v402.2.toNat]?).bind fun x603=>self (v402.1.set v402.2.toNat a1.1,w64 (v402.2+(1:Int)))) else none) else e0 v402.1
noncomputable abbrev B0 (_:Nat):=b0
noncomputable def q0 (a1:Arg) (z604:(List UInt8)):Option Out:=if 0<=(0:Int)/\(0:Int) < (z604.length:Int) then ((z604[0]?).bind fun x605=>if 0<=(1:Int)/\(1:Int) < ((z604.set 0 (0:UInt8)).length:Int) then (((z604.set 0 (0:UInt8))[1]?).bind fun x606=>let y607:=(z604.set 0 (0:UInt8)).set 1 (64:UInt8);some (y607,())) else none) else none
noncomputable abbrev Q0 (_:Nat):=q0
noncomputable def s0 (k:Nat) (a1:Arg):((List UInt8)×Int)->Option Out:=fun v402=>D.L k [1,1,0,1,0,0] [0,3,7,8] [] (blockC 0 (seqC (D.N k [1,1,1]) D.K0)) (T0 a1 v402)
noncomputable def r0 (k:Nat) (a1:Arg):((List UInt8)×Int)->Option Out:=rawIter (fun w v=>B0 k w (Q0 k a1) a1 v) k
theorem s0_eq (k:Nat) (a1:Arg):s0 k a1=r0 k a1:=
 funext fun v402=>iter_raw _ _ _ (T0 a1) _ (fun rec v=>by kernel_rfl) k v402
noncomputable def p (l0:((List UInt8)×Int)->Option Out) (a1:Arg):Option Out:=if 0<=(64:Int)/\(64:Int)<=(64:Int)/\(64:Int)<=(CAP:Int) then (l0 (List.replicate 64 (0:UInt8),(0:Int))) else none
theorem raw_eq (k:Nat) (a1:Arg):@Eq (Option Out) (D.W k a1) (p (r0 k a1) a1):=
 Eq.trans (b:=p (s0 k a1) a1) (by kernel_rfl) (by rw[s0_eq])
theorem ok:Ok prog 292 D.sig:=fd_ok func292 tlOk (by kernel_rfl) (fn_nil _)
end impl_newPage
namespace impl_desk_place
abbrev Arg:Type:=L7Work×(List UInt8)×Int×Unit
abbrev Out:Type:=Int×Int×Bool×L7Work×Unit
abbrev ps:PQ:=[(.mutp (ownMd tL7Work),tL7Work),(.ro,(.slc u8)),(.ro,i64)]
noncomputable def D:FD:={ fn:=f193,tl:=TL0,ps:=ps,rs:=[(i64,(roMd i64)),(i64,(roMd i64)),(.bool,(roMd .bool))],gl:=[(289,impl_PutSlot.D.sig),(290,impl_desk_compact.D.sig),(291,impl_desk_edit.D.sig),(292,impl_newPage.D.sig)],es:=[0],lv:=[(2,[0,1,2,16,17])],lx:=[(0,[0,1]),(1,[0,1,2,16,17])],od:=[(11,[0,1,2,3,4,5]),(16,[0,1,2,3,4,5,6,7,8]),(17,[0,1,2,3,4,5,6,7,8,9,10])] }
noncomputable def sem (a:Arg):Option Out:=@lift Out fun k=>D.W k a
noncomputable def T0 (a1:Arg) (v402:L7Work×Int):St:={ n:=85,sl:=[(0,.box tL7Work (ownMd tL7Work) [] v402.1),(1,.val (.slc u8) a1.2.1),(2,.val i64 a1.2.2.1),(16,.val i64 (a1.1.1.length:Int)),(17,.val i64 v402.2)],vr:=[],lent:=[(0,0,false)] }
noncomputable def b0 (self:(L7Work×Int)->Option Out) (e0:L7Work->Option Out) (a1:Arg) (v402:L7Work×Int):Option Out:=bif decide (v402.2 < (a1.1.1.length:Int)) then (bif decide (v402.2=a1.2.2.1) then (self (v402.1,w64 (v402.2+(1:Int)))) else if 0<=v402.2/\v402.2 < (v402.1.1.length:Int) then ((v402.1.1[v402.2.toNat]?).bind fun x603=>(v402.1.1[v402.2.toNat]?).bind fun x604=>(impl_PutSlot.sem (x604,a1.2.1,())).bind fun r605=>let j613:=fun (p611:L7Work) (p612:PageResult)=>(bif decide (p612.1=(0:Int)) then ((impl_desk_edit.sem (p611,v402.2,p612.2.2.1,())).bind fun r614=>some (v402.2,p612.2.1,true,r614.1,())) else self (p611,w64 (v402.2+(1:Int))):Option Out);bif decide (r605.1.1=(8:Int)) then ((impl_desk_compact.sem (v402.1,v402.2,())).bind fun r606=>if 0<=v402.2/\v402.2 < (r606.1.1.length:Int) then ((r606.1.1[v402.2.toNat]?).bind fun x607=>(r606.1.1[v402.2.toNat]?).bind fun x608=>(impl_PutSlot.sem (x608,a1.2.1,())).bind fun r609=>j613 r606.1 r609.1) else none) else j613 v402.1 r605.1) else none) else e0 v402.1
noncomputable abbrev B0 (_:Nat):=b0
noncomputable def q0 (a1:Arg) (z615:L7Work):Option Out:=bif decide ((z615.1.length:Int)=(12:Int)) then (some ((0:Int),(0:Int),false,z615,())) else (impl_newPage.sem ((0:UInt8),())).bind fun r616=>(impl_PutSlot.sem (r616.1,a1.2.1,())).bind fun r617=>(impl_desk_edit.sem (z615,(z615.1.length:Int),r617.1.2.2.1,())).bind fun r618=>some (w64 ((r618.1.1.length:Int) - (1:Int)),r617.1.2.1,true,r618.1,())
noncomputable abbrev Q0 (_:Nat):=q0
noncomputable def s0 (k:Nat) (a1:Arg):(L7Work×Int)->Option Out:=fun v402=>D.L k [1,0,1,0,0] [0,1,2,16,17] [] (blockC 0 (seqC (D.N k [1,1]) D.K0)) (T0 a1 v402)
noncomputable def r0 (k:Nat) (a1:Arg):(L7Work×Int)->Option Out:=rawIter (fun w v=>B0 k w (Q0 k a1) a1 v) k
theorem s0_eq (k:Nat) (a1:Arg):s0 k a1=r0 k a1:=
 funext fun v402=>iter_raw _ _ _ (T0 a1) _ (fun rec v=>by kernel_rfl) k v402
noncomputable def p (l0:(L7Work×Int)->Option Out) (a1:Arg):Option Out:=l0 (a1.1,(0:Int))
theorem raw_eq (k:Nat) (a1:Arg):@Eq (Option Out) (D.W k a1) (p (r0 k a1) a1):=
 Eq.trans (b:=p (s0 k a1) a1) (by kernel_rfl) (by rw[s0_eq])
theorem ok:Ok prog 193 D.sig:=fd_ok func193 tlOk (by kernel_rfl) (fc impl_PutSlot.ok (fc impl_desk_compact.ok (fc impl_desk_edit.ok (fc impl_newPage.ok (fn_nil _)))))
end impl_desk_place
namespace impl_cell
abbrev Arg:Type:=Int×Row×Unit
abbrev Out:Type:=(List UInt8)×Unit
abbrev ps:PQ:=[(.ro,i64),(.ro,tRow)]
noncomputable def D:FD:={ fn:=f194,tl:=TL0,ps:=ps,rs:=[((.slc u8),(ownMd (.slc u8)))] }
noncomputable def sem (a:Arg):Option Out:=@lift Out fun k=>D.W k a
noncomputable def p (a1:Arg):Option Out:=if [UInt8.ofInt a1.1,UInt8.ofInt a1.2.1.1,UInt8.ofInt a1.2.1.2.1,UInt8.ofInt (a1.2.1.2.2.1.fdiv (2 ^ 8)),UInt8.ofInt a1.2.1.2.2.1,UInt8.ofInt (a1.2.1.2.2.2.1.length:Int)].length+a1.2.1.2.2.2.1.length<=CAP then (let y2:=[UInt8.ofInt a1.1,UInt8.ofInt a1.2.1.1,UInt8.ofInt a1.2.1.2.1,UInt8.ofInt (a1.2.1.2.2.1.fdiv (2 ^ 8)),UInt8.ofInt a1.2.1.2.2.1,UInt8.ofInt (a1.2.1.2.2.2.1.length:Int)]++a1.2.1.2.2.2.1;some (y2,())) else none
theorem raw_eq (k:Nat) (a1:Arg):@Eq (Option Out) (D.W k a1) (p a1):=by kernel_rfl
theorem ok:Ok prog 194 D.sig:=fd_ok func194 tlOk (by kernel_rfl) (fn_nil _)
end impl_cell
namespace impl_desk_insert
abbrev Arg:Type:=L7Work×Row×Unit
abbrev Out:Type:=Bool×L7Work×Unit
abbrev ps:PQ:=[(.mutp (ownMd tL7Work),tL7Work),(.ro,tRow)]
noncomputable def D:FD:={ fn:=f91,tl:=TL0,ps:=ps,rs:=[(.bool,(roMd .bool))],gl:=[(193,impl_desk_place.D.sig),(194,impl_cell.D.sig)],es:=[0] }
noncomputable def sem (a:Arg):Option Out:=@lift Out fun k=>D.W k a
noncomputable def p (a1:Arg):Option Out:=(impl_cell.sem ((0:Int),a1.2.1,())).bind fun r2=>(impl_desk_place.sem (a1.1,r2.1,(-1:Int),())).bind fun r3=>some (r3.2.2.1,r3.2.2.2.1,())
theorem raw_eq (k:Nat) (a1:Arg):@Eq (Option Out) (D.W k a1) (p a1):=by kernel_rfl
theorem ok:Ok prog 91 D.sig:=fd_ok func91 tlOk (by kernel_rfl) (fc impl_desk_place.ok (fc impl_cell.ok (fn_nil _)))
end impl_desk_insert
namespace impl_InsertEdits
abbrev Arg:Type:=(List (List UInt8))×Row×Unit
abbrev Out:Type:=EditsResult×Unit
abbrev ps:PQ:=[(.ro,(.slc (.slc u8))),(.ro,tRow)]
noncomputable def D:FD:={ fn:=f15,tl:=TL0,ps:=ps,rs:=[(tEditsResult,(ownMd tEditsResult))],gl:=[(86,impl_view.D.sig),(87,impl_RowFault.D.sig),(88,impl_find.D.sig),(89,impl_deskOf.D.sig),(90,impl_desk_done.D.sig),(91,impl_desk_insert.D.sig)] }
noncomputable def sem (a:Arg):Option Out:=@lift Out fun k=>D.W k a
noncomputable def p (a1:Arg):Option Out:=(impl_view.sem (a1.1,())).bind fun r2=>let j9:=fun (p8:Int)=>(bif !decide (p8=(0:Int)) then (some ((p8,([]:List Edit),([]:List (List UInt8)),()),())) else (impl_find.sem (r2.1,a1.2.1.1,a1.2.1.2.1,())).bind fun r10=>bif r10.2.1 then (some (((6:Int),([]:List Edit),([]:List (List UInt8)),()),())) else (impl_deskOf.sem (a1.1,())).bind fun r11=>(impl_desk_insert.sem (r11.1,a1.2.1,())).bind fun r12=>(impl_desk_done.sem (r12.2.1,r12.1,())).bind fun r13=>some (r13.1,()):Option Out);bif decide (r2.2.1=(0:Int)) then ((impl_RowFault.sem (a1.2.1,())).bind fun r3=>j9 r3.1) else j9 r2.2.1
theorem raw_eq (k:Nat) (a1:Arg):@Eq (Option Out) (D.W k a1) (p a1):=by kernel_rfl
theorem ok:Ok prog 15 D.sig:=fd_ok func15 tlOk (by kernel_rfl) (fc impl_view.ok (fc impl_RowFault.ok (fc impl_find.ok (fc impl_deskOf.ok (fc impl_desk_done.ok (fc impl_desk_insert.ok (fn_nil _)))))))
end impl_InsertEdits
namespace spec_l2Slot
abbrev Arg:Type:=(List UInt8)×Int×Unit
abbrev Out:Type:=Bool×Unit
abbrev ps:PQ:=[(.ro,(.slc u8)),(.ro,i64)]
noncomputable def D:FD:={ fn:=f363,tl:=TL0,ps:=ps,rs:=[(.bool,(roMd .bool))],gl:=[(295,spec_l2Size.D.sig),(355,spec_l2Low.D.sig),(366,spec_l2Place.D.sig)] }
noncomputable def sem (a:Arg):Option Out:=@lift Out fun k=>D.W k a
noncomputable def p (a1:Arg):Option Out:=(spec_l2Place.sem (a1.1,a1.2.1,())).bind fun r2=>(spec_l2Size.sem (a1.1,a1.2.1,())).bind fun r3=>bif decide (r2.1=(0:Int)) then (some (decide (r2.1=r3.1),())) else bif decide (r3.1=(0:Int)) then (some (decide (r2.1=r3.1),())) else (spec_l2Low.sem (a1.1,())).bind fun r4=>bif decide (r4.1<=r2.1) then (some (decide (w64 (r2.1+r3.1)<=(64:Int)),())) else some (false,())
theorem raw_eq (k:Nat) (a1:Arg):@Eq (Option Out) (D.W k a1) (p a1):=by kernel_rfl
theorem ok:Ok prog 363 D.sig:=fd_ok func363 tlOk (by kernel_rfl) (fc spec_l2Size.ok (fc spec_l2Low.ok (fc spec_l2Place.ok (fn_nil _))))
end spec_l2Slot
namespace spec_l2Apart
abbrev Arg:Type:=(List UInt8)×Int×Int×Unit
abbrev Out:Type:=Bool×Unit
abbrev ps:PQ:=[(.ro,(.slc u8)),(.ro,i64),(.ro,i64)]
noncomputable def D:FD:={ fn:=f364,tl:=TL0,ps:=ps,rs:=[(.bool,(roMd .bool))],gl:=[(295,spec_l2Size.D.sig),(366,spec_l2Place.D.sig)] }
noncomputable def sem (a:Arg):Option Out:=@lift Out fun k=>D.W k a
noncomputable def p (a1:Arg):Option Out:=(spec_l2Size.sem (a1.1,a1.2.1,())).bind fun r2=>bif decide (r2.1=(0:Int)) then (some (true,())) else (spec_l2Size.sem (a1.1,a1.2.2.1,())).bind fun r3=>bif decide (r3.1=(0:Int)) then (some (true,())) else (spec_l2Place.sem (a1.1,a1.2.1,())).bind fun r4=>(spec_l2Size.sem (a1.1,a1.2.1,())).bind fun r5=>(spec_l2Place.sem (a1.1,a1.2.2.1,())).bind fun r6=>bif decide (w64 (r4.1+r5.1)<=r6.1) then (some (true,())) else (spec_l2Place.sem (a1.1,a1.2.2.1,())).bind fun r7=>(spec_l2Size.sem (a1.1,a1.2.2.1,())).bind fun r8=>(spec_l2Place.sem (a1.1,a1.2.1,())).bind fun r9=>some (decide (w64 (r7.1+r8.1)<=r9.1),())
theorem raw_eq (k:Nat) (a1:Arg):@Eq (Option Out) (D.W k a1) (p a1):=by kernel_rfl
theorem ok:Ok prog 364 D.sig:=fd_ok func364 tlOk (by kernel_rfl) (fc spec_l2Size.ok (fc spec_l2Place.ok (fn_nil _)))
end spec_l2Apart
namespace spec_l2Fault
abbrev Arg:Type:=(List UInt8)×Unit
abbrev Out:Type:=Int×Unit
abbrev ps:PQ:=[(.ro,(.slc u8))]
noncomputable def D:FD:={ fn:=f293,tl:=TL0,ps:=ps,rs:=[(i64,(roMd i64))],gl:=[(294,spec_l2Count.D.sig),(295,spec_l2Size.D.sig),(355,spec_l2Low.D.sig),(363,spec_l2Slot.D.sig),(364,spec_l2Apart.D.sig)],lv:=[(7,[0,3,4]),(12,[0,3,5]),(15,[0,3,5,6])],lx:=[(0,[0,3]),(2,[0,3]),(4,[0,3,5])] }
noncomputable def sem (a:Arg):Option Out:=@lift Out fun k=>D.W k a
noncomputable def T0 (a1:Arg) (c406:Int) (v405:Int):St:={ n:=60,sl:=[(0,.val (.slc u8) a1.1),(3,.val i64 c406),(4,.val i64 v405)],vr:=[],lent:=[] }
noncomputable def S0 (rec:RT Out) (a1:Arg) (c406:Int):(Int)->Option Out:=fun v405=>rec (T0 a1 c406 v405)
noncomputable def X0_0 (K:KT Out) (a1:Arg) (c406:Int):(Unit)->Option Out:=fun z=>K (.exit 0) ({ n:=60,sl:=[(0,.val (.slc u8) a1.1),(3,.val i64 c406)],vr:=[],lent:=[] })
noncomputable def b0 (self:Int->Option Out) (e0:(Unit)->Option Out) (a1:Arg) (c406:Int) (v405:Int):Option Out:=bif decide (v405 < c406) then ((spec_l2Slot.sem (a1.1,v405,())).bind fun r607=>bif !r607.1 then (some ((3:Int),())) else self (w64 (v405+(1:Int)))) else e0 ()
noncomputable abbrev B0 (_:Nat):=b0
theorem B0_eq (k:Nat) (rec:RT Out) (K:KT Out) (a1:Arg) (c406:Int) (v405:Int):D.N k [1,1,1,1,0,1,0,0] (T0 a1 c406 v405) (loopC rec (keepF [0,3,4] []) K)=b0 (S0 rec a1 c406) (X0_0 K a1 c406) a1 c406 v405:=by kernel_rfl
noncomputable def T1 (a1:Arg) (v1009:(List UInt8)×Int×Int):St:={ n:=60,sl:=[(0,.val (.slc u8) v1009.1),(3,.val i64 v1009.2.1),(5,.val i64 v1009.2.2)],vr:=[],lent:=[] }
noncomputable def S1 (rec:RT Out) (a1:Arg):((List UInt8)×Int×Int)->Option Out:=fun v1009=>rec (T1 a1 v1009)
noncomputable def X1_2 (K:KT Out) (a1:Arg):((List UInt8)×Int)->Option Out:=fun z=>K (.exit 2) ({ n:=60,sl:=[(0,.val (.slc u8) z.1),(3,.val i64 z.2)],vr:=[],lent:=[] })
noncomputable def T2 (a1:Arg) (c1611:List UInt8) (c1612:Int) (c1613:Int) (v1610:Int):St:={ n:=60,sl:=[(0,.val (.slc u8) c1611),(3,.val i64 c1612),(5,.val i64 c1613),(6,.val i64 v1610)],vr:=[],lent:=[] }
noncomputable def b2 (self:Int->Option Out) (e4:(Unit)->Option Out) (a1:Arg) (c1611:List UInt8) (c1612:Int) (c1613:Int) (v1610:Int):Option Out:=bif decide (v1610 < c1613) then ((spec_l2Apart.sem (c1611,c1613,v1610,())).bind fun r1814=>bif !r1814.1 then (some ((8:Int),())) else self (w64 (v1610+(1:Int)))) else e4 ()
noncomputable abbrev B2 (_:Nat):=b2
noncomputable def q1 (self:((List UInt8)×Int×Int)->Option Out) (e2:((List UInt8)×Int)->Option Out) (a1:Arg) (c1611:List UInt8) (c1612:Int) (c1613:Int) (z1815:(Unit)):Option Out:=self (c1611,c1612,w64 (c1613+(1:Int)))
noncomputable abbrev Q1 (_:Nat):=q1
noncomputable def s2 (k:Nat) (rec:RT Out) (K:KT Out) (a1:Arg):(List UInt8)->Int->Int->(Int)->Option Out:=fun c1611 c1612 c1613=>fun v1610=>D.L k [1,1,1,1,1,0,1,0,0,1,0,0,1,0,0] [0,3,5,6] [] (blockC 4 (blockC 3 (seqC (D.N k [1,1,1,1,1,0,1,0,0,1,1]) (loopC rec (keepF [0,3,5] []) K)))) (T2 a1 c1611 c1612 c1613 v1610)
noncomputable def r2 (k:Nat) (self:((List UInt8)×Int×Int)->Option Out) (e2:((List UInt8)×Int)->Option Out) (a1:Arg):(List UInt8)->Int->Int->(Int)->Option Out:=fun c1611 c1612 c1613=>rawIter (fun w v=>B2 k w (Q1 k self e2 a1 c1611 c1612 c1613) a1 c1611 c1612 c1613 v) k
theorem s2_eq (k:Nat) (rec:RT Out) (K:KT Out) (a1:Arg):s2 k rec K a1=r2 k (S1 rec a1) (X1_2 K a1) a1:=
 funext fun c1611=>funext fun c1612=>funext fun c1613=>funext fun v1610=>iter_raw _ _ _ (T2 a1 c1611 c1612 c1613) _ (fun rec v=>by kernel_rfl) k v1610
noncomputable def b1 (self:((List UInt8)×Int×Int)->Option Out) (e2:((List UInt8)×Int)->Option Out) (l2:(List UInt8)->Int->Int->(Int)->Option Out) (a1:Arg) (v1009:(List UInt8)×Int×Int):Option Out:=bif decide (v1009.2.2 < v1009.2.1) then (l2 v1009.1 v1009.2.1 v1009.2.2 (0:Int)) else e2 (v1009.1,v1009.2.1)
noncomputable def B1 (k:Nat) (self:((List UInt8)×Int×Int)->Option Out) (e2:((List UInt8)×Int)->Option Out) (a1:Arg) (v1009:(List UInt8)×Int×Int):Option Out:=b1 self e2 (r2 k self e2 a1) a1 v1009
theorem B1_eq (k:Nat) (rec:RT Out) (K:KT Out) (a1:Arg) (v1009:(List UInt8)×Int×Int):D.N k [1,1,1,1,1,0,1,0,0] (T1 a1 v1009) (loopC rec (keepF [0,3,5] []) K)=B1 k (S1 rec a1) (X1_2 K a1) a1 v1009:=
 Eq.trans (b:=b1 (S1 rec a1) (X1_2 K a1) (s2 k rec K a1) a1 v1009) (by kernel_rfl) (by rw[s2_eq];rfl)
noncomputable def q2 (a1:Arg) (z1816:((List UInt8)×Int)):Option Out:=bif decide ((0:Int) < z1816.2) then ((spec_l2Size.sem (z1816.1,w64 (z1816.2 - (1:Int)),())).bind fun r1817=>bif decide (r1817.1=(0:Int)) then (some ((8:Int),())) else some ((0:Int),())) else some ((0:Int),())
noncomputable abbrev Q2 (_:Nat):=q2
theorem Q2_eq (k:Nat) (a1:Arg) (z1816:((List UInt8)×Int)):X1_2 (blockC 2 (seqC (D.N k [1,1,1,1,1,1]) D.K0)) a1 z1816=q2 a1 z1816:=by kernel_rfl
noncomputable def s1 (k:Nat) (a1:Arg) (c406:Int):((List UInt8)×Int×Int)->Option Out:=fun v1009=>D.L k [1,1,1,1,1,0,1,0,0] [0,3,5] [] (blockC 2 (seqC (D.N k [1,1,1,1,1,1]) D.K0)) (T1 a1 v1009)
noncomputable def r1 (k:Nat) (a1:Arg) (c406:Int):((List UInt8)×Int×Int)->Option Out:=rawIter (fun w v=>B1 k w (Q2 k a1) a1 v) k
theorem s1_eq (k:Nat) (a1:Arg) (c406:Int):s1 k a1 c406=r1 k a1 c406:=by
 funext v1009;
 have h2:X1_2 (blockC 2 (seqC (D.N k [1,1,1,1,1,1]) D.K0)) a1=Q2 k a1:=funext fun z=>Q2_eq k a1 z
 refine (iter_raw _ _ _ (T1 a1) (fun self v=>B1 k self (X1_2 (blockC 2 (seqC (D.N k [1,1,1,1,1,1]) D.K0)) a1) a1 v) (fun rec v=>B1_eq k rec (blockC 2 (seqC (D.N k [1,1,1,1,1,1]) D.K0)) a1 v) k v1009).trans ?_
 rw[h2]
 rfl
noncomputable def q0 (l1:((List UInt8)×Int×Int)->Option Out) (a1:Arg) (c406:Int) (z608:(Unit)):Option Out:=l1 (a1.1,c406,(0:Int))
noncomputable def Q0 (k:Nat) (a1:Arg) (c406:Int) (z608:(Unit)):Option Out:=q0 (r1 k a1 c406) a1 c406 z608
theorem Q0_eq (k:Nat) (a1:Arg) (c406:Int) (z608:(Unit)):X0_0 (blockC 0 (seqC (D.N k [1,1,1,1,1]) D.K0)) a1 c406 z608=Q0 k a1 c406 z608:=
 Eq.trans (b:=q0 (s1 k a1 c406) a1 c406 z608) (by kernel_rfl) (by rw[s1_eq];rfl)
noncomputable def s0 (k:Nat) (a1:Arg):Int->(Int)->Option Out:=fun c406=>fun v405=>D.L k [1,1,1,1,0,1,0,0] [0,3,4] [] (blockC 0 (seqC (D.N k [1,1,1,1,1]) D.K0)) (T0 a1 c406 v405)
noncomputable def r0 (k:Nat) (a1:Arg):Int->(Int)->Option Out:=fun c406=>rawIter (fun w v=>B0 k w (Q0 k a1 c406) a1 c406 v) k
theorem s0_eq (k:Nat) (a1:Arg):s0 k a1=r0 k a1:=by
 funext c406;funext v405;
 have h0:X0_0 (blockC 0 (seqC (D.N k [1,1,1,1,1]) D.K0)) a1 c406=Q0 k a1 c406:=funext fun z=>Q0_eq k a1 c406 z
 refine (iter_raw _ _ _ (T0 a1 c406) (fun self v=>B0 k self (X0_0 (blockC 0 (seqC (D.N k [1,1,1,1,1]) D.K0)) a1 c406) a1 c406 v) (fun rec v=>B0_eq k rec (blockC 0 (seqC (D.N k [1,1,1,1,1]) D.K0)) a1 c406 v) k v405).trans ?_
 rw[h0]
 rfl
noncomputable def p (l0:Int->(Int)->Option Out) (a1:Arg):Option Out:=bif !decide ((a1.1.length:Int)=(64:Int)) then (some ((1:Int),())) else (spec_l2Count.sem (a1.1,())).bind fun r2=>bif decide ((16:Int) < r2.1) then (some ((3:Int),())) else (spec_l2Low.sem (a1.1,())).bind fun r3=>bif decide (r3.1 < w64 ((2:Int)+(w64 ((2:Int)*r2.1)))) then (some ((3:Int),())) else (spec_l2Low.sem (a1.1,())).bind fun r4=>bif decide ((64:Int) < r4.1) then (some ((3:Int),())) else l0 r2.1 (0:Int)
theorem raw_eq (k:Nat) (a1:Arg):@Eq (Option Out) (D.W k a1) (p (r0 k a1) a1):=
 Eq.trans (b:=p (s0 k a1) a1) (by kernel_rfl) (by rw[s0_eq])
theorem ok:Ok prog 293 D.sig:=fd_ok func293 tlOk (by kernel_rfl) (fc spec_l2Count.ok (fc spec_l2Size.ok (fc spec_l2Low.ok (fc spec_l2Slot.ok (fc spec_l2Apart.ok (fn_nil _))))))
end spec_l2Fault
namespace spec_l6Cells
abbrev Arg:Type:=(List (List UInt8))×Unit
abbrev Out:Type:=Int×Unit
abbrev ps:PQ:=[(.ro,(.slc (.slc u8)))]
noncomputable def D:FD:={ fn:=f195,tl:=TL0,ps:=ps,rs:=[(i64,(roMd i64))],gl:=[(293,spec_l2Fault.D.sig),(294,spec_l2Count.D.sig),(295,spec_l2Size.D.sig),(296,spec_l1Read.D.sig),(297,spec_l2Cell.D.sig)],lv:=[(2,[0,3]),(8,[0,3,5])],lx:=[(0,[]),(2,[0,3])] }
noncomputable def sem (a:Arg):Option Out:=@lift Out fun k=>D.W k a
noncomputable def T0 (a1:Arg) (v402:(List (List UInt8))×Int):St:={ n:=50,sl:=[(0,.val (.slc (.slc u8)) v402.1),(3,.val i64 v402.2)],vr:=[],lent:=[] }
noncomputable def S0 (rec:RT Out) (a1:Arg):((List (List UInt8))×Int)->Option Out:=fun v402=>rec (T0 a1 v402)
noncomputable def X0_0 (K:KT Out) (a1:Arg):(Unit)->Option Out:=fun z=>K (.exit 0) ({ n:=50,sl:=[],vr:=[],lent:=[] })
noncomputable def T1 (a1:Arg) (c1006:List (List UInt8)) (c1007:Int) (v1005:Int):St:={ n:=50,sl:=[(0,.val (.slc (.slc u8)) c1006),(3,.val i64 c1007),(5,.val i64 v1005)],vr:=[],lent:=[] }
noncomputable def b1 (self:Int->Option Out) (e2:(Unit)->Option Out) (a1:Arg) (c1006:List (List UInt8)) (c1007:Int) (v1005:Int):Option Out:=if 0<=c1007 then ((c1006[c1007.toNat]?).bind fun x1208=>(spec_l2Count.sem (x1208,())).bind fun r1209=>bif decide (v1005 < r1209.1) then (if 0<=c1007 then ((c1006[c1007.toNat]?).bind fun x1210=>(spec_l2Size.sem (x1210,v1005,())).bind fun r1211=>bif decide ((0:Int) < r1211.1) then (if 0<=c1007 then ((c1006[c1007.toNat]?).bind fun x1212=>(spec_l2Cell.sem (x1212,v1005,())).bind fun r1213=>(spec_l1Read.sem (r1213.1,())).bind fun r1214=>bif !r1214.2.1 then (some ((5:Int),())) else self (w64 (v1005+(1:Int)))) else none) else self (w64 (v1005+(1:Int)))) else none) else e2 ()) else none
noncomputable abbrev B1 (_:Nat):=b1
noncomputable def q0 (self:((List (List UInt8))×Int)->Option Out) (e0:(Unit)->Option Out) (a1:Arg) (c1006:List (List UInt8)) (c1007:Int) (z1215:(Unit)):Option Out:=self (c1006,w64 (c1007+(1:Int)))
noncomputable abbrev Q0 (_:Nat):=q0
noncomputable def s1 (k:Nat) (rec:RT Out) (K:KT Out) (a1:Arg):(List (List UInt8))->Int->(Int)->Option Out:=fun c1006 c1007=>fun v1005=>D.L k [1,0,1,0,0,1,0,0,1,1,0,0] [0,3,5] [] (blockC 2 (blockC 1 (seqC (D.N k [1,0,1,0,0,1,1]) (loopC rec (keepF [0,3] []) K)))) (T1 a1 c1006 c1007 v1005)
noncomputable def r1 (k:Nat) (self:((List (List UInt8))×Int)->Option Out) (e0:(Unit)->Option Out) (a1:Arg):(List (List UInt8))->Int->(Int)->Option Out:=fun c1006 c1007=>rawIter (fun w v=>B1 k w (Q0 k self e0 a1 c1006 c1007) a1 c1006 c1007 v) k
theorem s1_eq (k:Nat) (rec:RT Out) (K:KT Out) (a1:Arg):s1 k rec K a1=r1 k (S0 rec a1) (X0_0 K a1) a1:=
 funext fun c1006=>funext fun c1007=>funext fun v1005=>iter_raw _ _ _ (T1 a1 c1006 c1007) _ (fun rec v=>by kernel_rfl) k v1005
noncomputable def b0 (self:((List (List UInt8))×Int)->Option Out) (e0:(Unit)->Option Out) (l1:(List (List UInt8))->Int->(Int)->Option Out) (a1:Arg) (v402:(List (List UInt8))×Int):Option Out:=bif decide (v402.2 < (v402.1.length:Int)) then (if 0<=v402.2 then ((v402.1[v402.2.toNat]?).bind fun x603=>(spec_l2Fault.sem (x603,())).bind fun r604=>bif !decide (r604.1=(0:Int)) then (some (r604.1,())) else l1 v402.1 v402.2 (0:Int)) else none) else e0 ()
noncomputable def B0 (k:Nat) (self:((List (List UInt8))×Int)->Option Out) (e0:(Unit)->Option Out) (a1:Arg) (v402:(List (List UInt8))×Int):Option Out:=b0 self e0 (r1 k self e0 a1) a1 v402
theorem B0_eq (k:Nat) (rec:RT Out) (K:KT Out) (a1:Arg) (v402:(List (List UInt8))×Int):D.N k [1,0,1,0,0] (T0 a1 v402) (loopC rec (keepF [0,3] []) K)=B0 k (S0 rec a1) (X0_0 K a1) a1 v402:=
 Eq.trans (b:=b0 (S0 rec a1) (X0_0 K a1) (s1 k rec K a1) a1 v402) (by kernel_rfl) (by rw[s1_eq];rfl)
noncomputable def q1 (a1:Arg) (z1216:(Unit)):Option Out:=some ((0:Int),())
noncomputable abbrev Q1 (_:Nat):=q1
theorem Q1_eq (k:Nat) (a1:Arg) (z1216:(Unit)):X0_0 (blockC 0 (seqC (D.N k [1,1]) D.K0)) a1 z1216=q1 a1 z1216:=by kernel_rfl
noncomputable def s0 (k:Nat) (a1:Arg):((List (List UInt8))×Int)->Option Out:=fun v402=>D.L k [1,0,1,0,0] [0,3] [] (blockC 0 (seqC (D.N k [1,1]) D.K0)) (T0 a1 v402)
noncomputable def r0 (k:Nat) (a1:Arg):((List (List UInt8))×Int)->Option Out:=rawIter (fun w v=>B0 k w (Q1 k a1) a1 v) k
theorem s0_eq (k:Nat) (a1:Arg):s0 k a1=r0 k a1:=by
 funext v402;
 have h0:X0_0 (blockC 0 (seqC (D.N k [1,1]) D.K0)) a1=Q1 k a1:=funext fun z=>Q1_eq k a1 z
 refine (iter_raw _ _ _ (T0 a1) (fun self v=>B0 k self (X0_0 (blockC 0 (seqC (D.N k [1,1]) D.K0)) a1) a1 v) (fun rec v=>B0_eq k rec (blockC 0 (seqC (D.N k [1,1]) D.K0)) a1 v) k v402).trans ?_
 rw[h0]
 rfl
noncomputable def p (l0:((List (List UInt8))×Int)->Option Out) (a1:Arg):Option Out:=l0 (a1.1,(0:Int))
theorem raw_eq (k:Nat) (a1:Arg):@Eq (Option Out) (D.W k a1) (p (r0 k a1) a1):=
 Eq.trans (b:=p (s0 k a1) a1) (by kernel_rfl) (by rw[s0_eq])
theorem ok:Ok prog 195 D.sig:=fd_ok func195 tlOk (by kernel_rfl) (fc spec_l2Fault.ok (fc spec_l2Count.ok (fc spec_l2Size.ok (fc spec_l1Read.ok (fc spec_l2Cell.ok (fn_nil _))))))
end spec_l6Cells
namespace spec_l6Stubs
abbrev Arg:Type:=(List L6Spot)×(List (List UInt8))×Unit
abbrev Out:Type:=Int×Unit
abbrev ps:PQ:=[(.ro,(.slc tL6Spot)),(.ro,(.slc (.slc u8)))]
noncomputable def D:FD:={ fn:=f196,tl:=TL0,ps:=ps,rs:=[(i64,(roMd i64))],gl:=[(298,spec_l6Cell.D.sig)],lv:=[(2,[0,1,5]),(9,[0,8]),(12,[0,8,9])],lx:=[(0,[0]),(1,[0,1,5]),(2,[]),(4,[0,8])],od:=[(5,[0,1,2,3,4,5,6,7,8,9,10,11,12,13,14,15,16,17,18,19]),(16,[0,1,2,3,4,5,6,7,8,9,10,11,12,13,14,15,16,17,18,19,20,21,22,23,24,25,26,27,28,29,30,31,32,33])],ar:=[(5,[6,12])],pd:=[(5,[17])] }
noncomputable def sem (a:Arg):Option Out:=@lift Out fun k=>D.W k a
noncomputable def T0 (a1:Arg) (v402:Int):St:={ n:=102,sl:=[(0,.val (.slc tL6Spot) a1.1),(1,.val (.slc (.slc u8)) a1.2.1),(5,.val i64 v402)],vr:=[],lent:=[] }
noncomputable def S0 (rec:RT Out) (a1:Arg):(Int)->Option Out:=fun v402=>rec (T0 a1 v402)
noncomputable def X0_0 (K:KT Out) (a1:Arg):(Unit)->Option Out:=fun z=>K (.exit 0) ({ n:=102,sl:=[(0,.val (.slc tL6Spot) a1.1)],vr:=[],lent:=[] })
noncomputable def b0 (self:Int->Option Out) (e0:(Unit)->Option Out) (a1:Arg) (v402:Int):Option Out:=bif decide (v402 < (a1.1.length:Int)) then (if 0<=v402 then ((a1.1[v402.toNat]?).bind fun x603=>bif !decide (x603.2.2.1.2.1=(1:Int)) then (self (w64 (v402+(1:Int)))) else if 0<=v402 then ((a1.1[v402.toNat]?).bind fun x604=>if 0<=v402 then ((a1.1[v402.toNat]?).bind fun x605=>(spec_l6Cell.sem (a1.2.1,x604.2.2.1.2.2.1,x605.2.2.1.2.2.2.1,())).bind fun r606=>bif !r606.2.1 then (some ((4:Int),())) else bif !decide (r606.1.2.1=(2:Int)) then (some ((4:Int),())) else self (w64 (v402+(1:Int)))) else none) else none) else none) else e0 ()
noncomputable abbrev B0 (_:Nat):=b0
theorem B0_eq (k:Nat) (rec:RT Out) (K:KT Out) (a1:Arg) (v402:Int):D.N k [1,0,1,0,0] (T0 a1 v402) (loopC rec (keepF [0,1,5] []) K)=b0 (S0 rec a1) (X0_0 K a1) a1 v402:=by kernel_rfl
noncomputable def T1 (a1:Arg) (v1008:(List L6Spot)×Int):St:={ n:=102,sl:=[(0,.val (.slc tL6Spot) v1008.1),(8,.val i64 v1008.2)],vr:=[],lent:=[] }
noncomputable def S1 (rec:RT Out) (a1:Arg):((List L6Spot)×Int)->Option Out:=fun v1008=>rec (T1 a1 v1008)
noncomputable def X1_2 (K:KT Out) (a1:Arg):(Unit)->Option Out:=fun z=>K (.exit 2) ({ n:=102,sl:=[],vr:=[],lent:=[] })
noncomputable def T2 (a1:Arg) (c1610:List L6Spot) (c1611:Int) (v1609:Int):St:={ n:=102,sl:=[(0,.val (.slc tL6Spot) c1610),(8,.val i64 c1611),(9,.val i64 v1609)],vr:=[],lent:=[] }
noncomputable def b2 (self:Int->Option Out) (e4:(Unit)->Option Out) (a1:Arg) (c1610:List L6Spot) (c1611:Int) (v1609:Int):Option Out:=bif decide (v1609 < c1611) then (if 0<=c1611 then ((c1610[c1611.toNat]?).bind fun x1812=>if 0<=v1609 then ((c1610[v1609.toNat]?).bind fun x1813=>bif decide (x1812.2.2.1.2.1=(1:Int)) then (bif decide (x1813.2.2.1.2.1=(1:Int)) then (bif decide (x1812.2.2.1.2.2.1=x1813.2.2.1.2.2.1) then (bif decide (x1812.2.2.1.2.2.2.1=x1813.2.2.1.2.2.2.1) then (some ((6:Int),())) else self (w64 (v1609+(1:Int)))) else self (w64 (v1609+(1:Int)))) else self (w64 (v1609+(1:Int)))) else self (w64 (v1609+(1:Int)))) else none) else none) else e4 ()
noncomputable abbrev B2 (_:Nat):=b2
noncomputable def q1 (self:((List L6Spot)×Int)->Option Out) (e2:(Unit)->Option Out) (a1:Arg) (c1610:List L6Spot) (c1611:Int) (z1814:(Unit)):Option Out:=self (c1610,w64 (c1611+(1:Int)))
noncomputable abbrev Q1 (_:Nat):=q1
noncomputable def s2 (k:Nat) (rec:RT Out) (K:KT Out) (a1:Arg):(List L6Spot)->Int->(Int)->Option Out:=fun c1610 c1611=>fun v1609=>D.L k [1,1,0,1,0,0,1,0,0,1,0,0] [0,8,9] [] (blockC 4 (blockC 3 (seqC (D.N k [1,1,0,1,0,0,1,1]) (loopC rec (keepF [0,8] []) K)))) (T2 a1 c1610 c1611 v1609)
noncomputable def r2 (k:Nat) (self:((List L6Spot)×Int)->Option Out) (e2:(Unit)->Option Out) (a1:Arg):(List L6Spot)->Int->(Int)->Option Out:=fun c1610 c1611=>rawIter (fun w v=>B2 k w (Q1 k self e2 a1 c1610 c1611) a1 c1610 c1611 v) k
theorem s2_eq (k:Nat) (rec:RT Out) (K:KT Out) (a1:Arg):s2 k rec K a1=r2 k (S1 rec a1) (X1_2 K a1) a1:=
 funext fun c1610=>funext fun c1611=>funext fun v1609=>iter_raw _ _ _ (T2 a1 c1610 c1611) _ (fun rec v=>by kernel_rfl) k v1609
noncomputable def b1 (self:((List L6Spot)×Int)->Option Out) (e2:(Unit)->Option Out) (l2:(List L6Spot)->Int->(Int)->Option Out) (a1:Arg) (v1008:(List L6Spot)×Int):Option Out:=bif decide (v1008.2 < (v1008.1.length:Int)) then (l2 v1008.1 v1008.2 (0:Int)) else e2 ()
noncomputable def B1 (k:Nat) (self:((List L6Spot)×Int)->Option Out) (e2:(Unit)->Option Out) (a1:Arg) (v1008:(List L6Spot)×Int):Option Out:=b1 self e2 (r2 k self e2 a1) a1 v1008
theorem B1_eq (k:Nat) (rec:RT Out) (K:KT Out) (a1:Arg) (v1008:(List L6Spot)×Int):D.N k [1,1,0,1,0,0] (T1 a1 v1008) (loopC rec (keepF [0,8] []) K)=B1 k (S1 rec a1) (X1_2 K a1) a1 v1008:=
 Eq.trans (b:=b1 (S1 rec a1) (X1_2 K a1) (s2 k rec K a1) a1 v1008) (by kernel_rfl) (by rw[s2_eq];rfl)
noncomputable def q2 (a1:Arg) (z1815:(Unit)):Option Out:=some ((0:Int),())
noncomputable abbrev Q2 (_:Nat):=q2
theorem Q2_eq (k:Nat) (a1:Arg) (z1815:(Unit)):X1_2 (blockC 2 (seqC (D.N k [1,1,1]) D.K0)) a1 z1815=q2 a1 z1815:=by kernel_rfl
noncomputable def s1 (k:Nat) (a1:Arg):((List L6Spot)×Int)->Option Out:=fun v1008=>D.L k [1,1,0,1,0,0] [0,8] [] (blockC 2 (seqC (D.N k [1,1,1]) D.K0)) (T1 a1 v1008)
noncomputable def r1 (k:Nat) (a1:Arg):((List L6Spot)×Int)->Option Out:=rawIter (fun w v=>B1 k w (Q2 k a1) a1 v) k
theorem s1_eq (k:Nat) (a1:Arg):s1 k a1=r1 k a1:=by
 funext v1008;
 have h2:X1_2 (blockC 2 (seqC (D.N k [1,1,1]) D.K0)) a1=Q2 k a1:=funext fun z=>Q2_eq k a1 z
 refine (iter_raw _ _ _ (T1 a1) (fun self v=>B1 k self (X1_2 (blockC 2 (seqC (D.N k [1,1,1]) D.K0)) a1) a1 v) (fun rec v=>B1_eq k rec (blockC 2 (seqC (D.N k [1,1,1]) D.K0)) a1 v) k v1008).trans ?_
 rw[h2]
 rfl
noncomputable def q0 (l1:((List L6Spot)×Int)->Option Out) (a1:Arg) (z607:(Unit)):Option Out:=l1 (a1.1,(0:Int))
noncomputable def Q0 (k:Nat) (a1:Arg) (z607:(Unit)):Option Out:=q0 (r1 k a1) a1 z607
theorem Q0_eq (k:Nat) (a1:Arg) (z607:(Unit)):X0_0 (blockC 0 (seqC (D.N k [1,1]) D.K0)) a1 z607=Q0 k a1 z607:=
 Eq.trans (b:=q0 (s1 k a1) a1 z607) (by kernel_rfl) (by rw[s1_eq];rfl)
noncomputable def s0 (k:Nat) (a1:Arg):(Int)->Option Out:=fun v402=>D.L k [1,0,1,0,0] [0,1,5] [] (blockC 0 (seqC (D.N k [1,1]) D.K0)) (T0 a1 v402)
noncomputable def r0 (k:Nat) (a1:Arg):(Int)->Option Out:=rawIter (fun w v=>B0 k w (Q0 k a1) a1 v) k
theorem s0_eq (k:Nat) (a1:Arg):s0 k a1=r0 k a1:=by
 funext v402;
 have h0:X0_0 (blockC 0 (seqC (D.N k [1,1]) D.K0)) a1=Q0 k a1:=funext fun z=>Q0_eq k a1 z
 refine (iter_raw _ _ _ (T0 a1) (fun self v=>B0 k self (X0_0 (blockC 0 (seqC (D.N k [1,1]) D.K0)) a1) a1 v) (fun rec v=>B0_eq k rec (blockC 0 (seqC (D.N k [1,1]) D.K0)) a1 v) k v402).trans ?_
 rw[h0]
 rfl
noncomputable def p (l0:(Int)->Option Out) (a1:Arg):Option Out:=l0 (0:Int)
theorem raw_eq (k:Nat) (a1:Arg):@Eq (Option Out) (D.W k a1) (p (r0 k a1) a1):=
 Eq.trans (b:=p (s0 k a1) a1) (by kernel_rfl) (by rw[s0_eq])
theorem ok:Ok prog 196 D.sig:=fd_ok func196 tlOk (by kernel_rfl) (fc spec_l6Cell.ok (fn_nil _))
end spec_l6Stubs
namespace spec_l6Fault
abbrev Arg:Type:=(List (List UInt8))×Unit
abbrev Out:Type:=Int×Unit
abbrev ps:PQ:=[(.ro,(.slc (.slc u8)))]
noncomputable def D:FD:={ fn:=f92,tl:=TL0,ps:=ps,rs:=[(i64,(roMd i64))],gl:=[(195,spec_l6Cells.D.sig),(196,spec_l6Stubs.D.sig),(197,spec_l6Spots.D.sig),(198,spec_l6Seen.D.sig)],lv:=[(11,[5,6]),(14,[5,6,7])],lx:=[(0,[]),(2,[5,6])],od:=[(16,[0,1,2,3,4,5,6,7,8,9,10,11,12,13,14,15,16,17,18,19,20,21,22,23,24,25,26,27,28,29,30,31])] }
noncomputable def sem (a:Arg):Option Out:=@lift Out fun k=>D.W k a
noncomputable def T0 (a1:Arg) (v406:(List L6Spot)×Int):St:={ n:=68,sl:=[(5,.own (.slc tL6Spot) (ownMd (.slc tL6Spot)) [] v406.1),(6,.val i64 v406.2)],vr:=[],lent:=[] }
noncomputable def S0 (rec:RT Out) (a1:Arg):((List L6Spot)×Int)->Option Out:=fun v406=>rec (T0 a1 v406)
noncomputable def X0_0 (K:KT Out) (a1:Arg):(Unit)->Option Out:=fun z=>K (.exit 0) ({ n:=68,sl:=[],vr:=[],lent:=[] })
noncomputable def T1 (a1:Arg) (c1008:List L6Spot) (c1009:Int) (v1007:Int):St:={ n:=68,sl:=[(5,.own (.slc tL6Spot) (ownMd (.slc tL6Spot)) [] c1008),(6,.val i64 c1009),(7,.val i64 v1007)],vr:=[],lent:=[] }
noncomputable def b1 (self:Int->Option Out) (e2:(Unit)->Option Out) (a1:Arg) (c1008:List L6Spot) (c1009:Int) (v1007:Int):Option Out:=bif decide (v1007 < c1009) then (if 0<=c1009/\c1009 < (c1008.length:Int) then ((c1008[c1009.toNat]?).bind fun x1210=>if 0<=v1007/\v1007 < (c1008.length:Int) then ((c1008[v1007.toNat]?).bind fun x1211=>bif decide (x1210.2.2.1.2.2.2.2.1.1=x1211.2.2.1.2.2.2.2.1.1) then (if 0<=c1009/\c1009 < (c1008.length:Int) then ((c1008[c1009.toNat]?).bind fun x1212=>if 0<=v1007/\v1007 < (c1008.length:Int) then ((c1008[v1007.toNat]?).bind fun x1213=>bif decide (x1212.2.2.1.2.2.2.2.1.2.1=x1213.2.2.1.2.2.2.2.1.2.1) then (some ((8:Int),())) else self (w64 (v1007+(1:Int)))) else none) else none) else self (w64 (v1007+(1:Int)))) else none) else none) else e2 ()
noncomputable abbrev B1 (_:Nat):=b1
noncomputable def q0 (self:((List L6Spot)×Int)->Option Out) (e0:(Unit)->Option Out) (a1:Arg) (c1008:List L6Spot) (c1009:Int) (z1214:(Unit)):Option Out:=self (c1008,w64 (c1009+(1:Int)))
noncomputable abbrev Q0 (_:Nat):=q0
noncomputable def s1 (k:Nat) (rec:RT Out) (K:KT Out) (a1:Arg):(List L6Spot)->Int->(Int)->Option Out:=fun c1008 c1009=>fun v1007=>D.L k [1,1,1,1,1,0,1,0,0,1,0,0,1,0,0] [5,6,7] [] (blockC 2 (blockC 1 (seqC (D.N k [1,1,1,1,1,0,1,0,0,1,1]) (loopC rec (keepF [5,6] []) K)))) (T1 a1 c1008 c1009 v1007)
noncomputable def r1 (k:Nat) (self:((List L6Spot)×Int)->Option Out) (e0:(Unit)->Option Out) (a1:Arg):(List L6Spot)->Int->(Int)->Option Out:=fun c1008 c1009=>rawIter (fun w v=>B1 k w (Q0 k self e0 a1 c1008 c1009) a1 c1008 c1009 v) k
theorem s1_eq (k:Nat) (rec:RT Out) (K:KT Out) (a1:Arg):s1 k rec K a1=r1 k (S0 rec a1) (X0_0 K a1) a1:=
 funext fun c1008=>funext fun c1009=>funext fun v1007=>iter_raw _ _ _ (T1 a1 c1008 c1009) _ (fun rec v=>by kernel_rfl) k v1007
noncomputable def b0 (self:((List L6Spot)×Int)->Option Out) (e0:(Unit)->Option Out) (l1:(List L6Spot)->Int->(Int)->Option Out) (a1:Arg) (v406:(List L6Spot)×Int):Option Out:=bif decide (v406.2 < (v406.1.length:Int)) then (l1 v406.1 v406.2 (0:Int)) else e0 ()
noncomputable def B0 (k:Nat) (self:((List L6Spot)×Int)->Option Out) (e0:(Unit)->Option Out) (a1:Arg) (v406:(List L6Spot)×Int):Option Out:=b0 self e0 (r1 k self e0 a1) a1 v406
theorem B0_eq (k:Nat) (rec:RT Out) (K:KT Out) (a1:Arg) (v406:(List L6Spot)×Int):D.N k [1,1,1,1,1,0,1,0,0] (T0 a1 v406) (loopC rec (keepF [5,6] []) K)=B0 k (S0 rec a1) (X0_0 K a1) a1 v406:=
 Eq.trans (b:=b0 (S0 rec a1) (X0_0 K a1) (s1 k rec K a1) a1 v406) (by kernel_rfl) (by rw[s1_eq];rfl)
noncomputable def q1 (a1:Arg) (z1215:(Unit)):Option Out:=some ((0:Int),())
noncomputable abbrev Q1 (_:Nat):=q1
theorem Q1_eq (k:Nat) (a1:Arg) (z1215:(Unit)):X0_0 (blockC 0 (seqC (D.N k [1,1,1,1,1,1]) D.K0)) a1 z1215=q1 a1 z1215:=by kernel_rfl
noncomputable def s0 (k:Nat) (a1:Arg):((List L6Spot)×Int)->Option Out:=fun v406=>D.L k [1,1,1,1,1,0,1,0,0] [5,6] [] (blockC 0 (seqC (D.N k [1,1,1,1,1,1]) D.K0)) (T0 a1 v406)
noncomputable def r0 (k:Nat) (a1:Arg):((List L6Spot)×Int)->Option Out:=rawIter (fun w v=>B0 k w (Q1 k a1) a1 v) k
theorem s0_eq (k:Nat) (a1:Arg):s0 k a1=r0 k a1:=by
 funext v406;
 have h0:X0_0 (blockC 0 (seqC (D.N k [1,1,1,1,1,1]) D.K0)) a1=Q1 k a1:=funext fun z=>Q1_eq k a1 z
 refine (iter_raw _ _ _ (T0 a1) (fun self v=>B0 k self (X0_0 (blockC 0 (seqC (D.N k [1,1,1,1,1,1]) D.K0)) a1) a1 v) (fun rec v=>B0_eq k rec (blockC 0 (seqC (D.N k [1,1,1,1,1,1]) D.K0)) a1 v) k v406).trans ?_
 rw[h0]
 rfl
noncomputable def p (l0:((List L6Spot)×Int)->Option Out) (a1:Arg):Option Out:=bif decide ((12:Int) < (a1.1.length:Int)) then (some ((2:Int),())) else (spec_l6Cells.sem (a1.1,())).bind fun r2=>bif !decide (r2.1=(0:Int)) then (some (r2.1,())) else (spec_l6Spots.sem (a1.1,())).bind fun r3=>(spec_l6Stubs.sem (r3.1,a1.1,())).bind fun r4=>bif !decide (r4.1=(0:Int)) then (some (r4.1,())) else (spec_l6Seen.sem (a1.1,())).bind fun r5=>l0 (r5.1,(0:Int))
theorem raw_eq (k:Nat) (a1:Arg):@Eq (Option Out) (D.W k a1) (p (r0 k a1) a1):=
 Eq.trans (b:=p (s0 k a1) a1) (by kernel_rfl) (by rw[s0_eq])
theorem ok:Ok prog 92 D.sig:=fd_ok func92 tlOk (by kernel_rfl) (fc spec_l6Cells.ok (fc spec_l6Stubs.ok (fc spec_l6Spots.ok (fc spec_l6Seen.ok (fn_nil _)))))
end spec_l6Fault
namespace spec_InsertEdits
abbrev Arg:Type:=(List (List UInt8))×Row×Unit
abbrev Out:Type:=EditsResult×Unit
abbrev ps:PQ:=[(.ro,(.slc (.slc u8))),(.ro,tRow)]
noncomputable def D:FD:={ fn:=f16,tl:=TL0,ps:=ps,rs:=[(tEditsResult,(ownMd tEditsResult))],gl:=[(92,spec_l6Fault.D.sig),(93,spec_l7Bad.D.sig),(94,spec_l1Fault.D.sig),(95,spec_l6Find.D.sig),(96,spec_l7Insert.D.sig)] }
noncomputable def sem (a:Arg):Option Out:=@lift Out fun k=>D.W k a
noncomputable def p (a1:Arg):Option Out:=(spec_l6Fault.sem (a1.1,())).bind fun r2=>bif !decide (r2.1=(0:Int)) then ((spec_l7Bad.sem (r2.1,())).bind fun r3=>some (r3.1,())) else (spec_l1Fault.sem (a1.2.1,())).bind fun r4=>bif !decide (r4.1=(0:Int)) then ((spec_l7Bad.sem (r4.1,())).bind fun r5=>some (r5.1,())) else (spec_l6Find.sem (a1.1,a1.2.1.1,a1.2.1.2.1,())).bind fun r6=>bif r6.2.1 then ((spec_l7Bad.sem ((6:Int),())).bind fun r7=>some (r7.1,())) else (spec_l7Insert.sem (a1.1,a1.2.1,())).bind fun r8=>some (r8.1,())
theorem raw_eq (k:Nat) (a1:Arg):@Eq (Option Out) (D.W k a1) (p a1):=by kernel_rfl
theorem ok:Ok prog 16 D.sig:=fd_ok func16 tlOk (by kernel_rfl) (fc spec_l6Fault.ok (fc spec_l7Bad.ok (fc spec_l1Fault.ok (fc spec_l6Find.ok (fc spec_l7Insert.ok (fn_nil _))))))
end spec_InsertEdits
namespace impl_plain
abbrev Arg:Type:=(List Seen)×Unit
abbrev Out:Type:=(List Row)×Unit
abbrev ps:PQ:=[(.ro,(.slc tSeen))]
noncomputable def D:FD:={ fn:=f97,tl:=TL0,ps:=ps,rs:=[((.slc tRow),(ownMd (.slc tRow)))],lv:=[(3,[3,6,7,8])],lx:=[(0,[3])] }
noncomputable def sem (a:Arg):Option Out:=@lift Out fun k=>D.W k a
noncomputable def T0 (a1:Arg) (v402:(List Row)×Int):St:={ n:=19,sl:=[(3,.own (.slc tRow) (ownMd (.slc tRow)) [] v402.1),(6,.val (.slc tSeen) a1.1),(7,.val i64 (a1.1.length:Int)),(8,.val i64 v402.2)],vr:=[],lent:=[] }
noncomputable def b0 (self:((List Row)×Int)->Option Out) (e0:(List Row)->Option Out) (a1:Arg) (v402:(List Row)×Int):Option Out:=bif decide (v402.2 < (a1.1.length:Int)) then (if 0<=v402.2 then ((a1.1[v402.2.toNat]?).bind fun x603=>if v402.1.length+[x603.1].length<=CAP then (self (v402.1++[x603.1],w64 (v402.2+(1:Int)))) else none) else none) else e0 v402.1
noncomputable abbrev B0 (_:Nat):=b0
noncomputable def q0 (a1:Arg) (z604:(List Row)):Option Out:=some (z604,())
noncomputable abbrev Q0 (_:Nat):=q0
noncomputable def s0 (k:Nat) (a1:Arg):((List Row)×Int)->Option Out:=fun v402=>D.L k [1,1,0,1,0,0] [3,6,7,8] [] (blockC 0 (seqC (D.N k [1,1,1]) D.K0)) (T0 a1 v402)
noncomputable def r0 (k:Nat) (a1:Arg):((List Row)×Int)->Option Out:=rawIter (fun w v=>B0 k w (Q0 k a1) a1 v) k
theorem s0_eq (k:Nat) (a1:Arg):s0 k a1=r0 k a1:=
 funext fun v402=>iter_raw _ _ _ (T0 a1) _ (fun rec v=>by kernel_rfl) k v402
noncomputable def p (l0:((List Row)×Int)->Option Out) (a1:Arg):Option Out:=l0 (([]:List Row),(0:Int))
theorem raw_eq (k:Nat) (a1:Arg):@Eq (Option Out) (D.W k a1) (p (r0 k a1) a1):=
 Eq.trans (b:=p (s0 k a1) a1) (by kernel_rfl) (by rw[s0_eq])
theorem ok:Ok prog 97 D.sig:=fd_ok func97 tlOk (by kernel_rfl) (fn_nil _)
end impl_plain
namespace impl_RowsIn
abbrev Arg:Type:=(List (List UInt8))×Unit
abbrev Out:Type:=RowsResult×Unit
abbrev ps:PQ:=[(.ro,(.slc (.slc u8)))]
noncomputable def D:FD:={ fn:=f17,tl:=TL0,ps:=ps,rs:=[(tRowsResult,(ownMd tRowsResult))],gl:=[(86,impl_view.D.sig),(97,impl_plain.D.sig)] }
noncomputable def sem (a:Arg):Option Out:=@lift Out fun k=>D.W k a
noncomputable def p (a1:Arg):Option Out:=(impl_view.sem (a1.1,())).bind fun r2=>bif !decide (r2.2.1=(0:Int)) then (some ((r2.2.1,([]:List Row),()),())) else (impl_plain.sem (r2.1,())).bind fun r3=>some (((0:Int),r3.1,()),())
theorem raw_eq (k:Nat) (a1:Arg):@Eq (Option Out) (D.W k a1) (p a1):=by kernel_rfl
theorem ok:Ok prog 17 D.sig:=fd_ok func17 tlOk (by kernel_rfl) (fc impl_view.ok (fc impl_plain.ok (fn_nil _)))
end impl_RowsIn
namespace impl_isKey
abbrev Arg:Type:=Int×Int×Unit
abbrev Out:Type:=Bool×Unit
abbrev ps:PQ:=[(.ro,i64),(.ro,i64)]
noncomputable def D:FD:={ fn:=f98,tl:=TL0,ps:=ps,rs:=[(.bool,(roMd .bool))],gl:=[(119,impl_in.D.sig)] }
noncomputable def sem (a:Arg):Option Out:=@lift Out fun k=>D.W k a
noncomputable def p (a1:Arg):Option Out:=(impl_in.sem (a1.1,(0:Int),(3:Int),())).bind fun r2=>bif r2.1 then ((impl_in.sem (a1.2.1,(1:Int),(99:Int),())).bind fun r3=>some (r3.1,())) else some (false,())
theorem raw_eq (k:Nat) (a1:Arg):@Eq (Option Out) (D.W k a1) (p a1):=by kernel_rfl
theorem ok:Ok prog 98 D.sig:=fd_ok func98 tlOk (by kernel_rfl) (fc impl_in.ok (fn_nil _))
end impl_isKey
namespace impl_FindRow
abbrev Arg:Type:=(List (List UInt8))×Int×Int×Unit
abbrev Out:Type:=PlaceResult×Unit
abbrev ps:PQ:=[(.ro,(.slc (.slc u8))),(.ro,i64),(.ro,i64)]
noncomputable def D:FD:={ fn:=f18,tl:=TL0,ps:=ps,rs:=[(tPlaceResult,(roMd tPlaceResult))],gl:=[(86,impl_view.D.sig),(88,impl_find.D.sig),(98,impl_isKey.D.sig)] }
noncomputable def sem (a:Arg):Option Out:=@lift Out fun k=>D.W k a
noncomputable def p (a1:Arg):Option Out:=(impl_view.sem (a1.1,())).bind fun r2=>bif !decide (r2.2.1=(0:Int)) then (some ((r2.2.1,(0:Int),(0:Int),((0:Int),(0:Int),(0:Int),([]:List UInt8),()),()),())) else (impl_isKey.sem (a1.2.1,a1.2.2.1,())).bind fun r3=>bif !r3.1 then (some (((3:Int),(0:Int),(0:Int),((0:Int),(0:Int),(0:Int),([]:List UInt8),()),()),())) else (impl_find.sem (r2.1,a1.2.1,a1.2.2.1,())).bind fun r4=>bif !r4.2.1 then (some (((4:Int),(0:Int),(0:Int),((0:Int),(0:Int),(0:Int),([]:List UInt8),()),()),())) else some (((0:Int),r4.1.2.1,r4.1.2.2.1,r4.1.1,()),())
theorem raw_eq (k:Nat) (a1:Arg):@Eq (Option Out) (D.W k a1) (p a1):=by kernel_rfl
theorem ok:Ok prog 18 D.sig:=fd_ok func18 tlOk (by kernel_rfl) (fc impl_view.ok (fc impl_find.ok (fc impl_isKey.ok (fn_nil _))))
end impl_FindRow
namespace laws_lwRows
abbrev Arg:Type:=(List Row)×(List Row)×Unit
abbrev Out:Type:=Bool×Unit
abbrev ps:PQ:=[(.ro,(.slc tRow)),(.ro,(.slc tRow))]
noncomputable def D:FD:={ fn:=f19,tl:=TL0,ps:=ps,rs:=[(.bool,(roMd .bool))],lv:=[(4,[0,1,5])],lx:=[(0,[])],od:=[(6,[0,1,2,3,4,5,6,7,8])] }
noncomputable def sem (a:Arg):Option Out:=@lift Out fun k=>D.W k a
noncomputable def T0 (a1:Arg) (v402:Int):St:={ n:=26,sl:=[(0,.val (.slc tRow) a1.1),(1,.val (.slc tRow) a1.2.1),(5,.val i64 v402)],vr:=[],lent:=[] }
noncomputable def b0 (self:Int->Option Out) (e0:(Unit)->Option Out) (a1:Arg) (v402:Int):Option Out:=bif decide (v402 < (a1.1.length:Int)) then (if 0<=v402 then ((a1.1[v402.toNat]?).bind fun x603=>if 0<=v402 then ((a1.2.1[v402.toNat]?).bind fun x604=>bif !(Ty.eq tRow x603 x604) then (some (false,())) else self (w64 (v402+(1:Int)))) else none) else none) else e0 ()
noncomputable abbrev B0 (_:Nat):=b0
noncomputable def q0 (a1:Arg) (z605:(Unit)):Option Out:=some (true,())
noncomputable abbrev Q0 (_:Nat):=q0
noncomputable def s0 (k:Nat) (a1:Arg):(Int)->Option Out:=fun v402=>D.L k [1,1,0,1,0,0] [0,1,5] [] (blockC 0 (seqC (D.N k [1,1,1]) D.K0)) (T0 a1 v402)
noncomputable def r0 (k:Nat) (a1:Arg):(Int)->Option Out:=rawIter (fun w v=>B0 k w (Q0 k a1) a1 v) k
theorem s0_eq (k:Nat) (a1:Arg):s0 k a1=r0 k a1:=
 funext fun v402=>iter_raw _ _ _ (T0 a1) _ (fun rec v=>by kernel_rfl) k v402
noncomputable def p (l0:(Int)->Option Out) (a1:Arg):Option Out:=bif !decide ((a1.1.length:Int)=(a1.2.1.length:Int)) then (some (false,())) else l0 (0:Int)
theorem raw_eq (k:Nat) (a1:Arg):@Eq (Option Out) (D.W k a1) (p (r0 k a1) a1):=
 Eq.trans (b:=p (s0 k a1) a1) (by kernel_rfl) (by rw[s0_eq])
theorem ok:Ok prog 19 D.sig:=fd_ok func19 tlOk (by kernel_rfl) (fn_nil _)
end laws_lwRows
namespace laws_lwBut
abbrev Arg:Type:=(List Row)×Int×Int×Unit
abbrev Out:Type:=(List Row)×Unit
abbrev ps:PQ:=[(.ro,(.slc tRow)),(.ro,i64),(.ro,i64)]
noncomputable def D:FD:={ fn:=f20,tl:=TL0,ps:=ps,rs:=[((.slc tRow),(ownMd (.slc tRow)))],lv:=[(3,[0,1,2,7,8])],lx:=[(0,[7])] }
noncomputable def sem (a:Arg):Option Out:=@lift Out fun k=>D.W k a
noncomputable def T0 (a1:Arg) (v402:(List Row)×Int):St:={ n:=40,sl:=[(0,.val (.slc tRow) a1.1),(1,.val i64 a1.2.1),(2,.val i64 a1.2.2.1),(7,.own (.slc tRow) (ownMd (.slc tRow)) [] v402.1),(8,.val i64 v402.2)],vr:=[],lent:=[] }
noncomputable def b0 (self:((List Row)×Int)->Option Out) (e0:(List Row)->Option Out) (a1:Arg) (v402:(List Row)×Int):Option Out:=bif decide (v402.2 < (a1.1.length:Int)) then (if 0<=v402.2 then ((a1.1[v402.2.toNat]?).bind fun x603=>bif !decide (x603.1=a1.2.1) then (if 0<=v402.2 then ((a1.1[v402.2.toNat]?).bind fun x605=>if v402.1.length+[x605].length<=CAP then (self (v402.1++[x605],w64 (v402.2+(1:Int)))) else none) else none) else if 0<=v402.2 then ((a1.1[v402.2.toNat]?).bind fun x604=>bif !decide (x604.2.1=a1.2.2.1) then (if 0<=v402.2 then ((a1.1[v402.2.toNat]?).bind fun x606=>if v402.1.length+[x606].length<=CAP then (self (v402.1++[x606],w64 (v402.2+(1:Int)))) else none) else none) else self (v402.1,w64 (v402.2+(1:Int)))) else none) else none) else e0 v402.1
noncomputable abbrev B0 (_:Nat):=b0
noncomputable def q0 (a1:Arg) (z607:(List Row)):Option Out:=some (z607,())
noncomputable abbrev Q0 (_:Nat):=q0
noncomputable def s0 (k:Nat) (a1:Arg):((List Row)×Int)->Option Out:=fun v402=>D.L k [1,1,0,1,0,0] [0,1,2,7,8] [] (blockC 0 (seqC (D.N k [1,1,1]) D.K0)) (T0 a1 v402)
noncomputable def r0 (k:Nat) (a1:Arg):((List Row)×Int)->Option Out:=rawIter (fun w v=>B0 k w (Q0 k a1) a1 v) k
theorem s0_eq (k:Nat) (a1:Arg):s0 k a1=r0 k a1:=
 funext fun v402=>iter_raw _ _ _ (T0 a1) _ (fun rec v=>by kernel_rfl) k v402
noncomputable def p (l0:((List Row)×Int)->Option Out) (a1:Arg):Option Out:=l0 (([]:List Row),(0:Int))
theorem raw_eq (k:Nat) (a1:Arg):@Eq (Option Out) (D.W k a1) (p (r0 k a1) a1):=
 Eq.trans (b:=p (s0 k a1) a1) (by kernel_rfl) (by rw[s0_eq])
theorem ok:Ok prog 20 D.sig:=fd_ok func20 tlOk (by kernel_rfl) (fn_nil _)
end laws_lwBut
namespace laws_lwSame
abbrev Arg:Type:=(List UInt8)×(List UInt8)×Unit
abbrev Out:Type:=Bool×Unit
abbrev ps:PQ:=[(.ro,(.slc u8)),(.ro,(.slc u8))]
noncomputable def D:FD:={ fn:=f104,tl:=TL0,ps:=ps,rs:=[(.bool,(roMd .bool))] }
noncomputable def sem (a:Arg):Option Out:=@lift Out fun k=>D.W k a
noncomputable def p (a1:Arg):Option Out:=some (decide (a1.1=a1.2.1),())
theorem raw_eq (k:Nat) (a1:Arg):@Eq (Option Out) (D.W k a1) (p a1):=by kernel_rfl
theorem ok:Ok prog 104 D.sig:=fd_ok func104 tlOk (by kernel_rfl) (fn_nil _)
end laws_lwSame
namespace laws_lwPages
abbrev Arg:Type:=(List (List UInt8))×(List (List UInt8))×Unit
abbrev Out:Type:=Bool×Unit
abbrev ps:PQ:=[(.ro,(.slc (.slc u8))),(.ro,(.slc (.slc u8)))]
noncomputable def D:FD:={ fn:=f25,tl:=TL0,ps:=ps,rs:=[(.bool,(roMd .bool))],gl:=[(104,laws_lwSame.D.sig)],lv:=[(4,[0,1,5])],lx:=[(0,[])],od:=[(6,[0,1,2,3,4,5,6,7,8,9])] }
noncomputable def sem (a:Arg):Option Out:=@lift Out fun k=>D.W k a
noncomputable def T0 (a1:Arg) (v402:Int):St:={ n:=27,sl:=[(0,.val (.slc (.slc u8)) a1.1),(1,.val (.slc (.slc u8)) a1.2.1),(5,.val i64 v402)],vr:=[],lent:=[] }
noncomputable def b0 (self:Int->Option Out) (e0:(Unit)->Option Out) (a1:Arg) (v402:Int):Option Out:=bif decide (v402 < (a1.1.length:Int)) then (if 0<=v402 then ((a1.1[v402.toNat]?).bind fun x603=>if 0<=v402 then ((a1.2.1[v402.toNat]?).bind fun x604=>(laws_lwSame.sem (x603,x604,())).bind fun r605=>bif !r605.1 then (some (false,())) else self (w64 (v402+(1:Int)))) else none) else none) else e0 ()
noncomputable abbrev B0 (_:Nat):=b0
noncomputable def q0 (a1:Arg) (z606:(Unit)):Option Out:=some (true,())
noncomputable abbrev Q0 (_:Nat):=q0
noncomputable def s0 (k:Nat) (a1:Arg):(Int)->Option Out:=fun v402=>D.L k [1,1,0,1,0,0] [0,1,5] [] (blockC 0 (seqC (D.N k [1,1,1]) D.K0)) (T0 a1 v402)
noncomputable def r0 (k:Nat) (a1:Arg):(Int)->Option Out:=rawIter (fun w v=>B0 k w (Q0 k a1) a1 v) k
theorem s0_eq (k:Nat) (a1:Arg):s0 k a1=r0 k a1:=
 funext fun v402=>iter_raw _ _ _ (T0 a1) _ (fun rec v=>by kernel_rfl) k v402
noncomputable def p (l0:(Int)->Option Out) (a1:Arg):Option Out:=bif !decide ((a1.1.length:Int)=(a1.2.1.length:Int)) then (some (false,())) else l0 (0:Int)
theorem raw_eq (k:Nat) (a1:Arg):@Eq (Option Out) (D.W k a1) (p (r0 k a1) a1):=
 Eq.trans (b:=p (s0 k a1) a1) (by kernel_rfl) (by rw[s0_eq])
theorem ok:Ok prog 25 D.sig:=fd_ok func25 tlOk (by kernel_rfl) (fc laws_lwSame.ok (fn_nil _))
end laws_lwPages
namespace impl_ownEdits
abbrev Arg:Type:=(List Edit)×Unit
abbrev Out:Type:=(List Edit)×Unit
abbrev ps:PQ:=[(.ro,(.slc tEdit))]
noncomputable def D:FD:={ fn:=f121,tl:=TL0,ps:=ps,rs:=[((.slc tEdit),(ownMd (.slc tEdit)))],gl:=[(120,impl_copied.D.sig)],lv:=[(3,[3,6,7,8])],lx:=[(0,[3])],od:=[(5,[0,1,2,3,4,5,6,7,8,9])] }
noncomputable def sem (a:Arg):Option Out:=@lift Out fun k=>D.W k a
noncomputable def T0 (a1:Arg) (v402:(List Edit)×Int):St:={ n:=23,sl:=[(3,.own (.slc tEdit) (ownMd (.slc tEdit)) [] v402.1),(6,.val (.slc tEdit) a1.1),(7,.val i64 (a1.1.length:Int)),(8,.val i64 v402.2)],vr:=[],lent:=[] }
noncomputable def b0 (self:((List Edit)×Int)->Option Out) (e0:(List Edit)->Option Out) (a1:Arg) (v402:(List Edit)×Int):Option Out:=bif decide (v402.2 < (a1.1.length:Int)) then (if 0<=v402.2 then ((a1.1[v402.2.toNat]?).bind fun x603=>(impl_copied.sem (x603.2.1,())).bind fun r604=>if v402.1.length+[(x603.1,r604.1,())].length<=CAP then (self (v402.1++[(x603.1,r604.1,())],w64 (v402.2+(1:Int)))) else none) else none) else e0 v402.1
noncomputable abbrev B0 (_:Nat):=b0
noncomputable def q0 (a1:Arg) (z605:(List Edit)):Option Out:=some (z605,())
noncomputable abbrev Q0 (_:Nat):=q0
noncomputable def s0 (k:Nat) (a1:Arg):((List Edit)×Int)->Option Out:=fun v402=>D.L k [1,1,0,1,0,0] [3,6,7,8] [] (blockC 0 (seqC (D.N k [1,1,1]) D.K0)) (T0 a1 v402)
noncomputable def r0 (k:Nat) (a1:Arg):((List Edit)×Int)->Option Out:=rawIter (fun w v=>B0 k w (Q0 k a1) a1 v) k
theorem s0_eq (k:Nat) (a1:Arg):s0 k a1=r0 k a1:=
 funext fun v402=>iter_raw _ _ _ (T0 a1) _ (fun rec v=>by kernel_rfl) k v402
noncomputable def p (l0:((List Edit)×Int)->Option Out) (a1:Arg):Option Out:=l0 (([]:List Edit),(0:Int))
theorem raw_eq (k:Nat) (a1:Arg):@Eq (Option Out) (D.W k a1) (p (r0 k a1) a1):=
 Eq.trans (b:=p (s0 k a1) a1) (by kernel_rfl) (by rw[s0_eq])
theorem ok:Ok prog 121 D.sig:=fd_ok func121 tlOk (by kernel_rfl) (fc impl_copied.ok (fn_nil _))
end impl_ownEdits
namespace impl_ApplyEdits
abbrev Arg:Type:=(List (List UInt8))×(List Edit)×Unit
abbrev Out:Type:=EditsResult×Unit
abbrev ps:PQ:=[(.ro,(.slc (.slc u8))),(.ro,(.slc tEdit))]
noncomputable def D:FD:={ fn:=f31,tl:=TL0,ps:=ps,rs:=[(tEditsResult,(ownMd tEditsResult))],gl:=[(118,impl_copies.D.sig),(119,impl_in.D.sig),(120,impl_copied.D.sig),(121,impl_ownEdits.D.sig)],lv:=[(5,[1,4,5,14,15,16])],lx:=[(0,[1,4,5])],od:=[(13,[0,1,2,3,4,5,6,7])] }
noncomputable def sem (a:Arg):Option Out:=@lift Out fun k=>D.W k a
noncomputable def T0 (a1:Arg) (v403:(List (List UInt8))×Int):St:={ n:=57,sl:=[(1,.val (.slc tEdit) a1.2.1),(4,.box tEditsResult (ownMd tEditsResult) [] ((0:Int),([]:List Edit),([]:List (List UInt8)),())),(5,.own (.slc (.slc u8)) (ownMd (.slc (.slc u8))) [] v403.1),(14,.val (.slc tEdit) a1.2.1),(15,.val i64 (a1.2.1.length:Int)),(16,.val i64 v403.2)],vr:=[],lent:=[] }
noncomputable def b0 (self:((List (List UInt8))×Int)->Option Out) (e0:(List (List UInt8))->Option Out) (a1:Arg) (v403:(List (List UInt8))×Int):Option Out:=bif decide (v403.2 < (a1.2.1.length:Int)) then (if 0<=v403.2 then ((a1.2.1[v403.2.toNat]?).bind fun x604=>bif !decide ((x604.2.1.length:Int)=(64:Int)) then (some (((1:Int),([]:List Edit),([]:List (List UInt8)),()),())) else (impl_in.sem (x604.1,(0:Int),(v403.1.length:Int),())).bind fun r605=>bif !r605.1 then (some (((1:Int),([]:List Edit),([]:List (List UInt8)),()),())) else bif decide (x604.1=(12:Int)) then (some (((2:Int),([]:List Edit),([]:List (List UInt8)),()),())) else let j610:=fun (p609:List (List UInt8))=>((impl_copied.sem (x604.2.1,())).bind fun r611=>if 0<=x604.1/\x604.1 < (p609.length:Int) then ((p609[x604.1.toNat]?).bind fun x612=>self (p609.set x604.1.toNat r611.1,w64 (v403.2+(1:Int)))) else none:Option Out);bif decide (x604.1=(v403.1.length:Int)) then (if v403.1.length+[([]:List UInt8)].length<=CAP then (j610 (v403.1++[([]:List UInt8)])) else none) else j610 v403.1) else none) else e0 v403.1
noncomputable abbrev B0 (_:Nat):=b0
noncomputable def q0 (a1:Arg) (z613:(List (List UInt8))):Option Out:=(impl_ownEdits.sem (a1.2.1,())).bind fun r614=>some (((0:Int),r614.1,z613,()),())
noncomputable abbrev Q0 (_:Nat):=q0
noncomputable def s0 (k:Nat) (a1:Arg):((List (List UInt8))×Int)->Option Out:=fun v403=>D.L k [1,1,1,0,1,0,0] [1,4,5,14,15,16] [] (blockC 0 (seqC (D.N k [1,1,1,1]) D.K0)) (T0 a1 v403)
noncomputable def r0 (k:Nat) (a1:Arg):((List (List UInt8))×Int)->Option Out:=rawIter (fun w v=>B0 k w (Q0 k a1) a1 v) k
theorem s0_eq (k:Nat) (a1:Arg):s0 k a1=r0 k a1:=
 funext fun v403=>iter_raw _ _ _ (T0 a1) _ (fun rec v=>by kernel_rfl) k v403
noncomputable def p (l0:((List (List UInt8))×Int)->Option Out) (a1:Arg):Option Out:=bif decide ((12:Int) < (a1.1.length:Int)) then (some (((2:Int),([]:List Edit),([]:List (List UInt8)),()),())) else (impl_copies.sem (a1.1,())).bind fun r2=>l0 (r2.1,(0:Int))
theorem raw_eq (k:Nat) (a1:Arg):@Eq (Option Out) (D.W k a1) (p (r0 k a1) a1):=
 Eq.trans (b:=p (s0 k a1) a1) (by kernel_rfl) (by rw[s0_eq])
theorem ok:Ok prog 31 D.sig:=fd_ok func31 tlOk (by kernel_rfl) (fc impl_copies.ok (fc impl_in.ok (fc impl_copied.ok (fc impl_ownEdits.ok (fn_nil _)))))
end impl_ApplyEdits
namespace laws_lwWay
abbrev Arg:Type:=(List (List UInt8))×EditsResult×(List Row)×(List Row)×Unit
abbrev Out:Type:=Bool×Unit
abbrev ps:PQ:=[(.ro,(.slc (.slc u8))),(.ro,tEditsResult),(.ro,(.slc tRow)),(.ro,(.slc tRow))]
noncomputable def D:FD:={ fn:=f21,tl:=TL0,ps:=ps,rs:=[(.bool,(roMd .bool))],gl:=[(17,impl_RowsIn.D.sig),(19,laws_lwRows.D.sig),(25,laws_lwPages.D.sig),(31,impl_ApplyEdits.D.sig)],lv:=[(4,[2,3,5,9,10,11])],lx:=[(0,[2,3,5,9,10])],lf:=[(4,[(9,(.slc false (.slc false .leaf)))])] }
noncomputable def sem (a:Arg):Option Out:=@lift Out fun k=>D.W k a
noncomputable def T0 (a1:Arg) (v402:(List (List UInt8))×Bool×Int):St:={ n:=72,sl:=[(2,.val (.slc tRow) a1.2.2.1),(3,.val (.slc tRow) a1.2.2.2.1),(5,.box tEditsResult (roMd tEditsResult) [] a1.2.1),(9,.val (.slc (.slc u8)) v402.1),(10,.val .bool v402.2.1),(11,.val i64 v402.2.2)],vr:=[],lent:=[] }
noncomputable def b0 (self:((List (List UInt8))×Bool×Int)->Option Out) (e0:((List (List UInt8))×Bool)->Option Out) (a1:Arg) (v402:(List (List UInt8))×Bool×Int):Option Out:=bif decide (v402.2.2 < (a1.2.1.2.1.length:Int)) then (if 0<=v402.2.2/\v402.2.2<=w64 (v402.2.2+(1:Int))/\w64 (v402.2.2+(1:Int))<=(a1.2.1.2.1.length:Int) then ((impl_ApplyEdits.sem (v402.1,(a1.2.1.2.1.take (w64 (v402.2.2+(1:Int))).toNat).drop v402.2.2.toNat,())).bind fun r603=>bif !decide (r603.1.1=(0:Int)) then (some (false,())) else (impl_RowsIn.sem (r603.1.2.2.1,())).bind fun r604=>(laws_lwRows.sem (r604.1.2.1,a1.2.2.2.1,())).bind fun r605=>bif !decide (r604.1.1=(0:Int)) then (some (false,())) else bif !r605.1 then (bif v402.2.1 then (some (false,())) else (laws_lwRows.sem (r604.1.2.1,a1.2.2.1,())).bind fun r606=>bif !r606.1 then (some (false,())) else self (r603.1.2.2.1,r605.1,w64 (v402.2.2+(1:Int)))) else self (r603.1.2.2.1,r605.1,w64 (v402.2.2+(1:Int)))) else none) else e0 (v402.1,v402.2.1)
noncomputable abbrev B0 (_:Nat):=b0
noncomputable def q0 (a1:Arg) (z607:((List (List UInt8))×Bool)):Option Out:=(laws_lwPages.sem (z607.1,a1.2.1.2.2.1,())).bind fun r608=>bif r608.1 then (bif z607.2 then (some (true,())) else (laws_lwRows.sem (a1.2.2.1,a1.2.2.2.1,())).bind fun r609=>some (r609.1,())) else some (false,())
noncomputable abbrev Q0 (_:Nat):=q0
noncomputable def s0 (k:Nat) (a1:Arg):((List (List UInt8))×Bool×Int)->Option Out:=fun v402=>D.L k [1,1,1,0,1,0,0] [2,3,5,9,10,11] [(9,(.slc false (.slc false .leaf)))] (blockC 0 (seqC (D.N k [1,1,1,1]) D.K0)) (T0 a1 v402)
noncomputable def r0 (k:Nat) (a1:Arg):((List (List UInt8))×Bool×Int)->Option Out:=rawIter (fun w v=>B0 k w (Q0 k a1) a1 v) k
theorem s0_eq (k:Nat) (a1:Arg):s0 k a1=r0 k a1:=
 funext fun v402=>iter_raw _ _ _ (T0 a1) _ (fun rec v=>by kernel_rfl) k v402
noncomputable def p (l0:((List (List UInt8))×Bool×Int)->Option Out) (a1:Arg):Option Out:=l0 (a1.1,false,(0:Int))
theorem raw_eq (k:Nat) (a1:Arg):@Eq (Option Out) (D.W k a1) (p (r0 k a1) a1):=
 Eq.trans (b:=p (s0 k a1) a1) (by kernel_rfl) (by rw[s0_eq])
theorem ok:Ok prog 21 D.sig:=fd_ok func21 tlOk (by kernel_rfl) (fc impl_RowsIn.ok (fc laws_lwRows.ok (fc laws_lwPages.ok (fc impl_ApplyEdits.ok (fn_nil _)))))
end laws_lwWay
namespace laws_FnInserts
abbrev Arg:Type:=(List UInt8)×Unit
abbrev Out:Type:=Bool×Unit
abbrev ps:PQ:=[(.ro,(.slc u8))]
noncomputable def D:FD:={ fn:=f3,tl:=TL0,ps:=ps,rs:=[(.bool,(roMd .bool))],gl:=[(13,laws_lwBig.D.sig),(14,spec_DrawInsertEdits.D.sig),(15,impl_InsertEdits.D.sig),(16,spec_InsertEdits.D.sig),(17,impl_RowsIn.D.sig),(18,impl_FindRow.D.sig),(19,laws_lwRows.D.sig),(20,laws_lwBut.D.sig),(21,laws_lwWay.D.sig)],od:=[(6,[0,1,4,5,2,3,6,7]),(10,[0,1,2,3,4,5,6,7,8,9,10,11,12,13,14,15,16,17,18,19,20,22,21,23,24,25,26,27,28,29,30,31,32,33,34,35,36,37,38,39,40,41,42,43,44])],ar:=[(10,[1,5,10,11,16,18,20,27,30,35,38])],bx:=[(10,[4,5,7,8])] }
noncomputable def sem (a:Arg):Option Out:=@lift Out fun k=>D.W k a
noncomputable def p (a1:Arg):Option Out:=(laws_lwBig.sem (a1.1,())).bind fun r2=>bif r2.1 then (some (true,())) else (spec_DrawInsertEdits.sem (a1.1,())).bind fun r3=>(impl_InsertEdits.sem (r3.1,r3.2.1,())).bind fun r4=>bif !decide (r4.1.1=(0:Int)) then ((spec_InsertEdits.sem (r3.1,r3.2.1,())).bind fun r5=>some (decide (r5.1.1=r4.1.1),())) else (impl_RowsIn.sem (r3.1,())).bind fun r6=>(impl_RowsIn.sem (r4.1.2.2.1,())).bind fun r7=>(impl_FindRow.sem (r4.1.2.2.1,r3.2.1.1,r3.2.1.2.1,())).bind fun r8=>bif decide (r7.1.1=(0:Int)) then (bif decide (r8.1.1=(0:Int)) then (bif (Ty.eq tRow r8.1.2.2.2.1 r3.2.1) then ((laws_lwBut.sem (r7.1.2.1,r3.2.1.1,r3.2.1.2.1,())).bind fun r9=>(laws_lwRows.sem (r9.1,r6.1.2.1,())).bind fun r10=>bif r10.1 then ((laws_lwWay.sem (r3.1,r4.1,r6.1.2.1,r7.1.2.1,())).bind fun r11=>bif r11.1 then ((spec_InsertEdits.sem (r3.1,r3.2.1,())).bind fun r12=>some (decide ((r4.1.2.1.length:Int)=(r12.1.2.1.length:Int)),())) else some (false,())) else some (false,())) else some (false,())) else some (false,())) else some (false,())
theorem raw_eq (k:Nat) (a1:Arg):@Eq (Option Out) (D.W k a1) (p a1):=by kernel_rfl
theorem ok:Ok prog 3 D.sig:=fd_ok func3 tlOk (by kernel_rfl) (fc laws_lwBig.ok (fc spec_DrawInsertEdits.ok (fc impl_InsertEdits.ok (fc spec_InsertEdits.ok (fc impl_RowsIn.ok (fc impl_FindRow.ok (fc laws_lwRows.ok (fc laws_lwBut.ok (fc laws_lwWay.ok (fn_nil _))))))))))
end laws_FnInserts
end OT
set_option linter.unusedVariables false
set_option linter.unusedSimpArgs false
namespace OT
open Go
end OT
set_option linter.unusedVariables false
set_option linter.unusedSimpArgs false
namespace OT
open Go
theorem specIn_eq (a b c:Int):spec_l1In.sem (a,b,c,())=some (decide (b<=a)&&decide (a<=c),()):=by
 refine lift_eq (k:=0) fun k _=>(spec_l1In.raw_eq k _).trans ?_
 show spec_l1In.p _=_
 unfold spec_l1In.p
 by_cases h:b<=a <;> simp[h]
theorem implIn_eq (a b c:Int):impl_in.sem (a,b,c,())=some (decide (b<=a)&&decide (a<=c),()):=by
 refine lift_eq (k:=0) fun k _=>(impl_in.raw_eq k _).trans ?_
 show impl_in.p _=_
 unfold impl_in.p
 by_cases h:b<=a <;> simp[h]
def inB (a b c:Int):Bool:=decide (b<=a)&&decide (a<=c)
theorem implCopied_eq (s:List UInt8) (h:s.length<=200000000000):impl_copied.sem (s,())=some (s,()):=by
 refine lift_eq (k:=0) fun k _=>(impl_copied.raw_eq k _).trans ?_
 show impl_copied.p _=_
 unfold impl_copied.p
 have:([]:List UInt8).length+s.length<=CAP:=cap_ok (by simpa using h)
 rw[if_pos this,List.nil_append]
theorem specCopy_eq (s:List UInt8) (h:s.length<=200000000000):spec_l2Copy.sem (s,())=some (s,()):=by
 refine lift_eq (k:=0) fun k _=>(spec_l2Copy.raw_eq k _).trans ?_
 show spec_l2Copy.p _=_
 unfold spec_l2Copy.p
 have:([]:List UInt8).length+s.length<=CAP:=cap_ok (by simpa using h)
 rw[if_pos this,List.nil_append]
theorem forI_fold {S O α:Type} {g:S->α->S} {fin:S->O}:∀ (xs:List α) (i:Nat) (s:S),forI (fun _ s x=>.inr (g s x)) fin i xs s=fin (xs.foldl g s)
 | [],_,_=>rfl
 | x::xs,i,s=>by simp only[forI,List.foldl_cons];exact forI_fold xs _ _
theorem fold_self {α:Type}:∀ (xs s:List α),xs.foldl (fun s x=>s++[x]) s=s++xs
 | [],s=>by simp
 | x::xs,s=>by rw[List.foldl_cons,fold_self];simp
abbrev Pages:Type:=List (List UInt8)
def gp (ps:Pages):Prop:=ps.length<=12/\∀ p ∈ ps,p.length=64
def newF:List UInt8:=((List.replicate 64 (0:UInt8)).set 0 0).set 1 64
theorem implCopies_eq (ps:Pages) (h:gp ps):impl_copies.sem (ps,())=some (ps,()):=by
 obtain ⟨h1,h2⟩:=h
 refine lift_eq (k:=14) fun k hk=>(impl_copies.raw_eq k _).trans ?_
 have:=for_loop (B:=fun self v=>impl_copies.B0 0 self (fun z=>impl_copies.Q0 0 (ps,()) z) (ps,()) v) ps (fun (s:Pages) (i:Int)=>(s,i)) (fun _ s x=>.inr (s++[x])) (fun s=>(s,())) (fun i s=>s.length=i) (by rw[maxLen_val];omega)
  (fun i hi s self hI=>by
   show impl_copies.b0 _ _ _ _=_
   unfold impl_copies.b0
   have hlt:(i:Int) < (ps.length:Int):=by omega
   have hx:=h2 ps[i] (List.getElem_mem hi)
   simp only[hlt,decide_true,cond_true,Int.natCast_nonneg,if_true,Int.toNat_natCast,List.getElem?_eq_getElem hi,Option.bind_some]
   rw[implCopied_eq _ (by omega)]
   have hc:s.length+[ps[i]].length<=CAP:=cap_ok (by simp only[List.length_cons,List.length_nil];omega)
   simp only[Option.bind_some,hc,if_true])
  (fun i hi s s' hI hs=>by injection hs with hs;rw[<-hs];simp[hI]) (fun s self hI=>by
   show impl_copies.b0 _ _ _ _=_
   unfold impl_copies.b0
   simp only[Int.lt_irrefl,decide_false,cond_false]
   rfl) [] rfl k (by omega)
 rw[forI_fold,fold_self] at this
 exact this
theorem specCopies_eq (ps:Pages) (h:gp ps):spec_l7Copy.sem (ps,())=some (ps,()):=by
 obtain ⟨h1,h2⟩:=h
 refine lift_eq (k:=14) fun k hk=>(spec_l7Copy.raw_eq k _).trans ?_
 have:=for_loop (B:=fun self v=>spec_l7Copy.B0 0 self (fun z=>spec_l7Copy.Q0 0 (ps,()) z) (ps,()) v) ps (fun (s:Pages) (i:Int)=>(s,i)) (fun _ s x=>.inr (s++[x])) (fun s=>(s,())) (fun i s=>s.length=i) (by rw[maxLen_val];omega)
  (fun i hi s self hI=>by
   show spec_l7Copy.b0 _ _ _ _=_
   unfold spec_l7Copy.b0
   have hlt:(i:Int) < (ps.length:Int):=by omega
   have hx:=h2 ps[i] (List.getElem_mem hi)
   simp only[hlt,decide_true,cond_true,Int.natCast_nonneg,if_true,Int.toNat_natCast,List.getElem?_eq_getElem hi,Option.bind_some]
   rw[specCopy_eq _ (by omega)]
   have hc:s.length+[ps[i]].length<=CAP:=cap_ok (by simp only[List.length_cons,List.length_nil];omega)
   simp only[Option.bind_some,hc,if_true])
  (fun i hi s s' hI hs=>by injection hs with hs;rw[<-hs];simp[hI]) (fun s self hI=>by
   show spec_l7Copy.b0 _ _ _ _=_
   unfold spec_l7Copy.b0
   simp only[Int.lt_irrefl,decide_false,cond_false]
   rfl) [] rfl k (by omega)
 rw[forI_fold,fold_self] at this
 exact this
end OT
set_option linter.unusedVariables false
set_option linter.unusedSimpArgs false
namespace OT
open Go
def letter (c:UInt8):Bool:=!decide ((c.toNat:Int) < 97)&&!decide ((122:Int) < (c.toNat:Int))
def textB (s:List UInt8):Bool:=s.all letter&&decide (s.length<=8)
def rowF (x:Row):Int:=if inB x.1 0 3&&(inB x.2.1 1 99&&inB x.2.2.1 0 999) then (if textB x.2.2.2.1 then 0 else 5) else 3
theorem len8 (s:List UInt8):decide ((s.length:Int)<=8)=decide (s.length<=8):=by
 by_cases h:s.length<=8
 ·have:(s.length:Int)<=8:=by omega
  simp[h,this]
 ·have:¬ (s.length:Int)<=8:=by omega
  simp[h,this]
theorem specText_eq (s:List UInt8) (h:s.length<=maxLen):spec_l1Text.sem (s,())=some (textB s,()):=by
 refine lift_eq (k:=s.length+1) fun k hk=>(spec_l1Text.raw_eq k _).trans ?_
 have:=for_loop (B:=fun self v=>spec_l1Text.B0 0 self (fun z=>spec_l1Text.Q0 0 (s,()) z) (s,()) v) s (fun (_:Unit) (i:Int)=>i) (fun _ _ x=>if letter x then .inr () else .inl (false,())) (fun _=>(decide (s.length<=8),())) (fun _ _=>True) h
  (fun i hi _ self _=>by
   show spec_l1Text.b0 _ _ _ _=_
   unfold spec_l1Text.b0
   have hlt:(i:Int) < (s.length:Int):=by omega
   simp only[hlt,decide_true,cond_true,Int.natCast_nonneg,if_true,Int.toNat_natCast,List.getElem?_eq_getElem hi,Option.bind_some]
   unfold letter
   by_cases h1:((s[i].toNat:Int) < 97) <;> by_cases h2:((122:Int) < (s[i].toNat:Int)) <;> simp[h1,h2]) (fun _ _ _ _ _ _=>trivial) (fun _ self _=>by
   show spec_l1Text.b0 _ _ _ _=_
   unfold spec_l1Text.b0
   simp[spec_l1Text.Q0,spec_l1Text.q0,len8]) () trivial k (by omega)
 refine this.trans ?_
 rw[forI_check letter (false,()) (fun _=>(decide (s.length<=8),()))]
 unfold textB
 cases s.all letter <;> rfl
theorem specRow_eq (x:Row) (h:List.length x.2.2.2.1<=maxLen):spec_l1Fault.sem (x,())=some (rowF x,()):=by
 refine lift_eq (k:=0) fun k _=>(spec_l1Fault.raw_eq k _).trans ?_
 show spec_l1Fault.p _=_
 unfold spec_l1Fault.p rowF inB
 simp only[specIn_eq,specText_eq _ h,Option.bind_some]
 cases decide ((0:Int)<=x.1) <;> cases decide (x.1<=3) <;> cases decide ((1:Int)<=x.2.1) <;> cases decide (x.2.1<=99) <;> cases decide ((0:Int)<=x.2.2.1) <;> cases decide (x.2.2.1<=999) <;> cases textB x.2.2.2.1 <;> rfl
theorem implRow_eq (x:Row) (h:List.length x.2.2.2.1<=maxLen):impl_RowFault.sem (x,())=some (rowF x,()):=by
 refine lift_eq (k:=List.length x.2.2.2.1+1) fun k hk=>(impl_RowFault.raw_eq k _).trans ?_
 have:=for_loop (B:=fun self v=>impl_RowFault.B0 0 self (fun z=>impl_RowFault.Q0 0 (x,()) z) (x,()) v) x.2.2.2.1 (fun (_:Unit) (i:Int)=>i) (fun _ _ c=>if letter c then .inr () else .inl (5,())) (fun _=>(0,())) (fun _ _=>True) h
  (fun i hi _ self _=>by
   show impl_RowFault.b0 _ _ _ _=_
   unfold impl_RowFault.b0
   have hlt:(i:Int) < (List.length x.2.2.2.1:Int):=by omega
   simp only[hlt,decide_true,cond_true,Int.natCast_nonneg,if_true,Int.toNat_natCast,List.getElem?_eq_getElem hi,Option.bind_some]
   unfold letter
   by_cases h1:(((x.2.2.2.1)[i].toNat:Int) < 97) <;> by_cases h2:((122:Int) < ((x.2.2.2.1)[i].toNat:Int)) <;> simp[h1,h2]) (fun _ _ _ _ _ _=>trivial) (fun _ self _=>by
   show impl_RowFault.b0 _ _ _ _=_
   unfold impl_RowFault.b0
   simp[impl_RowFault.Q0,impl_RowFault.q0]) () trivial k (by omega)
 rw[forI_check letter (5,()) (fun _=>(0,()))] at this
 have this:impl_RowFault.r0 k (x,()) 0=_:=this
 unfold impl_RowFault.p rowF inB textB
 simp only[implIn_eq,this,Option.bind_some]
 have h8:decide ((8:Int) < (List.length x.2.2.2.1:Int))=!decide (List.length x.2.2.2.1<=8):=by
  by_cases hc:List.length x.2.2.2.1<=8
  ·have:¬ (8:Int) < (List.length x.2.2.2.1:Int):=by omega
   simp[hc,this]
  ·have:(8:Int) < (List.length x.2.2.2.1:Int):=by omega
   simp[hc,this]
 rw[h8]
 cases decide ((0:Int)<=x.1) <;> cases decide (x.1<=3) <;> cases decide ((1:Int)<=x.2.1) <;> cases decide (x.2.1<=99) <;> cases decide ((0:Int)<=x.2.2.1) <;> cases decide (x.2.2.1<=999) <;> cases decide (List.length x.2.2.2.1<=8) <;> cases (x.2.2.2.1).all letter <;> rfl
def rl (x:Row):Prop:=List.length x.2.2.2.1<=maxLen
def cl (c:Change):Prop:=rl c.2.1/\rl c.2.2.2.1
def befB (a b:Int×Int):Bool:=decide (a.1 < b.1)||(decide (a.1=b.1)&&decide (a.2 < b.2))
theorem isBefore_eq (a b:Row):impl_IsBefore.sem (a,b,())=some (befB (a.1,a.2.1) (b.1,b.2.1),()):=by
 refine lift_eq (k:=0) fun k _=>(impl_IsBefore.raw_eq k _).trans ?_
 show impl_IsBefore.p _=_
 unfold impl_IsBefore.p befB
 by_cases h1:a.1 < b.1 <;> by_cases h2:a.1=b.1 <;> simp[h1,h2]
theorem order_eq (a b:Row):impl_order.sem (a,b,())=some (if befB (a.1,a.2.1) (b.1,b.2.1) then -1 else if befB (b.1,b.2.1) (a.1,a.2.1) then 1 else 0,()):=by
 refine lift_eq (k:=0) fun k _=>(impl_order.raw_eq k _).trans ?_
 show impl_order.p _=_
 unfold impl_order.p
 simp only[isBefore_eq,Option.bind_some]
 cases befB (a.1,a.2.1) (b.1,b.2.1) <;> cases befB (b.1,b.2.1) (a.1,a.2.1) <;> rfl
end OT
set_option linter.unusedVariables false
set_option linter.unusedSimpArgs false
namespace OT
open Go
theorem for_loopE {V S O α:Type} {B:(V->Option O)->V->Option O} (xs:List α) (enc:S->Int->V) (f:Nat->S->α->Sum (Option O) S) (fin:S->Option O) (I:Nat->S->Prop) (hmax:xs.length<=maxLen)
  (hin:∀ (i:Nat) (hi:i < xs.length) (s:S) self,I i s->B self (enc s (i:Int))=match f i s xs[i] with | .inl o=>o | .inr s'=>self (enc s' (w64 ((i:Int)+1))))
  (hI:∀ (i:Nat) (hi:i < xs.length) (s s':S),I i s->f i s xs[i]=.inr s'->I (i+1) s')
  (hout:∀ (s:S) self,I xs.length s->B self (enc s (xs.length:Int))=fin s) (s:S) (h0:I 0 s):∀ k,xs.length < k->rawIter B k (enc s 0)=forI f fin 0 xs s:=by
 have main:∀ (m i:Nat) (s:S),xs.length - i=m->i<=xs.length->I i s->∀ k,m < k->rawIter B k (enc s (i:Int))=forI f fin i (xs.drop i) s:=by
  intro m
  induction m with
  | zero=>
   intro i s hm hi hs k hk
   have hi':i=xs.length:=by omega
   subst hi'
   cases k with
   | zero=>omega
   | succ k=>
    show B (rawIter B k) _=_
    rw[hout s _ hs]
    simp[forI]
  | succ m ih=>
   intro i s hm hi hs k hk
   have hlt:i < xs.length:=by omega
   cases k with
   | zero=>omega
   | succ k=>
    show B (rawIter B k) _=_
    rw[hin i hlt s _ hs,List.drop_eq_getElem_cons hlt]
    simp only[forI]
    cases hf:f i s xs[i] with
    | inl o=>rfl
    | inr s'=>
     have hw:w64 ((i:Int)+1)=((i+1:Nat):Int):=by rw[w64_in (by rw[maxLen_val] at hmax;omega)];omega
     simp only[hw]
     exact ih (i+1) s' (by omega) (by omega) (hI i hlt s s' hs hf) k (by omega)
 intro k hk
 simpa using main xs.length 0 s (by omega) (by omega) h0 k hk
theorem forI_any {O α:Type} (p:α->Bool) (a:O) (fin:Unit->O):∀ (xs:List α) (i:Nat),forI (fun _ _ x=>if p x then .inl a else .inr ()) fin i xs ()=if xs.any p then a else fin ()
 | [],_=>rfl
 | x::xs,i=>by
  simp only[forI,List.any_cons]
  by_cases h:p x=true
  ·simp[h]
  ·simp[h,forI_any p a fin xs (i+1)]
def tl (x:Tx):Prop:=List.length x.2.1<=1048576/\List.length x.2.2.1<=1048576/\List.length x.2.2.2.1<=1048576/\∀ c ∈ x.2.1,cl c
end OT
