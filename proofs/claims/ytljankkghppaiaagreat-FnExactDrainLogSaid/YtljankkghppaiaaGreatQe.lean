/- The proof's parts, merged: Printed by gen.py, a program of this claim  what each Go function computes.. No conditions but those that each states. -/
import Derived.Test.YtljankkghppaiaaGreatQd
import Derived.Test.YtljankkghppaiaaGreatProg
import Derived.KernelRfl
set_option maxRecDepth 100000
set_option linter.unusedVariables false
namespace OT
open Go Go.Proofs.Tryz
abbrev Row:Type:=(Int×Int×Int×(List UInt8)×Unit)
abbrev tRow:Ty:=(tupT [i64,i64,i64,.str])
abbrev Change:Type:=(Bool×Row×Bool×Row×Unit)
abbrev tChange:Ty:=(tupT [.bool,tRow,.bool,tRow])
abbrev Key:Type:=(Int×Int×Unit)
abbrev tKey:Ty:=(tupT [i64,i64])
abbrev Tx:Type:=(Int×(List Change)×(List Int)×(List Key)×Unit)
abbrev tTx:Ty:=(tupT [i64,(.slc tChange),(.slc i64),(.slc tKey)])
abbrev Plain:Type:=((List Row)×(List Tx)×Int×Unit)
abbrev tPlain:Ty:=(tupT [(.slc tRow),(.slc tTx),i64])
abbrev Op:Type:=(Int×Int×Row×Int×Unit)
abbrev tOp:Ty:=(tupT [i64,i64,tRow,i64])
abbrev PlainResult:Type:=(Int×Int×Plain×Unit)
abbrev tPlainResult:Ty:=(tupT [i64,i64,tPlain])
abbrev ChangeResult:Type:=(Int×Bool×Change×Unit)
abbrev tChangeResult:Ty:=(tupT [i64,.bool,tChange])
abbrev RowsResult:Type:=(Int×(List Row)×Unit)
abbrev tRowsResult:Ty:=(tupT [i64,(.slc tRow)])
abbrev TxsResult:Type:=(Int×(List Tx)×Unit)
abbrev tTxsResult:Ty:=(tupT [i64,(.slc tTx)])
abbrev RunResult:Type:=(Int×(List Int)×(List Int)×Plain×Unit)
abbrev tRunResult:Ty:=(tupT [i64,(.slc i64),(.slc i64),tPlain])
abbrev Buffer:Type:=(Int×(List Change)×Unit)
abbrev tBuffer:Ty:=(tupT [i64,(.slc tChange)])
abbrev Miner:Type:=((List (List UInt8))×(List Buffer)×Unit)
abbrev tMiner:Ty:=(tupT [(.slc (.slc u8)),(.slc tBuffer)])
abbrev Run:Type:=(Int×(List UInt8)×Unit)
abbrev tRun:Ty:=(tupT [i64,(.slc u8)])
abbrev Record:Type:=(Int×Int×Int×(List Run)×Unit)
abbrev tRecord:Ty:=(tupT [i64,i64,i64,(.slc tRun)])
abbrev CellResult:Type:=(Int×Int×Int×Int×Row×Unit)
abbrev tCellResult:Ty:=(tupT [i64,i64,i64,i64,tRow])
abbrev L6Spot:Type:=(Int×Int×CellResult×Unit)
abbrev tL6Spot:Ty:=(tupT [i64,i64,tCellResult])
abbrev MinerResult:Type:=(Int×Bool×Bool×Int×(List Change)×Miner×Unit)
abbrev tMinerResult:Ty:=(tupT [i64,.bool,.bool,i64,(.slc tChange),tMiner])
abbrev EditsResult:Type:=(Int×(List Run)×(List (List UInt8))×Unit)
abbrev tEditsResult:Ty:=(tupT [i64,(.slc tRun),(.slc (.slc u8))])
abbrev Seen:Type:=(Row×Int×Int×Bool×Int×Int×Unit)
abbrev tSeen:Ty:=(tupT [tRow,i64,i64,.bool,i64,i64])
abbrev MinedResult:Type:=(Int×(List Buffer)×Miner×Unit)
abbrev tMinedResult:Ty:=(tupT [i64,(.slc tBuffer),tMiner])
abbrev Connector:Type:=(Miner×Int×Miner×Int×Unit)
abbrev tConnector:Ty:=(tupT [tMiner,i64,tMiner,i64])
abbrev Sent:Type:=(Int×Int×(List Change)×Unit)
abbrev tSent:Ty:=(tupT [i64,i64,(.slc tChange)])
abbrev ConnectorResult:Type:=(Int×Bool×Sent×Connector×Unit)
abbrev tConnectorResult:Ty:=(tupT [i64,.bool,tSent,tConnector])
abbrev RecordResult:Type:=(Int×Int×Record×Unit)
abbrev tRecordResult:Ty:=(tupT [i64,i64,tRecord])
abbrev SentResult:Type:=(Int×(List Sent)×Connector×Unit)
abbrev tSentResult:Ty:=(tupT [i64,(.slc tSent),tConnector])
abbrev Log:Type:=((List UInt8)×(List UInt8)×Unit)
abbrev tLog:Ty:=(tupT [(.slc u8),(.slc u8)])
abbrev Store:Type:=(Bool×(List (List UInt8))×Log×(List Tx)×Int×Unit)
abbrev tStore:Ty:=(tupT [.bool,(.slc (.slc u8)),tLog,(.slc tTx),i64])
abbrev L1Src:Type:=((List UInt8)×Int×Unit)
abbrev tL1Src:Ty:=(tupT [(.slc u8),i64])
abbrev L7Work:Type:=((List (List UInt8))×(List Run)×Unit)
abbrev tL7Work:Ty:=(tupT [(.slc (.slc u8)),(.slc tRun)])
abbrev PageResult:Type:=(Int×Int×(List UInt8)×Unit)
abbrev tPageResult:Ty:=(tupT [i64,i64,(.slc u8)])
noncomputable def TL0:TL:=[(2,i64),(104,(.slc u8)),(40,tRow),(71,(.slc tChange)),(62,(.slc (.slc u8))),(5,u8),(74,tMiner),(145,tChange),(72,(.slc tBuffer)),(3,i64),(4,.bool),(342,tBuffer),(109,tConnector),(81,tRecord),(9,.str),(79,(.slc tRun)),(382,tCellResult),(346,tRun),(107,tSent),(122,(.slc tSent)),(76,tMinerResult),(32,(.slc tRow)),(124,tSentResult),(111,tConnectorResult),(379,(.slc tL6Spot)),(384,tL6Spot),(27,tRow),(63,(.slc tBuffer)),(65,tMiner),(156,tBuffer),(304,(.slc tChange)),(337,tBuffer),(490,tChange),(103,tConnector),(150,tEditsResult),(264,(.slc tSeen)),(273,tSeen),(361,tRecordResult),(463,(.arr 64 .bool)),(464,(.int .u64)),(465,(.map (.arr 2 i64) tRow)),(466,(.arr 2 i64)),(468,(.map (.arr 2 i64) .bool))]
theorem tlOk:(tiOk prog TL0&&eqOkL prog TL0)=true:=by kernel_rfl
namespace laws_szRow
abbrev Arg:Type:=Row×Int×Unit
abbrev Out:Type:=Int×Unit
noncomputable def D:FD:={ fn:=f103,tl:=TL0,ps:=[(.ro,tRow),(.ro,i64)],rs:=[(i64,(roMd i64))] }
noncomputable def sem (a:Arg):Option Out:=@lift Out fun k=>D.W k a
noncomputable def p (a1:Arg):Option Out:=bif decide (w64 (a1.2.1 - (a1.1.2.2.2.1.length:Int)) < (0:Int)) then (some ((-1:Int),())) else some (w64 (a1.2.1 - (a1.1.2.2.2.1.length:Int)),())
theorem raw_eq (k:Nat) (a1:Arg):@Eq (Option Out) (D.W k a1) (p a1):=by kernel_rfl
theorem ok:Ok prog 103 D.sig:=fd_ok func103 tlOk (by kernel_rfl) (fn_nil _)
end laws_szRow
namespace laws_szChange
abbrev Arg:Type:=Change×Int×Unit
abbrev Out:Type:=Int×Unit
noncomputable def D:FD:={ fn:=f412,tl:=TL0,ps:=[(.ro,tChange),(.ro,i64)],rs:=[(i64,(roMd i64))],gl:=[(103,laws_szRow.D.sig)] }
noncomputable def sem (a:Arg):Option Out:=@lift Out fun k=>D.W k a
noncomputable def p (a1:Arg):Option Out:=(laws_szRow.sem (a1.1.2.1,a1.2.1,())).bind fun r2=>bif decide (r2.1 < (0:Int)) then (some ((-1:Int),())) else (laws_szRow.sem (a1.1.2.2.2.1,r2.1,())).bind fun r3=>bif decide (r3.1 < (0:Int)) then (some ((-1:Int),())) else some (r3.1,())
theorem raw_eq (k:Nat) (a1:Arg):@Eq (Option Out) (D.W k a1) (p a1):=by kernel_rfl
theorem ok:Ok prog 412 D.sig:=fd_ok func412 tlOk (by kernel_rfl) (fc laws_szRow.ok (fn_nil _))
end laws_szChange
namespace laws_szChangeS
abbrev Arg:Type:=(List Change)×Int×Unit
abbrev Out:Type:=Int×Unit
abbrev OO:=Option Out
noncomputable def D:FD:={ fn:=f331,tl:=TL0,ps:=[(.ro,(.slc tChange)),(.ro,i64)],rs:=[(i64,(roMd i64))],gl:=[(412,laws_szChange.D.sig)],lv:=[(5,[0,1,5])],lx:=[(0,[1])] }
noncomputable def sem (a:Arg):OO:=@lift Out fun k=>D.W k a
noncomputable def T0 (a1:Arg) (v402:Int×Int):St:={ n:=27,sl:=[(0,.val (.slc tChange) a1.1),(1,.val i64 v402.1),(5,.val i64 v402.2)],vr:=[],lent:=[] }
noncomputable def b0 (self:(Int×Int)->OO) (e0:Int->OO) (a1:Arg) (v402:Int×Int):OO:=bif decide (v402.2 < (a1.1.length:Int)) then (if 0<=v402.2 then ((a1.1[v402.2.toNat]?).bind fun x603=>(laws_szChange.sem (x603,v402.1,())).bind fun r604=>bif decide (r604.1 < (0:Int)) then (some ((-1:Int),())) else self (r604.1,w64 (v402.2+(1:Int)))) else none) else e0 v402.1
noncomputable def q0 (a1:Arg) (z605:Int):OO:=some (z605,())
noncomputable def s0 (k:Nat) (a1:Arg):(Int×Int)->OO:=fun v402=>D.L k [1,1,1,0,1,0,0] [0,1,5] [] (blockC 0 (seqC (D.N k [1,1,1,1]) D.K0)) (T0 a1 v402)
noncomputable def r0 (k:Nat) (a1:Arg):(Int×Int)->OO:=rawIter (fun w v=>b0 w (q0 a1) a1 v) k
theorem s0_eq (k:Nat) (a1:Arg):s0 k a1=r0 k a1:=
 funext fun v402=>iter_raw _ _ _ (T0 a1) _ (fun rec v=>by kernel_rfl) k v402
noncomputable def p (l0:(Int×Int)->OO) (a1:Arg):OO:=bif decide (w64 (a1.2.1 - (a1.1.length:Int)) < (0:Int)) then (some ((-1:Int),())) else l0 (w64 (a1.2.1 - (a1.1.length:Int)),(0:Int))
theorem raw_eq (k:Nat) (a1:Arg):@Eq OO (D.W k a1) (p (r0 k a1) a1):=
 bI (b:=p (s0 k a1) a1) (by kernel_rfl) (by rw[s0_eq])
theorem ok:Ok prog 331 D.sig:=fd_ok func331 tlOk (by kernel_rfl) (fc laws_szChange.ok (fn_nil _))
end laws_szChangeS
namespace spec_l6At
abbrev Arg:Type:=(List Row)×Int×Int×Unit
abbrev Out:Type:=Int×Unit
abbrev OO:=Option Out
noncomputable def D:FD:={ fn:=f304,tl:=TL0,ps:=[(.ro,(.slc tRow)),(.ro,i64),(.ro,i64)],rs:=[(i64,(roMd i64))],lv:=[(2,[0,1,2,7])],lx:=[(0,[])] }
noncomputable def sem (a:Arg):OO:=@lift Out fun k=>D.W k a
noncomputable def T0 (a1:Arg) (v402:Int):St:={ n:=31,sl:=[(0,.val (.slc tRow) a1.1),(1,.val i64 a1.2.1),(2,.val i64 a1.2.2.1),(7,.val i64 v402)],vr:=[],lent:=[] }
noncomputable def b0 (self:Int->OO) (e0:(Unit)->OO) (a1:Arg) (v402:Int):OO:=bif decide (v402 < (a1.1.length:Int)) then (if 0<=v402 then ((a1.1[v402.toNat]?).bind fun x603=>bif decide (x603.1=a1.2.1) then (if 0<=v402 then ((a1.1[v402.toNat]?).bind fun x604=>bif decide (x604.2.1=a1.2.2.1) then (some (v402,())) else self (w64 (v402+(1:Int)))) else none) else self (w64 (v402+(1:Int)))) else none) else e0 ()
noncomputable def q0 (a1:Arg) (z605:(Unit)):OO:=some ((-1:Int),())
noncomputable def s0 (k:Nat) (a1:Arg):(Int)->OO:=fun v402=>D.L k [1,0,1,0,0] [0,1,2,7] [] (blockC 0 (seqC (D.N k [1,1]) D.K0)) (T0 a1 v402)
noncomputable def r0 (k:Nat) (a1:Arg):(Int)->OO:=rawIter (fun w v=>b0 w (q0 a1) a1 v) k
theorem s0_eq (k:Nat) (a1:Arg):s0 k a1=r0 k a1:=
 funext fun v402=>iter_raw _ _ _ (T0 a1) _ (fun rec v=>by kernel_rfl) k v402
noncomputable def p (l0:(Int)->OO) (a1:Arg):OO:=l0 (0:Int)
theorem raw_eq (k:Nat) (a1:Arg):@Eq OO (D.W k a1) (p (r0 k a1) a1):=
 bI (b:=p (s0 k a1) a1) (by kernel_rfl) (by rw[s0_eq])
theorem ok:Ok prog 304 D.sig:=fd_ok func304 tlOk (by kernel_rfl) (fn_nil _)
end spec_l6At
namespace spec_l1Before
abbrev Arg:Type:=Row×Row×Unit
abbrev Out:Type:=Bool×Unit
noncomputable def D:FD:={ fn:=f334,tl:=TL0,ps:=[(.ro,(.ptr tRow)),(.ro,(.ptr tRow))],rs:=[(.bool,(roMd .bool))],od:=[(1,[0,1,2,3,4,5,6,7,8,9,10,11,12,13,14,15,16,17,18,19,20,21,22,23,24,25,26,27,28,29,30,31])] }
noncomputable def sem (a:Arg):Option Out:=@lift Out fun k=>D.W k a
noncomputable def p (a1:Arg):Option Out:=bif decide (a1.1.1 < a1.2.1.1) then (some (true,())) else bif decide (a1.1.1=a1.2.1.1) then (some (decide (a1.1.2.1 < a1.2.1.2.1),())) else some (false,())
theorem raw_eq (k:Nat) (a1:Arg):@Eq (Option Out) (D.W k a1) (p a1):=by kernel_rfl
theorem ok:Ok prog 334 D.sig:=fd_ok func334 tlOk (by kernel_rfl) (fn_nil _)
end spec_l1Before
namespace spec_l6Put
abbrev Arg:Type:=(List Row)×Row×Unit
abbrev Out:Type:=(List Row)×Unit
abbrev OO:=Option Out
noncomputable def D:FD:={ fn:=f305,tl:=TL0,ps:=[(.ro,(.slc tRow)),(.ro,tRow)],rs:=[((.slc tRow),(ownMd (.slc tRow)))],gl:=[(334,spec_l1Before.D.sig)],lv:=[(2,[0,3,5])],lx:=[(0,[0,3,5])],od:=[(5,[0,1,4,5,6,2,3,7,8])] }
noncomputable def sem (a:Arg):OO:=@lift Out fun k=>D.W k a
noncomputable def T0 (a1:Arg) (v402:Int):St:={ n:=32,sl:=[(0,.val (.slc tRow) a1.1),(3,.box tRow (roMd tRow) [] a1.2.1),(5,.val i64 v402)],vr:=[],lent:=[] }
noncomputable def b0 (self:Int->OO) (e0:Int->OO) (a1:Arg) (v402:Int):OO:=bif decide (v402 < (a1.1.length:Int)) then (if 0<=v402 then ((a1.1[v402.toNat]?).bind fun x603=>(spec_l1Before.sem (x603,a1.2.1,())).bind fun r604=>bif r604.1 then (self (w64 (v402+(1:Int)))) else e0 v402) else none) else e0 v402
noncomputable def q0 (a1:Arg) (z605:Int):OO:=if 0<=z605/\z605<=(a1.1.length:Int) then (if ([]:List Row).length+((a1.1.take z605.toNat).drop 0).length<=CAP then (let y606:=([]:List Row)++((a1.1.take z605.toNat).drop 0);if 0<=z605/\z605<=(a1.1.length:Int) then (if y606.length+[a1.2.1].length<=CAP then (if (y606++[a1.2.1]).length+((a1.1.take a1.1.length).drop z605.toNat).length<=CAP then (let y607:=(y606++[a1.2.1])++((a1.1.take a1.1.length).drop z605.toNat);some (y607,())) else none) else none) else none) else none) else none
noncomputable def s0 (k:Nat) (a1:Arg):(Int)->OO:=fun v402=>D.L k [1,1,0,0,0] [0,3,5] [] (blockC 0 (seqC (D.N k [1,1,1]) D.K0)) (T0 a1 v402)
noncomputable def r0 (k:Nat) (a1:Arg):(Int)->OO:=rawIter (fun w v=>b0 w (q0 a1) a1 v) k
theorem s0_eq (k:Nat) (a1:Arg):s0 k a1=r0 k a1:=
 funext fun v402=>iter_raw _ _ _ (T0 a1) _ (fun rec v=>by kernel_rfl) k v402
noncomputable def p (l0:(Int)->OO) (a1:Arg):OO:=l0 (0:Int)
theorem raw_eq (k:Nat) (a1:Arg):@Eq OO (D.W k a1) (p (r0 k a1) a1):=
 bI (b:=p (s0 k a1) a1) (by kernel_rfl) (by rw[s0_eq])
theorem ok:Ok prog 305 D.sig:=fd_ok func305 tlOk (by kernel_rfl) (fc spec_l1Before.ok (fn_nil _))
end spec_l6Put
namespace spec_l6Key
abbrev Arg:Type:=Change×Unit
abbrev Out:Type:=Int×Int×Unit
noncomputable def D:FD:={ fn:=f321,tl:=TL0,ps:=[(.ro,(.ptr tChange))],rs:=[(i64,(roMd i64)),(i64,(roMd i64))],od:=[(2,[0,1,2,3,4,5,6,7,8,9,10,11]),(3,[0,1,2,3,4,5,6,7,8,9,10,11])] }
noncomputable def sem (a:Arg):Option Out:=@lift Out fun k=>D.W k a
noncomputable def p (a1:Arg):Option Out:=bif a1.1.2.2.1 then (some (a1.1.2.2.2.1.1,a1.1.2.2.2.1.2.1,())) else some (a1.1.2.1.1,a1.1.2.1.2.1,())
theorem raw_eq (k:Nat) (a1:Arg):@Eq (Option Out) (D.W k a1) (p a1):=by kernel_rfl
theorem ok:Ok prog 321 D.sig:=fd_ok func321 tlOk (by kernel_rfl) (fn_nil _)
end spec_l6Key
namespace spec_l1In
abbrev Arg:Type:=Int×Int×Int×Unit
abbrev Out:Type:=Bool×Unit
noncomputable def D:FD:={ fn:=f218,tl:=TL0,ps:=[(.ro,i64),(.ro,i64),(.ro,i64)],rs:=[(.bool,(roMd .bool))] }
noncomputable def sem (a:Arg):Option Out:=@lift Out fun k=>D.W k a
noncomputable def p (a1:Arg):Option Out:=bif decide (a1.2.1<=a1.1) then (some (decide (a1.1<=a1.2.2.1),())) else some (false,())
theorem raw_eq (k:Nat) (a1:Arg):@Eq (Option Out) (D.W k a1) (p a1):=by kernel_rfl
theorem ok:Ok prog 218 D.sig:=fd_ok func218 tlOk (by kernel_rfl) (fn_nil _)
end spec_l1In
namespace spec_l1Text
abbrev Arg:Type:=(List UInt8)×Unit
abbrev Out:Type:=Bool×Unit
abbrev OO:=Option Out
noncomputable def D:FD:={ fn:=f403,tl:=TL0,ps:=[(.ro,.str)],rs:=[(.bool,(roMd .bool))],lv:=[(2,[0,3])],lx:=[(0,[0])] }
noncomputable def sem (a:Arg):OO:=@lift Out fun k=>D.W k a
noncomputable def T0 (a1:Arg) (v402:Int):St:={ n:=23,sl:=[(0,.val .str a1.1),(3,.val i64 v402)],vr:=[],lent:=[] }
noncomputable def b0 (self:Int->OO) (e0:(Unit)->OO) (a1:Arg) (v402:Int):OO:=bif decide (v402 < (a1.1.length:Int)) then (if 0<=v402 then ((a1.1[v402.toNat]?).bind fun x603=>bif decide ((x603.toNat:Int) < (97:Int)) then (some (false,())) else if 0<=v402 then ((a1.1[v402.toNat]?).bind fun x604=>bif decide ((122:Int) < (x604.toNat:Int)) then (some (false,())) else self (w64 (v402+(1:Int)))) else none) else none) else e0 ()
noncomputable def q0 (a1:Arg) (z605:(Unit)):OO:=some (decide ((a1.1.length:Int)<=(8:Int)),())
noncomputable def s0 (k:Nat) (a1:Arg):(Int)->OO:=fun v402=>D.L k [1,0,1,0,0] [0,3] [] (blockC 0 (seqC (D.N k [1,1]) D.K0)) (T0 a1 v402)
noncomputable def r0 (k:Nat) (a1:Arg):(Int)->OO:=rawIter (fun w v=>b0 w (q0 a1) a1 v) k
theorem s0_eq (k:Nat) (a1:Arg):s0 k a1=r0 k a1:=
 funext fun v402=>iter_raw _ _ _ (T0 a1) _ (fun rec v=>by kernel_rfl) k v402
noncomputable def p (l0:(Int)->OO) (a1:Arg):OO:=l0 (0:Int)
theorem raw_eq (k:Nat) (a1:Arg):@Eq OO (D.W k a1) (p (r0 k a1) a1):=
 bI (b:=p (s0 k a1) a1) (by kernel_rfl) (by rw[s0_eq])
theorem ok:Ok prog 403 D.sig:=fd_ok func403 tlOk (by kernel_rfl) (fn_nil _)
end spec_l1Text
namespace spec_l1Fault
abbrev Arg:Type:=Row×Unit
abbrev Out:Type:=Int×Unit
noncomputable def D:FD:={ fn:=f320,tl:=TL0,ps:=[(.ro,(.ptr tRow))],rs:=[(i64,(roMd i64))],gl:=[(218,spec_l1In.D.sig),(403,spec_l1Text.D.sig)] }
noncomputable def sem (a:Arg):Option Out:=@lift Out fun k=>D.W k a
noncomputable def p (a1:Arg):Option Out:=(spec_l1In.sem (a1.1.1,(0:Int),(3:Int),())).bind fun r2=>bif !r2.1 then (some ((3:Int),())) else (spec_l1In.sem (a1.1.2.1,(1:Int),(99:Int),())).bind fun r3=>bif !r3.1 then (some ((3:Int),())) else (spec_l1In.sem (a1.1.2.2.1,(0:Int),(999:Int),())).bind fun r4=>bif !r4.1 then (some ((3:Int),())) else (spec_l1Text.sem (a1.1.2.2.2.1,())).bind fun r5=>bif !r5.1 then (some ((5:Int),())) else some ((0:Int),())
theorem raw_eq (k:Nat) (a1:Arg):@Eq (Option Out) (D.W k a1) (p a1):=by kernel_rfl
theorem ok:Ok prog 320 D.sig:=fd_ok func320 tlOk (by kernel_rfl) (fc spec_l1In.ok (fc spec_l1Text.ok (fn_nil _)))
end spec_l1Fault
namespace spec_l6Change
abbrev Arg:Type:=Change×Unit
abbrev Out:Type:=Int×Unit
noncomputable def D:FD:={ fn:=f205,tl:=TL0,ps:=[(.ro,(.ptr tChange))],rs:=[(i64,(roMd i64))],gl:=[(320,spec_l1Fault.D.sig)],od:=[(1,[0,1,2,3,4,5,6,7,8,9,10,11,12,13,14,15,16,17,18,19,20,21,22,23,24,25,26,27,28,29,30,31,32,33,34,35,36,37,38,39,40,41,42,43,44,45,46,47,48,49])] }
noncomputable def sem (a:Arg):Option Out:=@lift Out fun k=>D.W k a
noncomputable def p (a1:Arg):Option Out:=let j5:Option Out:=bif a1.1.1 then ((spec_l1Fault.sem (a1.1.2.1,())).bind fun r6=>bif !decide (r6.1=(0:Int)) then (some (r6.1,())) else bif a1.1.2.2.1 then ((spec_l1Fault.sem (a1.1.2.2.2.1,())).bind fun r8=>some (r8.1,())) else some ((0:Int),())) else bif a1.1.2.2.1 then ((spec_l1Fault.sem (a1.1.2.2.2.1,())).bind fun r9=>some (r9.1,())) else some ((0:Int),());bif !a1.1.1 then (bif !a1.1.2.2.1 then (some ((1:Int),())) else bif a1.1.1 then (bif a1.1.2.2.1 then (bif !decide (a1.1.2.1.1=a1.1.2.2.2.1.1) then (some ((1:Int),())) else bif !decide (a1.1.2.1.2.1=a1.1.2.2.2.1.2.1) then (some ((1:Int),())) else j5) else j5) else j5) else bif a1.1.1 then (bif a1.1.2.2.1 then (bif !decide (a1.1.2.1.1=a1.1.2.2.2.1.1) then (some ((1:Int),())) else bif !decide (a1.1.2.1.2.1=a1.1.2.2.2.1.2.1) then (some ((1:Int),())) else j5) else j5) else j5
theorem raw_eq (k:Nat) (a1:Arg):@Eq (Option Out) (D.W k a1) (p a1):=by kernel_rfl
theorem ok:Ok prog 205 D.sig:=fd_ok func205 tlOk (by kernel_rfl) (fc spec_l1Fault.ok (fn_nil _))
end spec_l6Change
namespace spec_l9Change
abbrev Arg:Type:=Change×Unit
abbrev Out:Type:=Int×Unit
noncomputable def D:FD:={ fn:=f360,tl:=TL0,ps:=[(.ro,(.ptr tChange))],rs:=[(i64,(roMd i64))],gl:=[(205,spec_l6Change.D.sig)],od:=[(4,[0,1,2,3,4,5,6,7,8,9,10,11,12,13,14,15,16,17,18,19,20])] }
noncomputable def sem (a:Arg):Option Out:=@lift Out fun k=>D.W k a
noncomputable def p (a1:Arg):Option Out:=(spec_l6Change.sem (a1.1,())).bind fun r2=>bif !decide (r2.1=(0:Int)) then (some (r2.1,())) else bif a1.1.1 then (bif a1.1.2.2.1 then (bif (Ty.eq tRow a1.1.2.1 a1.1.2.2.2.1) then (some ((1:Int),())) else some ((0:Int),())) else some ((0:Int),())) else some ((0:Int),())
theorem raw_eq (k:Nat) (a1:Arg):@Eq (Option Out) (D.W k a1) (p a1):=by kernel_rfl
theorem ok:Ok prog 360 D.sig:=fd_ok func360 tlOk (by kernel_rfl) (fc spec_l6Change.ok (fn_nil _))
end spec_l9Change
namespace laws_toRow
abbrev Arg:Type:=Row×Unit
abbrev Out:Type:=Row×Unit
noncomputable def D:FD:={ fn:=f110,tl:=TL0,ps:=[(.ro,tRow)],rs:=[(tRow,(roMd tRow))] }
noncomputable def sem (a:Arg):Option Out:=@lift Out fun k=>D.W k a
noncomputable def p (a1:Arg):Option Out:=some ((a1.1.1,a1.1.2.1,a1.1.2.2.1,a1.1.2.2.2.1,()),())
theorem raw_eq (k:Nat) (a1:Arg):@Eq (Option Out) (D.W k a1) (p a1):=by kernel_rfl
theorem ok:Ok prog 110 D.sig:=fd_ok func110 tlOk (by kernel_rfl) (fn_nil _)
end laws_toRow
namespace laws_toChange
abbrev Arg:Type:=Change×Unit
abbrev Out:Type:=Change×Unit
noncomputable def D:FD:={ fn:=f419,tl:=TL0,ps:=[(.ro,tChange)],rs:=[(tChange,(roMd tChange))],gl:=[(110,laws_toRow.D.sig)] }
noncomputable def sem (a:Arg):Option Out:=@lift Out fun k=>D.W k a
noncomputable def p (a1:Arg):Option Out:=(laws_toRow.sem (a1.1.2.1,())).bind fun r2=>(laws_toRow.sem (a1.1.2.2.2.1,())).bind fun r3=>some ((a1.1.1,r2.1,a1.1.2.2.1,r3.1,()),())
theorem raw_eq (k:Nat) (a1:Arg):@Eq (Option Out) (D.W k a1) (p a1):=by kernel_rfl
theorem ok:Ok prog 419 D.sig:=fd_ok func419 tlOk (by kernel_rfl) (fc laws_toRow.ok (fn_nil _))
end laws_toChange
namespace laws_toChangeS
abbrev Arg:Type:=(List Change)×Unit
abbrev Out:Type:=(List Change)×Unit
abbrev OO:=Option Out
noncomputable def D:FD:={ fn:=f346,tl:=TL0,ps:=[(.ro,(.slc tChange))],rs:=[((.slc tChange),(ownMd (.slc tChange)))],gl:=[(419,laws_toChange.D.sig)],lv:=[(3,[0,3,4])],lx:=[(0,[3])] }
noncomputable def sem (a:Arg):OO:=@lift Out fun k=>D.W k a
noncomputable def T0 (a1:Arg) (v402:(List Change)×Int):St:={ n:=23,sl:=[(0,.val (.slc tChange) a1.1),(3,.own (.slc tChange) (ownMd (.slc tChange)) [] v402.1),(4,.val i64 v402.2)],vr:=[],lent:=[] }
noncomputable def b0 (self:((List Change)×Int)->OO) (e0:(List Change)->OO) (a1:Arg) (v402:(List Change)×Int):OO:=bif decide (v402.2 < (a1.1.length:Int)) then (if 0<=v402.2 then ((a1.1[v402.2.toNat]?).bind fun x603=>(laws_toChange.sem (x603,())).bind fun r604=>if 0<=v402.2/\v402.2 < (v402.1.length:Int) then ((v402.1[v402.2.toNat]?).bind fun x605=>self (v402.1.set v402.2.toNat r604.1,w64 (v402.2+(1:Int)))) else none) else none) else e0 v402.1
noncomputable def q0 (a1:Arg) (z606:(List Change)):OO:=some (z606,())
noncomputable def s0 (k:Nat) (a1:Arg):((List Change)×Int)->OO:=fun v402=>D.L k [1,1,0,1,0,0] [0,3,4] [] (blockC 0 (seqC (D.N k [1,1,1]) D.K0)) (T0 a1 v402)
noncomputable def r0 (k:Nat) (a1:Arg):((List Change)×Int)->OO:=rawIter (fun w v=>b0 w (q0 a1) a1 v) k
theorem s0_eq (k:Nat) (a1:Arg):s0 k a1=r0 k a1:=
 funext fun v402=>iter_raw _ _ _ (T0 a1) _ (fun rec v=>by kernel_rfl) k v402
noncomputable def p (l0:((List Change)×Int)->OO) (a1:Arg):OO:=if 0<=(a1.1.length:Int)/\(a1.1.length:Int)<=(a1.1.length:Int)/\(a1.1.length:Int)<=(CAP:Int) then (l0 (List.replicate (a1.1.length:Int).toNat (false,((0:Int),(0:Int),(0:Int),([]:List UInt8),()),false,((0:Int),(0:Int),(0:Int),([]:List UInt8),()),()),(0:Int))) else none
theorem raw_eq (k:Nat) (a1:Arg):@Eq OO (D.W k a1) (p (r0 k a1) a1):=
 bI (b:=p (s0 k a1) a1) (by kernel_rfl) (by rw[s0_eq])
theorem ok:Ok prog 346 D.sig:=fd_ok func346 tlOk (by kernel_rfl) (fc laws_toChange.ok (fn_nil _))
end laws_toChangeS
namespace impl_IsBefore
abbrev Arg:Type:=Row×Row×Unit
abbrev Out:Type:=Bool×Unit
noncomputable def D:FD:={ fn:=f326,tl:=TL0,ps:=[(.ro,tRow),(.ro,tRow)],rs:=[(.bool,(roMd .bool))] }
noncomputable def sem (a:Arg):Option Out:=@lift Out fun k=>D.W k a
noncomputable def p (a1:Arg):Option Out:=bif decide (a1.1.1 < a1.2.1.1) then (some (true,())) else bif decide (a1.1.1=a1.2.1.1) then (some (decide (a1.1.2.1 < a1.2.1.2.1),())) else some (false,())
theorem raw_eq (k:Nat) (a1:Arg):@Eq (Option Out) (D.W k a1) (p a1):=by kernel_rfl
theorem ok:Ok prog 326 D.sig:=fd_ok func326 tlOk (by kernel_rfl) (fn_nil _)
end impl_IsBefore
namespace impl_order
abbrev Arg:Type:=Row×Row×Unit
abbrev Out:Type:=Int×Unit
noncomputable def D:FD:={ fn:=f312,tl:=TL0,ps:=[(.ro,tRow),(.ro,tRow)],rs:=[(i64,(roMd i64))],gl:=[(326,impl_IsBefore.D.sig)] }
noncomputable def sem (a:Arg):Option Out:=@lift Out fun k=>D.W k a
noncomputable def p (a1:Arg):Option Out:=(impl_IsBefore.sem (a1.1,a1.2.1,())).bind fun r2=>bif r2.1 then (some ((-1:Int),())) else (impl_IsBefore.sem (a1.2.1,a1.1,())).bind fun r3=>bif r3.1 then (some ((1:Int),())) else some ((0:Int),())
theorem raw_eq (k:Nat) (a1:Arg):@Eq (Option Out) (D.W k a1) (p a1):=by kernel_rfl
theorem ok:Ok prog 312 D.sig:=fd_ok func312 tlOk (by kernel_rfl) (fc impl_IsBefore.ok (fn_nil _))
end impl_order
namespace impl_in
abbrev Arg:Type:=Int×Int×Int×Unit
abbrev Out:Type:=Bool×Unit
noncomputable def D:FD:={ fn:=f214,tl:=TL0,ps:=[(.ro,i64),(.ro,i64),(.ro,i64)],rs:=[(.bool,(roMd .bool))] }
noncomputable def sem (a:Arg):Option Out:=@lift Out fun k=>D.W k a
noncomputable def p (a1:Arg):Option Out:=bif decide (a1.2.1<=a1.1) then (some (decide (a1.1<=a1.2.2.1),())) else some (false,())
theorem raw_eq (k:Nat) (a1:Arg):@Eq (Option Out) (D.W k a1) (p a1):=by kernel_rfl
theorem ok:Ok prog 214 D.sig:=fd_ok func214 tlOk (by kernel_rfl) (fn_nil _)
end impl_in
namespace impl_RowFault
abbrev Arg:Type:=Row×Unit
abbrev Out:Type:=Int×Unit
abbrev OO:=Option Out
noncomputable def D:FD:={ fn:=f313,tl:=TL0,ps:=[(.ro,tRow)],rs:=[(i64,(roMd i64))],gl:=[(214,impl_in.D.sig)],lv:=[(6,[1,26,27])],lx:=[(0,[])] }
noncomputable def sem (a:Arg):OO:=@lift Out fun k=>D.W k a
noncomputable def T0 (a1:Arg) (v405:Int):St:={ n:=43,sl:=[(1,.box tRow (roMd tRow) [] a1.1),(26,.val i64 (a1.1.2.2.2.1.length:Int)),(27,.val i64 v405)],vr:=[],lent:=[] }
noncomputable def b0 (self:Int->OO) (e0:(Unit)->OO) (a1:Arg) (v405:Int):OO:=bif decide (v405 < (a1.1.2.2.2.1.length:Int)) then (if 0<=v405 then ((a1.1.2.2.2.1[v405.toNat]?).bind fun x606=>bif decide ((x606.toNat:Int) < (97:Int)) then (some ((5:Int),())) else if 0<=v405 then ((a1.1.2.2.2.1[v405.toNat]?).bind fun x607=>bif decide ((122:Int) < (x607.toNat:Int)) then (some ((5:Int),())) else self (w64 (v405+(1:Int)))) else none) else none) else e0 ()
noncomputable def q0 (a1:Arg) (z608:(Unit)):OO:=some ((0:Int),())
noncomputable def s0 (k:Nat) (a1:Arg):(Int)->OO:=fun v405=>D.L k [1,1,1,0,1,0,0] [1,26,27] [] (blockC 0 (seqC (D.N k [1,1,1,1]) D.K0)) (T0 a1 v405)
noncomputable def r0 (k:Nat) (a1:Arg):(Int)->OO:=rawIter (fun w v=>b0 w (q0 a1) a1 v) k
theorem s0_eq (k:Nat) (a1:Arg):s0 k a1=r0 k a1:=
 funext fun v405=>iter_raw _ _ _ (T0 a1) _ (fun rec v=>by kernel_rfl) k v405
noncomputable def p (l0:(Int)->OO) (a1:Arg):OO:=(impl_in.sem (a1.1.1,(0:Int),(3:Int),())).bind fun r2=>bif !r2.1 then (some ((3:Int),())) else (impl_in.sem (a1.1.2.1,(1:Int),(99:Int),())).bind fun r3=>bif !r3.1 then (some ((3:Int),())) else (impl_in.sem (a1.1.2.2.1,(0:Int),(999:Int),())).bind fun r4=>bif !r4.1 then (some ((3:Int),())) else bif decide ((8:Int) < (a1.1.2.2.2.1.length:Int)) then (some ((5:Int),())) else l0 (0:Int)
theorem raw_eq (k:Nat) (a1:Arg):@Eq OO (D.W k a1) (p (r0 k a1) a1):=
 bI (b:=p (s0 k a1) a1) (by kernel_rfl) (by rw[s0_eq])
theorem ok:Ok prog 313 D.sig:=fd_ok func313 tlOk (by kernel_rfl) (fc impl_in.ok (fn_nil _))
end impl_RowFault
namespace impl_changeFault
abbrev Arg:Type:=Change×Unit
abbrev Out:Type:=Int×Unit
noncomputable def D:FD:={ fn:=f193,tl:=TL0,ps:=[(.ro,tChange)],rs:=[(i64,(roMd i64))],gl:=[(312,impl_order.D.sig),(313,impl_RowFault.D.sig)] }
noncomputable def sem (a:Arg):Option Out:=@lift Out fun k=>D.W k a
noncomputable def p (a1:Arg):Option Out:=let j7:Option Out:=bif a1.1.1 then ((impl_RowFault.sem (a1.1.2.1,())).bind fun r8=>bif !decide (r8.1=(0:Int)) then (some (r8.1,())) else bif a1.1.2.2.1 then ((impl_RowFault.sem (a1.1.2.2.2.1,())).bind fun r10=>some (r10.1,())) else some ((0:Int),())) else bif a1.1.2.2.1 then ((impl_RowFault.sem (a1.1.2.2.2.1,())).bind fun r11=>some (r11.1,())) else some ((0:Int),());bif !a1.1.1 then (bif !a1.1.2.2.1 then (some ((1:Int),())) else bif a1.1.1 then (bif a1.1.2.2.1 then ((impl_order.sem (a1.1.2.1,a1.1.2.2.2.1,())).bind fun r2=>bif !decide (r2.1=(0:Int)) then (some ((1:Int),())) else j7) else j7) else j7) else bif a1.1.1 then (bif a1.1.2.2.1 then ((impl_order.sem (a1.1.2.1,a1.1.2.2.2.1,())).bind fun r3=>bif !decide (r3.1=(0:Int)) then (some ((1:Int),())) else j7) else j7) else j7
theorem raw_eq (k:Nat) (a1:Arg):@Eq (Option Out) (D.W k a1) (p a1):=by kernel_rfl
theorem ok:Ok prog 193 D.sig:=fd_ok func193 tlOk (by kernel_rfl) (fc impl_order.ok (fc impl_RowFault.ok (fn_nil _)))
end impl_changeFault
namespace impl_Change_key
abbrev Arg:Type:=Change×Unit
abbrev Out:Type:=Row×Unit
noncomputable def D:FD:={ fn:=f198,tl:=TL0,ps:=[(.ro,tChange)],rs:=[(tRow,(roMd tRow))] }
noncomputable def sem (a:Arg):Option Out:=@lift Out fun k=>D.W k a
noncomputable def p (a1:Arg):Option Out:=bif a1.1.2.2.1 then (some (a1.1.2.2.2.1,())) else some (a1.1.2.1,())
theorem raw_eq (k:Nat) (a1:Arg):@Eq (Option Out) (D.W k a1) (p a1):=by kernel_rfl
theorem ok:Ok prog 198 D.sig:=fd_ok func198 tlOk (by kernel_rfl) (fn_nil _)
end impl_Change_key
namespace impl_isTx
abbrev Arg:Type:=Int×Unit
abbrev Out:Type:=Bool×Unit
noncomputable def D:FD:={ fn:=f271,tl:=TL0,ps:=[(.ro,i64)],rs:=[(.bool,(roMd .bool))],gl:=[(214,impl_in.D.sig)] }
noncomputable def sem (a:Arg):Option Out:=@lift Out fun k=>D.W k a
noncomputable def p (a1:Arg):Option Out:=(impl_in.sem (a1.1,(1:Int),(99:Int),())).bind fun r2=>some (r2.1,())
theorem raw_eq (k:Nat) (a1:Arg):@Eq (Option Out) (D.W k a1) (p a1):=by kernel_rfl
theorem ok:Ok prog 271 D.sig:=fd_ok func271 tlOk (by kernel_rfl) (fc impl_in.ok (fn_nil _))
end impl_isTx
namespace impl_singleFault
abbrev Arg:Type:=Change×Unit
abbrev Out:Type:=Int×Unit
noncomputable def D:FD:={ fn:=f246,tl:=TL0,ps:=[(.ro,tChange)],rs:=[(i64,(roMd i64))],gl:=[(193,impl_changeFault.D.sig)] }
noncomputable def sem (a:Arg):Option Out:=@lift Out fun k=>D.W k a
noncomputable def p (a1:Arg):Option Out:=(impl_changeFault.sem (a1.1,())).bind fun r2=>bif !decide (r2.1=(0:Int)) then (some (r2.1,())) else bif a1.1.1 then (bif a1.1.2.2.1 then (bif (Ty.eq tRow a1.1.2.1 a1.1.2.2.2.1) then (some ((1:Int),())) else some ((0:Int),())) else some ((0:Int),())) else some ((0:Int),())
theorem raw_eq (k:Nat) (a1:Arg):@Eq (Option Out) (D.W k a1) (p a1):=by kernel_rfl
theorem ok:Ok prog 246 D.sig:=fd_ok func246 tlOk (by kernel_rfl) (fc impl_changeFault.ok (fn_nil _))
end impl_singleFault
namespace slices_Clone_Change
abbrev Arg:Type:=(List Change)×Unit
abbrev Out:Type:=(List Change)×Unit
noncomputable def D:FD:={ fn:=f353,tl:=TL0,ps:=[(.ro,(.slc tChange))],rs:=[((.slc tChange),(ownMd (.slc tChange)))] }
noncomputable def sem (a:Arg):Option Out:=@lift Out fun k=>D.W k a
noncomputable def p (a1:Arg):Option Out:=nilB a1.1 (some (([]:List Change),())) (if ([]:List Change).length+a1.1.length<=CAP then (some (([]:List Change)++a1.1,())) else none)
theorem raw_eq (k:Nat) (a1:Arg):@Eq (Option Out) (D.W k a1) (p a1):=by kernel_rfl
theorem ok:Ok prog 353 D.sig:=fd_ok func353 tlOk (by kernel_rfl) (fn_nil _)
end slices_Clone_Change
namespace laws_eqRow
abbrev Arg:Type:=Row×Row×Unit
abbrev Out:Type:=Bool×Unit
noncomputable def D:FD:={ fn:=f253,tl:=TL0,ps:=[(.ro,tRow),(.ro,tRow)],rs:=[(.bool,(roMd .bool))] }
noncomputable def sem (a:Arg):Option Out:=@lift Out fun k=>D.W k a
noncomputable def p (a1:Arg):Option Out:=bif !decide (a1.1.1=a1.2.1.1) then (some (false,())) else bif !decide (a1.1.2.1=a1.2.1.2.1) then (some (false,())) else bif !decide (a1.1.2.2.1=a1.2.1.2.2.1) then (some (false,())) else bif !decide (a1.1.2.2.2.1=a1.2.1.2.2.2.1) then (some (false,())) else some (true,())
theorem raw_eq (k:Nat) (a1:Arg):@Eq (Option Out) (D.W k a1) (p a1):=by kernel_rfl
theorem ok:Ok prog 253 D.sig:=fd_ok func253 tlOk (by kernel_rfl) (fn_nil _)
end laws_eqRow
namespace laws_eqChange
abbrev Arg:Type:=Change×Change×Unit
abbrev Out:Type:=Bool×Unit
noncomputable def D:FD:={ fn:=f278,tl:=TL0,ps:=[(.ro,tChange),(.ro,tChange)],rs:=[(.bool,(roMd .bool))],gl:=[(253,laws_eqRow.D.sig)] }
noncomputable def sem (a:Arg):Option Out:=@lift Out fun k=>D.W k a
noncomputable def p (a1:Arg):Option Out:=bif !(a1.1.1 == a1.2.1.1) then (some (false,())) else (laws_eqRow.sem (a1.1.2.1,a1.2.1.2.1,())).bind fun r2=>bif !r2.1 then (some (false,())) else bif !(a1.1.2.2.1 == a1.2.1.2.2.1) then (some (false,())) else (laws_eqRow.sem (a1.1.2.2.2.1,a1.2.1.2.2.2.1,())).bind fun r3=>bif !r3.1 then (some (false,())) else some (true,())
theorem raw_eq (k:Nat) (a1:Arg):@Eq (Option Out) (D.W k a1) (p a1):=by kernel_rfl
theorem ok:Ok prog 278 D.sig:=fd_ok func278 tlOk (by kernel_rfl) (fc laws_eqRow.ok (fn_nil _))
end laws_eqChange
namespace laws_eqChangeS
abbrev Arg:Type:=(List Change)×(List Change)×Unit
abbrev Out:Type:=Bool×Unit
abbrev OO:=Option Out
noncomputable def D:FD:={ fn:=f139,tl:=TL0,ps:=[(.ro,(.slc tChange)),(.ro,(.slc tChange))],rs:=[(.bool,(roMd .bool))],gl:=[(278,laws_eqChange.D.sig)],lv:=[(4,[0,1,5])],lx:=[(0,[])],od:=[(6,[0,1,2,3,4,5,6,7,8,9])] }
noncomputable def sem (a:Arg):OO:=@lift Out fun k=>D.W k a
noncomputable def T0 (a1:Arg) (v402:Int):St:={ n:=27,sl:=[(0,.val (.slc tChange) a1.1),(1,.val (.slc tChange) a1.2.1),(5,.val i64 v402)],vr:=[],lent:=[] }
noncomputable def b0 (self:Int->OO) (e0:(Unit)->OO) (a1:Arg) (v402:Int):OO:=bif decide (v402 < (a1.1.length:Int)) then (if 0<=v402 then ((a1.1[v402.toNat]?).bind fun x603=>if 0<=v402 then ((a1.2.1[v402.toNat]?).bind fun x604=>(laws_eqChange.sem (x603,x604,())).bind fun r605=>bif !r605.1 then (some (false,())) else self (w64 (v402+(1:Int)))) else none) else none) else e0 ()
noncomputable def q0 (a1:Arg) (z606:(Unit)):OO:=some (true,())
noncomputable def s0 (k:Nat) (a1:Arg):(Int)->OO:=fun v402=>D.L k [1,1,0,1,0,0] [0,1,5] [] (blockC 0 (seqC (D.N k [1,1,1]) D.K0)) (T0 a1 v402)
noncomputable def r0 (k:Nat) (a1:Arg):(Int)->OO:=rawIter (fun w v=>b0 w (q0 a1) a1 v) k
theorem s0_eq (k:Nat) (a1:Arg):s0 k a1=r0 k a1:=
 funext fun v402=>iter_raw _ _ _ (T0 a1) _ (fun rec v=>by kernel_rfl) k v402
noncomputable def p (l0:(Int)->OO) (a1:Arg):OO:=bif !decide ((a1.1.length:Int)=(a1.2.1.length:Int)) then (some (false,())) else l0 (0:Int)
theorem raw_eq (k:Nat) (a1:Arg):@Eq OO (D.W k a1) (p (r0 k a1) a1):=
 bI (b:=p (s0 k a1) a1) (by kernel_rfl) (by rw[s0_eq])
theorem ok:Ok prog 139 D.sig:=fd_ok func139 tlOk (by kernel_rfl) (fc laws_eqChange.ok (fn_nil _))
end laws_eqChangeS
namespace laws_markText
abbrev Arg:Type:=Int×Unit
abbrev Out:Type:=(List UInt8)×Unit
abbrev OO:=Option Out
noncomputable def D:FD:={ fn:=f124,tl:=TL0,ps:=[(.ro,i64)],rs:=[(.str,(roMd .str))],lv:=[(4,[0,3])],lx:=[(0,[3])] }
noncomputable def sem (a:Arg):OO:=@lift Out fun k=>D.W k a
noncomputable def T0 (a1:Arg) (v402:Int×(List UInt8)):St:={ n:=20,sl:=[(0,.val i64 v402.1),(3,.val .str v402.2)],vr:=[],lent:=[] }
noncomputable def b0 (self:(Int×(List UInt8))->OO) (e0:(List UInt8)->OO) (a1:Arg) (v402:Int×(List UInt8)):OO:=bif decide ((0:Int) < v402.1) then (if [UInt8.ofInt (w64 ((48:Int)+(v402.1.tmod (10:Int))))].length+v402.2.length<=CAP then (self (w64 (v402.1.tdiv (10:Int)),[UInt8.ofInt (w64 ((48:Int)+(v402.1.tmod (10:Int))))]++v402.2)) else none) else e0 v402.2
noncomputable abbrev B0 (_:Nat):=b0
noncomputable def q0 (a1:Arg) (z603:(List UInt8)):OO:=if ([109]:List UInt8).length+z603.length<=CAP then (some (([109]:List UInt8)++z603,())) else none
noncomputable abbrev Q0 (_:Nat):=q0
noncomputable def s0 (k:Nat) (a1:Arg):(Int×(List UInt8))->OO:=fun v402=>D.L k [1,1,1,0,0,0] [0,3] [] (blockC 0 (seqC (D.N k [1,1,1,1]) D.K0)) (T0 a1 v402)
noncomputable def r0 (k:Nat) (a1:Arg):(Int×(List UInt8))->OO:=rawIter (fun w v=>B0 k w (Q0 k a1) a1 v) k
theorem s0_eq (k:Nat) (a1:Arg):s0 k a1=r0 k a1:=
 funext fun v402=>iter_raw _ _ _ (T0 a1) _ (fun rec v=>by kernel_rfl) k v402
noncomputable def p (l0:(Int×(List UInt8))->OO) (a1:Arg):OO:=bif decide (a1.1<=(0:Int)) then (some (([109,48]:List UInt8),())) else l0 (a1.1,([]:List UInt8))
theorem raw_eq (k:Nat) (a1:Arg):@Eq OO (D.W k a1) (p (r0 k a1) a1):=
 bI (b:=p (s0 k a1) a1) (by kernel_rfl) (by rw[s0_eq])
theorem ok:Ok prog 124 D.sig:=fd_ok func124 tlOk (by kernel_rfl) (fn_nil _)
end laws_markText
namespace laws_markChangeS
abbrev Arg:Type:=(List Change)×Int×Unit
abbrev Out:Type:=Int×(List Change)×Unit
abbrev OO:=Option Out
noncomputable def D:FD:={ fn:=f146,tl:=TL0,ps:=[(.muts (ownMd (.slc tChange)),(.slc tChange)),(.ro,i64)],rs:=[(i64,(roMd i64))],gl:=[(124,laws_markText.D.sig)],es:=[0],lv:=[(2,[0,1,5])],lx:=[(0,[0,1])] }
noncomputable def sem (a:Arg):OO:=@lift Out fun k=>D.W k a
noncomputable def T0 (a1:Arg) (v402:(List Change)×Int×Int):St:={ n:=97,sl:=[(0,.own (.slc tChange) (ownMd (.slc tChange)) [] v402.1),(1,.val i64 v402.2.1),(5,.val i64 v402.2.2)],vr:=[],lent:=[(0,0,true)] }
noncomputable def b0 (self:((List Change)×Int×Int)->OO) (e0:((List Change)×Int)->OO) (a1:Arg) (v402:(List Change)×Int×Int):OO:=bif decide (v402.2.2 < (v402.1.length:Int)) then (if 0<=v402.2.2/\v402.2.2 < (v402.1.length:Int) then ((v402.1[v402.2.2.toNat]?).bind fun x603=>let y604:=v402.1.set v402.2.2.toNat (decide (v402.2.1.tmod (3:Int)=(0:Int)),x603.2);if 0<=v402.2.2/\v402.2.2 < (y604.length:Int) then ((y604[v402.2.2.toNat]?).bind fun x605=>let y606:=y604.set v402.2.2.toNat (x605.1,(w64 (v402.2.1+(1:Int)),x605.2.1.2),x605.2.2);if 0<=v402.2.2/\v402.2.2 < (y606.length:Int) then ((y606[v402.2.2.toNat]?).bind fun x607=>let y608:=y606.set v402.2.2.toNat (x607.1,(x607.2.1.1,w64 ((w64 (v402.2.1+(1:Int)))+(1:Int)),x607.2.1.2.2),x607.2.2);if 0<=v402.2.2/\v402.2.2 < (y608.length:Int) then ((y608[v402.2.2.toNat]?).bind fun x609=>let y610:=y608.set v402.2.2.toNat (x609.1,(x609.2.1.1,x609.2.1.2.1,w64 ((w64 ((w64 (v402.2.1+(1:Int)))+(1:Int)))+(1:Int)),x609.2.1.2.2.2),x609.2.2);(laws_markText.sem (w64 ((w64 ((w64 ((w64 (v402.2.1+(1:Int)))+(1:Int)))+(1:Int)))+(1:Int)),())).bind fun r611=>if 0<=v402.2.2/\v402.2.2 < (y610.length:Int) then ((y610[v402.2.2.toNat]?).bind fun x612=>let y613:=y610.set v402.2.2.toNat (x612.1,(x612.2.1.1,x612.2.1.2.1,x612.2.1.2.2.1,r611.1,x612.2.1.2.2.2.2),x612.2.2);if 0<=v402.2.2/\v402.2.2 < (y613.length:Int) then ((y613[v402.2.2.toNat]?).bind fun x614=>let y615:=y613.set v402.2.2.toNat (x614.1,x614.2.1,decide ((w64 ((w64 ((w64 ((w64 ((w64 (v402.2.1+(1:Int)))+(1:Int)))+(1:Int)))+(1:Int)))+(1:Int))).tmod (3:Int)=(0:Int)),x614.2.2.2);if 0<=v402.2.2/\v402.2.2 < (y615.length:Int) then ((y615[v402.2.2.toNat]?).bind fun x616=>let y617:=y615.set v402.2.2.toNat (x616.1,x616.2.1,x616.2.2.1,(w64 ((w64 ((w64 ((w64 ((w64 ((w64 (v402.2.1+(1:Int)))+(1:Int)))+(1:Int)))+(1:Int)))+(1:Int)))+(1:Int)),x616.2.2.2.1.2),x616.2.2.2.2);if 0<=v402.2.2/\v402.2.2 < (y617.length:Int) then ((y617[v402.2.2.toNat]?).bind fun x618=>let y619:=y617.set v402.2.2.toNat (x618.1,x618.2.1,x618.2.2.1,(x618.2.2.2.1.1,w64 ((w64 ((w64 ((w64 ((w64 ((w64 ((w64 (v402.2.1+(1:Int)))+(1:Int)))+(1:Int)))+(1:Int)))+(1:Int)))+(1:Int)))+(1:Int)),x618.2.2.2.1.2.2),x618.2.2.2.2);if 0<=v402.2.2/\v402.2.2 < (y619.length:Int) then ((y619[v402.2.2.toNat]?).bind fun x620=>let y621:=y619.set v402.2.2.toNat (x620.1,x620.2.1,x620.2.2.1,(x620.2.2.2.1.1,x620.2.2.2.1.2.1,w64 ((w64 ((w64 ((w64 ((w64 ((w64 ((w64 ((w64 (v402.2.1+(1:Int)))+(1:Int)))+(1:Int)))+(1:Int)))+(1:Int)))+(1:Int)))+(1:Int)))+(1:Int)),x620.2.2.2.1.2.2.2),x620.2.2.2.2);(laws_markText.sem (w64 ((w64 ((w64 ((w64 ((w64 ((w64 ((w64 ((w64 ((w64 (v402.2.1+(1:Int)))+(1:Int)))+(1:Int)))+(1:Int)))+(1:Int)))+(1:Int)))+(1:Int)))+(1:Int)))+(1:Int)),())).bind fun r622=>if 0<=v402.2.2/\v402.2.2 < (y621.length:Int) then ((y621[v402.2.2.toNat]?).bind fun x623=>let y624:=y621.set v402.2.2.toNat (x623.1,x623.2.1,x623.2.2.1,(x623.2.2.2.1.1,x623.2.2.2.1.2.1,x623.2.2.2.1.2.2.1,r622.1,x623.2.2.2.1.2.2.2.2),x623.2.2.2.2);self (y624,w64 ((w64 ((w64 ((w64 ((w64 ((w64 ((w64 ((w64 ((w64 ((w64 (v402.2.1+(1:Int)))+(1:Int)))+(1:Int)))+(1:Int)))+(1:Int)))+(1:Int)))+(1:Int)))+(1:Int)))+(1:Int)))+(1:Int)),w64 (v402.2.2+(1:Int)))) else none) else none) else none) else none) else none) else none) else none) else none) else none) else none) else e0 (v402.1,v402.2.1)
noncomputable def q0 (a1:Arg) (z625:((List Change)×Int)):OO:=some (z625.2,z625.1,())
noncomputable def s0 (k:Nat) (a1:Arg):((List Change)×Int×Int)->OO:=fun v402=>D.L k [1,0,1,0,0] [0,1,5] [] (blockC 0 (seqC (D.N k [1,1]) D.K0)) (T0 a1 v402)
noncomputable def r0 (k:Nat) (a1:Arg):((List Change)×Int×Int)->OO:=rawIter (fun w v=>b0 w (q0 a1) a1 v) k
theorem s0_eq (k:Nat) (a1:Arg):s0 k a1=r0 k a1:=
 funext fun v402=>iter_raw _ _ _ (T0 a1) _ (fun rec v=>by kernel_rfl) k v402
noncomputable def p (l0:((List Change)×Int×Int)->OO) (a1:Arg):OO:=l0 (a1.1,a1.2.1,(0:Int))
theorem raw_eq (k:Nat) (a1:Arg):@Eq OO (D.W k a1) (p (r0 k a1) a1):=
 bI (b:=p (s0 k a1) a1) (by kernel_rfl) (by rw[s0_eq])
theorem ok:Ok prog 146 D.sig:=fd_ok func146 tlOk (by kernel_rfl) (fc laws_markText.ok (fn_nil _))
end laws_markChangeS
namespace laws_heldChangeS
abbrev Arg:Type:=(List Change)×Int×Unit
abbrev Out:Type:=Int×Unit
abbrev OO:=Option Out
noncomputable def D:FD:={ fn:=f147,tl:=TL0,ps:=[(.ro,(.slc tChange)),(.ro,i64)],rs:=[(i64,(roMd i64))],gl:=[(124,laws_markText.D.sig)],lv:=[(2,[0,1,5])],lx:=[(0,[1])],od:=[(16,[0,1,2,3,4,5,6,7,8]),(31,[0,1,2,3,4,5,6,7,8])] }
noncomputable def sem (a:Arg):OO:=@lift Out fun k=>D.W k a
noncomputable def T0 (a1:Arg) (v402:Int×Int):St:={ n:=117,sl:=[(0,.val (.slc tChange) a1.1),(1,.val i64 v402.1),(5,.val i64 v402.2)],vr:=[],lent:=[] }
noncomputable def b0 (self:(Int×Int)->OO) (e0:Int->OO) (a1:Arg) (v402:Int×Int):OO:=bif decide (v402.2 < (a1.1.length:Int)) then (if 0<=v402.2 then ((a1.1[v402.2.toNat]?).bind fun x603=>bif !(x603.1 == (decide (v402.1.tmod (3:Int)=(0:Int)))) then (some ((-1:Int),())) else if 0<=v402.2 then ((a1.1[v402.2.toNat]?).bind fun x604=>bif !decide (x604.2.1.1=w64 (v402.1+(1:Int))) then (some ((-1:Int),())) else if 0<=v402.2 then ((a1.1[v402.2.toNat]?).bind fun x605=>bif !decide (x605.2.1.2.1=w64 ((w64 (v402.1+(1:Int)))+(1:Int))) then (some ((-1:Int),())) else if 0<=v402.2 then ((a1.1[v402.2.toNat]?).bind fun x606=>bif !decide (x606.2.1.2.2.1=w64 ((w64 ((w64 (v402.1+(1:Int)))+(1:Int)))+(1:Int))) then (some ((-1:Int),())) else if 0<=v402.2 then ((a1.1[v402.2.toNat]?).bind fun x607=>(laws_markText.sem (w64 ((w64 ((w64 ((w64 (v402.1+(1:Int)))+(1:Int)))+(1:Int)))+(1:Int)),())).bind fun r608=>bif !decide (x607.2.1.2.2.2.1=r608.1) then (some ((-1:Int),())) else if 0<=v402.2 then ((a1.1[v402.2.toNat]?).bind fun x609=>bif !(x609.2.2.1 == (decide ((w64 ((w64 ((w64 ((w64 ((w64 (v402.1+(1:Int)))+(1:Int)))+(1:Int)))+(1:Int)))+(1:Int))).tmod (3:Int)=(0:Int)))) then (some ((-1:Int),())) else if 0<=v402.2 then ((a1.1[v402.2.toNat]?).bind fun x610=>bif !decide (x610.2.2.2.1.1=w64 ((w64 ((w64 ((w64 ((w64 ((w64 (v402.1+(1:Int)))+(1:Int)))+(1:Int)))+(1:Int)))+(1:Int)))+(1:Int))) then (some ((-1:Int),())) else if 0<=v402.2 then ((a1.1[v402.2.toNat]?).bind fun x611=>bif !decide (x611.2.2.2.1.2.1=w64 ((w64 ((w64 ((w64 ((w64 ((w64 ((w64 (v402.1+(1:Int)))+(1:Int)))+(1:Int)))+(1:Int)))+(1:Int)))+(1:Int)))+(1:Int))) then (some ((-1:Int),())) else if 0<=v402.2 then ((a1.1[v402.2.toNat]?).bind fun x612=>bif !decide (x612.2.2.2.1.2.2.1=w64 ((w64 ((w64 ((w64 ((w64 ((w64 ((w64 ((w64 (v402.1+(1:Int)))+(1:Int)))+(1:Int)))+(1:Int)))+(1:Int)))+(1:Int)))+(1:Int)))+(1:Int))) then (some ((-1:Int),())) else if 0<=v402.2 then ((a1.1[v402.2.toNat]?).bind fun x613=>(laws_markText.sem (w64 ((w64 ((w64 ((w64 ((w64 ((w64 ((w64 ((w64 ((w64 (v402.1+(1:Int)))+(1:Int)))+(1:Int)))+(1:Int)))+(1:Int)))+(1:Int)))+(1:Int)))+(1:Int)))+(1:Int)),())).bind fun r614=>bif !decide (x613.2.2.2.1.2.2.2.1=r614.1) then (some ((-1:Int),())) else self (w64 ((w64 ((w64 ((w64 ((w64 ((w64 ((w64 ((w64 ((w64 ((w64 (v402.1+(1:Int)))+(1:Int)))+(1:Int)))+(1:Int)))+(1:Int)))+(1:Int)))+(1:Int)))+(1:Int)))+(1:Int)))+(1:Int)),w64 (v402.2+(1:Int)))) else none) else none) else none) else none) else none) else none) else none) else none) else none) else none) else e0 v402.1
noncomputable def q0 (a1:Arg) (z615:Int):OO:=some (z615,())
noncomputable def s0 (k:Nat) (a1:Arg):(Int×Int)->OO:=fun v402=>D.L k [1,0,1,0,0] [0,1,5] [] (blockC 0 (seqC (D.N k [1,1]) D.K0)) (T0 a1 v402)
noncomputable def r0 (k:Nat) (a1:Arg):(Int×Int)->OO:=rawIter (fun w v=>b0 w (q0 a1) a1 v) k
theorem s0_eq (k:Nat) (a1:Arg):s0 k a1=r0 k a1:=
 funext fun v402=>iter_raw _ _ _ (T0 a1) _ (fun rec v=>by kernel_rfl) k v402
noncomputable def p (l0:(Int×Int)->OO) (a1:Arg):OO:=l0 (a1.2.1,(0:Int))
theorem raw_eq (k:Nat) (a1:Arg):@Eq OO (D.W k a1) (p (r0 k a1) a1):=
 bI (b:=p (s0 k a1) a1) (by kernel_rfl) (by rw[s0_eq])
theorem ok:Ok prog 147 D.sig:=fd_ok func147 tlOk (by kernel_rfl) (fc laws_markText.ok (fn_nil _))
end laws_heldChangeS
namespace laws_szByteS
abbrev Arg:Type:=(List UInt8)×Int×Unit
abbrev Out:Type:=Int×Unit
noncomputable def D:FD:={ fn:=f258,tl:=TL0,ps:=[(.ro,(.slc u8)),(.ro,i64)],rs:=[(i64,(roMd i64))] }
noncomputable def sem (a:Arg):Option Out:=@lift Out fun k=>D.W k a
noncomputable def p (a1:Arg):Option Out:=bif decide (w64 (a1.2.1 - (a1.1.length:Int)) < (0:Int)) then (some ((-1:Int),())) else some (w64 (a1.2.1 - (a1.1.length:Int)),())
theorem raw_eq (k:Nat) (a1:Arg):@Eq (Option Out) (D.W k a1) (p a1):=by kernel_rfl
theorem ok:Ok prog 258 D.sig:=fd_ok func258 tlOk (by kernel_rfl) (fn_nil _)
end laws_szByteS
namespace laws_szByteSS
abbrev Arg:Type:=(List (List UInt8))×Int×Unit
abbrev Out:Type:=Int×Unit
abbrev OO:=Option Out
noncomputable def D:FD:={ fn:=f127,tl:=TL0,ps:=[(.ro,(.slc (.slc u8))),(.ro,i64)],rs:=[(i64,(roMd i64))],gl:=[(258,laws_szByteS.D.sig)],lv:=[(5,[0,1,5])],lx:=[(0,[1])] }
noncomputable def sem (a:Arg):OO:=@lift Out fun k=>D.W k a
noncomputable def T0 (a1:Arg) (v402:Int×Int):St:={ n:=27,sl:=[(0,.val (.slc (.slc u8)) a1.1),(1,.val i64 v402.1),(5,.val i64 v402.2)],vr:=[],lent:=[] }
noncomputable def b0 (self:(Int×Int)->OO) (e0:Int->OO) (a1:Arg) (v402:Int×Int):OO:=bif decide (v402.2 < (a1.1.length:Int)) then (if 0<=v402.2 then ((a1.1[v402.2.toNat]?).bind fun x603=>(laws_szByteS.sem (x603,v402.1,())).bind fun r604=>bif decide (r604.1 < (0:Int)) then (some ((-1:Int),())) else self (r604.1,w64 (v402.2+(1:Int)))) else none) else e0 v402.1
noncomputable def q0 (a1:Arg) (z605:Int):OO:=some (z605,())
noncomputable def s0 (k:Nat) (a1:Arg):(Int×Int)->OO:=fun v402=>D.L k [1,1,1,0,1,0,0] [0,1,5] [] (blockC 0 (seqC (D.N k [1,1,1,1]) D.K0)) (T0 a1 v402)
noncomputable def r0 (k:Nat) (a1:Arg):(Int×Int)->OO:=rawIter (fun w v=>b0 w (q0 a1) a1 v) k
theorem s0_eq (k:Nat) (a1:Arg):s0 k a1=r0 k a1:=
 funext fun v402=>iter_raw _ _ _ (T0 a1) _ (fun rec v=>by kernel_rfl) k v402
noncomputable def p (l0:(Int×Int)->OO) (a1:Arg):OO:=bif decide (w64 (a1.2.1 - (a1.1.length:Int)) < (0:Int)) then (some ((-1:Int),())) else l0 (w64 (a1.2.1 - (a1.1.length:Int)),(0:Int))
theorem raw_eq (k:Nat) (a1:Arg):@Eq OO (D.W k a1) (p (r0 k a1) a1):=
 bI (b:=p (s0 k a1) a1) (by kernel_rfl) (by rw[s0_eq])
theorem ok:Ok prog 127 D.sig:=fd_ok func127 tlOk (by kernel_rfl) (fc laws_szByteS.ok (fn_nil _))
end laws_szByteSS
namespace laws_szBuffer
abbrev Arg:Type:=Buffer×Int×Unit
abbrev Out:Type:=Int×Unit
noncomputable def D:FD:={ fn:=f259,tl:=TL0,ps:=[(.ro,tBuffer),(.ro,i64)],rs:=[(i64,(roMd i64))],gl:=[(331,laws_szChangeS.D.sig)] }
noncomputable def sem (a:Arg):Option Out:=@lift Out fun k=>D.W k a
noncomputable def p (a1:Arg):Option Out:=(laws_szChangeS.sem (a1.1.2.1,a1.2.1,())).bind fun r2=>bif decide (r2.1 < (0:Int)) then (some ((-1:Int),())) else some (r2.1,())
theorem raw_eq (k:Nat) (a1:Arg):@Eq (Option Out) (D.W k a1) (p a1):=by kernel_rfl
theorem ok:Ok prog 259 D.sig:=fd_ok func259 tlOk (by kernel_rfl) (fc laws_szChangeS.ok (fn_nil _))
end laws_szBuffer
namespace laws_szBufferS
abbrev Arg:Type:=(List Buffer)×Int×Unit
abbrev Out:Type:=Int×Unit
abbrev OO:=Option Out
noncomputable def D:FD:={ fn:=f128,tl:=TL0,ps:=[(.ro,(.slc tBuffer)),(.ro,i64)],rs:=[(i64,(roMd i64))],gl:=[(259,laws_szBuffer.D.sig)],lv:=[(5,[0,1,5])],lx:=[(0,[1])] }
noncomputable def sem (a:Arg):OO:=@lift Out fun k=>D.W k a
noncomputable def T0 (a1:Arg) (v402:Int×Int):St:={ n:=27,sl:=[(0,.val (.slc tBuffer) a1.1),(1,.val i64 v402.1),(5,.val i64 v402.2)],vr:=[],lent:=[] }
noncomputable def b0 (self:(Int×Int)->OO) (e0:Int->OO) (a1:Arg) (v402:Int×Int):OO:=bif decide (v402.2 < (a1.1.length:Int)) then (if 0<=v402.2 then ((a1.1[v402.2.toNat]?).bind fun x603=>(laws_szBuffer.sem (x603,v402.1,())).bind fun r604=>bif decide (r604.1 < (0:Int)) then (some ((-1:Int),())) else self (r604.1,w64 (v402.2+(1:Int)))) else none) else e0 v402.1
noncomputable def q0 (a1:Arg) (z605:Int):OO:=some (z605,())
noncomputable def s0 (k:Nat) (a1:Arg):(Int×Int)->OO:=fun v402=>D.L k [1,1,1,0,1,0,0] [0,1,5] [] (blockC 0 (seqC (D.N k [1,1,1,1]) D.K0)) (T0 a1 v402)
noncomputable def r0 (k:Nat) (a1:Arg):(Int×Int)->OO:=rawIter (fun w v=>b0 w (q0 a1) a1 v) k
theorem s0_eq (k:Nat) (a1:Arg):s0 k a1=r0 k a1:=
 funext fun v402=>iter_raw _ _ _ (T0 a1) _ (fun rec v=>by kernel_rfl) k v402
noncomputable def p (l0:(Int×Int)->OO) (a1:Arg):OO:=bif decide (w64 (a1.2.1 - (a1.1.length:Int)) < (0:Int)) then (some ((-1:Int),())) else l0 (w64 (a1.2.1 - (a1.1.length:Int)),(0:Int))
theorem raw_eq (k:Nat) (a1:Arg):@Eq OO (D.W k a1) (p (r0 k a1) a1):=
 bI (b:=p (s0 k a1) a1) (by kernel_rfl) (by rw[s0_eq])
theorem ok:Ok prog 128 D.sig:=fd_ok func128 tlOk (by kernel_rfl) (fc laws_szBuffer.ok (fn_nil _))
end laws_szBufferS
namespace laws_szMiner
abbrev Arg:Type:=Miner×Int×Unit
abbrev Out:Type:=Int×Unit
noncomputable def D:FD:={ fn:=f35,tl:=TL0,ps:=[(.ro,tMiner),(.ro,i64)],rs:=[(i64,(roMd i64))],gl:=[(127,laws_szByteSS.D.sig),(128,laws_szBufferS.D.sig)] }
noncomputable def sem (a:Arg):Option Out:=@lift Out fun k=>D.W k a
noncomputable def p (a1:Arg):Option Out:=(laws_szByteSS.sem (a1.1.1,a1.2.1,())).bind fun r2=>bif decide (r2.1 < (0:Int)) then (some ((-1:Int),())) else (laws_szBufferS.sem (a1.1.2.1,r2.1,())).bind fun r3=>bif decide (r3.1 < (0:Int)) then (some ((-1:Int),())) else some (r3.1,())
theorem raw_eq (k:Nat) (a1:Arg):@Eq (Option Out) (D.W k a1) (p a1):=by kernel_rfl
theorem ok:Ok prog 35 D.sig:=fd_ok func35 tlOk (by kernel_rfl) (fc laws_szByteSS.ok (fc laws_szBufferS.ok (fn_nil _)))
end laws_szMiner
namespace spec_l2Count
abbrev Arg:Type:=(List UInt8)×Unit
abbrev Out:Type:=Int×Unit
noncomputable def D:FD:={ fn:=f390,tl:=TL0,ps:=[(.ro,(.slc u8))],rs:=[(i64,(roMd i64))] }
noncomputable def sem (a:Arg):Option Out:=@lift Out fun k=>D.W k a
noncomputable def p (a1:Arg):Option Out:=(a1.1[0]?).bind fun x2=>some (w64 (x2.toNat:Int),())
theorem raw_eq (k:Nat) (a1:Arg):@Eq (Option Out) (D.W k a1) (p a1):=by kernel_rfl
theorem ok:Ok prog 390 D.sig:=fd_ok func390 tlOk (by kernel_rfl) (fn_nil _)
end spec_l2Count
namespace spec_l2Size
abbrev Arg:Type:=(List UInt8)×Int×Unit
abbrev Out:Type:=Int×Unit
noncomputable def D:FD:={ fn:=f391,tl:=TL0,ps:=[(.ro,(.slc u8)),(.ro,i64)],rs:=[(i64,(roMd i64))] }
noncomputable def sem (a:Arg):Option Out:=@lift Out fun k=>D.W k a
noncomputable def p (a1:Arg):Option Out:=if 0<=w64 ((3:Int)+(w64 ((2:Int)*a1.2.1))) then ((a1.1[(w64 ((3:Int)+(w64 ((2:Int)*a1.2.1)))).toNat]?).bind fun x2=>some (w64 (x2.toNat:Int),())) else none
theorem raw_eq (k:Nat) (a1:Arg):@Eq (Option Out) (D.W k a1) (p a1):=by kernel_rfl
theorem ok:Ok prog 391 D.sig:=fd_ok func391 tlOk (by kernel_rfl) (fn_nil _)
end spec_l2Size
namespace spec_l2Low
abbrev Arg:Type:=(List UInt8)×Unit
abbrev Out:Type:=Int×Unit
noncomputable def D:FD:={ fn:=f434,tl:=TL0,ps:=[(.ro,(.slc u8))],rs:=[(i64,(roMd i64))] }
noncomputable def sem (a:Arg):Option Out:=@lift Out fun k=>D.W k a
noncomputable def p (a1:Arg):Option Out:=(a1.1[1]?).bind fun x2=>some (w64 (x2.toNat:Int),())
theorem raw_eq (k:Nat) (a1:Arg):@Eq (Option Out) (D.W k a1) (p a1):=by kernel_rfl
theorem ok:Ok prog 434 D.sig:=fd_ok func434 tlOk (by kernel_rfl) (fn_nil _)
end spec_l2Low
namespace spec_l2Place
abbrev Arg:Type:=(List UInt8)×Int×Unit
abbrev Out:Type:=Int×Unit
noncomputable def D:FD:={ fn:=f439,tl:=TL0,ps:=[(.ro,(.slc u8)),(.ro,i64)],rs:=[(i64,(roMd i64))] }
noncomputable def sem (a:Arg):Option Out:=@lift Out fun k=>D.W k a
noncomputable def p (a1:Arg):Option Out:=if 0<=w64 ((2:Int)+(w64 ((2:Int)*a1.2.1))) then ((a1.1[(w64 ((2:Int)+(w64 ((2:Int)*a1.2.1)))).toNat]?).bind fun x2=>some (w64 (x2.toNat:Int),())) else none
theorem raw_eq (k:Nat) (a1:Arg):@Eq (Option Out) (D.W k a1) (p a1):=by kernel_rfl
theorem ok:Ok prog 439 D.sig:=fd_ok func439 tlOk (by kernel_rfl) (fn_nil _)
end spec_l2Place
namespace spec_l2Slot
abbrev Arg:Type:=(List UInt8)×Int×Unit
abbrev Out:Type:=Bool×Unit
noncomputable def D:FD:={ fn:=f436,tl:=TL0,ps:=[(.ro,(.slc u8)),(.ro,i64)],rs:=[(.bool,(roMd .bool))],gl:=[(391,spec_l2Size.D.sig),(434,spec_l2Low.D.sig),(439,spec_l2Place.D.sig)] }
noncomputable def sem (a:Arg):Option Out:=@lift Out fun k=>D.W k a
noncomputable def p (a1:Arg):Option Out:=(spec_l2Place.sem (a1.1,a1.2.1,())).bind fun r2=>(spec_l2Size.sem (a1.1,a1.2.1,())).bind fun r3=>bif decide (r2.1=(0:Int)) then (some (decide (r2.1=r3.1),())) else bif decide (r3.1=(0:Int)) then (some (decide (r2.1=r3.1),())) else (spec_l2Low.sem (a1.1,())).bind fun r4=>bif decide (r4.1<=r2.1) then (some (decide (w64 (r2.1+r3.1)<=(64:Int)),())) else some (false,())
theorem raw_eq (k:Nat) (a1:Arg):@Eq (Option Out) (D.W k a1) (p a1):=by kernel_rfl
theorem ok:Ok prog 436 D.sig:=fd_ok func436 tlOk (by kernel_rfl) (fc spec_l2Size.ok (fc spec_l2Low.ok (fc spec_l2Place.ok (fn_nil _))))
end spec_l2Slot
namespace spec_l2Apart
abbrev Arg:Type:=(List UInt8)×Int×Int×Unit
abbrev Out:Type:=Bool×Unit
noncomputable def D:FD:={ fn:=f437,tl:=TL0,ps:=[(.ro,(.slc u8)),(.ro,i64),(.ro,i64)],rs:=[(.bool,(roMd .bool))],gl:=[(391,spec_l2Size.D.sig),(439,spec_l2Place.D.sig)] }
noncomputable def sem (a:Arg):Option Out:=@lift Out fun k=>D.W k a
noncomputable def p (a1:Arg):Option Out:=(spec_l2Size.sem (a1.1,a1.2.1,())).bind fun r2=>bif decide (r2.1=(0:Int)) then (some (true,())) else (spec_l2Size.sem (a1.1,a1.2.2.1,())).bind fun r3=>bif decide (r3.1=(0:Int)) then (some (true,())) else (spec_l2Place.sem (a1.1,a1.2.1,())).bind fun r4=>(spec_l2Size.sem (a1.1,a1.2.1,())).bind fun r5=>(spec_l2Place.sem (a1.1,a1.2.2.1,())).bind fun r6=>bif decide (w64 (r4.1+r5.1)<=r6.1) then (some (true,())) else (spec_l2Place.sem (a1.1,a1.2.2.1,())).bind fun r7=>(spec_l2Size.sem (a1.1,a1.2.2.1,())).bind fun r8=>(spec_l2Place.sem (a1.1,a1.2.1,())).bind fun r9=>some (decide (w64 (r7.1+r8.1)<=r9.1),())
theorem raw_eq (k:Nat) (a1:Arg):@Eq (Option Out) (D.W k a1) (p a1):=by kernel_rfl
theorem ok:Ok prog 437 D.sig:=fd_ok func437 tlOk (by kernel_rfl) (fc spec_l2Size.ok (fc spec_l2Place.ok (fn_nil _)))
end spec_l2Apart
namespace spec_l2Fault
abbrev Arg:Type:=(List UInt8)×Unit
abbrev Out:Type:=Int×Unit
abbrev OO:=Option Out
noncomputable def D:FD:={ fn:=f389,tl:=TL0,ps:=[(.ro,(.slc u8))],rs:=[(i64,(roMd i64))],gl:=[(390,spec_l2Count.D.sig),(391,spec_l2Size.D.sig),(434,spec_l2Low.D.sig),(436,spec_l2Slot.D.sig),(437,spec_l2Apart.D.sig)],lv:=[(7,[0,3,4]),(12,[0,3,5]),(15,[0,3,5,6])],lx:=[(0,[0,3]),(2,[0,3]),(4,[0,3,5])] }
noncomputable def sem (a:Arg):OO:=@lift Out fun k=>D.W k a
noncomputable def T0 (a1:Arg) (c406:Int) (v405:Int):St:={ n:=60,sl:=[(0,.val (.slc u8) a1.1),(3,.val i64 c406),(4,.val i64 v405)],vr:=[],lent:=[] }
noncomputable def S0 (rec:RT Out) (a1:Arg) (c406:Int):(Int)->OO:=fun v405=>rec (T0 a1 c406 v405)
noncomputable def X0_0 (K:KT Out) (a1:Arg) (c406:Int):(Unit)->OO:=fun z=>K (.exit 0) ({ n:=60,sl:=[(0,.val (.slc u8) a1.1),(3,.val i64 c406)],vr:=[],lent:=[] })
noncomputable def b0 (self:Int->OO) (e0:(Unit)->OO) (a1:Arg) (c406:Int) (v405:Int):OO:=bif decide (v405 < c406) then ((spec_l2Slot.sem (a1.1,v405,())).bind fun r607=>bif !r607.1 then (some ((3:Int),())) else self (w64 (v405+(1:Int)))) else e0 ()
theorem B0_eq (k:Nat) (rec:RT Out) (K:KT Out) (a1:Arg) (c406:Int) (v405:Int):D.N k [1,1,1,1,0,1,0,0] (T0 a1 c406 v405) (loopC rec (keepF [0,3,4] []) K)=b0 (S0 rec a1 c406) (X0_0 K a1 c406) a1 c406 v405:=by kernel_rfl
noncomputable def T1 (a1:Arg) (v1009:(List UInt8)×Int×Int):St:={ n:=60,sl:=[(0,.val (.slc u8) v1009.1),(3,.val i64 v1009.2.1),(5,.val i64 v1009.2.2)],vr:=[],lent:=[] }
noncomputable def S1 (rec:RT Out) (a1:Arg):((List UInt8)×Int×Int)->OO:=fun v1009=>rec (T1 a1 v1009)
noncomputable def X1_2 (K:KT Out) (a1:Arg):((List UInt8)×Int)->OO:=fun z=>K (.exit 2) ({ n:=60,sl:=[(0,.val (.slc u8) z.1),(3,.val i64 z.2)],vr:=[],lent:=[] })
noncomputable def T2 (a1:Arg) (c1611:List UInt8) (c1612:Int) (c1613:Int) (v1610:Int):St:={ n:=60,sl:=[(0,.val (.slc u8) c1611),(3,.val i64 c1612),(5,.val i64 c1613),(6,.val i64 v1610)],vr:=[],lent:=[] }
noncomputable def b2 (self:Int->OO) (e4:(Unit)->OO) (a1:Arg) (c1611:List UInt8) (c1612:Int) (c1613:Int) (v1610:Int):OO:=bif decide (v1610 < c1613) then ((spec_l2Apart.sem (c1611,c1613,v1610,())).bind fun r1814=>bif !r1814.1 then (some ((8:Int),())) else self (w64 (v1610+(1:Int)))) else e4 ()
noncomputable def q1 (self:((List UInt8)×Int×Int)->OO) (e2:((List UInt8)×Int)->OO) (a1:Arg) (c1611:List UInt8) (c1612:Int) (c1613:Int) (z1815:(Unit)):OO:=self (c1611,c1612,w64 (c1613+(1:Int)))
noncomputable def s2 (k:Nat) (rec:RT Out) (K:KT Out) (a1:Arg):(List UInt8)->Int->Int->(Int)->OO:=fun c1611 c1612 c1613=>fun v1610=>D.L k [1,1,1,1,1,0,1,0,0,1,0,0,1,0,0] [0,3,5,6] [] (blockC 4 (blockC 3 (seqC (D.N k [1,1,1,1,1,0,1,0,0,1,1]) (loopC rec (keepF [0,3,5] []) K)))) (T2 a1 c1611 c1612 c1613 v1610)
noncomputable def r2 (k:Nat) (self:((List UInt8)×Int×Int)->OO) (e2:((List UInt8)×Int)->OO) (a1:Arg):(List UInt8)->Int->Int->(Int)->OO:=fun c1611 c1612 c1613=>rawIter (fun w v=>b2 w (q1 self e2 a1 c1611 c1612 c1613) a1 c1611 c1612 c1613 v) k
theorem s2_eq (k:Nat) (rec:RT Out) (K:KT Out) (a1:Arg):s2 k rec K a1=r2 k (S1 rec a1) (X1_2 K a1) a1:=
 funext fun c1611=>funext fun c1612=>funext fun c1613=>funext fun v1610=>iter_raw _ _ _ (T2 a1 c1611 c1612 c1613) _ (fun rec v=>by kernel_rfl) k v1610
noncomputable def b1 (self:((List UInt8)×Int×Int)->OO) (e2:((List UInt8)×Int)->OO) (l2:(List UInt8)->Int->Int->(Int)->OO) (a1:Arg) (v1009:(List UInt8)×Int×Int):OO:=bif decide (v1009.2.2 < v1009.2.1) then (l2 v1009.1 v1009.2.1 v1009.2.2 (0:Int)) else e2 (v1009.1,v1009.2.1)
noncomputable def B1 (k:Nat) (self:((List UInt8)×Int×Int)->OO) (e2:((List UInt8)×Int)->OO) (a1:Arg) (v1009:(List UInt8)×Int×Int):OO:=b1 self e2 (r2 k self e2 a1) a1 v1009
theorem B1_eq (k:Nat) (rec:RT Out) (K:KT Out) (a1:Arg) (v1009:(List UInt8)×Int×Int):D.N k [1,1,1,1,1,0,1,0,0] (T1 a1 v1009) (loopC rec (keepF [0,3,5] []) K)=B1 k (S1 rec a1) (X1_2 K a1) a1 v1009:=
 bI (b:=b1 (S1 rec a1) (X1_2 K a1) (s2 k rec K a1) a1 v1009) (by kernel_rfl) (by rw[s2_eq];rfl)
noncomputable def q2 (a1:Arg) (z1816:((List UInt8)×Int)):OO:=bif decide ((0:Int) < z1816.2) then ((spec_l2Size.sem (z1816.1,w64 (z1816.2 - (1:Int)),())).bind fun r1817=>bif decide (r1817.1=(0:Int)) then (some ((8:Int),())) else some ((0:Int),())) else some ((0:Int),())
theorem Q2_eq (k:Nat) (a1:Arg) (z1816:((List UInt8)×Int)):X1_2 (blockC 2 (seqC (D.N k [1,1,1,1,1,1]) D.K0)) a1 z1816=q2 a1 z1816:=by kernel_rfl
noncomputable def s1 (k:Nat) (a1:Arg) (c406:Int):((List UInt8)×Int×Int)->OO:=fun v1009=>D.L k [1,1,1,1,1,0,1,0,0] [0,3,5] [] (blockC 2 (seqC (D.N k [1,1,1,1,1,1]) D.K0)) (T1 a1 v1009)
noncomputable def r1 (k:Nat) (a1:Arg) (c406:Int):((List UInt8)×Int×Int)->OO:=rawIter (fun w v=>B1 k w (q2 a1) a1 v) k
theorem s1_eq (k:Nat) (a1:Arg) (c406:Int):s1 k a1 c406=r1 k a1 c406:=by
 funext v1009;have h2:X1_2 (blockC 2 (seqC (D.N k [1,1,1,1,1,1]) D.K0)) a1=q2 a1:=funext fun z=>Q2_eq k a1 z;refine (iter_raw _ _ _ (T1 a1) (fun self v=>B1 k self (X1_2 (blockC 2 (seqC (D.N k [1,1,1,1,1,1]) D.K0)) a1) a1 v) (fun rec v=>B1_eq k rec (blockC 2 (seqC (D.N k [1,1,1,1,1,1]) D.K0)) a1 v) k v1009).trans ?_;rw[h2];rfl
noncomputable def q0 (l1:((List UInt8)×Int×Int)->OO) (a1:Arg) (c406:Int) (z608:(Unit)):OO:=l1 (a1.1,c406,(0:Int))
noncomputable def Q0 (k:Nat) (a1:Arg) (c406:Int) (z608:(Unit)):OO:=q0 (r1 k a1 c406) a1 c406 z608
theorem Q0_eq (k:Nat) (a1:Arg) (c406:Int) (z608:(Unit)):X0_0 (blockC 0 (seqC (D.N k [1,1,1,1,1]) D.K0)) a1 c406 z608=Q0 k a1 c406 z608:=
 bI (b:=q0 (s1 k a1 c406) a1 c406 z608) (by kernel_rfl) (by rw[s1_eq];rfl)
noncomputable def s0 (k:Nat) (a1:Arg):Int->(Int)->OO:=fun c406=>fun v405=>D.L k [1,1,1,1,0,1,0,0] [0,3,4] [] (blockC 0 (seqC (D.N k [1,1,1,1,1]) D.K0)) (T0 a1 c406 v405)
noncomputable def r0 (k:Nat) (a1:Arg):Int->(Int)->OO:=fun c406=>rawIter (fun w v=>b0 w (Q0 k a1 c406) a1 c406 v) k
theorem s0_eq (k:Nat) (a1:Arg):s0 k a1=r0 k a1:=by
 funext c406;funext v405;have h0:X0_0 (blockC 0 (seqC (D.N k [1,1,1,1,1]) D.K0)) a1 c406=Q0 k a1 c406:=funext fun z=>Q0_eq k a1 c406 z;refine (iter_raw _ _ _ (T0 a1 c406) (fun self v=>b0 self (X0_0 (blockC 0 (seqC (D.N k [1,1,1,1,1]) D.K0)) a1 c406) a1 c406 v) (fun rec v=>B0_eq k rec (blockC 0 (seqC (D.N k [1,1,1,1,1]) D.K0)) a1 c406 v) k v405).trans ?_;rw[h0];rfl
noncomputable def p (l0:Int->(Int)->OO) (a1:Arg):OO:=bif !decide ((a1.1.length:Int)=(64:Int)) then (some ((1:Int),())) else (spec_l2Count.sem (a1.1,())).bind fun r2=>bif decide ((16:Int) < r2.1) then (some ((3:Int),())) else (spec_l2Low.sem (a1.1,())).bind fun r3=>bif decide (r3.1 < w64 ((2:Int)+(w64 ((2:Int)*r2.1)))) then (some ((3:Int),())) else (spec_l2Low.sem (a1.1,())).bind fun r4=>bif decide ((64:Int) < r4.1) then (some ((3:Int),())) else l0 r2.1 (0:Int)
theorem raw_eq (k:Nat) (a1:Arg):@Eq OO (D.W k a1) (p (r0 k a1) a1):=
 bI (b:=p (s0 k a1) a1) (by kernel_rfl) (by rw[s0_eq])
theorem ok:Ok prog 389 D.sig:=fd_ok func389 tlOk (by kernel_rfl) (fc spec_l2Count.ok (fc spec_l2Size.ok (fc spec_l2Low.ok (fc spec_l2Slot.ok (fc spec_l2Apart.ok (fn_nil _))))))
end spec_l2Fault
namespace spec_l1Place
abbrev Arg:Type:=Int×Int×Unit
abbrev Out:Type:=Bool×Unit
noncomputable def D:FD:={ fn:=f438,tl:=TL0,ps:=[(.ro,i64),(.ro,i64)],rs:=[(.bool,(roMd .bool))],gl:=[(218,spec_l1In.D.sig)] }
noncomputable def sem (a:Arg):Option Out:=@lift Out fun k=>D.W k a
noncomputable def p (a1:Arg):Option Out:=(spec_l1In.sem (a1.1,(0:Int),(11:Int),())).bind fun r2=>bif r2.1 then ((spec_l1In.sem (a1.2.1,(0:Int),(15:Int),())).bind fun r3=>some (r3.1,())) else some (false,())
theorem raw_eq (k:Nat) (a1:Arg):@Eq (Option Out) (D.W k a1) (p a1):=by kernel_rfl
theorem ok:Ok prog 438 D.sig:=fd_ok func438 tlOk (by kernel_rfl) (fc spec_l1In.ok (fn_nil _))
end spec_l1Place
namespace spec_l1Read
abbrev Arg:Type:=(List UInt8)×Unit
abbrev Out:Type:=CellResult×Bool×Unit
noncomputable def D:FD:={ fn:=f392,tl:=TL0,ps:=[(.ro,(.slc u8))],rs:=[(tCellResult,(roMd tCellResult)),(.bool,(roMd .bool))],gl:=[(320,spec_l1Fault.D.sig),(438,spec_l1Place.D.sig)],od:=[(2,[0,1,2,3,4,5,6,7,8,9,10]),(3,[0,1,2,3,4,5,6,7]),(6,[0,1,2,3,4,5,6,7,8,9,10,11,12,13,14,15,16,17,18,19,20,21,22,23]),(7,[0,1,2,3,4,5,6,7,8,9])] }
noncomputable def sem (a:Arg):Option Out:=@lift Out fun k=>D.W k a
noncomputable def p (a1:Arg):Option Out:=let j16:Option Out:=bif decide ((a1.1.length:Int) < (6:Int)) then (some (((0:Int),(0:Int),(0:Int),(0:Int),((0:Int),(0:Int),(0:Int),([]:List UInt8),()),()),false,())) else (a1.1[0]?).bind fun x17=>bif decide ((x17.toNat:Int)=(1:Int)) then (some (((0:Int),(0:Int),(0:Int),(0:Int),((0:Int),(0:Int),(0:Int),([]:List UInt8),()),()),false,())) else (a1.1[0]?).bind fun x18=>bif decide ((2:Int) < (x18.toNat:Int)) then (some (((0:Int),(0:Int),(0:Int),(0:Int),((0:Int),(0:Int),(0:Int),([]:List UInt8),()),()),false,())) else (a1.1[5]?).bind fun x19=>bif !decide ((a1.1.length:Int)=w64 ((6:Int)+(w64 (x19.toNat:Int)))) then (some (((0:Int),(0:Int),(0:Int),(0:Int),((0:Int),(0:Int),(0:Int),([]:List UInt8),()),()),false,())) else (a1.1[1]?).bind fun x20=>(a1.1[2]?).bind fun x21=>(a1.1[3]?).bind fun x22=>(a1.1[4]?).bind fun x23=>if 0<=(6:Int)/\(6:Int)<=(a1.1.length:Int) then (let y24:=w64 ((w64 ((w64 (x22.toNat:Int))*(256:Int)))+(w64 (x23.toNat:Int)));(a1.1[0]?).bind fun x25=>(spec_l1Fault.sem ((w64 (x20.toNat:Int),w64 (x21.toNat:Int),y24,(a1.1.take a1.1.length).drop 6,()),())).bind fun r26=>some (((0:Int),w64 (x25.toNat:Int),(0:Int),(0:Int),(w64 (x20.toNat:Int),w64 (x21.toNat:Int),y24,(a1.1.take a1.1.length).drop 6,()),()),decide (r26.1=(0:Int)),())) else none;bif decide ((a1.1.length:Int)=(3:Int)) then ((a1.1[0]?).bind fun x2=>bif decide ((x2.toNat:Int)=(1:Int)) then ((a1.1[1]?).bind fun x3=>(a1.1[2]?).bind fun x4=>(spec_l1Place.sem (w64 (x3.toNat:Int),w64 (x4.toNat:Int),())).bind fun r5=>some (((0:Int),(1:Int),w64 (x3.toNat:Int),w64 (x4.toNat:Int),((0:Int),(0:Int),(0:Int),([]:List UInt8),()),()),r5.1,())) else j16) else j16
theorem raw_eq (k:Nat) (a1:Arg):@Eq (Option Out) (D.W k a1) (p a1):=by kernel_rfl
theorem ok:Ok prog 392 D.sig:=fd_ok func392 tlOk (by kernel_rfl) (fc spec_l1Fault.ok (fc spec_l1Place.ok (fn_nil _)))
end spec_l1Read
namespace spec_l2Cell
abbrev Arg:Type:=(List UInt8)×Int×Unit
abbrev Out:Type:=(List UInt8)×Unit
noncomputable def D:FD:={ fn:=f393,tl:=TL0,ps:=[(.ro,(.slc u8)),(.ro,i64)],rs:=[((.slc u8),(ownMd (.slc u8)))],gl:=[(391,spec_l2Size.D.sig),(439,spec_l2Place.D.sig)] }
noncomputable def sem (a:Arg):Option Out:=@lift Out fun k=>D.W k a
noncomputable def p (a1:Arg):Option Out:=(spec_l2Place.sem (a1.1,a1.2.1,())).bind fun r2=>(spec_l2Size.sem (a1.1,a1.2.1,())).bind fun r3=>if 0<=r2.1/\r2.1<=w64 (r2.1+r3.1)/\w64 (r2.1+r3.1)<=(a1.1.length:Int) then (if ([]:List UInt8).length+((a1.1.take (w64 (r2.1+r3.1)).toNat).drop r2.1.toNat).length<=CAP then (let y4:=([]:List UInt8)++((a1.1.take (w64 (r2.1+r3.1)).toNat).drop r2.1.toNat);some (y4,())) else none) else none
theorem raw_eq (k:Nat) (a1:Arg):@Eq (Option Out) (D.W k a1) (p a1):=by kernel_rfl
theorem ok:Ok prog 393 D.sig:=fd_ok func393 tlOk (by kernel_rfl) (fc spec_l2Size.ok (fc spec_l2Place.ok (fn_nil _)))
end spec_l2Cell
namespace spec_l6Cells
abbrev Arg:Type:=(List (List UInt8))×Unit
abbrev Out:Type:=Int×Unit
abbrev OO:=Option Out
noncomputable def D:FD:={ fn:=f300,tl:=TL0,ps:=[(.ro,(.slc (.slc u8)))],rs:=[(i64,(roMd i64))],gl:=[(389,spec_l2Fault.D.sig),(390,spec_l2Count.D.sig),(391,spec_l2Size.D.sig),(392,spec_l1Read.D.sig),(393,spec_l2Cell.D.sig)],lv:=[(2,[0,3]),(8,[0,3,5])],lx:=[(0,[]),(2,[0,3])] }
noncomputable def sem (a:Arg):OO:=@lift Out fun k=>D.W k a
noncomputable def T0 (a1:Arg) (v402:(List (List UInt8))×Int):St:={ n:=50,sl:=[(0,.val (.slc (.slc u8)) v402.1),(3,.val i64 v402.2)],vr:=[],lent:=[] }
noncomputable def S0 (rec:RT Out) (a1:Arg):((List (List UInt8))×Int)->OO:=fun v402=>rec (T0 a1 v402)
noncomputable def X0_0 (K:KT Out) (a1:Arg):(Unit)->OO:=fun z=>K (.exit 0) ({ n:=50,sl:=[],vr:=[],lent:=[] })
noncomputable def T1 (a1:Arg) (c1006:List (List UInt8)) (c1007:Int) (v1005:Int):St:={ n:=50,sl:=[(0,.val (.slc (.slc u8)) c1006),(3,.val i64 c1007),(5,.val i64 v1005)],vr:=[],lent:=[] }
noncomputable def b1 (self:Int->OO) (e2:(Unit)->OO) (a1:Arg) (c1006:List (List UInt8)) (c1007:Int) (v1005:Int):OO:=if 0<=c1007 then ((c1006[c1007.toNat]?).bind fun x1208=>(spec_l2Count.sem (x1208,())).bind fun r1209=>bif decide (v1005 < r1209.1) then (if 0<=c1007 then ((c1006[c1007.toNat]?).bind fun x1210=>(spec_l2Size.sem (x1210,v1005,())).bind fun r1211=>bif decide ((0:Int) < r1211.1) then (if 0<=c1007 then ((c1006[c1007.toNat]?).bind fun x1212=>(spec_l2Cell.sem (x1212,v1005,())).bind fun r1213=>(spec_l1Read.sem (r1213.1,())).bind fun r1214=>bif !r1214.2.1 then (some ((5:Int),())) else self (w64 (v1005+(1:Int)))) else none) else self (w64 (v1005+(1:Int)))) else none) else e2 ()) else none
noncomputable def q0 (self:((List (List UInt8))×Int)->OO) (e0:(Unit)->OO) (a1:Arg) (c1006:List (List UInt8)) (c1007:Int) (z1215:(Unit)):OO:=self (c1006,w64 (c1007+(1:Int)))
noncomputable def s1 (k:Nat) (rec:RT Out) (K:KT Out) (a1:Arg):(List (List UInt8))->Int->(Int)->OO:=fun c1006 c1007=>fun v1005=>D.L k [1,0,1,0,0,1,0,0,1,1,0,0] [0,3,5] [] (blockC 2 (blockC 1 (seqC (D.N k [1,0,1,0,0,1,1]) (loopC rec (keepF [0,3] []) K)))) (T1 a1 c1006 c1007 v1005)
noncomputable def r1 (k:Nat) (self:((List (List UInt8))×Int)->OO) (e0:(Unit)->OO) (a1:Arg):(List (List UInt8))->Int->(Int)->OO:=fun c1006 c1007=>rawIter (fun w v=>b1 w (q0 self e0 a1 c1006 c1007) a1 c1006 c1007 v) k
theorem s1_eq (k:Nat) (rec:RT Out) (K:KT Out) (a1:Arg):s1 k rec K a1=r1 k (S0 rec a1) (X0_0 K a1) a1:=
 funext fun c1006=>funext fun c1007=>funext fun v1005=>iter_raw _ _ _ (T1 a1 c1006 c1007) _ (fun rec v=>by kernel_rfl) k v1005
noncomputable def b0 (self:((List (List UInt8))×Int)->OO) (e0:(Unit)->OO) (l1:(List (List UInt8))->Int->(Int)->OO) (a1:Arg) (v402:(List (List UInt8))×Int):OO:=bif decide (v402.2 < (v402.1.length:Int)) then (if 0<=v402.2 then ((v402.1[v402.2.toNat]?).bind fun x603=>(spec_l2Fault.sem (x603,())).bind fun r604=>bif !decide (r604.1=(0:Int)) then (some (r604.1,())) else l1 v402.1 v402.2 (0:Int)) else none) else e0 ()
noncomputable def B0 (k:Nat) (self:((List (List UInt8))×Int)->OO) (e0:(Unit)->OO) (a1:Arg) (v402:(List (List UInt8))×Int):OO:=b0 self e0 (r1 k self e0 a1) a1 v402
theorem B0_eq (k:Nat) (rec:RT Out) (K:KT Out) (a1:Arg) (v402:(List (List UInt8))×Int):D.N k [1,0,1,0,0] (T0 a1 v402) (loopC rec (keepF [0,3] []) K)=B0 k (S0 rec a1) (X0_0 K a1) a1 v402:=
 bI (b:=b0 (S0 rec a1) (X0_0 K a1) (s1 k rec K a1) a1 v402) (by kernel_rfl) (by rw[s1_eq];rfl)
noncomputable def q1 (a1:Arg) (z1216:(Unit)):OO:=some ((0:Int),())
theorem Q1_eq (k:Nat) (a1:Arg) (z1216:(Unit)):X0_0 (blockC 0 (seqC (D.N k [1,1]) D.K0)) a1 z1216=q1 a1 z1216:=by kernel_rfl
noncomputable def s0 (k:Nat) (a1:Arg):((List (List UInt8))×Int)->OO:=fun v402=>D.L k [1,0,1,0,0] [0,3] [] (blockC 0 (seqC (D.N k [1,1]) D.K0)) (T0 a1 v402)
noncomputable def r0 (k:Nat) (a1:Arg):((List (List UInt8))×Int)->OO:=rawIter (fun w v=>B0 k w (q1 a1) a1 v) k
theorem s0_eq (k:Nat) (a1:Arg):s0 k a1=r0 k a1:=by
 funext v402;have h0:X0_0 (blockC 0 (seqC (D.N k [1,1]) D.K0)) a1=q1 a1:=funext fun z=>Q1_eq k a1 z;refine (iter_raw _ _ _ (T0 a1) (fun self v=>B0 k self (X0_0 (blockC 0 (seqC (D.N k [1,1]) D.K0)) a1) a1 v) (fun rec v=>B0_eq k rec (blockC 0 (seqC (D.N k [1,1]) D.K0)) a1 v) k v402).trans ?_;rw[h0];rfl
noncomputable def p (l0:((List (List UInt8))×Int)->OO) (a1:Arg):OO:=l0 (a1.1,(0:Int))
theorem raw_eq (k:Nat) (a1:Arg):@Eq OO (D.W k a1) (p (r0 k a1) a1):=
 bI (b:=p (s0 k a1) a1) (by kernel_rfl) (by rw[s0_eq])
theorem ok:Ok prog 300 D.sig:=fd_ok func300 tlOk (by kernel_rfl) (fc spec_l2Fault.ok (fc spec_l2Count.ok (fc spec_l2Size.ok (fc spec_l1Read.ok (fc spec_l2Cell.ok (fn_nil _))))))
end spec_l6Cells
namespace spec_l2Has
abbrev Arg:Type:=(List UInt8)×Int×Unit
abbrev Out:Type:=Bool×Unit
noncomputable def D:FD:={ fn:=f440,tl:=TL0,ps:=[(.ro,(.slc u8)),(.ro,i64)],rs:=[(.bool,(roMd .bool))],gl:=[(218,spec_l1In.D.sig),(390,spec_l2Count.D.sig),(391,spec_l2Size.D.sig)] }
noncomputable def sem (a:Arg):Option Out:=@lift Out fun k=>D.W k a
noncomputable def p (a1:Arg):Option Out:=(spec_l2Count.sem (a1.1,())).bind fun r2=>(spec_l1In.sem (a1.2.1,(0:Int),w64 (r2.1 - (1:Int)),())).bind fun r3=>bif r3.1 then ((spec_l2Size.sem (a1.1,a1.2.1,())).bind fun r4=>some (decide ((0:Int) < r4.1),())) else some (false,())
theorem raw_eq (k:Nat) (a1:Arg):@Eq (Option Out) (D.W k a1) (p a1):=by kernel_rfl
theorem ok:Ok prog 440 D.sig:=fd_ok func440 tlOk (by kernel_rfl) (fc spec_l1In.ok (fc spec_l2Count.ok (fc spec_l2Size.ok (fn_nil _))))
end spec_l2Has
namespace spec_l6Cell
abbrev Arg:Type:=(List (List UInt8))×Int×Int×Unit
abbrev Out:Type:=CellResult×Bool×Unit
noncomputable def D:FD:={ fn:=f394,tl:=TL0,ps:=[(.ro,(.slc (.slc u8))),(.ro,i64),(.ro,i64)],rs:=[(tCellResult,(roMd tCellResult)),(.bool,(roMd .bool))],gl:=[(218,spec_l1In.D.sig),(392,spec_l1Read.D.sig),(393,spec_l2Cell.D.sig),(440,spec_l2Has.D.sig)] }
noncomputable def sem (a:Arg):Option Out:=@lift Out fun k=>D.W k a
noncomputable def p (a1:Arg):Option Out:=(spec_l1In.sem (a1.2.1,(0:Int),w64 ((a1.1.length:Int) - (1:Int)),())).bind fun r2=>bif !r2.1 then (some (((0:Int),(0:Int),(0:Int),(0:Int),((0:Int),(0:Int),(0:Int),([]:List UInt8),()),()),false,())) else if 0<=a1.2.1 then ((a1.1[a1.2.1.toNat]?).bind fun x3=>(spec_l2Has.sem (x3,a1.2.2.1,())).bind fun r4=>bif !r4.1 then (some (((0:Int),(0:Int),(0:Int),(0:Int),((0:Int),(0:Int),(0:Int),([]:List UInt8),()),()),false,())) else if 0<=a1.2.1 then ((a1.1[a1.2.1.toNat]?).bind fun x5=>(spec_l2Cell.sem (x5,a1.2.2.1,())).bind fun r6=>(spec_l1Read.sem (r6.1,())).bind fun r7=>some (r7.1,r7.2.1,())) else none) else none
theorem raw_eq (k:Nat) (a1:Arg):@Eq (Option Out) (D.W k a1) (p a1):=by kernel_rfl
theorem ok:Ok prog 394 D.sig:=fd_ok func394 tlOk (by kernel_rfl) (fc spec_l1In.ok (fc spec_l1Read.ok (fc spec_l2Cell.ok (fc spec_l2Has.ok (fn_nil _)))))
end spec_l6Cell
namespace spec_l6Stubs
abbrev Arg:Type:=(List L6Spot)×(List (List UInt8))×Unit
abbrev Out:Type:=Int×Unit
abbrev OO:=Option Out
noncomputable def D:FD:={ fn:=f301,tl:=TL0,ps:=[(.ro,(.slc tL6Spot)),(.ro,(.slc (.slc u8)))],rs:=[(i64,(roMd i64))],gl:=[(394,spec_l6Cell.D.sig)],lv:=[(2,[0,1,5]),(9,[0,8]),(12,[0,8,9])],lx:=[(0,[0]),(1,[0,1,5]),(2,[]),(4,[0,8])],od:=[(5,[0,1,2,3,4,5,6,7,8,9,10,11,12,13,14,15,16,17,18,19]),(16,[0,1,2,3,4,5,6,7,8,9,10,11,12,13,14,15,16,17,18,19,20,21,22,23,24,25,26,27,28,29,30,31,32,33])],ar:=[(5,[6,12])],pd:=[(5,[17])] }
noncomputable def sem (a:Arg):OO:=@lift Out fun k=>D.W k a
noncomputable def T0 (a1:Arg) (v402:Int):St:={ n:=102,sl:=[(0,.val (.slc tL6Spot) a1.1),(1,.val (.slc (.slc u8)) a1.2.1),(5,.val i64 v402)],vr:=[],lent:=[] }
noncomputable def S0 (rec:RT Out) (a1:Arg):(Int)->OO:=fun v402=>rec (T0 a1 v402)
noncomputable def X0_0 (K:KT Out) (a1:Arg):(Unit)->OO:=fun z=>K (.exit 0) ({ n:=102,sl:=[(0,.val (.slc tL6Spot) a1.1)],vr:=[],lent:=[] })
noncomputable def b0 (self:Int->OO) (e0:(Unit)->OO) (a1:Arg) (v402:Int):OO:=bif decide (v402 < (a1.1.length:Int)) then (if 0<=v402 then ((a1.1[v402.toNat]?).bind fun x603=>bif !decide (x603.2.2.1.2.1=(1:Int)) then (self (w64 (v402+(1:Int)))) else if 0<=v402 then ((a1.1[v402.toNat]?).bind fun x604=>if 0<=v402 then ((a1.1[v402.toNat]?).bind fun x605=>(spec_l6Cell.sem (a1.2.1,x604.2.2.1.2.2.1,x605.2.2.1.2.2.2.1,())).bind fun r606=>bif !r606.2.1 then (some ((4:Int),())) else bif !decide (r606.1.2.1=(2:Int)) then (some ((4:Int),())) else self (w64 (v402+(1:Int)))) else none) else none) else none) else e0 ()
theorem B0_eq (k:Nat) (rec:RT Out) (K:KT Out) (a1:Arg) (v402:Int):D.N k [1,0,1,0,0] (T0 a1 v402) (loopC rec (keepF [0,1,5] []) K)=b0 (S0 rec a1) (X0_0 K a1) a1 v402:=by kernel_rfl
noncomputable def T1 (a1:Arg) (v1008:(List L6Spot)×Int):St:={ n:=102,sl:=[(0,.val (.slc tL6Spot) v1008.1),(8,.val i64 v1008.2)],vr:=[],lent:=[] }
noncomputable def S1 (rec:RT Out) (a1:Arg):((List L6Spot)×Int)->OO:=fun v1008=>rec (T1 a1 v1008)
noncomputable def X1_2 (K:KT Out) (a1:Arg):(Unit)->OO:=fun z=>K (.exit 2) ({ n:=102,sl:=[],vr:=[],lent:=[] })
noncomputable def T2 (a1:Arg) (c1610:List L6Spot) (c1611:Int) (v1609:Int):St:={ n:=102,sl:=[(0,.val (.slc tL6Spot) c1610),(8,.val i64 c1611),(9,.val i64 v1609)],vr:=[],lent:=[] }
noncomputable def b2 (self:Int->OO) (e4:(Unit)->OO) (a1:Arg) (c1610:List L6Spot) (c1611:Int) (v1609:Int):OO:=bif decide (v1609 < c1611) then (if 0<=c1611 then ((c1610[c1611.toNat]?).bind fun x1812=>if 0<=v1609 then ((c1610[v1609.toNat]?).bind fun x1813=>bif decide (x1812.2.2.1.2.1=(1:Int)) then (bif decide (x1813.2.2.1.2.1=(1:Int)) then (bif decide (x1812.2.2.1.2.2.1=x1813.2.2.1.2.2.1) then (bif decide (x1812.2.2.1.2.2.2.1=x1813.2.2.1.2.2.2.1) then (some ((6:Int),())) else self (w64 (v1609+(1:Int)))) else self (w64 (v1609+(1:Int)))) else self (w64 (v1609+(1:Int)))) else self (w64 (v1609+(1:Int)))) else none) else none) else e4 ()
noncomputable def q1 (self:((List L6Spot)×Int)->OO) (e2:(Unit)->OO) (a1:Arg) (c1610:List L6Spot) (c1611:Int) (z1814:(Unit)):OO:=self (c1610,w64 (c1611+(1:Int)))
noncomputable def s2 (k:Nat) (rec:RT Out) (K:KT Out) (a1:Arg):(List L6Spot)->Int->(Int)->OO:=fun c1610 c1611=>fun v1609=>D.L k [1,1,0,1,0,0,1,0,0,1,0,0] [0,8,9] [] (blockC 4 (blockC 3 (seqC (D.N k [1,1,0,1,0,0,1,1]) (loopC rec (keepF [0,8] []) K)))) (T2 a1 c1610 c1611 v1609)
noncomputable def r2 (k:Nat) (self:((List L6Spot)×Int)->OO) (e2:(Unit)->OO) (a1:Arg):(List L6Spot)->Int->(Int)->OO:=fun c1610 c1611=>rawIter (fun w v=>b2 w (q1 self e2 a1 c1610 c1611) a1 c1610 c1611 v) k
theorem s2_eq (k:Nat) (rec:RT Out) (K:KT Out) (a1:Arg):s2 k rec K a1=r2 k (S1 rec a1) (X1_2 K a1) a1:=
 funext fun c1610=>funext fun c1611=>funext fun v1609=>iter_raw _ _ _ (T2 a1 c1610 c1611) _ (fun rec v=>by kernel_rfl) k v1609
noncomputable def b1 (self:((List L6Spot)×Int)->OO) (e2:(Unit)->OO) (l2:(List L6Spot)->Int->(Int)->OO) (a1:Arg) (v1008:(List L6Spot)×Int):OO:=bif decide (v1008.2 < (v1008.1.length:Int)) then (l2 v1008.1 v1008.2 (0:Int)) else e2 ()
noncomputable def B1 (k:Nat) (self:((List L6Spot)×Int)->OO) (e2:(Unit)->OO) (a1:Arg) (v1008:(List L6Spot)×Int):OO:=b1 self e2 (r2 k self e2 a1) a1 v1008
theorem B1_eq (k:Nat) (rec:RT Out) (K:KT Out) (a1:Arg) (v1008:(List L6Spot)×Int):D.N k [1,1,0,1,0,0] (T1 a1 v1008) (loopC rec (keepF [0,8] []) K)=B1 k (S1 rec a1) (X1_2 K a1) a1 v1008:=
 bI (b:=b1 (S1 rec a1) (X1_2 K a1) (s2 k rec K a1) a1 v1008) (by kernel_rfl) (by rw[s2_eq];rfl)
noncomputable def q2 (a1:Arg) (z1815:(Unit)):OO:=some ((0:Int),())
theorem Q2_eq (k:Nat) (a1:Arg) (z1815:(Unit)):X1_2 (blockC 2 (seqC (D.N k [1,1,1]) D.K0)) a1 z1815=q2 a1 z1815:=by kernel_rfl
noncomputable def s1 (k:Nat) (a1:Arg):((List L6Spot)×Int)->OO:=fun v1008=>D.L k [1,1,0,1,0,0] [0,8] [] (blockC 2 (seqC (D.N k [1,1,1]) D.K0)) (T1 a1 v1008)
noncomputable def r1 (k:Nat) (a1:Arg):((List L6Spot)×Int)->OO:=rawIter (fun w v=>B1 k w (q2 a1) a1 v) k
theorem s1_eq (k:Nat) (a1:Arg):s1 k a1=r1 k a1:=by
 funext v1008;have h2:X1_2 (blockC 2 (seqC (D.N k [1,1,1]) D.K0)) a1=q2 a1:=funext fun z=>Q2_eq k a1 z;refine (iter_raw _ _ _ (T1 a1) (fun self v=>B1 k self (X1_2 (blockC 2 (seqC (D.N k [1,1,1]) D.K0)) a1) a1 v) (fun rec v=>B1_eq k rec (blockC 2 (seqC (D.N k [1,1,1]) D.K0)) a1 v) k v1008).trans ?_;rw[h2];rfl
noncomputable def q0 (l1:((List L6Spot)×Int)->OO) (a1:Arg) (z607:(Unit)):OO:=l1 (a1.1,(0:Int))
noncomputable def Q0 (k:Nat) (a1:Arg) (z607:(Unit)):OO:=q0 (r1 k a1) a1 z607
theorem Q0_eq (k:Nat) (a1:Arg) (z607:(Unit)):X0_0 (blockC 0 (seqC (D.N k [1,1]) D.K0)) a1 z607=Q0 k a1 z607:=
 bI (b:=q0 (s1 k a1) a1 z607) (by kernel_rfl) (by rw[s1_eq];rfl)
noncomputable def s0 (k:Nat) (a1:Arg):(Int)->OO:=fun v402=>D.L k [1,0,1,0,0] [0,1,5] [] (blockC 0 (seqC (D.N k [1,1]) D.K0)) (T0 a1 v402)
noncomputable def r0 (k:Nat) (a1:Arg):(Int)->OO:=rawIter (fun w v=>b0 w (Q0 k a1) a1 v) k
theorem s0_eq (k:Nat) (a1:Arg):s0 k a1=r0 k a1:=by
 funext v402;have h0:X0_0 (blockC 0 (seqC (D.N k [1,1]) D.K0)) a1=Q0 k a1:=funext fun z=>Q0_eq k a1 z;refine (iter_raw _ _ _ (T0 a1) (fun self v=>b0 self (X0_0 (blockC 0 (seqC (D.N k [1,1]) D.K0)) a1) a1 v) (fun rec v=>B0_eq k rec (blockC 0 (seqC (D.N k [1,1]) D.K0)) a1 v) k v402).trans ?_;rw[h0];rfl
noncomputable def p (l0:(Int)->OO) (a1:Arg):OO:=l0 (0:Int)
theorem raw_eq (k:Nat) (a1:Arg):@Eq OO (D.W k a1) (p (r0 k a1) a1):=
 bI (b:=p (s0 k a1) a1) (by kernel_rfl) (by rw[s0_eq])
theorem ok:Ok prog 301 D.sig:=fd_ok func301 tlOk (by kernel_rfl) (fc spec_l6Cell.ok (fn_nil _))
end spec_l6Stubs
namespace spec_l6Spots
abbrev Arg:Type:=(List (List UInt8))×Unit
abbrev Out:Type:=(List L6Spot)×Unit
abbrev OO:=Option Out
noncomputable def D:FD:={ fn:=f302,tl:=TL0,ps:=[(.ro,(.slc (.slc u8)))],rs:=[((.slc tL6Spot),(ownMd (.slc tL6Spot)))],gl:=[(390,spec_l2Count.D.sig),(391,spec_l2Size.D.sig),(392,spec_l1Read.D.sig),(393,spec_l2Cell.D.sig)],lv:=[(3,[0,3,4]),(6,[0,3,4,5])],lx:=[(0,[3]),(2,[0,3,4])] }
noncomputable def sem (a:Arg):OO:=@lift Out fun k=>D.W k a
noncomputable def T0 (a1:Arg) (v402:(List (List UInt8))×(List L6Spot)×Int):St:={ n:=49,sl:=[(0,.val (.slc (.slc u8)) v402.1),(3,.own (.slc tL6Spot) (ownMd (.slc tL6Spot)) [] v402.2.1),(4,.val i64 v402.2.2)],vr:=[],lent:=[] }
noncomputable def S0 (rec:RT Out) (a1:Arg):((List (List UInt8))×(List L6Spot)×Int)->OO:=fun v402=>rec (T0 a1 v402)
noncomputable def X0_0 (K:KT Out) (a1:Arg):(List L6Spot)->OO:=fun z=>K (.exit 0) ({ n:=49,sl:=[(3,.own (.slc tL6Spot) (ownMd (.slc tL6Spot)) [] z)],vr:=[],lent:=[] })
noncomputable def T1 (a1:Arg) (c1004:List (List UInt8)) (c1005:Int) (v1003:(List L6Spot)×Int):St:={ n:=49,sl:=[(0,.val (.slc (.slc u8)) c1004),(3,.own (.slc tL6Spot) (ownMd (.slc tL6Spot)) [] v1003.1),(4,.val i64 c1005),(5,.val i64 v1003.2)],vr:=[],lent:=[] }
noncomputable def b1 (self:((List L6Spot)×Int)->OO) (e2:(List L6Spot)->OO) (a1:Arg) (c1004:List (List UInt8)) (c1005:Int) (v1003:(List L6Spot)×Int):OO:=if 0<=c1005 then ((c1004[c1005.toNat]?).bind fun x1206=>(spec_l2Count.sem (x1206,())).bind fun r1207=>bif decide (v1003.2 < r1207.1) then (if 0<=c1005 then ((c1004[c1005.toNat]?).bind fun x1208=>(spec_l2Size.sem (x1208,v1003.2,())).bind fun r1209=>bif decide ((0:Int) < r1209.1) then (if 0<=c1005 then ((c1004[c1005.toNat]?).bind fun x1210=>(spec_l2Cell.sem (x1210,v1003.2,())).bind fun r1211=>(spec_l1Read.sem (r1211.1,())).bind fun r1212=>if v1003.1.length+[(c1005,v1003.2,r1212.1,())].length<=CAP then (let y1213:=v1003.1++[(c1005,v1003.2,r1212.1,())];self (y1213,w64 (v1003.2+(1:Int)))) else none) else none) else self (v1003.1,w64 (v1003.2+(1:Int)))) else none) else e2 v1003.1) else none
noncomputable def q0 (self:((List (List UInt8))×(List L6Spot)×Int)->OO) (e0:(List L6Spot)->OO) (a1:Arg) (c1004:List (List UInt8)) (c1005:Int) (z1214:(List L6Spot)):OO:=self (c1004,z1214,w64 (c1005+(1:Int)))
noncomputable def s1 (k:Nat) (rec:RT Out) (K:KT Out) (a1:Arg):(List (List UInt8))->Int->((List L6Spot)×Int)->OO:=fun c1004 c1005=>fun v1003=>D.L k [1,1,0,1,0,0,1,0,0,1,0,0] [0,3,4,5] [] (blockC 2 (blockC 1 (seqC (D.N k [1,1,0,1,0,0,1,1]) (loopC rec (keepF [0,3,4] []) K)))) (T1 a1 c1004 c1005 v1003)
noncomputable def r1 (k:Nat) (self:((List (List UInt8))×(List L6Spot)×Int)->OO) (e0:(List L6Spot)->OO) (a1:Arg):(List (List UInt8))->Int->((List L6Spot)×Int)->OO:=fun c1004 c1005=>rawIter (fun w v=>b1 w (q0 self e0 a1 c1004 c1005) a1 c1004 c1005 v) k
theorem s1_eq (k:Nat) (rec:RT Out) (K:KT Out) (a1:Arg):s1 k rec K a1=r1 k (S0 rec a1) (X0_0 K a1) a1:=
 funext fun c1004=>funext fun c1005=>funext fun v1003=>iter_raw _ _ _ (T1 a1 c1004 c1005) _ (fun rec v=>by kernel_rfl) k v1003
noncomputable def b0 (self:((List (List UInt8))×(List L6Spot)×Int)->OO) (e0:(List L6Spot)->OO) (l1:(List (List UInt8))->Int->((List L6Spot)×Int)->OO) (a1:Arg) (v402:(List (List UInt8))×(List L6Spot)×Int):OO:=bif decide (v402.2.2 < (v402.1.length:Int)) then (l1 v402.1 v402.2.2 (v402.2.1,(0:Int))) else e0 v402.2.1
noncomputable def B0 (k:Nat) (self:((List (List UInt8))×(List L6Spot)×Int)->OO) (e0:(List L6Spot)->OO) (a1:Arg) (v402:(List (List UInt8))×(List L6Spot)×Int):OO:=b0 self e0 (r1 k self e0 a1) a1 v402
theorem B0_eq (k:Nat) (rec:RT Out) (K:KT Out) (a1:Arg) (v402:(List (List UInt8))×(List L6Spot)×Int):D.N k [1,1,0,1,0,0] (T0 a1 v402) (loopC rec (keepF [0,3,4] []) K)=B0 k (S0 rec a1) (X0_0 K a1) a1 v402:=
 bI (b:=b0 (S0 rec a1) (X0_0 K a1) (s1 k rec K a1) a1 v402) (by kernel_rfl) (by rw[s1_eq];rfl)
noncomputable def q1 (a1:Arg) (z1215:(List L6Spot)):OO:=some (z1215,())
theorem Q1_eq (k:Nat) (a1:Arg) (z1215:(List L6Spot)):X0_0 (blockC 0 (seqC (D.N k [1,1,1]) D.K0)) a1 z1215=q1 a1 z1215:=by kernel_rfl
noncomputable def s0 (k:Nat) (a1:Arg):((List (List UInt8))×(List L6Spot)×Int)->OO:=fun v402=>D.L k [1,1,0,1,0,0] [0,3,4] [] (blockC 0 (seqC (D.N k [1,1,1]) D.K0)) (T0 a1 v402)
noncomputable def r0 (k:Nat) (a1:Arg):((List (List UInt8))×(List L6Spot)×Int)->OO:=rawIter (fun w v=>B0 k w (q1 a1) a1 v) k
theorem s0_eq (k:Nat) (a1:Arg):s0 k a1=r0 k a1:=by
 funext v402;have h0:X0_0 (blockC 0 (seqC (D.N k [1,1,1]) D.K0)) a1=q1 a1:=funext fun z=>Q1_eq k a1 z;refine (iter_raw _ _ _ (T0 a1) (fun self v=>B0 k self (X0_0 (blockC 0 (seqC (D.N k [1,1,1]) D.K0)) a1) a1 v) (fun rec v=>B0_eq k rec (blockC 0 (seqC (D.N k [1,1,1]) D.K0)) a1 v) k v402).trans ?_;rw[h0];rfl
noncomputable def p (l0:((List (List UInt8))×(List L6Spot)×Int)->OO) (a1:Arg):OO:=l0 (a1.1,([]:List L6Spot),(0:Int))
theorem raw_eq (k:Nat) (a1:Arg):@Eq OO (D.W k a1) (p (r0 k a1) a1):=
 bI (b:=p (s0 k a1) a1) (by kernel_rfl) (by rw[s0_eq])
theorem ok:Ok prog 302 D.sig:=fd_ok func302 tlOk (by kernel_rfl) (fc spec_l2Count.ok (fc spec_l2Size.ok (fc spec_l1Read.ok (fc spec_l2Cell.ok (fn_nil _)))))
end spec_l6Spots
namespace spec_l6Seen
abbrev Arg:Type:=(List (List UInt8))×Unit
abbrev Out:Type:=(List L6Spot)×Unit
abbrev OO:=Option Out
noncomputable def D:FD:={ fn:=f303,tl:=TL0,ps:=[(.ro,(.slc (.slc u8)))],rs:=[((.slc tL6Spot),(ownMd (.slc tL6Spot)))],gl:=[(302,spec_l6Spots.D.sig),(394,spec_l6Cell.D.sig)],lv:=[(4,[0,3,4,5])],lx:=[(0,[3]),(1,[0,3,4,5])] }
noncomputable def sem (a:Arg):OO:=@lift Out fun k=>D.W k a
noncomputable def T0 (a1:Arg) (c404:List L6Spot) (v403:(List L6Spot)×Int):St:={ n:=50,sl:=[(0,.val (.slc (.slc u8)) a1.1),(3,.own (.slc tL6Spot) (ownMd (.slc tL6Spot)) [] v403.1),(4,.own (.slc tL6Spot) (ownMd (.slc tL6Spot)) [] c404),(5,.val i64 v403.2)],vr:=[],lent:=[] }
noncomputable def b0 (self:((List L6Spot)×Int)->OO) (e0:(List L6Spot)->OO) (a1:Arg) (c404:List L6Spot) (v403:(List L6Spot)×Int):OO:=bif decide (v403.2 < (c404.length:Int)) then (if 0<=v403.2/\v403.2 < (c404.length:Int) then ((c404[v403.2.toNat]?).bind fun x605=>bif decide (x605.2.2.1.2.1=(2:Int)) then (self (v403.1,w64 (v403.2+(1:Int)))) else let j609:=fun (p608:L6Spot)=>(if v403.1.length+[p608].length<=CAP then (self (v403.1++[p608],w64 (v403.2+(1:Int)))) else none:OO);bif decide (x605.2.2.1.2.1=(1:Int)) then ((spec_l6Cell.sem (a1.1,x605.2.2.1.2.2.1,x605.2.2.1.2.2.2.1,())).bind fun r606=>j609 (x605.1,x605.2.1,(x605.2.2.1.1,x605.2.2.1.2.1,x605.2.2.1.2.2.1,x605.2.2.1.2.2.2.1,r606.1.2.2.2.2.1,x605.2.2.1.2.2.2.2.2),x605.2.2.2)) else j609 x605) else none) else e0 v403.1
noncomputable def q0 (a1:Arg) (c404:List L6Spot) (z610:(List L6Spot)):OO:=some (z610,())
noncomputable def s0 (k:Nat) (a1:Arg):(List L6Spot)->((List L6Spot)×Int)->OO:=fun c404=>fun v403=>D.L k [1,1,1,0,1,0,0] [0,3,4,5] [] (blockC 0 (seqC (D.N k [1,1,1,1]) D.K0)) (T0 a1 c404 v403)
noncomputable def r0 (k:Nat) (a1:Arg):(List L6Spot)->((List L6Spot)×Int)->OO:=fun c404=>rawIter (fun w v=>b0 w (q0 a1 c404) a1 c404 v) k
theorem s0_eq (k:Nat) (a1:Arg):s0 k a1=r0 k a1:=
 funext fun c404=>funext fun v403=>iter_raw _ _ _ (T0 a1 c404) _ (fun rec v=>by kernel_rfl) k v403
noncomputable def p (l0:(List L6Spot)->((List L6Spot)×Int)->OO) (a1:Arg):OO:=(spec_l6Spots.sem (a1.1,())).bind fun r2=>l0 r2.1 (([]:List L6Spot),(0:Int))
theorem raw_eq (k:Nat) (a1:Arg):@Eq OO (D.W k a1) (p (r0 k a1) a1):=
 bI (b:=p (s0 k a1) a1) (by kernel_rfl) (by rw[s0_eq])
theorem ok:Ok prog 303 D.sig:=fd_ok func303 tlOk (by kernel_rfl) (fc spec_l6Spots.ok (fc spec_l6Cell.ok (fn_nil _)))
end spec_l6Seen
namespace spec_l6Fault
abbrev Arg:Type:=(List (List UInt8))×Unit
abbrev Out:Type:=Int×Unit
abbrev OO:=Option Out
noncomputable def D:FD:={ fn:=f187,tl:=TL0,ps:=[(.ro,(.slc (.slc u8)))],rs:=[(i64,(roMd i64))],gl:=[(300,spec_l6Cells.D.sig),(301,spec_l6Stubs.D.sig),(302,spec_l6Spots.D.sig),(303,spec_l6Seen.D.sig)],lv:=[(11,[5,6]),(14,[5,6,7])],lx:=[(0,[]),(2,[5,6])],od:=[(16,[0,1,2,3,4,5,6,7,8,9,10,11,12,13,14,15,16,17,18,19,20,21,22,23,24,25,26,27,28,29,30,31])] }
noncomputable def sem (a:Arg):OO:=@lift Out fun k=>D.W k a
noncomputable def T0 (a1:Arg) (v406:(List L6Spot)×Int):St:={ n:=68,sl:=[(5,.own (.slc tL6Spot) (ownMd (.slc tL6Spot)) [] v406.1),(6,.val i64 v406.2)],vr:=[],lent:=[] }
noncomputable def S0 (rec:RT Out) (a1:Arg):((List L6Spot)×Int)->OO:=fun v406=>rec (T0 a1 v406)
noncomputable def X0_0 (K:KT Out) (a1:Arg):(Unit)->OO:=fun z=>K (.exit 0) ({ n:=68,sl:=[],vr:=[],lent:=[] })
noncomputable def T1 (a1:Arg) (c1008:List L6Spot) (c1009:Int) (v1007:Int):St:={ n:=68,sl:=[(5,.own (.slc tL6Spot) (ownMd (.slc tL6Spot)) [] c1008),(6,.val i64 c1009),(7,.val i64 v1007)],vr:=[],lent:=[] }
noncomputable def b1 (self:Int->OO) (e2:(Unit)->OO) (a1:Arg) (c1008:List L6Spot) (c1009:Int) (v1007:Int):OO:=bif decide (v1007 < c1009) then (if 0<=c1009/\c1009 < (c1008.length:Int) then ((c1008[c1009.toNat]?).bind fun x1210=>if 0<=v1007/\v1007 < (c1008.length:Int) then ((c1008[v1007.toNat]?).bind fun x1211=>bif decide (x1210.2.2.1.2.2.2.2.1.1=x1211.2.2.1.2.2.2.2.1.1) then (if 0<=c1009/\c1009 < (c1008.length:Int) then ((c1008[c1009.toNat]?).bind fun x1212=>if 0<=v1007/\v1007 < (c1008.length:Int) then ((c1008[v1007.toNat]?).bind fun x1213=>bif decide (x1212.2.2.1.2.2.2.2.1.2.1=x1213.2.2.1.2.2.2.2.1.2.1) then (some ((8:Int),())) else self (w64 (v1007+(1:Int)))) else none) else none) else self (w64 (v1007+(1:Int)))) else none) else none) else e2 ()
noncomputable def q0 (self:((List L6Spot)×Int)->OO) (e0:(Unit)->OO) (a1:Arg) (c1008:List L6Spot) (c1009:Int) (z1214:(Unit)):OO:=self (c1008,w64 (c1009+(1:Int)))
noncomputable def s1 (k:Nat) (rec:RT Out) (K:KT Out) (a1:Arg):(List L6Spot)->Int->(Int)->OO:=fun c1008 c1009=>fun v1007=>D.L k [1,1,1,1,1,0,1,0,0,1,0,0,1,0,0] [5,6,7] [] (blockC 2 (blockC 1 (seqC (D.N k [1,1,1,1,1,0,1,0,0,1,1]) (loopC rec (keepF [5,6] []) K)))) (T1 a1 c1008 c1009 v1007)
noncomputable def r1 (k:Nat) (self:((List L6Spot)×Int)->OO) (e0:(Unit)->OO) (a1:Arg):(List L6Spot)->Int->(Int)->OO:=fun c1008 c1009=>rawIter (fun w v=>b1 w (q0 self e0 a1 c1008 c1009) a1 c1008 c1009 v) k
theorem s1_eq (k:Nat) (rec:RT Out) (K:KT Out) (a1:Arg):s1 k rec K a1=r1 k (S0 rec a1) (X0_0 K a1) a1:=
 funext fun c1008=>funext fun c1009=>funext fun v1007=>iter_raw _ _ _ (T1 a1 c1008 c1009) _ (fun rec v=>by kernel_rfl) k v1007
noncomputable def b0 (self:((List L6Spot)×Int)->OO) (e0:(Unit)->OO) (l1:(List L6Spot)->Int->(Int)->OO) (a1:Arg) (v406:(List L6Spot)×Int):OO:=bif decide (v406.2 < (v406.1.length:Int)) then (l1 v406.1 v406.2 (0:Int)) else e0 ()
noncomputable def B0 (k:Nat) (self:((List L6Spot)×Int)->OO) (e0:(Unit)->OO) (a1:Arg) (v406:(List L6Spot)×Int):OO:=b0 self e0 (r1 k self e0 a1) a1 v406
theorem B0_eq (k:Nat) (rec:RT Out) (K:KT Out) (a1:Arg) (v406:(List L6Spot)×Int):D.N k [1,1,1,1,1,0,1,0,0] (T0 a1 v406) (loopC rec (keepF [5,6] []) K)=B0 k (S0 rec a1) (X0_0 K a1) a1 v406:=
 bI (b:=b0 (S0 rec a1) (X0_0 K a1) (s1 k rec K a1) a1 v406) (by kernel_rfl) (by rw[s1_eq];rfl)
noncomputable def q1 (a1:Arg) (z1215:(Unit)):OO:=some ((0:Int),())
theorem Q1_eq (k:Nat) (a1:Arg) (z1215:(Unit)):X0_0 (blockC 0 (seqC (D.N k [1,1,1,1,1,1]) D.K0)) a1 z1215=q1 a1 z1215:=by kernel_rfl
noncomputable def s0 (k:Nat) (a1:Arg):((List L6Spot)×Int)->OO:=fun v406=>D.L k [1,1,1,1,1,0,1,0,0] [5,6] [] (blockC 0 (seqC (D.N k [1,1,1,1,1,1]) D.K0)) (T0 a1 v406)
noncomputable def r0 (k:Nat) (a1:Arg):((List L6Spot)×Int)->OO:=rawIter (fun w v=>B0 k w (q1 a1) a1 v) k
theorem s0_eq (k:Nat) (a1:Arg):s0 k a1=r0 k a1:=by
 funext v406;have h0:X0_0 (blockC 0 (seqC (D.N k [1,1,1,1,1,1]) D.K0)) a1=q1 a1:=funext fun z=>Q1_eq k a1 z;refine (iter_raw _ _ _ (T0 a1) (fun self v=>B0 k self (X0_0 (blockC 0 (seqC (D.N k [1,1,1,1,1,1]) D.K0)) a1) a1 v) (fun rec v=>B0_eq k rec (blockC 0 (seqC (D.N k [1,1,1,1,1,1]) D.K0)) a1 v) k v406).trans ?_;rw[h0];rfl
noncomputable def p (l0:((List L6Spot)×Int)->OO) (a1:Arg):OO:=bif decide ((12:Int) < (a1.1.length:Int)) then (some ((2:Int),())) else (spec_l6Cells.sem (a1.1,())).bind fun r2=>bif !decide (r2.1=(0:Int)) then (some (r2.1,())) else (spec_l6Spots.sem (a1.1,())).bind fun r3=>(spec_l6Stubs.sem (r3.1,a1.1,())).bind fun r4=>bif !decide (r4.1=(0:Int)) then (some (r4.1,())) else (spec_l6Seen.sem (a1.1,())).bind fun r5=>l0 (r5.1,(0:Int))
theorem raw_eq (k:Nat) (a1:Arg):@Eq OO (D.W k a1) (p (r0 k a1) a1):=
 bI (b:=p (s0 k a1) a1) (by kernel_rfl) (by rw[s0_eq])
theorem ok:Ok prog 187 D.sig:=fd_ok func187 tlOk (by kernel_rfl) (fc spec_l6Cells.ok (fc spec_l6Stubs.ok (fc spec_l6Spots.ok (fc spec_l6Seen.ok (fn_nil _)))))
end spec_l6Fault
namespace spec_l9Ahead
abbrev Arg:Type:=Change×Change×Unit
abbrev Out:Type:=Bool×Unit
noncomputable def D:FD:={ fn:=f361,tl:=TL0,ps:=[(.ro,(.ptr tChange)),(.ro,(.ptr tChange))],rs:=[(.bool,(roMd .bool))],gl:=[(321,spec_l6Key.D.sig)] }
noncomputable def sem (a:Arg):Option Out:=@lift Out fun k=>D.W k a
noncomputable def p (a1:Arg):Option Out:=(spec_l6Key.sem (a1.1,())).bind fun r2=>(spec_l6Key.sem (a1.2.1,())).bind fun r3=>bif decide (r2.1 < r3.1) then (some (true,())) else bif decide (r2.1=r3.1) then (some (decide (r2.2.1 < r3.2.1),())) else some (false,())
theorem raw_eq (k:Nat) (a1:Arg):@Eq (Option Out) (D.W k a1) (p a1):=by kernel_rfl
theorem ok:Ok prog 361 D.sig:=fd_ok func361 tlOk (by kernel_rfl) (fc spec_l6Key.ok (fn_nil _))
end spec_l9Ahead
namespace spec_l9List
abbrev Arg:Type:=(List Change)×Unit
abbrev Out:Type:=Int×Unit
abbrev OO:=Option Out
noncomputable def D:FD:={ fn:=f261,tl:=TL0,ps:=[(.ro,(.slc tChange))],rs:=[(i64,(roMd i64))],gl:=[(360,spec_l9Change.D.sig),(361,spec_l9Ahead.D.sig)],lv:=[(4,[0,3])],lx:=[(0,[])],od:=[(9,[0,1,2,3,4,5,6,7,8,9,10,11,12])] }
noncomputable def sem (a:Arg):OO:=@lift Out fun k=>D.W k a
noncomputable def T0 (a1:Arg) (v402:Int):St:={ n:=34,sl:=[(0,.val (.slc tChange) a1.1),(3,.val i64 v402)],vr:=[],lent:=[] }
noncomputable def b0 (self:Int->OO) (e0:(Unit)->OO) (a1:Arg) (v402:Int):OO:=bif decide (v402 < (a1.1.length:Int)) then (if 0<=v402 then ((a1.1[v402.toNat]?).bind fun x603=>(spec_l9Change.sem (x603,())).bind fun r604=>bif !decide (r604.1=(0:Int)) then (some (r604.1,())) else bif decide ((0:Int) < v402) then (if 0<=w64 (v402 - (1:Int)) then ((a1.1[(w64 (v402 - (1:Int))).toNat]?).bind fun x605=>if 0<=v402 then ((a1.1[v402.toNat]?).bind fun x606=>(spec_l9Ahead.sem (x605,x606,())).bind fun r607=>bif !r607.1 then (some ((1:Int),())) else self (w64 (v402+(1:Int)))) else none) else none) else self (w64 (v402+(1:Int)))) else none) else e0 ()
noncomputable def q0 (a1:Arg) (z608:(Unit)):OO:=some ((0:Int),())
noncomputable def s0 (k:Nat) (a1:Arg):(Int)->OO:=fun v402=>D.L k [1,1,0,1,0,0] [0,3] [] (blockC 0 (seqC (D.N k [1,1,1]) D.K0)) (T0 a1 v402)
noncomputable def r0 (k:Nat) (a1:Arg):(Int)->OO:=rawIter (fun w v=>b0 w (q0 a1) a1 v) k
theorem s0_eq (k:Nat) (a1:Arg):s0 k a1=r0 k a1:=
 funext fun v402=>iter_raw _ _ _ (T0 a1) _ (fun rec v=>by kernel_rfl) k v402
noncomputable def p (l0:(Int)->OO) (a1:Arg):OO:=bif decide ((60:Int) < (a1.1.length:Int)) then (some ((2:Int),())) else l0 (0:Int)
theorem raw_eq (k:Nat) (a1:Arg):@Eq OO (D.W k a1) (p (r0 k a1) a1):=
 bI (b:=p (s0 k a1) a1) (by kernel_rfl) (by rw[s0_eq])
theorem ok:Ok prog 261 D.sig:=fd_ok func261 tlOk (by kernel_rfl) (fc spec_l9Change.ok (fc spec_l9Ahead.ok (fn_nil _)))
end spec_l9List
namespace spec_l9At
abbrev Arg:Type:=Miner×Int×Unit
abbrev Out:Type:=Int×Unit
abbrev OO:=Option Out
noncomputable def D:FD:={ fn:=f262,tl:=TL0,ps:=[(.ro,(.ptr tMiner)),(.ro,i64)],rs:=[(i64,(roMd i64))],lv:=[(2,[0,1,5])],lx:=[(0,[])] }
noncomputable def sem (a:Arg):OO:=@lift Out fun k=>D.W k a
noncomputable def T0 (a1:Arg) (v402:Int):St:={ n:=26,sl:=[(0,.cp tMiner a1.1),(1,.val i64 a1.2.1),(5,.val i64 v402)],vr:=[],lent:=[] }
noncomputable def b0 (self:Int->OO) (e0:(Unit)->OO) (a1:Arg) (v402:Int):OO:=bif decide (v402 < (a1.1.2.1.length:Int)) then (if 0<=v402 then ((a1.1.2.1[v402.toNat]?).bind fun x603=>bif decide (x603.1=a1.2.1) then (some (v402,())) else self (w64 (v402+(1:Int)))) else none) else e0 ()
noncomputable def q0 (a1:Arg) (z604:(Unit)):OO:=some ((-1:Int),())
noncomputable def s0 (k:Nat) (a1:Arg):(Int)->OO:=fun v402=>D.L k [1,0,1,0,0] [0,1,5] [] (blockC 0 (seqC (D.N k [1,1]) D.K0)) (T0 a1 v402)
noncomputable def r0 (k:Nat) (a1:Arg):(Int)->OO:=rawIter (fun w v=>b0 w (q0 a1) a1 v) k
theorem s0_eq (k:Nat) (a1:Arg):s0 k a1=r0 k a1:=
 funext fun v402=>iter_raw _ _ _ (T0 a1) _ (fun rec v=>by kernel_rfl) k v402
noncomputable def p (l0:(Int)->OO) (a1:Arg):OO:=l0 (0:Int)
theorem raw_eq (k:Nat) (a1:Arg):@Eq OO (D.W k a1) (p (r0 k a1) a1):=
 bI (b:=p (s0 k a1) a1) (by kernel_rfl) (by rw[s0_eq])
theorem ok:Ok prog 262 D.sig:=fd_ok func262 tlOk (by kernel_rfl) (fn_nil _)
end spec_l9At
namespace spec_l9Fault
abbrev Arg:Type:=Miner×Unit
abbrev Out:Type:=Int×Unit
abbrev OO:=Option Out
noncomputable def D:FD:={ fn:=f130,tl:=TL0,ps:=[(.ro,(.ptr tMiner))],rs:=[(i64,(roMd i64))],gl:=[(187,spec_l6Fault.D.sig),(218,spec_l1In.D.sig),(261,spec_l9List.D.sig),(262,spec_l9At.D.sig)],lv:=[(7,[0,4])],lx:=[(0,[])] }
noncomputable def sem (a:Arg):OO:=@lift Out fun k=>D.W k a
noncomputable def T0 (a1:Arg) (v403:Int):St:={ n:=63,sl:=[(0,.cp tMiner a1.1),(4,.val i64 v403)],vr:=[],lent:=[] }
noncomputable def b0 (self:Int->OO) (e0:(Unit)->OO) (a1:Arg) (v403:Int):OO:=bif decide (v403 < (a1.1.2.1.length:Int)) then (if 0<=v403 then ((a1.1.2.1[v403.toNat]?).bind fun x604=>(spec_l1In.sem (x604.1,(1:Int),(99:Int),())).bind fun r605=>bif !r605.1 then (some ((3:Int),())) else if 0<=v403 then ((a1.1.2.1[v403.toNat]?).bind fun x606=>(spec_l9List.sem (x606.2.1,())).bind fun r607=>bif !decide (r607.1=(0:Int)) then (some (r607.1,())) else if 0<=v403 then ((a1.1.2.1[v403.toNat]?).bind fun x608=>(spec_l9At.sem (a1.1,x608.1,())).bind fun r609=>bif !decide (r609.1=v403) then (some ((6:Int),())) else self (w64 (v403+(1:Int)))) else none) else none) else none) else e0 ()
noncomputable def q0 (a1:Arg) (z610:(Unit)):OO:=some ((0:Int),())
noncomputable def s0 (k:Nat) (a1:Arg):(Int)->OO:=fun v403=>D.L k [1,1,1,0,1,0,0] [0,4] [] (blockC 0 (seqC (D.N k [1,1,1,1]) D.K0)) (T0 a1 v403)
noncomputable def r0 (k:Nat) (a1:Arg):(Int)->OO:=rawIter (fun w v=>b0 w (q0 a1) a1 v) k
theorem s0_eq (k:Nat) (a1:Arg):s0 k a1=r0 k a1:=
 funext fun v403=>iter_raw _ _ _ (T0 a1) _ (fun rec v=>by kernel_rfl) k v403
noncomputable def p (l0:(Int)->OO) (a1:Arg):OO:=(spec_l6Fault.sem (a1.1.1,())).bind fun r2=>bif !decide (r2.1=(0:Int)) then (some (r2.1,())) else bif decide ((8:Int) < (a1.1.2.1.length:Int)) then (some ((2:Int),())) else l0 (0:Int)
theorem raw_eq (k:Nat) (a1:Arg):@Eq OO (D.W k a1) (p (r0 k a1) a1):=
 bI (b:=p (s0 k a1) a1) (by kernel_rfl) (by rw[s0_eq])
theorem ok:Ok prog 130 D.sig:=fd_ok func130 tlOk (by kernel_rfl) (fc spec_l6Fault.ok (fc spec_l1In.ok (fc spec_l9List.ok (fc spec_l9At.ok (fn_nil _)))))
end spec_l9Fault
namespace spec_l9Bad
abbrev Arg:Type:=Int×Unit
abbrev Out:Type:=MinerResult×Unit
noncomputable def D:FD:={ fn:=f131,tl:=TL0,ps:=[(.ro,i64)],rs:=[(tMinerResult,(ownMd tMinerResult))] }
noncomputable def sem (a:Arg):Option Out:=@lift Out fun k=>D.W k a
noncomputable def p (a1:Arg):Option Out:=some ((a1.1,false,false,(0:Int),([]:List Change),(([]:List (List UInt8)),([]:List Buffer),()),()),())
theorem raw_eq (k:Nat) (a1:Arg):@Eq (Option Out) (D.W k a1) (p a1):=by kernel_rfl
theorem ok:Ok prog 131 D.sig:=fd_ok func131 tlOk (by kernel_rfl) (fn_nil _)
end spec_l9Bad
namespace spec_l4Runs
abbrev Arg:Type:=Int×Unit
abbrev Out:Type:=Bool×Unit
noncomputable def D:FD:={ fn:=f263,tl:=TL0,ps:=[(.ro,i64)],rs:=[(.bool,(roMd .bool))],gl:=[(218,spec_l1In.D.sig)] }
noncomputable def sem (a:Arg):Option Out:=@lift Out fun k=>D.W k a
noncomputable def p (a1:Arg):Option Out:=(spec_l1In.sem (a1.1,(2:Int),(4:Int),())).bind fun r2=>some (r2.1,())
theorem raw_eq (k:Nat) (a1:Arg):@Eq (Option Out) (D.W k a1) (p a1):=by kernel_rfl
theorem ok:Ok prog 263 D.sig:=fd_ok func263 tlOk (by kernel_rfl) (fc spec_l1In.ok (fn_nil _))
end spec_l4Runs
namespace spec_l3Fault
abbrev Arg:Type:=(List Run)×Unit
abbrev Out:Type:=Int×Unit
abbrev OO:=Option Out
noncomputable def D:FD:={ fn:=f264,tl:=TL0,ps:=[(.ro,(.slc tRun))],rs:=[(i64,(roMd i64))],gl:=[(218,spec_l1In.D.sig)],lv:=[(4,[0,3])],lx:=[(0,[])],od:=[(9,[0,1,2,3,4,5,6,7,8,9,10,11,12,13,14,15,16,17,18,19,20,21,22,23])] }
noncomputable def sem (a:Arg):OO:=@lift Out fun k=>D.W k a
noncomputable def T0 (a1:Arg) (v402:Int):St:={ n:=66,sl:=[(0,.val (.slc tRun) a1.1),(3,.val i64 v402)],vr:=[],lent:=[] }
noncomputable def b0 (self:Int->OO) (e0:(Unit)->OO) (a1:Arg) (v402:Int):OO:=bif decide (v402 < (a1.1.length:Int)) then (if 0<=v402 then ((a1.1[v402.toNat]?).bind fun x603=>if 0<=v402 then ((a1.1[v402.toNat]?).bind fun x604=>(spec_l1In.sem (x604.1,(0:Int),(63:Int),())).bind fun r605=>bif !r605.1 then (some ((3:Int),())) else (spec_l1In.sem ((x603.2.1.length:Int),(1:Int),(64:Int),())).bind fun r606=>bif !r606.1 then (some ((3:Int),())) else if 0<=v402 then ((a1.1[v402.toNat]?).bind fun x607=>bif decide ((64:Int) < w64 (x607.1+(x603.2.1.length:Int))) then (some ((3:Int),())) else bif decide ((0:Int) < v402) then (if 0<=v402 then ((a1.1[v402.toNat]?).bind fun x608=>if 0<=w64 (v402 - (1:Int)) then ((a1.1[(w64 (v402 - (1:Int))).toNat]?).bind fun x609=>if 0<=w64 (v402 - (1:Int)) then ((a1.1[(w64 (v402 - (1:Int))).toNat]?).bind fun x610=>bif decide (x608.1<=w64 (x609.1+(x610.2.1.length:Int))) then (some ((1:Int),())) else self (w64 (v402+(1:Int)))) else none) else none) else none) else self (w64 (v402+(1:Int)))) else none) else none) else none) else e0 ()
noncomputable def q0 (a1:Arg) (z611:(Unit)):OO:=some ((0:Int),())
noncomputable def s0 (k:Nat) (a1:Arg):(Int)->OO:=fun v402=>D.L k [1,1,0,1,0,0] [0,3] [] (blockC 0 (seqC (D.N k [1,1,1]) D.K0)) (T0 a1 v402)
noncomputable def r0 (k:Nat) (a1:Arg):(Int)->OO:=rawIter (fun w v=>b0 w (q0 a1) a1 v) k
theorem s0_eq (k:Nat) (a1:Arg):s0 k a1=r0 k a1:=
 funext fun v402=>iter_raw _ _ _ (T0 a1) _ (fun rec v=>by kernel_rfl) k v402
noncomputable def p (l0:(Int)->OO) (a1:Arg):OO:=bif decide ((64:Int) < (a1.1.length:Int)) then (some ((2:Int),())) else l0 (0:Int)
theorem raw_eq (k:Nat) (a1:Arg):@Eq OO (D.W k a1) (p (r0 k a1) a1):=
 bI (b:=p (s0 k a1) a1) (by kernel_rfl) (by rw[s0_eq])
theorem ok:Ok prog 264 D.sig:=fd_ok func264 tlOk (by kernel_rfl) (fc spec_l1In.ok (fn_nil _))
end spec_l3Fault
namespace spec_l4Fault
abbrev Arg:Type:=Record×Unit
abbrev Out:Type:=Int×Unit
abbrev OO:=Option Out
noncomputable def D:FD:={ fn:=f132,tl:=TL0,ps:=[(.ro,(.ptr tRecord))],rs:=[(i64,(roMd i64))],gl:=[(218,spec_l1In.D.sig),(263,spec_l4Runs.D.sig),(264,spec_l3Fault.D.sig)] }
noncomputable def sem (a:Arg):OO:=@lift Out fun k=>D.W k a
noncomputable def p (a1:Arg):OO:=let j13:OO:=let j20:OO:=(spec_l4Runs.sem (a1.1.1,())).bind fun r21=>bif !r21.1 then (some ((0:Int),())) else (spec_l3Fault.sem (a1.1.2.2.2.1,())).bind fun r22=>bif !decide (r22.1=(0:Int)) then (some (r22.1,())) else bif decide ((a1.1.2.2.2.1.length:Int)=(0:Int)) then (some ((1:Int),())) else bif decide (a1.1.1=(4:Int)) then ((a1.1.2.2.2.1[0]?).bind fun x23=>bif !decide ((x23.2.1.length:Int)=(64:Int)) then (some ((1:Int),())) else some ((0:Int),())) else some ((0:Int),());bif !decide (a1.1.1=(4:Int)) then ((spec_l1In.sem (a1.1.2.1,(1:Int),(99:Int),())).bind fun r14=>bif !r14.1 then (some ((3:Int),())) else (spec_l1In.sem (a1.1.2.2.1,(0:Int),(11:Int),())).bind fun r15=>bif !r15.1 then (some ((3:Int),())) else j20) else (spec_l1In.sem (a1.1.2.2.1,(0:Int),(11:Int),())).bind fun r16=>bif !r16.1 then (some ((3:Int),())) else j20;(spec_l1In.sem (a1.1.1,(1:Int),(6:Int),())).bind fun r2=>bif !r2.1 then (some ((1:Int),())) else (spec_l4Runs.sem (a1.1.1,())).bind fun r3=>bif !r3.1 then (bif !decide (a1.1.2.2.1=(0:Int)) then (some ((1:Int),())) else bif decide ((0:Int) < (a1.1.2.2.2.1.length:Int)) then (some ((1:Int),())) else bif decide (a1.1.1=(4:Int)) then (bif !decide (a1.1.2.1=(0:Int)) then (some ((1:Int),())) else j13) else j13) else bif decide (a1.1.1=(4:Int)) then (bif !decide (a1.1.2.1=(0:Int)) then (some ((1:Int),())) else j13) else j13
theorem raw_eq (k:Nat) (a1:Arg):@Eq OO (D.W k a1) (p a1):=by kernel_rfl
theorem ok:Ok prog 132 D.sig:=fd_ok func132 tlOk (by kernel_rfl) (fc spec_l1In.ok (fc spec_l4Runs.ok (fc spec_l3Fault.ok (fn_nil _))))
end spec_l4Fault
namespace spec_l9Buffers
abbrev Arg:Type:=(List Buffer)×Unit
abbrev Out:Type:=(List Buffer)×Unit
abbrev OO:=Option Out
noncomputable def D:FD:={ fn:=f152,tl:=TL0,ps:=[(.ro,(.slc tBuffer))],rs:=[((.slc tBuffer),(ownMd (.slc tBuffer)))],lv:=[(3,[0,3,4])],lx:=[(0,[3])],od:=[(5,[0,1,2,3,4,5,7,8,9,10,11,6,12,13,14,15,16])],ar:=[(5,[5,11])] }
noncomputable def sem (a:Arg):OO:=@lift Out fun k=>D.W k a
noncomputable def T0 (a1:Arg) (v402:(List Buffer)×Int):St:={ n:=29,sl:=[(0,.val (.slc tBuffer) a1.1),(3,.own (.slc tBuffer) (ownMd (.slc tBuffer)) [] v402.1),(4,.val i64 v402.2)],vr:=[],lent:=[] }
noncomputable def b0 (self:((List Buffer)×Int)->OO) (e0:(List Buffer)->OO) (a1:Arg) (v402:(List Buffer)×Int):OO:=bif decide (v402.2 < (a1.1.length:Int)) then (if 0<=v402.2 then ((a1.1[v402.2.toNat]?).bind fun x603=>if 0<=v402.2 then ((a1.1[v402.2.toNat]?).bind fun x604=>if ([]:List Change).length+x604.2.1.length<=CAP then (if v402.1.length+[(x603.1,([]:List Change)++x604.2.1,())].length<=CAP then (let y605:=v402.1++[(x603.1,([]:List Change)++x604.2.1,())];self (y605,w64 (v402.2+(1:Int)))) else none) else none) else none) else none) else e0 v402.1
noncomputable def q0 (a1:Arg) (z606:(List Buffer)):OO:=some (z606,())
noncomputable def s0 (k:Nat) (a1:Arg):((List Buffer)×Int)->OO:=fun v402=>D.L k [1,1,0,1,0,0] [0,3,4] [] (blockC 0 (seqC (D.N k [1,1,1]) D.K0)) (T0 a1 v402)
noncomputable def r0 (k:Nat) (a1:Arg):((List Buffer)×Int)->OO:=rawIter (fun w v=>b0 w (q0 a1) a1 v) k
theorem s0_eq (k:Nat) (a1:Arg):s0 k a1=r0 k a1:=
 funext fun v402=>iter_raw _ _ _ (T0 a1) _ (fun rec v=>by kernel_rfl) k v402
noncomputable def p (l0:((List Buffer)×Int)->OO) (a1:Arg):OO:=l0 (([]:List Buffer),(0:Int))
theorem raw_eq (k:Nat) (a1:Arg):@Eq OO (D.W k a1) (p (r0 k a1) a1):=
 bI (b:=p (s0 k a1) a1) (by kernel_rfl) (by rw[s0_eq])
theorem ok:Ok prog 152 D.sig:=fd_ok func152 tlOk (by kernel_rfl) (fn_nil _)
end spec_l9Buffers
namespace spec_l2Copy
abbrev Arg:Type:=(List UInt8)×Unit
abbrev Out:Type:=(List UInt8)×Unit
noncomputable def D:FD:={ fn:=f171,tl:=TL0,ps:=[(.ro,(.slc u8))],rs:=[((.slc u8),(ownMd (.slc u8)))] }
noncomputable def sem (a:Arg):Option Out:=@lift Out fun k=>D.W k a
noncomputable def p (a1:Arg):Option Out:=if ([]:List UInt8).length+a1.1.length<=CAP then (some (([]:List UInt8)++a1.1,())) else none
theorem raw_eq (k:Nat) (a1:Arg):@Eq (Option Out) (D.W k a1) (p a1):=by kernel_rfl
theorem ok:Ok prog 171 D.sig:=fd_ok func171 tlOk (by kernel_rfl) (fn_nil _)
end spec_l2Copy
namespace spec_l7Copy
abbrev Arg:Type:=(List (List UInt8))×Unit
abbrev Out:Type:=(List (List UInt8))×Unit
abbrev OO:=Option Out
noncomputable def D:FD:={ fn:=f217,tl:=TL0,ps:=[(.ro,(.slc (.slc u8)))],rs:=[((.slc (.slc u8)),(ownMd (.slc (.slc u8))))],gl:=[(171,spec_l2Copy.D.sig)],lv:=[(3,[0,3,4])],lx:=[(0,[3])] }
noncomputable def sem (a:Arg):OO:=@lift Out fun k=>D.W k a
noncomputable def T0 (a1:Arg) (v402:(List (List UInt8))×Int):St:={ n:=21,sl:=[(0,.val (.slc (.slc u8)) a1.1),(3,.own (.slc (.slc u8)) (ownMd (.slc (.slc u8))) [] v402.1),(4,.val i64 v402.2)],vr:=[],lent:=[] }
noncomputable def b0 (self:((List (List UInt8))×Int)->OO) (e0:(List (List UInt8))->OO) (a1:Arg) (v402:(List (List UInt8))×Int):OO:=bif decide (v402.2 < (a1.1.length:Int)) then (if 0<=v402.2 then ((a1.1[v402.2.toNat]?).bind fun x603=>(spec_l2Copy.sem (x603,())).bind fun r604=>if v402.1.length+[r604.1].length<=CAP then (self (v402.1++[r604.1],w64 (v402.2+(1:Int)))) else none) else none) else e0 v402.1
noncomputable def q0 (a1:Arg) (z605:(List (List UInt8))):OO:=some (z605,())
noncomputable def s0 (k:Nat) (a1:Arg):((List (List UInt8))×Int)->OO:=fun v402=>D.L k [1,1,0,1,0,0] [0,3,4] [] (blockC 0 (seqC (D.N k [1,1,1]) D.K0)) (T0 a1 v402)
noncomputable def r0 (k:Nat) (a1:Arg):((List (List UInt8))×Int)->OO:=rawIter (fun w v=>b0 w (q0 a1) a1 v) k
theorem s0_eq (k:Nat) (a1:Arg):s0 k a1=r0 k a1:=
 funext fun v402=>iter_raw _ _ _ (T0 a1) _ (fun rec v=>by kernel_rfl) k v402
noncomputable def p (l0:((List (List UInt8))×Int)->OO) (a1:Arg):OO:=l0 (([]:List (List UInt8)),(0:Int))
theorem raw_eq (k:Nat) (a1:Arg):@Eq OO (D.W k a1) (p (r0 k a1) a1):=
 bI (b:=p (s0 k a1) a1) (by kernel_rfl) (by rw[s0_eq])
theorem ok:Ok prog 217 D.sig:=fd_ok func217 tlOk (by kernel_rfl) (fc spec_l2Copy.ok (fn_nil _))
end spec_l7Copy
namespace spec_l9Copy
abbrev Arg:Type:=Miner×Unit
abbrev Out:Type:=Miner×Unit
noncomputable def D:FD:={ fn:=f266,tl:=TL0,ps:=[(.ro,tMiner)],rs:=[(tMiner,(ownMd tMiner))],gl:=[(152,spec_l9Buffers.D.sig),(217,spec_l7Copy.D.sig)],od:=[(1,[0,1,3,4,2,5,6,7])] }
noncomputable def sem (a:Arg):Option Out:=@lift Out fun k=>D.W k a
noncomputable def p (a1:Arg):Option Out:=(spec_l7Copy.sem (a1.1.1,())).bind fun r2=>(spec_l9Buffers.sem (a1.1.2.1,())).bind fun r3=>some ((r2.1,r3.1,()),())
theorem raw_eq (k:Nat) (a1:Arg):@Eq (Option Out) (D.W k a1) (p a1):=by kernel_rfl
theorem ok:Ok prog 266 D.sig:=fd_ok func266 tlOk (by kernel_rfl) (fc spec_l9Buffers.ok (fc spec_l7Copy.ok (fn_nil _)))
end spec_l9Copy
namespace spec_l9End
abbrev Arg:Type:=Miner×Record×Unit
abbrev Out:Type:=MinerResult×Unit
noncomputable def D:FD:={ fn:=f265,tl:=TL0,ps:=[(.ro,tMiner),(.ro,(.ptr tRecord))],rs:=[(tMinerResult,(.pair (roMd i64) (.pair (roMd .bool) (.pair (roMd .bool) (.pair (roMd i64) (.pair (roMd (.slc tChange)) (.pair (.pair (ownMd (.slc (.slc u8))) (.pair (.slc true (roMd tBuffer)) (roMd .unit))) (roMd .unit))))))))],gl:=[(131,spec_l9Bad.D.sig),(262,spec_l9At.D.sig),(266,spec_l9Copy.D.sig)],fz:=[(5,5,1)],od:=[(8,[0,1,2,3,4,5,6,7,8,9,10,11,12])] }
noncomputable def sem (a:Arg):Option Out:=@lift Out fun k=>D.W k a
noncomputable def p (a1:Arg):Option Out:=(spec_l9At.sem (a1.1,a1.2.1.2.1,())).bind fun r2=>bif decide (r2.1 < (0:Int)) then ((spec_l9Bad.sem ((4:Int),())).bind fun r3=>some (r3.1,())) else (spec_l9Copy.sem (a1.1,())).bind fun r4=>if 0<=r2.1/\r2.1<=(r4.1.2.1.length:Int) then (if ([]:List Buffer).length+((r4.1.2.1.take r2.1.toNat).drop 0).length<=CAP then (let y5:=([]:List Buffer)++((r4.1.2.1.take r2.1.toNat).drop 0);if 0<=r2.1 then ((r4.1.2.1[r2.1.toNat]?).bind fun x6=>if 0<=w64 (r2.1+(1:Int))/\w64 (r2.1+(1:Int))<=(r4.1.2.1.length:Int) then (if y5.length+((r4.1.2.1.take r4.1.2.1.length).drop (w64 (r2.1+(1:Int))).toNat).length<=CAP then (let y7:=y5++((r4.1.2.1.take r4.1.2.1.length).drop (w64 (r2.1+(1:Int))).toNat);some (((0:Int),true,decide (a1.2.1.1=(5:Int)),a1.2.1.2.1,x6.2.1,(r4.1.1,y7,r4.1.2.2),()),())) else none) else none) else none) else none) else none
theorem raw_eq (k:Nat) (a1:Arg):@Eq (Option Out) (D.W k a1) (p a1):=by kernel_rfl
theorem ok:Ok prog 265 D.sig:=fd_ok func265 tlOk (by kernel_rfl) (fc spec_l9Bad.ok (fc spec_l9At.ok (fc spec_l9Copy.ok (fn_nil _))))
end spec_l9End
namespace spec_l6Changes
abbrev Arg:Type:=(List Row)×(List Row)×Unit
abbrev Out:Type:=(List Change)×Unit
abbrev OO:=Option Out
noncomputable def D:FD:={ fn:=f188,tl:=TL0,ps:=[(.ro,(.slc tRow)),(.ro,(.slc tRow))],rs:=[((.slc tChange),(ownMd (.slc tChange)))],gl:=[(304,spec_l6At.D.sig),(305,spec_l6Put.D.sig)],lv:=[(3,[0,1,5,6]),(9,[0,1,5,7,8])],lx:=[(0,[0,1,5]),(2,[7]),(3,[0,1,5,7,8])],od:=[(5,[0,1,2,3,4,5,6,7,8,9,10,11,12]),(11,[0,1,2,3,4,5,6,7,8,9,10,11,12]),(12,[0,1,2,3,4,5,6,7,8,9,10,11,12]),(13,[0,1,2,3,4,5,6,7,8,9,10,11,12,13,14,15,16])] }
noncomputable def sem (a:Arg):OO:=@lift Out fun k=>D.W k a
noncomputable def T0 (a1:Arg) (v402:(List Row)×Int):St:={ n:=112,sl:=[(0,.val (.slc tRow) a1.1),(1,.val (.slc tRow) a1.2.1),(5,.own (.slc tRow) (ownMd (.slc tRow)) [] v402.1),(6,.val i64 v402.2)],vr:=[],lent:=[] }
noncomputable def S0 (rec:RT Out) (a1:Arg):((List Row)×Int)->OO:=fun v402=>rec (T0 a1 v402)
noncomputable def X0_0 (K:KT Out) (a1:Arg):(List Row)->OO:=fun z=>K (.exit 0) ({ n:=112,sl:=[(0,.val (.slc tRow) a1.1),(1,.val (.slc tRow) a1.2.1),(5,.own (.slc tRow) (ownMd (.slc tRow)) [] z)],vr:=[],lent:=[] })
noncomputable def b0 (self:((List Row)×Int)->OO) (e0:(List Row)->OO) (a1:Arg) (v402:(List Row)×Int):OO:=bif decide (v402.2 < (a1.2.1.length:Int)) then (if 0<=v402.2 then ((a1.2.1[v402.2.toNat]?).bind fun x603=>if 0<=v402.2 then ((a1.2.1[v402.2.toNat]?).bind fun x604=>(spec_l6At.sem (a1.1,x603.1,x604.2.1,())).bind fun r605=>bif decide (r605.1 < (0:Int)) then (if 0<=v402.2 then ((a1.2.1[v402.2.toNat]?).bind fun x606=>(spec_l6Put.sem (v402.1,x606,())).bind fun r607=>self (r607.1,w64 (v402.2+(1:Int)))) else none) else self (v402.1,w64 (v402.2+(1:Int)))) else none) else none) else e0 v402.1
theorem B0_eq (k:Nat) (rec:RT Out) (K:KT Out) (a1:Arg) (v402:(List Row)×Int):D.N k [1,1,0,1,0,0] (T0 a1 v402) (loopC rec (keepF [0,1,5,6] []) K)=b0 (S0 rec a1) (X0_0 K a1) a1 v402:=by kernel_rfl
noncomputable def T1 (a1:Arg) (c1010:List Row) (v1009:(List Change)×Int):St:={ n:=112,sl:=[(0,.val (.slc tRow) a1.1),(1,.val (.slc tRow) a1.2.1),(5,.own (.slc tRow) (ownMd (.slc tRow)) [] c1010),(7,.own (.slc tChange) (ownMd (.slc tChange)) [] v1009.1),(8,.val i64 v1009.2)],vr:=[],lent:=[] }
noncomputable def b1 (self:((List Change)×Int)->OO) (e2:(List Change)->OO) (a1:Arg) (c1010:List Row) (v1009:(List Change)×Int):OO:=bif decide (v1009.2 < (c1010.length:Int)) then (if 0<=v1009.2/\v1009.2 < (c1010.length:Int) then ((c1010[v1009.2.toNat]?).bind fun x1211=>if 0<=v1009.2/\v1009.2 < (c1010.length:Int) then ((c1010[v1009.2.toNat]?).bind fun x1212=>(spec_l6At.sem (a1.1,x1211.1,x1212.2.1,())).bind fun r1213=>if 0<=v1009.2/\v1009.2 < (c1010.length:Int) then ((c1010[v1009.2.toNat]?).bind fun x1214=>if 0<=v1009.2/\v1009.2 < (c1010.length:Int) then ((c1010[v1009.2.toNat]?).bind fun x1215=>(spec_l6At.sem (a1.2.1,x1214.1,x1215.2.1,())).bind fun r1216=>let j1226:OO:=let j1232:=fun (p1231:Change)=>(let j1236:=fun (p1235:Change)=>(if v1009.1.length+[p1235].length<=CAP then (self (v1009.1++[p1235],w64 (v1009.2+(1:Int)))) else none:OO);bif decide ((0:Int)<=r1216.1) then (if 0<=r1216.1 then ((a1.2.1[r1216.1.toNat]?).bind fun x1233=>j1236 (p1231.1,p1231.2.1,p1231.2.2.1,x1233,p1231.2.2.2.2)) else none) else j1236 p1231:OO);bif decide ((0:Int)<=r1213.1) then (if 0<=r1213.1 then ((a1.1[r1213.1.toNat]?).bind fun x1227=>j1232 (decide ((0:Int)<=r1213.1),x1227,decide ((0:Int)<=r1216.1),((0:Int),(0:Int),(0:Int),([]:List UInt8),()),())) else none) else j1232 (decide ((0:Int)<=r1213.1),((0:Int),(0:Int),(0:Int),([]:List UInt8),()),decide ((0:Int)<=r1216.1),((0:Int),(0:Int),(0:Int),([]:List UInt8),()),());bif decide ((0:Int)<=r1213.1) then (bif decide ((0:Int)<=r1216.1) then (if 0<=r1213.1 then ((a1.1[r1213.1.toNat]?).bind fun x1217=>if 0<=r1216.1 then ((a1.2.1[r1216.1.toNat]?).bind fun x1218=>bif (Ty.eq tRow x1217 x1218) then (self (v1009.1,w64 (v1009.2+(1:Int)))) else j1226) else none) else none) else j1226) else j1226) else none) else none) else none) else none) else e2 v1009.1
noncomputable def q1 (a1:Arg) (c1010:List Row) (z1237:(List Change)):OO:=some (z1237,())
noncomputable def s1 (k:Nat) (a1:Arg):(List Row)->((List Change)×Int)->OO:=fun c1010=>fun v1009=>D.L k [1,1,1,1,0,1,0,0] [0,1,5,7,8] [] (blockC 2 (seqC (D.N k [1,1,1,1,1]) D.K0)) (T1 a1 c1010 v1009)
noncomputable def r1 (k:Nat) (a1:Arg):(List Row)->((List Change)×Int)->OO:=fun c1010=>rawIter (fun w v=>b1 w (q1 a1 c1010) a1 c1010 v) k
theorem s1_eq (k:Nat) (a1:Arg):s1 k a1=r1 k a1:=
 funext fun c1010=>funext fun v1009=>iter_raw _ _ _ (T1 a1 c1010) _ (fun rec v=>by kernel_rfl) k v1009
noncomputable def q0 (l1:(List Row)->((List Change)×Int)->OO) (a1:Arg) (z608:(List Row)):OO:=l1 z608 (([]:List Change),(0:Int))
noncomputable def Q0 (k:Nat) (a1:Arg) (z608:(List Row)):OO:=q0 (r1 k a1) a1 z608
theorem Q0_eq (k:Nat) (a1:Arg) (z608:(List Row)):X0_0 (blockC 0 (seqC (D.N k [1,1,1]) D.K0)) a1 z608=Q0 k a1 z608:=
 bI (b:=q0 (s1 k a1) a1 z608) (by kernel_rfl) (by rw[s1_eq];rfl)
noncomputable def s0 (k:Nat) (a1:Arg):((List Row)×Int)->OO:=fun v402=>D.L k [1,1,0,1,0,0] [0,1,5,6] [] (blockC 0 (seqC (D.N k [1,1,1]) D.K0)) (T0 a1 v402)
noncomputable def r0 (k:Nat) (a1:Arg):((List Row)×Int)->OO:=rawIter (fun w v=>b0 w (Q0 k a1) a1 v) k
theorem s0_eq (k:Nat) (a1:Arg):s0 k a1=r0 k a1:=by
 funext v402;have h0:X0_0 (blockC 0 (seqC (D.N k [1,1,1]) D.K0)) a1=Q0 k a1:=funext fun z=>Q0_eq k a1 z;refine (iter_raw _ _ _ (T0 a1) (fun self v=>b0 self (X0_0 (blockC 0 (seqC (D.N k [1,1,1]) D.K0)) a1) a1 v) (fun rec v=>B0_eq k rec (blockC 0 (seqC (D.N k [1,1,1]) D.K0)) a1 v) k v402).trans ?_;rw[h0];rfl
noncomputable def p (l0:((List Row)×Int)->OO) (a1:Arg):OO:=if ([]:List Row).length+a1.1.length<=CAP then (l0 (([]:List Row)++a1.1,(0:Int))) else none
theorem raw_eq (k:Nat) (a1:Arg):@Eq OO (D.W k a1) (p (r0 k a1) a1):=
 bI (b:=p (s0 k a1) a1) (by kernel_rfl) (by rw[s0_eq])
theorem ok:Ok prog 188 D.sig:=fd_ok func188 tlOk (by kernel_rfl) (fc spec_l6At.ok (fc spec_l6Put.ok (fn_nil _)))
end spec_l6Changes
namespace spec_l6RowsIn
abbrev Arg:Type:=(List (List UInt8))×Unit
abbrev Out:Type:=(List Row)×Unit
abbrev OO:=Option Out
noncomputable def D:FD:={ fn:=f189,tl:=TL0,ps:=[(.ro,(.slc (.slc u8)))],rs:=[((.slc tRow),(ownMd (.slc tRow)))],gl:=[(303,spec_l6Seen.D.sig),(305,spec_l6Put.D.sig)],lv:=[(4,[3,4,5])],lx:=[(0,[3])] }
noncomputable def sem (a:Arg):OO:=@lift Out fun k=>D.W k a
noncomputable def T0 (a1:Arg) (c404:List L6Spot) (v403:(List Row)×Int):St:={ n:=24,sl:=[(3,.own (.slc tRow) (ownMd (.slc tRow)) [] v403.1),(4,.own (.slc tL6Spot) (ownMd (.slc tL6Spot)) [] c404),(5,.val i64 v403.2)],vr:=[],lent:=[] }
noncomputable def b0 (self:((List Row)×Int)->OO) (e0:(List Row)->OO) (a1:Arg) (c404:List L6Spot) (v403:(List Row)×Int):OO:=bif decide (v403.2 < (c404.length:Int)) then (if 0<=v403.2/\v403.2 < (c404.length:Int) then ((c404[v403.2.toNat]?).bind fun x605=>(spec_l6Put.sem (v403.1,x605.2.2.1.2.2.2.2.1,())).bind fun r606=>self (r606.1,w64 (v403.2+(1:Int)))) else none) else e0 v403.1
noncomputable def q0 (a1:Arg) (c404:List L6Spot) (z607:(List Row)):OO:=some (z607,())
noncomputable def s0 (k:Nat) (a1:Arg):(List L6Spot)->((List Row)×Int)->OO:=fun c404=>fun v403=>D.L k [1,1,1,0,1,0,0] [3,4,5] [] (blockC 0 (seqC (D.N k [1,1,1,1]) D.K0)) (T0 a1 c404 v403)
noncomputable def r0 (k:Nat) (a1:Arg):(List L6Spot)->((List Row)×Int)->OO:=fun c404=>rawIter (fun w v=>b0 w (q0 a1 c404) a1 c404 v) k
theorem s0_eq (k:Nat) (a1:Arg):s0 k a1=r0 k a1:=
 funext fun c404=>funext fun v403=>iter_raw _ _ _ (T0 a1 c404) _ (fun rec v=>by kernel_rfl) k v403
noncomputable def p (l0:(List L6Spot)->((List Row)×Int)->OO) (a1:Arg):OO:=(spec_l6Seen.sem (a1.1,())).bind fun r2=>l0 r2.1 (([]:List Row),(0:Int))
theorem raw_eq (k:Nat) (a1:Arg):@Eq OO (D.W k a1) (p (r0 k a1) a1):=
 bI (b:=p (s0 k a1) a1) (by kernel_rfl) (by rw[s0_eq])
theorem ok:Ok prog 189 D.sig:=fd_ok func189 tlOk (by kernel_rfl) (fc spec_l6Seen.ok (fc spec_l6Put.ok (fn_nil _)))
end spec_l6RowsIn
namespace spec_l7Bad
abbrev Arg:Type:=Int×Unit
abbrev Out:Type:=EditsResult×Unit
noncomputable def D:FD:={ fn:=f204,tl:=TL0,ps:=[(.ro,i64)],rs:=[(tEditsResult,(ownMd tEditsResult))] }
noncomputable def sem (a:Arg):Option Out:=@lift Out fun k=>D.W k a
noncomputable def p (a1:Arg):Option Out:=some ((a1.1,([]:List Run),([]:List (List UInt8)),()),())
theorem raw_eq (k:Nat) (a1:Arg):@Eq (Option Out) (D.W k a1) (p a1):=by kernel_rfl
theorem ok:Ok prog 204 D.sig:=fd_ok func204 tlOk (by kernel_rfl) (fn_nil _)
end spec_l7Bad
namespace spec_l2New
abbrev Arg:Type:=UInt8×Unit
abbrev Out:Type:=(List UInt8)×Unit
abbrev OO:=Option Out
noncomputable def D:FD:={ fn:=f425,tl:=TL0,ps:=[(.ro,u8)],rs:=[((.slc u8),(ownMd (.slc u8)))],lv:=[(3,[0,3,4])],lx:=[(0,[3])] }
noncomputable def sem (a:Arg):OO:=@lift Out fun k=>D.W k a
noncomputable def T0 (a1:Arg) (v402:(List UInt8)×Int):St:={ n:=19,sl:=[(0,.val u8 a1.1),(3,.own (.slc u8) (ownMd (.slc u8)) [] v402.1),(4,.val i64 v402.2)],vr:=[],lent:=[] }
noncomputable def b0 (self:((List UInt8)×Int)->OO) (e0:(List UInt8)->OO) (a1:Arg) (v402:(List UInt8)×Int):OO:=bif decide (v402.2 < (64:Int)) then (if 0<=v402.2/\v402.2 < (v402.1.length:Int) then ((v402.1[v402.2.toNat]?).bind fun x603=>self (v402.1.set v402.2.toNat a1.1,w64 (v402.2+(1:Int)))) else none) else e0 v402.1
noncomputable def q0 (a1:Arg) (z604:(List UInt8)):OO:=if 0<=(0:Int)/\(0:Int) < (z604.length:Int) then ((z604[0]?).bind fun x605=>if 0<=(1:Int)/\(1:Int) < ((z604.set 0 (0:UInt8)).length:Int) then (((z604.set 0 (0:UInt8))[1]?).bind fun x606=>let y607:=(z604.set 0 (0:UInt8)).set 1 (64:UInt8);some (y607,())) else none) else none
noncomputable def s0 (k:Nat) (a1:Arg):((List UInt8)×Int)->OO:=fun v402=>D.L k [1,1,0,1,0,0] [0,3,4] [] (blockC 0 (seqC (D.N k [1,1,1]) D.K0)) (T0 a1 v402)
noncomputable def r0 (k:Nat) (a1:Arg):((List UInt8)×Int)->OO:=rawIter (fun w v=>b0 w (q0 a1) a1 v) k
theorem s0_eq (k:Nat) (a1:Arg):s0 k a1=r0 k a1:=
 funext fun v402=>iter_raw _ _ _ (T0 a1) _ (fun rec v=>by kernel_rfl) k v402
noncomputable def p (l0:((List UInt8)×Int)->OO) (a1:Arg):OO:=if 0<=(64:Int)/\(64:Int)<=(64:Int)/\(64:Int)<=(CAP:Int) then (l0 (List.replicate 64 (0:UInt8),(0:Int))) else none
theorem raw_eq (k:Nat) (a1:Arg):@Eq OO (D.W k a1) (p (r0 k a1) a1):=
 bI (b:=p (s0 k a1) a1) (by kernel_rfl) (by rw[s0_eq])
theorem ok:Ok prog 425 D.sig:=fd_ok func425 tlOk (by kernel_rfl) (fn_nil _)
end spec_l2New
namespace spec_l3Apply
abbrev Arg:Type:=(List UInt8)×(List Run)×Unit
abbrev Out:Type:=(List UInt8)×Unit
abbrev OO:=Option Out
noncomputable def D:FD:={ fn:=f426,tl:=TL0,ps:=[(.ro,(.slc u8)),(.ro,(.slc tRun))],rs:=[((.slc u8),(ownMd (.slc u8)))],gl:=[(171,spec_l2Copy.D.sig)],lv:=[(3,[1,5,6])],lx:=[(0,[5])],od:=[(5,[0,1,2,3,4,5,6,7,8,9,10,11,12])] }
noncomputable def sem (a:Arg):OO:=@lift Out fun k=>D.W k a
noncomputable def T0 (a1:Arg) (v403:(List UInt8)×Int):St:={ n:=29,sl:=[(1,.val (.slc tRun) a1.2.1),(5,.own (.slc u8) (ownMd (.slc u8)) [] v403.1),(6,.val i64 v403.2)],vr:=[],lent:=[] }
noncomputable def b0 (self:((List UInt8)×Int)->OO) (e0:(List UInt8)->OO) (a1:Arg) (v403:(List UInt8)×Int):OO:=bif decide (v403.2 < (a1.2.1.length:Int)) then (if 0<=v403.2 then ((a1.2.1[v403.2.toNat]?).bind fun x604=>if 0<=x604.1/\x604.1<=(v403.1.length:Int) then (if 0<=v403.2 then ((a1.2.1[v403.2.toNat]?).bind fun x605=>let y606:=over v403.1 x604.1.toNat (min x605.2.1.length (v403.1.length - x604.1.toNat)) x605.2.1;self (y606,w64 (v403.2+(1:Int)))) else none) else none) else none) else e0 v403.1
noncomputable def q0 (a1:Arg) (z607:(List UInt8)):OO:=some (z607,())
noncomputable def s0 (k:Nat) (a1:Arg):((List UInt8)×Int)->OO:=fun v403=>D.L k [1,1,0,1,0,0] [1,5,6] [] (blockC 0 (seqC (D.N k [1,1,1]) D.K0)) (T0 a1 v403)
noncomputable def r0 (k:Nat) (a1:Arg):((List UInt8)×Int)->OO:=rawIter (fun w v=>b0 w (q0 a1) a1 v) k
theorem s0_eq (k:Nat) (a1:Arg):s0 k a1=r0 k a1:=
 funext fun v403=>iter_raw _ _ _ (T0 a1) _ (fun rec v=>by kernel_rfl) k v403
noncomputable def p (l0:((List UInt8)×Int)->OO) (a1:Arg):OO:=(spec_l2Copy.sem (a1.1,())).bind fun r2=>l0 (r2.1,(0:Int))
theorem raw_eq (k:Nat) (a1:Arg):@Eq OO (D.W k a1) (p (r0 k a1) a1):=
 bI (b:=p (s0 k a1) a1) (by kernel_rfl) (by rw[s0_eq])
theorem ok:Ok prog 426 D.sig:=fd_ok func426 tlOk (by kernel_rfl) (fc spec_l2Copy.ok (fn_nil _))
end spec_l3Apply
namespace spec_ApplyRecord
abbrev Arg:Type:=(List (List UInt8))×Record×Unit
abbrev Out:Type:=EditsResult×Unit
abbrev OO:=Option Out
noncomputable def D:FD:={ fn:=f362,tl:=TL0,ps:=[(.ro,(.slc (.slc u8))),(.ro,tRecord)],rs:=[(tEditsResult,(ownMd tEditsResult))],gl:=[(132,spec_l4Fault.D.sig),(204,spec_l7Bad.D.sig),(217,spec_l7Copy.D.sig),(263,spec_l4Runs.D.sig),(425,spec_l2New.D.sig),(426,spec_l3Apply.D.sig)],lv:=[(4,[0,3,4,5])],lx:=[(0,[0,3,4])],od:=[(20,[0,1,2,3,4,5,6]),(21,[0,1,2,3,4,5,6,7,8,9,10,11,12,13,14])] }
noncomputable def sem (a:Arg):OO:=@lift Out fun k=>D.W k a
noncomputable def T0 (a1:Arg) (v403:Int):St:={ n:=75,sl:=[(0,.val (.slc (.slc u8)) a1.1),(3,.box tRecord (roMd tRecord) [] a1.2.1),(4,.box tEditsResult (ownMd tEditsResult) [] ((0:Int),([]:List Run),([]:List (List UInt8)),())),(5,.val i64 v403)],vr:=[],lent:=[] }
noncomputable def b0 (self:Int->OO) (e0:(Unit)->OO) (a1:Arg) (v403:Int):OO:=bif decide (v403 < (a1.1.length:Int)) then (if 0<=v403 then ((a1.1[v403.toNat]?).bind fun x604=>bif !decide ((x604.length:Int)=(64:Int)) then ((spec_l7Bad.sem ((1:Int),())).bind fun r605=>some (r605.1,())) else self (w64 (v403+(1:Int)))) else none) else e0 ()
noncomputable def q0 (a1:Arg) (z606:(Unit)):OO:=(spec_l4Fault.sem (a1.2.1,())).bind fun r607=>bif !decide (r607.1=(0:Int)) then ((spec_l7Bad.sem (r607.1,())).bind fun r608=>some (r608.1,())) else (spec_l7Copy.sem (a1.1,())).bind fun r609=>(spec_l4Runs.sem (a1.2.1.1,())).bind fun r610=>bif !r610.1 then (some (((0:Int),([]:List Run),r609.1,()),())) else bif decide ((a1.1.length:Int) < a1.2.1.2.2.1) then ((spec_l7Bad.sem ((1:Int),())).bind fun r611=>some (r611.1,())) else bif decide (a1.2.1.2.2.1=(12:Int)) then ((spec_l7Bad.sem ((2:Int),())).bind fun r612=>some (r612.1,())) else let j620:=fun (p619:EditsResult)=>(if 0<=a1.2.1.2.2.1/\a1.2.1.2.2.1 < (p619.2.2.1.length:Int) then ((p619.2.2.1[a1.2.1.2.2.1.toNat]?).bind fun x621=>(p619.2.2.1[a1.2.1.2.2.1.toNat]?).bind fun x622=>(spec_l3Apply.sem (x622,a1.2.1.2.2.2.1,())).bind fun r623=>if 0<=a1.2.1.2.2.1/\a1.2.1.2.2.1 < (p619.2.2.1.length:Int) then ((p619.2.2.1[a1.2.1.2.2.1.toNat]?).bind fun x624=>some ((p619.1,p619.2.1,p619.2.2.1.set a1.2.1.2.2.1.toNat r623.1,p619.2.2.2),())) else none) else none:OO);bif decide (a1.2.1.2.2.1=(a1.1.length:Int)) then ((spec_l2New.sem ((0:UInt8),())).bind fun r613=>if r609.1.length+[r613.1].length<=CAP then (j620 ((0:Int),([]:List Run),r609.1++[r613.1],())) else none) else j620 ((0:Int),([]:List Run),r609.1,())
noncomputable def s0 (k:Nat) (a1:Arg):(Int)->OO:=fun v403=>D.L k [1,1,0,1,0,0] [0,3,4,5] [] (blockC 0 (seqC (D.N k [1,1,1]) D.K0)) (T0 a1 v403)
noncomputable def r0 (k:Nat) (a1:Arg):(Int)->OO:=rawIter (fun w v=>b0 w (q0 a1) a1 v) k
theorem s0_eq (k:Nat) (a1:Arg):s0 k a1=r0 k a1:=
 funext fun v403=>iter_raw _ _ _ (T0 a1) _ (fun rec v=>by kernel_rfl) k v403
noncomputable def p (l0:(Int)->OO) (a1:Arg):OO:=bif decide ((12:Int) < (a1.1.length:Int)) then ((spec_l7Bad.sem ((2:Int),())).bind fun r2=>some (r2.1,())) else l0 (0:Int)
theorem raw_eq (k:Nat) (a1:Arg):@Eq OO (D.W k a1) (p (r0 k a1) a1):=
 bI (b:=p (s0 k a1) a1) (by kernel_rfl) (by rw[s0_eq])
theorem ok:Ok prog 362 D.sig:=fd_ok func362 tlOk (by kernel_rfl) (fc spec_l4Fault.ok (fc spec_l7Bad.ok (fc spec_l7Copy.ok (fc spec_l4Runs.ok (fc spec_l2New.ok (fc spec_l3Apply.ok (fn_nil _)))))))
end spec_ApplyRecord
namespace spec_l9Fold
abbrev Arg:Type:=(List Change)×Change×Unit
abbrev Out:Type:=(List Change)×Bool×Unit
abbrev OO:=Option Out
noncomputable def D:FD:={ fn:=f427,tl:=TL0,ps:=[(.ro,(.slc tChange)),(.ro,tChange)],rs:=[((.slc tChange),(ownMd (.slc tChange))),(.bool,(roMd .bool))],gl:=[(361,spec_l9Ahead.D.sig)],lv:=[(4,[0,3,6,7,8])],lx:=[(0,[3,6,7]),(1,[0,3,6,7,8])] }
noncomputable def sem (a:Arg):OO:=@lift Out fun k=>D.W k a
noncomputable def T0 (a1:Arg) (v402:(List Change)×Bool×Int):St:={ n:=88,sl:=[(0,.val (.slc tChange) a1.1),(3,.box tChange (roMd tChange) [] a1.2.1),(6,.own (.slc tChange) (ownMd (.slc tChange)) [] v402.1),(7,.val .bool v402.2.1),(8,.val i64 v402.2.2)],vr:=[],lent:=[] }
noncomputable def b0 (self:((List Change)×Bool×Int)->OO) (e0:((List Change)×Bool)->OO) (a1:Arg) (v402:(List Change)×Bool×Int):OO:=bif decide (v402.2.2 < (a1.1.length:Int)) then (if 0<=v402.2.2 then ((a1.1[v402.2.2.toNat]?).bind fun x603=>let j613:=fun (p611:List Change) (p612:Bool)=>((spec_l9Ahead.sem (x603,a1.2.1,())).bind fun r614=>bif r614.1 then (if p611.length+[x603].length<=CAP then (self (p611++[x603],p612,w64 (v402.2.2+(1:Int)))) else none) else (spec_l9Ahead.sem (a1.2.1,x603,())).bind fun r615=>bif r615.1 then (if p611.length+[x603].length<=CAP then (self (p611++[x603],p612,w64 (v402.2.2+(1:Int)))) else none) else let j618:OO:=let j620:OO:=if p611.length+[(x603.1,x603.2.1,a1.2.1.2.2.1,a1.2.1.2.2.2.1,x603.2.2.2.2)].length<=CAP then (let y621:=p611++[(x603.1,x603.2.1,a1.2.1.2.2.1,a1.2.1.2.2.2.1,x603.2.2.2.2)];self (y621,true,w64 (v402.2.2+(1:Int)))) else none;bif (x603.1 == a1.2.1.2.2.1) then (bif !x603.1 then (self (p611,true,w64 (v402.2.2+(1:Int)))) else bif (Ty.eq tRow x603.2.1 a1.2.1.2.2.2.1) then (self (p611,true,w64 (v402.2.2+(1:Int)))) else j620) else j620;bif !(x603.2.2.1 == a1.2.1.1) then (some (([]:List Change),false,())) else bif x603.2.2.1 then (bif !(Ty.eq tRow x603.2.2.2.1 a1.2.1.2.1) then (some (([]:List Change),false,())) else j618) else j618:OO);bif !v402.2.1 then ((spec_l9Ahead.sem (a1.2.1,x603,())).bind fun r604=>bif r604.1 then (if v402.1.length+[a1.2.1].length<=CAP then (j613 (v402.1++[a1.2.1]) true) else none) else j613 v402.1 v402.2.1) else j613 v402.1 v402.2.1) else none) else e0 (v402.1,v402.2.1)
noncomputable def q0 (a1:Arg) (z622:((List Change)×Bool)):OO:=bif !z622.2 then (if z622.1.length+[a1.2.1].length<=CAP then (some (z622.1++[a1.2.1],true,())) else none) else some (z622.1,true,())
noncomputable def s0 (k:Nat) (a1:Arg):((List Change)×Bool×Int)->OO:=fun v402=>D.L k [1,1,1,0,1,0,0] [0,3,6,7,8] [] (blockC 0 (seqC (D.N k [1,1,1,1]) D.K0)) (T0 a1 v402)
noncomputable def r0 (k:Nat) (a1:Arg):((List Change)×Bool×Int)->OO:=rawIter (fun w v=>b0 w (q0 a1) a1 v) k
theorem s0_eq (k:Nat) (a1:Arg):s0 k a1=r0 k a1:=
 funext fun v402=>iter_raw _ _ _ (T0 a1) _ (fun rec v=>by kernel_rfl) k v402
noncomputable def p (l0:((List Change)×Bool×Int)->OO) (a1:Arg):OO:=l0 (([]:List Change),false,(0:Int))
theorem raw_eq (k:Nat) (a1:Arg):@Eq OO (D.W k a1) (p (r0 k a1) a1):=
 bI (b:=p (s0 k a1) a1) (by kernel_rfl) (by rw[s0_eq])
theorem ok:Ok prog 427 D.sig:=fd_ok func427 tlOk (by kernel_rfl) (fc spec_l9Ahead.ok (fn_nil _))
end spec_l9Fold
namespace spec_FoldChange
abbrev Arg:Type:=(List Change)×Change×Unit
abbrev Out:Type:=Buffer×Unit
noncomputable def D:FD:={ fn:=f363,tl:=TL0,ps:=[(.ro,(.slc tChange)),(.ro,tChange)],rs:=[(tBuffer,(ownMd tBuffer))],gl:=[(261,spec_l9List.D.sig),(360,spec_l9Change.D.sig),(427,spec_l9Fold.D.sig)] }
noncomputable def sem (a:Arg):Option Out:=@lift Out fun k=>D.W k a
noncomputable def p (a1:Arg):Option Out:=(spec_l9List.sem (a1.1,())).bind fun r2=>bif !decide (r2.1=(0:Int)) then (some ((r2.1,([]:List Change),()),())) else (spec_l9Change.sem (a1.2.1,())).bind fun r3=>bif !decide (r3.1=(0:Int)) then (some ((r3.1,([]:List Change),()),())) else (spec_l9Fold.sem (a1.1,a1.2.1,())).bind fun r4=>bif !r4.2.1 then (some (((8:Int),([]:List Change),()),())) else some (((0:Int),r4.1,()),())
theorem raw_eq (k:Nat) (a1:Arg):@Eq (Option Out) (D.W k a1) (p a1):=by kernel_rfl
theorem ok:Ok prog 363 D.sig:=fd_ok func363 tlOk (by kernel_rfl) (fc spec_l9List.ok (fc spec_l9Change.ok (fc spec_l9Fold.ok (fn_nil _))))
end spec_FoldChange
namespace spec_l9Turn
abbrev Arg:Type:=Miner×Record×Unit
abbrev Out:Type:=MinerResult×Unit
abbrev OO:=Option Out
noncomputable def D:FD:={ fn:=f267,tl:=TL0,ps:=[(.ro,tMiner),(.ro,(.ptr tRecord))],rs:=[(tMinerResult,(ownMd tMinerResult))],gl:=[(131,spec_l9Bad.D.sig),(187,spec_l6Fault.D.sig),(188,spec_l6Changes.D.sig),(189,spec_l6RowsIn.D.sig),(262,spec_l9At.D.sig),(266,spec_l9Copy.D.sig),(362,spec_ApplyRecord.D.sig),(363,spec_FoldChange.D.sig)],fz:=[(1,1,7),(7,7,0)],lv:=[(18,[4,7,8,9,10])],lx:=[(0,[4,8])],od:=[(1,[0,1,2,3,4,5,6,7]),(7,[0,1,3,4,2,5,6,7]),(20,[0,1,2,3,4,5,6,7,8,9,10,11,12])],ar:=[(1,[4]),(20,[9])],pd:=[(1,[6]),(20,[11])],er:=[(1,[(1,8)]),(20,[(1,13),(5,13)])] }
noncomputable def sem (a:Arg):OO:=@lift Out fun k=>D.W k a
noncomputable def T0 (a1:Arg) (c414:List Change) (c415:Int) (v413:Miner×Int):St:={ n:=94,sl:=[(4,.box tMinerResult (ownMd tMinerResult) [] ((0:Int),false,false,(0:Int),([]:List Change),(([]:List (List UInt8)),([]:List Buffer),()),())),(7,.val (.slc tChange) c414),(8,.box tMiner (ownMd tMiner) [] v413.1),(9,.val i64 c415),(10,.val i64 v413.2)],vr:=[],lent:=[] }
noncomputable def b0 (self:(Miner×Int)->OO) (e0:Miner->OO) (a1:Arg) (c414:List Change) (c415:Int) (v413:Miner×Int):OO:=bif decide (v413.2 < (c414.length:Int)) then (if 0<=c415/\c415 < (v413.1.2.1.length:Int) then ((v413.1.2.1[c415.toNat]?).bind fun x616=>bif (pathB [.snd,.fst,.idx c415.toNat,.snd,.fst] [.snd,.fst,.idx c415.toNat,.snd,.fst]&&true) then (if 0<=v413.2 then ((c414[v413.2.toNat]?).bind fun x617=>(v413.1.2.1[c415.toNat]?).bind fun x618=>(spec_FoldChange.sem (x618.2.1,x617,())).bind fun r619=>bif (pathB [.snd,.fst,.idx c415.toNat,.snd,.fst] [.snd,.fst,.idx c415.toNat,.snd,.fst]&&true) then (bif (pathB [.snd,.fst,.idx c415.toNat,.snd,.fst] [.snd,.fst,.idx c415.toNat,.snd,.fst]&&true) then (bif !decide (r619.1.1=(0:Int)) then ((spec_l9Bad.sem (r619.1.1,())).bind fun r620=>some (r620.1,())) else if 0<=c415/\c415 < (v413.1.2.1.length:Int) then ((v413.1.2.1[c415.toNat]?).bind fun x621=>let y622:=v413.1.2.1.set c415.toNat (x621.1,r619.1.2.1,x621.2.2);self ((v413.1.1,y622,v413.1.2.2),w64 (v413.2+(1:Int)))) else none) else none) else none) else none) else none) else none) else e0 v413.1
noncomputable def q0 (a1:Arg) (c414:List Change) (c415:Int) (z623:Miner):OO:=some (((0:Int),false,false,(0:Int),([]:List Change),z623,()),())
noncomputable def s0 (k:Nat) (a1:Arg):(List Change)->Int->(Miner×Int)->OO:=fun c414 c415=>fun v413=>D.L k [1,1,1,1,1,1,1,1,1,1,0,1,0,0] [4,7,8,9,10] [] (blockC 0 (seqC (D.N k [1,1,1,1,1,1,1,1,1,1,1]) D.K0)) (T0 a1 c414 c415 v413)
noncomputable def r0 (k:Nat) (a1:Arg):(List Change)->Int->(Miner×Int)->OO:=fun c414 c415=>rawIter (fun w v=>b0 w (q0 a1 c414 c415) a1 c414 c415 v) k
theorem s0_eq (k:Nat) (a1:Arg):s0 k a1=r0 k a1:=
 funext fun c414=>funext fun c415=>funext fun v413=>iter_raw _ _ _ (T0 a1 c414 c415) _ (fun rec v=>by kernel_rfl) k v413
noncomputable def p (l0:(List Change)->Int->(Miner×Int)->OO) (a1:Arg):OO:=(spec_ApplyRecord.sem (a1.1.1,a1.2.1,())).bind fun r2=>bif !decide (r2.1.1=(0:Int)) then ((spec_l9Bad.sem (r2.1.1,())).bind fun r3=>some (r3.1,())) else (spec_l6Fault.sem (r2.1.2.2.1,())).bind fun r4=>bif !decide (r4.1=(0:Int)) then ((spec_l9Bad.sem (r4.1,())).bind fun r5=>some (r5.1,())) else (spec_l6RowsIn.sem (a1.1.1,())).bind fun r6=>(spec_l6RowsIn.sem (r2.1.2.2.1,())).bind fun r7=>(spec_l6Changes.sem (r6.1,r7.1,())).bind fun r8=>(spec_l9Copy.sem (a1.1,())).bind fun r9=>bif decide (a1.2.1.1=(4:Int)) then (bif decide ((0:Int) < (r8.1.length:Int)) then ((spec_l9Bad.sem ((8:Int),())).bind fun r10=>some (r10.1,())) else some (((0:Int),false,false,(0:Int),([]:List Change),(r2.1.2.2.1,r9.1.2),()),())) else (spec_l9At.sem (a1.1,a1.2.1.2.1,())).bind fun r11=>bif decide (r11.1 < (0:Int)) then ((spec_l9Bad.sem ((4:Int),())).bind fun r12=>some (r12.1,())) else l0 r8.1 r11.1 ((r2.1.2.2.1,r9.1.2),(0:Int))
theorem raw_eq (k:Nat) (a1:Arg):@Eq OO (D.W k a1) (p (r0 k a1) a1):=
 bI (b:=p (s0 k a1) a1) (by kernel_rfl) (by rw[s0_eq])
theorem ok:Ok prog 267 D.sig:=fd_ok func267 tlOk (by kernel_rfl) (fc spec_l9Bad.ok (fc spec_l6Fault.ok (fc spec_l6Changes.ok (fc spec_l6RowsIn.ok (fc spec_l9At.ok (fc spec_l9Copy.ok (fc spec_ApplyRecord.ok (fc spec_FoldChange.ok (fn_nil _)))))))))
end spec_l9Turn
namespace spec_l9Step
abbrev Arg:Type:=Miner×Record×Unit
abbrev Out:Type:=MinerResult×Unit
noncomputable def D:FD:={ fn:=f133,tl:=TL0,ps:=[(.ro,tMiner),(.ro,(.ptr tRecord))],rs:=[(tMinerResult,(.pair (roMd i64) (.pair (roMd .bool) (.pair (roMd .bool) (.pair (roMd i64) (.pair (roMd (.slc tChange)) (.pair (.pair (ownMd (.slc (.slc u8))) (.pair (.slc true (roMd tBuffer)) (roMd .unit))) (roMd .unit))))))))],gl:=[(131,spec_l9Bad.D.sig),(262,spec_l9At.D.sig),(265,spec_l9End.D.sig),(266,spec_l9Copy.D.sig),(267,spec_l9Turn.D.sig)],od:=[(11,[0,1,2,3,4,5,6,7,8,9,10])] }
noncomputable def sem (a:Arg):Option Out:=@lift Out fun k=>D.W k a
noncomputable def p (a1:Arg):Option Out:=bif decide (a1.2.1.1=(5:Int)) then (bif decide (a1.2.1.1=(5:Int)) then ((spec_l9End.sem (a1.1,a1.2.1,())).bind fun r2=>some (r2.1,())) else bif decide (a1.2.1.1=(1:Int)) then ((spec_l9At.sem (a1.1,a1.2.1.2.1,())).bind fun r3=>bif decide ((0:Int)<=r3.1) then ((spec_l9Bad.sem ((6:Int),())).bind fun r4=>some (r4.1,())) else bif decide ((8:Int)<=(a1.1.2.1.length:Int)) then ((spec_l9Bad.sem ((2:Int),())).bind fun r5=>some (r5.1,())) else (spec_l9Copy.sem (a1.1,())).bind fun r6=>if r6.1.2.1.length+[(a1.2.1.2.1,([]:List Change),())].length<=CAP then (let y7:=r6.1.2.1++[(a1.2.1.2.1,([]:List Change),())];some (((0:Int),false,false,(0:Int),([]:List Change),(r6.1.1,y7,r6.1.2.2),()),())) else none) else (spec_l9Turn.sem (a1.1,a1.2.1,())).bind fun r15=>some (r15.1,())) else bif decide (a1.2.1.1=(6:Int)) then ((spec_l9End.sem (a1.1,a1.2.1,())).bind fun r8=>some (r8.1,())) else bif decide (a1.2.1.1=(1:Int)) then ((spec_l9At.sem (a1.1,a1.2.1.2.1,())).bind fun r9=>bif decide ((0:Int)<=r9.1) then ((spec_l9Bad.sem ((6:Int),())).bind fun r10=>some (r10.1,())) else bif decide ((8:Int)<=(a1.1.2.1.length:Int)) then ((spec_l9Bad.sem ((2:Int),())).bind fun r11=>some (r11.1,())) else (spec_l9Copy.sem (a1.1,())).bind fun r12=>if r12.1.2.1.length+[(a1.2.1.2.1,([]:List Change),())].length<=CAP then (let y13:=r12.1.2.1++[(a1.2.1.2.1,([]:List Change),())];some (((0:Int),false,false,(0:Int),([]:List Change),(r12.1.1,y13,r12.1.2.2),()),())) else none) else (spec_l9Turn.sem (a1.1,a1.2.1,())).bind fun r16=>some (r16.1,())
theorem raw_eq (k:Nat) (a1:Arg):@Eq (Option Out) (D.W k a1) (p a1):=by kernel_rfl
theorem ok:Ok prog 133 D.sig:=fd_ok func133 tlOk (by kernel_rfl) (fc spec_l9Bad.ok (fc spec_l9At.ok (fc spec_l9End.ok (fc spec_l9Copy.ok (fc spec_l9Turn.ok (fn_nil _))))))
end spec_l9Step
namespace laws_toByteS
abbrev Arg:Type:=(List UInt8)×Unit
abbrev Out:Type:=(List UInt8)×Unit
abbrev OO:=Option Out
noncomputable def D:FD:={ fn:=f62,tl:=TL0,ps:=[(.ro,(.slc u8))],rs:=[((.slc u8),(ownMd (.slc u8)))],lv:=[(3,[0,3,4])],lx:=[(0,[3])] }
noncomputable def sem (a:Arg):OO:=@lift Out fun k=>D.W k a
noncomputable def T0 (a1:Arg) (v402:(List UInt8)×Int):St:={ n:=22,sl:=[(0,.val (.slc u8) a1.1),(3,.own (.slc u8) (ownMd (.slc u8)) [] v402.1),(4,.val i64 v402.2)],vr:=[],lent:=[] }
noncomputable def b0 (self:((List UInt8)×Int)->OO) (e0:(List UInt8)->OO) (a1:Arg) (v402:(List UInt8)×Int):OO:=bif decide (v402.2 < (a1.1.length:Int)) then (if 0<=v402.2 then ((a1.1[v402.2.toNat]?).bind fun x603=>if 0<=v402.2/\v402.2 < (v402.1.length:Int) then ((v402.1[v402.2.toNat]?).bind fun x604=>self (v402.1.set v402.2.toNat x603,w64 (v402.2+(1:Int)))) else none) else none) else e0 v402.1
noncomputable def q0 (a1:Arg) (z605:(List UInt8)):OO:=some (z605,())
noncomputable def s0 (k:Nat) (a1:Arg):((List UInt8)×Int)->OO:=fun v402=>D.L k [1,1,0,1,0,0] [0,3,4] [] (blockC 0 (seqC (D.N k [1,1,1]) D.K0)) (T0 a1 v402)
noncomputable def r0 (k:Nat) (a1:Arg):((List UInt8)×Int)->OO:=rawIter (fun w v=>b0 w (q0 a1) a1 v) k
theorem s0_eq (k:Nat) (a1:Arg):s0 k a1=r0 k a1:=
 funext fun v402=>iter_raw _ _ _ (T0 a1) _ (fun rec v=>by kernel_rfl) k v402
noncomputable def p (l0:((List UInt8)×Int)->OO) (a1:Arg):OO:=if 0<=(a1.1.length:Int)/\(a1.1.length:Int)<=(a1.1.length:Int)/\(a1.1.length:Int)<=(CAP:Int) then (l0 (List.replicate (a1.1.length:Int).toNat (0:UInt8),(0:Int))) else none
theorem raw_eq (k:Nat) (a1:Arg):@Eq OO (D.W k a1) (p (r0 k a1) a1):=
 bI (b:=p (s0 k a1) a1) (by kernel_rfl) (by rw[s0_eq])
theorem ok:Ok prog 62 D.sig:=fd_ok func62 tlOk (by kernel_rfl) (fn_nil _)
end laws_toByteS
namespace laws_toByteSS
abbrev Arg:Type:=(List (List UInt8))×Unit
abbrev Out:Type:=(List (List UInt8))×Unit
abbrev OO:=Option Out
noncomputable def D:FD:={ fn:=f134,tl:=TL0,ps:=[(.ro,(.slc (.slc u8)))],rs:=[((.slc (.slc u8)),(ownMd (.slc (.slc u8))))],gl:=[(62,laws_toByteS.D.sig)],lv:=[(3,[0,3,4])],lx:=[(0,[3])] }
noncomputable def sem (a:Arg):OO:=@lift Out fun k=>D.W k a
noncomputable def T0 (a1:Arg) (v402:(List (List UInt8))×Int):St:={ n:=23,sl:=[(0,.val (.slc (.slc u8)) a1.1),(3,.own (.slc (.slc u8)) (ownMd (.slc (.slc u8))) [] v402.1),(4,.val i64 v402.2)],vr:=[],lent:=[] }
noncomputable def b0 (self:((List (List UInt8))×Int)->OO) (e0:(List (List UInt8))->OO) (a1:Arg) (v402:(List (List UInt8))×Int):OO:=bif decide (v402.2 < (a1.1.length:Int)) then (if 0<=v402.2 then ((a1.1[v402.2.toNat]?).bind fun x603=>(laws_toByteS.sem (x603,())).bind fun r604=>if 0<=v402.2/\v402.2 < (v402.1.length:Int) then ((v402.1[v402.2.toNat]?).bind fun x605=>self (v402.1.set v402.2.toNat r604.1,w64 (v402.2+(1:Int)))) else none) else none) else e0 v402.1
noncomputable def q0 (a1:Arg) (z606:(List (List UInt8))):OO:=some (z606,())
noncomputable def s0 (k:Nat) (a1:Arg):((List (List UInt8))×Int)->OO:=fun v402=>D.L k [1,1,0,1,0,0] [0,3,4] [] (blockC 0 (seqC (D.N k [1,1,1]) D.K0)) (T0 a1 v402)
noncomputable def r0 (k:Nat) (a1:Arg):((List (List UInt8))×Int)->OO:=rawIter (fun w v=>b0 w (q0 a1) a1 v) k
theorem s0_eq (k:Nat) (a1:Arg):s0 k a1=r0 k a1:=
 funext fun v402=>iter_raw _ _ _ (T0 a1) _ (fun rec v=>by kernel_rfl) k v402
noncomputable def p (l0:((List (List UInt8))×Int)->OO) (a1:Arg):OO:=if 0<=(a1.1.length:Int)/\(a1.1.length:Int)<=(a1.1.length:Int)/\(a1.1.length:Int)<=(CAP:Int) then (l0 (List.replicate (a1.1.length:Int).toNat ([]:List UInt8),(0:Int))) else none
theorem raw_eq (k:Nat) (a1:Arg):@Eq OO (D.W k a1) (p (r0 k a1) a1):=
 bI (b:=p (s0 k a1) a1) (by kernel_rfl) (by rw[s0_eq])
theorem ok:Ok prog 134 D.sig:=fd_ok func134 tlOk (by kernel_rfl) (fc laws_toByteS.ok (fn_nil _))
end laws_toByteSS
namespace laws_toBuffer
abbrev Arg:Type:=Buffer×Unit
abbrev Out:Type:=Buffer×Unit
noncomputable def D:FD:={ fn:=f268,tl:=TL0,ps:=[(.ro,tBuffer)],rs:=[(tBuffer,(ownMd tBuffer))],gl:=[(346,laws_toChangeS.D.sig)] }
noncomputable def sem (a:Arg):Option Out:=@lift Out fun k=>D.W k a
noncomputable def p (a1:Arg):Option Out:=(laws_toChangeS.sem (a1.1.2.1,())).bind fun r2=>some ((a1.1.1,r2.1,()),())
theorem raw_eq (k:Nat) (a1:Arg):@Eq (Option Out) (D.W k a1) (p a1):=by kernel_rfl
theorem ok:Ok prog 268 D.sig:=fd_ok func268 tlOk (by kernel_rfl) (fc laws_toChangeS.ok (fn_nil _))
end laws_toBuffer
namespace laws_toBufferS
abbrev Arg:Type:=(List Buffer)×Unit
abbrev Out:Type:=(List Buffer)×Unit
abbrev OO:=Option Out
noncomputable def D:FD:={ fn:=f135,tl:=TL0,ps:=[(.ro,(.slc tBuffer))],rs:=[((.slc tBuffer),(ownMd (.slc tBuffer)))],gl:=[(268,laws_toBuffer.D.sig)],lv:=[(3,[0,3,4])],lx:=[(0,[3])] }
noncomputable def sem (a:Arg):OO:=@lift Out fun k=>D.W k a
noncomputable def T0 (a1:Arg) (v402:(List Buffer)×Int):St:={ n:=23,sl:=[(0,.val (.slc tBuffer) a1.1),(3,.own (.slc tBuffer) (ownMd (.slc tBuffer)) [] v402.1),(4,.val i64 v402.2)],vr:=[],lent:=[] }
noncomputable def b0 (self:((List Buffer)×Int)->OO) (e0:(List Buffer)->OO) (a1:Arg) (v402:(List Buffer)×Int):OO:=bif decide (v402.2 < (a1.1.length:Int)) then (if 0<=v402.2 then ((a1.1[v402.2.toNat]?).bind fun x603=>(laws_toBuffer.sem (x603,())).bind fun r604=>if 0<=v402.2/\v402.2 < (v402.1.length:Int) then ((v402.1[v402.2.toNat]?).bind fun x605=>self (v402.1.set v402.2.toNat r604.1,w64 (v402.2+(1:Int)))) else none) else none) else e0 v402.1
noncomputable def q0 (a1:Arg) (z606:(List Buffer)):OO:=some (z606,())
noncomputable def s0 (k:Nat) (a1:Arg):((List Buffer)×Int)->OO:=fun v402=>D.L k [1,1,0,1,0,0] [0,3,4] [] (blockC 0 (seqC (D.N k [1,1,1]) D.K0)) (T0 a1 v402)
noncomputable def r0 (k:Nat) (a1:Arg):((List Buffer)×Int)->OO:=rawIter (fun w v=>b0 w (q0 a1) a1 v) k
theorem s0_eq (k:Nat) (a1:Arg):s0 k a1=r0 k a1:=
 funext fun v402=>iter_raw _ _ _ (T0 a1) _ (fun rec v=>by kernel_rfl) k v402
noncomputable def p (l0:((List Buffer)×Int)->OO) (a1:Arg):OO:=if 0<=(a1.1.length:Int)/\(a1.1.length:Int)<=(a1.1.length:Int)/\(a1.1.length:Int)<=(CAP:Int) then (l0 (List.replicate (a1.1.length:Int).toNat ((0:Int),([]:List Change),()),(0:Int))) else none
theorem raw_eq (k:Nat) (a1:Arg):@Eq OO (D.W k a1) (p (r0 k a1) a1):=
 bI (b:=p (s0 k a1) a1) (by kernel_rfl) (by rw[s0_eq])
theorem ok:Ok prog 135 D.sig:=fd_ok func135 tlOk (by kernel_rfl) (fc laws_toBuffer.ok (fn_nil _))
end laws_toBufferS
namespace laws_toMiner
abbrev Arg:Type:=Miner×Unit
abbrev Out:Type:=Miner×Unit
noncomputable def D:FD:={ fn:=f38,tl:=TL0,ps:=[(.ro,tMiner)],rs:=[(tMiner,(ownMd tMiner))],gl:=[(134,laws_toByteSS.D.sig),(135,laws_toBufferS.D.sig)] }
noncomputable def sem (a:Arg):Option Out:=@lift Out fun k=>D.W k a
noncomputable def p (a1:Arg):Option Out:=(laws_toByteSS.sem (a1.1.1,())).bind fun r2=>(laws_toBufferS.sem (a1.1.2.1,())).bind fun r3=>some ((r2.1,r3.1,()),())
theorem raw_eq (k:Nat) (a1:Arg):@Eq (Option Out) (D.W k a1) (p a1):=by kernel_rfl
theorem ok:Ok prog 38 D.sig:=fd_ok func38 tlOk (by kernel_rfl) (fc laws_toByteSS.ok (fc laws_toBufferS.ok (fn_nil _)))
end laws_toMiner
namespace impl_slots
abbrev Arg:Type:=(List UInt8)×Unit
abbrev Out:Type:=Int×Unit
noncomputable def D:FD:={ fn:=f307,tl:=TL0,ps:=[(.ro,(.slc u8))],rs:=[(i64,(roMd i64))] }
noncomputable def sem (a:Arg):Option Out:=@lift Out fun k=>D.W k a
noncomputable def p (a1:Arg):Option Out:=(a1.1[0]?).bind fun x2=>some (w64 (x2.toNat:Int),())
theorem raw_eq (k:Nat) (a1:Arg):@Eq (Option Out) (D.W k a1) (p a1):=by kernel_rfl
theorem ok:Ok prog 307 D.sig:=fd_ok func307 tlOk (by kernel_rfl) (fn_nil _)
end impl_slots
namespace impl_spot
abbrev Arg:Type:=(List UInt8)×Int×Unit
abbrev Out:Type:=Int×Int×Unit
noncomputable def D:FD:={ fn:=f395,tl:=TL0,ps:=[(.ro,(.slc u8)),(.ro,i64)],rs:=[(i64,(roMd i64)),(i64,(roMd i64))],od:=[(1,[0,1,2,3,4,5,6,7,8,9,10,11,12,13,14,15])] }
noncomputable def sem (a:Arg):Option Out:=@lift Out fun k=>D.W k a
noncomputable def p (a1:Arg):Option Out:=if 0<=w64 ((2:Int)+(w64 ((2:Int)*a1.2.1))) then ((a1.1[(w64 ((2:Int)+(w64 ((2:Int)*a1.2.1)))).toNat]?).bind fun x2=>if 0<=w64 ((3:Int)+(w64 ((2:Int)*a1.2.1))) then ((a1.1[(w64 ((3:Int)+(w64 ((2:Int)*a1.2.1)))).toNat]?).bind fun x3=>some (w64 (x2.toNat:Int),w64 (x3.toNat:Int),())) else none) else none
theorem raw_eq (k:Nat) (a1:Arg):@Eq (Option Out) (D.W k a1) (p a1):=by kernel_rfl
theorem ok:Ok prog 395 D.sig:=fd_ok func395 tlOk (by kernel_rfl) (fn_nil _)
end impl_spot
namespace impl_PageFault
abbrev Arg:Type:=(List UInt8)×Unit
abbrev Out:Type:=Int×Unit
abbrev OO:=Option Out
noncomputable def D:FD:={ fn:=f306,tl:=TL0,ps:=[(.ro,(.slc u8))],rs:=[(i64,(roMd i64))],gl:=[(307,impl_slots.D.sig),(395,impl_spot.D.sig)],lv:=[(7,[0,3,4,35,36]),(15,[0,3,8,66,67]),(19,[0,3,8,10,11,12,66,67])],lx:=[(0,[0,3]),(2,[0,3]),(4,[0,3,8,66,67])],od:=[(3,[0,2,3,4,5,1,6,7])] }
noncomputable def sem (a:Arg):OO:=@lift Out fun k=>D.W k a
noncomputable def T0 (a1:Arg) (c405:Int) (c406:Int) (v404:Int):St:={ n:=101,sl:=[(0,.val (.slc u8) a1.1),(3,.val i64 c405),(4,.val i64 c406),(35,.val i64 c405),(36,.val i64 v404)],vr:=[],lent:=[] }
noncomputable def S0 (rec:RT Out) (a1:Arg) (c405:Int) (c406:Int):(Int)->OO:=fun v404=>rec (T0 a1 c405 c406 v404)
noncomputable def X0_0 (K:KT Out) (a1:Arg) (c405:Int) (c406:Int):(Unit)->OO:=fun z=>K (.exit 0) ({ n:=101,sl:=[(0,.val (.slc u8) a1.1),(3,.val i64 c405)],vr:=[],lent:=[] })
noncomputable def b0 (self:Int->OO) (e0:(Unit)->OO) (a1:Arg) (c405:Int) (c406:Int) (v404:Int):OO:=bif decide (v404 < c405) then ((impl_spot.sem (a1.1,v404,())).bind fun r607=>bif !((decide (r607.1=(0:Int))) == (decide (r607.2.1=(0:Int)))) then (some ((3:Int),())) else bif !decide (r607.1=(0:Int)) then (bif decide (r607.1 < c406) then (some ((3:Int),())) else bif decide ((64:Int) < w64 (r607.1+r607.2.1)) then (some ((3:Int),())) else self (w64 (v404+(1:Int)))) else bif decide ((64:Int) < w64 (r607.1+r607.2.1)) then (some ((3:Int),())) else self (w64 (v404+(1:Int)))) else e0 ()
theorem B0_eq (k:Nat) (rec:RT Out) (K:KT Out) (a1:Arg) (c405:Int) (c406:Int) (v404:Int):D.N k [1,1,1,1,0,1,0,0] (T0 a1 c405 c406 v404) (loopC rec (keepF [0,3,4,35,36] []) K)=b0 (S0 rec a1 c405 c406) (X0_0 K a1 c405 c406) a1 c405 c406 v404:=by kernel_rfl
noncomputable def T1 (a1:Arg) (v1009:(List UInt8)×Int×(List Bool)×Int×Int):St:={ n:=101,sl:=[(0,.val (.slc u8) v1009.1),(3,.val i64 v1009.2.1),(8,.box (.arr 64 .bool) (roMd (.arr 64 .bool)) [] v1009.2.2.1),(66,.val i64 v1009.2.2.2.1),(67,.val i64 v1009.2.2.2.2)],vr:=[],lent:=[] }
noncomputable def S1 (rec:RT Out) (a1:Arg):((List UInt8)×Int×(List Bool)×Int×Int)->OO:=fun v1009=>rec (T1 a1 v1009)
noncomputable def X1_2 (K:KT Out) (a1:Arg):((List UInt8)×Int)->OO:=fun z=>K (.exit 2) ({ n:=101,sl:=[(0,.val (.slc u8) z.1),(3,.val i64 z.2)],vr:=[],lent:=[] })
noncomputable def T2 (a1:Arg) (c1612:List UInt8) (c1613:Int) (c1614:Int) (c1615:Int) (c1616:Int) (c1617:Int) (v1611:(List Bool)×Int):St:={ n:=101,sl:=[(0,.val (.slc u8) c1612),(3,.val i64 c1613),(8,.box (.arr 64 .bool) (roMd (.arr 64 .bool)) [] v1611.1),(10,.val i64 c1614),(11,.val i64 c1615),(12,.val i64 v1611.2),(66,.val i64 c1616),(67,.val i64 c1617)],vr:=[],lent:=[] }
noncomputable def b2 (self:((List Bool)×Int)->OO) (e4:(List Bool)->OO) (a1:Arg) (c1612:List UInt8) (c1613:Int) (c1614:Int) (c1615:Int) (c1616:Int) (c1617:Int) (v1611:(List Bool)×Int):OO:=bif decide (v1611.2 < w64 (c1614+c1615)) then (if 0<=v1611.2/\v1611.2 < (v1611.1.length:Int) then ((v1611.1[v1611.2.toNat]?).bind fun x1818=>bif x1818 then (some ((8:Int),())) else if 0<=v1611.2/\v1611.2 < (v1611.1.length:Int) then ((v1611.1[v1611.2.toNat]?).bind fun x1819=>self (v1611.1.set v1611.2.toNat true,w64 (v1611.2+(1:Int)))) else none) else none) else e4 v1611.1
noncomputable def q1 (self:((List UInt8)×Int×(List Bool)×Int×Int)->OO) (e2:((List UInt8)×Int)->OO) (a1:Arg) (c1612:List UInt8) (c1613:Int) (c1614:Int) (c1615:Int) (c1616:Int) (c1617:Int) (z1820:(List Bool)):OO:=self (c1612,c1613,z1820,c1616,w64 (c1617+(1:Int)))
noncomputable def s2 (k:Nat) (rec:RT Out) (K:KT Out) (a1:Arg):(List UInt8)->Int->Int->Int->Int->Int->((List Bool)×Int)->OO:=fun c1612 c1613 c1614 c1615 c1616 c1617=>fun v1611=>D.L k [1,1,1,1,1,1,0,1,0,0,1,1,0,0,1,1,1,0,0] [0,3,8,10,11,12,66,67] [] (blockC 4 (blockC 3 (seqC (D.N k [1,1,1,1,1,1,0,1,0,0,1,1,1]) (loopC rec (keepF [0,3,8,66,67] []) K)))) (T2 a1 c1612 c1613 c1614 c1615 c1616 c1617 v1611)
noncomputable def r2 (k:Nat) (self:((List UInt8)×Int×(List Bool)×Int×Int)->OO) (e2:((List UInt8)×Int)->OO) (a1:Arg):(List UInt8)->Int->Int->Int->Int->Int->((List Bool)×Int)->OO:=fun c1612 c1613 c1614 c1615 c1616 c1617=>rawIter (fun w v=>b2 w (q1 self e2 a1 c1612 c1613 c1614 c1615 c1616 c1617) a1 c1612 c1613 c1614 c1615 c1616 c1617 v) k
theorem s2_eq (k:Nat) (rec:RT Out) (K:KT Out) (a1:Arg):s2 k rec K a1=r2 k (S1 rec a1) (X1_2 K a1) a1:=
 funext fun c1612=>funext fun c1613=>funext fun c1614=>funext fun c1615=>funext fun c1616=>funext fun c1617=>funext fun v1611=>iter_raw _ _ _ (T2 a1 c1612 c1613 c1614 c1615 c1616 c1617) _ (fun rec v=>by kernel_rfl) k v1611
noncomputable def b1 (self:((List UInt8)×Int×(List Bool)×Int×Int)->OO) (e2:((List UInt8)×Int)->OO) (l2:(List UInt8)->Int->Int->Int->Int->Int->((List Bool)×Int)->OO) (a1:Arg) (v1009:(List UInt8)×Int×(List Bool)×Int×Int):OO:=bif decide (v1009.2.2.2.2 < v1009.2.2.2.1) then ((impl_spot.sem (v1009.1,v1009.2.2.2.2,())).bind fun r1210=>l2 v1009.1 v1009.2.1 r1210.1 r1210.2.1 v1009.2.2.2.1 v1009.2.2.2.2 (v1009.2.2.1,r1210.1)) else e2 (v1009.1,v1009.2.1)
noncomputable def B1 (k:Nat) (self:((List UInt8)×Int×(List Bool)×Int×Int)->OO) (e2:((List UInt8)×Int)->OO) (a1:Arg) (v1009:(List UInt8)×Int×(List Bool)×Int×Int):OO:=b1 self e2 (r2 k self e2 a1) a1 v1009
theorem B1_eq (k:Nat) (rec:RT Out) (K:KT Out) (a1:Arg) (v1009:(List UInt8)×Int×(List Bool)×Int×Int):D.N k [1,1,1,1,1,1,0,1,0,0] (T1 a1 v1009) (loopC rec (keepF [0,3,8,66,67] []) K)=B1 k (S1 rec a1) (X1_2 K a1) a1 v1009:=
 bI (b:=b1 (S1 rec a1) (X1_2 K a1) (s2 k rec K a1) a1 v1009) (by kernel_rfl) (by rw[s2_eq];rfl)
noncomputable def q2 (a1:Arg) (z1821:((List UInt8)×Int)):OO:=bif decide ((0:Int) < z1821.2) then (if 0<=w64 ((w64 ((2:Int)*z1821.2))+(1:Int)) then ((z1821.1[(w64 ((w64 ((2:Int)*z1821.2))+(1:Int))).toNat]?).bind fun x1822=>bif decide ((x1822.toNat:Int)=(0:Int)) then (some ((8:Int),())) else some ((0:Int),())) else none) else some ((0:Int),())
theorem Q2_eq (k:Nat) (a1:Arg) (z1821:((List UInt8)×Int)):X1_2 (blockC 2 (seqC (D.N k [1,1,1,1,1,1,1]) D.K0)) a1 z1821=q2 a1 z1821:=by kernel_rfl
noncomputable def s1 (k:Nat) (a1:Arg) (c405:Int) (c406:Int):((List UInt8)×Int×(List Bool)×Int×Int)->OO:=fun v1009=>D.L k [1,1,1,1,1,1,0,1,0,0] [0,3,8,66,67] [] (blockC 2 (seqC (D.N k [1,1,1,1,1,1,1]) D.K0)) (T1 a1 v1009)
noncomputable def r1 (k:Nat) (a1:Arg) (c405:Int) (c406:Int):((List UInt8)×Int×(List Bool)×Int×Int)->OO:=rawIter (fun w v=>B1 k w (q2 a1) a1 v) k
theorem s1_eq (k:Nat) (a1:Arg) (c405:Int) (c406:Int):s1 k a1 c405 c406=r1 k a1 c405 c406:=by
 funext v1009;have h2:X1_2 (blockC 2 (seqC (D.N k [1,1,1,1,1,1,1]) D.K0)) a1=q2 a1:=funext fun z=>Q2_eq k a1 z;refine (iter_raw _ _ _ (T1 a1) (fun self v=>B1 k self (X1_2 (blockC 2 (seqC (D.N k [1,1,1,1,1,1,1]) D.K0)) a1) a1 v) (fun rec v=>B1_eq k rec (blockC 2 (seqC (D.N k [1,1,1,1,1,1,1]) D.K0)) a1 v) k v1009).trans ?_;rw[h2];rfl
noncomputable def q0 (l1:((List UInt8)×Int×(List Bool)×Int×Int)->OO) (a1:Arg) (c405:Int) (c406:Int) (z608:(Unit)):OO:=l1 (a1.1,c405,List.replicate 64 false,c405,(0:Int))
noncomputable def Q0 (k:Nat) (a1:Arg) (c405:Int) (c406:Int) (z608:(Unit)):OO:=q0 (r1 k a1 c405 c406) a1 c405 c406 z608
theorem Q0_eq (k:Nat) (a1:Arg) (c405:Int) (c406:Int) (z608:(Unit)):X0_0 (blockC 0 (seqC (D.N k [1,1,1,1,1]) D.K0)) a1 c405 c406 z608=Q0 k a1 c405 c406 z608:=
 bI (b:=q0 (s1 k a1 c405 c406) a1 c405 c406 z608) (by kernel_rfl) (by rw[s1_eq];rfl)
noncomputable def s0 (k:Nat) (a1:Arg):Int->Int->(Int)->OO:=fun c405 c406=>fun v404=>D.L k [1,1,1,1,0,1,0,0] [0,3,4,35,36] [] (blockC 0 (seqC (D.N k [1,1,1,1,1]) D.K0)) (T0 a1 c405 c406 v404)
noncomputable def r0 (k:Nat) (a1:Arg):Int->Int->(Int)->OO:=fun c405 c406=>rawIter (fun w v=>b0 w (Q0 k a1 c405 c406) a1 c405 c406 v) k
theorem s0_eq (k:Nat) (a1:Arg):s0 k a1=r0 k a1:=by
 funext c405;funext c406;funext v404;have h0:X0_0 (blockC 0 (seqC (D.N k [1,1,1,1,1]) D.K0)) a1 c405 c406=Q0 k a1 c405 c406:=funext fun z=>Q0_eq k a1 c405 c406 z;refine (iter_raw _ _ _ (T0 a1 c405 c406) (fun self v=>b0 self (X0_0 (blockC 0 (seqC (D.N k [1,1,1,1,1]) D.K0)) a1 c405 c406) a1 c405 c406 v) (fun rec v=>B0_eq k rec (blockC 0 (seqC (D.N k [1,1,1,1,1]) D.K0)) a1 c405 c406 v) k v404).trans ?_;rw[h0];rfl
noncomputable def p (l0:Int->Int->(Int)->OO) (a1:Arg):OO:=bif !decide ((a1.1.length:Int)=(64:Int)) then (some ((1:Int),())) else (a1.1[1]?).bind fun x2=>(impl_slots.sem (a1.1,())).bind fun r3=>bif decide ((16:Int) < r3.1) then (some ((3:Int),())) else bif decide (w64 (x2.toNat:Int) < w64 ((2:Int)+(w64 ((2:Int)*r3.1)))) then (some ((3:Int),())) else bif decide ((64:Int) < w64 (x2.toNat:Int)) then (some ((3:Int),())) else l0 r3.1 (w64 (x2.toNat:Int)) (0:Int)
theorem raw_eq (k:Nat) (a1:Arg):@Eq OO (D.W k a1) (p (r0 k a1) a1):=
 bI (b:=p (s0 k a1) a1) (by kernel_rfl) (by rw[s0_eq])
theorem ok:Ok prog 306 D.sig:=fd_ok func306 tlOk (by kernel_rfl) (fc impl_slots.ok (fc impl_spot.ok (fn_nil _)))
end impl_PageFault
end OT
