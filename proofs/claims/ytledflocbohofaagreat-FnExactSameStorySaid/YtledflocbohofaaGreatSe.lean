/- The proof's parts, merged: Printed by gen.py, a program of this claim  what each Go function computes.. No conditions but those that each states. -/
import Derived.Test.YtledflocbohofaaGreatSd
import Derived.Test.YtledflocbohofaaGreatProg
import Derived.KernelRfl
set_option maxRecDepth 100000
set_option linter.unusedVariables false
namespace OT
open Go Go.Proofs.Tryz
abbrev Log:Type:=((List UInt8)×(List UInt8)×Unit)
abbrev tLog:Ty:=(tupT [(.slc u8),(.slc u8)])
abbrev Row:Type:=(Int×Int×Int×(List UInt8)×Unit)
abbrev tRow:Ty:=(tupT [i64,i64,i64,.str])
abbrev Change:Type:=(Bool×Row×Bool×Row×Unit)
abbrev tChange:Ty:=(tupT [.bool,tRow,.bool,tRow])
abbrev Key:Type:=(Int×Int×Unit)
abbrev tKey:Ty:=(tupT [i64,i64])
abbrev Tx:Type:=(Int×(List Change)×(List Int)×(List Key)×Unit)
abbrev tTx:Ty:=(tupT [i64,(.slc tChange),(.slc i64),(.slc tKey)])
abbrev Store:Type:=(Bool×(List (List UInt8))×Log×(List Tx)×Int×Unit)
abbrev tStore:Ty:=(tupT [.bool,(.slc (.slc u8)),tLog,(.slc tTx),i64])
abbrev Plain:Type:=((List Row)×(List Tx)×Int×Unit)
abbrev tPlain:Ty:=(tupT [(.slc tRow),(.slc tTx),i64])
abbrev CellResult:Type:=(Int×Int×Int×Int×Row×Unit)
abbrev tCellResult:Ty:=(tupT [i64,i64,i64,i64,tRow])
abbrev L6Spot:Type:=(Int×Int×CellResult×Unit)
abbrev tL6Spot:Ty:=(tupT [i64,i64,tCellResult])
abbrev Run:Type:=(Int×(List UInt8)×Unit)
abbrev tRun:Ty:=(tupT [i64,(.slc u8)])
abbrev Record:Type:=(Int×Int×Int×(List Run)×Unit)
abbrev tRecord:Ty:=(tupT [i64,i64,i64,(.slc tRun)])
abbrev RecordResult:Type:=(Int×Int×Record×Unit)
abbrev tRecordResult:Ty:=(tupT [i64,i64,tRecord])
abbrev EditsResult:Type:=(Int×(List Run)×(List (List UInt8))×Unit)
abbrev tEditsResult:Ty:=(tupT [i64,(.slc tRun),(.slc (.slc u8))])
abbrev Seen:Type:=(Row×Int×Int×Bool×Int×Int×Unit)
abbrev tSeen:Ty:=(tupT [tRow,i64,i64,.bool,i64,i64])
abbrev RowsResult:Type:=(Int×(List Row)×Unit)
abbrev tRowsResult:Ty:=(tupT [i64,(.slc tRow)])
abbrev StoreResult:Type:=(Int×Int×Store×Unit)
abbrev tStoreResult:Ty:=(tupT [i64,i64,tStore])
abbrev LogResult:Type:=(Int×Log×Unit)
abbrev tLogResult:Ty:=(tupT [i64,tLog])
abbrev Buffer:Type:=(Int×(List Change)×Unit)
abbrev tBuffer:Ty:=(tupT [i64,(.slc tChange)])
abbrev Miner:Type:=((List (List UInt8))×(List Buffer)×Unit)
abbrev tMiner:Ty:=(tupT [(.slc (.slc u8)),(.slc tBuffer)])
abbrev Connector:Type:=(Miner×Int×Miner×Int×Unit)
abbrev tConnector:Ty:=(tupT [tMiner,i64,tMiner,i64])
abbrev Sent:Type:=(Int×Int×(List Change)×Unit)
abbrev tSent:Ty:=(tupT [i64,i64,(.slc tChange)])
abbrev ConnectorResult:Type:=(Int×Bool×Sent×Connector×Unit)
abbrev tConnectorResult:Ty:=(tupT [i64,.bool,tSent,tConnector])
abbrev MinerResult:Type:=(Int×Bool×Bool×Int×(List Change)×Miner×Unit)
abbrev tMinerResult:Ty:=(tupT [i64,.bool,.bool,i64,(.slc tChange),tMiner])
abbrev SentResult:Type:=(Int×(List Sent)×Connector×Unit)
abbrev tSentResult:Ty:=(tupT [i64,(.slc tSent),tConnector])
noncomputable def TL0:TL:=[(2,i64),(23,(.slc u8)),(129,tRow),(43,(.slc tRow)),(22,(.slc (.slc u8))),(32,(.slc tTx)),(124,tTx),(4,.bool),(5,u8),(199,tKey),(209,tChange),(67,(.slc tChange)),(3,i64),(122,(.slc tKey)),(190,tRecord),(188,(.slc tRun)),(31,tLog),(121,(.slc i64)),(179,tCellResult),(9,.str),(272,tRun),(45,tPlain),(34,tStore),(26,(.slc tTx)),(111,(.slc tRecord)),(196,tRow),(201,(.slc tL6Spot)),(205,tL6Spot),(25,tLog),(38,(.slc tRow)),(163,(.slc tChange)),(164,(.slc tKey)),(166,tTx),(313,tChange),(28,tStore),(40,tPlain),(104,(.slc tSeen)),(184,(.map tKey .bool)),(187,tSeen),(250,tEditsResult),(50,tRowsResult),(222,tRecordResult),(319,tKey),(257,(.arr 64 .bool)),(258,(.int .u64)),(260,(.map (.arr 2 i64) tRow)),(261,(.arr 2 i64)),(263,(.map (.arr 2 i64) .bool))]
theorem tlOk:(tiOk prog TL0&&eqOkL prog TL0)=true:=by kernel_rfl
namespace laws_szByteS
abbrev Arg:Type:=(List UInt8)×Int×Unit
abbrev Out:Type:=Int×Unit
abbrev ps:PQ:=[(.ro,(.slc u8)),(.ro,i64)]
noncomputable def D:FD:={ fn:=f115,tl:=TL0,ps:=ps,rs:=[(i64,(roMd i64))] }
noncomputable def sem (a:Arg):Option Out:=@lift Out fun k=>D.W k a
noncomputable def p (a1:Arg):Option Out:=bif decide (w64 (a1.2.1 - (a1.1.length:Int)) < (0:Int)) then (some ((-1:Int),())) else some (w64 (a1.2.1 - (a1.1.length:Int)),())
theorem raw_eq (k:Nat) (a1:Arg):@Eq (Option Out) (D.W k a1) (p a1):=by kernel_rfl
theorem ok:Ok prog 115 D.sig:=fd_ok func115 tlOk (by kernel_rfl) (fn_nil _)
end laws_szByteS
namespace laws_szByteSS
abbrev Arg:Type:=(List (List UInt8))×Int×Unit
abbrev Out:Type:=Int×Unit
abbrev ps:PQ:=[(.ro,(.slc (.slc u8))),(.ro,i64)]
noncomputable def D:FD:={ fn:=f53,tl:=TL0,ps:=ps,rs:=[(i64,(roMd i64))],gl:=[(115,laws_szByteS.D.sig)],lv:=[(5,[0,1,5])],lx:=[(0,[1])] }
noncomputable def sem (a:Arg):Option Out:=@lift Out fun k=>D.W k a
noncomputable def T0 (a1:Arg) (v402:Int×Int):St:={ n:=27,sl:=[(0,.val (.slc (.slc u8)) a1.1),(1,.val i64 v402.1),(5,.val i64 v402.2)],vr:=[],lent:=[] }
noncomputable def b0 (self:(Int×Int)->Option Out) (e0:Int->Option Out) (a1:Arg) (v402:Int×Int):Option Out:=bif decide (v402.2 < (a1.1.length:Int)) then (if 0<=v402.2 then ((a1.1[v402.2.toNat]?).bind fun x603=>(laws_szByteS.sem (x603,v402.1,())).bind fun r604=>bif decide (r604.1 < (0:Int)) then (some ((-1:Int),())) else self (r604.1,w64 (v402.2+(1:Int)))) else none) else e0 v402.1
noncomputable abbrev B0 (_:Nat):=b0
noncomputable def q0 (a1:Arg) (z605:Int):Option Out:=some (z605,())
noncomputable abbrev Q0 (_:Nat):=q0
noncomputable def s0 (k:Nat) (a1:Arg):(Int×Int)->Option Out:=fun v402=>D.L k [1,1,1,0,1,0,0] [0,1,5] [] (blockC 0 (seqC (D.N k [1,1,1,1]) D.K0)) (T0 a1 v402)
noncomputable def r0 (k:Nat) (a1:Arg):(Int×Int)->Option Out:=rawIter (fun w v=>B0 k w (Q0 k a1) a1 v) k
theorem s0_eq (k:Nat) (a1:Arg):s0 k a1=r0 k a1:=
 funext fun v402=>iter_raw _ _ _ (T0 a1) _ (fun rec v=>by kernel_rfl) k v402
noncomputable def p (l0:(Int×Int)->Option Out) (a1:Arg):Option Out:=bif decide (w64 (a1.2.1 - (a1.1.length:Int)) < (0:Int)) then (some ((-1:Int),())) else l0 (w64 (a1.2.1 - (a1.1.length:Int)),(0:Int))
theorem raw_eq (k:Nat) (a1:Arg):@Eq (Option Out) (D.W k a1) (p (r0 k a1) a1):=
 Eq.trans (b:=p (s0 k a1) a1) (by kernel_rfl) (by rw[s0_eq])
theorem ok:Ok prog 53 D.sig:=fd_ok func53 tlOk (by kernel_rfl) (fc laws_szByteS.ok (fn_nil _))
end laws_szByteSS
namespace laws_szLog
abbrev Arg:Type:=Log×Int×Unit
abbrev Out:Type:=Int×Unit
abbrev ps:PQ:=[(.ro,tLog),(.ro,i64)]
noncomputable def D:FD:={ fn:=f54,tl:=TL0,ps:=ps,rs:=[(i64,(roMd i64))],gl:=[(115,laws_szByteS.D.sig)] }
noncomputable def sem (a:Arg):Option Out:=@lift Out fun k=>D.W k a
noncomputable def p (a1:Arg):Option Out:=(laws_szByteS.sem (a1.1.1,a1.2.1,())).bind fun r2=>bif decide (r2.1 < (0:Int)) then (some ((-1:Int),())) else (laws_szByteS.sem (a1.1.2.1,r2.1,())).bind fun r3=>bif decide (r3.1 < (0:Int)) then (some ((-1:Int),())) else some (r3.1,())
theorem raw_eq (k:Nat) (a1:Arg):@Eq (Option Out) (D.W k a1) (p a1):=by kernel_rfl
theorem ok:Ok prog 54 D.sig:=fd_ok func54 tlOk (by kernel_rfl) (fc laws_szByteS.ok (fn_nil _))
end laws_szLog
namespace laws_szRow
abbrev Arg:Type:=Row×Int×Unit
abbrev Out:Type:=Int×Unit
abbrev ps:PQ:=[(.ro,tRow),(.ro,i64)]
noncomputable def D:FD:={ fn:=f140,tl:=TL0,ps:=ps,rs:=[(i64,(roMd i64))] }
noncomputable def sem (a:Arg):Option Out:=@lift Out fun k=>D.W k a
noncomputable def p (a1:Arg):Option Out:=bif decide (w64 (a1.2.1 - (a1.1.2.2.2.1.length:Int)) < (0:Int)) then (some ((-1:Int),())) else some (w64 (a1.2.1 - (a1.1.2.2.2.1.length:Int)),())
theorem raw_eq (k:Nat) (a1:Arg):@Eq (Option Out) (D.W k a1) (p a1):=by kernel_rfl
theorem ok:Ok prog 140 D.sig:=fd_ok func140 tlOk (by kernel_rfl) (fn_nil _)
end laws_szRow
namespace laws_szChange
abbrev Arg:Type:=Change×Int×Unit
abbrev Out:Type:=Int×Unit
abbrev ps:PQ:=[(.ro,tChange),(.ro,i64)]
noncomputable def D:FD:={ fn:=f253,tl:=TL0,ps:=ps,rs:=[(i64,(roMd i64))],gl:=[(140,laws_szRow.D.sig)] }
noncomputable def sem (a:Arg):Option Out:=@lift Out fun k=>D.W k a
noncomputable def p (a1:Arg):Option Out:=(laws_szRow.sem (a1.1.2.1,a1.2.1,())).bind fun r2=>bif decide (r2.1 < (0:Int)) then (some ((-1:Int),())) else (laws_szRow.sem (a1.1.2.2.2.1,r2.1,())).bind fun r3=>bif decide (r3.1 < (0:Int)) then (some ((-1:Int),())) else some (r3.1,())
theorem raw_eq (k:Nat) (a1:Arg):@Eq (Option Out) (D.W k a1) (p a1):=by kernel_rfl
theorem ok:Ok prog 253 D.sig:=fd_ok func253 tlOk (by kernel_rfl) (fc laws_szRow.ok (fn_nil _))
end laws_szChange
namespace laws_szChangeS
abbrev Arg:Type:=(List Change)×Int×Unit
abbrev Out:Type:=Int×Unit
abbrev ps:PQ:=[(.ro,(.slc tChange)),(.ro,i64)]
noncomputable def D:FD:={ fn:=f186,tl:=TL0,ps:=ps,rs:=[(i64,(roMd i64))],gl:=[(253,laws_szChange.D.sig)],lv:=[(5,[0,1,5])],lx:=[(0,[1])] }
noncomputable def sem (a:Arg):Option Out:=@lift Out fun k=>D.W k a
noncomputable def T0 (a1:Arg) (v402:Int×Int):St:={ n:=27,sl:=[(0,.val (.slc tChange) a1.1),(1,.val i64 v402.1),(5,.val i64 v402.2)],vr:=[],lent:=[] }
noncomputable def b0 (self:(Int×Int)->Option Out) (e0:Int->Option Out) (a1:Arg) (v402:Int×Int):Option Out:=bif decide (v402.2 < (a1.1.length:Int)) then (if 0<=v402.2 then ((a1.1[v402.2.toNat]?).bind fun x603=>(laws_szChange.sem (x603,v402.1,())).bind fun r604=>bif decide (r604.1 < (0:Int)) then (some ((-1:Int),())) else self (r604.1,w64 (v402.2+(1:Int)))) else none) else e0 v402.1
noncomputable abbrev B0 (_:Nat):=b0
noncomputable def q0 (a1:Arg) (z605:Int):Option Out:=some (z605,())
noncomputable abbrev Q0 (_:Nat):=q0
noncomputable def s0 (k:Nat) (a1:Arg):(Int×Int)->Option Out:=fun v402=>D.L k [1,1,1,0,1,0,0] [0,1,5] [] (blockC 0 (seqC (D.N k [1,1,1,1]) D.K0)) (T0 a1 v402)
noncomputable def r0 (k:Nat) (a1:Arg):(Int×Int)->Option Out:=rawIter (fun w v=>B0 k w (Q0 k a1) a1 v) k
theorem s0_eq (k:Nat) (a1:Arg):s0 k a1=r0 k a1:=
 funext fun v402=>iter_raw _ _ _ (T0 a1) _ (fun rec v=>by kernel_rfl) k v402
noncomputable def p (l0:(Int×Int)->Option Out) (a1:Arg):Option Out:=bif decide (w64 (a1.2.1 - (a1.1.length:Int)) < (0:Int)) then (some ((-1:Int),())) else l0 (w64 (a1.2.1 - (a1.1.length:Int)),(0:Int))
theorem raw_eq (k:Nat) (a1:Arg):@Eq (Option Out) (D.W k a1) (p (r0 k a1) a1):=
 Eq.trans (b:=p (s0 k a1) a1) (by kernel_rfl) (by rw[s0_eq])
theorem ok:Ok prog 186 D.sig:=fd_ok func186 tlOk (by kernel_rfl) (fc laws_szChange.ok (fn_nil _))
end laws_szChangeS
namespace laws_szInt64S
abbrev Arg:Type:=(List Int)×Int×Unit
abbrev Out:Type:=Int×Unit
abbrev ps:PQ:=[(.ro,(.slc i64)),(.ro,i64)]
noncomputable def D:FD:={ fn:=f187,tl:=TL0,ps:=ps,rs:=[(i64,(roMd i64))] }
noncomputable def sem (a:Arg):Option Out:=@lift Out fun k=>D.W k a
noncomputable def p (a1:Arg):Option Out:=bif decide (w64 (a1.2.1 - (a1.1.length:Int)) < (0:Int)) then (some ((-1:Int),())) else some (w64 (a1.2.1 - (a1.1.length:Int)),())
theorem raw_eq (k:Nat) (a1:Arg):@Eq (Option Out) (D.W k a1) (p a1):=by kernel_rfl
theorem ok:Ok prog 187 D.sig:=fd_ok func187 tlOk (by kernel_rfl) (fn_nil _)
end laws_szInt64S
namespace laws_szKeyS
abbrev Arg:Type:=(List Key)×Int×Unit
abbrev Out:Type:=Int×Unit
abbrev ps:PQ:=[(.ro,(.slc tKey)),(.ro,i64)]
noncomputable def D:FD:={ fn:=f188,tl:=TL0,ps:=ps,rs:=[(i64,(roMd i64))] }
noncomputable def sem (a:Arg):Option Out:=@lift Out fun k=>D.W k a
noncomputable def p (a1:Arg):Option Out:=bif decide (w64 (a1.2.1 - (a1.1.length:Int)) < (0:Int)) then (some ((-1:Int),())) else some (w64 (a1.2.1 - (a1.1.length:Int)),())
theorem raw_eq (k:Nat) (a1:Arg):@Eq (Option Out) (D.W k a1) (p a1):=by kernel_rfl
theorem ok:Ok prog 188 D.sig:=fd_ok func188 tlOk (by kernel_rfl) (fn_nil _)
end laws_szKeyS
namespace laws_szTx
abbrev Arg:Type:=Tx×Int×Unit
abbrev Out:Type:=Int×Unit
abbrev ps:PQ:=[(.ro,tTx),(.ro,i64)]
noncomputable def D:FD:={ fn:=f116,tl:=TL0,ps:=ps,rs:=[(i64,(roMd i64))],gl:=[(186,laws_szChangeS.D.sig),(187,laws_szInt64S.D.sig),(188,laws_szKeyS.D.sig)] }
noncomputable def sem (a:Arg):Option Out:=@lift Out fun k=>D.W k a
noncomputable def p (a1:Arg):Option Out:=(laws_szChangeS.sem (a1.1.2.1,a1.2.1,())).bind fun r2=>bif decide (r2.1 < (0:Int)) then (some ((-1:Int),())) else (laws_szInt64S.sem (a1.1.2.2.1,r2.1,())).bind fun r3=>bif decide (r3.1 < (0:Int)) then (some ((-1:Int),())) else (laws_szKeyS.sem (a1.1.2.2.2.1,r3.1,())).bind fun r4=>bif decide (r4.1 < (0:Int)) then (some ((-1:Int),())) else some (r4.1,())
theorem raw_eq (k:Nat) (a1:Arg):@Eq (Option Out) (D.W k a1) (p a1):=by kernel_rfl
theorem ok:Ok prog 116 D.sig:=fd_ok func116 tlOk (by kernel_rfl) (fc laws_szChangeS.ok (fc laws_szInt64S.ok (fc laws_szKeyS.ok (fn_nil _))))
end laws_szTx
namespace laws_szTxS
abbrev Arg:Type:=(List Tx)×Int×Unit
abbrev Out:Type:=Int×Unit
abbrev ps:PQ:=[(.ro,(.slc tTx)),(.ro,i64)]
noncomputable def D:FD:={ fn:=f55,tl:=TL0,ps:=ps,rs:=[(i64,(roMd i64))],gl:=[(116,laws_szTx.D.sig)],lv:=[(5,[0,1,5])],lx:=[(0,[1])] }
noncomputable def sem (a:Arg):Option Out:=@lift Out fun k=>D.W k a
noncomputable def T0 (a1:Arg) (v402:Int×Int):St:={ n:=27,sl:=[(0,.val (.slc tTx) a1.1),(1,.val i64 v402.1),(5,.val i64 v402.2)],vr:=[],lent:=[] }
noncomputable def b0 (self:(Int×Int)->Option Out) (e0:Int->Option Out) (a1:Arg) (v402:Int×Int):Option Out:=bif decide (v402.2 < (a1.1.length:Int)) then (if 0<=v402.2 then ((a1.1[v402.2.toNat]?).bind fun x603=>(laws_szTx.sem (x603,v402.1,())).bind fun r604=>bif decide (r604.1 < (0:Int)) then (some ((-1:Int),())) else self (r604.1,w64 (v402.2+(1:Int)))) else none) else e0 v402.1
noncomputable abbrev B0 (_:Nat):=b0
noncomputable def q0 (a1:Arg) (z605:Int):Option Out:=some (z605,())
noncomputable abbrev Q0 (_:Nat):=q0
noncomputable def s0 (k:Nat) (a1:Arg):(Int×Int)->Option Out:=fun v402=>D.L k [1,1,1,0,1,0,0] [0,1,5] [] (blockC 0 (seqC (D.N k [1,1,1,1]) D.K0)) (T0 a1 v402)
noncomputable def r0 (k:Nat) (a1:Arg):(Int×Int)->Option Out:=rawIter (fun w v=>B0 k w (Q0 k a1) a1 v) k
theorem s0_eq (k:Nat) (a1:Arg):s0 k a1=r0 k a1:=
 funext fun v402=>iter_raw _ _ _ (T0 a1) _ (fun rec v=>by kernel_rfl) k v402
noncomputable def p (l0:(Int×Int)->Option Out) (a1:Arg):Option Out:=bif decide (w64 (a1.2.1 - (a1.1.length:Int)) < (0:Int)) then (some ((-1:Int),())) else l0 (w64 (a1.2.1 - (a1.1.length:Int)),(0:Int))
theorem raw_eq (k:Nat) (a1:Arg):@Eq (Option Out) (D.W k a1) (p (r0 k a1) a1):=
 Eq.trans (b:=p (s0 k a1) a1) (by kernel_rfl) (by rw[s0_eq])
theorem ok:Ok prog 55 D.sig:=fd_ok func55 tlOk (by kernel_rfl) (fc laws_szTx.ok (fn_nil _))
end laws_szTxS
namespace laws_szStore
abbrev Arg:Type:=Store×Int×Unit
abbrev Out:Type:=Int×Unit
abbrev ps:PQ:=[(.ro,tStore),(.ro,i64)]
noncomputable def D:FD:={ fn:=f11,tl:=TL0,ps:=ps,rs:=[(i64,(roMd i64))],gl:=[(53,laws_szByteSS.D.sig),(54,laws_szLog.D.sig),(55,laws_szTxS.D.sig)] }
noncomputable def sem (a:Arg):Option Out:=@lift Out fun k=>D.W k a
noncomputable def p (a1:Arg):Option Out:=(laws_szByteSS.sem (a1.1.2.1,a1.2.1,())).bind fun r2=>bif decide (r2.1 < (0:Int)) then (some ((-1:Int),())) else (laws_szLog.sem (a1.1.2.2.1,r2.1,())).bind fun r3=>bif decide (r3.1 < (0:Int)) then (some ((-1:Int),())) else (laws_szTxS.sem (a1.1.2.2.2.1,r3.1,())).bind fun r4=>bif decide (r4.1 < (0:Int)) then (some ((-1:Int),())) else some (r4.1,())
theorem raw_eq (k:Nat) (a1:Arg):@Eq (Option Out) (D.W k a1) (p a1):=by kernel_rfl
theorem ok:Ok prog 11 D.sig:=fd_ok func11 tlOk (by kernel_rfl) (fc laws_szByteSS.ok (fc laws_szLog.ok (fc laws_szTxS.ok (fn_nil _))))
end laws_szStore
namespace spec_l1Before
abbrev Arg:Type:=Row×Row×Unit
abbrev Out:Type:=Bool×Unit
abbrev ps:PQ:=[(.ro,(.ptr tRow)),(.ro,(.ptr tRow))]
noncomputable def D:FD:={ fn:=f214,tl:=TL0,ps:=ps,rs:=[(.bool,(roMd .bool))],od:=[(1,[0,1,2,3,4,5,6,7,8,9,10,11,12,13,14,15,16,17,18,19,20,21,22,23,24,25,26,27,28,29,30,31])] }
noncomputable def sem (a:Arg):Option Out:=@lift Out fun k=>D.W k a
noncomputable def p (a1:Arg):Option Out:=bif decide (a1.1.1 < a1.2.1.1) then (some (true,())) else bif decide (a1.1.1=a1.2.1.1) then (some (decide (a1.1.2.1 < a1.2.1.2.1),())) else some (false,())
theorem raw_eq (k:Nat) (a1:Arg):@Eq (Option Out) (D.W k a1) (p a1):=by kernel_rfl
theorem ok:Ok prog 214 D.sig:=fd_ok func214 tlOk (by kernel_rfl) (fn_nil _)
end spec_l1Before
namespace spec_l6Put
abbrev Arg:Type:=(List Row)×Row×Unit
abbrev Out:Type:=(List Row)×Unit
abbrev ps:PQ:=[(.ro,(.slc tRow)),(.ro,tRow)]
noncomputable def D:FD:={ fn:=f146,tl:=TL0,ps:=ps,rs:=[((.slc tRow),(ownMd (.slc tRow)))],gl:=[(214,spec_l1Before.D.sig)],lv:=[(2,[0,3,5])],lx:=[(0,[0,3,5])],od:=[(5,[0,1,4,5,6,2,3,7,8])] }
noncomputable def sem (a:Arg):Option Out:=@lift Out fun k=>D.W k a
noncomputable def T0 (a1:Arg) (v402:Int):St:={ n:=32,sl:=[(0,.val (.slc tRow) a1.1),(3,.box tRow (roMd tRow) [] a1.2.1),(5,.val i64 v402)],vr:=[],lent:=[] }
noncomputable def b0 (self:Int->Option Out) (e0:Int->Option Out) (a1:Arg) (v402:Int):Option Out:=bif decide (v402 < (a1.1.length:Int)) then (if 0<=v402 then ((a1.1[v402.toNat]?).bind fun x603=>(spec_l1Before.sem (x603,a1.2.1,())).bind fun r604=>bif r604.1 then (self (w64 (v402+(1:Int)))) else e0 v402) else none) else e0 v402
noncomputable abbrev B0 (_:Nat):=b0
noncomputable def q0 (a1:Arg) (z605:Int):Option Out:=if 0<=z605/\z605<=(a1.1.length:Int) then (if ([]:List Row).length+((a1.1.take z605.toNat).drop 0).length<=CAP then (let y606:=([]:List Row)++((a1.1.take z605.toNat).drop 0);if 0<=z605/\z605<=(a1.1.length:Int) then (if y606.length+[a1.2.1].length<=CAP then (if (y606++[a1.2.1]).length+((a1.1.take a1.1.length).drop z605.toNat).length<=CAP then (let y607:=(y606++[a1.2.1])++((a1.1.take a1.1.length).drop z605.toNat);some (y607,())) else none) else none) else none) else none) else none
noncomputable abbrev Q0 (_:Nat):=q0
noncomputable def s0 (k:Nat) (a1:Arg):(Int)->Option Out:=fun v402=>D.L k [1,1,0,0,0] [0,3,5] [] (blockC 0 (seqC (D.N k [1,1,1]) D.K0)) (T0 a1 v402)
noncomputable def r0 (k:Nat) (a1:Arg):(Int)->Option Out:=rawIter (fun w v=>B0 k w (Q0 k a1) a1 v) k
theorem s0_eq (k:Nat) (a1:Arg):s0 k a1=r0 k a1:=
 funext fun v402=>iter_raw _ _ _ (T0 a1) _ (fun rec v=>by kernel_rfl) k v402
noncomputable def p (l0:(Int)->Option Out) (a1:Arg):Option Out:=l0 (0:Int)
theorem raw_eq (k:Nat) (a1:Arg):@Eq (Option Out) (D.W k a1) (p (r0 k a1) a1):=
 Eq.trans (b:=p (s0 k a1) a1) (by kernel_rfl) (by rw[s0_eq])
theorem ok:Ok prog 146 D.sig:=fd_ok func146 tlOk (by kernel_rfl) (fc spec_l1Before.ok (fn_nil _))
end spec_l6Put
namespace spec_l6Key
abbrev Arg:Type:=Change×Unit
abbrev Out:Type:=Int×Int×Unit
abbrev ps:PQ:=[(.ro,(.ptr tChange))]
noncomputable def D:FD:={ fn:=f292,tl:=TL0,ps:=ps,rs:=[(i64,(roMd i64)),(i64,(roMd i64))],od:=[(2,[0,1,2,3,4,5,6,7,8,9,10,11]),(3,[0,1,2,3,4,5,6,7,8,9,10,11])] }
noncomputable def sem (a:Arg):Option Out:=@lift Out fun k=>D.W k a
noncomputable def p (a1:Arg):Option Out:=bif a1.1.2.2.1 then (some (a1.1.2.2.2.1.1,a1.1.2.2.2.1.2.1,())) else some (a1.1.2.1.1,a1.1.2.1.2.1,())
theorem raw_eq (k:Nat) (a1:Arg):@Eq (Option Out) (D.W k a1) (p a1):=by kernel_rfl
theorem ok:Ok prog 292 D.sig:=fd_ok func292 tlOk (by kernel_rfl) (fn_nil _)
end spec_l6Key
namespace spec_l6At
abbrev Arg:Type:=(List Row)×Int×Int×Unit
abbrev Out:Type:=Int×Unit
abbrev ps:PQ:=[(.ro,(.slc tRow)),(.ro,i64),(.ro,i64)]
noncomputable def D:FD:={ fn:=f293,tl:=TL0,ps:=ps,rs:=[(i64,(roMd i64))],lv:=[(2,[0,1,2,7])],lx:=[(0,[])] }
noncomputable def sem (a:Arg):Option Out:=@lift Out fun k=>D.W k a
noncomputable def T0 (a1:Arg) (v402:Int):St:={ n:=31,sl:=[(0,.val (.slc tRow) a1.1),(1,.val i64 a1.2.1),(2,.val i64 a1.2.2.1),(7,.val i64 v402)],vr:=[],lent:=[] }
noncomputable def b0 (self:Int->Option Out) (e0:(Unit)->Option Out) (a1:Arg) (v402:Int):Option Out:=bif decide (v402 < (a1.1.length:Int)) then (if 0<=v402 then ((a1.1[v402.toNat]?).bind fun x603=>bif decide (x603.1=a1.2.1) then (if 0<=v402 then ((a1.1[v402.toNat]?).bind fun x604=>bif decide (x604.2.1=a1.2.2.1) then (some (v402,())) else self (w64 (v402+(1:Int)))) else none) else self (w64 (v402+(1:Int)))) else none) else e0 ()
noncomputable abbrev B0 (_:Nat):=b0
noncomputable def q0 (a1:Arg) (z605:(Unit)):Option Out:=some ((-1:Int),())
noncomputable abbrev Q0 (_:Nat):=q0
noncomputable def s0 (k:Nat) (a1:Arg):(Int)->Option Out:=fun v402=>D.L k [1,0,1,0,0] [0,1,2,7] [] (blockC 0 (seqC (D.N k [1,1]) D.K0)) (T0 a1 v402)
noncomputable def r0 (k:Nat) (a1:Arg):(Int)->Option Out:=rawIter (fun w v=>B0 k w (Q0 k a1) a1 v) k
theorem s0_eq (k:Nat) (a1:Arg):s0 k a1=r0 k a1:=
 funext fun v402=>iter_raw _ _ _ (T0 a1) _ (fun rec v=>by kernel_rfl) k v402
noncomputable def p (l0:(Int)->Option Out) (a1:Arg):Option Out:=l0 (0:Int)
theorem raw_eq (k:Nat) (a1:Arg):@Eq (Option Out) (D.W k a1) (p (r0 k a1) a1):=
 Eq.trans (b:=p (s0 k a1) a1) (by kernel_rfl) (by rw[s0_eq])
theorem ok:Ok prog 293 D.sig:=fd_ok func293 tlOk (by kernel_rfl) (fn_nil _)
end spec_l6At
namespace spec_l6Do
abbrev Arg:Type:=(List Row)×Change×Unit
abbrev Out:Type:=(List Row)×Bool×Unit
abbrev ps:PQ:=[(.ro,(.slc tRow)),(.ro,(.ptr tChange))]
noncomputable def D:FD:={ fn:=f248,tl:=TL0,ps:=ps,rs:=[((.slc tRow),(ownMd (.slc tRow))),(.bool,(roMd .bool))],gl:=[(146,spec_l6Put.D.sig),(292,spec_l6Key.D.sig),(293,spec_l6At.D.sig)],lv:=[(7,[0,1,8,9,10])],lx:=[(0,[1,9])],od:=[(3,[0,1,2,3,4,5,6,7,8,9,10,11,12,13,14,15,16,17,18,19,20,21])] }
noncomputable def sem (a:Arg):Option Out:=@lift Out fun k=>D.W k a
noncomputable def T0 (a1:Arg) (c1011:Int) (v1010:(List Row)×Int):St:={ n:=70,sl:=[(0,.val (.slc tRow) a1.1),(1,.cp tChange a1.2.1),(8,.val i64 c1011),(9,.own (.slc tRow) (ownMd (.slc tRow)) [] v1010.1),(10,.val i64 v1010.2)],vr:=[],lent:=[] }
noncomputable def b0 (self:((List Row)×Int)->Option Out) (e0:(List Row)->Option Out) (a1:Arg) (c1011:Int) (v1010:(List Row)×Int):Option Out:=bif decide (v1010.2 < (a1.1.length:Int)) then (bif !decide (v1010.2=c1011) then (if 0<=v1010.2 then ((a1.1[v1010.2.toNat]?).bind fun x1212=>if v1010.1.length+[x1212].length<=CAP then (self (v1010.1++[x1212],w64 (v1010.2+(1:Int)))) else none) else none) else self (v1010.1,w64 (v1010.2+(1:Int)))) else e0 v1010.1
noncomputable abbrev B0 (_:Nat):=b0
noncomputable def q0 (a1:Arg) (c1011:Int) (z1213:(List Row)):Option Out:=bif a1.2.1.2.2.1 then ((spec_l6Put.sem (z1213,a1.2.1.2.2.2.1,())).bind fun r1214=>some (r1214.1,true,())) else some (z1213,true,())
noncomputable abbrev Q0 (_:Nat):=q0
noncomputable def s0 (k:Nat) (a1:Arg):Int->((List Row)×Int)->Option Out:=fun c1011=>fun v1010=>D.L k [1,1,1,1,1,0,1,0,0] [0,1,8,9,10] [] (blockC 0 (seqC (D.N k [1,1,1,1,1,1]) D.K0)) (T0 a1 c1011 v1010)
noncomputable def r0 (k:Nat) (a1:Arg):Int->((List Row)×Int)->Option Out:=fun c1011=>rawIter (fun w v=>B0 k w (Q0 k a1 c1011) a1 c1011 v) k
theorem s0_eq (k:Nat) (a1:Arg):s0 k a1=r0 k a1:=
 funext fun c1011=>funext fun v1010=>iter_raw _ _ _ (T0 a1 c1011) _ (fun rec v=>by kernel_rfl) k v1010
noncomputable def p (l0:Int->((List Row)×Int)->Option Out) (a1:Arg):Option Out:=(spec_l6Key.sem (a1.2.1,())).bind fun r2=>(spec_l6At.sem (a1.1,r2.1,r2.2.1,())).bind fun r3=>let j609:Option Out:=l0 r3.1 (([]:List Row),(0:Int));bif !(a1.2.1.1 == (decide ((0:Int)<=r3.1))) then (some (([]:List Row),false,())) else bif decide ((0:Int)<=r3.1) then (if 0<=r3.1 then ((a1.1[r3.1.toNat]?).bind fun x4=>bif !(Ty.eq tRow x4 a1.2.1.2.1) then (some (([]:List Row),false,())) else j609) else none) else j609
theorem raw_eq (k:Nat) (a1:Arg):@Eq (Option Out) (D.W k a1) (p (r0 k a1) a1):=
 Eq.trans (b:=p (s0 k a1) a1) (by kernel_rfl) (by rw[s0_eq])
theorem ok:Ok prog 248 D.sig:=fd_ok func248 tlOk (by kernel_rfl) (fc spec_l6Put.ok (fc spec_l6Key.ok (fc spec_l6At.ok (fn_nil _))))
end spec_l6Do
namespace spec_l10Inverse
abbrev Arg:Type:=(List Change)×Unit
abbrev Out:Type:=(List Change)×Unit
abbrev ps:PQ:=[(.ro,(.slc tChange))]
noncomputable def D:FD:={ fn:=f249,tl:=TL0,ps:=ps,rs:=[((.slc tChange),(ownMd (.slc tChange)))],lv:=[(3,[0,3,4])],lx:=[(0,[3])] }
noncomputable def sem (a:Arg):Option Out:=@lift Out fun k=>D.W k a
noncomputable def T0 (a1:Arg) (v402:(List Change)×Int):St:={ n:=31,sl:=[(0,.val (.slc tChange) a1.1),(3,.own (.slc tChange) (ownMd (.slc tChange)) [] v402.1),(4,.val i64 v402.2)],vr:=[],lent:=[] }
noncomputable def b0 (self:((List Change)×Int)->Option Out) (e0:(List Change)->Option Out) (a1:Arg) (v402:(List Change)×Int):Option Out:=bif decide ((0:Int)<=v402.2) then (if 0<=v402.2 then ((a1.1[v402.2.toNat]?).bind fun x603=>if v402.1.length+[(x603.2.2.1,x603.2.2.2.1,x603.1,x603.2.1,())].length<=CAP then (let y604:=v402.1++[(x603.2.2.1,x603.2.2.2.1,x603.1,x603.2.1,())];self (y604,w64 (v402.2 - (1:Int)))) else none) else none) else e0 v402.1
noncomputable abbrev B0 (_:Nat):=b0
noncomputable def q0 (a1:Arg) (z605:(List Change)):Option Out:=some (z605,())
noncomputable abbrev Q0 (_:Nat):=q0
noncomputable def s0 (k:Nat) (a1:Arg):((List Change)×Int)->Option Out:=fun v402=>D.L k [1,1,0,1,0,0] [0,3,4] [] (blockC 0 (seqC (D.N k [1,1,1]) D.K0)) (T0 a1 v402)
noncomputable def r0 (k:Nat) (a1:Arg):((List Change)×Int)->Option Out:=rawIter (fun w v=>B0 k w (Q0 k a1) a1 v) k
theorem s0_eq (k:Nat) (a1:Arg):s0 k a1=r0 k a1:=
 funext fun v402=>iter_raw _ _ _ (T0 a1) _ (fun rec v=>by kernel_rfl) k v402
noncomputable def p (l0:((List Change)×Int)->Option Out) (a1:Arg):Option Out:=l0 (([]:List Change),w64 ((a1.1.length:Int) - (1:Int)))
theorem raw_eq (k:Nat) (a1:Arg):@Eq (Option Out) (D.W k a1) (p (r0 k a1) a1):=
 Eq.trans (b:=p (s0 k a1) a1) (by kernel_rfl) (by rw[s0_eq])
theorem ok:Ok prog 249 D.sig:=fd_ok func249 tlOk (by kernel_rfl) (fn_nil _)
end spec_l10Inverse
namespace spec_l11Undo
abbrev Arg:Type:=(List Row)×(List Change)×Unit
abbrev Out:Type:=(List Row)×Bool×Unit
abbrev ps:PQ:=[(.ro,(.slc tRow)),(.ro,(.slc tChange))]
noncomputable def D:FD:={ fn:=f181,tl:=TL0,ps:=ps,rs:=[((.slc tRow),(roMd (.slc tRow))),(.bool,(roMd .bool))],gl:=[(248,spec_l6Do.D.sig),(249,spec_l10Inverse.D.sig)],lv:=[(3,[0,6,7])],lx:=[(0,[0])],lf:=[(3,[(0,(.slc false (.pair .leaf (.pair .leaf (.pair .leaf (.pair .leaf .leaf))))))])] }
noncomputable def sem (a:Arg):Option Out:=@lift Out fun k=>D.W k a
noncomputable def T0 (a1:Arg) (c404:List Change) (v403:(List Row)×Int):St:={ n:=30,sl:=[(0,.val (.slc tRow) v403.1),(6,.own (.slc tChange) (ownMd (.slc tChange)) [] c404),(7,.val i64 v403.2)],vr:=[],lent:=[] }
noncomputable def b0 (self:((List Row)×Int)->Option Out) (e0:(List Row)->Option Out) (a1:Arg) (c404:List Change) (v403:(List Row)×Int):Option Out:=bif decide (v403.2 < (c404.length:Int)) then (if 0<=v403.2/\v403.2 < (c404.length:Int) then ((c404[v403.2.toNat]?).bind fun x605=>(spec_l6Do.sem (v403.1,x605,())).bind fun r606=>bif !r606.2.1 then (some (([]:List Row),false,())) else self (r606.1,w64 (v403.2+(1:Int)))) else none) else e0 v403.1
noncomputable abbrev B0 (_:Nat):=b0
noncomputable def q0 (a1:Arg) (c404:List Change) (z607:(List Row)):Option Out:=some (z607,true,())
noncomputable abbrev Q0 (_:Nat):=q0
noncomputable def s0 (k:Nat) (a1:Arg):(List Change)->((List Row)×Int)->Option Out:=fun c404=>fun v403=>D.L k [1,1,0,1,0,0] [0,6,7] [(0,(.slc false (.pair .leaf (.pair .leaf (.pair .leaf (.pair .leaf .leaf))))))] (blockC 0 (seqC (D.N k [1,1,1]) D.K0)) (T0 a1 c404 v403)
noncomputable def r0 (k:Nat) (a1:Arg):(List Change)->((List Row)×Int)->Option Out:=fun c404=>rawIter (fun w v=>B0 k w (Q0 k a1 c404) a1 c404 v) k
theorem s0_eq (k:Nat) (a1:Arg):s0 k a1=r0 k a1:=
 funext fun c404=>funext fun v403=>iter_raw _ _ _ (T0 a1 c404) _ (fun rec v=>by kernel_rfl) k v403
noncomputable def p (l0:(List Change)->((List Row)×Int)->Option Out) (a1:Arg):Option Out:=(spec_l10Inverse.sem (a1.2.1,())).bind fun r2=>l0 r2.1 (a1.1,(0:Int))
theorem raw_eq (k:Nat) (a1:Arg):@Eq (Option Out) (D.W k a1) (p (r0 k a1) a1):=
 Eq.trans (b:=p (s0 k a1) a1) (by kernel_rfl) (by rw[s0_eq])
theorem ok:Ok prog 181 D.sig:=fd_ok func181 tlOk (by kernel_rfl) (fc spec_l6Do.ok (fc spec_l10Inverse.ok (fn_nil _)))
end spec_l11Undo
namespace spec_l11Back
abbrev Arg:Type:=(List Row)×(List Tx)×Unit
abbrev Out:Type:=(List Row)×Bool×Unit
abbrev ps:PQ:=[(.ro,(.slc tRow)),(.ro,(.slc tTx))]
noncomputable def D:FD:={ fn:=f112,tl:=TL0,ps:=ps,rs:=[((.slc tRow),(roMd (.slc tRow))),(.bool,(roMd .bool))],gl:=[(181,spec_l11Undo.D.sig)],lv:=[(3,[1,6,7])],lx:=[(0,[6])],lf:=[(3,[(6,(.slc false (.pair .leaf (.pair .leaf (.pair .leaf (.pair .leaf .leaf))))))])] }
noncomputable def sem (a:Arg):Option Out:=@lift Out fun k=>D.W k a
noncomputable def T0 (a1:Arg) (v402:(List Row)×Int):St:={ n:=33,sl:=[(1,.val (.slc tTx) a1.2.1),(6,.val (.slc tRow) v402.1),(7,.val i64 v402.2)],vr:=[],lent:=[] }
noncomputable def b0 (self:((List Row)×Int)->Option Out) (e0:(List Row)->Option Out) (a1:Arg) (v402:(List Row)×Int):Option Out:=bif decide (v402.2 < (a1.2.1.length:Int)) then (if 0<=v402.2 then ((a1.2.1[v402.2.toNat]?).bind fun x603=>(spec_l11Undo.sem (v402.1,x603.2.1,())).bind fun r604=>bif !r604.2.1 then (some (([]:List Row),false,())) else self (r604.1,w64 (v402.2+(1:Int)))) else none) else e0 v402.1
noncomputable abbrev B0 (_:Nat):=b0
noncomputable def q0 (a1:Arg) (z605:(List Row)):Option Out:=some (z605,true,())
noncomputable abbrev Q0 (_:Nat):=q0
noncomputable def s0 (k:Nat) (a1:Arg):((List Row)×Int)->Option Out:=fun v402=>D.L k [1,1,0,1,0,0] [1,6,7] [(6,(.slc false (.pair .leaf (.pair .leaf (.pair .leaf (.pair .leaf .leaf))))))] (blockC 0 (seqC (D.N k [1,1,1]) D.K0)) (T0 a1 v402)
noncomputable def r0 (k:Nat) (a1:Arg):((List Row)×Int)->Option Out:=rawIter (fun w v=>B0 k w (Q0 k a1) a1 v) k
theorem s0_eq (k:Nat) (a1:Arg):s0 k a1=r0 k a1:=
 funext fun v402=>iter_raw _ _ _ (T0 a1) _ (fun rec v=>by kernel_rfl) k v402
noncomputable def p (l0:((List Row)×Int)->Option Out) (a1:Arg):Option Out:=if ([]:List Row).length+a1.1.length<=CAP then (l0 (([]:List Row)++a1.1,(0:Int))) else none
theorem raw_eq (k:Nat) (a1:Arg):@Eq (Option Out) (D.W k a1) (p (r0 k a1) a1):=
 Eq.trans (b:=p (s0 k a1) a1) (by kernel_rfl) (by rw[s0_eq])
theorem ok:Ok prog 112 D.sig:=fd_ok func112 tlOk (by kernel_rfl) (fc spec_l11Undo.ok (fn_nil _))
end spec_l11Back
namespace spec_l1In
abbrev Arg:Type:=Int×Int×Int×Unit
abbrev Out:Type:=Bool×Unit
abbrev ps:PQ:=[(.ro,i64),(.ro,i64),(.ro,i64)]
noncomputable def D:FD:={ fn:=f118,tl:=TL0,ps:=ps,rs:=[(.bool,(roMd .bool))] }
noncomputable def sem (a:Arg):Option Out:=@lift Out fun k=>D.W k a
noncomputable def p (a1:Arg):Option Out:=bif decide (a1.2.1<=a1.1) then (some (decide (a1.1<=a1.2.2.1),())) else some (false,())
theorem raw_eq (k:Nat) (a1:Arg):@Eq (Option Out) (D.W k a1) (p a1):=by kernel_rfl
theorem ok:Ok prog 118 D.sig:=fd_ok func118 tlOk (by kernel_rfl) (fn_nil _)
end spec_l1In
namespace spec_l1Text
abbrev Arg:Type:=(List UInt8)×Unit
abbrev Out:Type:=Bool×Unit
abbrev ps:PQ:=[(.ro,.str)]
noncomputable def D:FD:={ fn:=f272,tl:=TL0,ps:=ps,rs:=[(.bool,(roMd .bool))],lv:=[(2,[0,3])],lx:=[(0,[0])] }
noncomputable def sem (a:Arg):Option Out:=@lift Out fun k=>D.W k a
noncomputable def T0 (a1:Arg) (v402:Int):St:={ n:=23,sl:=[(0,.val .str a1.1),(3,.val i64 v402)],vr:=[],lent:=[] }
noncomputable def b0 (self:Int->Option Out) (e0:(Unit)->Option Out) (a1:Arg) (v402:Int):Option Out:=bif decide (v402 < (a1.1.length:Int)) then (if 0<=v402 then ((a1.1[v402.toNat]?).bind fun x603=>bif decide ((x603.toNat:Int) < (97:Int)) then (some (false,())) else if 0<=v402 then ((a1.1[v402.toNat]?).bind fun x604=>bif decide ((122:Int) < (x604.toNat:Int)) then (some (false,())) else self (w64 (v402+(1:Int)))) else none) else none) else e0 ()
noncomputable abbrev B0 (_:Nat):=b0
noncomputable def q0 (a1:Arg) (z605:(Unit)):Option Out:=some (decide ((a1.1.length:Int)<=(8:Int)),())
noncomputable abbrev Q0 (_:Nat):=q0
noncomputable def s0 (k:Nat) (a1:Arg):(Int)->Option Out:=fun v402=>D.L k [1,0,1,0,0] [0,3] [] (blockC 0 (seqC (D.N k [1,1]) D.K0)) (T0 a1 v402)
noncomputable def r0 (k:Nat) (a1:Arg):(Int)->Option Out:=rawIter (fun w v=>B0 k w (Q0 k a1) a1 v) k
theorem s0_eq (k:Nat) (a1:Arg):s0 k a1=r0 k a1:=
 funext fun v402=>iter_raw _ _ _ (T0 a1) _ (fun rec v=>by kernel_rfl) k v402
noncomputable def p (l0:(Int)->Option Out) (a1:Arg):Option Out:=l0 (0:Int)
theorem raw_eq (k:Nat) (a1:Arg):@Eq (Option Out) (D.W k a1) (p (r0 k a1) a1):=
 Eq.trans (b:=p (s0 k a1) a1) (by kernel_rfl) (by rw[s0_eq])
theorem ok:Ok prog 272 D.sig:=fd_ok func272 tlOk (by kernel_rfl) (fn_nil _)
end spec_l1Text
namespace spec_l1Fault
abbrev Arg:Type:=Row×Unit
abbrev Out:Type:=Int×Unit
abbrev ps:PQ:=[(.ro,(.ptr tRow))]
noncomputable def D:FD:={ fn:=f213,tl:=TL0,ps:=ps,rs:=[(i64,(roMd i64))],gl:=[(118,spec_l1In.D.sig),(272,spec_l1Text.D.sig)] }
noncomputable def sem (a:Arg):Option Out:=@lift Out fun k=>D.W k a
noncomputable def p (a1:Arg):Option Out:=(spec_l1In.sem (a1.1.1,(0:Int),(3:Int),())).bind fun r2=>bif !r2.1 then (some ((3:Int),())) else (spec_l1In.sem (a1.1.2.1,(1:Int),(99:Int),())).bind fun r3=>bif !r3.1 then (some ((3:Int),())) else (spec_l1In.sem (a1.1.2.2.1,(0:Int),(999:Int),())).bind fun r4=>bif !r4.1 then (some ((3:Int),())) else (spec_l1Text.sem (a1.1.2.2.2.1,())).bind fun r5=>bif !r5.1 then (some ((5:Int),())) else some ((0:Int),())
theorem raw_eq (k:Nat) (a1:Arg):@Eq (Option Out) (D.W k a1) (p a1):=by kernel_rfl
theorem ok:Ok prog 213 D.sig:=fd_ok func213 tlOk (by kernel_rfl) (fc spec_l1In.ok (fc spec_l1Text.ok (fn_nil _)))
end spec_l1Fault
namespace spec_l6Rows
abbrev Arg:Type:=(List Row)×Unit
abbrev Out:Type:=Int×Unit
abbrev ps:PQ:=[(.ro,(.slc tRow))]
noncomputable def D:FD:={ fn:=f141,tl:=TL0,ps:=ps,rs:=[(i64,(roMd i64))],gl:=[(213,spec_l1Fault.D.sig),(214,spec_l1Before.D.sig)],lv:=[(4,[0,3])],lx:=[(0,[])],od:=[(9,[0,1,2,3,4,5,6,7,8,9,10,11,12])] }
noncomputable def sem (a:Arg):Option Out:=@lift Out fun k=>D.W k a
noncomputable def T0 (a1:Arg) (v402:Int):St:={ n:=34,sl:=[(0,.val (.slc tRow) a1.1),(3,.val i64 v402)],vr:=[],lent:=[] }
noncomputable def b0 (self:Int->Option Out) (e0:(Unit)->Option Out) (a1:Arg) (v402:Int):Option Out:=bif decide (v402 < (a1.1.length:Int)) then (if 0<=v402 then ((a1.1[v402.toNat]?).bind fun x603=>(spec_l1Fault.sem (x603,())).bind fun r604=>bif !decide (r604.1=(0:Int)) then (some (r604.1,())) else bif decide ((0:Int) < v402) then (if 0<=w64 (v402 - (1:Int)) then ((a1.1[(w64 (v402 - (1:Int))).toNat]?).bind fun x605=>if 0<=v402 then ((a1.1[v402.toNat]?).bind fun x606=>(spec_l1Before.sem (x605,x606,())).bind fun r607=>bif !r607.1 then (some ((1:Int),())) else self (w64 (v402+(1:Int)))) else none) else none) else self (w64 (v402+(1:Int)))) else none) else e0 ()
noncomputable abbrev B0 (_:Nat):=b0
noncomputable def q0 (a1:Arg) (z608:(Unit)):Option Out:=some ((0:Int),())
noncomputable abbrev Q0 (_:Nat):=q0
noncomputable def s0 (k:Nat) (a1:Arg):(Int)->Option Out:=fun v402=>D.L k [1,1,0,1,0,0] [0,3] [] (blockC 0 (seqC (D.N k [1,1,1]) D.K0)) (T0 a1 v402)
noncomputable def r0 (k:Nat) (a1:Arg):(Int)->Option Out:=rawIter (fun w v=>B0 k w (Q0 k a1) a1 v) k
theorem s0_eq (k:Nat) (a1:Arg):s0 k a1=r0 k a1:=
 funext fun v402=>iter_raw _ _ _ (T0 a1) _ (fun rec v=>by kernel_rfl) k v402
noncomputable def p (l0:(Int)->Option Out) (a1:Arg):Option Out:=bif decide ((60:Int) < (a1.1.length:Int)) then (some ((2:Int),())) else l0 (0:Int)
theorem raw_eq (k:Nat) (a1:Arg):@Eq (Option Out) (D.W k a1) (p (r0 k a1) a1):=
 Eq.trans (b:=p (s0 k a1) a1) (by kernel_rfl) (by rw[s0_eq])
theorem ok:Ok prog 141 D.sig:=fd_ok func141 tlOk (by kernel_rfl) (fc spec_l1Fault.ok (fc spec_l1Before.ok (fn_nil _)))
end spec_l6Rows
namespace spec_l6Change
abbrev Arg:Type:=Change×Unit
abbrev Out:Type:=Int×Unit
abbrev ps:PQ:=[(.ro,(.ptr tChange))]
noncomputable def D:FD:={ fn:=f247,tl:=TL0,ps:=ps,rs:=[(i64,(roMd i64))],gl:=[(213,spec_l1Fault.D.sig)],od:=[(1,[0,1,2,3,4,5,6,7,8,9,10,11,12,13,14,15,16,17,18,19,20,21,22,23,24,25,26,27,28,29,30,31,32,33,34,35,36,37,38,39,40,41,42,43,44,45,46,47,48,49])] }
noncomputable def sem (a:Arg):Option Out:=@lift Out fun k=>D.W k a
noncomputable def p (a1:Arg):Option Out:=let j5:Option Out:=bif a1.1.1 then ((spec_l1Fault.sem (a1.1.2.1,())).bind fun r6=>bif !decide (r6.1=(0:Int)) then (some (r6.1,())) else bif a1.1.2.2.1 then ((spec_l1Fault.sem (a1.1.2.2.2.1,())).bind fun r8=>some (r8.1,())) else some ((0:Int),())) else bif a1.1.2.2.1 then ((spec_l1Fault.sem (a1.1.2.2.2.1,())).bind fun r9=>some (r9.1,())) else some ((0:Int),());bif !a1.1.1 then (bif !a1.1.2.2.1 then (some ((1:Int),())) else bif a1.1.1 then (bif a1.1.2.2.1 then (bif !decide (a1.1.2.1.1=a1.1.2.2.2.1.1) then (some ((1:Int),())) else bif !decide (a1.1.2.1.2.1=a1.1.2.2.2.1.2.1) then (some ((1:Int),())) else j5) else j5) else j5) else bif a1.1.1 then (bif a1.1.2.2.1 then (bif !decide (a1.1.2.1.1=a1.1.2.2.2.1.1) then (some ((1:Int),())) else bif !decide (a1.1.2.1.2.1=a1.1.2.2.2.1.2.1) then (some ((1:Int),())) else j5) else j5) else j5
theorem raw_eq (k:Nat) (a1:Arg):@Eq (Option Out) (D.W k a1) (p a1):=by kernel_rfl
theorem ok:Ok prog 247 D.sig:=fd_ok func247 tlOk (by kernel_rfl) (fc spec_l1Fault.ok (fn_nil _))
end spec_l6Change
namespace spec_l9Change
abbrev Arg:Type:=Change×Unit
abbrev Out:Type:=Int×Unit
abbrev ps:PQ:=[(.ro,(.ptr tChange))]
noncomputable def D:FD:={ fn:=f273,tl:=TL0,ps:=ps,rs:=[(i64,(roMd i64))],gl:=[(247,spec_l6Change.D.sig)],od:=[(4,[0,1,2,3,4,5,6,7,8,9,10,11,12,13,14,15,16,17,18,19,20])] }
noncomputable def sem (a:Arg):Option Out:=@lift Out fun k=>D.W k a
noncomputable def p (a1:Arg):Option Out:=(spec_l6Change.sem (a1.1,())).bind fun r2=>bif !decide (r2.1=(0:Int)) then (some (r2.1,())) else bif a1.1.1 then (bif a1.1.2.2.1 then (bif (Ty.eq tRow a1.1.2.1 a1.1.2.2.2.1) then (some ((1:Int),())) else some ((0:Int),())) else some ((0:Int),())) else some ((0:Int),())
theorem raw_eq (k:Nat) (a1:Arg):@Eq (Option Out) (D.W k a1) (p a1):=by kernel_rfl
theorem ok:Ok prog 273 D.sig:=fd_ok func273 tlOk (by kernel_rfl) (fc spec_l6Change.ok (fn_nil _))
end spec_l9Change
namespace spec_l10Locks
abbrev Arg:Type:=Tx×Key×Unit
abbrev Out:Type:=Bool×Unit
abbrev ps:PQ:=[(.ro,(.ptr tTx)),(.ro,tKey)]
noncomputable def D:FD:={ fn:=f274,tl:=TL0,ps:=ps,rs:=[(.bool,(roMd .bool))],lv:=[(2,[0,3,5])],lx:=[(0,[])],od:=[(4,[0,1,2,3,4,5,6,7,8])] }
noncomputable def sem (a:Arg):Option Out:=@lift Out fun k=>D.W k a
noncomputable def T0 (a1:Arg) (v402:Int):St:={ n:=24,sl:=[(0,.cp tTx a1.1),(3,.box tKey (roMd tKey) [] a1.2.1),(5,.val i64 v402)],vr:=[],lent:=[] }
noncomputable def b0 (self:Int->Option Out) (e0:(Unit)->Option Out) (a1:Arg) (v402:Int):Option Out:=bif decide (v402 < (a1.1.2.2.2.1.length:Int)) then (if 0<=v402 then ((a1.1.2.2.2.1[v402.toNat]?).bind fun x603=>bif (Ty.eq tKey x603 a1.2.1) then (some (true,())) else self (w64 (v402+(1:Int)))) else none) else e0 ()
noncomputable abbrev B0 (_:Nat):=b0
noncomputable def q0 (a1:Arg) (z604:(Unit)):Option Out:=some (false,())
noncomputable abbrev Q0 (_:Nat):=q0
noncomputable def s0 (k:Nat) (a1:Arg):(Int)->Option Out:=fun v402=>D.L k [1,0,1,0,0] [0,3,5] [] (blockC 0 (seqC (D.N k [1,1]) D.K0)) (T0 a1 v402)
noncomputable def r0 (k:Nat) (a1:Arg):(Int)->Option Out:=rawIter (fun w v=>B0 k w (Q0 k a1) a1 v) k
theorem s0_eq (k:Nat) (a1:Arg):s0 k a1=r0 k a1:=
 funext fun v402=>iter_raw _ _ _ (T0 a1) _ (fun rec v=>by kernel_rfl) k v402
noncomputable def p (l0:(Int)->Option Out) (a1:Arg):Option Out:=l0 (0:Int)
theorem raw_eq (k:Nat) (a1:Arg):@Eq (Option Out) (D.W k a1) (p (r0 k a1) a1):=
 Eq.trans (b:=p (s0 k a1) a1) (by kernel_rfl) (by rw[s0_eq])
theorem ok:Ok prog 274 D.sig:=fd_ok func274 tlOk (by kernel_rfl) (fn_nil _)
end spec_l10Locks
namespace spec_l10KeyOf
abbrev Arg:Type:=Change×Unit
abbrev Out:Type:=Key×Unit
abbrev ps:PQ:=[(.ro,(.ptr tChange))]
noncomputable def D:FD:={ fn:=f275,tl:=TL0,ps:=ps,rs:=[(tKey,(roMd tKey))],gl:=[(292,spec_l6Key.D.sig)] }
noncomputable def sem (a:Arg):Option Out:=@lift Out fun k=>D.W k a
noncomputable def p (a1:Arg):Option Out:=(spec_l6Key.sem (a1.1,())).bind fun r2=>some ((r2.1,r2.2.1,()),())
theorem raw_eq (k:Nat) (a1:Arg):@Eq (Option Out) (D.W k a1) (p a1):=by kernel_rfl
theorem ok:Ok prog 275 D.sig:=fd_ok func275 tlOk (by kernel_rfl) (fc spec_l6Key.ok (fn_nil _))
end spec_l10KeyOf
namespace spec_l10Undo
abbrev Arg:Type:=Tx×Unit
abbrev Out:Type:=Int×Unit
abbrev ps:PQ:=[(.ro,(.ptr tTx))]
noncomputable def D:FD:={ fn:=f215,tl:=TL0,ps:=ps,rs:=[(i64,(roMd i64))],gl:=[(273,spec_l9Change.D.sig),(274,spec_l10Locks.D.sig),(275,spec_l10KeyOf.D.sig)],lv:=[(2,[0,3])],lx:=[(0,[])] }
noncomputable def sem (a:Arg):Option Out:=@lift Out fun k=>D.W k a
noncomputable def T0 (a1:Arg) (v402:Int):St:={ n:=34,sl:=[(0,.cp tTx a1.1),(3,.val i64 v402)],vr:=[],lent:=[] }
noncomputable def b0 (self:Int->Option Out) (e0:(Unit)->Option Out) (a1:Arg) (v402:Int):Option Out:=bif decide (v402 < (a1.1.2.1.length:Int)) then (if 0<=v402 then ((a1.1.2.1[v402.toNat]?).bind fun x603=>(spec_l9Change.sem (x603,())).bind fun r604=>bif !decide (r604.1=(0:Int)) then (some (r604.1,())) else if 0<=v402 then ((a1.1.2.1[v402.toNat]?).bind fun x605=>(spec_l10KeyOf.sem (x605,())).bind fun r606=>(spec_l10Locks.sem (a1.1,r606.1,())).bind fun r607=>bif !r607.1 then (some ((8:Int),())) else self (w64 (v402+(1:Int)))) else none) else none) else e0 ()
noncomputable abbrev B0 (_:Nat):=b0
noncomputable def q0 (a1:Arg) (z608:(Unit)):Option Out:=some ((0:Int),())
noncomputable abbrev Q0 (_:Nat):=q0
noncomputable def s0 (k:Nat) (a1:Arg):(Int)->Option Out:=fun v402=>D.L k [1,0,1,0,0] [0,3] [] (blockC 0 (seqC (D.N k [1,1]) D.K0)) (T0 a1 v402)
noncomputable def r0 (k:Nat) (a1:Arg):(Int)->Option Out:=rawIter (fun w v=>B0 k w (Q0 k a1) a1 v) k
theorem s0_eq (k:Nat) (a1:Arg):s0 k a1=r0 k a1:=
 funext fun v402=>iter_raw _ _ _ (T0 a1) _ (fun rec v=>by kernel_rfl) k v402
noncomputable def p (l0:(Int)->Option Out) (a1:Arg):Option Out:=l0 (0:Int)
theorem raw_eq (k:Nat) (a1:Arg):@Eq (Option Out) (D.W k a1) (p (r0 k a1) a1):=
 Eq.trans (b:=p (s0 k a1) a1) (by kernel_rfl) (by rw[s0_eq])
theorem ok:Ok prog 215 D.sig:=fd_ok func215 tlOk (by kernel_rfl) (fc spec_l9Change.ok (fc spec_l10Locks.ok (fc spec_l10KeyOf.ok (fn_nil _))))
end spec_l10Undo
namespace spec_l10Key
abbrev Arg:Type:=Key×Unit
abbrev Out:Type:=Bool×Unit
abbrev ps:PQ:=[(.ro,(.ptr tKey))]
noncomputable def D:FD:={ fn:=f276,tl:=TL0,ps:=ps,rs:=[(.bool,(roMd .bool))],gl:=[(118,spec_l1In.D.sig)] }
noncomputable def sem (a:Arg):Option Out:=@lift Out fun k=>D.W k a
noncomputable def p (a1:Arg):Option Out:=(spec_l1In.sem (a1.1.1,(0:Int),(3:Int),())).bind fun r2=>bif r2.1 then ((spec_l1In.sem (a1.1.2.1,(1:Int),(99:Int),())).bind fun r3=>some (r3.1,())) else some (false,())
theorem raw_eq (k:Nat) (a1:Arg):@Eq (Option Out) (D.W k a1) (p a1):=by kernel_rfl
theorem ok:Ok prog 276 D.sig:=fd_ok func276 tlOk (by kernel_rfl) (fc spec_l1In.ok (fn_nil _))
end spec_l10Key
namespace spec_l10Marks
abbrev Arg:Type:=Tx×Unit
abbrev Out:Type:=Int×Unit
abbrev ps:PQ:=[(.ro,(.ptr tTx))]
noncomputable def D:FD:={ fn:=f216,tl:=TL0,ps:=ps,rs:=[(i64,(roMd i64))],gl:=[(118,spec_l1In.D.sig),(276,spec_l10Key.D.sig)],lv:=[(4,[0,3]),(9,[0,4]),(14,[0,4,5])],lx:=[(0,[0]),(2,[]),(4,[0,4])],od:=[(6,[0,1,2,3,4,5,6,7,8,9,10,11,12,13,14,15,16,17,18,19,20,21,22,23,24,25,26,27,28,29,30,31,32,33,34,35]),(16,[0,1,2,3,4,5,6,7,8,9,10,11,12,13,14])],ar:=[(6,[3,6,10,21,24,28,32])] }
noncomputable def sem (a:Arg):Option Out:=@lift Out fun k=>D.W k a
noncomputable def T0 (a1:Arg) (v402:Int):St:={ n:=102,sl:=[(0,.cp tTx a1.1),(3,.val i64 v402)],vr:=[],lent:=[] }
noncomputable def S0 (rec:RT Out) (a1:Arg):(Int)->Option Out:=fun v402=>rec (T0 a1 v402)
noncomputable def X0_0 (K:KT Out) (a1:Arg):(Unit)->Option Out:=fun z=>K (.exit 0) ({ n:=102,sl:=[(0,.cp tTx a1.1)],vr:=[],lent:=[] })
noncomputable def b0 (self:Int->Option Out) (e0:(Unit)->Option Out) (a1:Arg) (v402:Int):Option Out:=bif decide (v402 < (a1.1.2.2.1.length:Int)) then (if 0<=v402 then ((a1.1.2.2.1[v402.toNat]?).bind fun x603=>(spec_l1In.sem (x603,(0:Int),(a1.1.2.1.length:Int),())).bind fun r604=>bif !r604.1 then (some ((3:Int),())) else bif decide ((0:Int) < v402) then (if 0<=v402 then ((a1.1.2.2.1[v402.toNat]?).bind fun x605=>if 0<=w64 (v402 - (1:Int)) then ((a1.1.2.2.1[(w64 (v402 - (1:Int))).toNat]?).bind fun x606=>bif decide (x605 < x606) then (some ((3:Int),())) else self (w64 (v402+(1:Int)))) else none) else none) else self (w64 (v402+(1:Int)))) else none) else e0 ()
noncomputable abbrev B0 (_:Nat):=b0
theorem B0_eq (k:Nat) (rec:RT Out) (K:KT Out) (a1:Arg) (v402:Int):D.N k [1,1,0,1,0,0] (T0 a1 v402) (loopC rec (keepF [0,3] []) K)=b0 (S0 rec a1) (X0_0 K a1) a1 v402:=by kernel_rfl
noncomputable def T1 (a1:Arg) (v1008:Tx×Int):St:={ n:=102,sl:=[(0,.cp tTx v1008.1),(4,.val i64 v1008.2)],vr:=[],lent:=[] }
noncomputable def S1 (rec:RT Out) (a1:Arg):(Tx×Int)->Option Out:=fun v1008=>rec (T1 a1 v1008)
noncomputable def X1_2 (K:KT Out) (a1:Arg):(Unit)->Option Out:=fun z=>K (.exit 2) ({ n:=102,sl:=[],vr:=[],lent:=[] })
noncomputable def T2 (a1:Arg) (c1612:Tx) (c1613:Int) (v1611:Int):St:={ n:=102,sl:=[(0,.cp tTx c1612),(4,.val i64 c1613),(5,.val i64 v1611)],vr:=[],lent:=[] }
noncomputable def b2 (self:Int->Option Out) (e4:(Unit)->Option Out) (a1:Arg) (c1612:Tx) (c1613:Int) (v1611:Int):Option Out:=bif decide (v1611 < c1613) then (if 0<=v1611 then ((c1612.2.2.2.1[v1611.toNat]?).bind fun x1814=>if 0<=c1613 then ((c1612.2.2.2.1[c1613.toNat]?).bind fun x1815=>bif (Ty.eq tKey x1814 x1815) then (some ((6:Int),())) else self (w64 (v1611+(1:Int)))) else none) else none) else e4 ()
noncomputable abbrev B2 (_:Nat):=b2
noncomputable def q1 (self:(Tx×Int)->Option Out) (e2:(Unit)->Option Out) (a1:Arg) (c1612:Tx) (c1613:Int) (z1816:(Unit)):Option Out:=self (c1612,w64 (c1613+(1:Int)))
noncomputable abbrev Q1 (_:Nat):=q1
noncomputable def s2 (k:Nat) (rec:RT Out) (K:KT Out) (a1:Arg):Tx->Int->(Int)->Option Out:=fun c1612 c1613=>fun v1611=>D.L k [1,1,1,0,1,0,0,1,0,0,1,1,0,0] [0,4,5] [] (blockC 4 (blockC 3 (seqC (D.N k [1,1,1,0,1,0,0,1,1]) (loopC rec (keepF [0,4] []) K)))) (T2 a1 c1612 c1613 v1611)
noncomputable def r2 (k:Nat) (self:(Tx×Int)->Option Out) (e2:(Unit)->Option Out) (a1:Arg):Tx->Int->(Int)->Option Out:=fun c1612 c1613=>rawIter (fun w v=>B2 k w (Q1 k self e2 a1 c1612 c1613) a1 c1612 c1613 v) k
theorem s2_eq (k:Nat) (rec:RT Out) (K:KT Out) (a1:Arg):s2 k rec K a1=r2 k (S1 rec a1) (X1_2 K a1) a1:=
 funext fun c1612=>funext fun c1613=>funext fun v1611=>iter_raw _ _ _ (T2 a1 c1612 c1613) _ (fun rec v=>by kernel_rfl) k v1611
noncomputable def b1 (self:(Tx×Int)->Option Out) (e2:(Unit)->Option Out) (l2:Tx->Int->(Int)->Option Out) (a1:Arg) (v1008:Tx×Int):Option Out:=bif decide (v1008.2 < (v1008.1.2.2.2.1.length:Int)) then (if 0<=v1008.2 then ((v1008.1.2.2.2.1[v1008.2.toNat]?).bind fun x1209=>(spec_l10Key.sem (x1209,())).bind fun r1210=>bif !r1210.1 then (some ((3:Int),())) else l2 v1008.1 v1008.2 (0:Int)) else none) else e2 ()
noncomputable def B1 (k:Nat) (self:(Tx×Int)->Option Out) (e2:(Unit)->Option Out) (a1:Arg) (v1008:Tx×Int):Option Out:=b1 self e2 (r2 k self e2 a1) a1 v1008
theorem B1_eq (k:Nat) (rec:RT Out) (K:KT Out) (a1:Arg) (v1008:Tx×Int):D.N k [1,1,1,0,1,0,0] (T1 a1 v1008) (loopC rec (keepF [0,4] []) K)=B1 k (S1 rec a1) (X1_2 K a1) a1 v1008:=
 Eq.trans (b:=b1 (S1 rec a1) (X1_2 K a1) (s2 k rec K a1) a1 v1008) (by kernel_rfl) (by rw[s2_eq];rfl)
noncomputable def q2 (a1:Arg) (z1817:(Unit)):Option Out:=some ((0:Int),())
noncomputable abbrev Q2 (_:Nat):=q2
theorem Q2_eq (k:Nat) (a1:Arg) (z1817:(Unit)):X1_2 (blockC 2 (seqC (D.N k [1,1,1,1]) D.K0)) a1 z1817=q2 a1 z1817:=by kernel_rfl
noncomputable def s1 (k:Nat) (a1:Arg):(Tx×Int)->Option Out:=fun v1008=>D.L k [1,1,1,0,1,0,0] [0,4] [] (blockC 2 (seqC (D.N k [1,1,1,1]) D.K0)) (T1 a1 v1008)
noncomputable def r1 (k:Nat) (a1:Arg):(Tx×Int)->Option Out:=rawIter (fun w v=>B1 k w (Q2 k a1) a1 v) k
theorem s1_eq (k:Nat) (a1:Arg):s1 k a1=r1 k a1:=by
 funext v1008;
 have h2:X1_2 (blockC 2 (seqC (D.N k [1,1,1,1]) D.K0)) a1=Q2 k a1:=funext fun z=>Q2_eq k a1 z
 refine (iter_raw _ _ _ (T1 a1) (fun self v=>B1 k self (X1_2 (blockC 2 (seqC (D.N k [1,1,1,1]) D.K0)) a1) a1 v) (fun rec v=>B1_eq k rec (blockC 2 (seqC (D.N k [1,1,1,1]) D.K0)) a1 v) k v1008).trans ?_
 rw[h2]
 rfl
noncomputable def q0 (l1:(Tx×Int)->Option Out) (a1:Arg) (z607:(Unit)):Option Out:=l1 (a1.1,(0:Int))
noncomputable def Q0 (k:Nat) (a1:Arg) (z607:(Unit)):Option Out:=q0 (r1 k a1) a1 z607
theorem Q0_eq (k:Nat) (a1:Arg) (z607:(Unit)):X0_0 (blockC 0 (seqC (D.N k [1,1,1]) D.K0)) a1 z607=Q0 k a1 z607:=
 Eq.trans (b:=q0 (s1 k a1) a1 z607) (by kernel_rfl) (by rw[s1_eq];rfl)
noncomputable def s0 (k:Nat) (a1:Arg):(Int)->Option Out:=fun v402=>D.L k [1,1,0,1,0,0] [0,3] [] (blockC 0 (seqC (D.N k [1,1,1]) D.K0)) (T0 a1 v402)
noncomputable def r0 (k:Nat) (a1:Arg):(Int)->Option Out:=rawIter (fun w v=>B0 k w (Q0 k a1) a1 v) k
theorem s0_eq (k:Nat) (a1:Arg):s0 k a1=r0 k a1:=by
 funext v402;
 have h0:X0_0 (blockC 0 (seqC (D.N k [1,1,1]) D.K0)) a1=Q0 k a1:=funext fun z=>Q0_eq k a1 z
 refine (iter_raw _ _ _ (T0 a1) (fun self v=>B0 k self (X0_0 (blockC 0 (seqC (D.N k [1,1,1]) D.K0)) a1) a1 v) (fun rec v=>B0_eq k rec (blockC 0 (seqC (D.N k [1,1,1]) D.K0)) a1 v) k v402).trans ?_
 rw[h0]
 rfl
noncomputable def p (l0:(Int)->Option Out) (a1:Arg):Option Out:=bif decide ((8:Int) < (a1.1.2.2.1.length:Int)) then (some ((2:Int),())) else bif decide ((12:Int) < (a1.1.2.2.2.1.length:Int)) then (some ((2:Int),())) else l0 (0:Int)
theorem raw_eq (k:Nat) (a1:Arg):@Eq (Option Out) (D.W k a1) (p (r0 k a1) a1):=
 Eq.trans (b:=p (s0 k a1) a1) (by kernel_rfl) (by rw[s0_eq])
theorem ok:Ok prog 216 D.sig:=fd_ok func216 tlOk (by kernel_rfl) (fc spec_l1In.ok (fc spec_l10Key.ok (fn_nil _)))
end spec_l10Marks
namespace spec_l10Lock
abbrev Arg:Type:=(List Tx)×Key×Unit
abbrev Out:Type:=Int×Unit
abbrev ps:PQ:=[(.ro,(.slc tTx)),(.ro,tKey)]
noncomputable def D:FD:={ fn:=f277,tl:=TL0,ps:=ps,rs:=[(i64,(roMd i64))],gl:=[(274,spec_l10Locks.D.sig)],lv:=[(2,[0,3,5])],lx:=[(0,[])],od:=[(4,[0,1,2,3,4])] }
noncomputable def sem (a:Arg):Option Out:=@lift Out fun k=>D.W k a
noncomputable def T0 (a1:Arg) (v402:Int):St:={ n:=22,sl:=[(0,.val (.slc tTx) a1.1),(3,.box tKey (roMd tKey) [] a1.2.1),(5,.val i64 v402)],vr:=[],lent:=[] }
noncomputable def b0 (self:Int->Option Out) (e0:(Unit)->Option Out) (a1:Arg) (v402:Int):Option Out:=bif decide (v402 < (a1.1.length:Int)) then (if 0<=v402 then ((a1.1[v402.toNat]?).bind fun x603=>(spec_l10Locks.sem (x603,a1.2.1,())).bind fun r604=>bif r604.1 then (if 0<=v402 then ((a1.1[v402.toNat]?).bind fun x605=>some (x605.1,())) else none) else self (w64 (v402+(1:Int)))) else none) else e0 ()
noncomputable abbrev B0 (_:Nat):=b0
noncomputable def q0 (a1:Arg) (z606:(Unit)):Option Out:=some ((0:Int),())
noncomputable abbrev Q0 (_:Nat):=q0
noncomputable def s0 (k:Nat) (a1:Arg):(Int)->Option Out:=fun v402=>D.L k [1,0,1,0,0] [0,3,5] [] (blockC 0 (seqC (D.N k [1,1]) D.K0)) (T0 a1 v402)
noncomputable def r0 (k:Nat) (a1:Arg):(Int)->Option Out:=rawIter (fun w v=>B0 k w (Q0 k a1) a1 v) k
theorem s0_eq (k:Nat) (a1:Arg):s0 k a1=r0 k a1:=
 funext fun v402=>iter_raw _ _ _ (T0 a1) _ (fun rec v=>by kernel_rfl) k v402
noncomputable def p (l0:(Int)->Option Out) (a1:Arg):Option Out:=l0 (0:Int)
theorem raw_eq (k:Nat) (a1:Arg):@Eq (Option Out) (D.W k a1) (p (r0 k a1) a1):=
 Eq.trans (b:=p (s0 k a1) a1) (by kernel_rfl) (by rw[s0_eq])
theorem ok:Ok prog 277 D.sig:=fd_ok func277 tlOk (by kernel_rfl) (fc spec_l10Locks.ok (fn_nil _))
end spec_l10Lock
namespace spec_l10Apart
abbrev Arg:Type:=(List Tx)×Unit
abbrev Out:Type:=Bool×Unit
abbrev ps:PQ:=[(.ro,(.slc tTx))]
noncomputable def D:FD:={ fn:=f217,tl:=TL0,ps:=ps,rs:=[(.bool,(roMd .bool))],gl:=[(277,spec_l10Lock.D.sig)],lv:=[(2,[0,3]),(5,[0,3,4])],lx:=[(0,[]),(2,[0,3])],od:=[(7,[0,1,2,3,4,5,6,7,8,10,11,12,13,14,9,15])] }
noncomputable def sem (a:Arg):Option Out:=@lift Out fun k=>D.W k a
noncomputable def T0 (a1:Arg) (v402:(List Tx)×Int):St:={ n:=37,sl:=[(0,.val (.slc tTx) v402.1),(3,.val i64 v402.2)],vr:=[],lent:=[] }
noncomputable def S0 (rec:RT Out) (a1:Arg):((List Tx)×Int)->Option Out:=fun v402=>rec (T0 a1 v402)
noncomputable def X0_0 (K:KT Out) (a1:Arg):(Unit)->Option Out:=fun z=>K (.exit 0) ({ n:=37,sl:=[],vr:=[],lent:=[] })
noncomputable def T1 (a1:Arg) (c1004:List Tx) (c1005:Int) (v1003:Int):St:={ n:=37,sl:=[(0,.val (.slc tTx) c1004),(3,.val i64 c1005),(4,.val i64 v1003)],vr:=[],lent:=[] }
noncomputable def b1 (self:Int->Option Out) (e2:(Unit)->Option Out) (a1:Arg) (c1004:List Tx) (c1005:Int) (v1003:Int):Option Out:=if 0<=c1005 then ((c1004[c1005.toNat]?).bind fun x1206=>bif decide (v1003 < (x1206.2.2.2.1.length:Int)) then (if 0<=c1005 then ((c1004[c1005.toNat]?).bind fun x1207=>if 0<=v1003 then ((x1207.2.2.2.1[v1003.toNat]?).bind fun x1208=>if 0<=c1005 then ((c1004[c1005.toNat]?).bind fun x1209=>(spec_l10Lock.sem (c1004,x1208,())).bind fun r1210=>bif !decide (r1210.1=x1209.1) then (some (false,())) else self (w64 (v1003+(1:Int)))) else none) else none) else none) else e2 ()) else none
noncomputable abbrev B1 (_:Nat):=b1
noncomputable def q0 (self:((List Tx)×Int)->Option Out) (e0:(Unit)->Option Out) (a1:Arg) (c1004:List Tx) (c1005:Int) (z1211:(Unit)):Option Out:=self (c1004,w64 (c1005+(1:Int)))
noncomputable abbrev Q0 (_:Nat):=q0
noncomputable def s1 (k:Nat) (rec:RT Out) (K:KT Out) (a1:Arg):(List Tx)->Int->(Int)->Option Out:=fun c1004 c1005=>fun v1003=>D.L k [1,0,1,0,0,1,0,0,1,0,0] [0,3,4] [] (blockC 2 (blockC 1 (seqC (D.N k [1,0,1,0,0,1,1]) (loopC rec (keepF [0,3] []) K)))) (T1 a1 c1004 c1005 v1003)
noncomputable def r1 (k:Nat) (self:((List Tx)×Int)->Option Out) (e0:(Unit)->Option Out) (a1:Arg):(List Tx)->Int->(Int)->Option Out:=fun c1004 c1005=>rawIter (fun w v=>B1 k w (Q0 k self e0 a1 c1004 c1005) a1 c1004 c1005 v) k
theorem s1_eq (k:Nat) (rec:RT Out) (K:KT Out) (a1:Arg):s1 k rec K a1=r1 k (S0 rec a1) (X0_0 K a1) a1:=
 funext fun c1004=>funext fun c1005=>funext fun v1003=>iter_raw _ _ _ (T1 a1 c1004 c1005) _ (fun rec v=>by kernel_rfl) k v1003
noncomputable def b0 (self:((List Tx)×Int)->Option Out) (e0:(Unit)->Option Out) (l1:(List Tx)->Int->(Int)->Option Out) (a1:Arg) (v402:(List Tx)×Int):Option Out:=bif decide (v402.2 < (v402.1.length:Int)) then (l1 v402.1 v402.2 (0:Int)) else e0 ()
noncomputable def B0 (k:Nat) (self:((List Tx)×Int)->Option Out) (e0:(Unit)->Option Out) (a1:Arg) (v402:(List Tx)×Int):Option Out:=b0 self e0 (r1 k self e0 a1) a1 v402
theorem B0_eq (k:Nat) (rec:RT Out) (K:KT Out) (a1:Arg) (v402:(List Tx)×Int):D.N k [1,0,1,0,0] (T0 a1 v402) (loopC rec (keepF [0,3] []) K)=B0 k (S0 rec a1) (X0_0 K a1) a1 v402:=
 Eq.trans (b:=b0 (S0 rec a1) (X0_0 K a1) (s1 k rec K a1) a1 v402) (by kernel_rfl) (by rw[s1_eq];rfl)
noncomputable def q1 (a1:Arg) (z1212:(Unit)):Option Out:=some (true,())
noncomputable abbrev Q1 (_:Nat):=q1
theorem Q1_eq (k:Nat) (a1:Arg) (z1212:(Unit)):X0_0 (blockC 0 (seqC (D.N k [1,1]) D.K0)) a1 z1212=q1 a1 z1212:=by kernel_rfl
noncomputable def s0 (k:Nat) (a1:Arg):((List Tx)×Int)->Option Out:=fun v402=>D.L k [1,0,1,0,0] [0,3] [] (blockC 0 (seqC (D.N k [1,1]) D.K0)) (T0 a1 v402)
noncomputable def r0 (k:Nat) (a1:Arg):((List Tx)×Int)->Option Out:=rawIter (fun w v=>B0 k w (Q1 k a1) a1 v) k
theorem s0_eq (k:Nat) (a1:Arg):s0 k a1=r0 k a1:=by
 funext v402;
 have h0:X0_0 (blockC 0 (seqC (D.N k [1,1]) D.K0)) a1=Q1 k a1:=funext fun z=>Q1_eq k a1 z
 refine (iter_raw _ _ _ (T0 a1) (fun self v=>B0 k self (X0_0 (blockC 0 (seqC (D.N k [1,1]) D.K0)) a1) a1 v) (fun rec v=>B0_eq k rec (blockC 0 (seqC (D.N k [1,1]) D.K0)) a1 v) k v402).trans ?_
 rw[h0]
 rfl
noncomputable def p (l0:((List Tx)×Int)->Option Out) (a1:Arg):Option Out:=l0 (a1.1,(0:Int))
theorem raw_eq (k:Nat) (a1:Arg):@Eq (Option Out) (D.W k a1) (p (r0 k a1) a1):=
 Eq.trans (b:=p (s0 k a1) a1) (by kernel_rfl) (by rw[s0_eq])
theorem ok:Ok prog 217 D.sig:=fd_ok func217 tlOk (by kernel_rfl) (fc spec_l10Lock.ok (fn_nil _))
end spec_l10Apart
namespace spec_l10Count
abbrev Arg:Type:=(List Tx)×Unit
abbrev Out:Type:=Int×Unit
abbrev ps:PQ:=[(.ro,(.slc tTx))]
noncomputable def D:FD:={ fn:=f218,tl:=TL0,ps:=ps,rs:=[(i64,(roMd i64))],lv:=[(3,[0,3,4])],lx:=[(0,[3])] }
noncomputable def sem (a:Arg):Option Out:=@lift Out fun k=>D.W k a
noncomputable def T0 (a1:Arg) (v402:Int×Int):St:={ n:=20,sl:=[(0,.val (.slc tTx) a1.1),(3,.val i64 v402.1),(4,.val i64 v402.2)],vr:=[],lent:=[] }
noncomputable def b0 (self:(Int×Int)->Option Out) (e0:Int->Option Out) (a1:Arg) (v402:Int×Int):Option Out:=bif decide (v402.2 < (a1.1.length:Int)) then (if 0<=v402.2 then ((a1.1[v402.2.toNat]?).bind fun x603=>self (w64 (v402.1+(x603.2.1.length:Int)),w64 (v402.2+(1:Int)))) else none) else e0 v402.1
noncomputable abbrev B0 (_:Nat):=b0
noncomputable def q0 (a1:Arg) (z604:Int):Option Out:=some (z604,())
noncomputable abbrev Q0 (_:Nat):=q0
noncomputable def s0 (k:Nat) (a1:Arg):(Int×Int)->Option Out:=fun v402=>D.L k [1,1,0,1,0,0] [0,3,4] [] (blockC 0 (seqC (D.N k [1,1,1]) D.K0)) (T0 a1 v402)
noncomputable def r0 (k:Nat) (a1:Arg):(Int×Int)->Option Out:=rawIter (fun w v=>B0 k w (Q0 k a1) a1 v) k
theorem s0_eq (k:Nat) (a1:Arg):s0 k a1=r0 k a1:=
 funext fun v402=>iter_raw _ _ _ (T0 a1) _ (fun rec v=>by kernel_rfl) k v402
noncomputable def p (l0:(Int×Int)->Option Out) (a1:Arg):Option Out:=l0 ((0:Int),(0:Int))
theorem raw_eq (k:Nat) (a1:Arg):@Eq (Option Out) (D.W k a1) (p (r0 k a1) a1):=
 Eq.trans (b:=p (s0 k a1) a1) (by kernel_rfl) (by rw[s0_eq])
theorem ok:Ok prog 218 D.sig:=fd_ok func218 tlOk (by kernel_rfl) (fn_nil _)
end spec_l10Count
namespace spec_l10Fault
abbrev Arg:Type:=(List Tx)×Unit
abbrev Out:Type:=Int×Unit
abbrev ps:PQ:=[(.ro,(.slc tTx))]
noncomputable def D:FD:={ fn:=f142,tl:=TL0,ps:=ps,rs:=[(i64,(roMd i64))],gl:=[(118,spec_l1In.D.sig),(215,spec_l10Undo.D.sig),(216,spec_l10Marks.D.sig),(217,spec_l10Apart.D.sig),(218,spec_l10Count.D.sig)],lv:=[(4,[0,3])],lx:=[(0,[0])],od:=[(9,[0,1,2,3,4,5,6,7,8,9,10,11,12,13,14])] }
noncomputable def sem (a:Arg):Option Out:=@lift Out fun k=>D.W k a
noncomputable def T0 (a1:Arg) (v402:Int):St:={ n:=56,sl:=[(0,.val (.slc tTx) a1.1),(3,.val i64 v402)],vr:=[],lent:=[] }
noncomputable def b0 (self:Int->Option Out) (e0:(Unit)->Option Out) (a1:Arg) (v402:Int):Option Out:=bif decide (v402 < (a1.1.length:Int)) then (if 0<=v402 then ((a1.1[v402.toNat]?).bind fun x603=>(spec_l1In.sem (x603.1,(1:Int),(99:Int),())).bind fun r604=>bif !r604.1 then (some ((3:Int),())) else let j608:Option Out:=(spec_l10Undo.sem (x603,())).bind fun r609=>bif !decide (r609.1=(0:Int)) then (some (r609.1,())) else (spec_l10Marks.sem (x603,())).bind fun r610=>bif !decide (r610.1=(0:Int)) then (some (r610.1,())) else self (w64 (v402+(1:Int)));bif decide ((0:Int) < v402) then (if 0<=w64 (v402 - (1:Int)) then ((a1.1[(w64 (v402 - (1:Int))).toNat]?).bind fun x605=>bif decide (x603.1<=x605.1) then (some ((1:Int),())) else j608) else none) else j608) else none) else e0 ()
noncomputable abbrev B0 (_:Nat):=b0
noncomputable def q0 (a1:Arg) (z611:(Unit)):Option Out:=(spec_l10Apart.sem (a1.1,())).bind fun r612=>bif !r612.1 then (some ((7:Int),())) else (spec_l10Count.sem (a1.1,())).bind fun r613=>bif decide ((12:Int) < r613.1) then (some ((2:Int),())) else some ((0:Int),())
noncomputable abbrev Q0 (_:Nat):=q0
noncomputable def s0 (k:Nat) (a1:Arg):(Int)->Option Out:=fun v402=>D.L k [1,1,0,1,0,0] [0,3] [] (blockC 0 (seqC (D.N k [1,1,1]) D.K0)) (T0 a1 v402)
noncomputable def r0 (k:Nat) (a1:Arg):(Int)->Option Out:=rawIter (fun w v=>B0 k w (Q0 k a1) a1 v) k
theorem s0_eq (k:Nat) (a1:Arg):s0 k a1=r0 k a1:=
 funext fun v402=>iter_raw _ _ _ (T0 a1) _ (fun rec v=>by kernel_rfl) k v402
noncomputable def p (l0:(Int)->Option Out) (a1:Arg):Option Out:=bif decide ((4:Int) < (a1.1.length:Int)) then (some ((2:Int),())) else l0 (0:Int)
theorem raw_eq (k:Nat) (a1:Arg):@Eq (Option Out) (D.W k a1) (p (r0 k a1) a1):=
 Eq.trans (b:=p (s0 k a1) a1) (by kernel_rfl) (by rw[s0_eq])
theorem ok:Ok prog 142 D.sig:=fd_ok func142 tlOk (by kernel_rfl) (fc spec_l1In.ok (fc spec_l10Undo.ok (fc spec_l10Marks.ok (fc spec_l10Apart.ok (fc spec_l10Count.ok (fn_nil _))))))
end spec_l10Fault
namespace spec_l10Room
abbrev Arg:Type:=(List Row)×(List Tx)×Key×Unit
abbrev Out:Type:=Int×Unit
abbrev ps:PQ:=[(.ro,(.slc tRow)),(.ro,(.slc tTx)),(.ro,tKey)]
noncomputable def D:FD:={ fn:=f143,tl:=TL0,ps:=ps,rs:=[(i64,(roMd i64))],lv:=[(3,[0,1,5,7,8]),(7,[1,5,7,9]),(14,[7,10,11]),(18,[7,10,11,12,13])],lx:=[(0,[1,5,7]),(2,[5,7]),(4,[10]),(6,[7,10,11,12])],od:=[(5,[0,1,2,3,4,5,6,7,8,9,10,11,12,13,14]),(20,[0,1,2,3,4,5,6,7,8,9])] }
noncomputable def sem (a:Arg):Option Out:=@lift Out fun k=>D.W k a
noncomputable def T0 (a1:Arg) (v402:(List Key)×Int):St:={ n:=82,sl:=[(0,.val (.slc tRow) a1.1),(1,.val (.slc tTx) a1.2.1),(5,.box tKey (roMd tKey) [] a1.2.2.1),(7,.own (.slc tKey) (ownMd (.slc tKey)) [] v402.1),(8,.val i64 v402.2)],vr:=[],lent:=[] }
noncomputable def S0 (rec:RT Out) (a1:Arg):((List Key)×Int)->Option Out:=fun v402=>rec (T0 a1 v402)
noncomputable def X0_0 (K:KT Out) (a1:Arg):(List Key)->Option Out:=fun z=>K (.exit 0) ({ n:=82,sl:=[(1,.val (.slc tTx) a1.2.1),(5,.box tKey (roMd tKey) [] a1.2.2.1),(7,.own (.slc tKey) (ownMd (.slc tKey)) [] z)],vr:=[],lent:=[] })
noncomputable def b0 (self:((List Key)×Int)->Option Out) (e0:(List Key)->Option Out) (a1:Arg) (v402:(List Key)×Int):Option Out:=bif decide (v402.2 < (a1.1.length:Int)) then (if 0<=v402.2 then ((a1.1[v402.2.toNat]?).bind fun x603=>if 0<=v402.2 then ((a1.1[v402.2.toNat]?).bind fun x604=>if v402.1.length+[(x603.1,x604.2.1,())].length<=CAP then (self (v402.1++[(x603.1,x604.2.1,())],w64 (v402.2+(1:Int)))) else none) else none) else none) else e0 v402.1
noncomputable abbrev B0 (_:Nat):=b0
theorem B0_eq (k:Nat) (rec:RT Out) (K:KT Out) (a1:Arg) (v402:(List Key)×Int):D.N k [1,1,0,1,0,0] (T0 a1 v402) (loopC rec (keepF [0,1,5,7,8] []) K)=b0 (S0 rec a1) (X0_0 K a1) a1 v402:=by kernel_rfl
noncomputable def T1 (a1:Arg) (v1006:(List Key)×Int):St:={ n:=82,sl:=[(1,.val (.slc tTx) a1.2.1),(5,.box tKey (roMd tKey) [] a1.2.2.1),(7,.own (.slc tKey) (ownMd (.slc tKey)) [] v1006.1),(9,.val i64 v1006.2)],vr:=[],lent:=[] }
noncomputable def S1 (rec:RT Out) (a1:Arg):((List Key)×Int)->Option Out:=fun v1006=>rec (T1 a1 v1006)
noncomputable def X1_2 (K:KT Out) (a1:Arg):(List Key)->Option Out:=fun z=>K (.exit 2) ({ n:=82,sl:=[(5,.box tKey (roMd tKey) [] a1.2.2.1),(7,.own (.slc tKey) (ownMd (.slc tKey)) [] z)],vr:=[],lent:=[] })
noncomputable def b1 (self:((List Key)×Int)->Option Out) (e2:(List Key)->Option Out) (a1:Arg) (v1006:(List Key)×Int):Option Out:=bif decide (v1006.2 < (a1.2.1.length:Int)) then (if 0<=v1006.2 then ((a1.2.1[v1006.2.toNat]?).bind fun x1207=>if v1006.1.length+x1207.2.2.2.1.length<=CAP then (self (v1006.1++x1207.2.2.2.1,w64 (v1006.2+(1:Int)))) else none) else none) else e2 v1006.1
noncomputable abbrev B1 (_:Nat):=b1
theorem B1_eq (k:Nat) (rec:RT Out) (K:KT Out) (a1:Arg) (v1006:(List Key)×Int):D.N k [1,1,1,0,1,0,0] (T1 a1 v1006) (loopC rec (keepF [1,5,7,9] []) K)=b1 (S1 rec a1) (X1_2 K a1) a1 v1006:=by kernel_rfl
noncomputable def T2 (a1:Arg) (v2213:(List Key)×Int×Int):St:={ n:=82,sl:=[(7,.own (.slc tKey) (ownMd (.slc tKey)) [] v2213.1),(10,.val i64 v2213.2.1),(11,.val i64 v2213.2.2)],vr:=[],lent:=[] }
noncomputable def S2 (rec:RT Out) (a1:Arg):((List Key)×Int×Int)->Option Out:=fun v2213=>rec (T2 a1 v2213)
noncomputable def X2_4 (K:KT Out) (a1:Arg):Int->Option Out:=fun z=>K (.exit 4) ({ n:=82,sl:=[(10,.val i64 z)],vr:=[],lent:=[] })
noncomputable def T3 (a1:Arg) (c2815:List Key) (c2816:Int) (c2817:Int) (v2814:Bool×Int):St:={ n:=82,sl:=[(7,.own (.slc tKey) (ownMd (.slc tKey)) [] c2815),(10,.val i64 c2816),(11,.val i64 c2817),(12,.val .bool v2814.1),(13,.val i64 v2814.2)],vr:=[],lent:=[] }
noncomputable def b3 (self:(Bool×Int)->Option Out) (e6:Bool->Option Out) (a1:Arg) (c2815:List Key) (c2816:Int) (c2817:Int) (v2814:Bool×Int):Option Out:=bif decide (v2814.2 < c2817) then (bif v2814.1 then (if 0<=v2814.2/\v2814.2 < (c2815.length:Int) then ((c2815[v2814.2.toNat]?).bind fun x3018=>if 0<=c2817/\c2817 < (c2815.length:Int) then ((c2815[c2817.toNat]?).bind fun x3019=>self (!(Ty.eq tKey x3018 x3019),w64 (v2814.2+(1:Int)))) else none) else none) else e6 v2814.1) else e6 v2814.1
noncomputable abbrev B3 (_:Nat):=b3
noncomputable def q2 (self:((List Key)×Int×Int)->Option Out) (e4:Int->Option Out) (a1:Arg) (c2815:List Key) (c2816:Int) (c2817:Int) (z3020:Bool):Option Out:=bif z3020 then (self (c2815,w64 (c2816+(1:Int)),w64 (c2817+(1:Int)))) else self (c2815,c2816,w64 (c2817+(1:Int)))
noncomputable abbrev Q2 (_:Nat):=q2
noncomputable def s3 (k:Nat) (rec:RT Out) (K:KT Out) (a1:Arg):(List Key)->Int->Int->(Bool×Int)->Option Out:=fun c2815 c2816 c2817=>fun v2814=>D.L k [1,1,1,1,1,1,0,1,0,0,1,0,0,1,0,1,0,0] [7,10,11,12,13] [] (blockC 6 (seqC (D.N k [1,1,1,1,1,1,0,1,0,0,1,0,0,1,1]) (blockC 5 (seqC (D.N k [1,1,1,1,1,1,0,1,0,0,1,1]) (loopC rec (keepF [7,10,11] []) K))))) (T3 a1 c2815 c2816 c2817 v2814)
noncomputable def r3 (k:Nat) (self:((List Key)×Int×Int)->Option Out) (e4:Int->Option Out) (a1:Arg):(List Key)->Int->Int->(Bool×Int)->Option Out:=fun c2815 c2816 c2817=>rawIter (fun w v=>B3 k w (Q2 k self e4 a1 c2815 c2816 c2817) a1 c2815 c2816 c2817 v) k
theorem s3_eq (k:Nat) (rec:RT Out) (K:KT Out) (a1:Arg):s3 k rec K a1=r3 k (S2 rec a1) (X2_4 K a1) a1:=
 funext fun c2815=>funext fun c2816=>funext fun c2817=>funext fun v2814=>iter_raw _ _ _ (T3 a1 c2815 c2816 c2817) _ (fun rec v=>by kernel_rfl) k v2814
noncomputable def b2 (self:((List Key)×Int×Int)->Option Out) (e4:Int->Option Out) (l3:(List Key)->Int->Int->(Bool×Int)->Option Out) (a1:Arg) (v2213:(List Key)×Int×Int):Option Out:=bif decide (v2213.2.2 < (v2213.1.length:Int)) then (l3 v2213.1 v2213.2.1 v2213.2.2 (true,(0:Int))) else e4 v2213.2.1
noncomputable def B2 (k:Nat) (self:((List Key)×Int×Int)->Option Out) (e4:Int->Option Out) (a1:Arg) (v2213:(List Key)×Int×Int):Option Out:=b2 self e4 (r3 k self e4 a1) a1 v2213
theorem B2_eq (k:Nat) (rec:RT Out) (K:KT Out) (a1:Arg) (v2213:(List Key)×Int×Int):D.N k [1,1,1,1,1,1,0,1,0,0] (T2 a1 v2213) (loopC rec (keepF [7,10,11] []) K)=B2 k (S2 rec a1) (X2_4 K a1) a1 v2213:=
 Eq.trans (b:=b2 (S2 rec a1) (X2_4 K a1) (s3 k rec K a1) a1 v2213) (by kernel_rfl) (by rw[s3_eq];rfl)
noncomputable def q3 (a1:Arg) (z3021:Int):Option Out:=some (z3021,())
noncomputable abbrev Q3 (_:Nat):=q3
theorem Q3_eq (k:Nat) (a1:Arg) (z3021:Int):X2_4 (blockC 4 (seqC (D.N k [1,1,1,1,1,1,1]) D.K0)) a1 z3021=q3 a1 z3021:=by kernel_rfl
noncomputable def s2 (k:Nat) (a1:Arg):((List Key)×Int×Int)->Option Out:=fun v2213=>D.L k [1,1,1,1,1,1,0,1,0,0] [7,10,11] [] (blockC 4 (seqC (D.N k [1,1,1,1,1,1,1]) D.K0)) (T2 a1 v2213)
noncomputable def r2 (k:Nat) (a1:Arg):((List Key)×Int×Int)->Option Out:=rawIter (fun w v=>B2 k w (Q3 k a1) a1 v) k
theorem s2_eq (k:Nat) (a1:Arg):s2 k a1=r2 k a1:=by
 funext v2213;
 have h4:X2_4 (blockC 4 (seqC (D.N k [1,1,1,1,1,1,1]) D.K0)) a1=Q3 k a1:=funext fun z=>Q3_eq k a1 z
 refine (iter_raw _ _ _ (T2 a1) (fun self v=>B2 k self (X2_4 (blockC 4 (seqC (D.N k [1,1,1,1,1,1,1]) D.K0)) a1) a1 v) (fun rec v=>B2_eq k rec (blockC 4 (seqC (D.N k [1,1,1,1,1,1,1]) D.K0)) a1 v) k v2213).trans ?_
 rw[h4]
 rfl
noncomputable def q1 (l2:((List Key)×Int×Int)->Option Out) (a1:Arg) (z1208:(List Key)):Option Out:=let j1812:=fun (p1811:List Key)=>(l2 (p1811,(0:Int),(0:Int)):Option Out);bif !decide (a1.2.2.1.2.1=(0:Int)) then (if z1208.length+[a1.2.2.1].length<=CAP then (j1812 (z1208++[a1.2.2.1])) else none) else j1812 z1208
noncomputable def Q1 (k:Nat) (a1:Arg) (z1208:(List Key)):Option Out:=q1 (r2 k a1) a1 z1208
theorem Q1_eq (k:Nat) (a1:Arg) (z1208:(List Key)):X1_2 (blockC 2 (seqC (D.N k [1,1,1,1]) D.K0)) a1 z1208=Q1 k a1 z1208:=
 Eq.trans (b:=q1 (s2 k a1) a1 z1208) (by kernel_rfl) (by rw[s2_eq];rfl)
noncomputable def s1 (k:Nat) (a1:Arg):((List Key)×Int)->Option Out:=fun v1006=>D.L k [1,1,1,0,1,0,0] [1,5,7,9] [] (blockC 2 (seqC (D.N k [1,1,1,1]) D.K0)) (T1 a1 v1006)
noncomputable def r1 (k:Nat) (a1:Arg):((List Key)×Int)->Option Out:=rawIter (fun w v=>B1 k w (Q1 k a1) a1 v) k
theorem s1_eq (k:Nat) (a1:Arg):s1 k a1=r1 k a1:=by
 funext v1006;
 have h2:X1_2 (blockC 2 (seqC (D.N k [1,1,1,1]) D.K0)) a1=Q1 k a1:=funext fun z=>Q1_eq k a1 z
 refine (iter_raw _ _ _ (T1 a1) (fun self v=>B1 k self (X1_2 (blockC 2 (seqC (D.N k [1,1,1,1]) D.K0)) a1) a1 v) (fun rec v=>B1_eq k rec (blockC 2 (seqC (D.N k [1,1,1,1]) D.K0)) a1 v) k v1006).trans ?_
 rw[h2]
 rfl
noncomputable def q0 (l1:((List Key)×Int)->Option Out) (a1:Arg) (z605:(List Key)):Option Out:=l1 (z605,(0:Int))
noncomputable def Q0 (k:Nat) (a1:Arg) (z605:(List Key)):Option Out:=q0 (r1 k a1) a1 z605
theorem Q0_eq (k:Nat) (a1:Arg) (z605:(List Key)):X0_0 (blockC 0 (seqC (D.N k [1,1,1]) D.K0)) a1 z605=Q0 k a1 z605:=
 Eq.trans (b:=q0 (s1 k a1) a1 z605) (by kernel_rfl) (by rw[s1_eq];rfl)
noncomputable def s0 (k:Nat) (a1:Arg):((List Key)×Int)->Option Out:=fun v402=>D.L k [1,1,0,1,0,0] [0,1,5,7,8] [] (blockC 0 (seqC (D.N k [1,1,1]) D.K0)) (T0 a1 v402)
noncomputable def r0 (k:Nat) (a1:Arg):((List Key)×Int)->Option Out:=rawIter (fun w v=>B0 k w (Q0 k a1) a1 v) k
theorem s0_eq (k:Nat) (a1:Arg):s0 k a1=r0 k a1:=by
 funext v402;
 have h0:X0_0 (blockC 0 (seqC (D.N k [1,1,1]) D.K0)) a1=Q0 k a1:=funext fun z=>Q0_eq k a1 z
 refine (iter_raw _ _ _ (T0 a1) (fun self v=>B0 k self (X0_0 (blockC 0 (seqC (D.N k [1,1,1]) D.K0)) a1) a1 v) (fun rec v=>B0_eq k rec (blockC 0 (seqC (D.N k [1,1,1]) D.K0)) a1 v) k v402).trans ?_
 rw[h0]
 rfl
noncomputable def p (l0:((List Key)×Int)->Option Out) (a1:Arg):Option Out:=l0 (([]:List Key),(0:Int))
theorem raw_eq (k:Nat) (a1:Arg):@Eq (Option Out) (D.W k a1) (p (r0 k a1) a1):=
 Eq.trans (b:=p (s0 k a1) a1) (by kernel_rfl) (by rw[s0_eq])
theorem ok:Ok prog 143 D.sig:=fd_ok func143 tlOk (by kernel_rfl) (fn_nil _)
end spec_l10Room
namespace spec_l11Fault
abbrev Arg:Type:=Plain×Unit
abbrev Out:Type:=Int×Unit
abbrev ps:PQ:=[(.ro,(.ptr tPlain))]
noncomputable def D:FD:={ fn:=f72,tl:=TL0,ps:=ps,rs:=[(i64,(roMd i64))],gl:=[(112,spec_l11Back.D.sig),(118,spec_l1In.D.sig),(141,spec_l6Rows.D.sig),(142,spec_l10Fault.D.sig),(143,spec_l10Room.D.sig)],od:=[(8,[0,1,2,3,4,5,6,7,8,9,10,11,12,13,14,15,16,17,18,19,20,21,22,23,24,25]),(10,[0,1,2,3,4,5,6,7,8,9,10]),(12,[0,1,2,3,4,5,6,7,8,9,10,11,12,13])],ar:=[(8,[3,13,18,22])] }
noncomputable def sem (a:Arg):Option Out:=@lift Out fun k=>D.W k a
noncomputable def p (a1:Arg):Option Out:=(spec_l6Rows.sem (a1.1.1,())).bind fun r2=>bif !decide (r2.1=(0:Int)) then (some (r2.1,())) else (spec_l10Fault.sem (a1.1.2.1,())).bind fun r3=>bif !decide (r3.1=(0:Int)) then (some (r3.1,())) else let j8:Option Out:=(spec_l10Room.sem (a1.1.1,a1.1.2.1,((0:Int),(0:Int),()),())).bind fun r9=>bif decide ((12:Int) < r9.1) then (some ((2:Int),())) else (spec_l11Back.sem (a1.1.1,a1.1.2.1,())).bind fun r10=>bif !r10.2.1 then (some ((8:Int),())) else some ((0:Int),());(spec_l1In.sem (a1.1.2.2.1,(1:Int),(100:Int),())).bind fun r4=>bif !r4.1 then (some ((3:Int),())) else bif decide ((0:Int) < (a1.1.2.1.length:Int)) then (if 0<=w64 ((a1.1.2.1.length:Int) - (1:Int)) then ((a1.1.2.1[(w64 ((a1.1.2.1.length:Int) - (1:Int))).toNat]?).bind fun x5=>bif decide (a1.1.2.2.1<=x5.1) then (some ((3:Int),())) else j8) else none) else j8
theorem raw_eq (k:Nat) (a1:Arg):@Eq (Option Out) (D.W k a1) (p a1):=by kernel_rfl
theorem ok:Ok prog 72 D.sig:=fd_ok func72 tlOk (by kernel_rfl) (fc spec_l11Back.ok (fc spec_l1In.ok (fc spec_l6Rows.ok (fc spec_l10Fault.ok (fc spec_l10Room.ok (fn_nil _))))))
end spec_l11Fault
namespace spec_l2Count
abbrev Arg:Type:=(List UInt8)×Unit
abbrev Out:Type:=Int×Unit
abbrev ps:PQ:=[(.ro,(.slc u8))]
noncomputable def D:FD:={ fn:=f255,tl:=TL0,ps:=ps,rs:=[(i64,(roMd i64))] }
noncomputable def sem (a:Arg):Option Out:=@lift Out fun k=>D.W k a
noncomputable def p (a1:Arg):Option Out:=(a1.1[0]?).bind fun x2=>some (w64 (x2.toNat:Int),())
theorem raw_eq (k:Nat) (a1:Arg):@Eq (Option Out) (D.W k a1) (p a1):=by kernel_rfl
theorem ok:Ok prog 255 D.sig:=fd_ok func255 tlOk (by kernel_rfl) (fn_nil _)
end spec_l2Count
namespace spec_l2Size
abbrev Arg:Type:=(List UInt8)×Int×Unit
abbrev Out:Type:=Int×Unit
abbrev ps:PQ:=[(.ro,(.slc u8)),(.ro,i64)]
noncomputable def D:FD:={ fn:=f256,tl:=TL0,ps:=ps,rs:=[(i64,(roMd i64))] }
noncomputable def sem (a:Arg):Option Out:=@lift Out fun k=>D.W k a
noncomputable def p (a1:Arg):Option Out:=if 0<=w64 ((3:Int)+(w64 ((2:Int)*a1.2.1))) then ((a1.1[(w64 ((3:Int)+(w64 ((2:Int)*a1.2.1)))).toNat]?).bind fun x2=>some (w64 (x2.toNat:Int),())) else none
theorem raw_eq (k:Nat) (a1:Arg):@Eq (Option Out) (D.W k a1) (p a1):=by kernel_rfl
theorem ok:Ok prog 256 D.sig:=fd_ok func256 tlOk (by kernel_rfl) (fn_nil _)
end spec_l2Size
namespace spec_l1Place
abbrev Arg:Type:=Int×Int×Unit
abbrev Out:Type:=Bool×Unit
abbrev ps:PQ:=[(.ro,i64),(.ro,i64)]
noncomputable def D:FD:={ fn:=f298,tl:=TL0,ps:=ps,rs:=[(.bool,(roMd .bool))],gl:=[(118,spec_l1In.D.sig)] }
noncomputable def sem (a:Arg):Option Out:=@lift Out fun k=>D.W k a
noncomputable def p (a1:Arg):Option Out:=(spec_l1In.sem (a1.1,(0:Int),(11:Int),())).bind fun r2=>bif r2.1 then ((spec_l1In.sem (a1.2.1,(0:Int),(15:Int),())).bind fun r3=>some (r3.1,())) else some (false,())
theorem raw_eq (k:Nat) (a1:Arg):@Eq (Option Out) (D.W k a1) (p a1):=by kernel_rfl
theorem ok:Ok prog 298 D.sig:=fd_ok func298 tlOk (by kernel_rfl) (fc spec_l1In.ok (fn_nil _))
end spec_l1Place
namespace spec_l1Read
abbrev Arg:Type:=(List UInt8)×Unit
abbrev Out:Type:=CellResult×Bool×Unit
abbrev ps:PQ:=[(.ro,(.slc u8))]
noncomputable def D:FD:={ fn:=f257,tl:=TL0,ps:=ps,rs:=[(tCellResult,(roMd tCellResult)),(.bool,(roMd .bool))],gl:=[(213,spec_l1Fault.D.sig),(298,spec_l1Place.D.sig)],od:=[(2,[0,1,2,3,4,5,6,7,8,9,10]),(3,[0,1,2,3,4,5,6,7]),(6,[0,1,2,3,4,5,6,7,8,9,10,11,12,13,14,15,16,17,18,19,20,21,22,23]),(7,[0,1,2,3,4,5,6,7,8,9])] }
noncomputable def sem (a:Arg):Option Out:=@lift Out fun k=>D.W k a
noncomputable def p (a1:Arg):Option Out:=let j16:Option Out:=bif decide ((a1.1.length:Int) < (6:Int)) then (some (((0:Int),(0:Int),(0:Int),(0:Int),((0:Int),(0:Int),(0:Int),([]:List UInt8),()),()),false,())) else (a1.1[0]?).bind fun x17=>bif decide ((x17.toNat:Int)=(1:Int)) then (some (((0:Int),(0:Int),(0:Int),(0:Int),((0:Int),(0:Int),(0:Int),([]:List UInt8),()),()),false,())) else (a1.1[0]?).bind fun x18=>bif decide ((2:Int) < (x18.toNat:Int)) then (some (((0:Int),(0:Int),(0:Int),(0:Int),((0:Int),(0:Int),(0:Int),([]:List UInt8),()),()),false,())) else (a1.1[5]?).bind fun x19=>bif !decide ((a1.1.length:Int)=w64 ((6:Int)+(w64 (x19.toNat:Int)))) then (some (((0:Int),(0:Int),(0:Int),(0:Int),((0:Int),(0:Int),(0:Int),([]:List UInt8),()),()),false,())) else (a1.1[1]?).bind fun x20=>(a1.1[2]?).bind fun x21=>(a1.1[3]?).bind fun x22=>(a1.1[4]?).bind fun x23=>if 0<=(6:Int)/\(6:Int)<=(a1.1.length:Int) then (let y24:=w64 ((w64 ((w64 (x22.toNat:Int))*(256:Int)))+(w64 (x23.toNat:Int)));(a1.1[0]?).bind fun x25=>(spec_l1Fault.sem ((w64 (x20.toNat:Int),w64 (x21.toNat:Int),y24,(a1.1.take a1.1.length).drop 6,()),())).bind fun r26=>some (((0:Int),w64 (x25.toNat:Int),(0:Int),(0:Int),(w64 (x20.toNat:Int),w64 (x21.toNat:Int),y24,(a1.1.take a1.1.length).drop 6,()),()),decide (r26.1=(0:Int)),())) else none;bif decide ((a1.1.length:Int)=(3:Int)) then ((a1.1[0]?).bind fun x2=>bif decide ((x2.toNat:Int)=(1:Int)) then ((a1.1[1]?).bind fun x3=>(a1.1[2]?).bind fun x4=>(spec_l1Place.sem (w64 (x3.toNat:Int),w64 (x4.toNat:Int),())).bind fun r5=>some (((0:Int),(1:Int),w64 (x3.toNat:Int),w64 (x4.toNat:Int),((0:Int),(0:Int),(0:Int),([]:List UInt8),()),()),r5.1,())) else j16) else j16
theorem raw_eq (k:Nat) (a1:Arg):@Eq (Option Out) (D.W k a1) (p a1):=by kernel_rfl
theorem ok:Ok prog 257 D.sig:=fd_ok func257 tlOk (by kernel_rfl) (fc spec_l1Fault.ok (fc spec_l1Place.ok (fn_nil _)))
end spec_l1Read
namespace spec_l2Place
abbrev Arg:Type:=(List UInt8)×Int×Unit
abbrev Out:Type:=Int×Unit
abbrev ps:PQ:=[(.ro,(.slc u8)),(.ro,i64)]
noncomputable def D:FD:={ fn:=f299,tl:=TL0,ps:=ps,rs:=[(i64,(roMd i64))] }
noncomputable def sem (a:Arg):Option Out:=@lift Out fun k=>D.W k a
noncomputable def p (a1:Arg):Option Out:=if 0<=w64 ((2:Int)+(w64 ((2:Int)*a1.2.1))) then ((a1.1[(w64 ((2:Int)+(w64 ((2:Int)*a1.2.1)))).toNat]?).bind fun x2=>some (w64 (x2.toNat:Int),())) else none
theorem raw_eq (k:Nat) (a1:Arg):@Eq (Option Out) (D.W k a1) (p a1):=by kernel_rfl
theorem ok:Ok prog 299 D.sig:=fd_ok func299 tlOk (by kernel_rfl) (fn_nil _)
end spec_l2Place
namespace spec_l2Cell
abbrev Arg:Type:=(List UInt8)×Int×Unit
abbrev Out:Type:=(List UInt8)×Unit
abbrev ps:PQ:=[(.ro,(.slc u8)),(.ro,i64)]
noncomputable def D:FD:={ fn:=f258,tl:=TL0,ps:=ps,rs:=[((.slc u8),(ownMd (.slc u8)))],gl:=[(256,spec_l2Size.D.sig),(299,spec_l2Place.D.sig)] }
noncomputable def sem (a:Arg):Option Out:=@lift Out fun k=>D.W k a
noncomputable def p (a1:Arg):Option Out:=(spec_l2Place.sem (a1.1,a1.2.1,())).bind fun r2=>(spec_l2Size.sem (a1.1,a1.2.1,())).bind fun r3=>if 0<=r2.1/\r2.1<=w64 (r2.1+r3.1)/\w64 (r2.1+r3.1)<=(a1.1.length:Int) then (if ([]:List UInt8).length+((a1.1.take (w64 (r2.1+r3.1)).toNat).drop r2.1.toNat).length<=CAP then (let y4:=([]:List UInt8)++((a1.1.take (w64 (r2.1+r3.1)).toNat).drop r2.1.toNat);some (y4,())) else none) else none
theorem raw_eq (k:Nat) (a1:Arg):@Eq (Option Out) (D.W k a1) (p a1):=by kernel_rfl
theorem ok:Ok prog 258 D.sig:=fd_ok func258 tlOk (by kernel_rfl) (fc spec_l2Size.ok (fc spec_l2Place.ok (fn_nil _)))
end spec_l2Cell
namespace spec_l6Spots
abbrev Arg:Type:=(List (List UInt8))×Unit
abbrev Out:Type:=(List L6Spot)×Unit
abbrev ps:PQ:=[(.ro,(.slc (.slc u8)))]
noncomputable def D:FD:={ fn:=f192,tl:=TL0,ps:=ps,rs:=[((.slc tL6Spot),(ownMd (.slc tL6Spot)))],gl:=[(255,spec_l2Count.D.sig),(256,spec_l2Size.D.sig),(257,spec_l1Read.D.sig),(258,spec_l2Cell.D.sig)],lv:=[(3,[0,3,4]),(6,[0,3,4,5])],lx:=[(0,[3]),(2,[0,3,4])] }
noncomputable def sem (a:Arg):Option Out:=@lift Out fun k=>D.W k a
noncomputable def T0 (a1:Arg) (v402:(List (List UInt8))×(List L6Spot)×Int):St:={ n:=49,sl:=[(0,.val (.slc (.slc u8)) v402.1),(3,.own (.slc tL6Spot) (ownMd (.slc tL6Spot)) [] v402.2.1),(4,.val i64 v402.2.2)],vr:=[],lent:=[] }
noncomputable def S0 (rec:RT Out) (a1:Arg):((List (List UInt8))×(List L6Spot)×Int)->Option Out:=fun v402=>rec (T0 a1 v402)
noncomputable def X0_0 (K:KT Out) (a1:Arg):(List L6Spot)->Option Out:=fun z=>K (.exit 0) ({ n:=49,sl:=[(3,.own (.slc tL6Spot) (ownMd (.slc tL6Spot)) [] z)],vr:=[],lent:=[] })
noncomputable def T1 (a1:Arg) (c1004:List (List UInt8)) (c1005:Int) (v1003:(List L6Spot)×Int):St:={ n:=49,sl:=[(0,.val (.slc (.slc u8)) c1004),(3,.own (.slc tL6Spot) (ownMd (.slc tL6Spot)) [] v1003.1),(4,.val i64 c1005),(5,.val i64 v1003.2)],vr:=[],lent:=[] }
noncomputable def b1 (self:((List L6Spot)×Int)->Option Out) (e2:(List L6Spot)->Option Out) (a1:Arg) (c1004:List (List UInt8)) (c1005:Int) (v1003:(List L6Spot)×Int):Option Out:=if 0<=c1005 then ((c1004[c1005.toNat]?).bind fun x1206=>(spec_l2Count.sem (x1206,())).bind fun r1207=>bif decide (v1003.2 < r1207.1) then (if 0<=c1005 then ((c1004[c1005.toNat]?).bind fun x1208=>(spec_l2Size.sem (x1208,v1003.2,())).bind fun r1209=>bif decide ((0:Int) < r1209.1) then (if 0<=c1005 then ((c1004[c1005.toNat]?).bind fun x1210=>(spec_l2Cell.sem (x1210,v1003.2,())).bind fun r1211=>(spec_l1Read.sem (r1211.1,())).bind fun r1212=>if v1003.1.length+[(c1005,v1003.2,r1212.1,())].length<=CAP then (let y1213:=v1003.1++[(c1005,v1003.2,r1212.1,())];self (y1213,w64 (v1003.2+(1:Int)))) else none) else none) else self (v1003.1,w64 (v1003.2+(1:Int)))) else none) else e2 v1003.1) else none
noncomputable abbrev B1 (_:Nat):=b1
noncomputable def q0 (self:((List (List UInt8))×(List L6Spot)×Int)->Option Out) (e0:(List L6Spot)->Option Out) (a1:Arg) (c1004:List (List UInt8)) (c1005:Int) (z1214:(List L6Spot)):Option Out:=self (c1004,z1214,w64 (c1005+(1:Int)))
noncomputable abbrev Q0 (_:Nat):=q0
noncomputable def s1 (k:Nat) (rec:RT Out) (K:KT Out) (a1:Arg):(List (List UInt8))->Int->((List L6Spot)×Int)->Option Out:=fun c1004 c1005=>fun v1003=>D.L k [1,1,0,1,0,0,1,0,0,1,0,0] [0,3,4,5] [] (blockC 2 (blockC 1 (seqC (D.N k [1,1,0,1,0,0,1,1]) (loopC rec (keepF [0,3,4] []) K)))) (T1 a1 c1004 c1005 v1003)
noncomputable def r1 (k:Nat) (self:((List (List UInt8))×(List L6Spot)×Int)->Option Out) (e0:(List L6Spot)->Option Out) (a1:Arg):(List (List UInt8))->Int->((List L6Spot)×Int)->Option Out:=fun c1004 c1005=>rawIter (fun w v=>B1 k w (Q0 k self e0 a1 c1004 c1005) a1 c1004 c1005 v) k
theorem s1_eq (k:Nat) (rec:RT Out) (K:KT Out) (a1:Arg):s1 k rec K a1=r1 k (S0 rec a1) (X0_0 K a1) a1:=
 funext fun c1004=>funext fun c1005=>funext fun v1003=>iter_raw _ _ _ (T1 a1 c1004 c1005) _ (fun rec v=>by kernel_rfl) k v1003
noncomputable def b0 (self:((List (List UInt8))×(List L6Spot)×Int)->Option Out) (e0:(List L6Spot)->Option Out) (l1:(List (List UInt8))->Int->((List L6Spot)×Int)->Option Out) (a1:Arg) (v402:(List (List UInt8))×(List L6Spot)×Int):Option Out:=bif decide (v402.2.2 < (v402.1.length:Int)) then (l1 v402.1 v402.2.2 (v402.2.1,(0:Int))) else e0 v402.2.1
noncomputable def B0 (k:Nat) (self:((List (List UInt8))×(List L6Spot)×Int)->Option Out) (e0:(List L6Spot)->Option Out) (a1:Arg) (v402:(List (List UInt8))×(List L6Spot)×Int):Option Out:=b0 self e0 (r1 k self e0 a1) a1 v402
theorem B0_eq (k:Nat) (rec:RT Out) (K:KT Out) (a1:Arg) (v402:(List (List UInt8))×(List L6Spot)×Int):D.N k [1,1,0,1,0,0] (T0 a1 v402) (loopC rec (keepF [0,3,4] []) K)=B0 k (S0 rec a1) (X0_0 K a1) a1 v402:=
 Eq.trans (b:=b0 (S0 rec a1) (X0_0 K a1) (s1 k rec K a1) a1 v402) (by kernel_rfl) (by rw[s1_eq];rfl)
noncomputable def q1 (a1:Arg) (z1215:(List L6Spot)):Option Out:=some (z1215,())
noncomputable abbrev Q1 (_:Nat):=q1
theorem Q1_eq (k:Nat) (a1:Arg) (z1215:(List L6Spot)):X0_0 (blockC 0 (seqC (D.N k [1,1,1]) D.K0)) a1 z1215=q1 a1 z1215:=by kernel_rfl
noncomputable def s0 (k:Nat) (a1:Arg):((List (List UInt8))×(List L6Spot)×Int)->Option Out:=fun v402=>D.L k [1,1,0,1,0,0] [0,3,4] [] (blockC 0 (seqC (D.N k [1,1,1]) D.K0)) (T0 a1 v402)
noncomputable def r0 (k:Nat) (a1:Arg):((List (List UInt8))×(List L6Spot)×Int)->Option Out:=rawIter (fun w v=>B0 k w (Q1 k a1) a1 v) k
theorem s0_eq (k:Nat) (a1:Arg):s0 k a1=r0 k a1:=by
 funext v402;
 have h0:X0_0 (blockC 0 (seqC (D.N k [1,1,1]) D.K0)) a1=Q1 k a1:=funext fun z=>Q1_eq k a1 z
 refine (iter_raw _ _ _ (T0 a1) (fun self v=>B0 k self (X0_0 (blockC 0 (seqC (D.N k [1,1,1]) D.K0)) a1) a1 v) (fun rec v=>B0_eq k rec (blockC 0 (seqC (D.N k [1,1,1]) D.K0)) a1 v) k v402).trans ?_
 rw[h0]
 rfl
noncomputable def p (l0:((List (List UInt8))×(List L6Spot)×Int)->Option Out) (a1:Arg):Option Out:=l0 (a1.1,([]:List L6Spot),(0:Int))
theorem raw_eq (k:Nat) (a1:Arg):@Eq (Option Out) (D.W k a1) (p (r0 k a1) a1):=
 Eq.trans (b:=p (s0 k a1) a1) (by kernel_rfl) (by rw[s0_eq])
theorem ok:Ok prog 192 D.sig:=fd_ok func192 tlOk (by kernel_rfl) (fc spec_l2Count.ok (fc spec_l2Size.ok (fc spec_l1Read.ok (fc spec_l2Cell.ok (fn_nil _)))))
end spec_l6Spots
namespace spec_l2Has
abbrev Arg:Type:=(List UInt8)×Int×Unit
abbrev Out:Type:=Bool×Unit
abbrev ps:PQ:=[(.ro,(.slc u8)),(.ro,i64)]
noncomputable def D:FD:={ fn:=f278,tl:=TL0,ps:=ps,rs:=[(.bool,(roMd .bool))],gl:=[(118,spec_l1In.D.sig),(255,spec_l2Count.D.sig),(256,spec_l2Size.D.sig)] }
noncomputable def sem (a:Arg):Option Out:=@lift Out fun k=>D.W k a
noncomputable def p (a1:Arg):Option Out:=(spec_l2Count.sem (a1.1,())).bind fun r2=>(spec_l1In.sem (a1.2.1,(0:Int),w64 (r2.1 - (1:Int)),())).bind fun r3=>bif r3.1 then ((spec_l2Size.sem (a1.1,a1.2.1,())).bind fun r4=>some (decide ((0:Int) < r4.1),())) else some (false,())
theorem raw_eq (k:Nat) (a1:Arg):@Eq (Option Out) (D.W k a1) (p a1):=by kernel_rfl
theorem ok:Ok prog 278 D.sig:=fd_ok func278 tlOk (by kernel_rfl) (fc spec_l1In.ok (fc spec_l2Count.ok (fc spec_l2Size.ok (fn_nil _))))
end spec_l2Has
namespace spec_l6Cell
abbrev Arg:Type:=(List (List UInt8))×Int×Int×Unit
abbrev Out:Type:=CellResult×Bool×Unit
abbrev ps:PQ:=[(.ro,(.slc (.slc u8))),(.ro,i64),(.ro,i64)]
noncomputable def D:FD:={ fn:=f219,tl:=TL0,ps:=ps,rs:=[(tCellResult,(roMd tCellResult)),(.bool,(roMd .bool))],gl:=[(118,spec_l1In.D.sig),(257,spec_l1Read.D.sig),(258,spec_l2Cell.D.sig),(278,spec_l2Has.D.sig)] }
noncomputable def sem (a:Arg):Option Out:=@lift Out fun k=>D.W k a
noncomputable def p (a1:Arg):Option Out:=(spec_l1In.sem (a1.2.1,(0:Int),w64 ((a1.1.length:Int) - (1:Int)),())).bind fun r2=>bif !r2.1 then (some (((0:Int),(0:Int),(0:Int),(0:Int),((0:Int),(0:Int),(0:Int),([]:List UInt8),()),()),false,())) else if 0<=a1.2.1 then ((a1.1[a1.2.1.toNat]?).bind fun x3=>(spec_l2Has.sem (x3,a1.2.2.1,())).bind fun r4=>bif !r4.1 then (some (((0:Int),(0:Int),(0:Int),(0:Int),((0:Int),(0:Int),(0:Int),([]:List UInt8),()),()),false,())) else if 0<=a1.2.1 then ((a1.1[a1.2.1.toNat]?).bind fun x5=>(spec_l2Cell.sem (x5,a1.2.2.1,())).bind fun r6=>(spec_l1Read.sem (r6.1,())).bind fun r7=>some (r7.1,r7.2.1,())) else none) else none
theorem raw_eq (k:Nat) (a1:Arg):@Eq (Option Out) (D.W k a1) (p a1):=by kernel_rfl
theorem ok:Ok prog 219 D.sig:=fd_ok func219 tlOk (by kernel_rfl) (fc spec_l1In.ok (fc spec_l1Read.ok (fc spec_l2Cell.ok (fc spec_l2Has.ok (fn_nil _)))))
end spec_l6Cell
namespace spec_l6Seen
abbrev Arg:Type:=(List (List UInt8))×Unit
abbrev Out:Type:=(List L6Spot)×Unit
abbrev ps:PQ:=[(.ro,(.slc (.slc u8)))]
noncomputable def D:FD:={ fn:=f145,tl:=TL0,ps:=ps,rs:=[((.slc tL6Spot),(ownMd (.slc tL6Spot)))],gl:=[(192,spec_l6Spots.D.sig),(219,spec_l6Cell.D.sig)],lv:=[(4,[0,3,4,5])],lx:=[(0,[3]),(1,[0,3,4,5])] }
noncomputable def sem (a:Arg):Option Out:=@lift Out fun k=>D.W k a
noncomputable def T0 (a1:Arg) (c404:List L6Spot) (v403:(List L6Spot)×Int):St:={ n:=50,sl:=[(0,.val (.slc (.slc u8)) a1.1),(3,.own (.slc tL6Spot) (ownMd (.slc tL6Spot)) [] v403.1),(4,.own (.slc tL6Spot) (ownMd (.slc tL6Spot)) [] c404),(5,.val i64 v403.2)],vr:=[],lent:=[] }
noncomputable def b0 (self:((List L6Spot)×Int)->Option Out) (e0:(List L6Spot)->Option Out) (a1:Arg) (c404:List L6Spot) (v403:(List L6Spot)×Int):Option Out:=bif decide (v403.2 < (c404.length:Int)) then (if 0<=v403.2/\v403.2 < (c404.length:Int) then ((c404[v403.2.toNat]?).bind fun x605=>bif decide (x605.2.2.1.2.1=(2:Int)) then (self (v403.1,w64 (v403.2+(1:Int)))) else let j609:=fun (p608:L6Spot)=>(if v403.1.length+[p608].length<=CAP then (self (v403.1++[p608],w64 (v403.2+(1:Int)))) else none:Option Out);bif decide (x605.2.2.1.2.1=(1:Int)) then ((spec_l6Cell.sem (a1.1,x605.2.2.1.2.2.1,x605.2.2.1.2.2.2.1,())).bind fun r606=>j609 (x605.1,x605.2.1,(x605.2.2.1.1,x605.2.2.1.2.1,x605.2.2.1.2.2.1,x605.2.2.1.2.2.2.1,r606.1.2.2.2.2.1,x605.2.2.1.2.2.2.2.2),x605.2.2.2)) else j609 x605) else none) else e0 v403.1
noncomputable abbrev B0 (_:Nat):=b0
noncomputable def q0 (a1:Arg) (c404:List L6Spot) (z610:(List L6Spot)):Option Out:=some (z610,())
noncomputable abbrev Q0 (_:Nat):=q0
noncomputable def s0 (k:Nat) (a1:Arg):(List L6Spot)->((List L6Spot)×Int)->Option Out:=fun c404=>fun v403=>D.L k [1,1,1,0,1,0,0] [0,3,4,5] [] (blockC 0 (seqC (D.N k [1,1,1,1]) D.K0)) (T0 a1 c404 v403)
noncomputable def r0 (k:Nat) (a1:Arg):(List L6Spot)->((List L6Spot)×Int)->Option Out:=fun c404=>rawIter (fun w v=>B0 k w (Q0 k a1 c404) a1 c404 v) k
theorem s0_eq (k:Nat) (a1:Arg):s0 k a1=r0 k a1:=
 funext fun c404=>funext fun v403=>iter_raw _ _ _ (T0 a1 c404) _ (fun rec v=>by kernel_rfl) k v403
noncomputable def p (l0:(List L6Spot)->((List L6Spot)×Int)->Option Out) (a1:Arg):Option Out:=(spec_l6Spots.sem (a1.1,())).bind fun r2=>l0 r2.1 (([]:List L6Spot),(0:Int))
theorem raw_eq (k:Nat) (a1:Arg):@Eq (Option Out) (D.W k a1) (p (r0 k a1) a1):=
 Eq.trans (b:=p (s0 k a1) a1) (by kernel_rfl) (by rw[s0_eq])
theorem ok:Ok prog 145 D.sig:=fd_ok func145 tlOk (by kernel_rfl) (fc spec_l6Spots.ok (fc spec_l6Cell.ok (fn_nil _)))
end spec_l6Seen
namespace spec_l6RowsIn
abbrev Arg:Type:=(List (List UInt8))×Unit
abbrev Out:Type:=(List Row)×Unit
abbrev ps:PQ:=[(.ro,(.slc (.slc u8)))]
noncomputable def D:FD:={ fn:=f75,tl:=TL0,ps:=ps,rs:=[((.slc tRow),(ownMd (.slc tRow)))],gl:=[(145,spec_l6Seen.D.sig),(146,spec_l6Put.D.sig)],lv:=[(4,[3,4,5])],lx:=[(0,[3])] }
noncomputable def sem (a:Arg):Option Out:=@lift Out fun k=>D.W k a
noncomputable def T0 (a1:Arg) (c404:List L6Spot) (v403:(List Row)×Int):St:={ n:=24,sl:=[(3,.own (.slc tRow) (ownMd (.slc tRow)) [] v403.1),(4,.own (.slc tL6Spot) (ownMd (.slc tL6Spot)) [] c404),(5,.val i64 v403.2)],vr:=[],lent:=[] }
noncomputable def b0 (self:((List Row)×Int)->Option Out) (e0:(List Row)->Option Out) (a1:Arg) (c404:List L6Spot) (v403:(List Row)×Int):Option Out:=bif decide (v403.2 < (c404.length:Int)) then (if 0<=v403.2/\v403.2 < (c404.length:Int) then ((c404[v403.2.toNat]?).bind fun x605=>(spec_l6Put.sem (v403.1,x605.2.2.1.2.2.2.2.1,())).bind fun r606=>self (r606.1,w64 (v403.2+(1:Int)))) else none) else e0 v403.1
noncomputable abbrev B0 (_:Nat):=b0
noncomputable def q0 (a1:Arg) (c404:List L6Spot) (z607:(List Row)):Option Out:=some (z607,())
noncomputable abbrev Q0 (_:Nat):=q0
noncomputable def s0 (k:Nat) (a1:Arg):(List L6Spot)->((List Row)×Int)->Option Out:=fun c404=>fun v403=>D.L k [1,1,1,0,1,0,0] [3,4,5] [] (blockC 0 (seqC (D.N k [1,1,1,1]) D.K0)) (T0 a1 c404 v403)
noncomputable def r0 (k:Nat) (a1:Arg):(List L6Spot)->((List Row)×Int)->Option Out:=fun c404=>rawIter (fun w v=>B0 k w (Q0 k a1 c404) a1 c404 v) k
theorem s0_eq (k:Nat) (a1:Arg):s0 k a1=r0 k a1:=
 funext fun c404=>funext fun v403=>iter_raw _ _ _ (T0 a1 c404) _ (fun rec v=>by kernel_rfl) k v403
noncomputable def p (l0:(List L6Spot)->((List Row)×Int)->Option Out) (a1:Arg):Option Out:=(spec_l6Seen.sem (a1.1,())).bind fun r2=>l0 r2.1 (([]:List Row),(0:Int))
theorem raw_eq (k:Nat) (a1:Arg):@Eq (Option Out) (D.W k a1) (p (r0 k a1) a1):=
 Eq.trans (b:=p (s0 k a1) a1) (by kernel_rfl) (by rw[s0_eq])
theorem ok:Ok prog 75 D.sig:=fd_ok func75 tlOk (by kernel_rfl) (fc spec_l6Seen.ok (fc spec_l6Put.ok (fn_nil _)))
end spec_l6RowsIn
namespace spec_l2Copy
abbrev Arg:Type:=(List UInt8)×Unit
abbrev Out:Type:=(List UInt8)×Unit
abbrev ps:PQ:=[(.ro,(.slc u8))]
noncomputable def D:FD:={ fn:=f109,tl:=TL0,ps:=ps,rs:=[((.slc u8),(ownMd (.slc u8)))] }
noncomputable def sem (a:Arg):Option Out:=@lift Out fun k=>D.W k a
noncomputable def p (a1:Arg):Option Out:=if ([]:List UInt8).length+a1.1.length<=CAP then (some (([]:List UInt8)++a1.1,())) else none
theorem raw_eq (k:Nat) (a1:Arg):@Eq (Option Out) (D.W k a1) (p a1):=by kernel_rfl
theorem ok:Ok prog 109 D.sig:=fd_ok func109 tlOk (by kernel_rfl) (fn_nil _)
end spec_l2Copy
namespace spec_l4Read
abbrev Arg:Type:=(List UInt8)×Unit
abbrev Out:Type:=Record×Unit
abbrev ps:PQ:=[(.ro,(.slc u8))]
noncomputable def D:FD:={ fn:=f226,tl:=TL0,ps:=ps,rs:=[(tRecord,(ownMd tRecord))],gl:=[(109,spec_l2Copy.D.sig)],lv:=[(4,[0,2,3,4,5])],lx:=[(0,[2,3])],od:=[(1,[0,1,2,3,4,5,6,7,8,9,10,11,12,13,14]),(8,[0,1,2,3,4,5,6,7,8,9,10,11,12,13,14,15,16,17,18,19,20])] }
noncomputable def sem (a:Arg):Option Out:=@lift Out fun k=>D.W k a
noncomputable def T0 (a1:Arg) (v405:Record×Int×Int):St:={ n:=73,sl:=[(0,.val (.slc u8) a1.1),(2,.box tRecord (ownMd tRecord) [] ((0:Int),(0:Int),(0:Int),([]:List Run),())),(3,.box tRecord (ownMd tRecord) [] v405.1),(4,.val i64 v405.2.1),(5,.val i64 v405.2.2)],vr:=[],lent:=[] }
noncomputable def b0 (self:(Record×Int×Int)->Option Out) (e0:Record->Option Out) (a1:Arg) (v405:Record×Int×Int):Option Out:=(a1.1[4]?).bind fun x606=>bif decide (v405.2.2 < w64 (x606.toNat:Int)) then (bif decide (w64 (v405.2.1+(2:Int))<=(a1.1.length:Int)) then (if 0<=w64 (v405.2.1+(1:Int)) then ((a1.1[(w64 (v405.2.1+(1:Int))).toNat]?).bind fun x607=>bif decide ((a1.1.length:Int) < w64 ((w64 (v405.2.1+(2:Int)))+(w64 (x607.toNat:Int)))) then (e0 v405.1) else if 0<=v405.2.1 then ((a1.1[v405.2.1.toNat]?).bind fun x608=>if 0<=w64 (v405.2.1+(2:Int))/\w64 (v405.2.1+(2:Int))<=w64 ((w64 (v405.2.1+(2:Int)))+(w64 (x607.toNat:Int)))/\w64 ((w64 (v405.2.1+(2:Int)))+(w64 (x607.toNat:Int)))<=(a1.1.length:Int) then ((spec_l2Copy.sem ((a1.1.take (w64 ((w64 (v405.2.1+(2:Int)))+(w64 (x607.toNat:Int)))).toNat).drop (w64 (v405.2.1+(2:Int))).toNat,())).bind fun r609=>if v405.1.2.2.2.1.length+[(w64 (x608.toNat:Int),r609.1,())].length<=CAP then (let y610:=v405.1.2.2.2.1++[(w64 (x608.toNat:Int),r609.1,())];self ((v405.1.1,v405.1.2.1,v405.1.2.2.1,y610,v405.1.2.2.2.2),w64 ((w64 (v405.2.1+(2:Int)))+(w64 (x607.toNat:Int))),w64 (v405.2.2+(1:Int)))) else none) else none) else none) else none) else e0 v405.1) else e0 v405.1
noncomputable abbrev B0 (_:Nat):=b0
noncomputable def q0 (a1:Arg) (z611:Record):Option Out:=some (z611,())
noncomputable abbrev Q0 (_:Nat):=q0
noncomputable def s0 (k:Nat) (a1:Arg):(Record×Int×Int)->Option Out:=fun v405=>D.L k [1,1,1,0,1,0,0] [0,2,3,4,5] [] (blockC 0 (seqC (D.N k [1,1,1,1]) D.K0)) (T0 a1 v405)
noncomputable def r0 (k:Nat) (a1:Arg):(Record×Int×Int)->Option Out:=rawIter (fun w v=>B0 k w (Q0 k a1) a1 v) k
theorem s0_eq (k:Nat) (a1:Arg):s0 k a1=r0 k a1:=
 funext fun v405=>iter_raw _ _ _ (T0 a1) _ (fun rec v=>by kernel_rfl) k v405
noncomputable def p (l0:(Record×Int×Int)->Option Out) (a1:Arg):Option Out:=(a1.1[1]?).bind fun x2=>(a1.1[2]?).bind fun x3=>(a1.1[3]?).bind fun x4=>l0 ((w64 (x2.toNat:Int),w64 (x3.toNat:Int),w64 (x4.toNat:Int),([]:List Run),()),(5:Int),(0:Int))
theorem raw_eq (k:Nat) (a1:Arg):@Eq (Option Out) (D.W k a1) (p (r0 k a1) a1):=
 Eq.trans (b:=p (s0 k a1) a1) (by kernel_rfl) (by rw[s0_eq])
theorem ok:Ok prog 226 D.sig:=fd_ok func226 tlOk (by kernel_rfl) (fc spec_l2Copy.ok (fn_nil _))
end spec_l4Read
namespace spec_l4Runs
abbrev Arg:Type:=Int×Unit
abbrev Out:Type:=Bool×Unit
abbrev ps:PQ:=[(.ro,i64)]
noncomputable def D:FD:={ fn:=f260,tl:=TL0,ps:=ps,rs:=[(.bool,(roMd .bool))],gl:=[(118,spec_l1In.D.sig)] }
noncomputable def sem (a:Arg):Option Out:=@lift Out fun k=>D.W k a
noncomputable def p (a1:Arg):Option Out:=(spec_l1In.sem (a1.1,(2:Int),(4:Int),())).bind fun r2=>some (r2.1,())
theorem raw_eq (k:Nat) (a1:Arg):@Eq (Option Out) (D.W k a1) (p a1):=by kernel_rfl
theorem ok:Ok prog 260 D.sig:=fd_ok func260 tlOk (by kernel_rfl) (fc spec_l1In.ok (fn_nil _))
end spec_l4Runs
namespace spec_l3Fault
abbrev Arg:Type:=(List Run)×Unit
abbrev Out:Type:=Int×Unit
abbrev ps:PQ:=[(.ro,(.slc tRun))]
noncomputable def D:FD:={ fn:=f280,tl:=TL0,ps:=ps,rs:=[(i64,(roMd i64))],gl:=[(118,spec_l1In.D.sig)],lv:=[(4,[0,3])],lx:=[(0,[])],od:=[(9,[0,1,2,3,4,5,6,7,8,9,10,11,12,13,14,15,16,17,18,19,20,21,22,23])] }
noncomputable def sem (a:Arg):Option Out:=@lift Out fun k=>D.W k a
noncomputable def T0 (a1:Arg) (v402:Int):St:={ n:=66,sl:=[(0,.val (.slc tRun) a1.1),(3,.val i64 v402)],vr:=[],lent:=[] }
noncomputable def b0 (self:Int->Option Out) (e0:(Unit)->Option Out) (a1:Arg) (v402:Int):Option Out:=bif decide (v402 < (a1.1.length:Int)) then (if 0<=v402 then ((a1.1[v402.toNat]?).bind fun x603=>if 0<=v402 then ((a1.1[v402.toNat]?).bind fun x604=>(spec_l1In.sem (x604.1,(0:Int),(63:Int),())).bind fun r605=>bif !r605.1 then (some ((3:Int),())) else (spec_l1In.sem ((x603.2.1.length:Int),(1:Int),(64:Int),())).bind fun r606=>bif !r606.1 then (some ((3:Int),())) else if 0<=v402 then ((a1.1[v402.toNat]?).bind fun x607=>bif decide ((64:Int) < w64 (x607.1+(x603.2.1.length:Int))) then (some ((3:Int),())) else bif decide ((0:Int) < v402) then (if 0<=v402 then ((a1.1[v402.toNat]?).bind fun x608=>if 0<=w64 (v402 - (1:Int)) then ((a1.1[(w64 (v402 - (1:Int))).toNat]?).bind fun x609=>if 0<=w64 (v402 - (1:Int)) then ((a1.1[(w64 (v402 - (1:Int))).toNat]?).bind fun x610=>bif decide (x608.1<=w64 (x609.1+(x610.2.1.length:Int))) then (some ((1:Int),())) else self (w64 (v402+(1:Int)))) else none) else none) else none) else self (w64 (v402+(1:Int)))) else none) else none) else none) else e0 ()
noncomputable abbrev B0 (_:Nat):=b0
noncomputable def q0 (a1:Arg) (z611:(Unit)):Option Out:=some ((0:Int),())
noncomputable abbrev Q0 (_:Nat):=q0
noncomputable def s0 (k:Nat) (a1:Arg):(Int)->Option Out:=fun v402=>D.L k [1,1,0,1,0,0] [0,3] [] (blockC 0 (seqC (D.N k [1,1,1]) D.K0)) (T0 a1 v402)
noncomputable def r0 (k:Nat) (a1:Arg):(Int)->Option Out:=rawIter (fun w v=>B0 k w (Q0 k a1) a1 v) k
theorem s0_eq (k:Nat) (a1:Arg):s0 k a1=r0 k a1:=
 funext fun v402=>iter_raw _ _ _ (T0 a1) _ (fun rec v=>by kernel_rfl) k v402
noncomputable def p (l0:(Int)->Option Out) (a1:Arg):Option Out:=bif decide ((64:Int) < (a1.1.length:Int)) then (some ((2:Int),())) else l0 (0:Int)
theorem raw_eq (k:Nat) (a1:Arg):@Eq (Option Out) (D.W k a1) (p (r0 k a1) a1):=
 Eq.trans (b:=p (s0 k a1) a1) (by kernel_rfl) (by rw[s0_eq])
theorem ok:Ok prog 280 D.sig:=fd_ok func280 tlOk (by kernel_rfl) (fc spec_l1In.ok (fn_nil _))
end spec_l3Fault
namespace spec_l4Fault
abbrev Arg:Type:=Record×Unit
abbrev Out:Type:=Int×Unit
abbrev ps:PQ:=[(.ro,(.ptr tRecord))]
noncomputable def D:FD:={ fn:=f227,tl:=TL0,ps:=ps,rs:=[(i64,(roMd i64))],gl:=[(118,spec_l1In.D.sig),(260,spec_l4Runs.D.sig),(280,spec_l3Fault.D.sig)] }
noncomputable def sem (a:Arg):Option Out:=@lift Out fun k=>D.W k a
noncomputable def p (a1:Arg):Option Out:=let j13:Option Out:=let j20:Option Out:=(spec_l4Runs.sem (a1.1.1,())).bind fun r21=>bif !r21.1 then (some ((0:Int),())) else (spec_l3Fault.sem (a1.1.2.2.2.1,())).bind fun r22=>bif !decide (r22.1=(0:Int)) then (some (r22.1,())) else bif decide ((a1.1.2.2.2.1.length:Int)=(0:Int)) then (some ((1:Int),())) else bif decide (a1.1.1=(4:Int)) then ((a1.1.2.2.2.1[0]?).bind fun x23=>bif !decide ((x23.2.1.length:Int)=(64:Int)) then (some ((1:Int),())) else some ((0:Int),())) else some ((0:Int),());bif !decide (a1.1.1=(4:Int)) then ((spec_l1In.sem (a1.1.2.1,(1:Int),(99:Int),())).bind fun r14=>bif !r14.1 then (some ((3:Int),())) else (spec_l1In.sem (a1.1.2.2.1,(0:Int),(11:Int),())).bind fun r15=>bif !r15.1 then (some ((3:Int),())) else j20) else (spec_l1In.sem (a1.1.2.2.1,(0:Int),(11:Int),())).bind fun r16=>bif !r16.1 then (some ((3:Int),())) else j20;(spec_l1In.sem (a1.1.1,(1:Int),(6:Int),())).bind fun r2=>bif !r2.1 then (some ((1:Int),())) else (spec_l4Runs.sem (a1.1.1,())).bind fun r3=>bif !r3.1 then (bif !decide (a1.1.2.2.1=(0:Int)) then (some ((1:Int),())) else bif decide ((0:Int) < (a1.1.2.2.2.1.length:Int)) then (some ((1:Int),())) else bif decide (a1.1.1=(4:Int)) then (bif !decide (a1.1.2.1=(0:Int)) then (some ((1:Int),())) else j13) else j13) else bif decide (a1.1.1=(4:Int)) then (bif !decide (a1.1.2.1=(0:Int)) then (some ((1:Int),())) else j13) else j13
theorem raw_eq (k:Nat) (a1:Arg):@Eq (Option Out) (D.W k a1) (p a1):=by kernel_rfl
theorem ok:Ok prog 227 D.sig:=fd_ok func227 tlOk (by kernel_rfl) (fc spec_l1In.ok (fc spec_l4Runs.ok (fc spec_l3Fault.ok (fn_nil _))))
end spec_l4Fault
namespace spec_l4Sum
abbrev Arg:Type:=(List UInt8)×Unit
abbrev Out:Type:=Int×Unit
abbrev ps:PQ:=[(.ro,(.slc u8))]
noncomputable def D:FD:={ fn:=f281,tl:=TL0,ps:=ps,rs:=[(i64,(roMd i64))],lv:=[(3,[0,3,4])],lx:=[(0,[3])] }
noncomputable def sem (a:Arg):Option Out:=@lift Out fun k=>D.W k a
noncomputable def T0 (a1:Arg) (v402:Int×Int):St:={ n:=21,sl:=[(0,.val (.slc u8) a1.1),(3,.val i64 v402.1),(4,.val i64 v402.2)],vr:=[],lent:=[] }
noncomputable def b0 (self:(Int×Int)->Option Out) (e0:Int->Option Out) (a1:Arg) (v402:Int×Int):Option Out:=bif decide (v402.2 < (a1.1.length:Int)) then (if 0<=v402.2 then ((a1.1[v402.2.toNat]?).bind fun x603=>self ((w64 ((w64 (v402.1*(31:Int)))+(w64 (x603.toNat:Int)))).tmod (65521:Int),w64 (v402.2+(1:Int)))) else none) else e0 v402.1
noncomputable abbrev B0 (_:Nat):=b0
noncomputable def q0 (a1:Arg) (z604:Int):Option Out:=some (z604,())
noncomputable abbrev Q0 (_:Nat):=q0
noncomputable def s0 (k:Nat) (a1:Arg):(Int×Int)->Option Out:=fun v402=>D.L k [1,1,0,1,0,0] [0,3,4] [] (blockC 0 (seqC (D.N k [1,1,1]) D.K0)) (T0 a1 v402)
noncomputable def r0 (k:Nat) (a1:Arg):(Int×Int)->Option Out:=rawIter (fun w v=>B0 k w (Q0 k a1) a1 v) k
theorem s0_eq (k:Nat) (a1:Arg):s0 k a1=r0 k a1:=
 funext fun v402=>iter_raw _ _ _ (T0 a1) _ (fun rec v=>by kernel_rfl) k v402
noncomputable def p (l0:(Int×Int)->Option Out) (a1:Arg):Option Out:=l0 ((1:Int),(0:Int))
theorem raw_eq (k:Nat) (a1:Arg):@Eq (Option Out) (D.W k a1) (p (r0 k a1) a1):=
 Eq.trans (b:=p (s0 k a1) a1) (by kernel_rfl) (by rw[s0_eq])
theorem ok:Ok prog 281 D.sig:=fd_ok func281 tlOk (by kernel_rfl) (fn_nil _)
end spec_l4Sum
namespace spec_l4Pack
abbrev Arg:Type:=Record×Unit
abbrev Out:Type:=(List UInt8)×Unit
abbrev ps:PQ:=[(.ro,(.ptr tRecord))]
noncomputable def D:FD:={ fn:=f228,tl:=TL0,ps:=ps,rs:=[((.slc u8),(ownMd (.slc u8)))],gl:=[(281,spec_l4Sum.D.sig)],lv:=[(3,[0,3,4])],lx:=[(0,[3])],od:=[(1,[0,1,2,3,4,5,6,7,8,9,10,11,12,13,14,15,16,17,18,19,20,21,22]),(5,[0,1,2,3,4,5,6,7,8,9,10,11,12,13,14,15,16,17,18,19,22,23,24,25,26,27,28,29,20,21,30,31])],ar:=[(5,[4,8,9,13,17,19,25,29])] }
noncomputable def sem (a:Arg):Option Out:=@lift Out fun k=>D.W k a
noncomputable def T0 (a1:Arg) (v402:(List UInt8)×Int):St:={ n:=85,sl:=[(0,.cp tRecord a1.1),(3,.own (.slc u8) (ownMd (.slc u8)) [] v402.1),(4,.val i64 v402.2)],vr:=[],lent:=[] }
noncomputable def b0 (self:((List UInt8)×Int)->Option Out) (e0:(List UInt8)->Option Out) (a1:Arg) (v402:(List UInt8)×Int):Option Out:=bif decide (v402.2 < (a1.1.2.2.2.1.length:Int)) then (if 0<=v402.2 then ((a1.1.2.2.2.1[v402.2.toNat]?).bind fun x603=>if 0<=v402.2 then ((a1.1.2.2.2.1[v402.2.toNat]?).bind fun x604=>if 0<=v402.2 then ((a1.1.2.2.2.1[v402.2.toNat]?).bind fun x605=>if v402.1.length+[UInt8.ofInt x603.1,UInt8.ofInt (x604.2.1.length:Int)].length<=CAP then (let y606:=v402.1++[UInt8.ofInt x603.1,UInt8.ofInt (x604.2.1.length:Int)];if y606.length+x605.2.1.length<=CAP then (self (y606++x605.2.1,w64 (v402.2+(1:Int)))) else none) else none) else none) else none) else none) else e0 v402.1
noncomputable abbrev B0 (_:Nat):=b0
noncomputable def q0 (a1:Arg) (z607:(List UInt8)):Option Out:=if 0<=(0:Int)/\(0:Int) < (z607.length:Int) then ((z607[0]?).bind fun x608=>let y609:=z607.set 0 (UInt8.ofInt (w64 ((z607.length:Int)+(2:Int))));(spec_l4Sum.sem (y609,())).bind fun r610=>if y609.length+[UInt8.ofInt (w64 (r610.1.tdiv (256:Int))),UInt8.ofInt (r610.1.tmod (256:Int))].length<=CAP then (let y611:=y609++[UInt8.ofInt (w64 (r610.1.tdiv (256:Int))),UInt8.ofInt (r610.1.tmod (256:Int))];some (y611,())) else none) else none
noncomputable abbrev Q0 (_:Nat):=q0
noncomputable def s0 (k:Nat) (a1:Arg):((List UInt8)×Int)->Option Out:=fun v402=>D.L k [1,1,0,1,0,0] [0,3,4] [] (blockC 0 (seqC (D.N k [1,1,1]) D.K0)) (T0 a1 v402)
noncomputable def r0 (k:Nat) (a1:Arg):((List UInt8)×Int)->Option Out:=rawIter (fun w v=>B0 k w (Q0 k a1) a1 v) k
theorem s0_eq (k:Nat) (a1:Arg):s0 k a1=r0 k a1:=
 funext fun v402=>iter_raw _ _ _ (T0 a1) _ (fun rec v=>by kernel_rfl) k v402
noncomputable def p (l0:((List UInt8)×Int)->Option Out) (a1:Arg):Option Out:=l0 ([(0:UInt8),UInt8.ofInt a1.1.1,UInt8.ofInt a1.1.2.1,UInt8.ofInt a1.1.2.2.1,UInt8.ofInt (a1.1.2.2.2.1.length:Int)],(0:Int))
theorem raw_eq (k:Nat) (a1:Arg):@Eq (Option Out) (D.W k a1) (p (r0 k a1) a1):=
 Eq.trans (b:=p (s0 k a1) a1) (by kernel_rfl) (by rw[s0_eq])
theorem ok:Ok prog 228 D.sig:=fd_ok func228 tlOk (by kernel_rfl) (fc spec_l4Sum.ok (fn_nil _))
end spec_l4Pack
namespace spec_ReadRecord
abbrev Arg:Type:=(List UInt8)×Unit
abbrev Out:Type:=RecordResult×Unit
abbrev ps:PQ:=[(.ro,(.slc u8))]
noncomputable def D:FD:={ fn:=f165,tl:=TL0,ps:=ps,rs:=[(tRecordResult,(ownMd tRecordResult))],gl:=[(226,spec_l4Read.D.sig),(227,spec_l4Fault.D.sig),(228,spec_l4Pack.D.sig)],od:=[(5,[0,1,2,5,6,7,8,3,4,9,10])],ar:=[(5,[8])] }
noncomputable def sem (a:Arg):Option Out:=@lift Out fun k=>D.W k a
noncomputable def p (a1:Arg):Option Out:=bif decide ((a1.1.length:Int) < (7:Int)) then (some (((5:Int),(0:Int),((0:Int),(0:Int),(0:Int),([]:List Run),()),()),())) else (a1.1[0]?).bind fun x2=>bif decide (w64 (x2.toNat:Int) < (7:Int)) then (some (((5:Int),(0:Int),((0:Int),(0:Int),(0:Int),([]:List Run),()),()),())) else (a1.1[0]?).bind fun x3=>bif decide ((a1.1.length:Int) < w64 (x3.toNat:Int)) then (some (((5:Int),(0:Int),((0:Int),(0:Int),(0:Int),([]:List Run),()),()),())) else (a1.1[0]?).bind fun x4=>if 0<=w64 (x4.toNat:Int)/\w64 (x4.toNat:Int)<=(a1.1.length:Int) then ((spec_l4Read.sem ((a1.1.take (w64 (x4.toNat:Int)).toNat).drop 0,())).bind fun r5=>(spec_l4Fault.sem (r5.1,())).bind fun r6=>bif !decide (r6.1=(0:Int)) then (some (((5:Int),(0:Int),((0:Int),(0:Int),(0:Int),([]:List Run),()),()),())) else if 0<=w64 (x4.toNat:Int)/\w64 (x4.toNat:Int)<=(a1.1.length:Int) then ((spec_l4Pack.sem (r5.1,())).bind fun r7=>bif !decide (r7.1=(a1.1.take (w64 (x4.toNat:Int)).toNat).drop 0) then (some (((5:Int),(0:Int),((0:Int),(0:Int),(0:Int),([]:List Run),()),()),())) else some (((0:Int),w64 (x4.toNat:Int),r5.1,()),())) else none) else none
theorem raw_eq (k:Nat) (a1:Arg):@Eq (Option Out) (D.W k a1) (p a1):=by kernel_rfl
theorem ok:Ok prog 165 D.sig:=fd_ok func165 tlOk (by kernel_rfl) (fc spec_l4Read.ok (fc spec_l4Fault.ok (fc spec_l4Pack.ok (fn_nil _))))
end spec_ReadRecord
namespace spec_l5Read
abbrev Arg:Type:=(List UInt8)×Unit
abbrev Out:Type:=(List Record)×Int×Unit
abbrev ps:PQ:=[(.ro,(.slc u8))]
noncomputable def D:FD:={ fn:=f189,tl:=TL0,ps:=ps,rs:=[((.slc tRecord),(ownMd (.slc tRecord))),(i64,(roMd i64))],gl:=[(165,spec_ReadRecord.D.sig)],lv:=[(3,[0,4,5])],lx:=[(0,[4,5])] }
noncomputable def sem (a:Arg):Option Out:=@lift Out fun k=>D.W k a
noncomputable def T0 (a1:Arg) (v402:(List Record)×Int):St:={ n:=30,sl:=[(0,.val (.slc u8) a1.1),(4,.own (.slc tRecord) (ownMd (.slc tRecord)) [] v402.1),(5,.val i64 v402.2)],vr:=[],lent:=[] }
noncomputable def b0 (self:((List Record)×Int)->Option Out) (e0:((List Record)×Int)->Option Out) (a1:Arg) (v402:(List Record)×Int):Option Out:=bif decide (v402.2 < (a1.1.length:Int)) then (if 0<=v402.2/\v402.2<=(a1.1.length:Int) then ((spec_ReadRecord.sem ((a1.1.take a1.1.length).drop v402.2.toNat,())).bind fun r603=>bif !decide (r603.1.1=(0:Int)) then (e0 (v402.1,v402.2)) else if v402.1.length+[r603.1.2.2.1].length<=CAP then (self (v402.1++[r603.1.2.2.1],w64 (v402.2+r603.1.2.1))) else none) else none) else e0 (v402.1,v402.2)
noncomputable abbrev B0 (_:Nat):=b0
noncomputable def q0 (a1:Arg) (z604:((List Record)×Int)):Option Out:=some (z604.1,z604.2,())
noncomputable abbrev Q0 (_:Nat):=q0
noncomputable def s0 (k:Nat) (a1:Arg):((List Record)×Int)->Option Out:=fun v402=>D.L k [1,1,1,0,0,0] [0,4,5] [] (blockC 0 (seqC (D.N k [1,1,1,1]) D.K0)) (T0 a1 v402)
noncomputable def r0 (k:Nat) (a1:Arg):((List Record)×Int)->Option Out:=rawIter (fun w v=>B0 k w (Q0 k a1) a1 v) k
theorem s0_eq (k:Nat) (a1:Arg):s0 k a1=r0 k a1:=
 funext fun v402=>iter_raw _ _ _ (T0 a1) _ (fun rec v=>by kernel_rfl) k v402
noncomputable def p (l0:((List Record)×Int)->Option Out) (a1:Arg):Option Out:=l0 (([]:List Record),(0:Int))
theorem raw_eq (k:Nat) (a1:Arg):@Eq (Option Out) (D.W k a1) (p (r0 k a1) a1):=
 Eq.trans (b:=p (s0 k a1) a1) (by kernel_rfl) (by rw[s0_eq])
theorem ok:Ok prog 189 D.sig:=fd_ok func189 tlOk (by kernel_rfl) (fc spec_ReadRecord.ok (fn_nil _))
end spec_l5Read
namespace spec_l5Fault
abbrev Arg:Type:=Log×Unit
abbrev Out:Type:=Int×Unit
abbrev ps:PQ:=[(.ro,(.ptr tLog))]
noncomputable def D:FD:={ fn:=f117,tl:=TL0,ps:=ps,rs:=[(i64,(roMd i64))],gl:=[(189,spec_l5Read.D.sig)],od:=[(1,[0,1,2,3,4,5,6,7,8,9,10,11])] }
noncomputable def sem (a:Arg):Option Out:=@lift Out fun k=>D.W k a
noncomputable def p (a1:Arg):Option Out:=bif decide ((16000:Int) < w64 ((a1.1.1.length:Int)+(a1.1.2.1.length:Int))) then (some ((2:Int),())) else (spec_l5Read.sem (a1.1.1,())).bind fun r2=>bif !decide (r2.2.1=(a1.1.1.length:Int)) then (some ((5:Int),())) else (spec_l5Read.sem (a1.1.2.1,())).bind fun r3=>bif !decide (r3.2.1=(a1.1.2.1.length:Int)) then (some ((5:Int),())) else some ((0:Int),())
theorem raw_eq (k:Nat) (a1:Arg):@Eq (Option Out) (D.W k a1) (p a1):=by kernel_rfl
theorem ok:Ok prog 117 D.sig:=fd_ok func117 tlOk (by kernel_rfl) (fc spec_l5Read.ok (fn_nil _))
end spec_l5Fault
namespace spec_l2Low
abbrev Arg:Type:=(List UInt8)×Unit
abbrev Out:Type:=Int×Unit
abbrev ps:PQ:=[(.ro,(.slc u8))]
noncomputable def D:FD:={ fn:=f295,tl:=TL0,ps:=ps,rs:=[(i64,(roMd i64))] }
noncomputable def sem (a:Arg):Option Out:=@lift Out fun k=>D.W k a
noncomputable def p (a1:Arg):Option Out:=(a1.1[1]?).bind fun x2=>some (w64 (x2.toNat:Int),())
theorem raw_eq (k:Nat) (a1:Arg):@Eq (Option Out) (D.W k a1) (p a1):=by kernel_rfl
theorem ok:Ok prog 295 D.sig:=fd_ok func295 tlOk (by kernel_rfl) (fn_nil _)
end spec_l2Low
namespace spec_l2Slot
abbrev Arg:Type:=(List UInt8)×Int×Unit
abbrev Out:Type:=Bool×Unit
abbrev ps:PQ:=[(.ro,(.slc u8)),(.ro,i64)]
noncomputable def D:FD:={ fn:=f296,tl:=TL0,ps:=ps,rs:=[(.bool,(roMd .bool))],gl:=[(256,spec_l2Size.D.sig),(295,spec_l2Low.D.sig),(299,spec_l2Place.D.sig)] }
noncomputable def sem (a:Arg):Option Out:=@lift Out fun k=>D.W k a
noncomputable def p (a1:Arg):Option Out:=(spec_l2Place.sem (a1.1,a1.2.1,())).bind fun r2=>(spec_l2Size.sem (a1.1,a1.2.1,())).bind fun r3=>bif decide (r2.1=(0:Int)) then (some (decide (r2.1=r3.1),())) else bif decide (r3.1=(0:Int)) then (some (decide (r2.1=r3.1),())) else (spec_l2Low.sem (a1.1,())).bind fun r4=>bif decide (r4.1<=r2.1) then (some (decide (w64 (r2.1+r3.1)<=(64:Int)),())) else some (false,())
theorem raw_eq (k:Nat) (a1:Arg):@Eq (Option Out) (D.W k a1) (p a1):=by kernel_rfl
theorem ok:Ok prog 296 D.sig:=fd_ok func296 tlOk (by kernel_rfl) (fc spec_l2Size.ok (fc spec_l2Low.ok (fc spec_l2Place.ok (fn_nil _))))
end spec_l2Slot
namespace spec_l2Apart
abbrev Arg:Type:=(List UInt8)×Int×Int×Unit
abbrev Out:Type:=Bool×Unit
abbrev ps:PQ:=[(.ro,(.slc u8)),(.ro,i64),(.ro,i64)]
noncomputable def D:FD:={ fn:=f297,tl:=TL0,ps:=ps,rs:=[(.bool,(roMd .bool))],gl:=[(256,spec_l2Size.D.sig),(299,spec_l2Place.D.sig)] }
noncomputable def sem (a:Arg):Option Out:=@lift Out fun k=>D.W k a
noncomputable def p (a1:Arg):Option Out:=(spec_l2Size.sem (a1.1,a1.2.1,())).bind fun r2=>bif decide (r2.1=(0:Int)) then (some (true,())) else (spec_l2Size.sem (a1.1,a1.2.2.1,())).bind fun r3=>bif decide (r3.1=(0:Int)) then (some (true,())) else (spec_l2Place.sem (a1.1,a1.2.1,())).bind fun r4=>(spec_l2Size.sem (a1.1,a1.2.1,())).bind fun r5=>(spec_l2Place.sem (a1.1,a1.2.2.1,())).bind fun r6=>bif decide (w64 (r4.1+r5.1)<=r6.1) then (some (true,())) else (spec_l2Place.sem (a1.1,a1.2.2.1,())).bind fun r7=>(spec_l2Size.sem (a1.1,a1.2.2.1,())).bind fun r8=>(spec_l2Place.sem (a1.1,a1.2.1,())).bind fun r9=>some (decide (w64 (r7.1+r8.1)<=r9.1),())
theorem raw_eq (k:Nat) (a1:Arg):@Eq (Option Out) (D.W k a1) (p a1):=by kernel_rfl
theorem ok:Ok prog 297 D.sig:=fd_ok func297 tlOk (by kernel_rfl) (fc spec_l2Size.ok (fc spec_l2Place.ok (fn_nil _)))
end spec_l2Apart
namespace spec_l2Fault
abbrev Arg:Type:=(List UInt8)×Unit
abbrev Out:Type:=Int×Unit
abbrev ps:PQ:=[(.ro,(.slc u8))]
noncomputable def D:FD:={ fn:=f254,tl:=TL0,ps:=ps,rs:=[(i64,(roMd i64))],gl:=[(255,spec_l2Count.D.sig),(256,spec_l2Size.D.sig),(295,spec_l2Low.D.sig),(296,spec_l2Slot.D.sig),(297,spec_l2Apart.D.sig)],lv:=[(7,[0,3,4]),(12,[0,3,5]),(15,[0,3,5,6])],lx:=[(0,[0,3]),(2,[0,3]),(4,[0,3,5])] }
noncomputable def sem (a:Arg):Option Out:=@lift Out fun k=>D.W k a
noncomputable def T0 (a1:Arg) (c406:Int) (v405:Int):St:={ n:=60,sl:=[(0,.val (.slc u8) a1.1),(3,.val i64 c406),(4,.val i64 v405)],vr:=[],lent:=[] }
noncomputable def S0 (rec:RT Out) (a1:Arg) (c406:Int):(Int)->Option Out:=fun v405=>rec (T0 a1 c406 v405)
noncomputable def X0_0 (K:KT Out) (a1:Arg) (c406:Int):(Unit)->Option Out:=fun z=>K (.exit 0) ({ n:=60,sl:=[(0,.val (.slc u8) a1.1),(3,.val i64 c406)],vr:=[],lent:=[] })
noncomputable def b0 (self:Int->Option Out) (e0:(Unit)->Option Out) (a1:Arg) (c406:Int) (v405:Int):Option Out:=bif decide (v405 < c406) then ((spec_l2Slot.sem (a1.1,v405,())).bind fun r607=>bif !r607.1 then (some ((3:Int),())) else self (w64 (v405+(1:Int)))) else e0 ()
noncomputable abbrev B0 (_:Nat):=b0
theorem B0_eq (k:Nat) (rec:RT Out) (K:KT Out) (a1:Arg) (c406:Int) (v405:Int):D.N k [1,1,1,1,0,1,0,0] (T0 a1 c406 v405) (loopC rec (keepF [0,3,4] []) K)=b0 (S0 rec a1 c406) (X0_0 K a1 c406) a1 c406 v405:=by kernel_rfl
noncomputable def T1 (a1:Arg) (v1009:(List UInt8)×Int×Int):St:={ n:=60,sl:=[(0,.val (.slc u8) v1009.1),(3,.val i64 v1009.2.1),(5,.val i64 v1009.2.2)],vr:=[],lent:=[] }
noncomputable def S1 (rec:RT Out) (a1:Arg):((List UInt8)×Int×Int)->Option Out:=fun v1009=>rec (T1 a1 v1009)
noncomputable def X1_2 (K:KT Out) (a1:Arg):((List UInt8)×Int)->Option Out:=fun z=>K (.exit 2) ({ n:=60,sl:=[(0,.val (.slc u8) z.1),(3,.val i64 z.2)],vr:=[],lent:=[] })
noncomputable def T2 (a1:Arg) (c1611:List UInt8) (c1612:Int) (c1613:Int) (v1610:Int):St:={ n:=60,sl:=[(0,.val (.slc u8) c1611),(3,.val i64 c1612),(5,.val i64 c1613),(6,.val i64 v1610)],vr:=[],lent:=[] }
noncomputable def b2 (self:Int->Option Out) (e4:(Unit)->Option Out) (a1:Arg) (c1611:List UInt8) (c1612:Int) (c1613:Int) (v1610:Int):Option Out:=bif decide (v1610 < c1613) then ((spec_l2Apart.sem (c1611,c1613,v1610,())).bind fun r1814=>bif !r1814.1 then (some ((8:Int),())) else self (w64 (v1610+(1:Int)))) else e4 ()
noncomputable abbrev B2 (_:Nat):=b2
noncomputable def q1 (self:((List UInt8)×Int×Int)->Option Out) (e2:((List UInt8)×Int)->Option Out) (a1:Arg) (c1611:List UInt8) (c1612:Int) (c1613:Int) (z1815:(Unit)):Option Out:=self (c1611,c1612,w64 (c1613+(1:Int)))
noncomputable abbrev Q1 (_:Nat):=q1
noncomputable def s2 (k:Nat) (rec:RT Out) (K:KT Out) (a1:Arg):(List UInt8)->Int->Int->(Int)->Option Out:=fun c1611 c1612 c1613=>fun v1610=>D.L k [1,1,1,1,1,0,1,0,0,1,0,0,1,0,0] [0,3,5,6] [] (blockC 4 (blockC 3 (seqC (D.N k [1,1,1,1,1,0,1,0,0,1,1]) (loopC rec (keepF [0,3,5] []) K)))) (T2 a1 c1611 c1612 c1613 v1610)
noncomputable def r2 (k:Nat) (self:((List UInt8)×Int×Int)->Option Out) (e2:((List UInt8)×Int)->Option Out) (a1:Arg):(List UInt8)->Int->Int->(Int)->Option Out:=fun c1611 c1612 c1613=>rawIter (fun w v=>B2 k w (Q1 k self e2 a1 c1611 c1612 c1613) a1 c1611 c1612 c1613 v) k
theorem s2_eq (k:Nat) (rec:RT Out) (K:KT Out) (a1:Arg):s2 k rec K a1=r2 k (S1 rec a1) (X1_2 K a1) a1:=
 funext fun c1611=>funext fun c1612=>funext fun c1613=>funext fun v1610=>iter_raw _ _ _ (T2 a1 c1611 c1612 c1613) _ (fun rec v=>by kernel_rfl) k v1610
noncomputable def b1 (self:((List UInt8)×Int×Int)->Option Out) (e2:((List UInt8)×Int)->Option Out) (l2:(List UInt8)->Int->Int->(Int)->Option Out) (a1:Arg) (v1009:(List UInt8)×Int×Int):Option Out:=bif decide (v1009.2.2 < v1009.2.1) then (l2 v1009.1 v1009.2.1 v1009.2.2 (0:Int)) else e2 (v1009.1,v1009.2.1)
noncomputable def B1 (k:Nat) (self:((List UInt8)×Int×Int)->Option Out) (e2:((List UInt8)×Int)->Option Out) (a1:Arg) (v1009:(List UInt8)×Int×Int):Option Out:=b1 self e2 (r2 k self e2 a1) a1 v1009
theorem B1_eq (k:Nat) (rec:RT Out) (K:KT Out) (a1:Arg) (v1009:(List UInt8)×Int×Int):D.N k [1,1,1,1,1,0,1,0,0] (T1 a1 v1009) (loopC rec (keepF [0,3,5] []) K)=B1 k (S1 rec a1) (X1_2 K a1) a1 v1009:=
 Eq.trans (b:=b1 (S1 rec a1) (X1_2 K a1) (s2 k rec K a1) a1 v1009) (by kernel_rfl) (by rw[s2_eq];rfl)
noncomputable def q2 (a1:Arg) (z1816:((List UInt8)×Int)):Option Out:=bif decide ((0:Int) < z1816.2) then ((spec_l2Size.sem (z1816.1,w64 (z1816.2 - (1:Int)),())).bind fun r1817=>bif decide (r1817.1=(0:Int)) then (some ((8:Int),())) else some ((0:Int),())) else some ((0:Int),())
noncomputable abbrev Q2 (_:Nat):=q2
theorem Q2_eq (k:Nat) (a1:Arg) (z1816:((List UInt8)×Int)):X1_2 (blockC 2 (seqC (D.N k [1,1,1,1,1,1]) D.K0)) a1 z1816=q2 a1 z1816:=by kernel_rfl
noncomputable def s1 (k:Nat) (a1:Arg) (c406:Int):((List UInt8)×Int×Int)->Option Out:=fun v1009=>D.L k [1,1,1,1,1,0,1,0,0] [0,3,5] [] (blockC 2 (seqC (D.N k [1,1,1,1,1,1]) D.K0)) (T1 a1 v1009)
noncomputable def r1 (k:Nat) (a1:Arg) (c406:Int):((List UInt8)×Int×Int)->Option Out:=rawIter (fun w v=>B1 k w (Q2 k a1) a1 v) k
theorem s1_eq (k:Nat) (a1:Arg) (c406:Int):s1 k a1 c406=r1 k a1 c406:=by
 funext v1009;
 have h2:X1_2 (blockC 2 (seqC (D.N k [1,1,1,1,1,1]) D.K0)) a1=Q2 k a1:=funext fun z=>Q2_eq k a1 z
 refine (iter_raw _ _ _ (T1 a1) (fun self v=>B1 k self (X1_2 (blockC 2 (seqC (D.N k [1,1,1,1,1,1]) D.K0)) a1) a1 v) (fun rec v=>B1_eq k rec (blockC 2 (seqC (D.N k [1,1,1,1,1,1]) D.K0)) a1 v) k v1009).trans ?_
 rw[h2]
 rfl
noncomputable def q0 (l1:((List UInt8)×Int×Int)->Option Out) (a1:Arg) (c406:Int) (z608:(Unit)):Option Out:=l1 (a1.1,c406,(0:Int))
noncomputable def Q0 (k:Nat) (a1:Arg) (c406:Int) (z608:(Unit)):Option Out:=q0 (r1 k a1 c406) a1 c406 z608
theorem Q0_eq (k:Nat) (a1:Arg) (c406:Int) (z608:(Unit)):X0_0 (blockC 0 (seqC (D.N k [1,1,1,1,1]) D.K0)) a1 c406 z608=Q0 k a1 c406 z608:=
 Eq.trans (b:=q0 (s1 k a1 c406) a1 c406 z608) (by kernel_rfl) (by rw[s1_eq];rfl)
noncomputable def s0 (k:Nat) (a1:Arg):Int->(Int)->Option Out:=fun c406=>fun v405=>D.L k [1,1,1,1,0,1,0,0] [0,3,4] [] (blockC 0 (seqC (D.N k [1,1,1,1,1]) D.K0)) (T0 a1 c406 v405)
noncomputable def r0 (k:Nat) (a1:Arg):Int->(Int)->Option Out:=fun c406=>rawIter (fun w v=>B0 k w (Q0 k a1 c406) a1 c406 v) k
theorem s0_eq (k:Nat) (a1:Arg):s0 k a1=r0 k a1:=by
 funext c406;funext v405;
 have h0:X0_0 (blockC 0 (seqC (D.N k [1,1,1,1,1]) D.K0)) a1 c406=Q0 k a1 c406:=funext fun z=>Q0_eq k a1 c406 z
 refine (iter_raw _ _ _ (T0 a1 c406) (fun self v=>B0 k self (X0_0 (blockC 0 (seqC (D.N k [1,1,1,1,1]) D.K0)) a1 c406) a1 c406 v) (fun rec v=>B0_eq k rec (blockC 0 (seqC (D.N k [1,1,1,1,1]) D.K0)) a1 c406 v) k v405).trans ?_
 rw[h0]
 rfl
noncomputable def p (l0:Int->(Int)->Option Out) (a1:Arg):Option Out:=bif !decide ((a1.1.length:Int)=(64:Int)) then (some ((1:Int),())) else (spec_l2Count.sem (a1.1,())).bind fun r2=>bif decide ((16:Int) < r2.1) then (some ((3:Int),())) else (spec_l2Low.sem (a1.1,())).bind fun r3=>bif decide (r3.1 < w64 ((2:Int)+(w64 ((2:Int)*r2.1)))) then (some ((3:Int),())) else (spec_l2Low.sem (a1.1,())).bind fun r4=>bif decide ((64:Int) < r4.1) then (some ((3:Int),())) else l0 r2.1 (0:Int)
theorem raw_eq (k:Nat) (a1:Arg):@Eq (Option Out) (D.W k a1) (p (r0 k a1) a1):=
 Eq.trans (b:=p (s0 k a1) a1) (by kernel_rfl) (by rw[s0_eq])
theorem ok:Ok prog 254 D.sig:=fd_ok func254 tlOk (by kernel_rfl) (fc spec_l2Count.ok (fc spec_l2Size.ok (fc spec_l2Low.ok (fc spec_l2Slot.ok (fc spec_l2Apart.ok (fn_nil _))))))
end spec_l2Fault
namespace spec_l6Cells
abbrev Arg:Type:=(List (List UInt8))×Unit
abbrev Out:Type:=Int×Unit
abbrev ps:PQ:=[(.ro,(.slc (.slc u8)))]
noncomputable def D:FD:={ fn:=f190,tl:=TL0,ps:=ps,rs:=[(i64,(roMd i64))],gl:=[(254,spec_l2Fault.D.sig),(255,spec_l2Count.D.sig),(256,spec_l2Size.D.sig),(257,spec_l1Read.D.sig),(258,spec_l2Cell.D.sig)],lv:=[(2,[0,3]),(8,[0,3,5])],lx:=[(0,[]),(2,[0,3])] }
noncomputable def sem (a:Arg):Option Out:=@lift Out fun k=>D.W k a
noncomputable def T0 (a1:Arg) (v402:(List (List UInt8))×Int):St:={ n:=50,sl:=[(0,.val (.slc (.slc u8)) v402.1),(3,.val i64 v402.2)],vr:=[],lent:=[] }
noncomputable def S0 (rec:RT Out) (a1:Arg):((List (List UInt8))×Int)->Option Out:=fun v402=>rec (T0 a1 v402)
noncomputable def X0_0 (K:KT Out) (a1:Arg):(Unit)->Option Out:=fun z=>K (.exit 0) ({ n:=50,sl:=[],vr:=[],lent:=[] })
noncomputable def T1 (a1:Arg) (c1006:List (List UInt8)) (c1007:Int) (v1005:Int):St:={ n:=50,sl:=[(0,.val (.slc (.slc u8)) c1006),(3,.val i64 c1007),(5,.val i64 v1005)],vr:=[],lent:=[] }
noncomputable def b1 (self:Int->Option Out) (e2:(Unit)->Option Out) (a1:Arg) (c1006:List (List UInt8)) (c1007:Int) (v1005:Int):Option Out:=if 0<=c1007 then ((c1006[c1007.toNat]?).bind fun x1208=>(spec_l2Count.sem (x1208,())).bind fun r1209=>bif decide (v1005 < r1209.1) then (if 0<=c1007 then ((c1006[c1007.toNat]?).bind fun x1210=>(spec_l2Size.sem (x1210,v1005,())).bind fun r1211=>bif decide ((0:Int) < r1211.1) then (if 0<=c1007 then ((c1006[c1007.toNat]?).bind fun x1212=>(spec_l2Cell.sem (x1212,v1005,())).bind fun r1213=>(spec_l1Read.sem (r1213.1,())).bind fun r1214=>bif !r1214.2.1 then (some ((5:Int),())) else self (w64 (v1005+(1:Int)))) else none) else self (w64 (v1005+(1:Int)))) else none) else e2 ()) else none
noncomputable abbrev B1 (_:Nat):=b1
noncomputable def q0 (self:((List (List UInt8))×Int)->Option Out) (e0:(Unit)->Option Out) (a1:Arg) (c1006:List (List UInt8)) (c1007:Int) (z1215:(Unit)):Option Out:=self (c1006,w64 (c1007+(1:Int)))
noncomputable abbrev Q0 (_:Nat):=q0
noncomputable def s1 (k:Nat) (rec:RT Out) (K:KT Out) (a1:Arg):(List (List UInt8))->Int->(Int)->Option Out:=fun c1006 c1007=>fun v1005=>D.L k [1,0,1,0,0,1,0,0,1,1,0,0] [0,3,5] [] (blockC 2 (blockC 1 (seqC (D.N k [1,0,1,0,0,1,1]) (loopC rec (keepF [0,3] []) K)))) (T1 a1 c1006 c1007 v1005)
noncomputable def r1 (k:Nat) (self:((List (List UInt8))×Int)->Option Out) (e0:(Unit)->Option Out) (a1:Arg):(List (List UInt8))->Int->(Int)->Option Out:=fun c1006 c1007=>rawIter (fun w v=>B1 k w (Q0 k self e0 a1 c1006 c1007) a1 c1006 c1007 v) k
theorem s1_eq (k:Nat) (rec:RT Out) (K:KT Out) (a1:Arg):s1 k rec K a1=r1 k (S0 rec a1) (X0_0 K a1) a1:=
 funext fun c1006=>funext fun c1007=>funext fun v1005=>iter_raw _ _ _ (T1 a1 c1006 c1007) _ (fun rec v=>by kernel_rfl) k v1005
noncomputable def b0 (self:((List (List UInt8))×Int)->Option Out) (e0:(Unit)->Option Out) (l1:(List (List UInt8))->Int->(Int)->Option Out) (a1:Arg) (v402:(List (List UInt8))×Int):Option Out:=bif decide (v402.2 < (v402.1.length:Int)) then (if 0<=v402.2 then ((v402.1[v402.2.toNat]?).bind fun x603=>(spec_l2Fault.sem (x603,())).bind fun r604=>bif !decide (r604.1=(0:Int)) then (some (r604.1,())) else l1 v402.1 v402.2 (0:Int)) else none) else e0 ()
noncomputable def B0 (k:Nat) (self:((List (List UInt8))×Int)->Option Out) (e0:(Unit)->Option Out) (a1:Arg) (v402:(List (List UInt8))×Int):Option Out:=b0 self e0 (r1 k self e0 a1) a1 v402
theorem B0_eq (k:Nat) (rec:RT Out) (K:KT Out) (a1:Arg) (v402:(List (List UInt8))×Int):D.N k [1,0,1,0,0] (T0 a1 v402) (loopC rec (keepF [0,3] []) K)=B0 k (S0 rec a1) (X0_0 K a1) a1 v402:=
 Eq.trans (b:=b0 (S0 rec a1) (X0_0 K a1) (s1 k rec K a1) a1 v402) (by kernel_rfl) (by rw[s1_eq];rfl)
noncomputable def q1 (a1:Arg) (z1216:(Unit)):Option Out:=some ((0:Int),())
noncomputable abbrev Q1 (_:Nat):=q1
theorem Q1_eq (k:Nat) (a1:Arg) (z1216:(Unit)):X0_0 (blockC 0 (seqC (D.N k [1,1]) D.K0)) a1 z1216=q1 a1 z1216:=by kernel_rfl
noncomputable def s0 (k:Nat) (a1:Arg):((List (List UInt8))×Int)->Option Out:=fun v402=>D.L k [1,0,1,0,0] [0,3] [] (blockC 0 (seqC (D.N k [1,1]) D.K0)) (T0 a1 v402)
noncomputable def r0 (k:Nat) (a1:Arg):((List (List UInt8))×Int)->Option Out:=rawIter (fun w v=>B0 k w (Q1 k a1) a1 v) k
theorem s0_eq (k:Nat) (a1:Arg):s0 k a1=r0 k a1:=by
 funext v402;
 have h0:X0_0 (blockC 0 (seqC (D.N k [1,1]) D.K0)) a1=Q1 k a1:=funext fun z=>Q1_eq k a1 z
 refine (iter_raw _ _ _ (T0 a1) (fun self v=>B0 k self (X0_0 (blockC 0 (seqC (D.N k [1,1]) D.K0)) a1) a1 v) (fun rec v=>B0_eq k rec (blockC 0 (seqC (D.N k [1,1]) D.K0)) a1 v) k v402).trans ?_
 rw[h0]
 rfl
noncomputable def p (l0:((List (List UInt8))×Int)->Option Out) (a1:Arg):Option Out:=l0 (a1.1,(0:Int))
theorem raw_eq (k:Nat) (a1:Arg):@Eq (Option Out) (D.W k a1) (p (r0 k a1) a1):=
 Eq.trans (b:=p (s0 k a1) a1) (by kernel_rfl) (by rw[s0_eq])
theorem ok:Ok prog 190 D.sig:=fd_ok func190 tlOk (by kernel_rfl) (fc spec_l2Fault.ok (fc spec_l2Count.ok (fc spec_l2Size.ok (fc spec_l1Read.ok (fc spec_l2Cell.ok (fn_nil _))))))
end spec_l6Cells
namespace spec_l6Stubs
abbrev Arg:Type:=(List L6Spot)×(List (List UInt8))×Unit
abbrev Out:Type:=Int×Unit
abbrev ps:PQ:=[(.ro,(.slc tL6Spot)),(.ro,(.slc (.slc u8)))]
noncomputable def D:FD:={ fn:=f191,tl:=TL0,ps:=ps,rs:=[(i64,(roMd i64))],gl:=[(219,spec_l6Cell.D.sig)],lv:=[(2,[0,1,5]),(9,[0,8]),(12,[0,8,9])],lx:=[(0,[0]),(1,[0,1,5]),(2,[]),(4,[0,8])],od:=[(5,[0,1,2,3,4,5,6,7,8,9,10,11,12,13,14,15,16,17,18,19]),(16,[0,1,2,3,4,5,6,7,8,9,10,11,12,13,14,15,16,17,18,19,20,21,22,23,24,25,26,27,28,29,30,31,32,33])],ar:=[(5,[6,12])],pd:=[(5,[17])] }
noncomputable def sem (a:Arg):Option Out:=@lift Out fun k=>D.W k a
noncomputable def T0 (a1:Arg) (v402:Int):St:={ n:=102,sl:=[(0,.val (.slc tL6Spot) a1.1),(1,.val (.slc (.slc u8)) a1.2.1),(5,.val i64 v402)],vr:=[],lent:=[] }
noncomputable def S0 (rec:RT Out) (a1:Arg):(Int)->Option Out:=fun v402=>rec (T0 a1 v402)
noncomputable def X0_0 (K:KT Out) (a1:Arg):(Unit)->Option Out:=fun z=>K (.exit 0) ({ n:=102,sl:=[(0,.val (.slc tL6Spot) a1.1)],vr:=[],lent:=[] })
noncomputable def b0 (self:Int->Option Out) (e0:(Unit)->Option Out) (a1:Arg) (v402:Int):Option Out:=bif decide (v402 < (a1.1.length:Int)) then (if 0<=v402 then ((a1.1[v402.toNat]?).bind fun x603=>bif !decide (x603.2.2.1.2.1=(1:Int)) then (self (w64 (v402+(1:Int)))) else if 0<=v402 then ((a1.1[v402.toNat]?).bind fun x604=>if 0<=v402 then ((a1.1[v402.toNat]?).bind fun x605=>(spec_l6Cell.sem (a1.2.1,x604.2.2.1.2.2.1,x605.2.2.1.2.2.2.1,())).bind fun r606=>bif !r606.2.1 then (some ((4:Int),())) else bif !decide (r606.1.2.1=(2:Int)) then (some ((4:Int),())) else self (w64 (v402+(1:Int)))) else none) else none) else none) else e0 ()
noncomputable abbrev B0 (_:Nat):=b0
theorem B0_eq (k:Nat) (rec:RT Out) (K:KT Out) (a1:Arg) (v402:Int):D.N k [1,0,1,0,0] (T0 a1 v402) (loopC rec (keepF [0,1,5] []) K)=b0 (S0 rec a1) (X0_0 K a1) a1 v402:=by kernel_rfl
noncomputable def T1 (a1:Arg) (v1008:(List L6Spot)×Int):St:={ n:=102,sl:=[(0,.val (.slc tL6Spot) v1008.1),(8,.val i64 v1008.2)],vr:=[],lent:=[] }
noncomputable def S1 (rec:RT Out) (a1:Arg):((List L6Spot)×Int)->Option Out:=fun v1008=>rec (T1 a1 v1008)
noncomputable def X1_2 (K:KT Out) (a1:Arg):(Unit)->Option Out:=fun z=>K (.exit 2) ({ n:=102,sl:=[],vr:=[],lent:=[] })
noncomputable def T2 (a1:Arg) (c1610:List L6Spot) (c1611:Int) (v1609:Int):St:={ n:=102,sl:=[(0,.val (.slc tL6Spot) c1610),(8,.val i64 c1611),(9,.val i64 v1609)],vr:=[],lent:=[] }
noncomputable def b2 (self:Int->Option Out) (e4:(Unit)->Option Out) (a1:Arg) (c1610:List L6Spot) (c1611:Int) (v1609:Int):Option Out:=bif decide (v1609 < c1611) then (if 0<=c1611 then ((c1610[c1611.toNat]?).bind fun x1812=>if 0<=v1609 then ((c1610[v1609.toNat]?).bind fun x1813=>bif decide (x1812.2.2.1.2.1=(1:Int)) then (bif decide (x1813.2.2.1.2.1=(1:Int)) then (bif decide (x1812.2.2.1.2.2.1=x1813.2.2.1.2.2.1) then (bif decide (x1812.2.2.1.2.2.2.1=x1813.2.2.1.2.2.2.1) then (some ((6:Int),())) else self (w64 (v1609+(1:Int)))) else self (w64 (v1609+(1:Int)))) else self (w64 (v1609+(1:Int)))) else self (w64 (v1609+(1:Int)))) else none) else none) else e4 ()
noncomputable abbrev B2 (_:Nat):=b2
noncomputable def q1 (self:((List L6Spot)×Int)->Option Out) (e2:(Unit)->Option Out) (a1:Arg) (c1610:List L6Spot) (c1611:Int) (z1814:(Unit)):Option Out:=self (c1610,w64 (c1611+(1:Int)))
noncomputable abbrev Q1 (_:Nat):=q1
noncomputable def s2 (k:Nat) (rec:RT Out) (K:KT Out) (a1:Arg):(List L6Spot)->Int->(Int)->Option Out:=fun c1610 c1611=>fun v1609=>D.L k [1,1,0,1,0,0,1,0,0,1,0,0] [0,8,9] [] (blockC 4 (blockC 3 (seqC (D.N k [1,1,0,1,0,0,1,1]) (loopC rec (keepF [0,8] []) K)))) (T2 a1 c1610 c1611 v1609)
noncomputable def r2 (k:Nat) (self:((List L6Spot)×Int)->Option Out) (e2:(Unit)->Option Out) (a1:Arg):(List L6Spot)->Int->(Int)->Option Out:=fun c1610 c1611=>rawIter (fun w v=>B2 k w (Q1 k self e2 a1 c1610 c1611) a1 c1610 c1611 v) k
theorem s2_eq (k:Nat) (rec:RT Out) (K:KT Out) (a1:Arg):s2 k rec K a1=r2 k (S1 rec a1) (X1_2 K a1) a1:=
 funext fun c1610=>funext fun c1611=>funext fun v1609=>iter_raw _ _ _ (T2 a1 c1610 c1611) _ (fun rec v=>by kernel_rfl) k v1609
noncomputable def b1 (self:((List L6Spot)×Int)->Option Out) (e2:(Unit)->Option Out) (l2:(List L6Spot)->Int->(Int)->Option Out) (a1:Arg) (v1008:(List L6Spot)×Int):Option Out:=bif decide (v1008.2 < (v1008.1.length:Int)) then (l2 v1008.1 v1008.2 (0:Int)) else e2 ()
noncomputable def B1 (k:Nat) (self:((List L6Spot)×Int)->Option Out) (e2:(Unit)->Option Out) (a1:Arg) (v1008:(List L6Spot)×Int):Option Out:=b1 self e2 (r2 k self e2 a1) a1 v1008
theorem B1_eq (k:Nat) (rec:RT Out) (K:KT Out) (a1:Arg) (v1008:(List L6Spot)×Int):D.N k [1,1,0,1,0,0] (T1 a1 v1008) (loopC rec (keepF [0,8] []) K)=B1 k (S1 rec a1) (X1_2 K a1) a1 v1008:=
 Eq.trans (b:=b1 (S1 rec a1) (X1_2 K a1) (s2 k rec K a1) a1 v1008) (by kernel_rfl) (by rw[s2_eq];rfl)
noncomputable def q2 (a1:Arg) (z1815:(Unit)):Option Out:=some ((0:Int),())
noncomputable abbrev Q2 (_:Nat):=q2
theorem Q2_eq (k:Nat) (a1:Arg) (z1815:(Unit)):X1_2 (blockC 2 (seqC (D.N k [1,1,1]) D.K0)) a1 z1815=q2 a1 z1815:=by kernel_rfl
noncomputable def s1 (k:Nat) (a1:Arg):((List L6Spot)×Int)->Option Out:=fun v1008=>D.L k [1,1,0,1,0,0] [0,8] [] (blockC 2 (seqC (D.N k [1,1,1]) D.K0)) (T1 a1 v1008)
noncomputable def r1 (k:Nat) (a1:Arg):((List L6Spot)×Int)->Option Out:=rawIter (fun w v=>B1 k w (Q2 k a1) a1 v) k
theorem s1_eq (k:Nat) (a1:Arg):s1 k a1=r1 k a1:=by
 funext v1008;
 have h2:X1_2 (blockC 2 (seqC (D.N k [1,1,1]) D.K0)) a1=Q2 k a1:=funext fun z=>Q2_eq k a1 z
 refine (iter_raw _ _ _ (T1 a1) (fun self v=>B1 k self (X1_2 (blockC 2 (seqC (D.N k [1,1,1]) D.K0)) a1) a1 v) (fun rec v=>B1_eq k rec (blockC 2 (seqC (D.N k [1,1,1]) D.K0)) a1 v) k v1008).trans ?_
 rw[h2]
 rfl
noncomputable def q0 (l1:((List L6Spot)×Int)->Option Out) (a1:Arg) (z607:(Unit)):Option Out:=l1 (a1.1,(0:Int))
noncomputable def Q0 (k:Nat) (a1:Arg) (z607:(Unit)):Option Out:=q0 (r1 k a1) a1 z607
theorem Q0_eq (k:Nat) (a1:Arg) (z607:(Unit)):X0_0 (blockC 0 (seqC (D.N k [1,1]) D.K0)) a1 z607=Q0 k a1 z607:=
 Eq.trans (b:=q0 (s1 k a1) a1 z607) (by kernel_rfl) (by rw[s1_eq];rfl)
noncomputable def s0 (k:Nat) (a1:Arg):(Int)->Option Out:=fun v402=>D.L k [1,0,1,0,0] [0,1,5] [] (blockC 0 (seqC (D.N k [1,1]) D.K0)) (T0 a1 v402)
noncomputable def r0 (k:Nat) (a1:Arg):(Int)->Option Out:=rawIter (fun w v=>B0 k w (Q0 k a1) a1 v) k
theorem s0_eq (k:Nat) (a1:Arg):s0 k a1=r0 k a1:=by
 funext v402;
 have h0:X0_0 (blockC 0 (seqC (D.N k [1,1]) D.K0)) a1=Q0 k a1:=funext fun z=>Q0_eq k a1 z
 refine (iter_raw _ _ _ (T0 a1) (fun self v=>B0 k self (X0_0 (blockC 0 (seqC (D.N k [1,1]) D.K0)) a1) a1 v) (fun rec v=>B0_eq k rec (blockC 0 (seqC (D.N k [1,1]) D.K0)) a1 v) k v402).trans ?_
 rw[h0]
 rfl
noncomputable def p (l0:(Int)->Option Out) (a1:Arg):Option Out:=l0 (0:Int)
theorem raw_eq (k:Nat) (a1:Arg):@Eq (Option Out) (D.W k a1) (p (r0 k a1) a1):=
 Eq.trans (b:=p (s0 k a1) a1) (by kernel_rfl) (by rw[s0_eq])
theorem ok:Ok prog 191 D.sig:=fd_ok func191 tlOk (by kernel_rfl) (fc spec_l6Cell.ok (fn_nil _))
end spec_l6Stubs
namespace spec_l6Fault
abbrev Arg:Type:=(List (List UInt8))×Unit
abbrev Out:Type:=Int×Unit
abbrev ps:PQ:=[(.ro,(.slc (.slc u8)))]
noncomputable def D:FD:={ fn:=f119,tl:=TL0,ps:=ps,rs:=[(i64,(roMd i64))],gl:=[(145,spec_l6Seen.D.sig),(190,spec_l6Cells.D.sig),(191,spec_l6Stubs.D.sig),(192,spec_l6Spots.D.sig)],lv:=[(11,[5,6]),(14,[5,6,7])],lx:=[(0,[]),(2,[5,6])],od:=[(16,[0,1,2,3,4,5,6,7,8,9,10,11,12,13,14,15,16,17,18,19,20,21,22,23,24,25,26,27,28,29,30,31])] }
noncomputable def sem (a:Arg):Option Out:=@lift Out fun k=>D.W k a
noncomputable def T0 (a1:Arg) (v406:(List L6Spot)×Int):St:={ n:=68,sl:=[(5,.own (.slc tL6Spot) (ownMd (.slc tL6Spot)) [] v406.1),(6,.val i64 v406.2)],vr:=[],lent:=[] }
noncomputable def S0 (rec:RT Out) (a1:Arg):((List L6Spot)×Int)->Option Out:=fun v406=>rec (T0 a1 v406)
noncomputable def X0_0 (K:KT Out) (a1:Arg):(Unit)->Option Out:=fun z=>K (.exit 0) ({ n:=68,sl:=[],vr:=[],lent:=[] })
noncomputable def T1 (a1:Arg) (c1008:List L6Spot) (c1009:Int) (v1007:Int):St:={ n:=68,sl:=[(5,.own (.slc tL6Spot) (ownMd (.slc tL6Spot)) [] c1008),(6,.val i64 c1009),(7,.val i64 v1007)],vr:=[],lent:=[] }
noncomputable def b1 (self:Int->Option Out) (e2:(Unit)->Option Out) (a1:Arg) (c1008:List L6Spot) (c1009:Int) (v1007:Int):Option Out:=bif decide (v1007 < c1009) then (if 0<=c1009/\c1009 < (c1008.length:Int) then ((c1008[c1009.toNat]?).bind fun x1210=>if 0<=v1007/\v1007 < (c1008.length:Int) then ((c1008[v1007.toNat]?).bind fun x1211=>bif decide (x1210.2.2.1.2.2.2.2.1.1=x1211.2.2.1.2.2.2.2.1.1) then (if 0<=c1009/\c1009 < (c1008.length:Int) then ((c1008[c1009.toNat]?).bind fun x1212=>if 0<=v1007/\v1007 < (c1008.length:Int) then ((c1008[v1007.toNat]?).bind fun x1213=>bif decide (x1212.2.2.1.2.2.2.2.1.2.1=x1213.2.2.1.2.2.2.2.1.2.1) then (some ((8:Int),())) else self (w64 (v1007+(1:Int)))) else none) else none) else self (w64 (v1007+(1:Int)))) else none) else none) else e2 ()
noncomputable abbrev B1 (_:Nat):=b1
noncomputable def q0 (self:((List L6Spot)×Int)->Option Out) (e0:(Unit)->Option Out) (a1:Arg) (c1008:List L6Spot) (c1009:Int) (z1214:(Unit)):Option Out:=self (c1008,w64 (c1009+(1:Int)))
noncomputable abbrev Q0 (_:Nat):=q0
noncomputable def s1 (k:Nat) (rec:RT Out) (K:KT Out) (a1:Arg):(List L6Spot)->Int->(Int)->Option Out:=fun c1008 c1009=>fun v1007=>D.L k [1,1,1,1,1,0,1,0,0,1,0,0,1,0,0] [5,6,7] [] (blockC 2 (blockC 1 (seqC (D.N k [1,1,1,1,1,0,1,0,0,1,1]) (loopC rec (keepF [5,6] []) K)))) (T1 a1 c1008 c1009 v1007)
noncomputable def r1 (k:Nat) (self:((List L6Spot)×Int)->Option Out) (e0:(Unit)->Option Out) (a1:Arg):(List L6Spot)->Int->(Int)->Option Out:=fun c1008 c1009=>rawIter (fun w v=>B1 k w (Q0 k self e0 a1 c1008 c1009) a1 c1008 c1009 v) k
theorem s1_eq (k:Nat) (rec:RT Out) (K:KT Out) (a1:Arg):s1 k rec K a1=r1 k (S0 rec a1) (X0_0 K a1) a1:=
 funext fun c1008=>funext fun c1009=>funext fun v1007=>iter_raw _ _ _ (T1 a1 c1008 c1009) _ (fun rec v=>by kernel_rfl) k v1007
noncomputable def b0 (self:((List L6Spot)×Int)->Option Out) (e0:(Unit)->Option Out) (l1:(List L6Spot)->Int->(Int)->Option Out) (a1:Arg) (v406:(List L6Spot)×Int):Option Out:=bif decide (v406.2 < (v406.1.length:Int)) then (l1 v406.1 v406.2 (0:Int)) else e0 ()
noncomputable def B0 (k:Nat) (self:((List L6Spot)×Int)->Option Out) (e0:(Unit)->Option Out) (a1:Arg) (v406:(List L6Spot)×Int):Option Out:=b0 self e0 (r1 k self e0 a1) a1 v406
theorem B0_eq (k:Nat) (rec:RT Out) (K:KT Out) (a1:Arg) (v406:(List L6Spot)×Int):D.N k [1,1,1,1,1,0,1,0,0] (T0 a1 v406) (loopC rec (keepF [5,6] []) K)=B0 k (S0 rec a1) (X0_0 K a1) a1 v406:=
 Eq.trans (b:=b0 (S0 rec a1) (X0_0 K a1) (s1 k rec K a1) a1 v406) (by kernel_rfl) (by rw[s1_eq];rfl)
noncomputable def q1 (a1:Arg) (z1215:(Unit)):Option Out:=some ((0:Int),())
noncomputable abbrev Q1 (_:Nat):=q1
theorem Q1_eq (k:Nat) (a1:Arg) (z1215:(Unit)):X0_0 (blockC 0 (seqC (D.N k [1,1,1,1,1,1]) D.K0)) a1 z1215=q1 a1 z1215:=by kernel_rfl
noncomputable def s0 (k:Nat) (a1:Arg):((List L6Spot)×Int)->Option Out:=fun v406=>D.L k [1,1,1,1,1,0,1,0,0] [5,6] [] (blockC 0 (seqC (D.N k [1,1,1,1,1,1]) D.K0)) (T0 a1 v406)
noncomputable def r0 (k:Nat) (a1:Arg):((List L6Spot)×Int)->Option Out:=rawIter (fun w v=>B0 k w (Q1 k a1) a1 v) k
theorem s0_eq (k:Nat) (a1:Arg):s0 k a1=r0 k a1:=by
 funext v406;
 have h0:X0_0 (blockC 0 (seqC (D.N k [1,1,1,1,1,1]) D.K0)) a1=Q1 k a1:=funext fun z=>Q1_eq k a1 z
 refine (iter_raw _ _ _ (T0 a1) (fun self v=>B0 k self (X0_0 (blockC 0 (seqC (D.N k [1,1,1,1,1,1]) D.K0)) a1) a1 v) (fun rec v=>B0_eq k rec (blockC 0 (seqC (D.N k [1,1,1,1,1,1]) D.K0)) a1 v) k v406).trans ?_
 rw[h0]
 rfl
noncomputable def p (l0:((List L6Spot)×Int)->Option Out) (a1:Arg):Option Out:=bif decide ((12:Int) < (a1.1.length:Int)) then (some ((2:Int),())) else (spec_l6Cells.sem (a1.1,())).bind fun r2=>bif !decide (r2.1=(0:Int)) then (some (r2.1,())) else (spec_l6Spots.sem (a1.1,())).bind fun r3=>(spec_l6Stubs.sem (r3.1,a1.1,())).bind fun r4=>bif !decide (r4.1=(0:Int)) then (some (r4.1,())) else (spec_l6Seen.sem (a1.1,())).bind fun r5=>l0 (r5.1,(0:Int))
theorem raw_eq (k:Nat) (a1:Arg):@Eq (Option Out) (D.W k a1) (p (r0 k a1) a1):=
 Eq.trans (b:=p (s0 k a1) a1) (by kernel_rfl) (by rw[s0_eq])
theorem ok:Ok prog 119 D.sig:=fd_ok func119 tlOk (by kernel_rfl) (fc spec_l6Seen.ok (fc spec_l6Cells.ok (fc spec_l6Stubs.ok (fc spec_l6Spots.ok (fn_nil _)))))
end spec_l6Fault
namespace spec_l7Copy
abbrev Arg:Type:=(List (List UInt8))×Unit
abbrev Out:Type:=(List (List UInt8))×Unit
abbrev ps:PQ:=[(.ro,(.slc (.slc u8)))]
noncomputable def D:FD:={ fn:=f232,tl:=TL0,ps:=ps,rs:=[((.slc (.slc u8)),(ownMd (.slc (.slc u8))))],gl:=[(109,spec_l2Copy.D.sig)],lv:=[(3,[0,3,4])],lx:=[(0,[3])] }
noncomputable def sem (a:Arg):Option Out:=@lift Out fun k=>D.W k a
noncomputable def T0 (a1:Arg) (v402:(List (List UInt8))×Int):St:={ n:=21,sl:=[(0,.val (.slc (.slc u8)) a1.1),(3,.own (.slc (.slc u8)) (ownMd (.slc (.slc u8))) [] v402.1),(4,.val i64 v402.2)],vr:=[],lent:=[] }
noncomputable def b0 (self:((List (List UInt8))×Int)->Option Out) (e0:(List (List UInt8))->Option Out) (a1:Arg) (v402:(List (List UInt8))×Int):Option Out:=bif decide (v402.2 < (a1.1.length:Int)) then (if 0<=v402.2 then ((a1.1[v402.2.toNat]?).bind fun x603=>(spec_l2Copy.sem (x603,())).bind fun r604=>if v402.1.length+[r604.1].length<=CAP then (self (v402.1++[r604.1],w64 (v402.2+(1:Int)))) else none) else none) else e0 v402.1
noncomputable abbrev B0 (_:Nat):=b0
noncomputable def q0 (a1:Arg) (z605:(List (List UInt8))):Option Out:=some (z605,())
noncomputable abbrev Q0 (_:Nat):=q0
noncomputable def s0 (k:Nat) (a1:Arg):((List (List UInt8))×Int)->Option Out:=fun v402=>D.L k [1,1,0,1,0,0] [0,3,4] [] (blockC 0 (seqC (D.N k [1,1,1]) D.K0)) (T0 a1 v402)
noncomputable def r0 (k:Nat) (a1:Arg):((List (List UInt8))×Int)->Option Out:=rawIter (fun w v=>B0 k w (Q0 k a1) a1 v) k
theorem s0_eq (k:Nat) (a1:Arg):s0 k a1=r0 k a1:=
 funext fun v402=>iter_raw _ _ _ (T0 a1) _ (fun rec v=>by kernel_rfl) k v402
noncomputable def p (l0:((List (List UInt8))×Int)->Option Out) (a1:Arg):Option Out:=l0 (([]:List (List UInt8)),(0:Int))
theorem raw_eq (k:Nat) (a1:Arg):@Eq (Option Out) (D.W k a1) (p (r0 k a1) a1):=
 Eq.trans (b:=p (s0 k a1) a1) (by kernel_rfl) (by rw[s0_eq])
theorem ok:Ok prog 232 D.sig:=fd_ok func232 tlOk (by kernel_rfl) (fc spec_l2Copy.ok (fn_nil _))
end spec_l7Copy
namespace spec_l7Bad
abbrev Arg:Type:=Int×Unit
abbrev Out:Type:=EditsResult×Unit
abbrev ps:PQ:=[(.ro,i64)]
noncomputable def D:FD:={ fn:=f259,tl:=TL0,ps:=ps,rs:=[(tEditsResult,(ownMd tEditsResult))] }
noncomputable def sem (a:Arg):Option Out:=@lift Out fun k=>D.W k a
noncomputable def p (a1:Arg):Option Out:=some ((a1.1,([]:List Run),([]:List (List UInt8)),()),())
theorem raw_eq (k:Nat) (a1:Arg):@Eq (Option Out) (D.W k a1) (p a1):=by kernel_rfl
theorem ok:Ok prog 259 D.sig:=fd_ok func259 tlOk (by kernel_rfl) (fn_nil _)
end spec_l7Bad
namespace spec_l2New
abbrev Arg:Type:=UInt8×Unit
abbrev Out:Type:=(List UInt8)×Unit
abbrev ps:PQ:=[(.ro,u8)]
noncomputable def D:FD:={ fn:=f261,tl:=TL0,ps:=ps,rs:=[((.slc u8),(ownMd (.slc u8)))],lv:=[(3,[0,3,4])],lx:=[(0,[3])] }
noncomputable def sem (a:Arg):Option Out:=@lift Out fun k=>D.W k a
noncomputable def T0 (a1:Arg) (v402:(List UInt8)×Int):St:={ n:=19,sl:=[(0,.val u8 a1.1),(3,.own (.slc u8) (ownMd (.slc u8)) [] v402.1),(4,.val i64 v402.2)],vr:=[],lent:=[] }
noncomputable def b0 (self:((List UInt8)×Int)->Option Out) (e0:(List UInt8)->Option Out) (a1:Arg) (v402:(List UInt8)×Int):Option Out:=bif decide (v402.2 < (64:Int)) then (if 0<=v402.2/\v402.2 < (v402.1.length:Int) then ((v402.1[v402.2.toNat]?).bind fun x603=>self (v402.1.set v402.2.toNat a1.1,w64 (v402.2+(1:Int)))) else none) else e0 v402.1
noncomputable abbrev B0 (_:Nat):=b0
noncomputable def q0 (a1:Arg) (z604:(List UInt8)):Option Out:=if 0<=(0:Int)/\(0:Int) < (z604.length:Int) then ((z604[0]?).bind fun x605=>if 0<=(1:Int)/\(1:Int) < ((z604.set 0 (0:UInt8)).length:Int) then (((z604.set 0 (0:UInt8))[1]?).bind fun x606=>let y607:=(z604.set 0 (0:UInt8)).set 1 (64:UInt8);some (y607,())) else none) else none
noncomputable abbrev Q0 (_:Nat):=q0
noncomputable def s0 (k:Nat) (a1:Arg):((List UInt8)×Int)->Option Out:=fun v402=>D.L k [1,1,0,1,0,0] [0,3,4] [] (blockC 0 (seqC (D.N k [1,1,1]) D.K0)) (T0 a1 v402)
noncomputable def r0 (k:Nat) (a1:Arg):((List UInt8)×Int)->Option Out:=rawIter (fun w v=>B0 k w (Q0 k a1) a1 v) k
theorem s0_eq (k:Nat) (a1:Arg):s0 k a1=r0 k a1:=
 funext fun v402=>iter_raw _ _ _ (T0 a1) _ (fun rec v=>by kernel_rfl) k v402
noncomputable def p (l0:((List UInt8)×Int)->Option Out) (a1:Arg):Option Out:=if 0<=(64:Int)/\(64:Int)<=(64:Int)/\(64:Int)<=(CAP:Int) then (l0 (List.replicate 64 (0:UInt8),(0:Int))) else none
theorem raw_eq (k:Nat) (a1:Arg):@Eq (Option Out) (D.W k a1) (p (r0 k a1) a1):=
 Eq.trans (b:=p (s0 k a1) a1) (by kernel_rfl) (by rw[s0_eq])
theorem ok:Ok prog 261 D.sig:=fd_ok func261 tlOk (by kernel_rfl) (fn_nil _)
end spec_l2New
namespace spec_l3Apply
abbrev Arg:Type:=(List UInt8)×(List Run)×Unit
abbrev Out:Type:=(List UInt8)×Unit
abbrev ps:PQ:=[(.ro,(.slc u8)),(.ro,(.slc tRun))]
noncomputable def D:FD:={ fn:=f262,tl:=TL0,ps:=ps,rs:=[((.slc u8),(ownMd (.slc u8)))],gl:=[(109,spec_l2Copy.D.sig)],lv:=[(3,[1,5,6])],lx:=[(0,[5])],od:=[(5,[0,1,2,3,4,5,6,7,8,9,10,11,12])] }
noncomputable def sem (a:Arg):Option Out:=@lift Out fun k=>D.W k a
noncomputable def T0 (a1:Arg) (v403:(List UInt8)×Int):St:={ n:=29,sl:=[(1,.val (.slc tRun) a1.2.1),(5,.own (.slc u8) (ownMd (.slc u8)) [] v403.1),(6,.val i64 v403.2)],vr:=[],lent:=[] }
noncomputable def b0 (self:((List UInt8)×Int)->Option Out) (e0:(List UInt8)->Option Out) (a1:Arg) (v403:(List UInt8)×Int):Option Out:=bif decide (v403.2 < (a1.2.1.length:Int)) then (if 0<=v403.2 then ((a1.2.1[v403.2.toNat]?).bind fun x604=>if 0<=x604.1/\x604.1<=(v403.1.length:Int) then (if 0<=v403.2 then ((a1.2.1[v403.2.toNat]?).bind fun x605=>let y606:=over v403.1 x604.1.toNat (min x605.2.1.length (v403.1.length - x604.1.toNat)) x605.2.1;self (y606,w64 (v403.2+(1:Int)))) else none) else none) else none) else e0 v403.1
noncomputable abbrev B0 (_:Nat):=b0
noncomputable def q0 (a1:Arg) (z607:(List UInt8)):Option Out:=some (z607,())
noncomputable abbrev Q0 (_:Nat):=q0
noncomputable def s0 (k:Nat) (a1:Arg):((List UInt8)×Int)->Option Out:=fun v403=>D.L k [1,1,0,1,0,0] [1,5,6] [] (blockC 0 (seqC (D.N k [1,1,1]) D.K0)) (T0 a1 v403)
noncomputable def r0 (k:Nat) (a1:Arg):((List UInt8)×Int)->Option Out:=rawIter (fun w v=>B0 k w (Q0 k a1) a1 v) k
theorem s0_eq (k:Nat) (a1:Arg):s0 k a1=r0 k a1:=
 funext fun v403=>iter_raw _ _ _ (T0 a1) _ (fun rec v=>by kernel_rfl) k v403
noncomputable def p (l0:((List UInt8)×Int)->Option Out) (a1:Arg):Option Out:=(spec_l2Copy.sem (a1.1,())).bind fun r2=>l0 (r2.1,(0:Int))
theorem raw_eq (k:Nat) (a1:Arg):@Eq (Option Out) (D.W k a1) (p (r0 k a1) a1):=
 Eq.trans (b:=p (s0 k a1) a1) (by kernel_rfl) (by rw[s0_eq])
theorem ok:Ok prog 262 D.sig:=fd_ok func262 tlOk (by kernel_rfl) (fc spec_l2Copy.ok (fn_nil _))
end spec_l3Apply
namespace spec_ApplyRecord
abbrev Arg:Type:=(List (List UInt8))×Record×Unit
abbrev Out:Type:=EditsResult×Unit
abbrev ps:PQ:=[(.ro,(.slc (.slc u8))),(.ro,tRecord)]
noncomputable def D:FD:={ fn:=f193,tl:=TL0,ps:=ps,rs:=[(tEditsResult,(ownMd tEditsResult))],gl:=[(227,spec_l4Fault.D.sig),(232,spec_l7Copy.D.sig),(259,spec_l7Bad.D.sig),(260,spec_l4Runs.D.sig),(261,spec_l2New.D.sig),(262,spec_l3Apply.D.sig)],lv:=[(4,[0,3,4,5])],lx:=[(0,[0,3,4])],od:=[(20,[0,1,2,3,4,5,6]),(21,[0,1,2,3,4,5,6,7,8,9,10,11,12,13,14])] }
noncomputable def sem (a:Arg):Option Out:=@lift Out fun k=>D.W k a
noncomputable def T0 (a1:Arg) (v403:Int):St:={ n:=75,sl:=[(0,.val (.slc (.slc u8)) a1.1),(3,.box tRecord (roMd tRecord) [] a1.2.1),(4,.box tEditsResult (ownMd tEditsResult) [] ((0:Int),([]:List Run),([]:List (List UInt8)),())),(5,.val i64 v403)],vr:=[],lent:=[] }
noncomputable def b0 (self:Int->Option Out) (e0:(Unit)->Option Out) (a1:Arg) (v403:Int):Option Out:=bif decide (v403 < (a1.1.length:Int)) then (if 0<=v403 then ((a1.1[v403.toNat]?).bind fun x604=>bif !decide ((x604.length:Int)=(64:Int)) then ((spec_l7Bad.sem ((1:Int),())).bind fun r605=>some (r605.1,())) else self (w64 (v403+(1:Int)))) else none) else e0 ()
noncomputable abbrev B0 (_:Nat):=b0
noncomputable def q0 (a1:Arg) (z606:(Unit)):Option Out:=(spec_l4Fault.sem (a1.2.1,())).bind fun r607=>bif !decide (r607.1=(0:Int)) then ((spec_l7Bad.sem (r607.1,())).bind fun r608=>some (r608.1,())) else (spec_l7Copy.sem (a1.1,())).bind fun r609=>(spec_l4Runs.sem (a1.2.1.1,())).bind fun r610=>bif !r610.1 then (some (((0:Int),([]:List Run),r609.1,()),())) else bif decide ((a1.1.length:Int) < a1.2.1.2.2.1) then ((spec_l7Bad.sem ((1:Int),())).bind fun r611=>some (r611.1,())) else bif decide (a1.2.1.2.2.1=(12:Int)) then ((spec_l7Bad.sem ((2:Int),())).bind fun r612=>some (r612.1,())) else let j620:=fun (p619:EditsResult)=>(if 0<=a1.2.1.2.2.1/\a1.2.1.2.2.1 < (p619.2.2.1.length:Int) then ((p619.2.2.1[a1.2.1.2.2.1.toNat]?).bind fun x621=>(p619.2.2.1[a1.2.1.2.2.1.toNat]?).bind fun x622=>(spec_l3Apply.sem (x622,a1.2.1.2.2.2.1,())).bind fun r623=>if 0<=a1.2.1.2.2.1/\a1.2.1.2.2.1 < (p619.2.2.1.length:Int) then ((p619.2.2.1[a1.2.1.2.2.1.toNat]?).bind fun x624=>some ((p619.1,p619.2.1,p619.2.2.1.set a1.2.1.2.2.1.toNat r623.1,p619.2.2.2),())) else none) else none:Option Out);bif decide (a1.2.1.2.2.1=(a1.1.length:Int)) then ((spec_l2New.sem ((0:UInt8),())).bind fun r613=>if r609.1.length+[r613.1].length<=CAP then (j620 ((0:Int),([]:List Run),r609.1++[r613.1],())) else none) else j620 ((0:Int),([]:List Run),r609.1,())
noncomputable abbrev Q0 (_:Nat):=q0
noncomputable def s0 (k:Nat) (a1:Arg):(Int)->Option Out:=fun v403=>D.L k [1,1,0,1,0,0] [0,3,4,5] [] (blockC 0 (seqC (D.N k [1,1,1]) D.K0)) (T0 a1 v403)
noncomputable def r0 (k:Nat) (a1:Arg):(Int)->Option Out:=rawIter (fun w v=>B0 k w (Q0 k a1) a1 v) k
theorem s0_eq (k:Nat) (a1:Arg):s0 k a1=r0 k a1:=
 funext fun v403=>iter_raw _ _ _ (T0 a1) _ (fun rec v=>by kernel_rfl) k v403
noncomputable def p (l0:(Int)->Option Out) (a1:Arg):Option Out:=bif decide ((12:Int) < (a1.1.length:Int)) then ((spec_l7Bad.sem ((2:Int),())).bind fun r2=>some (r2.1,())) else l0 (0:Int)
theorem raw_eq (k:Nat) (a1:Arg):@Eq (Option Out) (D.W k a1) (p (r0 k a1) a1):=
 Eq.trans (b:=p (s0 k a1) a1) (by kernel_rfl) (by rw[s0_eq])
theorem ok:Ok prog 193 D.sig:=fd_ok func193 tlOk (by kernel_rfl) (fc spec_l4Fault.ok (fc spec_l7Copy.ok (fc spec_l7Bad.ok (fc spec_l4Runs.ok (fc spec_l2New.ok (fc spec_l3Apply.ok (fn_nil _)))))))
end spec_ApplyRecord
namespace spec_l12Redo
abbrev Arg:Type:=(List Record)×Unit
abbrev Out:Type:=(List (List UInt8))×Int×Unit
abbrev ps:PQ:=[(.ro,(.slc tRecord))]
noncomputable def D:FD:={ fn:=f120,tl:=TL0,ps:=ps,rs:=[((.slc (.slc u8)),(ownMd (.slc (.slc u8)))),(i64,(roMd i64))],gl:=[(193,spec_ApplyRecord.D.sig)],lv:=[(3,[0,4,5])],lx:=[(0,[4])],od:=[(7,[0,1,2,3])] }
noncomputable def sem (a:Arg):Option Out:=@lift Out fun k=>D.W k a
noncomputable def T0 (a1:Arg) (v402:(List (List UInt8))×Int):St:={ n:=28,sl:=[(0,.val (.slc tRecord) a1.1),(4,.own (.slc (.slc u8)) (ownMd (.slc (.slc u8))) [] v402.1),(5,.val i64 v402.2)],vr:=[],lent:=[] }
noncomputable def b0 (self:((List (List UInt8))×Int)->Option Out) (e0:(List (List UInt8))->Option Out) (a1:Arg) (v402:(List (List UInt8))×Int):Option Out:=bif decide (v402.2 < (a1.1.length:Int)) then (if 0<=v402.2 then ((a1.1[v402.2.toNat]?).bind fun x603=>(spec_ApplyRecord.sem (v402.1,x603,())).bind fun r604=>bif !decide (r604.1.1=(0:Int)) then (some (([]:List (List UInt8)),r604.1.1,())) else self (r604.1.2.2.1,w64 (v402.2+(1:Int)))) else none) else e0 v402.1
noncomputable abbrev B0 (_:Nat):=b0
noncomputable def q0 (a1:Arg) (z605:(List (List UInt8))):Option Out:=some (z605,(0:Int),())
noncomputable abbrev Q0 (_:Nat):=q0
noncomputable def s0 (k:Nat) (a1:Arg):((List (List UInt8))×Int)->Option Out:=fun v402=>D.L k [1,1,0,1,0,0] [0,4,5] [] (blockC 0 (seqC (D.N k [1,1,1]) D.K0)) (T0 a1 v402)
noncomputable def r0 (k:Nat) (a1:Arg):((List (List UInt8))×Int)->Option Out:=rawIter (fun w v=>B0 k w (Q0 k a1) a1 v) k
theorem s0_eq (k:Nat) (a1:Arg):s0 k a1=r0 k a1:=
 funext fun v402=>iter_raw _ _ _ (T0 a1) _ (fun rec v=>by kernel_rfl) k v402
noncomputable def p (l0:((List (List UInt8))×Int)->Option Out) (a1:Arg):Option Out:=l0 (([]:List (List UInt8)),(0:Int))
theorem raw_eq (k:Nat) (a1:Arg):@Eq (Option Out) (D.W k a1) (p (r0 k a1) a1):=
 Eq.trans (b:=p (s0 k a1) a1) (by kernel_rfl) (by rw[s0_eq])
theorem ok:Ok prog 120 D.sig:=fd_ok func120 tlOk (by kernel_rfl) (fc spec_ApplyRecord.ok (fn_nil _))
end spec_l12Redo
namespace spec_l12Records
abbrev Arg:Type:=Log×Unit
abbrev Out:Type:=(List Record)×Unit
abbrev ps:PQ:=[(.ro,(.ptr tLog))]
noncomputable def D:FD:={ fn:=f121,tl:=TL0,ps:=ps,rs:=[((.slc tRecord),(ownMd (.slc tRecord)))],gl:=[(109,spec_l2Copy.D.sig),(189,spec_l5Read.D.sig)],od:=[(1,[0,1,2,3,5,6,7,8,4,9,10,11,12,13,14,15])] }
noncomputable def sem (a:Arg):Option Out:=@lift Out fun k=>D.W k a
noncomputable def p (a1:Arg):Option Out:=(spec_l2Copy.sem (a1.1.1,())).bind fun r2=>if r2.1.length+a1.1.2.1.length<=CAP then ((spec_l5Read.sem (r2.1++a1.1.2.1,())).bind fun r3=>some (r3.1,())) else none
theorem raw_eq (k:Nat) (a1:Arg):@Eq (Option Out) (D.W k a1) (p a1):=by kernel_rfl
theorem ok:Ok prog 121 D.sig:=fd_ok func121 tlOk (by kernel_rfl) (fc spec_l2Copy.ok (fc spec_l5Read.ok (fn_nil _)))
end spec_l12Records
namespace spec_l12Same
abbrev Arg:Type:=(List (List UInt8))×(List (List UInt8))×Unit
abbrev Out:Type:=Bool×Unit
abbrev ps:PQ:=[(.ro,(.slc (.slc u8))),(.ro,(.slc (.slc u8)))]
noncomputable def D:FD:={ fn:=f122,tl:=TL0,ps:=ps,rs:=[(.bool,(roMd .bool))],lv:=[(4,[0,1,5])],lx:=[(0,[])],od:=[(6,[0,1,2,3,4,5,6,7,8,9,10])] }
noncomputable def sem (a:Arg):Option Out:=@lift Out fun k=>D.W k a
noncomputable def T0 (a1:Arg) (v402:Int):St:={ n:=28,sl:=[(0,.val (.slc (.slc u8)) a1.1),(1,.val (.slc (.slc u8)) a1.2.1),(5,.val i64 v402)],vr:=[],lent:=[] }
noncomputable def b0 (self:Int->Option Out) (e0:(Unit)->Option Out) (a1:Arg) (v402:Int):Option Out:=bif decide (v402 < (a1.1.length:Int)) then (if 0<=v402 then ((a1.1[v402.toNat]?).bind fun x603=>if 0<=v402 then ((a1.2.1[v402.toNat]?).bind fun x604=>bif !decide (x603=x604) then (some (false,())) else self (w64 (v402+(1:Int)))) else none) else none) else e0 ()
noncomputable abbrev B0 (_:Nat):=b0
noncomputable def q0 (a1:Arg) (z605:(Unit)):Option Out:=some (true,())
noncomputable abbrev Q0 (_:Nat):=q0
noncomputable def s0 (k:Nat) (a1:Arg):(Int)->Option Out:=fun v402=>D.L k [1,1,0,1,0,0] [0,1,5] [] (blockC 0 (seqC (D.N k [1,1,1]) D.K0)) (T0 a1 v402)
noncomputable def r0 (k:Nat) (a1:Arg):(Int)->Option Out:=rawIter (fun w v=>B0 k w (Q0 k a1) a1 v) k
theorem s0_eq (k:Nat) (a1:Arg):s0 k a1=r0 k a1:=
 funext fun v402=>iter_raw _ _ _ (T0 a1) _ (fun rec v=>by kernel_rfl) k v402
noncomputable def p (l0:(Int)->Option Out) (a1:Arg):Option Out:=bif !decide ((a1.1.length:Int)=(a1.2.1.length:Int)) then (some (false,())) else l0 (0:Int)
theorem raw_eq (k:Nat) (a1:Arg):@Eq (Option Out) (D.W k a1) (p (r0 k a1) a1):=
 Eq.trans (b:=p (s0 k a1) a1) (by kernel_rfl) (by rw[s0_eq])
theorem ok:Ok prog 122 D.sig:=fd_ok func122 tlOk (by kernel_rfl) (fn_nil _)
end spec_l12Same
namespace spec_l12Fault
abbrev Arg:Type:=Store×Unit
abbrev Out:Type:=Int×Unit
abbrev ps:PQ:=[(.ro,(.ptr tStore))]
noncomputable def D:FD:={ fn:=f56,tl:=TL0,ps:=ps,rs:=[(i64,(roMd i64))],gl:=[(72,spec_l11Fault.D.sig),(75,spec_l6RowsIn.D.sig),(117,spec_l5Fault.D.sig),(118,spec_l1In.D.sig),(119,spec_l6Fault.D.sig),(120,spec_l12Redo.D.sig),(121,spec_l12Records.D.sig),(122,spec_l12Same.D.sig)],od:=[(13,[0,1,2,3,5,6,7,8,9,10,11,12,4,13,14,15])],ar:=[(13,[3,8,12])],pd:=[(13,[14])] }
noncomputable def sem (a:Arg):Option Out:=@lift Out fun k=>D.W k a
noncomputable def p (a1:Arg):Option Out:=(spec_l5Fault.sem (a1.1.2.2.1,())).bind fun r2=>bif !decide (r2.1=(0:Int)) then (some (r2.1,())) else bif !a1.1.1 then (bif decide ((0:Int) < (a1.1.2.1.length:Int)) then (some ((1:Int),())) else bif decide ((0:Int) < (a1.1.2.2.2.1.length:Int)) then (some ((1:Int),())) else bif decide ((0:Int) < (a1.1.2.2.1.2.1.length:Int)) then (some ((1:Int),())) else (spec_l1In.sem (a1.1.2.2.2.2.1,(1:Int),(100:Int),())).bind fun r3=>bif !r3.1 then (some ((3:Int),())) else some ((0:Int),())) else (spec_l6Fault.sem (a1.1.2.1,())).bind fun r4=>bif !decide (r4.1=(0:Int)) then (some (r4.1,())) else (spec_l6RowsIn.sem (a1.1.2.1,())).bind fun r5=>(spec_l11Fault.sem ((r5.1,a1.1.2.2.2.1,a1.1.2.2.2.2.1,()),())).bind fun r6=>bif !decide (r6.1=(0:Int)) then (some (r6.1,())) else (spec_l12Records.sem (a1.1.2.2.1,())).bind fun r7=>(spec_l12Redo.sem (r7.1,())).bind fun r8=>bif !decide (r8.2.1=(0:Int)) then (some ((8:Int),())) else (spec_l12Same.sem (r8.1,a1.1.2.1,())).bind fun r9=>bif !r9.1 then (some ((8:Int),())) else some ((0:Int),())
theorem raw_eq (k:Nat) (a1:Arg):@Eq (Option Out) (D.W k a1) (p a1):=by kernel_rfl
theorem ok:Ok prog 56 D.sig:=fd_ok func56 tlOk (by kernel_rfl) (fc spec_l11Fault.ok (fc spec_l6RowsIn.ok (fc spec_l5Fault.ok (fc spec_l1In.ok (fc spec_l6Fault.ok (fc spec_l12Redo.ok (fc spec_l12Records.ok (fc spec_l12Same.ok (fn_nil _)))))))))
end spec_l12Fault
namespace laws_toByteS
abbrev Arg:Type:=(List UInt8)×Unit
abbrev Out:Type:=(List UInt8)×Unit
abbrev ps:PQ:=[(.ro,(.slc u8))]
noncomputable def D:FD:={ fn:=f35,tl:=TL0,ps:=ps,rs:=[((.slc u8),(ownMd (.slc u8)))],lv:=[(3,[0,3,4])],lx:=[(0,[3])] }
noncomputable def sem (a:Arg):Option Out:=@lift Out fun k=>D.W k a
noncomputable def T0 (a1:Arg) (v402:(List UInt8)×Int):St:={ n:=22,sl:=[(0,.val (.slc u8) a1.1),(3,.own (.slc u8) (ownMd (.slc u8)) [] v402.1),(4,.val i64 v402.2)],vr:=[],lent:=[] }
noncomputable def b0 (self:((List UInt8)×Int)->Option Out) (e0:(List UInt8)->Option Out) (a1:Arg) (v402:(List UInt8)×Int):Option Out:=bif decide (v402.2 < (a1.1.length:Int)) then (if 0<=v402.2 then ((a1.1[v402.2.toNat]?).bind fun x603=>if 0<=v402.2/\v402.2 < (v402.1.length:Int) then ((v402.1[v402.2.toNat]?).bind fun x604=>self (v402.1.set v402.2.toNat x603,w64 (v402.2+(1:Int)))) else none) else none) else e0 v402.1
noncomputable abbrev B0 (_:Nat):=b0
noncomputable def q0 (a1:Arg) (z605:(List UInt8)):Option Out:=some (z605,())
noncomputable abbrev Q0 (_:Nat):=q0
noncomputable def s0 (k:Nat) (a1:Arg):((List UInt8)×Int)->Option Out:=fun v402=>D.L k [1,1,0,1,0,0] [0,3,4] [] (blockC 0 (seqC (D.N k [1,1,1]) D.K0)) (T0 a1 v402)
noncomputable def r0 (k:Nat) (a1:Arg):((List UInt8)×Int)->Option Out:=rawIter (fun w v=>B0 k w (Q0 k a1) a1 v) k
theorem s0_eq (k:Nat) (a1:Arg):s0 k a1=r0 k a1:=
 funext fun v402=>iter_raw _ _ _ (T0 a1) _ (fun rec v=>by kernel_rfl) k v402
noncomputable def p (l0:((List UInt8)×Int)->Option Out) (a1:Arg):Option Out:=if 0<=(a1.1.length:Int)/\(a1.1.length:Int)<=(a1.1.length:Int)/\(a1.1.length:Int)<=(CAP:Int) then (l0 (List.replicate (a1.1.length:Int).toNat (0:UInt8),(0:Int))) else none
theorem raw_eq (k:Nat) (a1:Arg):@Eq (Option Out) (D.W k a1) (p (r0 k a1) a1):=
 Eq.trans (b:=p (s0 k a1) a1) (by kernel_rfl) (by rw[s0_eq])
theorem ok:Ok prog 35 D.sig:=fd_ok func35 tlOk (by kernel_rfl) (fn_nil _)
end laws_toByteS
namespace laws_toByteSS
abbrev Arg:Type:=(List (List UInt8))×Unit
abbrev Out:Type:=(List (List UInt8))×Unit
abbrev ps:PQ:=[(.ro,(.slc (.slc u8)))]
noncomputable def D:FD:={ fn:=f57,tl:=TL0,ps:=ps,rs:=[((.slc (.slc u8)),(ownMd (.slc (.slc u8))))],gl:=[(35,laws_toByteS.D.sig)],lv:=[(3,[0,3,4])],lx:=[(0,[3])] }
noncomputable def sem (a:Arg):Option Out:=@lift Out fun k=>D.W k a
noncomputable def T0 (a1:Arg) (v402:(List (List UInt8))×Int):St:={ n:=23,sl:=[(0,.val (.slc (.slc u8)) a1.1),(3,.own (.slc (.slc u8)) (ownMd (.slc (.slc u8))) [] v402.1),(4,.val i64 v402.2)],vr:=[],lent:=[] }
noncomputable def b0 (self:((List (List UInt8))×Int)->Option Out) (e0:(List (List UInt8))->Option Out) (a1:Arg) (v402:(List (List UInt8))×Int):Option Out:=bif decide (v402.2 < (a1.1.length:Int)) then (if 0<=v402.2 then ((a1.1[v402.2.toNat]?).bind fun x603=>(laws_toByteS.sem (x603,())).bind fun r604=>if 0<=v402.2/\v402.2 < (v402.1.length:Int) then ((v402.1[v402.2.toNat]?).bind fun x605=>self (v402.1.set v402.2.toNat r604.1,w64 (v402.2+(1:Int)))) else none) else none) else e0 v402.1
noncomputable abbrev B0 (_:Nat):=b0
noncomputable def q0 (a1:Arg) (z606:(List (List UInt8))):Option Out:=some (z606,())
noncomputable abbrev Q0 (_:Nat):=q0
noncomputable def s0 (k:Nat) (a1:Arg):((List (List UInt8))×Int)->Option Out:=fun v402=>D.L k [1,1,0,1,0,0] [0,3,4] [] (blockC 0 (seqC (D.N k [1,1,1]) D.K0)) (T0 a1 v402)
noncomputable def r0 (k:Nat) (a1:Arg):((List (List UInt8))×Int)->Option Out:=rawIter (fun w v=>B0 k w (Q0 k a1) a1 v) k
theorem s0_eq (k:Nat) (a1:Arg):s0 k a1=r0 k a1:=
 funext fun v402=>iter_raw _ _ _ (T0 a1) _ (fun rec v=>by kernel_rfl) k v402
noncomputable def p (l0:((List (List UInt8))×Int)->Option Out) (a1:Arg):Option Out:=if 0<=(a1.1.length:Int)/\(a1.1.length:Int)<=(a1.1.length:Int)/\(a1.1.length:Int)<=(CAP:Int) then (l0 (List.replicate (a1.1.length:Int).toNat ([]:List UInt8),(0:Int))) else none
theorem raw_eq (k:Nat) (a1:Arg):@Eq (Option Out) (D.W k a1) (p (r0 k a1) a1):=
 Eq.trans (b:=p (s0 k a1) a1) (by kernel_rfl) (by rw[s0_eq])
theorem ok:Ok prog 57 D.sig:=fd_ok func57 tlOk (by kernel_rfl) (fc laws_toByteS.ok (fn_nil _))
end laws_toByteSS
namespace laws_toLog
abbrev Arg:Type:=Log×Unit
abbrev Out:Type:=Log×Unit
abbrev ps:PQ:=[(.ro,tLog)]
noncomputable def D:FD:={ fn:=f58,tl:=TL0,ps:=ps,rs:=[(tLog,(ownMd tLog))],gl:=[(35,laws_toByteS.D.sig)] }
noncomputable def sem (a:Arg):Option Out:=@lift Out fun k=>D.W k a
noncomputable def p (a1:Arg):Option Out:=(laws_toByteS.sem (a1.1.1,())).bind fun r2=>(laws_toByteS.sem (a1.1.2.1,())).bind fun r3=>some ((r2.1,r3.1,()),())
theorem raw_eq (k:Nat) (a1:Arg):@Eq (Option Out) (D.W k a1) (p a1):=by kernel_rfl
theorem ok:Ok prog 58 D.sig:=fd_ok func58 tlOk (by kernel_rfl) (fc laws_toByteS.ok (fn_nil _))
end laws_toLog
namespace laws_toRow
abbrev Arg:Type:=Row×Unit
abbrev Out:Type:=Row×Unit
abbrev ps:PQ:=[(.ro,tRow)]
noncomputable def D:FD:={ fn:=f147,tl:=TL0,ps:=ps,rs:=[(tRow,(roMd tRow))] }
noncomputable def sem (a:Arg):Option Out:=@lift Out fun k=>D.W k a
noncomputable def p (a1:Arg):Option Out:=some ((a1.1.1,a1.1.2.1,a1.1.2.2.1,a1.1.2.2.2.1,()),())
theorem raw_eq (k:Nat) (a1:Arg):@Eq (Option Out) (D.W k a1) (p a1):=by kernel_rfl
theorem ok:Ok prog 147 D.sig:=fd_ok func147 tlOk (by kernel_rfl) (fn_nil _)
end laws_toRow
namespace laws_toChange
abbrev Arg:Type:=Change×Unit
abbrev Out:Type:=Change×Unit
abbrev ps:PQ:=[(.ro,tChange)]
noncomputable def D:FD:={ fn:=f263,tl:=TL0,ps:=ps,rs:=[(tChange,(roMd tChange))],gl:=[(147,laws_toRow.D.sig)] }
noncomputable def sem (a:Arg):Option Out:=@lift Out fun k=>D.W k a
noncomputable def p (a1:Arg):Option Out:=(laws_toRow.sem (a1.1.2.1,())).bind fun r2=>(laws_toRow.sem (a1.1.2.2.2.1,())).bind fun r3=>some ((a1.1.1,r2.1,a1.1.2.2.1,r3.1,()),())
theorem raw_eq (k:Nat) (a1:Arg):@Eq (Option Out) (D.W k a1) (p a1):=by kernel_rfl
theorem ok:Ok prog 263 D.sig:=fd_ok func263 tlOk (by kernel_rfl) (fc laws_toRow.ok (fn_nil _))
end laws_toChange
namespace laws_toChangeS
abbrev Arg:Type:=(List Change)×Unit
abbrev Out:Type:=(List Change)×Unit
abbrev ps:PQ:=[(.ro,(.slc tChange))]
noncomputable def D:FD:={ fn:=f194,tl:=TL0,ps:=ps,rs:=[((.slc tChange),(ownMd (.slc tChange)))],gl:=[(263,laws_toChange.D.sig)],lv:=[(3,[0,3,4])],lx:=[(0,[3])] }
noncomputable def sem (a:Arg):Option Out:=@lift Out fun k=>D.W k a
noncomputable def T0 (a1:Arg) (v402:(List Change)×Int):St:={ n:=23,sl:=[(0,.val (.slc tChange) a1.1),(3,.own (.slc tChange) (ownMd (.slc tChange)) [] v402.1),(4,.val i64 v402.2)],vr:=[],lent:=[] }
noncomputable def b0 (self:((List Change)×Int)->Option Out) (e0:(List Change)->Option Out) (a1:Arg) (v402:(List Change)×Int):Option Out:=bif decide (v402.2 < (a1.1.length:Int)) then (if 0<=v402.2 then ((a1.1[v402.2.toNat]?).bind fun x603=>(laws_toChange.sem (x603,())).bind fun r604=>if 0<=v402.2/\v402.2 < (v402.1.length:Int) then ((v402.1[v402.2.toNat]?).bind fun x605=>self (v402.1.set v402.2.toNat r604.1,w64 (v402.2+(1:Int)))) else none) else none) else e0 v402.1
noncomputable abbrev B0 (_:Nat):=b0
noncomputable def q0 (a1:Arg) (z606:(List Change)):Option Out:=some (z606,())
noncomputable abbrev Q0 (_:Nat):=q0
noncomputable def s0 (k:Nat) (a1:Arg):((List Change)×Int)->Option Out:=fun v402=>D.L k [1,1,0,1,0,0] [0,3,4] [] (blockC 0 (seqC (D.N k [1,1,1]) D.K0)) (T0 a1 v402)
noncomputable def r0 (k:Nat) (a1:Arg):((List Change)×Int)->Option Out:=rawIter (fun w v=>B0 k w (Q0 k a1) a1 v) k
theorem s0_eq (k:Nat) (a1:Arg):s0 k a1=r0 k a1:=
 funext fun v402=>iter_raw _ _ _ (T0 a1) _ (fun rec v=>by kernel_rfl) k v402
noncomputable def p (l0:((List Change)×Int)->Option Out) (a1:Arg):Option Out:=if 0<=(a1.1.length:Int)/\(a1.1.length:Int)<=(a1.1.length:Int)/\(a1.1.length:Int)<=(CAP:Int) then (l0 (List.replicate (a1.1.length:Int).toNat (false,((0:Int),(0:Int),(0:Int),([]:List UInt8),()),false,((0:Int),(0:Int),(0:Int),([]:List UInt8),()),()),(0:Int))) else none
theorem raw_eq (k:Nat) (a1:Arg):@Eq (Option Out) (D.W k a1) (p (r0 k a1) a1):=
 Eq.trans (b:=p (s0 k a1) a1) (by kernel_rfl) (by rw[s0_eq])
theorem ok:Ok prog 194 D.sig:=fd_ok func194 tlOk (by kernel_rfl) (fc laws_toChange.ok (fn_nil _))
end laws_toChangeS
namespace laws_toInt64S
abbrev Arg:Type:=(List Int)×Unit
abbrev Out:Type:=(List Int)×Unit
abbrev ps:PQ:=[(.ro,(.slc i64))]
noncomputable def D:FD:={ fn:=f195,tl:=TL0,ps:=ps,rs:=[((.slc i64),(ownMd (.slc i64)))],lv:=[(3,[0,3,4])],lx:=[(0,[3])] }
noncomputable def sem (a:Arg):Option Out:=@lift Out fun k=>D.W k a
noncomputable def T0 (a1:Arg) (v402:(List Int)×Int):St:={ n:=22,sl:=[(0,.val (.slc i64) a1.1),(3,.own (.slc i64) (ownMd (.slc i64)) [] v402.1),(4,.val i64 v402.2)],vr:=[],lent:=[] }
noncomputable def b0 (self:((List Int)×Int)->Option Out) (e0:(List Int)->Option Out) (a1:Arg) (v402:(List Int)×Int):Option Out:=bif decide (v402.2 < (a1.1.length:Int)) then (if 0<=v402.2 then ((a1.1[v402.2.toNat]?).bind fun x603=>if 0<=v402.2/\v402.2 < (v402.1.length:Int) then ((v402.1[v402.2.toNat]?).bind fun x604=>self (v402.1.set v402.2.toNat x603,w64 (v402.2+(1:Int)))) else none) else none) else e0 v402.1
noncomputable abbrev B0 (_:Nat):=b0
noncomputable def q0 (a1:Arg) (z605:(List Int)):Option Out:=some (z605,())
noncomputable abbrev Q0 (_:Nat):=q0
noncomputable def s0 (k:Nat) (a1:Arg):((List Int)×Int)->Option Out:=fun v402=>D.L k [1,1,0,1,0,0] [0,3,4] [] (blockC 0 (seqC (D.N k [1,1,1]) D.K0)) (T0 a1 v402)
noncomputable def r0 (k:Nat) (a1:Arg):((List Int)×Int)->Option Out:=rawIter (fun w v=>B0 k w (Q0 k a1) a1 v) k
theorem s0_eq (k:Nat) (a1:Arg):s0 k a1=r0 k a1:=
 funext fun v402=>iter_raw _ _ _ (T0 a1) _ (fun rec v=>by kernel_rfl) k v402
noncomputable def p (l0:((List Int)×Int)->Option Out) (a1:Arg):Option Out:=if 0<=(a1.1.length:Int)/\(a1.1.length:Int)<=(a1.1.length:Int)/\(a1.1.length:Int)<=(CAP:Int) then (l0 (List.replicate (a1.1.length:Int).toNat (0:Int),(0:Int))) else none
theorem raw_eq (k:Nat) (a1:Arg):@Eq (Option Out) (D.W k a1) (p (r0 k a1) a1):=
 Eq.trans (b:=p (s0 k a1) a1) (by kernel_rfl) (by rw[s0_eq])
theorem ok:Ok prog 195 D.sig:=fd_ok func195 tlOk (by kernel_rfl) (fn_nil _)
end laws_toInt64S
namespace laws_toKey
abbrev Arg:Type:=Key×Unit
abbrev Out:Type:=Key×Unit
abbrev ps:PQ:=[(.ro,tKey)]
noncomputable def D:FD:={ fn:=f264,tl:=TL0,ps:=ps,rs:=[(tKey,(roMd tKey))] }
noncomputable def sem (a:Arg):Option Out:=@lift Out fun k=>D.W k a
noncomputable def p (a1:Arg):Option Out:=some ((a1.1.1,a1.1.2.1,()),())
theorem raw_eq (k:Nat) (a1:Arg):@Eq (Option Out) (D.W k a1) (p a1):=by kernel_rfl
theorem ok:Ok prog 264 D.sig:=fd_ok func264 tlOk (by kernel_rfl) (fn_nil _)
end laws_toKey
namespace laws_toKeyS
abbrev Arg:Type:=(List Key)×Unit
abbrev Out:Type:=(List Key)×Unit
abbrev ps:PQ:=[(.ro,(.slc tKey))]
noncomputable def D:FD:={ fn:=f196,tl:=TL0,ps:=ps,rs:=[((.slc tKey),(ownMd (.slc tKey)))],gl:=[(264,laws_toKey.D.sig)],lv:=[(3,[0,3,4])],lx:=[(0,[3])] }
noncomputable def sem (a:Arg):Option Out:=@lift Out fun k=>D.W k a
noncomputable def T0 (a1:Arg) (v402:(List Key)×Int):St:={ n:=23,sl:=[(0,.val (.slc tKey) a1.1),(3,.own (.slc tKey) (ownMd (.slc tKey)) [] v402.1),(4,.val i64 v402.2)],vr:=[],lent:=[] }
noncomputable def b0 (self:((List Key)×Int)->Option Out) (e0:(List Key)->Option Out) (a1:Arg) (v402:(List Key)×Int):Option Out:=bif decide (v402.2 < (a1.1.length:Int)) then (if 0<=v402.2 then ((a1.1[v402.2.toNat]?).bind fun x603=>(laws_toKey.sem (x603,())).bind fun r604=>if 0<=v402.2/\v402.2 < (v402.1.length:Int) then ((v402.1[v402.2.toNat]?).bind fun x605=>self (v402.1.set v402.2.toNat r604.1,w64 (v402.2+(1:Int)))) else none) else none) else e0 v402.1
noncomputable abbrev B0 (_:Nat):=b0
noncomputable def q0 (a1:Arg) (z606:(List Key)):Option Out:=some (z606,())
noncomputable abbrev Q0 (_:Nat):=q0
noncomputable def s0 (k:Nat) (a1:Arg):((List Key)×Int)->Option Out:=fun v402=>D.L k [1,1,0,1,0,0] [0,3,4] [] (blockC 0 (seqC (D.N k [1,1,1]) D.K0)) (T0 a1 v402)
noncomputable def r0 (k:Nat) (a1:Arg):((List Key)×Int)->Option Out:=rawIter (fun w v=>B0 k w (Q0 k a1) a1 v) k
theorem s0_eq (k:Nat) (a1:Arg):s0 k a1=r0 k a1:=
 funext fun v402=>iter_raw _ _ _ (T0 a1) _ (fun rec v=>by kernel_rfl) k v402
noncomputable def p (l0:((List Key)×Int)->Option Out) (a1:Arg):Option Out:=if 0<=(a1.1.length:Int)/\(a1.1.length:Int)<=(a1.1.length:Int)/\(a1.1.length:Int)<=(CAP:Int) then (l0 (List.replicate (a1.1.length:Int).toNat ((0:Int),(0:Int),()),(0:Int))) else none
theorem raw_eq (k:Nat) (a1:Arg):@Eq (Option Out) (D.W k a1) (p (r0 k a1) a1):=
 Eq.trans (b:=p (s0 k a1) a1) (by kernel_rfl) (by rw[s0_eq])
theorem ok:Ok prog 196 D.sig:=fd_ok func196 tlOk (by kernel_rfl) (fc laws_toKey.ok (fn_nil _))
end laws_toKeyS
namespace laws_toTx
abbrev Arg:Type:=Tx×Unit
abbrev Out:Type:=Tx×Unit
abbrev ps:PQ:=[(.ro,tTx)]
noncomputable def D:FD:={ fn:=f123,tl:=TL0,ps:=ps,rs:=[(tTx,(ownMd tTx))],gl:=[(194,laws_toChangeS.D.sig),(195,laws_toInt64S.D.sig),(196,laws_toKeyS.D.sig)] }
noncomputable def sem (a:Arg):Option Out:=@lift Out fun k=>D.W k a
noncomputable def p (a1:Arg):Option Out:=(laws_toChangeS.sem (a1.1.2.1,())).bind fun r2=>(laws_toInt64S.sem (a1.1.2.2.1,())).bind fun r3=>(laws_toKeyS.sem (a1.1.2.2.2.1,())).bind fun r4=>some ((a1.1.1,r2.1,r3.1,r4.1,()),())
theorem raw_eq (k:Nat) (a1:Arg):@Eq (Option Out) (D.W k a1) (p a1):=by kernel_rfl
theorem ok:Ok prog 123 D.sig:=fd_ok func123 tlOk (by kernel_rfl) (fc laws_toChangeS.ok (fc laws_toInt64S.ok (fc laws_toKeyS.ok (fn_nil _))))
end laws_toTx
namespace laws_toTxS
abbrev Arg:Type:=(List Tx)×Unit
abbrev Out:Type:=(List Tx)×Unit
abbrev ps:PQ:=[(.ro,(.slc tTx))]
noncomputable def D:FD:={ fn:=f59,tl:=TL0,ps:=ps,rs:=[((.slc tTx),(ownMd (.slc tTx)))],gl:=[(123,laws_toTx.D.sig)],lv:=[(3,[0,3,4])],lx:=[(0,[3])] }
noncomputable def sem (a:Arg):Option Out:=@lift Out fun k=>D.W k a
noncomputable def T0 (a1:Arg) (v402:(List Tx)×Int):St:={ n:=23,sl:=[(0,.val (.slc tTx) a1.1),(3,.own (.slc tTx) (ownMd (.slc tTx)) [] v402.1),(4,.val i64 v402.2)],vr:=[],lent:=[] }
noncomputable def b0 (self:((List Tx)×Int)->Option Out) (e0:(List Tx)->Option Out) (a1:Arg) (v402:(List Tx)×Int):Option Out:=bif decide (v402.2 < (a1.1.length:Int)) then (if 0<=v402.2 then ((a1.1[v402.2.toNat]?).bind fun x603=>(laws_toTx.sem (x603,())).bind fun r604=>if 0<=v402.2/\v402.2 < (v402.1.length:Int) then ((v402.1[v402.2.toNat]?).bind fun x605=>self (v402.1.set v402.2.toNat r604.1,w64 (v402.2+(1:Int)))) else none) else none) else e0 v402.1
noncomputable abbrev B0 (_:Nat):=b0
noncomputable def q0 (a1:Arg) (z606:(List Tx)):Option Out:=some (z606,())
noncomputable abbrev Q0 (_:Nat):=q0
noncomputable def s0 (k:Nat) (a1:Arg):((List Tx)×Int)->Option Out:=fun v402=>D.L k [1,1,0,1,0,0] [0,3,4] [] (blockC 0 (seqC (D.N k [1,1,1]) D.K0)) (T0 a1 v402)
noncomputable def r0 (k:Nat) (a1:Arg):((List Tx)×Int)->Option Out:=rawIter (fun w v=>B0 k w (Q0 k a1) a1 v) k
theorem s0_eq (k:Nat) (a1:Arg):s0 k a1=r0 k a1:=
 funext fun v402=>iter_raw _ _ _ (T0 a1) _ (fun rec v=>by kernel_rfl) k v402
noncomputable def p (l0:((List Tx)×Int)->Option Out) (a1:Arg):Option Out:=if 0<=(a1.1.length:Int)/\(a1.1.length:Int)<=(a1.1.length:Int)/\(a1.1.length:Int)<=(CAP:Int) then (l0 (List.replicate (a1.1.length:Int).toNat ((0:Int),([]:List Change),([]:List Int),([]:List Key),()),(0:Int))) else none
theorem raw_eq (k:Nat) (a1:Arg):@Eq (Option Out) (D.W k a1) (p (r0 k a1) a1):=
 Eq.trans (b:=p (s0 k a1) a1) (by kernel_rfl) (by rw[s0_eq])
theorem ok:Ok prog 59 D.sig:=fd_ok func59 tlOk (by kernel_rfl) (fc laws_toTx.ok (fn_nil _))
end laws_toTxS
namespace laws_toStore
abbrev Arg:Type:=Store×Unit
abbrev Out:Type:=Store×Unit
abbrev ps:PQ:=[(.ro,tStore)]
noncomputable def D:FD:={ fn:=f13,tl:=TL0,ps:=ps,rs:=[(tStore,(ownMd tStore))],gl:=[(57,laws_toByteSS.D.sig),(58,laws_toLog.D.sig),(59,laws_toTxS.D.sig)] }
noncomputable def sem (a:Arg):Option Out:=@lift Out fun k=>D.W k a
noncomputable def p (a1:Arg):Option Out:=(laws_toByteSS.sem (a1.1.2.1,())).bind fun r2=>(laws_toLog.sem (a1.1.2.2.1,())).bind fun r3=>(laws_toTxS.sem (a1.1.2.2.2.1,())).bind fun r4=>some ((a1.1.1,r2.1,r3.1,r4.1,a1.1.2.2.2.2.1,()),())
theorem raw_eq (k:Nat) (a1:Arg):@Eq (Option Out) (D.W k a1) (p a1):=by kernel_rfl
theorem ok:Ok prog 13 D.sig:=fd_ok func13 tlOk (by kernel_rfl) (fc laws_toByteSS.ok (fc laws_toLog.ok (fc laws_toTxS.ok (fn_nil _))))
end laws_toStore
namespace impl_Log_size
abbrev Arg:Type:=Log×Unit
abbrev Out:Type:=Int×Unit
abbrev ps:PQ:=[(.ro,tLog)]
noncomputable def D:FD:={ fn:=f124,tl:=TL0,ps:=ps,rs:=[(i64,(roMd i64))] }
noncomputable def sem (a:Arg):Option Out:=@lift Out fun k=>D.W k a
noncomputable def p (a1:Arg):Option Out:=some (w64 ((a1.1.1.length:Int)+(a1.1.2.1.length:Int)),())
theorem raw_eq (k:Nat) (a1:Arg):@Eq (Option Out) (D.W k a1) (p a1):=by kernel_rfl
theorem ok:Ok prog 124 D.sig:=fd_ok func124 tlOk (by kernel_rfl) (fn_nil _)
end impl_Log_size
namespace impl_in
abbrev Arg:Type:=Int×Int×Int×Unit
abbrev Out:Type:=Bool×Unit
abbrev ps:PQ:=[(.ro,i64),(.ro,i64),(.ro,i64)]
noncomputable def D:FD:={ fn:=f61,tl:=TL0,ps:=ps,rs:=[(.bool,(roMd .bool))] }
noncomputable def sem (a:Arg):Option Out:=@lift Out fun k=>D.W k a
noncomputable def p (a1:Arg):Option Out:=bif decide (a1.2.1<=a1.1) then (some (decide (a1.1<=a1.2.2.1),())) else some (false,())
theorem raw_eq (k:Nat) (a1:Arg):@Eq (Option Out) (D.W k a1) (p a1):=by kernel_rfl
theorem ok:Ok prog 61 D.sig:=fd_ok func61 tlOk (by kernel_rfl) (fn_nil _)
end impl_in
namespace impl_isTx
abbrev Arg:Type:=Int×Unit
abbrev Out:Type:=Bool×Unit
abbrev ps:PQ:=[(.ro,i64)]
noncomputable def D:FD:={ fn:=f203,tl:=TL0,ps:=ps,rs:=[(.bool,(roMd .bool))],gl:=[(61,impl_in.D.sig)] }
noncomputable def sem (a:Arg):Option Out:=@lift Out fun k=>D.W k a
noncomputable def p (a1:Arg):Option Out:=(impl_in.sem (a1.1,(1:Int),(99:Int),())).bind fun r2=>some (r2.1,())
theorem raw_eq (k:Nat) (a1:Arg):@Eq (Option Out) (D.W k a1) (p a1):=by kernel_rfl
theorem ok:Ok prog 203 D.sig:=fd_ok func203 tlOk (by kernel_rfl) (fc impl_in.ok (fn_nil _))
end impl_isTx
namespace impl_turns
abbrev Arg:Type:=Int×Unit
abbrev Out:Type:=Bool×Unit
abbrev ps:PQ:=[(.ro,i64)]
noncomputable def D:FD:={ fn:=f206,tl:=TL0,ps:=ps,rs:=[(.bool,(roMd .bool))] }
noncomputable def sem (a:Arg):Option Out:=@lift Out fun k=>D.W k a
noncomputable def p (a1:Arg):Option Out:=bif decide (a1.1=(2:Int)) then (some (true,())) else bif decide (a1.1=(3:Int)) then (some (true,())) else some (decide (a1.1=(4:Int)),())
theorem raw_eq (k:Nat) (a1:Arg):@Eq (Option Out) (D.W k a1) (p a1):=by kernel_rfl
theorem ok:Ok prog 206 D.sig:=fd_ok func206 tlOk (by kernel_rfl) (fn_nil _)
end impl_turns
namespace impl_RunsFault
abbrev Arg:Type:=(List Run)×Unit
abbrev Out:Type:=Int×Unit
abbrev ps:PQ:=[(.ro,(.slc tRun))]
noncomputable def D:FD:={ fn:=f207,tl:=TL0,ps:=ps,rs:=[(i64,(roMd i64))],gl:=[(61,impl_in.D.sig)],lv:=[(5,[3,10,11,12])],lx:=[(0,[])] }
noncomputable def sem (a:Arg):Option Out:=@lift Out fun k=>D.W k a
noncomputable def T0 (a1:Arg) (v402:Int×Int):St:={ n:=45,sl:=[(3,.val i64 v402.1),(10,.val (.slc tRun) a1.1),(11,.val i64 (a1.1.length:Int)),(12,.val i64 v402.2)],vr:=[],lent:=[] }
noncomputable def b0 (self:(Int×Int)->Option Out) (e0:(Unit)->Option Out) (a1:Arg) (v402:Int×Int):Option Out:=bif decide (v402.2 < (a1.1.length:Int)) then (if 0<=v402.2 then ((a1.1[v402.2.toNat]?).bind fun x603=>(impl_in.sem (x603.1,(0:Int),(63:Int),())).bind fun r604=>bif !r604.1 then (some ((3:Int),())) else (impl_in.sem ((x603.2.1.length:Int),(1:Int),(64:Int),())).bind fun r605=>bif !r605.1 then (some ((3:Int),())) else bif decide ((64:Int) < w64 (x603.1+(x603.2.1.length:Int))) then (some ((3:Int),())) else bif decide (x603.1 < v402.1) then (some ((1:Int),())) else self (w64 ((w64 (x603.1+(x603.2.1.length:Int)))+(1:Int)),w64 (v402.2+(1:Int)))) else none) else e0 ()
noncomputable abbrev B0 (_:Nat):=b0
noncomputable def q0 (a1:Arg) (z606:(Unit)):Option Out:=some ((0:Int),())
noncomputable abbrev Q0 (_:Nat):=q0
noncomputable def s0 (k:Nat) (a1:Arg):(Int×Int)->Option Out:=fun v402=>D.L k [1,1,1,0,1,0,0] [3,10,11,12] [] (blockC 0 (seqC (D.N k [1,1,1,1]) D.K0)) (T0 a1 v402)
noncomputable def r0 (k:Nat) (a1:Arg):(Int×Int)->Option Out:=rawIter (fun w v=>B0 k w (Q0 k a1) a1 v) k
theorem s0_eq (k:Nat) (a1:Arg):s0 k a1=r0 k a1:=
 funext fun v402=>iter_raw _ _ _ (T0 a1) _ (fun rec v=>by kernel_rfl) k v402
noncomputable def p (l0:(Int×Int)->Option Out) (a1:Arg):Option Out:=bif decide ((64:Int) < (a1.1.length:Int)) then (some ((2:Int),())) else l0 ((0:Int),(0:Int))
theorem raw_eq (k:Nat) (a1:Arg):@Eq (Option Out) (D.W k a1) (p (r0 k a1) a1):=
 Eq.trans (b:=p (s0 k a1) a1) (by kernel_rfl) (by rw[s0_eq])
theorem ok:Ok prog 207 D.sig:=fd_ok func207 tlOk (by kernel_rfl) (fc impl_in.ok (fn_nil _))
end impl_RunsFault
namespace impl_RecordFault
abbrev Arg:Type:=Record×Unit
abbrev Out:Type:=Int×Unit
abbrev ps:PQ:=[(.ro,tRecord)]
noncomputable def D:FD:={ fn:=f135,tl:=TL0,ps:=ps,rs:=[(i64,(roMd i64))],gl:=[(61,impl_in.D.sig),(203,impl_isTx.D.sig),(206,impl_turns.D.sig),(207,impl_RunsFault.D.sig)] }
noncomputable def sem (a:Arg):Option Out:=@lift Out fun k=>D.W k a
noncomputable def p (a1:Arg):Option Out:=let j15:Option Out:=let j23:Option Out:=(impl_RunsFault.sem (a1.1.2.2.2.1,())).bind fun r24=>bif !decide (r24.1=(0:Int)) then (some (r24.1,())) else (impl_turns.sem (a1.1.1,())).bind fun r25=>bif r25.1 then (bif decide ((a1.1.2.2.2.1.length:Int)=(0:Int)) then (some ((1:Int),())) else bif decide (a1.1.1=(4:Int)) then (bif !decide ((a1.1.2.2.2.1.length:Int)=(1:Int)) then (some ((1:Int),())) else (a1.1.2.2.2.1[0]?).bind fun x26=>bif !decide ((x26.2.1.length:Int)=(64:Int)) then (some ((1:Int),())) else some ((0:Int),())) else some ((0:Int),())) else bif decide (a1.1.1=(4:Int)) then (bif !decide ((a1.1.2.2.2.1.length:Int)=(1:Int)) then (some ((1:Int),())) else (a1.1.2.2.2.1[0]?).bind fun x27=>bif !decide ((x27.2.1.length:Int)=(64:Int)) then (some ((1:Int),())) else some ((0:Int),())) else some ((0:Int),());bif !decide (a1.1.1=(4:Int)) then ((impl_isTx.sem (a1.1.2.1,())).bind fun r16=>bif !r16.1 then (some ((3:Int),())) else (impl_in.sem (a1.1.2.2.1,(0:Int),(11:Int),())).bind fun r17=>bif !r17.1 then (some ((3:Int),())) else j23) else (impl_in.sem (a1.1.2.2.1,(0:Int),(11:Int),())).bind fun r18=>bif !r18.1 then (some ((3:Int),())) else j23;(impl_in.sem (a1.1.1,(1:Int),(6:Int),())).bind fun r2=>bif !r2.1 then (some ((1:Int),())) else (impl_turns.sem (a1.1.1,())).bind fun r3=>bif !r3.1 then (bif !decide (a1.1.2.2.1=(0:Int)) then (some ((1:Int),())) else bif decide ((0:Int) < (a1.1.2.2.2.1.length:Int)) then (some ((1:Int),())) else bif decide (a1.1.1=(4:Int)) then (bif !decide (a1.1.2.1=(0:Int)) then (some ((1:Int),())) else j15) else j15) else bif decide (a1.1.1=(4:Int)) then (bif !decide (a1.1.2.1=(0:Int)) then (some ((1:Int),())) else j15) else j15
theorem raw_eq (k:Nat) (a1:Arg):@Eq (Option Out) (D.W k a1) (p a1):=by kernel_rfl
theorem ok:Ok prog 135 D.sig:=fd_ok func135 tlOk (by kernel_rfl) (fc impl_in.ok (fc impl_isTx.ok (fc impl_turns.ok (fc impl_RunsFault.ok (fn_nil _)))))
end impl_RecordFault
namespace slices_Equal_byte
abbrev Arg:Type:=(List UInt8)×(List UInt8)×Unit
abbrev Out:Type:=Bool×Unit
abbrev ps:PQ:=[(.ro,(.slc u8)),(.ro,(.slc u8))]
noncomputable def D:FD:={ fn:=f138,tl:=TL0,ps:=ps,rs:=[(.bool,(roMd .bool))],lv:=[(4,[0,1,12,13])],lx:=[(0,[])],od:=[(6,[0,1,2,3,4,5,6,7,8])] }
noncomputable def sem (a:Arg):Option Out:=@lift Out fun k=>D.W k a
noncomputable def T0 (a1:Arg) (v402:Int):St:={ n:=26,sl:=[(0,.val (.slc u8) a1.1),(1,.val (.slc u8) a1.2.1),(12,.val i64 (a1.1.length:Int)),(13,.val i64 v402)],vr:=[],lent:=[] }
noncomputable def b0 (self:Int->Option Out) (e0:(Unit)->Option Out) (a1:Arg) (v402:Int):Option Out:=bif decide (v402 < (a1.1.length:Int)) then (if 0<=v402 then ((a1.1[v402.toNat]?).bind fun x603=>if 0<=v402 then ((a1.2.1[v402.toNat]?).bind fun x604=>bif !decide ((x603.toNat:Int)=(x604.toNat:Int)) then (some (false,())) else self (w64 (v402+(1:Int)))) else none) else none) else e0 ()
noncomputable abbrev B0 (_:Nat):=b0
noncomputable def q0 (a1:Arg) (z605:(Unit)):Option Out:=some (true,())
noncomputable abbrev Q0 (_:Nat):=q0
noncomputable def s0 (k:Nat) (a1:Arg):(Int)->Option Out:=fun v402=>D.L k [1,1,0,1,0,0] [0,1,12,13] [] (blockC 0 (seqC (D.N k [1,1,1]) D.K0)) (T0 a1 v402)
noncomputable def r0 (k:Nat) (a1:Arg):(Int)->Option Out:=rawIter (fun w v=>B0 k w (Q0 k a1) a1 v) k
theorem s0_eq (k:Nat) (a1:Arg):s0 k a1=r0 k a1:=
 funext fun v402=>iter_raw _ _ _ (T0 a1) _ (fun rec v=>by kernel_rfl) k v402
noncomputable def p (l0:(Int)->Option Out) (a1:Arg):Option Out:=bif !decide ((a1.1.length:Int)=(a1.2.1.length:Int)) then (some (false,())) else l0 (0:Int)
theorem raw_eq (k:Nat) (a1:Arg):@Eq (Option Out) (D.W k a1) (p (r0 k a1) a1):=
 Eq.trans (b:=p (s0 k a1) a1) (by kernel_rfl) (by rw[s0_eq])
theorem ok:Ok prog 138 D.sig:=fd_ok func138 tlOk (by kernel_rfl) (fn_nil _)
end slices_Equal_byte
namespace impl_copied
abbrev Arg:Type:=(List UInt8)×Unit
abbrev Out:Type:=(List UInt8)×Unit
abbrev ps:PQ:=[(.ro,(.slc u8))]
noncomputable def D:FD:={ fn:=f159,tl:=TL0,ps:=ps,rs:=[((.slc u8),(ownMd (.slc u8)))] }
noncomputable def sem (a:Arg):Option Out:=@lift Out fun k=>D.W k a
noncomputable def p (a1:Arg):Option Out:=if ([]:List UInt8).length+a1.1.length<=CAP then (some (([]:List UInt8)++a1.1,())) else none
theorem raw_eq (k:Nat) (a1:Arg):@Eq (Option Out) (D.W k a1) (p a1):=by kernel_rfl
theorem ok:Ok prog 159 D.sig:=fd_ok func159 tlOk (by kernel_rfl) (fn_nil _)
end impl_copied
end OT
