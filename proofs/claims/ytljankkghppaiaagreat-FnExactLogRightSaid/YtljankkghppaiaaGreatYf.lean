/- The proof's parts, merged: Printed by gen.py, a program of this claim  what each Go function computes.. No conditions but those that each states. -/
import Derived.Test.YtljankkghppaiaaGreatYe
set_option maxRecDepth 100000
set_option linter.unusedVariables false
namespace OT
open Go Go.Proofs.Tryz
namespace qA
abbrev Arg:Type:=dw×bf×Unit
abbrev Out:Type:=mO×Unit
noncomputable def D:FD:={ fn:=f265,tl:=be,ps:=[(.ro,jf),(.ro,(.ptr d_))],rs:=[(lZ,(.pair (az i64) (.pair (az .bool) (.pair (az .bool) (.pair (az i64) (.pair (az (.U ap)) (.pair (.pair (am (.U (.U u8))) (.pair (.U true (az et)) (az .unit))) (az .unit))))))))],gl:=[(131,kd.D.sig),(262,jX.D.sig),(266,f5.D.sig)],fz:=[(5,5,1)],od:=[(8,[0,1,2,3,4,5,6,7,8,9,10,11,12])] }
noncomputable def aa (a:Arg):Option Out:=@lift Out fun k=>D.W k a
noncomputable def p (a1:Arg):Option Out:=(jX.aa (a1.1,a1.2.1.2.1,())).bind fun r2=>bif decide (r2.1 < (0:Int)) then ((kd.aa ((4:Int),())).bind fun r3=>some (r3.1,())) else (f5.aa (a1.1,())).bind fun r4=>if 0<=r2.1/\r2.1<=(r4.1.2.1.length:Int) then (if ([]:List Buffer).length+((r4.1.2.1.take r2.1.toNat).drop 0).length<=bz then (let y5:=([]:List Buffer)++((r4.1.2.1.take r2.1.toNat).drop 0);if 0<=r2.1 then ((r4.1.2.1[r2.1.toNat]?).bind fun x6=>if 0<=af (r2.1+(1:Int))/\af (r2.1+(1:Int))<=(r4.1.2.1.length:Int) then (if y5.length+((r4.1.2.1.take r4.1.2.1.length).drop (af (r2.1+(1:Int))).toNat).length<=bz then (let y7:=y5++((r4.1.2.1.take r4.1.2.1.length).drop (af (r2.1+(1:Int))).toNat);some (((0:Int),true,decide (a1.2.1.1=(5:Int)),a1.2.1.2.1,x6.2.1,(r4.1.1,y7,r4.1.2.2),()),())) else none) else none) else none) else none) else none
theorem ae (k:Nat) (a1:Arg):@Eq (Option Out) (D.W k a1) (p a1):=by kernel_rfl
theorem ok:Ok prog 265 D.sig:=aw func265 a7 (by kernel_rfl) (fc kd.ok (fc jX.ok (fc f5.ok (ak _))))
end qA
namespace ed
abbrev Arg:Type:=(List Row)×(List Row)×Unit
abbrev Out:Type:=(List Change)×Unit
abbrev Y:=Option Out
noncomputable def D:FD:={ fn:=f188,tl:=be,ps:=[(.ro,(.U au)),(.ro,(.U au))],rs:=[((.U ap),(am (.U ap)))],gl:=[(304,jW.D.sig),(305,i7.D.sig)],lv:=[(3,[0,1,5,6]),(9,[0,1,5,7,8])],lx:=[(0,[0,1,5]),(2,[7]),(3,[0,1,5,7,8])],od:=[(5,[0,1,2,3,4,5,6,7,8,9,10,11,12]),(11,[0,1,2,3,4,5,6,7,8,9,10,11,12]),(12,[0,1,2,3,4,5,6,7,8,9,10,11,12]),(13,[0,1,2,3,4,5,6,7,8,9,10,11,12,13,14,15,16])] }
noncomputable def aa (a:Arg):Y:=@lift Out fun k=>D.W k a
noncomputable def T0 (a1:Arg) (J:(List Row)×Int):St:={ n:=112,sl:=[(0,.val (.U au) a1.1),(1,.val (.U au) a1.2.1),(5,.own (.U au) (am (.U au)) [] J.1),(6,.val i64 J.2)],vr:=[],aT:=[] }
noncomputable def S0 (rec:RT Out) (a1:Arg):((List Row)×Int)->Y:=fun J=>rec (T0 a1 J)
noncomputable def co (K:KT Out) (a1:Arg):(List Row)->Y:=fun z=>K (.exit 0) ({ n:=112,sl:=[(0,.val (.U au) a1.1),(1,.val (.U au) a1.2.1),(5,.own (.U au) (am (.U au)) [] z)],vr:=[],aT:=[] })
noncomputable def b0 (self:((List Row)×Int)->Y) (e0:(List Row)->Y) (a1:Arg) (J:(List Row)×Int):Y:=bif decide (J.2 < (a1.2.1.length:Int)) then (if 0<=J.2 then ((a1.2.1[J.2.toNat]?).bind fun a_=>if 0<=J.2 then ((a1.2.1[J.2.toNat]?).bind fun en=>(jW.aa (a1.1,a_.1,en.2.1,())).bind fun ja=>bif decide (ja.1 < (0:Int)) then (if 0<=J.2 then ((a1.2.1[J.2.toNat]?).bind fun ry=>(i7.aa (J.1,ry,())).bind fun lO=>self (lO.1,af (J.2+(1:Int)))) else none) else self (J.1,af (J.2+(1:Int)))) else none) else none) else e0 J.1
theorem li (k:Nat) (rec:RT Out) (K:KT Out) (a1:Arg) (J:(List Row)×Int):D.N k [1,1,0,1,0,0] (T0 a1 J) (ic rec (ey [0,1,5,6] []) K)=b0 (S0 rec a1) (co K a1) a1 J:=by kernel_rfl
noncomputable def T1 (a1:Arg) (e8:List Row) (cq:(List Change)×Int):St:={ n:=112,sl:=[(0,.val (.U au) a1.1),(1,.val (.U au) a1.2.1),(5,.own (.U au) (am (.U au)) [] e8),(7,.own (.U ap) (am (.U ap)) [] cq.1),(8,.val i64 cq.2)],vr:=[],aT:=[] }
noncomputable def b1 (self:((List Change)×Int)->Y) (e2:(List Change)->Y) (a1:Arg) (e8:List Row) (cq:(List Change)×Int):Y:=bif decide (cq.2 < (e8.length:Int)) then (if 0<=cq.2/\cq.2 < (e8.length:Int) then ((e8[cq.2.toNat]?).bind fun Ad=>if 0<=cq.2/\cq.2 < (e8.length:Int) then ((e8[cq.2.toNat]?).bind fun Aa=>(jW.aa (a1.1,Ad.1,Aa.2.1,())).bind fun oP=>if 0<=cq.2/\cq.2 < (e8.length:Int) then ((e8[cq.2.toNat]?).bind fun Zh=>if 0<=cq.2/\cq.2 < (e8.length:Int) then ((e8[cq.2.toNat]?).bind fun Zi=>(jW.aa (a1.2.1,Zh.1,Zi.2.1,())).bind fun Ae=>let Pq:Y:=let Vx:=fun (GV:Change)=>(let GW:=fun (Vy:Change)=>(if cq.1.length+[Vy].length<=bz then (self (cq.1++[Vy],af (cq.2+(1:Int)))) else none:Y);bif decide ((0:Int)<=Ae.1) then (if 0<=Ae.1 then ((a1.2.1[Ae.1.toNat]?).bind fun Zj=>GW (GV.1,GV.2.1,GV.2.2.1,Zj,GV.2.2.2.2)) else none) else GW GV:Y);bif decide ((0:Int)<=oP.1) then (if 0<=oP.1 then ((a1.1[oP.1.toNat]?).bind fun Zk=>Vx (decide ((0:Int)<=oP.1),Zk,decide ((0:Int)<=Ae.1),((0:Int),(0:Int),(0:Int),([]:List UInt8),()),())) else none) else Vx (decide ((0:Int)<=oP.1),((0:Int),(0:Int),(0:Int),([]:List UInt8),()),decide ((0:Int)<=Ae.1),((0:Int),(0:Int),(0:Int),([]:List UInt8),()),());bif decide ((0:Int)<=oP.1) then (bif decide ((0:Int)<=Ae.1) then (if 0<=oP.1 then ((a1.1[oP.1.toNat]?).bind fun Zl=>if 0<=Ae.1 then ((a1.2.1[Ae.1.toNat]?).bind fun Zm=>bif (Ty.eq au Zl Zm) then (self (cq.1,af (cq.2+(1:Int)))) else Pq) else none) else none) else Pq) else Pq) else none) else none) else none) else none) else e2 cq.1
noncomputable def q1 (a1:Arg) (e8:List Row) (Zn:(List Change)):Y:=some (Zn,())
noncomputable def s1 (k:Nat) (a1:Arg):(List Row)->((List Change)×Int)->Y:=fun e8=>fun cq=>D.L k [1,1,1,1,0,1,0,0] [0,1,5,7,8] [] (ag 2 (ay (D.N k [1,1,1,1,1]) D.K0)) (T1 a1 e8 cq)
noncomputable def r1 (k:Nat) (a1:Arg):(List Row)->((List Change)×Int)->Y:=fun e8=>aq (fun w v=>b1 w (q1 a1 e8) a1 e8 v) k
theorem lj (k:Nat) (a1:Arg):s1 k a1=r1 k a1:=
 funext fun e8=>funext fun cq=>av _ _ _ (T1 a1 e8) _ (fun rec v=>by kernel_rfl) k cq
noncomputable def q0 (l1:(List Row)->((List Change)×Int)->Y) (a1:Arg) (pr:(List Row)):Y:=l1 pr (([]:List Change),(0:Int))
noncomputable def Q0 (k:Nat) (a1:Arg) (pr:(List Row)):Y:=q0 (r1 k a1) a1 pr
theorem oK (k:Nat) (a1:Arg) (pr:(List Row)):co (ag 0 (ay (D.N k [1,1,1]) D.K0)) a1 pr=Q0 k a1 pr:=
 aX (b:=q0 (s1 k a1) a1 pr) (by kernel_rfl) (by rw[lj];rfl)
noncomputable def s0 (k:Nat) (a1:Arg):((List Row)×Int)->Y:=fun J=>D.L k [1,1,0,1,0,0] [0,1,5,6] [] (ag 0 (ay (D.N k [1,1,1]) D.K0)) (T0 a1 J)
noncomputable def r0 (k:Nat) (a1:Arg):((List Row)×Int)->Y:=aq (fun w v=>b0 w (Q0 k a1) a1 v) k
theorem ax (k:Nat) (a1:Arg):s0 k a1=r0 k a1:=by
 funext J;have h0:co (ag 0 (ay (D.N k [1,1,1]) D.K0)) a1=Q0 k a1:=funext fun z=>oK k a1 z;refine (av _ _ _ (T0 a1) (fun self v=>b0 self (co (ag 0 (ay (D.N k [1,1,1]) D.K0)) a1) a1 v) (fun rec v=>li k rec (ag 0 (ay (D.N k [1,1,1]) D.K0)) a1 v) k J).trans ?_;rw[h0];rfl
noncomputable def p (l0:((List Row)×Int)->Y) (a1:Arg):Y:=if ([]:List Row).length+a1.1.length<=bz then (l0 (([]:List Row)++a1.1,(0:Int))) else none
theorem ae (k:Nat) (a1:Arg):@Eq Y (D.W k a1) (p (r0 k a1) a1):=
 aX (b:=p (s0 k a1) a1) (by kernel_rfl) (by rw[ax])
theorem ok:Ok prog 188 D.sig:=aw func188 a7 (by kernel_rfl) (fc jW.ok (fc i7.ok (ak _)))
end ed
namespace g_
abbrev Arg:Type:=(List (List UInt8))×Unit
abbrev Out:Type:=(List Row)×Unit
abbrev Y:=Option Out
noncomputable def D:FD:={ fn:=f189,tl:=be,ps:=[(.ro,(.U (.U u8)))],rs:=[((.U au),(am (.U au)))],gl:=[(303,kR.D.sig),(305,i7.D.sig)],lv:=[(4,[3,4,5])],lx:=[(0,[3])] }
noncomputable def aa (a:Arg):Y:=@lift Out fun k=>D.W k a
noncomputable def T0 (a1:Arg) (l6:List a8) (bb:(List Row)×Int):St:={ n:=24,sl:=[(3,.own (.U au) (am (.U au)) [] bb.1),(4,.own (.U ko) (am (.U ko)) [] l6),(5,.val i64 bb.2)],vr:=[],aT:=[] }
noncomputable def b0 (self:((List Row)×Int)->Y) (e0:(List Row)->Y) (a1:Arg) (l6:List a8) (bb:(List Row)×Int):Y:=bif decide (bb.2 < (l6.length:Int)) then (if 0<=bb.2/\bb.2 < (l6.length:Int) then ((l6[bb.2.toNat]?).bind fun i_=>(i7.aa (bb.1,i_.2.2.1.2.2.2.2.1,())).bind fun rx=>self (rx.1,af (bb.2+(1:Int)))) else none) else e0 bb.1
noncomputable def q0 (a1:Arg) (l6:List a8) (nQ:(List Row)):Y:=some (nQ,())
noncomputable def s0 (k:Nat) (a1:Arg):(List a8)->((List Row)×Int)->Y:=fun l6=>fun bb=>D.L k [1,1,1,0,1,0,0] [3,4,5] [] (ag 0 (ay (D.N k [1,1,1,1]) D.K0)) (T0 a1 l6 bb)
noncomputable def r0 (k:Nat) (a1:Arg):(List a8)->((List Row)×Int)->Y:=fun l6=>aq (fun w v=>b0 w (q0 a1 l6) a1 l6 v) k
theorem ax (k:Nat) (a1:Arg):s0 k a1=r0 k a1:=
 funext fun l6=>funext fun bb=>av _ _ _ (T0 a1 l6) _ (fun rec v=>by kernel_rfl) k bb
noncomputable def p (l0:(List a8)->((List Row)×Int)->Y) (a1:Arg):Y:=(kR.aa (a1.1,())).bind fun r2=>l0 r2.1 (([]:List Row),(0:Int))
theorem ae (k:Nat) (a1:Arg):@Eq Y (D.W k a1) (p (r0 k a1) a1):=
 aX (b:=p (s0 k a1) a1) (by kernel_rfl) (by rw[ax])
theorem ok:Ok prog 189 D.sig:=aw func189 a7 (by kernel_rfl) (fc kR.ok (fc i7.ok (ak _)))
end g_
namespace pN
abbrev Arg:Type:=Int×Unit
abbrev Out:Type:=AB×Unit
noncomputable def D:FD:={ fn:=f204,tl:=be,ps:=[(.ro,i64)],rs:=[(qZ,(am qZ))] }
noncomputable def aa (a:Arg):Option Out:=@lift Out fun k=>D.W k a
noncomputable def p (a1:Arg):Option Out:=some ((a1.1,([]:List gi),([]:List (List UInt8)),()),())
theorem ae (k:Nat) (a1:Arg):@Eq (Option Out) (D.W k a1) (p a1):=by kernel_rfl
theorem ok:Ok prog 204 D.sig:=aw func204 a7 (by kernel_rfl) (ak _)
end pN
namespace ny
abbrev Arg:Type:=UInt8×Unit
abbrev Out:Type:=(List UInt8)×Unit
abbrev Y:=Option Out
noncomputable def D:FD:={ fn:=f425,tl:=be,ps:=[(.ro,u8)],rs:=[((.U u8),(am (.U u8)))],lv:=[(3,[0,3,4])],lx:=[(0,[3])] }
noncomputable def aa (a:Arg):Y:=@lift Out fun k=>D.W k a
noncomputable def T0 (a1:Arg) (J:(List UInt8)×Int):St:={ n:=19,sl:=[(0,.val u8 a1.1),(3,.own (.U u8) (am (.U u8)) [] J.1),(4,.val i64 J.2)],vr:=[],aT:=[] }
noncomputable def b0 (self:((List UInt8)×Int)->Y) (e0:(List UInt8)->Y) (a1:Arg) (J:(List UInt8)×Int):Y:=bif decide (J.2 < (64:Int)) then (if 0<=J.2/\J.2 < (J.1.length:Int) then ((J.1[J.2.toNat]?).bind fun a_=>self (J.1.set J.2.toNat a1.1,af (J.2+(1:Int)))) else none) else e0 J.1
noncomputable def q0 (a1:Arg) (qq:(List UInt8)):Y:=if 0<=(0:Int)/\(0:Int) < (qq.length:Int) then ((qq[0]?).bind fun i_=>if 0<=(1:Int)/\(1:Int) < ((qq.set 0 (0:UInt8)).length:Int) then (((qq.set 0 (0:UInt8))[1]?).bind fun ry=>let Du:=(qq.set 0 (0:UInt8)).set 1 (64:UInt8);some (Du,())) else none) else none
noncomputable def s0 (k:Nat) (a1:Arg):((List UInt8)×Int)->Y:=fun J=>D.L k [1,1,0,1,0,0] [0,3,4] [] (ag 0 (ay (D.N k [1,1,1]) D.K0)) (T0 a1 J)
noncomputable def r0 (k:Nat) (a1:Arg):((List UInt8)×Int)->Y:=aq (fun w v=>b0 w (q0 a1) a1 v) k
theorem ax (k:Nat) (a1:Arg):s0 k a1=r0 k a1:=
 funext fun J=>av _ _ _ (T0 a1) _ (fun rec v=>by kernel_rfl) k J
noncomputable def p (l0:((List UInt8)×Int)->Y) (a1:Arg):Y:=if 0<=(64:Int)/\(64:Int)<=(64:Int)/\(64:Int)<=(bz:Int) then (l0 (List.replicate 64 (0:UInt8),(0:Int))) else none
theorem ae (k:Nat) (a1:Arg):@Eq Y (D.W k a1) (p (r0 k a1) a1):=
 aX (b:=p (s0 k a1) a1) (by kernel_rfl) (by rw[ax])
theorem ok:Ok prog 425 D.sig:=aw func425 a7 (by kernel_rfl) (ak _)
end ny
namespace ln
abbrev Arg:Type:=(List UInt8)×(List gi)×Unit
abbrev Out:Type:=(List UInt8)×Unit
abbrev Y:=Option Out
noncomputable def D:FD:={ fn:=f426,tl:=be,ps:=[(.ro,(.U u8)),(.ro,(.U ww))],rs:=[((.U u8),(am (.U u8)))],gl:=[(171,gj.D.sig)],lv:=[(3,[1,5,6])],lx:=[(0,[5])],od:=[(5,[0,1,2,3,4,5,6,7,8,9,10,11,12])] }
noncomputable def aa (a:Arg):Y:=@lift Out fun k=>D.W k a
noncomputable def T0 (a1:Arg) (bb:(List UInt8)×Int):St:={ n:=29,sl:=[(1,.val (.U ww) a1.2.1),(5,.own (.U u8) (am (.U u8)) [] bb.1),(6,.val i64 bb.2)],vr:=[],aT:=[] }
noncomputable def b0 (self:((List UInt8)×Int)->Y) (e0:(List UInt8)->Y) (a1:Arg) (bb:(List UInt8)×Int):Y:=bif decide (bb.2 < (a1.2.1.length:Int)) then (if 0<=bb.2 then ((a1.2.1[bb.2.toNat]?).bind fun en=>if 0<=en.1/\en.1<=(bb.1.length:Int) then (if 0<=bb.2 then ((a1.2.1[bb.2.toNat]?).bind fun i_=>let Dt:=rX bb.1 en.1.toNat (min i_.2.1.length (bb.1.length - en.1.toNat)) i_.2.1;self (Dt,af (bb.2+(1:Int)))) else none) else none) else none) else e0 bb.1
noncomputable def q0 (a1:Arg) (nQ:(List UInt8)):Y:=some (nQ,())
noncomputable def s0 (k:Nat) (a1:Arg):((List UInt8)×Int)->Y:=fun bb=>D.L k [1,1,0,1,0,0] [1,5,6] [] (ag 0 (ay (D.N k [1,1,1]) D.K0)) (T0 a1 bb)
noncomputable def r0 (k:Nat) (a1:Arg):((List UInt8)×Int)->Y:=aq (fun w v=>b0 w (q0 a1) a1 v) k
theorem ax (k:Nat) (a1:Arg):s0 k a1=r0 k a1:=
 funext fun bb=>av _ _ _ (T0 a1) _ (fun rec v=>by kernel_rfl) k bb
noncomputable def p (l0:((List UInt8)×Int)->Y) (a1:Arg):Y:=(gj.aa (a1.1,())).bind fun r2=>l0 (r2.1,(0:Int))
theorem ae (k:Nat) (a1:Arg):@Eq Y (D.W k a1) (p (r0 k a1) a1):=
 aX (b:=p (s0 k a1) a1) (by kernel_rfl) (by rw[ax])
theorem ok:Ok prog 426 D.sig:=aw func426 a7 (by kernel_rfl) (fc gj.ok (ak _))
end ln
namespace dq
abbrev Arg:Type:=(List (List UInt8))×bf×Unit
abbrev Out:Type:=AB×Unit
abbrev Y:=Option Out
noncomputable def D:FD:={ fn:=f362,tl:=be,ps:=[(.ro,(.U (.U u8))),(.ro,d_)],rs:=[(qZ,(am qZ))],gl:=[(132,no.D.sig),(204,pN.D.sig),(217,lF.D.sig),(263,nu.D.sig),(425,ny.D.sig),(426,ln.D.sig)],lv:=[(4,[0,3,4,5])],lx:=[(0,[0,3,4])],od:=[(20,[0,1,2,3,4,5,6]),(21,[0,1,2,3,4,5,6,7,8,9,10,11,12,13,14])] }
noncomputable def aa (a:Arg):Y:=@lift Out fun k=>D.W k a
noncomputable def T0 (a1:Arg) (bb:Int):St:={ n:=75,sl:=[(0,.val (.U (.U u8)) a1.1),(3,.box d_ (az d_) [] a1.2.1),(4,.box qZ (am qZ) [] ((0:Int),([]:List gi),([]:List (List UInt8)),())),(5,.val i64 bb)],vr:=[],aT:=[] }
noncomputable def b0 (self:Int->Y) (e0:(Unit)->Y) (a1:Arg) (bb:Int):Y:=bif decide (bb < (a1.1.length:Int)) then (if 0<=bb then ((a1.1[bb.toNat]?).bind fun en=>bif !decide ((en.length:Int)=(64:Int)) then ((pN.aa ((1:Int),())).bind fun ja=>some (ja.1,())) else self (af (bb+(1:Int)))) else none) else e0 ()
noncomputable def q0 (a1:Arg) (lA:(Unit)):Y:=(no.aa (a1.2.1,())).bind fun lO=>bif !decide (lO.1=(0:Int)) then ((pN.aa (lO.1,())).bind fun Dx=>some (Dx.1,())) else (lF.aa (a1.1,())).bind fun xX=>(nu.aa (a1.2.1.1,())).bind fun BP=>bif !BP.1 then (some (((0:Int),([]:List gi),xX.1,()),())) else bif decide ((a1.1.length:Int) < a1.2.1.2.2.1) then ((pN.aa ((1:Int),())).bind fun aaK=>some (aaK.1,())) else bif decide (a1.2.1.2.2.1=(12:Int)) then ((pN.aa ((2:Int),())).bind fun TO=>some (TO.1,())) else let Lg:=fun (BT:AB)=>(if 0<=a1.2.1.2.2.1/\a1.2.1.2.2.1 < (BT.2.2.1.length:Int) then ((BT.2.2.1[a1.2.1.2.2.1.toNat]?).bind fun Pr=>(BT.2.2.1[a1.2.1.2.2.1.toNat]?).bind fun TQ=>(ln.aa (TQ,a1.2.1.2.2.2.1,())).bind fun TR=>if 0<=a1.2.1.2.2.1/\a1.2.1.2.2.1 < (BT.2.2.1.length:Int) then ((BT.2.2.1[a1.2.1.2.2.1.toNat]?).bind fun aaL=>some ((BT.1,BT.2.1,BT.2.2.1.set a1.2.1.2.2.1.toNat TR.1,BT.2.2.2),())) else none) else none:Y);bif decide (a1.2.1.2.2.1=(a1.1.length:Int)) then ((ny.aa ((0:UInt8),())).bind fun Pg=>if xX.1.length+[Pg.1].length<=bz then (Lg ((0:Int),([]:List gi),xX.1++[Pg.1],())) else none) else Lg ((0:Int),([]:List gi),xX.1,())
noncomputable def s0 (k:Nat) (a1:Arg):(Int)->Y:=fun bb=>D.L k [1,1,0,1,0,0] [0,3,4,5] [] (ag 0 (ay (D.N k [1,1,1]) D.K0)) (T0 a1 bb)
noncomputable def r0 (k:Nat) (a1:Arg):(Int)->Y:=aq (fun w v=>b0 w (q0 a1) a1 v) k
theorem ax (k:Nat) (a1:Arg):s0 k a1=r0 k a1:=
 funext fun bb=>av _ _ _ (T0 a1) _ (fun rec v=>by kernel_rfl) k bb
noncomputable def p (l0:(Int)->Y) (a1:Arg):Y:=bif decide ((12:Int) < (a1.1.length:Int)) then ((pN.aa ((2:Int),())).bind fun r2=>some (r2.1,())) else l0 (0:Int)
theorem ae (k:Nat) (a1:Arg):@Eq Y (D.W k a1) (p (r0 k a1) a1):=
 aX (b:=p (s0 k a1) a1) (by kernel_rfl) (by rw[ax])
theorem ok:Ok prog 362 D.sig:=aw func362 a7 (by kernel_rfl) (fc no.ok (fc pN.ok (fc lF.ok (fc nu.ok (fc ny.ok (fc ln.ok (ak _)))))))
end dq
namespace lG
abbrev Arg:Type:=(List Change)×Change×Unit
abbrev Out:Type:=(List Change)×Bool×Unit
abbrev Y:=Option Out
noncomputable def D:FD:={ fn:=f427,tl:=be,ps:=[(.ro,(.U ap)),(.ro,ap)],rs:=[((.U ap),(am (.U ap))),(.bool,(az .bool))],gl:=[(361,l7.D.sig)],lv:=[(4,[0,3,6,7,8])],lx:=[(0,[3,6,7]),(1,[0,3,6,7,8])] }
noncomputable def aa (a:Arg):Y:=@lift Out fun k=>D.W k a
noncomputable def T0 (a1:Arg) (J:(List Change)×Bool×Int):St:={ n:=88,sl:=[(0,.val (.U ap) a1.1),(3,.box ap (az ap) [] a1.2.1),(6,.own (.U ap) (am (.U ap)) [] J.1),(7,.val .bool J.2.1),(8,.val i64 J.2.2)],vr:=[],aT:=[] }
noncomputable def b0 (self:((List Change)×Bool×Int)->Y) (e0:((List Change)×Bool)->Y) (a1:Arg) (J:(List Change)×Bool×Int):Y:=bif decide (J.2.2 < (a1.1.length:Int)) then (if 0<=J.2.2 then ((a1.1[J.2.2.toNat]?).bind fun a_=>let TS:=fun (Dy:List Change) (X6:Bool)=>((l7.aa (a_,a1.2.1,())).bind fun aaM=>bif aaM.1 then (if Dy.length+[a_].length<=bz then (self (Dy++[a_],X6,af (J.2.2+(1:Int)))) else none) else (l7.aa (a1.2.1,a_,())).bind fun aaN=>bif aaN.1 then (if Dy.length+[a_].length<=bz then (self (Dy++[a_],X6,af (J.2.2+(1:Int)))) else none) else let X7:Y:=let Lg:Y:=if Dy.length+[(a_.1,a_.2.1,a1.2.1.2.2.1,a1.2.1.2.2.2.1,a_.2.2.2.2)].length<=bz then (let aaO:=Dy++[(a_.1,a_.2.1,a1.2.1.2.2.1,a1.2.1.2.2.2.1,a_.2.2.2.2)];self (aaO,true,af (J.2.2+(1:Int)))) else none;bif (a_.1 == a1.2.1.2.2.1) then (bif !a_.1 then (self (Dy,true,af (J.2.2+(1:Int)))) else bif (Ty.eq au a_.2.1 a1.2.1.2.2.2.1) then (self (Dy,true,af (J.2.2+(1:Int)))) else Lg) else Lg;bif !(a_.2.2.1 == a1.2.1.1) then (some (([]:List Change),false,())) else bif a_.2.2.1 then (bif !(Ty.eq au a_.2.2.2.1 a1.2.1.2.1) then (some (([]:List Change),false,())) else X7) else X7:Y);bif !J.2.1 then ((l7.aa (a1.2.1,a_,())).bind fun dn=>bif dn.1 then (if J.1.length+[a1.2.1].length<=bz then (TS (J.1++[a1.2.1]) true) else none) else TS J.1 J.2.1) else TS J.1 J.2.1) else none) else e0 (J.1,J.2.1)
noncomputable def q0 (a1:Arg) (Ps:((List Change)×Bool)):Y:=bif !Ps.2 then (if Ps.1.length+[a1.2.1].length<=bz then (some (Ps.1++[a1.2.1],true,())) else none) else some (Ps.1,true,())
noncomputable def s0 (k:Nat) (a1:Arg):((List Change)×Bool×Int)->Y:=fun J=>D.L k [1,1,1,0,1,0,0] [0,3,6,7,8] [] (ag 0 (ay (D.N k [1,1,1,1]) D.K0)) (T0 a1 J)
noncomputable def r0 (k:Nat) (a1:Arg):((List Change)×Bool×Int)->Y:=aq (fun w v=>b0 w (q0 a1) a1 v) k
theorem ax (k:Nat) (a1:Arg):s0 k a1=r0 k a1:=
 funext fun J=>av _ _ _ (T0 a1) _ (fun rec v=>by kernel_rfl) k J
noncomputable def p (l0:((List Change)×Bool×Int)->Y) (a1:Arg):Y:=l0 (([]:List Change),false,(0:Int))
theorem ae (k:Nat) (a1:Arg):@Eq Y (D.W k a1) (p (r0 k a1) a1):=
 aX (b:=p (s0 k a1) a1) (by kernel_rfl) (by rw[ax])
theorem ok:Ok prog 427 D.sig:=aw func427 a7 (by kernel_rfl) (fc l7.ok (ak _))
end lG
namespace nK
abbrev Arg:Type:=(List Change)×Change×Unit
abbrev Out:Type:=Buffer×Unit
noncomputable def D:FD:={ fn:=f363,tl:=be,ps:=[(.ro,(.U ap)),(.ro,ap)],rs:=[(et,(am et))],gl:=[(261,f0.D.sig),(360,kw.D.sig),(427,lG.D.sig)] }
noncomputable def aa (a:Arg):Option Out:=@lift Out fun k=>D.W k a
noncomputable def p (a1:Arg):Option Out:=(f0.aa (a1.1,())).bind fun r2=>bif !decide (r2.1=(0:Int)) then (some ((r2.1,([]:List Change),()),())) else (kw.aa (a1.2.1,())).bind fun r3=>bif !decide (r3.1=(0:Int)) then (some ((r3.1,([]:List Change),()),())) else (lG.aa (a1.1,a1.2.1,())).bind fun r4=>bif !r4.2.1 then (some (((8:Int),([]:List Change),()),())) else some (((0:Int),r4.1,()),())
theorem ae (k:Nat) (a1:Arg):@Eq (Option Out) (D.W k a1) (p a1):=by kernel_rfl
theorem ok:Ok prog 363 D.sig:=aw func363 a7 (by kernel_rfl) (fc f0.ok (fc kw.ok (fc lG.ok (ak _))))
end nK
namespace mj
abbrev Arg:Type:=dw×bf×Unit
abbrev Out:Type:=mO×Unit
abbrev Y:=Option Out
noncomputable def D:FD:={ fn:=f267,tl:=be,ps:=[(.ro,jf),(.ro,(.ptr d_))],rs:=[(lZ,(am lZ))],gl:=[(131,kd.D.sig),(187,di.D.sig),(188,ed.D.sig),(189,g_.D.sig),(262,jX.D.sig),(266,f5.D.sig),(362,dq.D.sig),(363,nK.D.sig)],fz:=[(1,1,7),(7,7,0)],lv:=[(18,[4,7,8,9,10])],lx:=[(0,[4,8])],od:=[(1,[0,1,2,3,4,5,6,7]),(7,[0,1,3,4,2,5,6,7]),(20,[0,1,2,3,4,5,6,7,8,9,10,11,12])],ar:=[(1,[4]),(20,[9])],pd:=[(1,[6]),(20,[11])],er:=[(1,[(1,8)]),(20,[(1,13),(5,13)])] }
noncomputable def aa (a:Arg):Y:=@lift Out fun k=>D.W k a
noncomputable def T0 (a1:Arg) (xY:List Change) (qB:Int) (sw:dw×Int):St:={ n:=94,sl:=[(4,.box lZ (am lZ) [] ((0:Int),false,false,(0:Int),([]:List Change),(([]:List (List UInt8)),([]:List Buffer),()),())),(7,.val (.U ap) xY),(8,.box jf (am jf) [] sw.1),(9,.val i64 qB),(10,.val i64 sw.2)],vr:=[],aT:=[] }
noncomputable def b0 (self:(dw×Int)->Y) (e0:dw->Y) (a1:Arg) (xY:List Change) (qB:Int) (sw:dw×Int):Y:=bif decide (sw.2 < (xY.length:Int)) then (if 0<=qB/\qB < (sw.1.2.1.length:Int) then ((sw.1.2.1[qB.toNat]?).bind fun abz=>bif (qj [.snd,.fst,.idx qB.toNat,.snd,.fst] [.snd,.fst,.idx qB.toNat,.snd,.fst]&&true) then (if 0<=sw.2 then ((xY[sw.2.toNat]?).bind fun aaP=>(sw.1.2.1[qB.toNat]?).bind fun TT=>(nK.aa (TT.2.1,aaP,())).bind fun Lh=>bif (qj [.snd,.fst,.idx qB.toNat,.snd,.fst] [.snd,.fst,.idx qB.toNat,.snd,.fst]&&true) then (bif (qj [.snd,.fst,.idx qB.toNat,.snd,.fst] [.snd,.fst,.idx qB.toNat,.snd,.fst]&&true) then (bif !decide (Lh.1.1=(0:Int)) then ((kd.aa (Lh.1.1,())).bind fun Li=>some (Li.1,())) else if 0<=qB/\qB < (sw.1.2.1.length:Int) then ((sw.1.2.1[qB.toNat]?).bind fun Pr=>let aaQ:=sw.1.2.1.set qB.toNat (Pr.1,Lh.1.2.1,Pr.2.2);self ((sw.1.1,aaQ,sw.1.2.2),af (sw.2+(1:Int)))) else none) else none) else none) else none) else none) else none) else e0 sw.1
noncomputable def q0 (a1:Arg) (xY:List Change) (qB:Int) (aaR:dw):Y:=some (((0:Int),false,false,(0:Int),([]:List Change),aaR,()),())
noncomputable def s0 (k:Nat) (a1:Arg):(List Change)->Int->(dw×Int)->Y:=fun xY qB=>fun sw=>D.L k [1,1,1,1,1,1,1,1,1,1,0,1,0,0] [4,7,8,9,10] [] (ag 0 (ay (D.N k [1,1,1,1,1,1,1,1,1,1,1]) D.K0)) (T0 a1 xY qB sw)
noncomputable def r0 (k:Nat) (a1:Arg):(List Change)->Int->(dw×Int)->Y:=fun xY qB=>aq (fun w v=>b0 w (q0 a1 xY qB) a1 xY qB v) k
theorem ax (k:Nat) (a1:Arg):s0 k a1=r0 k a1:=
 funext fun xY=>funext fun qB=>funext fun sw=>av _ _ _ (T0 a1 xY qB) _ (fun rec v=>by kernel_rfl) k sw
noncomputable def p (l0:(List Change)->Int->(dw×Int)->Y) (a1:Arg):Y:=(dq.aa (a1.1.1,a1.2.1,())).bind fun r2=>bif !decide (r2.1.1=(0:Int)) then ((kd.aa (r2.1.1,())).bind fun r3=>some (r3.1,())) else (di.aa (r2.1.2.2.1,())).bind fun r4=>bif !decide (r4.1=(0:Int)) then ((kd.aa (r4.1,())).bind fun r5=>some (r5.1,())) else (g_.aa (a1.1.1,())).bind fun r6=>(g_.aa (r2.1.2.2.1,())).bind fun r7=>(ed.aa (r6.1,r7.1,())).bind fun r8=>(f5.aa (a1.1,())).bind fun r9=>bif decide (a1.2.1.1=(4:Int)) then (bif decide ((0:Int) < (r8.1.length:Int)) then ((kd.aa ((8:Int),())).bind fun Dw=>some (Dw.1,())) else some (((0:Int),false,false,(0:Int),([]:List Change),(r2.1.2.2.1,r9.1.2),()),())) else (jX.aa (a1.1,a1.2.1.2.1,())).bind fun IT=>bif decide (IT.1 < (0:Int)) then ((kd.aa ((4:Int),())).bind fun CG=>some (CG.1,())) else l0 r8.1 IT.1 ((r2.1.2.2.1,r9.1.2),(0:Int))
theorem ae (k:Nat) (a1:Arg):@Eq Y (D.W k a1) (p (r0 k a1) a1):=
 aX (b:=p (s0 k a1) a1) (by kernel_rfl) (by rw[ax])
theorem ok:Ok prog 267 D.sig:=aw func267 a7 (by kernel_rfl) (fc kd.ok (fc di.ok (fc ed.ok (fc g_.ok (fc jX.ok (fc f5.ok (fc dq.ok (fc nK.ok (ak _)))))))))
end mj
namespace qP
abbrev Arg:Type:=dw×bf×Unit
abbrev Out:Type:=mO×Unit
noncomputable def D:FD:={ fn:=f133,tl:=be,ps:=[(.ro,jf),(.ro,(.ptr d_))],rs:=[(lZ,(.pair (az i64) (.pair (az .bool) (.pair (az .bool) (.pair (az i64) (.pair (az (.U ap)) (.pair (.pair (am (.U (.U u8))) (.pair (.U true (az et)) (az .unit))) (az .unit))))))))],gl:=[(131,kd.D.sig),(262,jX.D.sig),(265,qA.D.sig),(266,f5.D.sig),(267,mj.D.sig)],od:=[(11,[0,1,2,3,4,5,6,7,8,9,10])] }
noncomputable def aa (a:Arg):Option Out:=@lift Out fun k=>D.W k a
noncomputable def p (a1:Arg):Option Out:=bif decide (a1.2.1.1=(5:Int)) then (bif decide (a1.2.1.1=(5:Int)) then ((qA.aa (a1.1,a1.2.1,())).bind fun r2=>some (r2.1,())) else bif decide (a1.2.1.1=(1:Int)) then ((jX.aa (a1.1,a1.2.1.2.1,())).bind fun r3=>bif decide ((0:Int)<=r3.1) then ((kd.aa ((6:Int),())).bind fun r4=>some (r4.1,())) else bif decide ((8:Int)<=(a1.1.2.1.length:Int)) then ((kd.aa ((2:Int),())).bind fun r5=>some (r5.1,())) else (f5.aa (a1.1,())).bind fun r6=>if r6.1.2.1.length+[(a1.2.1.2.1,([]:List Change),())].length<=bz then (let y7:=r6.1.2.1++[(a1.2.1.2.1,([]:List Change),())];some (((0:Int),false,false,(0:Int),([]:List Change),(r6.1.1,y7,r6.1.2.2),()),())) else none) else (mj.aa (a1.1,a1.2.1,())).bind fun X5=>some (X5.1,())) else bif decide (a1.2.1.1=(6:Int)) then ((qA.aa (a1.1,a1.2.1,())).bind fun r8=>some (r8.1,())) else bif decide (a1.2.1.1=(1:Int)) then ((jX.aa (a1.1,a1.2.1.2.1,())).bind fun r9=>bif decide ((0:Int)<=r9.1) then ((kd.aa ((6:Int),())).bind fun Dw=>some (Dw.1,())) else bif decide ((8:Int)<=(a1.1.2.1.length:Int)) then ((kd.aa ((2:Int),())).bind fun IT=>some (IT.1,())) else (f5.aa (a1.1,())).bind fun CG=>if CG.1.2.1.length+[(a1.2.1.2.1,([]:List Change),())].length<=bz then (let y13:=CG.1.2.1++[(a1.2.1.2.1,([]:List Change),())];some (((0:Int),false,false,(0:Int),([]:List Change),(CG.1.1,y13,CG.1.2.2),()),())) else none) else (mj.aa (a1.1,a1.2.1,())).bind fun RY=>some (RY.1,())
theorem ae (k:Nat) (a1:Arg):@Eq (Option Out) (D.W k a1) (p a1):=by kernel_rfl
theorem ok:Ok prog 133 D.sig:=aw func133 a7 (by kernel_rfl) (fc kd.ok (fc jX.ok (fc qA.ok (fc f5.ok (fc mj.ok (ak _))))))
end qP
namespace gv
abbrev Arg:Type:=(List UInt8)×Unit
abbrev Out:Type:=(List UInt8)×Unit
abbrev Y:=Option Out
noncomputable def D:FD:={ fn:=f62,tl:=be,ps:=[(.ro,(.U u8))],rs:=[((.U u8),(am (.U u8)))],lv:=[(3,[0,3,4])],lx:=[(0,[3])] }
noncomputable def aa (a:Arg):Y:=@lift Out fun k=>D.W k a
noncomputable def T0 (a1:Arg) (J:(List UInt8)×Int):St:={ n:=22,sl:=[(0,.val (.U u8) a1.1),(3,.own (.U u8) (am (.U u8)) [] J.1),(4,.val i64 J.2)],vr:=[],aT:=[] }
noncomputable def b0 (self:((List UInt8)×Int)->Y) (e0:(List UInt8)->Y) (a1:Arg) (J:(List UInt8)×Int):Y:=bif decide (J.2 < (a1.1.length:Int)) then (if 0<=J.2 then ((a1.1[J.2.toNat]?).bind fun a_=>if 0<=J.2/\J.2 < (J.1.length:Int) then ((J.1[J.2.toNat]?).bind fun en=>self (J.1.set J.2.toNat a_,af (J.2+(1:Int)))) else none) else none) else e0 J.1
noncomputable def q0 (a1:Arg) (dz:(List UInt8)):Y:=some (dz,())
noncomputable def s0 (k:Nat) (a1:Arg):((List UInt8)×Int)->Y:=fun J=>D.L k [1,1,0,1,0,0] [0,3,4] [] (ag 0 (ay (D.N k [1,1,1]) D.K0)) (T0 a1 J)
noncomputable def r0 (k:Nat) (a1:Arg):((List UInt8)×Int)->Y:=aq (fun w v=>b0 w (q0 a1) a1 v) k
theorem ax (k:Nat) (a1:Arg):s0 k a1=r0 k a1:=
 funext fun J=>av _ _ _ (T0 a1) _ (fun rec v=>by kernel_rfl) k J
noncomputable def p (l0:((List UInt8)×Int)->Y) (a1:Arg):Y:=if 0<=(a1.1.length:Int)/\(a1.1.length:Int)<=(a1.1.length:Int)/\(a1.1.length:Int)<=(bz:Int) then (l0 (List.replicate (a1.1.length:Int).toNat (0:UInt8),(0:Int))) else none
theorem ae (k:Nat) (a1:Arg):@Eq Y (D.W k a1) (p (r0 k a1) a1):=
 aX (b:=p (s0 k a1) a1) (by kernel_rfl) (by rw[ax])
theorem ok:Ok prog 62 D.sig:=aw func62 a7 (by kernel_rfl) (ak _)
end gv
namespace jy
abbrev Arg:Type:=(List (List UInt8))×Unit
abbrev Out:Type:=(List (List UInt8))×Unit
abbrev Y:=Option Out
noncomputable def D:FD:={ fn:=f134,tl:=be,ps:=[(.ro,(.U (.U u8)))],rs:=[((.U (.U u8)),(am (.U (.U u8))))],gl:=[(62,gv.D.sig)],lv:=[(3,[0,3,4])],lx:=[(0,[3])] }
noncomputable def aa (a:Arg):Y:=@lift Out fun k=>D.W k a
noncomputable def T0 (a1:Arg) (J:(List (List UInt8))×Int):St:={ n:=23,sl:=[(0,.val (.U (.U u8)) a1.1),(3,.own (.U (.U u8)) (am (.U (.U u8))) [] J.1),(4,.val i64 J.2)],vr:=[],aT:=[] }
noncomputable def b0 (self:((List (List UInt8))×Int)->Y) (e0:(List (List UInt8))->Y) (a1:Arg) (J:(List (List UInt8))×Int):Y:=bif decide (J.2 < (a1.1.length:Int)) then (if 0<=J.2 then ((a1.1[J.2.toNat]?).bind fun a_=>(gv.aa (a_,())).bind fun dn=>if 0<=J.2/\J.2 < (J.1.length:Int) then ((J.1[J.2.toNat]?).bind fun i_=>self (J.1.set J.2.toNat dn.1,af (J.2+(1:Int)))) else none) else none) else e0 J.1
noncomputable def q0 (a1:Arg) (lA:(List (List UInt8))):Y:=some (lA,())
noncomputable def s0 (k:Nat) (a1:Arg):((List (List UInt8))×Int)->Y:=fun J=>D.L k [1,1,0,1,0,0] [0,3,4] [] (ag 0 (ay (D.N k [1,1,1]) D.K0)) (T0 a1 J)
noncomputable def r0 (k:Nat) (a1:Arg):((List (List UInt8))×Int)->Y:=aq (fun w v=>b0 w (q0 a1) a1 v) k
theorem ax (k:Nat) (a1:Arg):s0 k a1=r0 k a1:=
 funext fun J=>av _ _ _ (T0 a1) _ (fun rec v=>by kernel_rfl) k J
noncomputable def p (l0:((List (List UInt8))×Int)->Y) (a1:Arg):Y:=if 0<=(a1.1.length:Int)/\(a1.1.length:Int)<=(a1.1.length:Int)/\(a1.1.length:Int)<=(bz:Int) then (l0 (List.replicate (a1.1.length:Int).toNat ([]:List UInt8),(0:Int))) else none
theorem ae (k:Nat) (a1:Arg):@Eq Y (D.W k a1) (p (r0 k a1) a1):=
 aX (b:=p (s0 k a1) a1) (by kernel_rfl) (by rw[ax])
theorem ok:Ok prog 134 D.sig:=aw func134 a7 (by kernel_rfl) (fc gv.ok (ak _))
end jy
namespace lp
abbrev Arg:Type:=(List UInt8)×Unit
abbrev Out:Type:=Int×Unit
noncomputable def D:FD:={ fn:=f307,tl:=be,ps:=[(.ro,(.U u8))],rs:=[(i64,(az i64))] }
noncomputable def aa (a:Arg):Option Out:=@lift Out fun k=>D.W k a
noncomputable def p (a1:Arg):Option Out:=(a1.1[0]?).bind fun x2=>some (af (x2.toNat:Int),())
theorem ae (k:Nat) (a1:Arg):@Eq (Option Out) (D.W k a1) (p a1):=by kernel_rfl
theorem ok:Ok prog 307 D.sig:=aw func307 a7 (by kernel_rfl) (ak _)
end lp
namespace pe
abbrev Arg:Type:=(List UInt8)×Int×Unit
abbrev Out:Type:=Int×Int×Unit
noncomputable def D:FD:={ fn:=f395,tl:=be,ps:=[(.ro,(.U u8)),(.ro,i64)],rs:=[(i64,(az i64)),(i64,(az i64))],od:=[(1,[0,1,2,3,4,5,6,7,8,9,10,11,12,13,14,15])] }
noncomputable def aa (a:Arg):Option Out:=@lift Out fun k=>D.W k a
noncomputable def p (a1:Arg):Option Out:=if 0<=af ((2:Int)+(af ((2:Int)*a1.2.1))) then ((a1.1[(af ((2:Int)+(af ((2:Int)*a1.2.1)))).toNat]?).bind fun x2=>if 0<=af ((3:Int)+(af ((2:Int)*a1.2.1))) then ((a1.1[(af ((3:Int)+(af ((2:Int)*a1.2.1)))).toNat]?).bind fun x3=>some (af (x2.toNat:Int),af (x3.toNat:Int),())) else none) else none
theorem ae (k:Nat) (a1:Arg):@Eq (Option Out) (D.W k a1) (p a1):=by kernel_rfl
theorem ok:Ok prog 395 D.sig:=aw func395 a7 (by kernel_rfl) (ak _)
end pe
namespace bm
abbrev Arg:Type:=(List UInt8)×Unit
abbrev Out:Type:=Int×Unit
abbrev Y:=Option Out
noncomputable def D:FD:={ fn:=f306,tl:=be,ps:=[(.ro,(.U u8))],rs:=[(i64,(az i64))],gl:=[(307,lp.D.sig),(395,pe.D.sig)],lv:=[(7,[0,3,4,35,36]),(15,[0,3,8,66,67]),(19,[0,3,8,10,11,12,66,67])],lx:=[(0,[0,3]),(2,[0,3]),(4,[0,3,8,66,67])],od:=[(3,[0,2,3,4,5,1,6,7])] }
noncomputable def aa (a:Arg):Y:=@lift Out fun k=>D.W k a
noncomputable def T0 (a1:Arg) (lP:Int) (d7:Int) (kQ:Int):St:={ n:=101,sl:=[(0,.val (.U u8) a1.1),(3,.val i64 lP),(4,.val i64 d7),(35,.val i64 lP),(36,.val i64 kQ)],vr:=[],aT:=[] }
noncomputable def S0 (rec:RT Out) (a1:Arg) (lP:Int) (d7:Int):(Int)->Y:=fun kQ=>rec (T0 a1 lP d7 kQ)
noncomputable def co (K:KT Out) (a1:Arg) (lP:Int) (d7:Int):(Unit)->Y:=fun z=>K (.exit 0) ({ n:=101,sl:=[(0,.val (.U u8) a1.1),(3,.val i64 lP)],vr:=[],aT:=[] })
noncomputable def b0 (self:Int->Y) (e0:(Unit)->Y) (a1:Arg) (lP:Int) (d7:Int) (kQ:Int):Y:=bif decide (kQ < lP) then ((pe.aa (a1.1,kQ,())).bind fun lO=>bif !((decide (lO.1=(0:Int))) == (decide (lO.2.1=(0:Int)))) then (some ((3:Int),())) else bif !decide (lO.1=(0:Int)) then (bif decide (lO.1 < d7) then (some ((3:Int),())) else bif decide ((64:Int) < af (lO.1+lO.2.1)) then (some ((3:Int),())) else self (af (kQ+(1:Int)))) else bif decide ((64:Int) < af (lO.1+lO.2.1)) then (some ((3:Int),())) else self (af (kQ+(1:Int)))) else e0 ()
theorem li (k:Nat) (rec:RT Out) (K:KT Out) (a1:Arg) (lP:Int) (d7:Int) (kQ:Int):D.N k [1,1,1,1,0,1,0,0] (T0 a1 lP d7 kQ) (ic rec (ey [0,3,4,35,36] []) K)=b0 (S0 rec a1 lP d7) (co K a1 lP d7) a1 lP d7 kQ:=by kernel_rfl
noncomputable def T1 (a1:Arg) (cq:(List UInt8)×Int×(List Bool)×Int×Int):St:={ n:=101,sl:=[(0,.val (.U u8) cq.1),(3,.val i64 cq.2.1),(8,.box (.arr 64 .bool) (az (.arr 64 .bool)) [] cq.2.2.1),(66,.val i64 cq.2.2.2.1),(67,.val i64 cq.2.2.2.2)],vr:=[],aT:=[] }
noncomputable def S1 (rec:RT Out) (a1:Arg):((List UInt8)×Int×(List Bool)×Int×Int)->Y:=fun cq=>rec (T1 a1 cq)
noncomputable def ju (K:KT Out) (a1:Arg):((List UInt8)×Int)->Y:=fun z=>K (.exit 2) ({ n:=101,sl:=[(0,.val (.U u8) z.1),(3,.val i64 z.2)],vr:=[],aT:=[] })
noncomputable def T2 (a1:Arg) (f9:List UInt8) (dy:Int) (oL:Int) (oM:Int) (oN:Int) (oO:Int) (lT:(List Bool)×Int):St:={ n:=101,sl:=[(0,.val (.U u8) f9),(3,.val i64 dy),(8,.box (.arr 64 .bool) (az (.arr 64 .bool)) [] lT.1),(10,.val i64 oL),(11,.val i64 oM),(12,.val i64 lT.2),(66,.val i64 oN),(67,.val i64 oO)],vr:=[],aT:=[] }
noncomputable def b2 (self:((List Bool)×Int)->Y) (e4:(List Bool)->Y) (a1:Arg) (f9:List UInt8) (dy:Int) (oL:Int) (oM:Int) (oN:Int) (oO:Int) (lT:(List Bool)×Int):Y:=bif decide (lT.2 < af (oL+oM)) then (if 0<=lT.2/\lT.2 < (lT.1.length:Int) then ((lT.1[lT.2.toNat]?).bind fun Zo=>bif Zo then (some ((8:Int),())) else if 0<=lT.2/\lT.2 < (lT.1.length:Int) then ((lT.1[lT.2.toNat]?).bind fun Pm=>self (lT.1.set lT.2.toNat true,af (lT.2+(1:Int)))) else none) else none) else e4 lT.1
noncomputable def q1 (self:((List UInt8)×Int×(List Bool)×Int×Int)->Y) (e2:((List UInt8)×Int)->Y) (a1:Arg) (f9:List UInt8) (dy:Int) (oL:Int) (oM:Int) (oN:Int) (oO:Int) (Pn:(List Bool)):Y:=self (f9,dy,Pn,oN,af (oO+(1:Int)))
noncomputable def s2 (k:Nat) (rec:RT Out) (K:KT Out) (a1:Arg):(List UInt8)->Int->Int->Int->Int->Int->((List Bool)×Int)->Y:=fun f9 dy oL oM oN oO=>fun lT=>D.L k [1,1,1,1,1,1,0,1,0,0,1,1,0,0,1,1,1,0,0] [0,3,8,10,11,12,66,67] [] (ag 4 (ag 3 (ay (D.N k [1,1,1,1,1,1,0,1,0,0,1,1,1]) (ic rec (ey [0,3,8,66,67] []) K)))) (T2 a1 f9 dy oL oM oN oO lT)
noncomputable def r2 (k:Nat) (self:((List UInt8)×Int×(List Bool)×Int×Int)->Y) (e2:((List UInt8)×Int)->Y) (a1:Arg):(List UInt8)->Int->Int->Int->Int->Int->((List Bool)×Int)->Y:=fun f9 dy oL oM oN oO=>aq (fun w v=>b2 w (q1 self e2 a1 f9 dy oL oM oN oO) a1 f9 dy oL oM oN oO v) k
theorem rG (k:Nat) (rec:RT Out) (K:KT Out) (a1:Arg):s2 k rec K a1=r2 k (S1 rec a1) (ju K a1) a1:=
 funext fun f9=>funext fun dy=>funext fun oL=>funext fun oM=>funext fun oN=>funext fun oO=>funext fun lT=>av _ _ _ (T2 a1 f9 dy oL oM oN oO) _ (fun rec v=>by kernel_rfl) k lT
noncomputable def b1 (self:((List UInt8)×Int×(List Bool)×Int×Int)->Y) (e2:((List UInt8)×Int)->Y) (l2:(List UInt8)->Int->Int->Int->Int->Int->((List Bool)×Int)->Y) (a1:Arg) (cq:(List UInt8)×Int×(List Bool)×Int×Int):Y:=bif decide (cq.2.2.2.2 < cq.2.2.2.1) then ((pe.aa (cq.1,cq.2.2.2.2,())).bind fun uJ=>l2 cq.1 cq.2.1 uJ.1 uJ.2.1 cq.2.2.2.1 cq.2.2.2.2 (cq.2.2.1,uJ.1)) else e2 (cq.1,cq.2.1)
noncomputable def B1 (k:Nat) (self:((List UInt8)×Int×(List Bool)×Int×Int)->Y) (e2:((List UInt8)×Int)->Y) (a1:Arg) (cq:(List UInt8)×Int×(List Bool)×Int×Int):Y:=b1 self e2 (r2 k self e2 a1) a1 cq
theorem sU (k:Nat) (rec:RT Out) (K:KT Out) (a1:Arg) (cq:(List UInt8)×Int×(List Bool)×Int×Int):D.N k [1,1,1,1,1,1,0,1,0,0] (T1 a1 cq) (ic rec (ey [0,3,8,66,67] []) K)=B1 k (S1 rec a1) (ju K a1) a1 cq:=
 aX (b:=b1 (S1 rec a1) (ju K a1) (s2 k rec K a1) a1 cq) (by kernel_rfl) (by rw[rG];rfl)
noncomputable def q2 (a1:Arg) (vt:((List UInt8)×Int)):Y:=bif decide ((0:Int) < vt.2) then (if 0<=af ((af ((2:Int)*vt.2))+(1:Int)) then ((vt.1[(af ((af ((2:Int)*vt.2))+(1:Int))).toNat]?).bind fun Zp=>bif decide ((Zp.toNat:Int)=(0:Int)) then (some ((8:Int),())) else some ((0:Int),())) else none) else some ((0:Int),())
theorem uK (k:Nat) (a1:Arg) (vt:((List UInt8)×Int)):ju (ag 2 (ay (D.N k [1,1,1,1,1,1,1]) D.K0)) a1 vt=q2 a1 vt:=by kernel_rfl
noncomputable def s1 (k:Nat) (a1:Arg) (lP:Int) (d7:Int):((List UInt8)×Int×(List Bool)×Int×Int)->Y:=fun cq=>D.L k [1,1,1,1,1,1,0,1,0,0] [0,3,8,66,67] [] (ag 2 (ay (D.N k [1,1,1,1,1,1,1]) D.K0)) (T1 a1 cq)
noncomputable def r1 (k:Nat) (a1:Arg) (lP:Int) (d7:Int):((List UInt8)×Int×(List Bool)×Int×Int)->Y:=aq (fun w v=>B1 k w (q2 a1) a1 v) k
theorem lj (k:Nat) (a1:Arg) (lP:Int) (d7:Int):s1 k a1 lP d7=r1 k a1 lP d7:=by
 funext cq;have h2:ju (ag 2 (ay (D.N k [1,1,1,1,1,1,1]) D.K0)) a1=q2 a1:=funext fun z=>uK k a1 z;refine (av _ _ _ (T1 a1) (fun self v=>B1 k self (ju (ag 2 (ay (D.N k [1,1,1,1,1,1,1]) D.K0)) a1) a1 v) (fun rec v=>sU k rec (ag 2 (ay (D.N k [1,1,1,1,1,1,1]) D.K0)) a1 v) k cq).trans ?_;rw[h2];rfl
noncomputable def q0 (l1:((List UInt8)×Int×(List Bool)×Int×Int)->Y) (a1:Arg) (lP:Int) (d7:Int) (pr:(Unit)):Y:=l1 (a1.1,lP,List.replicate 64 false,lP,(0:Int))
noncomputable def Q0 (k:Nat) (a1:Arg) (lP:Int) (d7:Int) (pr:(Unit)):Y:=q0 (r1 k a1 lP d7) a1 lP d7 pr
theorem oK (k:Nat) (a1:Arg) (lP:Int) (d7:Int) (pr:(Unit)):co (ag 0 (ay (D.N k [1,1,1,1,1]) D.K0)) a1 lP d7 pr=Q0 k a1 lP d7 pr:=
 aX (b:=q0 (s1 k a1 lP d7) a1 lP d7 pr) (by kernel_rfl) (by rw[lj];rfl)
noncomputable def s0 (k:Nat) (a1:Arg):Int->Int->(Int)->Y:=fun lP d7=>fun kQ=>D.L k [1,1,1,1,0,1,0,0] [0,3,4,35,36] [] (ag 0 (ay (D.N k [1,1,1,1,1]) D.K0)) (T0 a1 lP d7 kQ)
noncomputable def r0 (k:Nat) (a1:Arg):Int->Int->(Int)->Y:=fun lP d7=>aq (fun w v=>b0 w (Q0 k a1 lP d7) a1 lP d7 v) k
theorem ax (k:Nat) (a1:Arg):s0 k a1=r0 k a1:=by
 funext lP;funext d7;funext kQ;have h0:co (ag 0 (ay (D.N k [1,1,1,1,1]) D.K0)) a1 lP d7=Q0 k a1 lP d7:=funext fun z=>oK k a1 lP d7 z;refine (av _ _ _ (T0 a1 lP d7) (fun self v=>b0 self (co (ag 0 (ay (D.N k [1,1,1,1,1]) D.K0)) a1 lP d7) a1 lP d7 v) (fun rec v=>li k rec (ag 0 (ay (D.N k [1,1,1,1,1]) D.K0)) a1 lP d7 v) k kQ).trans ?_;rw[h0];rfl
noncomputable def p (l0:Int->Int->(Int)->Y) (a1:Arg):Y:=bif !decide ((a1.1.length:Int)=(64:Int)) then (some ((1:Int),())) else (a1.1[1]?).bind fun x2=>(lp.aa (a1.1,())).bind fun r3=>bif decide ((16:Int) < r3.1) then (some ((3:Int),())) else bif decide (af (x2.toNat:Int) < af ((2:Int)+(af ((2:Int)*r3.1)))) then (some ((3:Int),())) else bif decide ((64:Int) < af (x2.toNat:Int)) then (some ((3:Int),())) else l0 r3.1 (af (x2.toNat:Int)) (0:Int)
theorem ae (k:Nat) (a1:Arg):@Eq Y (D.W k a1) (p (r0 k a1) a1):=
 aX (b:=p (s0 k a1) a1) (by kernel_rfl) (by rw[ax])
theorem ok:Ok prog 306 D.sig:=aw func306 a7 (by kernel_rfl) (fc lp.ok (fc pe.ok (ak _)))
end bm
namespace np
abbrev Arg:Type:=(List UInt8)×Int×Unit
abbrev Out:Type:=Bool×Unit
noncomputable def D:FD:={ fn:=f308,tl:=be,ps:=[(.ro,(.U u8)),(.ro,i64)],rs:=[(.bool,(az .bool))],gl:=[(307,lp.D.sig)] }
noncomputable def aa (a:Arg):Option Out:=@lift Out fun k=>D.W k a
noncomputable def p (a1:Arg):Option Out:=bif decide ((0:Int)<=a1.2.1) then ((lp.aa (a1.1,())).bind fun r2=>bif decide (a1.2.1 < r2.1) then (if 0<=af ((3:Int)+(af ((2:Int)*a1.2.1))) then ((a1.1[(af ((3:Int)+(af ((2:Int)*a1.2.1)))).toNat]?).bind fun x3=>some (!decide ((x3.toNat:Int)=(0:Int)),())) else none) else some (false,())) else some (false,())
theorem ae (k:Nat) (a1:Arg):@Eq (Option Out) (D.W k a1) (p a1):=by kernel_rfl
theorem ok:Ok prog 308 D.sig:=aw func308 a7 (by kernel_rfl) (fc lp.ok (ak _))
end np
namespace kx
abbrev Arg:Type:=(List UInt8)×Unit
abbrev Out:Type:=rF×Unit
abbrev Y:=Option Out
noncomputable def D:FD:={ fn:=f309,tl:=be,ps:=[(.ro,(.U u8))],rs:=[(qL,(az qL))],gl:=[(313,dp.D.sig)],od:=[(2,[0,1,2,3,4,5,6,7,8,9]),(5,[0,1,2,3,4,5,6,7,8,9,10,11,12,13,14,15,16,17,18,19,20,21,22,23]),(8,[0,1,2,3,4,5,6])] }
noncomputable def aa (a:Arg):Y:=@lift Out fun k=>D.W k a
noncomputable def p (a1:Arg):Y:=let Vz:Y:=let j37:Y:=(a1.1[1]?).bind fun x38=>(a1.1[2]?).bind fun x39=>(a1.1[3]?).bind fun x40=>(a1.1[4]?).bind fun x41=>if 0<=(6:Int)/\(6:Int)<=(a1.1.length:Int) then (let y42:=af ((BitVec.ofInt 64 (af ((af (x40.toNat:Int))*2 ^ 8)) ||| BitVec.ofInt 64 (af (x41.toNat:Int))).toNat:Int);(dp.aa ((af (x38.toNat:Int),af (x39.toNat:Int),y42,(a1.1.take a1.1.length).drop 6,()),())).bind fun r43=>bif !decide (r43.1=(0:Int)) then (some (((5:Int),(0:Int),(0:Int),(0:Int),((0:Int),(0:Int),(0:Int),([]:List UInt8),()),()),())) else (a1.1[0]?).bind fun x44=>some (((0:Int),af (x44.toNat:Int),(0:Int),(0:Int),(af (x38.toNat:Int),af (x39.toNat:Int),y42,(a1.1.take a1.1.length).drop 6,()),()),())) else none;bif decide ((a1.1.length:Int) < (6:Int)) then (some (((5:Int),(0:Int),(0:Int),(0:Int),((0:Int),(0:Int),(0:Int),([]:List UInt8),()),()),())) else (a1.1[0]?).bind fun X8=>bif !decide ((X8.toNat:Int)=(0:Int)) then ((a1.1[0]?).bind fun X9=>bif !decide ((X9.toNat:Int)=(2:Int)) then (some (((5:Int),(0:Int),(0:Int),(0:Int),((0:Int),(0:Int),(0:Int),([]:List UInt8),()),()),())) else (a1.1[5]?).bind fun x28=>bif !decide ((a1.1.length:Int)=af ((6:Int)+(af (x28.toNat:Int)))) then (some (((5:Int),(0:Int),(0:Int),(0:Int),((0:Int),(0:Int),(0:Int),([]:List UInt8),()),()),())) else j37) else (a1.1[5]?).bind fun x29=>bif !decide ((a1.1.length:Int)=af ((6:Int)+(af (x29.toNat:Int)))) then (some (((5:Int),(0:Int),(0:Int),(0:Int),((0:Int),(0:Int),(0:Int),([]:List UInt8),()),()),())) else j37;bif decide ((a1.1.length:Int)=(3:Int)) then ((a1.1[0]?).bind fun x2=>bif decide ((x2.toNat:Int)=(1:Int)) then ((a1.1[1]?).bind fun x3=>bif decide ((x3.toNat:Int) < (12:Int)) then ((a1.1[2]?).bind fun x4=>bif decide ((x4.toNat:Int) < (16:Int)) then ((a1.1[1]?).bind fun x5=>(a1.1[2]?).bind fun x6=>some (((0:Int),(1:Int),af (x5.toNat:Int),af (x6.toNat:Int),((0:Int),(0:Int),(0:Int),([]:List UInt8),()),()),())) else Vz) else Vz) else Vz) else Vz
theorem ae (k:Nat) (a1:Arg):@Eq Y (D.W k a1) (p a1):=by kernel_rfl
theorem ok:Ok prog 309 D.sig:=aw func309 a7 (by kernel_rfl) (fc dp.ok (ak _))
end kx
namespace nS
abbrev Arg:Type:=(List UInt8)×Int×Unit
abbrev Out:Type:=(List UInt8)×Unit
noncomputable def D:FD:={ fn:=f310,tl:=be,ps:=[(.ro,(.U u8)),(.ro,i64)],rs:=[((.U u8),(az (.U u8)))],gl:=[(395,pe.D.sig)] }
noncomputable def aa (a:Arg):Option Out:=@lift Out fun k=>D.W k a
noncomputable def p (a1:Arg):Option Out:=(pe.aa (a1.1,a1.2.1,())).bind fun r2=>if 0<=r2.1/\r2.1<=af (r2.1+r2.2.1)/\af (r2.1+r2.2.1)<=(a1.1.length:Int) then (some ((a1.1.take (af (r2.1+r2.2.1)).toNat).drop r2.1.toNat,())) else none
theorem ae (k:Nat) (a1:Arg):@Eq (Option Out) (D.W k a1) (p a1):=by kernel_rfl
theorem ok:Ok prog 310 D.sig:=aw func310 a7 (by kernel_rfl) (fc pe.ok (ak _))
end nS
namespace oF
abbrev Arg:Type:=Seen×Seen×Unit
abbrev Out:Type:=Int×Unit
noncomputable def D:FD:={ fn:=f397,tl:=be,ps:=[(.ro,ig),(.ro,ig)],rs:=[(i64,(az i64))],gl:=[(312,ii.D.sig)] }
noncomputable def aa (a:Arg):Option Out:=@lift Out fun k=>D.W k a
noncomputable def p (a1:Arg):Option Out:=(ii.aa (a1.1.1,a1.2.1.1,())).bind fun r2=>some (r2.1,())
theorem ae (k:Nat) (a1:Arg):@Eq (Option Out) (D.W k a1) (p a1):=by kernel_rfl
theorem ok:Ok prog 397 D.sig:=aw func397 a7 (by kernel_rfl) (fc ii.ok (ak _))
end oF
namespace oQ
open Go.Proofs
abbrev Arg:Type:=(List Seen)×(Nat×Int)×Unit
abbrev Out:Type:=(List Seen)×Unit
noncomputable def aa (a:Arg):Option Out:=(xm ig oF.aa a.1).map fun r=>(r,())
noncomputable def sig:sC:={ ps:=[(.nO (am (.U ig)),.U ig),(.fix 397,.fn)],rs:=[],F:=aa }
def MF:Go.Shelf.Ren:=⟨fun | 6=>396 | 15=>442 | 14=>441 | 28=>465 | 29=>466 | 20=>457 | 21=>458 | 22=>459 | 23=>460 | 24=>461 | 25=>462 | 26=>463 | 27=>464 | 46=>468 | 47=>469 | 48=>470 | 49=>471 | 50=>472 | 57=>473 | n=>n,fun | 22=>264 | 24=>273 | 25=>470 | 3=>3 | 39=>464 | 0=>0 | 53=>532 | 55=>534 | 4=>4 | 46=>526 | 45=>525 | 50=>394 | 5=>5 | 9=>9 | 66=>536 | 70=>540 | 76=>542 | 77=>461 | n=>n,fun | n=>n⟩
theorem Wo:Go.Proofs.SlLaysF0.n6 Tryz.prog MF:={
 mixed:=by kernel_rfl
 f6:=⟨Tryz.f396.name,by decide,Tryz.func396.trans (dB some (by kernel_rfl))⟩
 f14:=⟨Tryz.f441.name,by decide,Tryz.func441.trans (dB some (by kernel_rfl))⟩
 f15:=Tryz.func442.trans (dB some (by kernel_rfl))
 f20:=⟨Tryz.f457.name,by decide,Tryz.func457.trans (dB some (by kernel_rfl))⟩
 f21:=⟨Tryz.f458.name,by decide,Tryz.func458.trans (dB some (by kernel_rfl))⟩
 f22:=⟨Tryz.f459.name,by decide,Tryz.func459.trans (dB some (by kernel_rfl))⟩
 f23:=⟨Tryz.f460.name,by decide,Tryz.func460.trans (dB some (by kernel_rfl))⟩
 f24:=⟨Tryz.f461.name,by decide,Tryz.func461.trans (dB some (by kernel_rfl))⟩
 f25:=⟨Tryz.f462.name,by decide,Tryz.func462.trans (dB some (by kernel_rfl))⟩
 f26:=⟨Tryz.f463.name,by decide,Tryz.func463.trans (dB some (by kernel_rfl))⟩
 f27:=⟨Tryz.f464.name,by decide,Tryz.func464.trans (dB some (by kernel_rfl))⟩
 f28:=Tryz.func465.trans (dB some (by kernel_rfl))
 f29:=Tryz.func466.trans (dB some (by kernel_rfl))
 f46:=⟨Tryz.f468.name,by decide,Tryz.func468.trans (dB some (by kernel_rfl))⟩
 f47:=Tryz.func469.trans (dB some (by kernel_rfl))
 f48:=Tryz.func470.trans (dB some (by kernel_rfl))
 f49:=⟨Tryz.f471.name,by decide,Tryz.func471.trans (dB some (by kernel_rfl))⟩
 f50:=⟨Tryz.f472.name,by decide,Tryz.func472.trans (dB some (by kernel_rfl))⟩
 f57:=⟨Tryz.f473.name,by decide,Tryz.func473.trans (dB some (by kernel_rfl))⟩
 t0:=Tryz.underlying0
 a0:=Tryz.isAgg0
 z0:=Tryz.sizeOf0
 v0:=Tryz.zeroValue0
 t3:=Tryz.underlying3
 a3:=Tryz.isAgg3
 z3:=Tryz.sizeOf3
 v3:=Tryz.zeroValue3
 t4:=Tryz.underlying4
 a4:=Tryz.isAgg4
 z4:=Tryz.sizeOf4
 v4:=Tryz.zeroValue4
 t5:=Tryz.underlying5
 a5:=Tryz.isAgg5
 z5:=Tryz.sizeOf5
 v5:=Tryz.zeroValue5
 t9:=Tryz.underlying9
 a9:=Tryz.isAgg9
 z9:=Tryz.sizeOf9
 v9:=Tryz.zeroValue9
 t22:=Tryz.underlying264
 a22:=Tryz.isAgg264
 z22:=Tryz.sizeOf264
 v22:=Tryz.zeroValue264
 t25:=Tryz.underlying470
 a25:=Tryz.isAgg470
 z25:=Tryz.sizeOf470
 v25:=Tryz.zeroValue470
 t39:=Tryz.underlying464
 a39:=Tryz.isAgg464
 z39:=Tryz.sizeOf464
 v39:=Tryz.zeroValue464
 t45:=Tryz.underlying525
 a45:=Tryz.isAgg525
 z45:=Tryz.sizeOf525
 v45:=Tryz.zeroValue525
 t46:=Tryz.underlying526
 a46:=Tryz.isAgg526
 z46:=Tryz.sizeOf526
 v46:=Tryz.zeroValue526
 t50:=Tryz.underlying394
 a50:=Tryz.isAgg394
 z50:=Tryz.sizeOf394
 v50:=Tryz.zeroValue394
 t53:=Tryz.underlying532
 a53:=Tryz.isAgg532
 z53:=Tryz.sizeOf532
 v53:=Tryz.zeroValue532
 t55:=Tryz.underlying534
 a55:=Tryz.isAgg534
 z55:=Tryz.sizeOf534
 v55:=Tryz.zeroValue534
 t66:=Tryz.underlying536
 a66:=Tryz.isAgg536
 z66:=Tryz.sizeOf536
 v66:=Tryz.zeroValue536
 t70:=Tryz.underlying540
 a70:=Tryz.isAgg540
 z70:=Tryz.sizeOf540
 v70:=Tryz.zeroValue540
 t76:=Tryz.underlying542
 a76:=Tryz.isAgg542
 z76:=Tryz.sizeOf542
 v76:=Tryz.zeroValue542
 t77:=Tryz.underlying461
 a77:=Tryz.isAgg461
 z77:=Tryz.sizeOf461
 v77:=Tryz.zeroValue461 }
theorem ok:Ok prog 396 sig:=Wn (e:=ig) Wo rfl rfl (by kernel_rfl) (by decide) (g:=397) (cF:=oF.aa) oF.ok ⟨f396,func396,by kernel_rfl,by kernel_rfl,by kernel_rfl⟩
end oQ
namespace bk
abbrev Arg:Type:=(List (List UInt8))×Unit
abbrev Out:Type:=(List Seen)×Int×Unit
abbrev Y:=Option Out
noncomputable def D:FD:={ fn:=f311,tl:=be,ps:=[(.ro,(.U (.U u8)))],rs:=[((.U ig),(am (.U ig))),(i64,(az i64))],gl:=[(307,lp.D.sig),(308,np.D.sig),(309,kx.D.sig),(310,nS.D.sig),(326,gb.D.sig),(396,oQ.sig)],lv:=[(4,[4,5,6,21,22,23]),(7,[4,5,6,7,8,21,22,23,29,30]),(21,[4,5,6,81,82,83]),(29,[4,5,6,15,101,102,103]),(40,[4,19])],lx:=[(0,[4,5,6]),(2,[4,5,6,21,22,23]),(3,[4,5,6,7,8,21,22,23,29,30]),(5,[4,5,6]),(7,[4]),(9,[4])],od:=[(42,[0,1,2,3,4,5,6,7,8,9,10,11,12])] }
noncomputable def aa (a:Arg):Y:=@lift Out fun k=>D.W k a
noncomputable def T0 (a1:Arg) (J:(List Seen)×(List Seen)×(List ((List Int)×Row))×(List (List UInt8))×Int×Int):St:={ n:=148,sl:=[(4,.own (.U ig) (am (.U ig)) [] J.1),(5,.own (.U ig) (am (.U ig)) [] J.2.1),(6,.own (.map (.arr 2 i64) au) (am (.map (.arr 2 i64) au)) [] J.2.2.1),(21,.val (.U (.U u8)) J.2.2.2.1),(22,.val i64 J.2.2.2.2.1),(23,.val i64 J.2.2.2.2.2)],vr:=[],aT:=[] }
noncomputable def S0 (rec:RT Out) (a1:Arg):((List Seen)×(List Seen)×(List ((List Int)×Row))×(List (List UInt8))×Int×Int)->Y:=fun J=>rec (T0 a1 J)
noncomputable def co (K:KT Out) (a1:Arg):((List Seen)×(List Seen)×(List ((List Int)×Row)))->Y:=fun z=>K (.exit 0) ({ n:=148,sl:=[(4,.own (.U ig) (am (.U ig)) [] z.1),(5,.own (.U ig) (am (.U ig)) [] z.2.1),(6,.own (.map (.arr 2 i64) au) (am (.map (.arr 2 i64) au)) [] z.2.2)],vr:=[],aT:=[] })
noncomputable def T1 (a1:Arg) (ll:Int) (jk:List UInt8) (iq:List (List UInt8)) (eo:Int) (e8:Int) (fk:(List Seen)×(List Seen)×(List ((List Int)×Row))×Int):St:={ n:=148,sl:=[(4,.own (.U ig) (am (.U ig)) [] fk.1),(5,.own (.U ig) (am (.U ig)) [] fk.2.1),(6,.own (.map (.arr 2 i64) au) (am (.map (.arr 2 i64) au)) [] fk.2.2.1),(7,.val i64 ll),(8,.val (.U u8) jk),(21,.val (.U (.U u8)) iq),(22,.val i64 eo),(23,.val i64 ll),(29,.val i64 e8),(30,.val i64 fk.2.2.2)],vr:=[],aT:=[] }
noncomputable def b1 (self:((List Seen)×(List Seen)×(List ((List Int)×Row))×Int)->Y) (e2:((List Seen)×(List Seen)×(List ((List Int)×Row)))->Y) (a1:Arg) (ll:Int) (jk:List UInt8) (iq:List (List UInt8)) (eo:Int) (e8:Int) (fk:(List Seen)×(List Seen)×(List ((List Int)×Row))×Int):Y:=bif decide (fk.2.2.2 < e8) then ((np.aa (jk,fk.2.2.2,())).bind fun GU=>bif !GU.1 then (self (fk.1,fk.2.1,fk.2.2.1,af (fk.2.2.2+(1:Int)))) else (nS.aa (jk,fk.2.2.2,())).bind fun JG=>(kx.aa (JG.1,())).bind fun oP=>bif !decide (oP.1.1=(0:Int)) then (some (([]:List Seen),(5:Int),())) else bif decide (oP.1.2.1=(0:Int)) then (if fk.1.length+[(oP.1.2.2.2.2.1,ll,fk.2.2.2,false,ll,fk.2.2.2,())].length<=bz then (let Zq:=fk.1++[(oP.1.2.2.2.2.1,ll,fk.2.2.2,false,ll,fk.2.2.2,())];self (Zq,fk.2.1,fk.2.2.1,af (fk.2.2.2+(1:Int)))) else none) else bif decide (oP.1.2.1=(2:Int)) then (if 0 < (List.replicate 2 (0:Int)).length then (if 1 < ((List.replicate 2 (0:Int)).set 0 ll).length then (let Zr:=nP (.arr 2 i64) fk.2.2.1 (((List.replicate 2 (0:Int)).set 0 ll).set 1 fk.2.2.2) oP.1.2.2.2.2.1;self (fk.1,fk.2.1,Zr,af (fk.2.2.2+(1:Int)))) else none) else none) else if fk.2.1.length+[(((0:Int),(0:Int),(0:Int),([]:List UInt8),()),ll,fk.2.2.2,true,oP.1.2.2.1,oP.1.2.2.2.1,())].length<=bz then (let Zs:=fk.2.1++[(((0:Int),(0:Int),(0:Int),([]:List UInt8),()),ll,fk.2.2.2,true,oP.1.2.2.1,oP.1.2.2.2.1,())];self (fk.1,Zs,fk.2.2.1,af (fk.2.2.2+(1:Int)))) else none) else e2 (fk.1,fk.2.1,fk.2.2.1)
noncomputable abbrev B1 (_:Nat):=b1
noncomputable def q0 (self:((List Seen)×(List Seen)×(List ((List Int)×Row))×(List (List UInt8))×Int×Int)->Y) (e0:((List Seen)×(List Seen)×(List ((List Int)×Row)))->Y) (a1:Arg) (ll:Int) (jk:List UInt8) (iq:List (List UInt8)) (eo:Int) (e8:Int) (Af:((List Seen)×(List Seen)×(List ((List Int)×Row)))):Y:=self (Af.1,Af.2.1,Af.2.2,iq,eo,af (ll+(1:Int)))
noncomputable abbrev Q0 (_:Nat):=q0
noncomputable def s1 (k:Nat) (rec:RT Out) (K:KT Out) (a1:Arg):Int->(List UInt8)->(List (List UInt8))->Int->Int->((List Seen)×(List Seen)×(List ((List Int)×Row))×Int)->Y:=fun ll jk iq eo e8=>fun fk=>D.L k [1,1,1,0,1,0,0,1,1,0,0,1,1,0,0] [4,5,6,7,8,21,22,23,29,30] [] (ag 2 (ag 1 (ay (D.N k [1,1,1,0,1,0,0,1,1,1]) (ic rec (ey [4,5,6,21,22,23] []) K)))) (T1 a1 ll jk iq eo e8 fk)
noncomputable def r1 (k:Nat) (self:((List Seen)×(List Seen)×(List ((List Int)×Row))×(List (List UInt8))×Int×Int)->Y) (e0:((List Seen)×(List Seen)×(List ((List Int)×Row)))->Y) (a1:Arg):Int->(List UInt8)->(List (List UInt8))->Int->Int->((List Seen)×(List Seen)×(List ((List Int)×Row))×Int)->Y:=fun ll jk iq eo e8=>aq (fun w v=>B1 k w (Q0 k self e0 a1 ll jk iq eo e8) a1 ll jk iq eo e8 v) k
theorem lj (k:Nat) (rec:RT Out) (K:KT Out) (a1:Arg):s1 k rec K a1=r1 k (S0 rec a1) (co K a1) a1:=
 funext fun ll=>funext fun jk=>funext fun iq=>funext fun eo=>funext fun e8=>funext fun fk=>av _ _ _ (T1 a1 ll jk iq eo e8) _ (fun rec v=>by kernel_rfl) k fk
noncomputable def b0 (self:((List Seen)×(List Seen)×(List ((List Int)×Row))×(List (List UInt8))×Int×Int)->Y) (e0:((List Seen)×(List Seen)×(List ((List Int)×Row)))->Y) (l1:Int->(List UInt8)->(List (List UInt8))->Int->Int->((List Seen)×(List Seen)×(List ((List Int)×Row))×Int)->Y) (a1:Arg) (J:(List Seen)×(List Seen)×(List ((List Int)×Row))×(List (List UInt8))×Int×Int):Y:=bif decide (J.2.2.2.2.2 < J.2.2.2.2.1) then (if 0<=J.2.2.2.2.2 then ((J.2.2.2.1[J.2.2.2.2.2.toNat]?).bind fun a_=>(lp.aa (a_,())).bind fun dn=>l1 J.2.2.2.2.2 a_ J.2.2.2.1 J.2.2.2.2.1 dn.1 (J.1,J.2.1,J.2.2.1,(0:Int))) else none) else e0 (J.1,J.2.1,J.2.2.1)
noncomputable def B0 (k:Nat) (self:((List Seen)×(List Seen)×(List ((List Int)×Row))×(List (List UInt8))×Int×Int)->Y) (e0:((List Seen)×(List Seen)×(List ((List Int)×Row)))->Y) (a1:Arg) (J:(List Seen)×(List Seen)×(List ((List Int)×Row))×(List (List UInt8))×Int×Int):Y:=b0 self e0 (r1 k self e0 a1) a1 J
theorem li (k:Nat) (rec:RT Out) (K:KT Out) (a1:Arg) (J:(List Seen)×(List Seen)×(List ((List Int)×Row))×(List (List UInt8))×Int×Int):D.N k [1,1,1,0,1,0,0] (T0 a1 J) (ic rec (ey [4,5,6,21,22,23] []) K)=B0 k (S0 rec a1) (co K a1) a1 J:=
 aX (b:=b0 (S0 rec a1) (co K a1) (s1 k rec K a1) a1 J) (by kernel_rfl) (by rw[lj];rfl)
noncomputable def T2 (a1:Arg) (ke:List Seen) (jl:List Seen) (jo:List ((List Int)×Row)) (ky:Int) (sh:Int):St:={ n:=148,sl:=[(4,.own (.U ig) (am (.U ig)) [] ke),(5,.own (.U ig) (am (.U ig)) [] jl),(6,.own (.map (.arr 2 i64) au) (am (.map (.arr 2 i64) au)) [] jo),(81,.ref 5 [] [0,0]),(82,.val i64 ky),(83,.val i64 sh)],vr:=[],aT:=[] }
noncomputable def S2 (rec:RT Out) (a1:Arg) (ke:List Seen) (jl:List Seen) (jo:List ((List Int)×Row)) (ky:Int):(Int)->Y:=fun sh=>rec (T2 a1 ke jl jo ky sh)
noncomputable def Pt (K:KT Out) (a1:Arg) (ke:List Seen) (jl:List Seen) (jo:List ((List Int)×Row)) (ky:Int):(Unit)->Y:=fun z=>K (.exit 5) ({ n:=148,sl:=[(4,.own (.U ig) (am (.U ig)) [] ke),(5,.own (.U ig) (am (.U ig)) [] jl),(6,.own (.map (.arr 2 i64) au) (am (.map (.arr 2 i64) au)) [] jo)],vr:=[],aT:=[] })
noncomputable def b2 (self:Int->Y) (e5:(Unit)->Y) (a1:Arg) (ke:List Seen) (jl:List Seen) (jo:List ((List Int)×Row)) (ky:Int) (sh:Int):Y:=bif decide (sh < ky) then (if 0<=sh/\sh < (jl.length:Int) then ((jl[sh.toNat]?).bind fun GX=>if 0 < (List.replicate 2 (0:Int)).length then (if 1 < ((List.replicate 2 (0:Int)).set 0 GX.2.2.2.2.1).length then (let abj:=yY (jm (.arr 2 i64) jo (((List.replicate 2 (0:Int)).set 0 GX.2.2.2.2.1).set 1 GX.2.2.2.2.2.1)) ((0:Int),(0:Int),(0:Int),([]:List UInt8),());bif !(jm (.arr 2 i64) jo (((List.replicate 2 (0:Int)).set 0 GX.2.2.2.2.1).set 1 GX.2.2.2.2.2.1)).isSome then (some (([]:List Seen),(4:Int),())) else self (af (sh+(1:Int)))) else none) else none) else none) else e5 ()
noncomputable abbrev B2 (_:Nat):=b2
theorem Pi (k:Nat) (rec:RT Out) (K:KT Out) (a1:Arg) (ke:List Seen) (jl:List Seen) (jo:List ((List Int)×Row)) (ky:Int) (sh:Int):D.N k [1,1,1,1,0,1,0,0] (T2 a1 ke jl jo ky sh) (ic rec (ey [4,5,6,81,82,83] []) K)=b2 (S2 rec a1 ke jl jo ky) (Pt K a1 ke jl jo ky) a1 ke jl jo ky sh:=by kernel_rfl
noncomputable def T3 (a1:Arg) (kf:List Seen) (kC:List ((List Int)×Row)) (kD:Int) (oR:(List Seen)×(List ((List Int)×Bool))×Int):St:={ n:=148,sl:=[(4,.own (.U ig) (am (.U ig)) [] oR.1),(5,.own (.U ig) (am (.U ig)) [] kf),(6,.own (.map (.arr 2 i64) au) (am (.map (.arr 2 i64) au)) [] kC),(15,.own (.map (.arr 2 i64) .bool) (am (.map (.arr 2 i64) .bool)) [] oR.2.1),(101,.ref 5 [] [0,0]),(102,.val i64 kD),(103,.val i64 oR.2.2)],vr:=[],aT:=[] }
noncomputable def S3 (rec:RT Out) (a1:Arg) (kf:List Seen) (kC:List ((List Int)×Row)) (kD:Int):((List Seen)×(List ((List Int)×Bool))×Int)->Y:=fun oR=>rec (T3 a1 kf kC kD oR)
noncomputable def Pu (K:KT Out) (a1:Arg) (kf:List Seen) (kC:List ((List Int)×Row)) (kD:Int):(List Seen)->Y:=fun z=>K (.exit 7) ({ n:=148,sl:=[(4,.own (.U ig) (am (.U ig)) [] z)],vr:=[],aT:=[] })
noncomputable def b3 (self:((List Seen)×(List ((List Int)×Bool))×Int)->Y) (e7:(List Seen)->Y) (a1:Arg) (kf:List Seen) (kC:List ((List Int)×Row)) (kD:Int) (oR:(List Seen)×(List ((List Int)×Bool))×Int):Y:=bif decide (oR.2.2 < kD) then (if 0<=oR.2.2/\oR.2.2 < (kf.length:Int) then ((kf[oR.2.2.toNat]?).bind fun GY=>if 0 < (List.replicate 2 (0:Int)).length then (if 1 < ((List.replicate 2 (0:Int)).set 0 GY.2.2.2.2.1).length then (let Pv:=((List.replicate 2 (0:Int)).set 0 GY.2.2.2.2.1).set 1 GY.2.2.2.2.2.1;bif yY (jm (.arr 2 i64) oR.2.1 Pv) false then (some (([]:List Seen),(6:Int),())) else let VA:=yY (jm (.arr 2 i64) kC Pv) ((0:Int),(0:Int),(0:Int),([]:List UInt8),());if oR.1.length+[(VA,GY.2)].length<=bz then (self (oR.1++[(VA,GY.2)],nP (.arr 2 i64) oR.2.1 Pv true,af (oR.2.2+(1:Int)))) else none) else none) else none) else none) else e7 oR.1
noncomputable abbrev B3 (_:Nat):=b3
theorem Zt (k:Nat) (rec:RT Out) (K:KT Out) (a1:Arg) (kf:List Seen) (kC:List ((List Int)×Row)) (kD:Int) (oR:(List Seen)×(List ((List Int)×Bool))×Int):D.N k [1,1,1,1,1,1,0,1,0,0] (T3 a1 kf kC kD oR) (ic rec (ey [4,5,6,15,101,102,103] []) K)=b3 (S3 rec a1 kf kC kD) (Pu K a1 kf kC kD) a1 kf kC kD oR:=by kernel_rfl
noncomputable def T4 (a1:Arg) (si:List Seen) (tT:Int):St:={ n:=148,sl:=[(4,.own (.U ig) (am (.U ig)) [] si),(19,.val i64 tT)],vr:=[],aT:=[] }
noncomputable def b4 (self:Int->Y) (e9:(Unit)->Y) (a1:Arg) (si:List Seen) (tT:Int):Y:=bif decide (tT < (si.length:Int)) then (if 0<=af (tT - (1:Int))/\af (tT - (1:Int)) < (si.length:Int) then ((si[(af (tT - (1:Int))).toNat]?).bind fun Zu=>if 0<=tT/\tT < (si.length:Int) then ((si[tT.toNat]?).bind fun Zv=>(gb.aa (Zu.1,Zv.1,())).bind fun Zw=>bif !Zw.1 then (some (([]:List Seen),(8:Int),())) else self (af (tT+(1:Int)))) else none) else none) else e9 ()
noncomputable abbrev B4 (_:Nat):=b4
noncomputable def q4 (a1:Arg) (si:List Seen) (abk:(Unit)):Y:=some (si,(0:Int),())
noncomputable abbrev Q4 (_:Nat):=q4
noncomputable def s4 (k:Nat) (a1:Arg) (kf:List Seen) (kC:List ((List Int)×Row)) (kD:Int):(List Seen)->(Int)->Y:=fun si=>fun tT=>D.L k [1,1,1,1,1,1,1,1,0,1,0,0] [4,19] [] (ag 9 (ay (D.N k [1,1,1,1,1,1,1,1,1]) D.K0)) (T4 a1 si tT)
noncomputable def r4 (k:Nat) (a1:Arg) (kf:List Seen) (kC:List ((List Int)×Row)) (kD:Int):(List Seen)->(Int)->Y:=fun si=>aq (fun w v=>B4 k w (Q4 k a1 si) a1 si v) k
theorem Zx (k:Nat) (a1:Arg) (kf:List Seen) (kC:List ((List Int)×Row)) (kD:Int):s4 k a1 kf kC kD=r4 k a1 kf kC kD:=
 funext fun si=>funext fun tT=>av _ _ _ (T4 a1 si) _ (fun rec v=>by kernel_rfl) k tT
noncomputable def q3 (l4:(List Seen)->(Int)->Y) (a1:Arg) (kf:List Seen) (kC:List ((List Int)×Row)) (kD:Int) (BU:(List Seen)):Y:=(oQ.aa (BU,((397,0):Nat×Int),())).bind fun Zy=>l4 Zy.1 (1:Int)
noncomputable def Q3 (k:Nat) (a1:Arg) (kf:List Seen) (kC:List ((List Int)×Row)) (kD:Int) (BU:(List Seen)):Y:=q3 (r4 k a1 kf kC kD) a1 kf kC kD BU
theorem Pj (k:Nat) (a1:Arg) (kf:List Seen) (kC:List ((List Int)×Row)) (kD:Int) (BU:(List Seen)):Pu (ag 7 (ay (D.N k [1,1,1,1,1,1,1]) D.K0)) a1 kf kC kD BU=Q3 k a1 kf kC kD BU:=
 aX (b:=q3 (s4 k a1 kf kC kD) a1 kf kC kD BU) (by kernel_rfl) (by rw[Zx];rfl)
noncomputable def s3 (k:Nat) (a1:Arg) (ke:List Seen) (jl:List Seen) (jo:List ((List Int)×Row)) (ky:Int):(List Seen)->(List ((List Int)×Row))->Int->((List Seen)×(List ((List Int)×Bool))×Int)->Y:=fun kf kC kD=>fun oR=>D.L k [1,1,1,1,1,1,0,1,0,0] [4,5,6,15,101,102,103] [] (ag 7 (ay (D.N k [1,1,1,1,1,1,1]) D.K0)) (T3 a1 kf kC kD oR)
noncomputable def r3 (k:Nat) (a1:Arg) (ke:List Seen) (jl:List Seen) (jo:List ((List Int)×Row)) (ky:Int):(List Seen)->(List ((List Int)×Row))->Int->((List Seen)×(List ((List Int)×Bool))×Int)->Y:=fun kf kC kD=>aq (fun w v=>B3 k w (Q3 k a1 kf kC kD) a1 kf kC kD v) k
theorem Ph (k:Nat) (a1:Arg) (ke:List Seen) (jl:List Seen) (jo:List ((List Int)×Row)) (ky:Int):s3 k a1 ke jl jo ky=r3 k a1 ke jl jo ky:=by
 funext kf;funext kC;funext kD;funext oR;have h7:Pu (ag 7 (ay (D.N k [1,1,1,1,1,1,1]) D.K0)) a1 kf kC kD=Q3 k a1 kf kC kD:=funext fun z=>Pj k a1 kf kC kD z;refine (av _ _ _ (T3 a1 kf kC kD) (fun self v=>B3 k self (Pu (ag 7 (ay (D.N k [1,1,1,1,1,1,1]) D.K0)) a1 kf kC kD) a1 kf kC kD v) (fun rec v=>Zt k rec (ag 7 (ay (D.N k [1,1,1,1,1,1,1]) D.K0)) a1 kf kC kD v) k oR).trans ?_;rw[h7];rfl
noncomputable def q2 (l3:(List Seen)->(List ((List Int)×Row))->Int->((List Seen)×(List ((List Int)×Bool))×Int)->Y) (a1:Arg) (ke:List Seen) (jl:List Seen) (jo:List ((List Int)×Row)) (ky:Int) (Em:(Unit)):Y:=l3 jl jo (jl.length:Int) (ke,([]:List ((List Int)×Bool)),(0:Int))
noncomputable def Q2 (k:Nat) (a1:Arg) (ke:List Seen) (jl:List Seen) (jo:List ((List Int)×Row)) (ky:Int) (Em:(Unit)):Y:=q2 (r3 k a1 ke jl jo ky) a1 ke jl jo ky Em
theorem uK (k:Nat) (a1:Arg) (ke:List Seen) (jl:List Seen) (jo:List ((List Int)×Row)) (ky:Int) (Em:(Unit)):Pt (ag 5 (ay (D.N k [1,1,1,1,1]) D.K0)) a1 ke jl jo ky Em=Q2 k a1 ke jl jo ky Em:=
 aX (b:=q2 (s3 k a1 ke jl jo ky) a1 ke jl jo ky Em) (by kernel_rfl) (by rw[Ph];rfl)
noncomputable def s2 (k:Nat) (a1:Arg):(List Seen)->(List Seen)->(List ((List Int)×Row))->Int->(Int)->Y:=fun ke jl jo ky=>fun sh=>D.L k [1,1,1,1,0,1,0,0] [4,5,6,81,82,83] [] (ag 5 (ay (D.N k [1,1,1,1,1]) D.K0)) (T2 a1 ke jl jo ky sh)
noncomputable def r2 (k:Nat) (a1:Arg):(List Seen)->(List Seen)->(List ((List Int)×Row))->Int->(Int)->Y:=fun ke jl jo ky=>aq (fun w v=>B2 k w (Q2 k a1 ke jl jo ky) a1 ke jl jo ky v) k
theorem rG (k:Nat) (a1:Arg):s2 k a1=r2 k a1:=by
 funext ke;funext jl;funext jo;funext ky;funext sh;have h5:Pt (ag 5 (ay (D.N k [1,1,1,1,1]) D.K0)) a1 ke jl jo ky=Q2 k a1 ke jl jo ky:=funext fun z=>uK k a1 ke jl jo ky z;refine (av _ _ _ (T2 a1 ke jl jo ky) (fun self v=>B2 k self (Pt (ag 5 (ay (D.N k [1,1,1,1,1]) D.K0)) a1 ke jl jo ky) a1 ke jl jo ky v) (fun rec v=>Pi k rec (ag 5 (ay (D.N k [1,1,1,1,1]) D.K0)) a1 ke jl jo ky v) k sh).trans ?_;rw[h5];rfl
noncomputable def q1 (l2:(List Seen)->(List Seen)->(List ((List Int)×Row))->Int->(Int)->Y) (a1:Arg) (xn:((List Seen)×(List Seen)×(List ((List Int)×Row)))):Y:=l2 xn.1 xn.2.1 xn.2.2 (xn.2.1.length:Int) (0:Int)
noncomputable def Q1 (k:Nat) (a1:Arg) (xn:((List Seen)×(List Seen)×(List ((List Int)×Row)))):Y:=q1 (r2 k a1) a1 xn
theorem sV (k:Nat) (a1:Arg) (xn:((List Seen)×(List Seen)×(List ((List Int)×Row)))):co (ag 0 (ay (D.N k [1,1,1,1]) D.K0)) a1 xn=Q1 k a1 xn:=
 aX (b:=q1 (s2 k a1) a1 xn) (by kernel_rfl) (by rw[rG];rfl)
noncomputable def s0 (k:Nat) (a1:Arg):((List Seen)×(List Seen)×(List ((List Int)×Row))×(List (List UInt8))×Int×Int)->Y:=fun J=>D.L k [1,1,1,0,1,0,0] [4,5,6,21,22,23] [] (ag 0 (ay (D.N k [1,1,1,1]) D.K0)) (T0 a1 J)
noncomputable def r0 (k:Nat) (a1:Arg):((List Seen)×(List Seen)×(List ((List Int)×Row))×(List (List UInt8))×Int×Int)->Y:=aq (fun w v=>B0 k w (Q1 k a1) a1 v) k
theorem ax (k:Nat) (a1:Arg):s0 k a1=r0 k a1:=by
 funext J;have h0:co (ag 0 (ay (D.N k [1,1,1,1]) D.K0)) a1=Q1 k a1:=funext fun z=>sV k a1 z;refine (av _ _ _ (T0 a1) (fun self v=>B0 k self (co (ag 0 (ay (D.N k [1,1,1,1]) D.K0)) a1) a1 v) (fun rec v=>li k rec (ag 0 (ay (D.N k [1,1,1,1]) D.K0)) a1 v) k J).trans ?_;rw[h0];rfl
noncomputable def p (l0:((List Seen)×(List Seen)×(List ((List Int)×Row))×(List (List UInt8))×Int×Int)->Y) (a1:Arg):Y:=l0 (([]:List Seen),([]:List Seen),([]:List ((List Int)×Row)),a1.1,(a1.1.length:Int),(0:Int))
theorem ae (k:Nat) (a1:Arg):@Eq Y (D.W k a1) (p (r0 k a1) a1):=
 aX (b:=p (s0 k a1) a1) (by kernel_rfl) (by rw[ax])
theorem ok:Ok prog 311 D.sig:=aw func311 a7 (by kernel_rfl) (fc lp.ok (fc np.ok (fc kx.ok (fc nS.ok (fc gb.ok (fc oQ.ok (ak _)))))))
end bk
namespace ej
abbrev Arg:Type:=(List (List UInt8))×Unit
abbrev Out:Type:=(List Seen)×Int×Unit
abbrev Y:=Option Out
noncomputable def D:FD:={ fn:=f192,tl:=be,ps:=[(.ro,(.U (.U u8)))],rs:=[((.U ig),(am (.U ig))),(i64,(az i64))],gl:=[(306,bm.D.sig),(307,lp.D.sig),(308,np.D.sig),(309,kx.D.sig),(310,nS.D.sig),(311,bk.D.sig)],lv:=[(4,[0,11,12,13]),(10,[0,5,11,12,13,23,24])],lx:=[(0,[0]),(2,[0,11,12,13])] }
noncomputable def aa (a:Arg):Y:=@lift Out fun k=>D.W k a
noncomputable def T0 (a1:Arg) (J:(List (List UInt8))×(List (List UInt8))×Int×Int):St:={ n:=44,sl:=[(0,.val (.U (.U u8)) J.1),(11,.val (.U (.U u8)) J.2.1),(12,.val i64 J.2.2.1),(13,.val i64 J.2.2.2)],vr:=[],aT:=[] }
noncomputable def S0 (rec:RT Out) (a1:Arg):((List (List UInt8))×(List (List UInt8))×Int×Int)->Y:=fun J=>rec (T0 a1 J)
noncomputable def co (K:KT Out) (a1:Arg):(List (List UInt8))->Y:=fun z=>K (.exit 0) ({ n:=44,sl:=[(0,.val (.U (.U u8)) z)],vr:=[],aT:=[] })
noncomputable def T1 (a1:Arg) (jk:List (List UInt8)) (iq:List UInt8) (eo:List (List UInt8)) (e8:Int) (oJ:Int) (wz:Int) (eg:Int):St:={ n:=44,sl:=[(0,.val (.U (.U u8)) jk),(5,.val (.U u8) iq),(11,.val (.U (.U u8)) eo),(12,.val i64 e8),(13,.val i64 oJ),(23,.val i64 wz),(24,.val i64 eg)],vr:=[],aT:=[] }
noncomputable def b1 (self:Int->Y) (e2:(Unit)->Y) (a1:Arg) (jk:List (List UInt8)) (iq:List UInt8) (eo:List (List UInt8)) (e8:Int) (oJ:Int) (wz:Int) (eg:Int):Y:=bif decide (eg < wz) then ((np.aa (iq,eg,())).bind fun oP=>bif oP.1 then ((nS.aa (iq,eg,())).bind fun GS=>(kx.aa (GS.1,())).bind fun Zz=>bif !decide (Zz.1.1=(0:Int)) then (some (([]:List Seen),(5:Int),())) else self (af (eg+(1:Int)))) else self (af (eg+(1:Int)))) else e2 ()
noncomputable def q0 (self:((List (List UInt8))×(List (List UInt8))×Int×Int)->Y) (e0:(List (List UInt8))->Y) (a1:Arg) (jk:List (List UInt8)) (iq:List UInt8) (eo:List (List UInt8)) (e8:Int) (oJ:Int) (wz:Int) (JF:(Unit)):Y:=self (jk,eo,e8,af (oJ+(1:Int)))
noncomputable def s1 (k:Nat) (rec:RT Out) (K:KT Out) (a1:Arg):(List (List UInt8))->(List UInt8)->(List (List UInt8))->Int->Int->Int->(Int)->Y:=fun jk iq eo e8 oJ wz=>fun eg=>D.L k [1,1,0,1,0,0,1,1,0,0,1,1,1,0,0] [0,5,11,12,13,23,24] [] (ag 2 (ag 1 (ay (D.N k [1,1,0,1,0,0,1,1,1]) (ic rec (ey [0,11,12,13] []) K)))) (T1 a1 jk iq eo e8 oJ wz eg)
noncomputable def r1 (k:Nat) (self:((List (List UInt8))×(List (List UInt8))×Int×Int)->Y) (e0:(List (List UInt8))->Y) (a1:Arg):(List (List UInt8))->(List UInt8)->(List (List UInt8))->Int->Int->Int->(Int)->Y:=fun jk iq eo e8 oJ wz=>aq (fun w v=>b1 w (q0 self e0 a1 jk iq eo e8 oJ wz) a1 jk iq eo e8 oJ wz v) k
theorem lj (k:Nat) (rec:RT Out) (K:KT Out) (a1:Arg):s1 k rec K a1=r1 k (S0 rec a1) (co K a1) a1:=
 funext fun jk=>funext fun iq=>funext fun eo=>funext fun e8=>funext fun oJ=>funext fun wz=>funext fun eg=>av _ _ _ (T1 a1 jk iq eo e8 oJ wz) _ (fun rec v=>by kernel_rfl) k eg
noncomputable def b0 (self:((List (List UInt8))×(List (List UInt8))×Int×Int)->Y) (e0:(List (List UInt8))->Y) (l1:(List (List UInt8))->(List UInt8)->(List (List UInt8))->Int->Int->Int->(Int)->Y) (a1:Arg) (J:(List (List UInt8))×(List (List UInt8))×Int×Int):Y:=bif decide (J.2.2.2 < J.2.2.1) then (if 0<=J.2.2.2 then ((J.2.1[J.2.2.2.toNat]?).bind fun a_=>(bm.aa (a_,())).bind fun dn=>bif !decide (dn.1=(0:Int)) then (some (([]:List Seen),dn.1,())) else (lp.aa (a_,())).bind fun ja=>l1 J.1 a_ J.2.1 J.2.2.1 J.2.2.2 ja.1 (0:Int)) else none) else e0 J.1
noncomputable def B0 (k:Nat) (self:((List (List UInt8))×(List (List UInt8))×Int×Int)->Y) (e0:(List (List UInt8))->Y) (a1:Arg) (J:(List (List UInt8))×(List (List UInt8))×Int×Int):Y:=b0 self e0 (r1 k self e0 a1) a1 J
theorem li (k:Nat) (rec:RT Out) (K:KT Out) (a1:Arg) (J:(List (List UInt8))×(List (List UInt8))×Int×Int):D.N k [1,1,0,1,0,0] (T0 a1 J) (ic rec (ey [0,11,12,13] []) K)=B0 k (S0 rec a1) (co K a1) a1 J:=
 aX (b:=b0 (S0 rec a1) (co K a1) (s1 k rec K a1) a1 J) (by kernel_rfl) (by rw[lj];rfl)
noncomputable def q1 (a1:Arg) (Af:(List (List UInt8))):Y:=(bk.aa (Af,())).bind fun VB=>some (VB.1,VB.2.1,())
theorem sV (k:Nat) (a1:Arg) (Af:(List (List UInt8))):co (ag 0 (ay (D.N k [1,1,1]) D.K0)) a1 Af=q1 a1 Af:=by kernel_rfl
noncomputable def s0 (k:Nat) (a1:Arg):((List (List UInt8))×(List (List UInt8))×Int×Int)->Y:=fun J=>D.L k [1,1,0,1,0,0] [0,11,12,13] [] (ag 0 (ay (D.N k [1,1,1]) D.K0)) (T0 a1 J)
noncomputable def r0 (k:Nat) (a1:Arg):((List (List UInt8))×(List (List UInt8))×Int×Int)->Y:=aq (fun w v=>B0 k w (q1 a1) a1 v) k
theorem ax (k:Nat) (a1:Arg):s0 k a1=r0 k a1:=by
 funext J;have h0:co (ag 0 (ay (D.N k [1,1,1]) D.K0)) a1=q1 a1:=funext fun z=>sV k a1 z;refine (av _ _ _ (T0 a1) (fun self v=>B0 k self (co (ag 0 (ay (D.N k [1,1,1]) D.K0)) a1) a1 v) (fun rec v=>li k rec (ag 0 (ay (D.N k [1,1,1]) D.K0)) a1 v) k J).trans ?_;rw[h0];rfl
noncomputable def p (l0:((List (List UInt8))×(List (List UInt8))×Int×Int)->Y) (a1:Arg):Y:=bif decide ((12:Int) < (a1.1.length:Int)) then (some (([]:List Seen),(2:Int),())) else l0 (a1.1,a1.1,(a1.1.length:Int),(0:Int))
theorem ae (k:Nat) (a1:Arg):@Eq Y (D.W k a1) (p (r0 k a1) a1):=
 aX (b:=p (s0 k a1) a1) (by kernel_rfl) (by rw[ax])
theorem ok:Ok prog 192 D.sig:=aw func192 a7 (by kernel_rfl) (fc bm.ok (fc lp.ok (fc np.ok (fc kx.ok (fc nS.ok (fc bk.ok (ak _)))))))
end ej
namespace d8
abbrev Arg:Type:=(List Change)×Unit
abbrev Out:Type:=Int×Unit
abbrev Y:=Option Out
noncomputable def D:FD:={ fn:=f272,tl:=be,ps:=[(.ro,(.U ap))],rs:=[(i64,(az i64))],gl:=[(198,cx.D.sig),(246,gu.D.sig),(326,gb.D.sig)],lv:=[(4,[0,9,10,11])],lx:=[(0,[])],od:=[(9,[0,1,2,3,4,5,6,7,9,8,10,11,12,13])] }
noncomputable def aa (a:Arg):Y:=@lift Out fun k=>D.W k a
noncomputable def T0 (a1:Arg) (J:Int):St:={ n:=36,sl:=[(0,.val (.U ap) a1.1),(9,.val (.U ap) a1.1),(10,.val i64 (a1.1.length:Int)),(11,.val i64 J)],vr:=[],aT:=[] }
noncomputable def b0 (self:Int->Y) (e0:(Unit)->Y) (a1:Arg) (J:Int):Y:=bif decide (J < (a1.1.length:Int)) then (if 0<=J then ((a1.1[J.toNat]?).bind fun a_=>(gu.aa (a_,())).bind fun dn=>bif !decide (dn.1=(0:Int)) then (some (dn.1,())) else bif decide ((0:Int) < J) then (if 0<=af (J - (1:Int)) then ((a1.1[(af (J - (1:Int))).toNat]?).bind fun i_=>(cx.aa (i_,())).bind fun rx=>(cx.aa (a_,())).bind fun lO=>(gb.aa (rx.1,lO.1,())).bind fun Dx=>bif !Dx.1 then (some ((1:Int),())) else self (af (J+(1:Int)))) else none) else self (af (J+(1:Int)))) else none) else e0 ()
noncomputable def q0 (a1:Arg) (AC:(Unit)):Y:=some ((0:Int),())
noncomputable def s0 (k:Nat) (a1:Arg):(Int)->Y:=fun J=>D.L k [1,1,0,1,0,0] [0,9,10,11] [] (ag 0 (ay (D.N k [1,1,1]) D.K0)) (T0 a1 J)
noncomputable def r0 (k:Nat) (a1:Arg):(Int)->Y:=aq (fun w v=>b0 w (q0 a1) a1 v) k
theorem ax (k:Nat) (a1:Arg):s0 k a1=r0 k a1:=
 funext fun J=>av _ _ _ (T0 a1) _ (fun rec v=>by kernel_rfl) k J
noncomputable def p (l0:(Int)->Y) (a1:Arg):Y:=bif decide ((60:Int) < (a1.1.length:Int)) then (some ((2:Int),())) else l0 (0:Int)
theorem ae (k:Nat) (a1:Arg):@Eq Y (D.W k a1) (p (r0 k a1) a1):=
 aX (b:=p (s0 k a1) a1) (by kernel_rfl) (by rw[ax])
theorem ok:Ok prog 272 D.sig:=aw func272 a7 (by kernel_rfl) (fc cx.ok (fc gu.ok (fc gb.ok (ak _))))
end d8
namespace oZ
abbrev Arg:Type:=Buffer×Int×Unit
abbrev Out:Type:=Bool×Unit
noncomputable def D:FD:={ fn:=f365,tl:=be,ps:=[(.ro,et),(.ro,(.ptr i64))],rs:=[(.bool,(az .bool))],cap:=true }
noncomputable def aa (a:Arg):Option Out:=@lift Out fun k=>D.W k a
noncomputable def p (a1:Arg):Option Out:=some (decide (a1.1.1=a1.2.1),())
theorem ae (k:Nat) (a1:Arg):@Eq (Option Out) (D.W k a1) (p a1):=by kernel_rfl
theorem ok:Ok prog 365 D.sig:=aw func365 a7 (by kernel_rfl) (ak _)
end oZ
namespace ei
abbrev Arg:Type:=(List Buffer)×(Nat×Int)×Unit
abbrev Out:Type:=Int×Unit
abbrev Y:=Option Out
noncomputable def D:FD:={ fn:=f364,tl:=be,ps:=[(.ro,(.U et)),(.fix 365,.fn)],rs:=[(i64,(az i64))],gl:=[(365,oZ.D.sig)],lv:=[(2,[0,1,7,8])],lx:=[(0,[])] }
noncomputable def aa (a:Arg):Y:=@lift Out fun k=>D.W k a
noncomputable def T0 (a1:Arg) (J:Int):St:={ n:=19,sl:=[(0,.val (.U et) a1.1),(1,.val .fn ((365,a1.2.1.2):Nat×Int)),(7,.val i64 (a1.1.length:Int)),(8,.val i64 J)],vr:=[],aT:=[] }
noncomputable def b0 (self:Int->Y) (e0:(Unit)->Y) (a1:Arg) (J:Int):Y:=bif decide (J < (a1.1.length:Int)) then (if 0<=J then ((a1.1[J.toNat]?).bind fun a_=>(oZ.aa (a_,a1.2.1.2,())).bind fun dn=>bif dn.1 then (some (J,())) else self (af (J+(1:Int)))) else none) else e0 ()
noncomputable def q0 (a1:Arg) (dz:(Unit)):Y:=some ((-1:Int),())
noncomputable def s0 (k:Nat) (a1:Arg):(Int)->Y:=fun J=>D.L k [1,0,1,0,0] [0,1,7,8] [] (ag 0 (ay (D.N k [1,1]) D.K0)) (T0 a1 J)
noncomputable def r0 (k:Nat) (a1:Arg):(Int)->Y:=aq (fun w v=>b0 w (q0 a1) a1 v) k
theorem ax (k:Nat) (a1:Arg):s0 k a1=r0 k a1:=
 funext fun J=>av _ _ _ (T0 a1) _ (fun rec v=>by kernel_rfl) k J
noncomputable def p (l0:(Int)->Y) (a1:Arg):Y:=l0 (0:Int)
theorem ae (k:Nat) (a1:Arg):@Eq Y (D.W k a1) (p (r0 k a1) a1):=
 aX (b:=p (s0 k a1) a1) (by kernel_rfl) (by rw[ax])
theorem ok:Ok prog 364 D.sig:=aw func364 a7 (by kernel_rfl) (fc oZ.ok (ak _))
end ei
namespace nL
abbrev Arg:Type:=dw×Int×Unit
abbrev Out:Type:=Int×Unit
noncomputable def D:FD:={ fn:=f273,tl:=be,ps:=[(.ro,jf),(.ro,i64)],rs:=[(i64,(az i64))],gl:=[(364,ei.D.sig)] }
noncomputable def aa (a:Arg):Option Out:=@lift Out fun k=>D.W k a
noncomputable def p (a1:Arg):Option Out:=(ei.aa (a1.1.2.1,((365,a1.2.1):Nat×Int),())).bind fun r2=>some (r2.1,())
theorem ae (k:Nat) (a1:Arg):@Eq (Option Out) (D.W k a1) (p a1):=by kernel_rfl
theorem ok:Ok prog 273 D.sig:=aw func273 a7 (by kernel_rfl) (fc ei.ok (ak _))
end nL
namespace kj
abbrev Arg:Type:=(List UInt8)×Unit
abbrev Out:Type:=(List UInt8)×Unit
noncomputable def D:FD:={ fn:=f215,tl:=be,ps:=[(.ro,(.U u8))],rs:=[((.U u8),(am (.U u8)))] }
noncomputable def aa (a:Arg):Option Out:=@lift Out fun k=>D.W k a
noncomputable def p (a1:Arg):Option Out:=if ([]:List UInt8).length+a1.1.length<=bz then (some (([]:List UInt8)++a1.1,())) else none
theorem ae (k:Nat) (a1:Arg):@Eq (Option Out) (D.W k a1) (p a1):=by kernel_rfl
theorem ok:Ok prog 215 D.sig:=aw func215 a7 (by kernel_rfl) (ak _)
end kj
namespace lH
abbrev Arg:Type:=(List (List UInt8))×Unit
abbrev Out:Type:=(List (List UInt8))×Unit
abbrev Y:=Option Out
noncomputable def D:FD:={ fn:=f213,tl:=be,ps:=[(.ro,(.U (.U u8)))],rs:=[((.U (.U u8)),(am (.U (.U u8))))],gl:=[(215,kj.D.sig)],lv:=[(3,[3,6,7,8])],lx:=[(0,[3])] }
noncomputable def aa (a:Arg):Y:=@lift Out fun k=>D.W k a
noncomputable def T0 (a1:Arg) (J:(List (List UInt8))×Int):St:={ n:=19,sl:=[(3,.own (.U (.U u8)) (am (.U (.U u8))) [] J.1),(6,.val (.U (.U u8)) a1.1),(7,.val i64 (a1.1.length:Int)),(8,.val i64 J.2)],vr:=[],aT:=[] }
noncomputable def b0 (self:((List (List UInt8))×Int)->Y) (e0:(List (List UInt8))->Y) (a1:Arg) (J:(List (List UInt8))×Int):Y:=bif decide (J.2 < (a1.1.length:Int)) then (if 0<=J.2 then ((a1.1[J.2.toNat]?).bind fun a_=>(kj.aa (a_,())).bind fun dn=>if J.1.length+[dn.1].length<=bz then (self (J.1++[dn.1],af (J.2+(1:Int)))) else none) else none) else e0 J.1
noncomputable def q0 (a1:Arg) (dz:(List (List UInt8))):Y:=some (dz,())
noncomputable def s0 (k:Nat) (a1:Arg):((List (List UInt8))×Int)->Y:=fun J=>D.L k [1,1,0,1,0,0] [3,6,7,8] [] (ag 0 (ay (D.N k [1,1,1]) D.K0)) (T0 a1 J)
noncomputable def r0 (k:Nat) (a1:Arg):((List (List UInt8))×Int)->Y:=aq (fun w v=>b0 w (q0 a1) a1 v) k
theorem ax (k:Nat) (a1:Arg):s0 k a1=r0 k a1:=
 funext fun J=>av _ _ _ (T0 a1) _ (fun rec v=>by kernel_rfl) k J
noncomputable def p (l0:((List (List UInt8))×Int)->Y) (a1:Arg):Y:=l0 (([]:List (List UInt8)),(0:Int))
theorem ae (k:Nat) (a1:Arg):@Eq Y (D.W k a1) (p (r0 k a1) a1):=
 aX (b:=p (s0 k a1) a1) (by kernel_rfl) (by rw[ax])
theorem ok:Ok prog 213 D.sig:=aw func213 a7 (by kernel_rfl) (fc kj.ok (ak _))
end lH
namespace oy
abbrev Arg:Type:=Buffer×Unit
abbrev Out:Type:=Buffer×Unit
noncomputable def D:FD:={ fn:=f282,tl:=be,ps:=[(.ro,et)],rs:=[(et,(am et))],gl:=[(353,ij.D.sig)],od:=[(1,[0,1,2,3,4,5,6])] }
noncomputable def aa (a:Arg):Option Out:=@lift Out fun k=>D.W k a
noncomputable def p (a1:Arg):Option Out:=(ij.aa (a1.1.2.1,())).bind fun r2=>some ((a1.1.1,r2.1,()),())
theorem ae (k:Nat) (a1:Arg):@Eq (Option Out) (D.W k a1) (p a1):=by kernel_rfl
theorem ok:Ok prog 282 D.sig:=aw func282 a7 (by kernel_rfl) (fc ij.ok (ak _))
end oy
namespace kq
abbrev Arg:Type:=dw×Unit
abbrev Out:Type:=dw×Unit
abbrev Y:=Option Out
noncomputable def D:FD:={ fn:=f153,tl:=be,ps:=[(.ro,jf)],rs:=[(jf,(am jf))],gl:=[(213,lH.D.sig),(282,oy.D.sig)],lv:=[(3,[2,3,11,12,13])],lx:=[(0,[2,3])],od:=[(5,[0,1,2,3,4,5,6,7])] }
noncomputable def aa (a:Arg):Y:=@lift Out fun k=>D.W k a
noncomputable def T0 (a1:Arg) (bb:dw×Int):St:={ n:=26,sl:=[(2,.box jf (am jf) [] (([]:List (List UInt8)),([]:List Buffer),())),(3,.box jf (am jf) [] bb.1),(11,.val (.U et) a1.1.2.1),(12,.val i64 (a1.1.2.1.length:Int)),(13,.val i64 bb.2)],vr:=[],aT:=[] }
noncomputable def b0 (self:(dw×Int)->Y) (e0:dw->Y) (a1:Arg) (bb:dw×Int):Y:=bif decide (bb.2 < (a1.1.2.1.length:Int)) then (if 0<=bb.2 then ((a1.1.2.1[bb.2.toNat]?).bind fun en=>(oy.aa (en,())).bind fun ja=>if bb.1.2.1.length+[ja.1].length<=bz then (self ((bb.1.1,bb.1.2.1++[ja.1],bb.1.2.2),af (bb.2+(1:Int)))) else none) else none) else e0 bb.1
noncomputable def q0 (a1:Arg) (lA:dw):Y:=some (lA,())
noncomputable def s0 (k:Nat) (a1:Arg):(dw×Int)->Y:=fun bb=>D.L k [1,1,0,1,0,0] [2,3,11,12,13] [] (ag 0 (ay (D.N k [1,1,1]) D.K0)) (T0 a1 bb)
noncomputable def r0 (k:Nat) (a1:Arg):(dw×Int)->Y:=aq (fun w v=>b0 w (q0 a1) a1 v) k
theorem ax (k:Nat) (a1:Arg):s0 k a1=r0 k a1:=
 funext fun bb=>av _ _ _ (T0 a1) _ (fun rec v=>by kernel_rfl) k bb
noncomputable def p (l0:(dw×Int)->Y) (a1:Arg):Y:=(lH.aa (a1.1.1,())).bind fun r2=>l0 ((r2.1,([]:List Buffer),()),(0:Int))
theorem ae (k:Nat) (a1:Arg):@Eq Y (D.W k a1) (p (r0 k a1) a1):=
 aX (b:=p (s0 k a1) a1) (by kernel_rfl) (by rw[ax])
theorem ok:Ok prog 153 D.sig:=aw func153 a7 (by kernel_rfl) (fc lH.ok (fc oy.ok (ak _)))
end kq
namespace lU
abbrev Arg:Type:=(List Seen)×Unit
abbrev Out:Type:=(List Row)×Unit
abbrev Y:=Option Out
noncomputable def D:FD:={ fn:=f195,tl:=be,ps:=[(.ro,(.U ig))],rs:=[((.U au),(am (.U au)))],lv:=[(3,[3,6,7,8])],lx:=[(0,[3])] }
noncomputable def aa (a:Arg):Y:=@lift Out fun k=>D.W k a
noncomputable def T0 (a1:Arg) (J:(List Row)×Int):St:={ n:=19,sl:=[(3,.own (.U au) (am (.U au)) [] J.1),(6,.val (.U ig) a1.1),(7,.val i64 (a1.1.length:Int)),(8,.val i64 J.2)],vr:=[],aT:=[] }
noncomputable def b0 (self:((List Row)×Int)->Y) (e0:(List Row)->Y) (a1:Arg) (J:(List Row)×Int):Y:=bif decide (J.2 < (a1.1.length:Int)) then (if 0<=J.2 then ((a1.1[J.2.toNat]?).bind fun a_=>if J.1.length+[a_.1].length<=bz then (self (J.1++[a_.1],af (J.2+(1:Int)))) else none) else none) else e0 J.1
noncomputable def q0 (a1:Arg) (qq:(List Row)):Y:=some (qq,())
noncomputable def s0 (k:Nat) (a1:Arg):((List Row)×Int)->Y:=fun J=>D.L k [1,1,0,1,0,0] [3,6,7,8] [] (ag 0 (ay (D.N k [1,1,1]) D.K0)) (T0 a1 J)
noncomputable def r0 (k:Nat) (a1:Arg):((List Row)×Int)->Y:=aq (fun w v=>b0 w (q0 a1) a1 v) k
theorem ax (k:Nat) (a1:Arg):s0 k a1=r0 k a1:=
 funext fun J=>av _ _ _ (T0 a1) _ (fun rec v=>by kernel_rfl) k J
noncomputable def p (l0:((List Row)×Int)->Y) (a1:Arg):Y:=l0 (([]:List Row),(0:Int))
theorem ae (k:Nat) (a1:Arg):@Eq Y (D.W k a1) (p (r0 k a1) a1):=
 aX (b:=p (s0 k a1) a1) (by kernel_rfl) (by rw[ax])
theorem ok:Ok prog 195 D.sig:=aw func195 a7 (by kernel_rfl) (ak _)
end lU
namespace ec
abbrev Arg:Type:=(List Row)×(List Row)×Unit
abbrev Out:Type:=(List Change)×Unit
abbrev Y:=Option Out
noncomputable def D:FD:={ fn:=f208,tl:=be,ps:=[(.ro,(.U au)),(.ro,(.U au))],rs:=[((.U ap),(am (.U ap)))],gl:=[(312,ii.D.sig)],lv:=[(2,[0,1,5])],lx:=[(0,[5])],od:=[(4,[0,1,2,3,4,5,6,7]),(11,[0,1,2,3,4,5,6]),(14,[0,1,2,3,4,5,6])],ar:=[(11,[2]),(14,[2])] }
noncomputable def aa (a:Arg):Y:=@lift Out fun k=>D.W k a
noncomputable def T0 (a1:Arg) (J:(List Row)×(List Row)×(List Change)):St:={ n:=69,sl:=[(0,.val (.U au) J.1),(1,.val (.U au) J.2.1),(5,.own (.U ap) (am (.U ap)) [] J.2.2)],vr:=[],aT:=[] }
noncomputable def b0 (self:((List Row)×(List Row)×(List Change))->Y) (e0:(List Change)->Y) (a1:Arg) (J:(List Row)×(List Row)×(List Change)):Y:=let X_:Y:=let TU:=fun (Ya:Int)=>(let Yb:=fun (Pw:List Row) (Px:Change)=>(let Yc:=fun (Py:List Row) (AD:Change)=>(bif !AD.1 then (if J.2.2.length+[AD].length<=bz then (self (Pw,Py,J.2.2++[AD])) else none) else bif !AD.2.2.1 then (if J.2.2.length+[AD].length<=bz then (self (Pw,Py,J.2.2++[AD])) else none) else bif !(Ty.eq au AD.2.1 AD.2.2.2.1) then (if J.2.2.length+[AD].length<=bz then (self (Pw,Py,J.2.2++[AD])) else none) else self (Pw,Py,J.2.2):Y);bif decide ((0:Int)<=Ya) then ((J.2.1[0]?).bind fun aaS=>if 0<=(1:Int)/\(1:Int)<=(J.2.1.length:Int) then (Yc ((J.2.1.take J.2.1.length).drop 1) (Px.1,Px.2.1,true,aaS,Px.2.2.2.2)) else none) else Yc J.2.1 Px:Y);bif decide (Ya<=(0:Int)) then ((J.1[0]?).bind fun aaT=>if 0<=(1:Int)/\(1:Int)<=(J.1.length:Int) then (Yb ((J.1.take J.1.length).drop 1) (true,aaT,false,((0:Int),(0:Int),(0:Int),([]:List UInt8),()),())) else none) else Yb J.1 (false,((0:Int),(0:Int),(0:Int),([]:List UInt8),()),false,((0:Int),(0:Int),(0:Int),([]:List UInt8),()),()):Y);bif decide ((J.1.length:Int)=(0:Int)) then (TU (1:Int)) else bif decide ((J.2.1.length:Int)=(0:Int)) then (TU (-1:Int)) else (J.1[0]?).bind fun TT=>(J.2.1[0]?).bind fun aaU=>(ii.aa (TT,aaU,())).bind fun Li=>TU Li.1;bif decide ((0:Int) < (J.1.length:Int)) then (X_) else bif decide ((0:Int) < (J.2.1.length:Int)) then (X_) else e0 J.2.2
noncomputable def q0 (a1:Arg) (aaV:(List Change)):Y:=some (aaV,())
noncomputable def s0 (k:Nat) (a1:Arg):((List Row)×(List Row)×(List Change))->Y:=fun J=>D.L k [1,1,0,0,0] [0,1,5] [] (ag 0 (ay (D.N k [1,1,1]) D.K0)) (T0 a1 J)
noncomputable def r0 (k:Nat) (a1:Arg):((List Row)×(List Row)×(List Change))->Y:=aq (fun w v=>b0 w (q0 a1) a1 v) k
theorem ax (k:Nat) (a1:Arg):s0 k a1=r0 k a1:=
 funext fun J=>av _ _ _ (T0 a1) _ (fun rec v=>by kernel_rfl) k J
noncomputable def p (l0:((List Row)×(List Row)×(List Change))->Y) (a1:Arg):Y:=l0 (a1.1,a1.2.1,([]:List Change))
theorem ae (k:Nat) (a1:Arg):@Eq Y (D.W k a1) (p (r0 k a1) a1):=
 aX (b:=p (s0 k a1) a1) (by kernel_rfl) (by rw[ax])
theorem ok:Ok prog 208 D.sig:=aw func208 a7 (by kernel_rfl) (fc ii.ok (ak _))
end ec
namespace nZ
abbrev Arg:Type:=Int×Unit
abbrev Out:Type:=Bool×Unit
noncomputable def D:FD:={ fn:=f366,tl:=be,ps:=[(.ro,i64)],rs:=[(.bool,(az .bool))] }
noncomputable def aa (a:Arg):Option Out:=@lift Out fun k=>D.W k a
noncomputable def p (a1:Arg):Option Out:=bif decide (a1.1=(2:Int)) then (some (true,())) else bif decide (a1.1=(3:Int)) then (some (true,())) else some (decide (a1.1=(4:Int)),())
theorem ae (k:Nat) (a1:Arg):@Eq (Option Out) (D.W k a1) (p a1):=by kernel_rfl
theorem ok:Ok prog 366 D.sig:=aw func366 a7 (by kernel_rfl) (ak _)
end nZ
namespace iw
abbrev Arg:Type:=(List gi)×Unit
abbrev Out:Type:=Int×Unit
abbrev Y:=Option Out
noncomputable def D:FD:={ fn:=f367,tl:=be,ps:=[(.ro,(.U ww))],rs:=[(i64,(az i64))],gl:=[(214,fb.D.sig)],lv:=[(5,[3,10,11,12])],lx:=[(0,[])] }
noncomputable def aa (a:Arg):Y:=@lift Out fun k=>D.W k a
noncomputable def T0 (a1:Arg) (J:Int×Int):St:={ n:=45,sl:=[(3,.val i64 J.1),(10,.val (.U ww) a1.1),(11,.val i64 (a1.1.length:Int)),(12,.val i64 J.2)],vr:=[],aT:=[] }
noncomputable def b0 (self:(Int×Int)->Y) (e0:(Unit)->Y) (a1:Arg) (J:Int×Int):Y:=bif decide (J.2 < (a1.1.length:Int)) then (if 0<=J.2 then ((a1.1[J.2.toNat]?).bind fun a_=>(fb.aa (a_.1,(0:Int),(63:Int),())).bind fun dn=>bif !dn.1 then (some ((3:Int),())) else (fb.aa ((a_.2.1.length:Int),(1:Int),(64:Int),())).bind fun ja=>bif !ja.1 then (some ((3:Int),())) else bif decide ((64:Int) < af (a_.1+(a_.2.1.length:Int))) then (some ((3:Int),())) else bif decide (a_.1 < J.1) then (some ((1:Int),())) else self (af ((af (a_.1+(a_.2.1.length:Int)))+(1:Int)),af (J.2+(1:Int)))) else none) else e0 ()
noncomputable def q0 (a1:Arg) (lA:(Unit)):Y:=some ((0:Int),())
noncomputable def s0 (k:Nat) (a1:Arg):(Int×Int)->Y:=fun J=>D.L k [1,1,1,0,1,0,0] [3,10,11,12] [] (ag 0 (ay (D.N k [1,1,1,1]) D.K0)) (T0 a1 J)
noncomputable def r0 (k:Nat) (a1:Arg):(Int×Int)->Y:=aq (fun w v=>b0 w (q0 a1) a1 v) k
theorem ax (k:Nat) (a1:Arg):s0 k a1=r0 k a1:=
 funext fun J=>av _ _ _ (T0 a1) _ (fun rec v=>by kernel_rfl) k J
noncomputable def p (l0:(Int×Int)->Y) (a1:Arg):Y:=bif decide ((64:Int) < (a1.1.length:Int)) then (some ((2:Int),())) else l0 ((0:Int),(0:Int))
theorem ae (k:Nat) (a1:Arg):@Eq Y (D.W k a1) (p (r0 k a1) a1):=
 aX (b:=p (s0 k a1) a1) (by kernel_rfl) (by rw[ax])
theorem ok:Ok prog 367 D.sig:=aw func367 a7 (by kernel_rfl) (fc fb.ok (ak _))
end iw
namespace gw
abbrev Arg:Type:=bf×Unit
abbrev Out:Type:=Int×Unit
abbrev Y:=Option Out
noncomputable def D:FD:={ fn:=f274,tl:=be,ps:=[(.ro,d_)],rs:=[(i64,(az i64))],gl:=[(214,fb.D.sig),(271,nJ.D.sig),(366,nZ.D.sig),(367,iw.D.sig)] }
noncomputable def aa (a:Arg):Y:=@lift Out fun k=>D.W k a
noncomputable def p (a1:Arg):Y:=let VC:Y:=let j23:Y:=(iw.aa (a1.1.2.2.2.1,())).bind fun r24=>bif !decide (r24.1=(0:Int)) then (some (r24.1,())) else (nZ.aa (a1.1.1,())).bind fun Yd=>bif Yd.1 then (bif decide ((a1.1.2.2.2.1.length:Int)=(0:Int)) then (some ((1:Int),())) else bif decide (a1.1.1=(4:Int)) then (bif !decide ((a1.1.2.2.2.1.length:Int)=(1:Int)) then (some ((1:Int),())) else (a1.1.2.2.2.1[0]?).bind fun X8=>bif !decide ((X8.2.1.length:Int)=(64:Int)) then (some ((1:Int),())) else some ((0:Int),())) else some ((0:Int),())) else bif decide (a1.1.1=(4:Int)) then (bif !decide ((a1.1.2.2.2.1.length:Int)=(1:Int)) then (some ((1:Int),())) else (a1.1.2.2.2.1[0]?).bind fun X9=>bif !decide ((X9.2.1.length:Int)=(64:Int)) then (some ((1:Int),())) else some ((0:Int),())) else some ((0:Int),());bif !decide (a1.1.1=(4:Int)) then ((nJ.aa (a1.1.2.1,())).bind fun RY=>bif !RY.1 then (some ((3:Int),())) else (fb.aa (a1.1.2.2.1,(0:Int),(11:Int),())).bind fun r17=>bif !r17.1 then (some ((3:Int),())) else j23) else (fb.aa (a1.1.2.2.1,(0:Int),(11:Int),())).bind fun r18=>bif !r18.1 then (some ((3:Int),())) else j23;(fb.aa (a1.1.1,(1:Int),(6:Int),())).bind fun r2=>bif !r2.1 then (some ((1:Int),())) else (nZ.aa (a1.1.1,())).bind fun r3=>bif !r3.1 then (bif !decide (a1.1.2.2.1=(0:Int)) then (some ((1:Int),())) else bif decide ((0:Int) < (a1.1.2.2.2.1.length:Int)) then (some ((1:Int),())) else bif decide (a1.1.1=(4:Int)) then (bif !decide (a1.1.2.1=(0:Int)) then (some ((1:Int),())) else VC) else VC) else bif decide (a1.1.1=(4:Int)) then (bif !decide (a1.1.2.1=(0:Int)) then (some ((1:Int),())) else VC) else VC
theorem ae (k:Nat) (a1:Arg):@Eq Y (D.W k a1) (p a1):=by kernel_rfl
theorem ok:Ok prog 274 D.sig:=aw func274 a7 (by kernel_rfl) (fc fb.ok (fc nJ.ok (fc nZ.ok (fc iw.ok (ak _)))))
end gw
namespace mu
open Go.Proofs
abbrev Arg:Type:=(List Buffer)×Int×(Int)×Unit
abbrev Out:Type:=(List Buffer)×Unit
noncomputable def aa (a:Arg):Option Out:=K9 et a
noncomputable def sig:sC:={ ps:=[(.nc (am (.U et)),(.U et)),(.ro,i64),(.ro,i64)],rs:=[((.U et),am (.U et))],F:=aa,Cw:=fun v H=>H6 v.2.1 v.2.2.1 H }
def RZ:Go.Shelf.Ren:=⟨fun | 45=>275 | n=>n,fun | 22=>72 | 23=>342 | 3=>3 | 4=>4 | 0=>0 | n=>n,fun n=>n⟩
theorem lay:SlLaysE0.n45 prog RZ:=⟨by kernel_rfl,⟨f275.name,by decide,func275.trans (dB some (by kernel_rfl))⟩,underlying0,isAgg0,sizeOf0,zeroValue0,underlying3,isAgg3,sizeOf3,zeroValue3,underlying4,isAgg4,sizeOf4,zeroValue4,underlying72,isAgg72,sizeOf72,zeroValue72⟩
theorem ok:Ok prog 275 sig:=IR (e:=et) lay (by kernel_rfl) (by decide) (by decide) ⟨f275,func275,by kernel_rfl,by kernel_rfl,by kernel_rfl⟩
end mu
namespace mr
abbrev Arg:Type:=(List (List UInt8))×Unit
abbrev Out:Type:=(List (List UInt8))×Unit
noncomputable def D:FD:={ fn:=f368,tl:=be,ps:=[(.ro,(.U (.U u8)))],rs:=[((.U (.U u8)),(.U true (az (.U u8))))] }
noncomputable def aa (a:Arg):Option Out:=@lift Out fun k=>D.W k a
noncomputable def p (a1:Arg):Option Out:=Bi a1.1 (some (([]:List (List UInt8)),())) (if ([]:List (List UInt8)).length+a1.1.length<=bz then (some (([]:List (List UInt8))++a1.1,())) else none)
theorem ae (k:Nat) (a1:Arg):@Eq (Option Out) (D.W k a1) (p a1):=by kernel_rfl
theorem ok:Ok prog 368 D.sig:=aw func368 a7 (by kernel_rfl) (ak _)
end mr
namespace l8
abbrev Arg:Type:=UInt8×Unit
abbrev Out:Type:=(List UInt8)×Unit
abbrev Y:=Option Out
noncomputable def D:FD:={ fn:=f369,tl:=be,ps:=[(.ro,u8)],rs:=[((.U u8),(am (.U u8)))],lv:=[(3,[0,3,7,8])],lx:=[(0,[3])] }
noncomputable def aa (a:Arg):Y:=@lift Out fun k=>D.W k a
noncomputable def T0 (a1:Arg) (J:(List UInt8)×Int):St:={ n:=21,sl:=[(0,.val u8 a1.1),(3,.own (.U u8) (am (.U u8)) [] J.1),(7,.val i64 ((List.replicate 64 (0:UInt8)).length:Int)),(8,.val i64 J.2)],vr:=[],aT:=[] }
noncomputable def b0 (self:((List UInt8)×Int)->Y) (e0:(List UInt8)->Y) (a1:Arg) (J:(List UInt8)×Int):Y:=bif decide (J.2 < ((List.replicate 64 (0:UInt8)).length:Int)) then (if 0<=J.2/\J.2 < (J.1.length:Int) then ((J.1[J.2.toNat]?).bind fun a_=>self (J.1.set J.2.toNat a1.1,af (J.2+(1:Int)))) else none) else e0 J.1
noncomputable def q0 (a1:Arg) (qq:(List UInt8)):Y:=if 0<=(0:Int)/\(0:Int) < (qq.length:Int) then ((qq[0]?).bind fun i_=>if 0<=(1:Int)/\(1:Int) < ((qq.set 0 (0:UInt8)).length:Int) then (((qq.set 0 (0:UInt8))[1]?).bind fun ry=>let Du:=(qq.set 0 (0:UInt8)).set 1 (64:UInt8);some (Du,())) else none) else none
noncomputable def s0 (k:Nat) (a1:Arg):((List UInt8)×Int)->Y:=fun J=>D.L k [1,1,0,1,0,0] [0,3,7,8] [] (ag 0 (ay (D.N k [1,1,1]) D.K0)) (T0 a1 J)
noncomputable def r0 (k:Nat) (a1:Arg):((List UInt8)×Int)->Y:=aq (fun w v=>b0 w (q0 a1) a1 v) k
theorem ax (k:Nat) (a1:Arg):s0 k a1=r0 k a1:=
 funext fun J=>av _ _ _ (T0 a1) _ (fun rec v=>by kernel_rfl) k J
noncomputable def p (l0:((List UInt8)×Int)->Y) (a1:Arg):Y:=if 0<=(64:Int)/\(64:Int)<=(64:Int)/\(64:Int)<=(bz:Int) then (l0 (List.replicate 64 (0:UInt8),(0:Int))) else none
theorem ae (k:Nat) (a1:Arg):@Eq Y (D.W k a1) (p (r0 k a1) a1):=
 aX (b:=p (s0 k a1) a1) (by kernel_rfl) (by rw[ax])
theorem ok:Ok prog 369 D.sig:=aw func369 a7 (by kernel_rfl) (ak _)
end l8
namespace lq
abbrev Arg:Type:=(List UInt8)×(List gi)×Unit
abbrev Out:Type:=(List UInt8)×Unit
abbrev Y:=Option Out
noncomputable def D:FD:={ fn:=f370,tl:=be,ps:=[(.ro,(.U u8)),(.ro,(.U ww))],rs:=[((.U u8),(am (.U u8)))],gl:=[(215,kj.D.sig)],lv:=[(3,[5,10,11,12])],lx:=[(0,[5])],od:=[(5,[0,1,2,3,4,5,6])] }
noncomputable def aa (a:Arg):Y:=@lift Out fun k=>D.W k a
noncomputable def T0 (a1:Arg) (bb:(List UInt8)×Int):St:={ n:=25,sl:=[(5,.own (.U u8) (am (.U u8)) [] bb.1),(10,.val (.U ww) a1.2.1),(11,.val i64 (a1.2.1.length:Int)),(12,.val i64 bb.2)],vr:=[],aT:=[] }
noncomputable def b0 (self:((List UInt8)×Int)->Y) (e0:(List UInt8)->Y) (a1:Arg) (bb:(List UInt8)×Int):Y:=bif decide (bb.2 < (a1.2.1.length:Int)) then (if 0<=bb.2 then ((a1.2.1[bb.2.toNat]?).bind fun en=>if 0<=en.1/\en.1<=(bb.1.length:Int) then (let TP:=rX bb.1 en.1.toNat (min en.2.1.length (bb.1.length - en.1.toNat)) en.2.1;self (TP,af (bb.2+(1:Int)))) else none) else none) else e0 bb.1
noncomputable def q0 (a1:Arg) (lA:(List UInt8)):Y:=some (lA,())
noncomputable def s0 (k:Nat) (a1:Arg):((List UInt8)×Int)->Y:=fun bb=>D.L k [1,1,0,1,0,0] [5,10,11,12] [] (ag 0 (ay (D.N k [1,1,1]) D.K0)) (T0 a1 bb)
noncomputable def r0 (k:Nat) (a1:Arg):((List UInt8)×Int)->Y:=aq (fun w v=>b0 w (q0 a1) a1 v) k
theorem ax (k:Nat) (a1:Arg):s0 k a1=r0 k a1:=
 funext fun bb=>av _ _ _ (T0 a1) _ (fun rec v=>by kernel_rfl) k bb
noncomputable def p (l0:((List UInt8)×Int)->Y) (a1:Arg):Y:=(kj.aa (a1.1,())).bind fun r2=>l0 (r2.1,(0:Int))
theorem ae (k:Nat) (a1:Arg):@Eq Y (D.W k a1) (p (r0 k a1) a1):=
 aX (b:=p (s0 k a1) a1) (by kernel_rfl) (by rw[ax])
theorem ok:Ok prog 370 D.sig:=aw func370 a7 (by kernel_rfl) (fc kj.ok (ak _))
end lq
namespace lW
abbrev Arg:Type:=(List (List UInt8))×bf×Unit
abbrev Out:Type:=(List (List UInt8))×Int×Unit
noncomputable def D:FD:={ fn:=f276,tl:=be,ps:=[(.ro,(.U (.U u8))),(.ro,d_)],rs:=[((.U (.U u8)),(az (.U (.U u8)))),(i64,(az i64))],gl:=[(366,nZ.D.sig),(368,mr.D.sig),(369,l8.D.sig),(370,lq.D.sig)],od:=[(10,[0,1,2,3,4,5,6,7,8,9,10,11,12])] }
noncomputable def aa (a:Arg):Option Out:=@lift Out fun k=>D.W k a
noncomputable def p (a1:Arg):Option Out:=(nZ.aa (a1.2.1.1,())).bind fun r2=>bif !r2.1 then (some (a1.1,(0:Int),())) else bif decide ((a1.1.length:Int) < a1.2.1.2.2.1) then (some (([]:List (List UInt8)),(1:Int),())) else bif decide (a1.2.1.2.2.1=(12:Int)) then (some (([]:List (List UInt8)),(2:Int),())) else (mr.aa (a1.1,())).bind fun r3=>let j10:=fun (p9:List (List UInt8))=>(if 0<=a1.2.1.2.2.1/\a1.2.1.2.2.1 < (p9.length:Int) then ((p9[a1.2.1.2.2.1.toNat]?).bind fun N0=>(lq.aa (N0,a1.2.1.2.2.2.1,())).bind fun CG=>if 0<=a1.2.1.2.2.1/\a1.2.1.2.2.1 < (p9.length:Int) then ((p9[a1.2.1.2.2.1.toNat]?).bind fun x13=>some (p9.set a1.2.1.2.2.1.toNat CG.1,(0:Int),())) else none) else none:Option Out);bif decide (a1.2.1.2.2.1=(a1.1.length:Int)) then ((l8.aa ((0:UInt8),())).bind fun r4=>if r3.1.length+[r4.1].length<=bz then (j10 (r3.1++[r4.1])) else none) else j10 r3.1
theorem ae (k:Nat) (a1:Arg):@Eq (Option Out) (D.W k a1) (p a1):=by kernel_rfl
theorem ok:Ok prog 276 D.sig:=aw func276 a7 (by kernel_rfl) (fc nZ.ok (fc mr.ok (fc l8.ok (fc lq.ok (ak _)))))
end lW
namespace n8
abbrev Arg:Type:=Change×Row×Unit
abbrev Out:Type:=Int×Unit
noncomputable def D:FD:={ fn:=f372,tl:=be,ps:=[(.ro,ap),(.ro,au)],rs:=[(i64,(az i64))],gl:=[(198,cx.D.sig),(312,ii.D.sig)],od:=[(1,[0,2,1,3,4])] }
noncomputable def aa (a:Arg):Option Out:=@lift Out fun k=>D.W k a
noncomputable def p (a1:Arg):Option Out:=(cx.aa (a1.1,())).bind fun r2=>(ii.aa (r2.1,a1.2.1,())).bind fun r3=>some (r3.1,())
theorem ae (k:Nat) (a1:Arg):@Eq (Option Out) (D.W k a1) (p a1):=by kernel_rfl
theorem ok:Ok prog 372 D.sig:=aw func372 a7 (by kernel_rfl) (fc cx.ok (fc ii.ok (ak _)))
end n8
namespace bp
abbrev Arg:Type:=(List Change)×Row×(Nat×Int)×Unit
abbrev Out:Type:=Int×Bool×Unit
abbrev Y:=Option Out
noncomputable def D:FD:={ fn:=f371,tl:=be,ps:=[(.ro,(.U ap)),(.ro,au),(.fix 372,.fn)],rs:=[(i64,(az i64)),(.bool,(az .bool))],gl:=[(372,n8.D.sig)],lv:=[(3,[0,2,4,8,9,10])],lx:=[(0,[0,2,4,8,9])],od:=[(5,[0,1,2,3,4,5,6,7]),(8,[0,1,2,3,4,5,6,7,8,9,10,11,12,13,14,15])] }
noncomputable def aa (a:Arg):Y:=@lift Out fun k=>D.W k a
noncomputable def T0 (a1:Arg) (J:Int×Int):St:={ n:=49,sl:=[(0,.val (.U ap) a1.1),(2,.val .fn ((372,a1.2.2.1.2):Nat×Int)),(4,.box au (az au) [] a1.2.1),(8,.val i64 (a1.1.length:Int)),(9,.val i64 J.1),(10,.val i64 J.2)],vr:=[],aT:=[] }
noncomputable def b0 (self:(Int×Int)->Y) (e0:Int->Y) (a1:Arg) (J:Int×Int):Y:=bif decide (J.1 < J.2) then (if 0<=af ((IntKind.wrap .u64 (af (J.1+J.2))).fdiv (2 ^ 1)) then ((a1.1[(af ((IntKind.wrap .u64 (af (J.1+J.2))).fdiv (2 ^ 1))).toNat]?).bind fun a_=>(n8.aa (a_,a1.2.1,())).bind fun dn=>bif decide (dn.1 < (0:Int)) then (self (af ((af ((IntKind.wrap .u64 (af (J.1+J.2))).fdiv (2 ^ 1)))+(1:Int)),J.2)) else self (J.1,af ((IntKind.wrap .u64 (af (J.1+J.2))).fdiv (2 ^ 1)))) else none) else e0 J.1
noncomputable def q0 (a1:Arg) (dz:Int):Y:=bif decide (dz < (a1.1.length:Int)) then (if 0<=dz then ((a1.1[dz.toNat]?).bind fun ry=>(n8.aa (ry,a1.2.1,())).bind fun lO=>some (dz,decide (lO.1=(0:Int)),())) else none) else some (dz,false,())
noncomputable def s0 (k:Nat) (a1:Arg):(Int×Int)->Y:=fun J=>D.L k [1,1,1,0,0,0] [0,2,4,8,9,10] [] (ag 0 (ay (D.N k [1,1,1,1]) D.K0)) (T0 a1 J)
noncomputable def r0 (k:Nat) (a1:Arg):(Int×Int)->Y:=aq (fun w v=>b0 w (q0 a1) a1 v) k
theorem ax (k:Nat) (a1:Arg):s0 k a1=r0 k a1:=
 funext fun J=>av _ _ _ (T0 a1) _ (fun rec v=>by kernel_rfl) k J
noncomputable def p (l0:(Int×Int)->Y) (a1:Arg):Y:=l0 ((0:Int),(a1.1.length:Int))
theorem ae (k:Nat) (a1:Arg):@Eq Y (D.W k a1) (p (r0 k a1) a1):=
 aX (b:=p (s0 k a1) a1) (by kernel_rfl) (by rw[ax])
theorem ok:Ok prog 371 D.sig:=aw func371 a7 (by kernel_rfl) (fc n8.ok (ak _))
end bp
namespace oS
open Go.Proofs
abbrev Arg:Type:=(List Change)×Int×(List Change)×Unit
abbrev Out:Type:=(List Change)×Unit
noncomputable def aa (a:Arg):Option Out:=Pb ap a
noncomputable def sig:sC:={ ps:=[(.nc (am (.U ap)),(.U ap)),(.ro,i64),(.ro,(.U ap))],rs:=[((.U ap),am (.U ap))],F:=aa }
def RZ:Go.Shelf.Ren:=⟨fun | 22=>373 | 29=>428 | 30=>429 | n=>n,fun | 24=>71 | 9=>145 | 3=>3 | 4=>4 | n=>n,fun n=>n⟩
theorem lay:GP prog RZ ap:=⟨by kernel_rfl,⟨f373.name,by decide,func373.trans (dB some (by kernel_rfl))⟩,⟨f428,func428,by kernel_rfl,by kernel_rfl,by kernel_rfl,by kernel_rfl⟩,by kernel_rfl,by kernel_rfl,by kernel_rfl,underlying71,by kernel_rfl,by kernel_rfl,by kernel_rfl,by kernel_rfl⟩
theorem ok:Ok prog 373 sig:=RV lay (by decide) (by decide) (by decide) ⟨f373,func373,by kernel_rfl,by kernel_rfl,by kernel_rfl⟩
end oS
namespace mw
open Go.Proofs
abbrev Arg:Type:=(List Change)×Int×(Int)×Unit
abbrev Out:Type:=(List Change)×Unit
noncomputable def aa (a:Arg):Option Out:=K9 ap a
noncomputable def sig:sC:={ ps:=[(.nc (am (.U ap)),(.U ap)),(.ro,i64),(.ro,i64)],rs:=[((.U ap),am (.U ap))],F:=aa,Cw:=fun v H=>H6 v.2.1 v.2.2.1 H }
def RZ:Go.Shelf.Ren:=⟨fun | 45=>374 | n=>n,fun | 22=>71 | 23=>145 | 3=>3 | 4=>4 | 0=>0 | n=>n,fun n=>n⟩
theorem lay:SlLaysE0.n45 prog RZ:=⟨by kernel_rfl,⟨f374.name,by decide,func374.trans (dB some (by kernel_rfl))⟩,underlying0,isAgg0,sizeOf0,zeroValue0,underlying3,isAgg3,sizeOf3,zeroValue3,underlying4,isAgg4,sizeOf4,zeroValue4,underlying71,isAgg71,sizeOf71,zeroValue71⟩
theorem ok:Ok prog 374 sig:=IR (e:=ap) lay (by kernel_rfl) (by decide) (by decide) ⟨f374,func374,by kernel_rfl,by kernel_rfl,by kernel_rfl⟩
end mw
namespace nM
abbrev Arg:Type:=(List Change)×Change×Unit
abbrev Out:Type:=Buffer×Unit
abbrev Y:=Option Out
noncomputable def D:FD:={ fn:=f277,tl:=be,ps:=[(.ro,(.U ap)),(.ro,ap)],rs:=[(et,(am et))],gl:=[(198,cx.D.sig),(246,gu.D.sig),(272,d8.D.sig),(353,ij.D.sig),(371,bp.D.sig),(373,oS.sig),(374,mw.sig)],od:=[(14,[0,1,2,3,4,5,6,7])],ar:=[(14,[1,3])],bx:=[(14,[3])] }
noncomputable def aa (a:Arg):Y:=@lift Out fun k=>D.W k a
noncomputable def p (a1:Arg):Y:=(d8.aa (a1.1,())).bind fun r2=>bif !decide (r2.1=(0:Int)) then (some ((r2.1,([]:List Change),()),())) else (gu.aa (a1.2.1,())).bind fun r3=>bif !decide (r3.1=(0:Int)) then (some ((r3.1,([]:List Change),()),())) else (cx.aa (a1.2.1,())).bind fun r4=>(bp.aa (a1.1,r4.1,((372,0):Nat×Int),())).bind fun r5=>(ij.aa (a1.1,())).bind fun r6=>bif !r5.2.1 then ((oS.aa (r6.1,r5.1,[a1.2.1],())).bind fun r7=>some (((0:Int),r7.1,()),())) else if 0<=r5.1/\r5.1 < (r6.1.length:Int) then ((r6.1[r5.1.toNat]?).bind fun x8=>let j24:Y:=let N1:Y:=if 0<=r5.1/\r5.1 < (r6.1.length:Int) then ((r6.1[r5.1.toNat]?).bind fun x31=>let y32:=r6.1.set r5.1.toNat (x8.1,x8.2.1,a1.2.1.2.2.1,a1.2.1.2.2.2.1,x8.2.2.2.2);some (((0:Int),y32,()),())) else none;bif !x8.1 then (bif !a1.2.1.2.2.1 then ((mw.aa (r6.1,r5.1,af (r5.1+(1:Int)),())).bind fun Yd=>some (((0:Int),Yd.1,()),())) else bif x8.1 then (bif a1.2.1.2.2.1 then (bif (Ty.eq au x8.2.1 a1.2.1.2.2.2.1) then ((mw.aa (r6.1,r5.1,af (r5.1+(1:Int)),())).bind fun XZ=>some (((0:Int),XZ.1,()),())) else N1) else N1) else N1) else bif x8.1 then (bif a1.2.1.2.2.1 then (bif (Ty.eq au x8.2.1 a1.2.1.2.2.2.1) then ((mw.aa (r6.1,r5.1,af (r5.1+(1:Int)),())).bind fun r27=>some (((0:Int),r27.1,()),())) else N1) else N1) else N1;bif !(a1.2.1.1 == x8.2.2.1) then (some (((8:Int),([]:List Change),()),())) else bif a1.2.1.1 then (bif !(Ty.eq au a1.2.1.2.1 x8.2.2.2.1) then (some (((8:Int),([]:List Change),()),())) else j24) else j24) else none
theorem ae (k:Nat) (a1:Arg):@Eq Y (D.W k a1) (p a1):=by kernel_rfl
theorem ok:Ok prog 277 D.sig:=aw func277 a7 (by kernel_rfl) (fc cx.ok (fc gu.ok (fc d8.ok (fc ij.ok (fc bp.ok (fc oS.ok (fc mw.ok (ak _))))))))
end nM
namespace jp
abbrev Arg:Type:=dw×bf×Unit
abbrev Out:Type:=mO×Unit
abbrev Y:=Option Out
noncomputable def D:FD:={ fn:=f138,tl:=be,ps:=[(.ro,jf),(.ro,d_)],rs:=[(lZ,(am lZ))],gl:=[(153,kq.D.sig),(192,ej.D.sig),(195,lU.D.sig),(208,ec.D.sig),(213,lH.D.sig),(273,nL.D.sig),(274,gw.D.sig),(275,mu.sig),(276,lW.D.sig),(277,nM.D.sig)],lv:=[(37,[4,6,7,15,131,132,133])],lx:=[(1,[4,7])],od:=[(39,[0,1,2,3,4,5,6,7,8,9])],ar:=[(39,[6])],bx:=[(39,[17])],pd:=[(39,[8])],er:=[(39,[(1,10),(5,10)])] }
noncomputable def aa (a:Arg):Y:=@lift Out fun k=>D.W k a
noncomputable def T0 (a1:Arg) (oB:Int) (vu:List Change) (wA:Int) (pO:dw×Int):St:={ n:=161,sl:=[(4,.box lZ (am lZ) [] ((0:Int),false,false,(0:Int),([]:List Change),(([]:List (List UInt8)),([]:List Buffer),()),())),(6,.val i64 oB),(7,.box jf (am jf) [] pO.1),(15,.own (.U ap) (am (.U ap)) [] vu),(131,.ref 15 [] [0,0]),(132,.val i64 wA),(133,.val i64 pO.2)],vr:=[],aT:=[] }
noncomputable def b0 (self:(dw×Int)->Y) (e1:dw->Y) (a1:Arg) (oB:Int) (vu:List Change) (wA:Int) (pO:dw×Int):Y:=bif decide (pO.2 < wA) then (if 0<=pO.2/\pO.2 < (vu.length:Int) then ((vu[pO.2.toNat]?).bind fun ZA=>if 0<=oB/\oB < (pO.1.2.1.length:Int) then ((pO.1.2.1[oB.toNat]?).bind fun abl=>bif (qj [.snd,.fst,.idx oB.toNat,.snd,.fst] [.snd,.fst,.idx oB.toNat,.snd,.fst]&&true) then ((pO.1.2.1[oB.toNat]?).bind fun ZB=>(nM.aa (ZB.2.1,ZA,())).bind fun Pz=>bif (qj [.snd,.fst,.idx oB.toNat,.snd,.fst] [.snd,.fst,.idx oB.toNat,.snd,.fst]&&true) then (bif (qj [.snd,.fst,.idx oB.toNat,.snd,.fst] [.snd,.fst,.idx oB.toNat,.snd,.fst]&&true) then (bif !decide (Pz.1.1=(0:Int)) then (some ((Pz.1.1,false,false,(0:Int),([]:List Change),(([]:List (List UInt8)),([]:List Buffer),()),()),())) else if 0<=oB/\oB < (pO.1.2.1.length:Int) then ((pO.1.2.1[oB.toNat]?).bind fun VD=>let ZC:=pO.1.2.1.set oB.toNat (VD.1,Pz.1.2.1,VD.2.2);self ((pO.1.1,ZC,pO.1.2.2),af (pO.2+(1:Int)))) else none) else none) else none) else none) else none) else none) else e1 pO.1
noncomputable def q0 (a1:Arg) (oB:Int) (vu:List Change) (wA:Int) (ZD:dw):Y:=some (((0:Int),false,false,(0:Int),([]:List Change),ZD,()),())
noncomputable def s0 (k:Nat) (a1:Arg):Int->(List Change)->Int->(dw×Int)->Y:=fun oB vu wA=>fun pO=>D.L k [1,1,1,1,1,1,1,1,1,1,1,1,1,1,0,1,0,0] [4,6,7,15,131,132,133] [] (ag 1 (ay (D.N k [1,1,1,1,1,1,1,1,1,1,1,1,1,1,1]) D.K0)) (T0 a1 oB vu wA pO)
noncomputable def r0 (k:Nat) (a1:Arg):Int->(List Change)->Int->(dw×Int)->Y:=fun oB vu wA=>aq (fun w v=>b0 w (q0 a1 oB vu wA) a1 oB vu wA v) k
theorem ax (k:Nat) (a1:Arg):s0 k a1=r0 k a1:=
 funext fun oB=>funext fun vu=>funext fun wA=>funext fun pO=>av _ _ _ (T0 a1 oB vu wA) _ (fun rec v=>by kernel_rfl) k pO
noncomputable def p (l0:Int->(List Change)->Int->(dw×Int)->Y) (a1:Arg):Y:=(gw.aa (a1.2.1,())).bind fun r2=>bif !decide (r2.1=(0:Int)) then (some ((r2.1,false,false,(0:Int),([]:List Change),(([]:List (List UInt8)),([]:List Buffer),()),()),())) else (nL.aa (a1.1,a1.2.1.2.1,())).bind fun r3=>(kq.aa (a1.1,())).bind fun r4=>let GW:Y:=(lW.aa (r4.1.1,a1.2.1,())).bind fun JH=>bif !decide (JH.2.1=(0:Int)) then (some ((JH.2.1,false,false,(0:Int),([]:List Change),(([]:List (List UInt8)),([]:List Buffer),()),()),())) else (ej.aa (JH.1,())).bind fun PA=>bif !decide (PA.2.1=(0:Int)) then (some ((PA.2.1,false,false,(0:Int),([]:List Change),(([]:List (List UInt8)),([]:List Buffer),()),()),())) else let VE:Y:=(ej.aa (a1.1.1,())).bind fun ZE=>(lU.aa (ZE.1,())).bind fun ZF=>(lU.aa (PA.1,())).bind fun ZG=>(ec.aa (ZF.1,ZG.1,())).bind fun PB=>(lH.aa (JH.1,())).bind fun VF=>bif decide (a1.2.1.1=(4:Int)) then (bif decide ((0:Int) < (PB.1.length:Int)) then (some (((8:Int),false,false,(0:Int),([]:List Change),(([]:List (List UInt8)),([]:List Buffer),()),()),())) else some (((0:Int),false,false,(0:Int),([]:List Change),(VF.1,r4.1.2),()),())) else l0 r3.1 PB.1 (PB.1.length:Int) ((VF.1,r4.1.2),(0:Int));bif !decide (a1.2.1.1=(4:Int)) then (bif decide (r3.1 < (0:Int)) then (some (((4:Int),false,false,(0:Int),([]:List Change),(([]:List (List UInt8)),([]:List Buffer),()),()),())) else VE) else VE;bif decide (a1.2.1.1=(1:Int)) then (bif decide ((0:Int)<=r3.1) then (some (((6:Int),false,false,(0:Int),([]:List Change),(([]:List (List UInt8)),([]:List Buffer),()),()),())) else bif decide ((8:Int)<=(a1.1.2.1.length:Int)) then (some (((2:Int),false,false,(0:Int),([]:List Change),(([]:List (List UInt8)),([]:List Buffer),()),()),())) else if r4.1.2.1.length+[(a1.2.1.2.1,([]:List Change),())].length<=bz then (let y5:=r4.1.2.1++[(a1.2.1.2.1,([]:List Change),())];some (((0:Int),false,false,(0:Int),([]:List Change),(r4.1.1,y5,r4.1.2.2),()),())) else none) else bif decide (a1.2.1.1=(5:Int)) then (bif decide (a1.2.1.1=(5:Int)) then (bif decide (r3.1 < (0:Int)) then (some (((4:Int),false,false,(0:Int),([]:List Change),(([]:List (List UInt8)),([]:List Buffer),()),()),())) else if 0<=r3.1/\r3.1 < (r4.1.2.1.length:Int) then ((r4.1.2.1[r3.1.toNat]?).bind fun x6=>(r4.1.2.1[r3.1.toNat]?).bind fun x7=>(r4.1.2.1[r3.1.toNat]?).bind fun x8=>bif BM r3.1 (af (r3.1+(1:Int))) r3.1.toNat then ((mu.aa (r4.1.2.1.set r3.1.toNat x8,r3.1,af (r3.1+(1:Int)),())).bind fun r9=>some (((0:Int),true,decide (a1.2.1.1=(5:Int)),x7.1,x7.2.1,(r4.1.1,r9.1,r4.1.2.2),()),())) else none) else none) else GW) else bif decide (a1.2.1.1=(6:Int)) then (bif decide (r3.1 < (0:Int)) then (some (((4:Int),false,false,(0:Int),([]:List Change),(([]:List (List UInt8)),([]:List Buffer),()),()),())) else if 0<=r3.1/\r3.1 < (r4.1.2.1.length:Int) then ((r4.1.2.1[r3.1.toNat]?).bind fun x10=>(r4.1.2.1[r3.1.toNat]?).bind fun N0=>(r4.1.2.1[r3.1.toNat]?).bind fun XT=>bif BM r3.1 (af (r3.1+(1:Int))) r3.1.toNat then ((mu.aa (r4.1.2.1.set r3.1.toNat XT,r3.1,af (r3.1+(1:Int)),())).bind fun Ye=>some (((0:Int),true,decide (a1.2.1.1=(5:Int)),N0.1,N0.2.1,(r4.1.1,Ye.1,r4.1.2.2),()),())) else none) else none) else GW
theorem ae (k:Nat) (a1:Arg):@Eq Y (D.W k a1) (p (r0 k a1) a1):=
 aX (b:=p (s0 k a1) a1) (by kernel_rfl) (by rw[ax])
theorem ok:Ok prog 138 D.sig:=aw func138 a7 (by kernel_rfl) (fc kq.ok (fc ej.ok (fc lU.ok (fc ec.ok (fc lH.ok (fc nL.ok (fc gw.ok (fc mu.ok (fc lW.ok (fc nM.ok (ak _)))))))))))
end jp
namespace gx
abbrev Arg:Type:=(List UInt8)×(List UInt8)×Unit
abbrev Out:Type:=Bool×Unit
abbrev Y:=Option Out
noncomputable def D:FD:={ fn:=f66,tl:=be,ps:=[(.ro,(.U u8)),(.ro,(.U u8))],rs:=[(.bool,(az .bool))],lv:=[(4,[0,1,5])],lx:=[(0,[])],od:=[(6,[0,1,2,3,4,5,6,7,8])] }
noncomputable def aa (a:Arg):Y:=@lift Out fun k=>D.W k a
noncomputable def T0 (a1:Arg) (J:Int):St:={ n:=26,sl:=[(0,.val (.U u8) a1.1),(1,.val (.U u8) a1.2.1),(5,.val i64 J)],vr:=[],aT:=[] }
noncomputable def b0 (self:Int->Y) (e0:(Unit)->Y) (a1:Arg) (J:Int):Y:=bif decide (J < (a1.1.length:Int)) then (if 0<=J then ((a1.1[J.toNat]?).bind fun a_=>if 0<=J then ((a1.2.1[J.toNat]?).bind fun en=>bif !decide ((a_.toNat:Int)=(en.toNat:Int)) then (some (false,())) else self (af (J+(1:Int)))) else none) else none) else e0 ()
noncomputable def q0 (a1:Arg) (dz:(Unit)):Y:=some (true,())
noncomputable def s0 (k:Nat) (a1:Arg):(Int)->Y:=fun J=>D.L k [1,1,0,1,0,0] [0,1,5] [] (ag 0 (ay (D.N k [1,1,1]) D.K0)) (T0 a1 J)
noncomputable def r0 (k:Nat) (a1:Arg):(Int)->Y:=aq (fun w v=>b0 w (q0 a1) a1 v) k
theorem ax (k:Nat) (a1:Arg):s0 k a1=r0 k a1:=
 funext fun J=>av _ _ _ (T0 a1) _ (fun rec v=>by kernel_rfl) k J
noncomputable def p (l0:(Int)->Y) (a1:Arg):Y:=bif !decide ((a1.1.length:Int)=(a1.2.1.length:Int)) then (some (false,())) else l0 (0:Int)
theorem ae (k:Nat) (a1:Arg):@Eq Y (D.W k a1) (p (r0 k a1) a1):=
 aX (b:=p (s0 k a1) a1) (by kernel_rfl) (by rw[ax])
theorem ok:Ok prog 66 D.sig:=aw func66 a7 (by kernel_rfl) (ak _)
end gx
namespace jz
abbrev Arg:Type:=(List (List UInt8))×(List (List UInt8))×Unit
abbrev Out:Type:=Bool×Unit
abbrev Y:=Option Out
noncomputable def D:FD:={ fn:=f140,tl:=be,ps:=[(.ro,(.U (.U u8))),(.ro,(.U (.U u8)))],rs:=[(.bool,(az .bool))],gl:=[(66,gx.D.sig)],lv:=[(4,[0,1,5])],lx:=[(0,[])],od:=[(6,[0,1,2,3,4,5,6,7,8,9])] }
noncomputable def aa (a:Arg):Y:=@lift Out fun k=>D.W k a
noncomputable def T0 (a1:Arg) (J:Int):St:={ n:=27,sl:=[(0,.val (.U (.U u8)) a1.1),(1,.val (.U (.U u8)) a1.2.1),(5,.val i64 J)],vr:=[],aT:=[] }
noncomputable def b0 (self:Int->Y) (e0:(Unit)->Y) (a1:Arg) (J:Int):Y:=bif decide (J < (a1.1.length:Int)) then (if 0<=J then ((a1.1[J.toNat]?).bind fun a_=>if 0<=J then ((a1.2.1[J.toNat]?).bind fun en=>(gx.aa (a_,en,())).bind fun ja=>bif !ja.1 then (some (false,())) else self (af (J+(1:Int)))) else none) else none) else e0 ()
noncomputable def q0 (a1:Arg) (lA:(Unit)):Y:=some (true,())
noncomputable def s0 (k:Nat) (a1:Arg):(Int)->Y:=fun J=>D.L k [1,1,0,1,0,0] [0,1,5] [] (ag 0 (ay (D.N k [1,1,1]) D.K0)) (T0 a1 J)
noncomputable def r0 (k:Nat) (a1:Arg):(Int)->Y:=aq (fun w v=>b0 w (q0 a1) a1 v) k
theorem ax (k:Nat) (a1:Arg):s0 k a1=r0 k a1:=
 funext fun J=>av _ _ _ (T0 a1) _ (fun rec v=>by kernel_rfl) k J
noncomputable def p (l0:(Int)->Y) (a1:Arg):Y:=bif !decide ((a1.1.length:Int)=(a1.2.1.length:Int)) then (some (false,())) else l0 (0:Int)
theorem ae (k:Nat) (a1:Arg):@Eq Y (D.W k a1) (p (r0 k a1) a1):=
 aX (b:=p (s0 k a1) a1) (by kernel_rfl) (by rw[ax])
theorem ok:Ok prog 140 D.sig:=aw func140 a7 (by kernel_rfl) (fc gx.ok (ak _))
end jz
namespace n9
abbrev Arg:Type:=ep×Unit
abbrev Out:Type:=Int×Unit
noncomputable def D:FD:={ fn:=f154,tl:=be,ps:=[(.ro,(.ptr ka))],rs:=[(i64,(az i64))],gl:=[(130,lm.D.sig),(218,bj.D.sig)],od:=[(7,[0,1,2,3,4,5,6,7,8,9,10,11,12,13,14,15,16,17])],ar:=[(7,[3,10,14])] }
noncomputable def aa (a:Arg):Option Out:=@lift Out fun k=>D.W k a
noncomputable def p (a1:Arg):Option Out:=(lm.aa (a1.1.1,())).bind fun r2=>bif !decide (r2.1=(0:Int)) then (some (r2.1,())) else (lm.aa (a1.1.2.2.1,())).bind fun r3=>bif !decide (r3.1=(0:Int)) then (some (r3.1,())) else (bj.aa (a1.1.2.1,(0:Int),(16000:Int),())).bind fun r4=>bif !r4.1 then (some ((3:Int),())) else (bj.aa (a1.1.2.2.2.1,(0:Int),a1.1.2.1,())).bind fun r5=>bif !r5.1 then (some ((3:Int),())) else some ((0:Int),())
theorem ae (k:Nat) (a1:Arg):@Eq (Option Out) (D.W k a1) (p a1):=by kernel_rfl
theorem ok:Ok prog 154 D.sig:=aw func154 a7 (by kernel_rfl) (fc lm.ok (fc bj.ok (ak _)))
end n9
namespace pP
abbrev Arg:Type:=Int×Unit
abbrev Out:Type:=qn×Unit
noncomputable def D:FD:={ fn:=f155,tl:=be,ps:=[(.ro,i64)],rs:=[(q9,(am q9))] }
noncomputable def aa (a:Arg):Option Out:=@lift Out fun k=>D.W k a
noncomputable def p (a1:Arg):Option Out:=some ((a1.1,false,((0:Int),(0:Int),([]:List Change),()),((([]:List (List UInt8)),([]:List Buffer),()),(0:Int),(([]:List (List UInt8)),([]:List Buffer),()),(0:Int),()),()),())
theorem ae (k:Nat) (a1:Arg):@Eq (Option Out) (D.W k a1) (p a1):=by kernel_rfl
theorem ok:Ok prog 155 D.sig:=aw func155 a7 (by kernel_rfl) (ak _)
end pP
namespace ml
abbrev Arg:Type:=(List UInt8)×Unit
abbrev Out:Type:=bf×Unit
abbrev Y:=Option Out
noncomputable def D:FD:={ fn:=f376,tl:=be,ps:=[(.ro,(.U u8))],rs:=[(d_,(am d_))],gl:=[(171,gj.D.sig)],lv:=[(4,[0,2,3,4,5])],lx:=[(0,[2,3])],od:=[(1,[0,1,2,3,4,5,6,7,8,9,10,11,12,13,14]),(8,[0,1,2,3,4,5,6,7,8,9,10,11,12,13,14,15,16,17,18,19,20])] }
noncomputable def aa (a:Arg):Y:=@lift Out fun k=>D.W k a
noncomputable def T0 (a1:Arg) (gg:bf×Int×Int):St:={ n:=73,sl:=[(0,.val (.U u8) a1.1),(2,.box d_ (am d_) [] ((0:Int),(0:Int),(0:Int),([]:List gi),())),(3,.box d_ (am d_) [] gg.1),(4,.val i64 gg.2.1),(5,.val i64 gg.2.2)],vr:=[],aT:=[] }
noncomputable def b0 (self:(bf×Int×Int)->Y) (e0:bf->Y) (a1:Arg) (gg:bf×Int×Int):Y:=(a1.1[4]?).bind fun ry=>bif decide (gg.2.2 < af (ry.toNat:Int)) then (bif decide (af (gg.2.1+(2:Int))<=(a1.1.length:Int)) then (if 0<=af (gg.2.1+(1:Int)) then ((a1.1[(af (gg.2.1+(1:Int))).toNat]?).bind fun BQ=>bif decide ((a1.1.length:Int) < af ((af (gg.2.1+(2:Int)))+(af (BQ.toNat:Int)))) then (e0 gg.1) else if 0<=gg.2.1 then ((a1.1[gg.2.1.toNat]?).bind fun Fx=>if 0<=af (gg.2.1+(2:Int))/\af (gg.2.1+(2:Int))<=af ((af (gg.2.1+(2:Int)))+(af (BQ.toNat:Int)))/\af ((af (gg.2.1+(2:Int)))+(af (BQ.toNat:Int)))<=(a1.1.length:Int) then ((gj.aa ((a1.1.take (af ((af (gg.2.1+(2:Int)))+(af (BQ.toNat:Int)))).toNat).drop (af (gg.2.1+(2:Int))).toNat,())).bind fun xX=>if gg.1.2.2.2.1.length+[(af (Fx.toNat:Int),xX.1,())].length<=bz then (let aaW:=gg.1.2.2.2.1++[(af (Fx.toNat:Int),xX.1,())];self ((gg.1.1,gg.1.2.1,gg.1.2.2.1,aaW,gg.1.2.2.2.2),af ((af (gg.2.1+(2:Int)))+(af (BQ.toNat:Int))),af (gg.2.2+(1:Int)))) else none) else none) else none) else none) else e0 gg.1) else e0 gg.1
noncomputable abbrev B0 (_:Nat):=b0
noncomputable def q0 (a1:Arg) (TN:bf):Y:=some (TN,())
noncomputable abbrev Q0 (_:Nat):=q0
noncomputable def s0 (k:Nat) (a1:Arg):(bf×Int×Int)->Y:=fun gg=>D.L k [1,1,1,0,1,0,0] [0,2,3,4,5] [] (ag 0 (ay (D.N k [1,1,1,1]) D.K0)) (T0 a1 gg)
noncomputable def r0 (k:Nat) (a1:Arg):(bf×Int×Int)->Y:=aq (fun w v=>B0 k w (Q0 k a1) a1 v) k
theorem ax (k:Nat) (a1:Arg):s0 k a1=r0 k a1:=
 funext fun gg=>av _ _ _ (T0 a1) _ (fun rec v=>by kernel_rfl) k gg
noncomputable def p (l0:(bf×Int×Int)->Y) (a1:Arg):Y:=(a1.1[1]?).bind fun x2=>(a1.1[2]?).bind fun x3=>(a1.1[3]?).bind fun x4=>l0 ((af (x2.toNat:Int),af (x3.toNat:Int),af (x4.toNat:Int),([]:List gi),()),(5:Int),(0:Int))
theorem ae (k:Nat) (a1:Arg):@Eq Y (D.W k a1) (p (r0 k a1) a1):=
 aX (b:=p (s0 k a1) a1) (by kernel_rfl) (by rw[ax])
theorem ok:Ok prog 376 D.sig:=aw func376 a7 (by kernel_rfl) (fc gj.ok (ak _))
end ml
namespace mX
abbrev Arg:Type:=(List UInt8)×Unit
abbrev Out:Type:=Int×Unit
abbrev Y:=Option Out
noncomputable def D:FD:={ fn:=f430,tl:=be,ps:=[(.ro,(.U u8))],rs:=[(i64,(az i64))],lv:=[(3,[0,3,4])],lx:=[(0,[3])] }
noncomputable def aa (a:Arg):Y:=@lift Out fun k=>D.W k a
noncomputable def T0 (a1:Arg) (J:Int×Int):St:={ n:=21,sl:=[(0,.val (.U u8) a1.1),(3,.val i64 J.1),(4,.val i64 J.2)],vr:=[],aT:=[] }
noncomputable def b0 (self:(Int×Int)->Y) (e0:Int->Y) (a1:Arg) (J:Int×Int):Y:=bif decide (J.2 < (a1.1.length:Int)) then (if 0<=J.2 then ((a1.1[J.2.toNat]?).bind fun a_=>self ((af ((af (J.1*(31:Int)))+(af (a_.toNat:Int)))).tmod (65521:Int),af (J.2+(1:Int)))) else none) else e0 J.1
noncomputable def q0 (a1:Arg) (qq:Int):Y:=some (qq,())
noncomputable def s0 (k:Nat) (a1:Arg):(Int×Int)->Y:=fun J=>D.L k [1,1,0,1,0,0] [0,3,4] [] (ag 0 (ay (D.N k [1,1,1]) D.K0)) (T0 a1 J)
noncomputable def r0 (k:Nat) (a1:Arg):(Int×Int)->Y:=aq (fun w v=>b0 w (q0 a1) a1 v) k
theorem ax (k:Nat) (a1:Arg):s0 k a1=r0 k a1:=
 funext fun J=>av _ _ _ (T0 a1) _ (fun rec v=>by kernel_rfl) k J
noncomputable def p (l0:(Int×Int)->Y) (a1:Arg):Y:=l0 ((1:Int),(0:Int))
theorem ae (k:Nat) (a1:Arg):@Eq Y (D.W k a1) (p (r0 k a1) a1):=
 aX (b:=p (s0 k a1) a1) (by kernel_rfl) (by rw[ax])
theorem ok:Ok prog 430 D.sig:=aw func430 a7 (by kernel_rfl) (ak _)
end mX
namespace mm
abbrev Arg:Type:=bf×Unit
abbrev Out:Type:=(List UInt8)×Unit
abbrev Y:=Option Out
noncomputable def D:FD:={ fn:=f377,tl:=be,ps:=[(.ro,(.ptr d_))],rs:=[((.U u8),(am (.U u8)))],gl:=[(430,mX.D.sig)],lv:=[(3,[0,3,4])],lx:=[(0,[3])],od:=[(1,[0,1,2,3,4,5,6,7,8,9,10,11,12,13,14,15,16,17,18,19,20,21,22]),(5,[0,1,2,3,4,5,6,7,8,9,10,11,12,13,14,15,16,17,18,19,22,23,24,25,26,27,28,29,20,21,30,31])],ar:=[(5,[4,8,9,13,17,19,25,29])] }
noncomputable def aa (a:Arg):Y:=@lift Out fun k=>D.W k a
noncomputable def T0 (a1:Arg) (J:(List UInt8)×Int):St:={ n:=85,sl:=[(0,.cp d_ a1.1),(3,.own (.U u8) (am (.U u8)) [] J.1),(4,.val i64 J.2)],vr:=[],aT:=[] }
noncomputable def b0 (self:((List UInt8)×Int)->Y) (e0:(List UInt8)->Y) (a1:Arg) (J:(List UInt8)×Int):Y:=bif decide (J.2 < (a1.1.2.2.2.1.length:Int)) then (if 0<=J.2 then ((a1.1.2.2.2.1[J.2.toNat]?).bind fun a_=>if 0<=J.2 then ((a1.1.2.2.2.1[J.2.toNat]?).bind fun en=>if 0<=J.2 then ((a1.1.2.2.2.1[J.2.toNat]?).bind fun i_=>if J.1.length+[UInt8.ofInt a_.1,UInt8.ofInt (en.2.1.length:Int)].length<=bz then (let Dt:=J.1++[UInt8.ofInt a_.1,UInt8.ofInt (en.2.1.length:Int)];if Dt.length+i_.2.1.length<=bz then (self (Dt++i_.2.1,af (J.2+(1:Int)))) else none) else none) else none) else none) else none) else e0 J.1
noncomputable def q0 (a1:Arg) (nQ:(List UInt8)):Y:=if 0<=(0:Int)/\(0:Int) < (nQ.length:Int) then ((nQ[0]?).bind fun Fx=>let TV:=nQ.set 0 (UInt8.ofInt (af ((nQ.length:Int)+(2:Int))));(mX.aa (TV,())).bind fun BP=>if TV.length+[UInt8.ofInt (af (BP.1.tdiv (256:Int))),UInt8.ofInt (BP.1.tmod (256:Int))].length<=bz then (let aaX:=TV++[UInt8.ofInt (af (BP.1.tdiv (256:Int))),UInt8.ofInt (BP.1.tmod (256:Int))];some (aaX,())) else none) else none
noncomputable def s0 (k:Nat) (a1:Arg):((List UInt8)×Int)->Y:=fun J=>D.L k [1,1,0,1,0,0] [0,3,4] [] (ag 0 (ay (D.N k [1,1,1]) D.K0)) (T0 a1 J)
noncomputable def r0 (k:Nat) (a1:Arg):((List UInt8)×Int)->Y:=aq (fun w v=>b0 w (q0 a1) a1 v) k
theorem ax (k:Nat) (a1:Arg):s0 k a1=r0 k a1:=
 funext fun J=>av _ _ _ (T0 a1) _ (fun rec v=>by kernel_rfl) k J
noncomputable def p (l0:((List UInt8)×Int)->Y) (a1:Arg):Y:=l0 ([(0:UInt8),UInt8.ofInt a1.1.1,UInt8.ofInt a1.1.2.1,UInt8.ofInt a1.1.2.2.1,UInt8.ofInt (a1.1.2.2.2.1.length:Int)],(0:Int))
theorem ae (k:Nat) (a1:Arg):@Eq Y (D.W k a1) (p (r0 k a1) a1):=
 aX (b:=p (s0 k a1) a1) (by kernel_rfl) (by rw[ax])
theorem ok:Ok prog 377 D.sig:=aw func377 a7 (by kernel_rfl) (fc mX.ok (ak _))
end mm
namespace lr
abbrev Arg:Type:=(List UInt8)×Unit
abbrev Out:Type:=Ld×Unit
noncomputable def D:FD:={ fn:=f283,tl:=be,ps:=[(.ro,(.U u8))],rs:=[(xW,(am xW))],gl:=[(132,no.D.sig),(376,ml.D.sig),(377,mm.D.sig)],od:=[(5,[0,1,2,5,6,7,8,3,4,9,10])],ar:=[(5,[8])] }
noncomputable def aa (a:Arg):Option Out:=@lift Out fun k=>D.W k a
noncomputable def p (a1:Arg):Option Out:=bif decide ((a1.1.length:Int) < (7:Int)) then (some (((5:Int),(0:Int),((0:Int),(0:Int),(0:Int),([]:List gi),()),()),())) else (a1.1[0]?).bind fun x2=>bif decide (af (x2.toNat:Int) < (7:Int)) then (some (((5:Int),(0:Int),((0:Int),(0:Int),(0:Int),([]:List gi),()),()),())) else (a1.1[0]?).bind fun x3=>bif decide ((a1.1.length:Int) < af (x3.toNat:Int)) then (some (((5:Int),(0:Int),((0:Int),(0:Int),(0:Int),([]:List gi),()),()),())) else (a1.1[0]?).bind fun x4=>if 0<=af (x4.toNat:Int)/\af (x4.toNat:Int)<=(a1.1.length:Int) then ((ml.aa ((a1.1.take (af (x4.toNat:Int)).toNat).drop 0,())).bind fun r5=>(no.aa (r5.1,())).bind fun r6=>bif !decide (r6.1=(0:Int)) then (some (((5:Int),(0:Int),((0:Int),(0:Int),(0:Int),([]:List gi),()),()),())) else if 0<=af (x4.toNat:Int)/\af (x4.toNat:Int)<=(a1.1.length:Int) then ((mm.aa (r5.1,())).bind fun r7=>bif !decide (r7.1=(a1.1.take (af (x4.toNat:Int)).toNat).drop 0) then (some (((5:Int),(0:Int),((0:Int),(0:Int),(0:Int),([]:List gi),()),()),())) else some (((0:Int),af (x4.toNat:Int),r5.1,()),())) else none) else none
theorem ae (k:Nat) (a1:Arg):@Eq (Option Out) (D.W k a1) (p a1):=by kernel_rfl
theorem ok:Ok prog 283 D.sig:=aw func283 a7 (by kernel_rfl) (fc no.ok (fc ml.ok (fc mm.ok (ak _))))
end lr
namespace p_
abbrev Arg:Type:=ep×(List UInt8)×Unit
abbrev Out:Type:=qn×Unit
noncomputable def D:FD:={ fn:=f156,tl:=be,ps:=[(.ro,ka),(.ro,(.U u8))],rs:=[(q9,(.pair (az i64) (.pair (az .bool) (.pair (az nI) (.pair (.pair (.pair (am (.U (.U u8))) (.pair (.U true (az et)) (az .unit))) (am (c8 [i64,jf,i64]))) (az .unit))))))],gl:=[(133,qP.D.sig),(155,pP.D.sig),(266,f5.D.sig),(283,lr.D.sig)],od:=[(11,[0,1,2,3,4,5,6,7,8,10,11,9,12,13,14,15])],ar:=[(11,[3,5,8,11])],bx:=[(6,[5]),(11,[2])],pd:=[(11,[14])],er:=[(11,[(1,15)])] }
noncomputable def aa (a:Arg):Option Out:=@lift Out fun k=>D.W k a
noncomputable def p (a1:Arg):Option Out:=bif decide ((16000:Int) < (a1.2.1.length:Int)) then ((pP.aa ((2:Int),())).bind fun r2=>some (r2.1,())) else bif decide ((a1.2.1.length:Int)<=a1.1.2.1) then ((pP.aa ((4:Int),())).bind fun r3=>some (r3.1,())) else if 0<=a1.1.2.1/\a1.1.2.1<=(a1.2.1.length:Int) then ((lr.aa ((a1.2.1.take a1.2.1.length).drop a1.1.2.1.toNat,())).bind fun r4=>bif !decide (r4.1.1=(0:Int)) then ((pP.aa (r4.1.1,())).bind fun r5=>some (r5.1,())) else (qP.aa (a1.1.1,r4.1.2.2.1,())).bind fun r6=>bif !decide (r6.1.1=(0:Int)) then ((pP.aa (r6.1.1,())).bind fun r7=>some (r7.1,())) else (f5.aa (a1.1.2.2.1,())).bind fun r8=>bif r6.1.2.2.1 then (some (((0:Int),true,(af (a1.1.2.1+r4.1.2.1),r6.1.2.2.2.1,r6.1.2.2.2.2.1,()),(r6.1.2.2.2.2.2.1,af (a1.1.2.1+r4.1.2.1),r8.1,a1.1.2.2.2.1,()),()),())) else some (((0:Int),false,((0:Int),(0:Int),([]:List Change),()),(r6.1.2.2.2.2.2.1,af (a1.1.2.1+r4.1.2.1),r8.1,a1.1.2.2.2.1,()),()),())) else none
theorem ae (k:Nat) (a1:Arg):@Eq (Option Out) (D.W k a1) (p a1):=by kernel_rfl
theorem ok:Ok prog 156 D.sig:=aw func156 a7 (by kernel_rfl) (fc qP.ok (fc pP.ok (fc f5.ok (fc lr.ok (ak _)))))
end p_
namespace d0
abbrev Arg:Type:=(List UInt8)×(List UInt8)×Unit
abbrev Out:Type:=Bool×Unit
abbrev Y:=Option Out
noncomputable def D:FD:={ fn:=f378,tl:=be,ps:=[(.ro,(.U u8)),(.ro,(.U u8))],rs:=[(.bool,(az .bool))],lv:=[(4,[0,1,12,13])],lx:=[(0,[])],od:=[(6,[0,1,2,3,4,5,6,7,8])] }
noncomputable def aa (a:Arg):Y:=@lift Out fun k=>D.W k a
noncomputable def T0 (a1:Arg) (J:Int):St:={ n:=26,sl:=[(0,.val (.U u8) a1.1),(1,.val (.U u8) a1.2.1),(12,.val i64 (a1.1.length:Int)),(13,.val i64 J)],vr:=[],aT:=[] }
noncomputable def b0 (self:Int->Y) (e0:(Unit)->Y) (a1:Arg) (J:Int):Y:=bif decide (J < (a1.1.length:Int)) then (if 0<=J then ((a1.1[J.toNat]?).bind fun a_=>if 0<=J then ((a1.2.1[J.toNat]?).bind fun en=>bif !decide ((a_.toNat:Int)=(en.toNat:Int)) then (some (false,())) else self (af (J+(1:Int)))) else none) else none) else e0 ()
noncomputable abbrev B0 (_:Nat):=b0
noncomputable def q0 (a1:Arg) (dz:(Unit)):Y:=some (true,())
noncomputable abbrev Q0 (_:Nat):=q0
noncomputable def s0 (k:Nat) (a1:Arg):(Int)->Y:=fun J=>D.L k [1,1,0,1,0,0] [0,1,12,13] [] (ag 0 (ay (D.N k [1,1,1]) D.K0)) (T0 a1 J)
noncomputable def r0 (k:Nat) (a1:Arg):(Int)->Y:=aq (fun w v=>B0 k w (Q0 k a1) a1 v) k
theorem ax (k:Nat) (a1:Arg):s0 k a1=r0 k a1:=
 funext fun J=>av _ _ _ (T0 a1) _ (fun rec v=>by kernel_rfl) k J
noncomputable def p (l0:(Int)->Y) (a1:Arg):Y:=bif !decide ((a1.1.length:Int)=(a1.2.1.length:Int)) then (some (false,())) else l0 (0:Int)
theorem ae (k:Nat) (a1:Arg):@Eq Y (D.W k a1) (p (r0 k a1) a1):=
 aX (b:=p (s0 k a1) a1) (by kernel_rfl) (by rw[ax])
theorem ok:Ok prog 378 D.sig:=aw func378 a7 (by kernel_rfl) (ak _)
end d0
namespace ft
abbrev Arg:Type:=bf×Unit
abbrev Out:Type:=(List UInt8)×Unit
abbrev Y:=Option Out
noncomputable def D:FD:={ fn:=f379,tl:=be,ps:=[(.ro,d_)],rs:=[((.U u8),(am (.U u8)))],lv:=[(3,[3,24,25,26]),(11,[3,6,51,52,53])],lx:=[(0,[3]),(2,[3,6])] }
noncomputable def aa (a:Arg):Y:=@lift Out fun k=>D.W k a
noncomputable def T0 (a1:Arg) (J:(List UInt8)×Int):St:={ n:=72,sl:=[(3,.own (.U u8) (am (.U u8)) [] J.1),(24,.val (.U ww) a1.1.2.2.2.1),(25,.val i64 (a1.1.2.2.2.1.length:Int)),(26,.val i64 J.2)],vr:=[],aT:=[] }
noncomputable def S0 (rec:RT Out) (a1:Arg):((List UInt8)×Int)->Y:=fun J=>rec (T0 a1 J)
noncomputable def co (K:KT Out) (a1:Arg):(List UInt8)->Y:=fun z=>K (.exit 0) ({ n:=72,sl:=[(3,.own (.U u8) (am (.U u8)) [] z)],vr:=[],aT:=[] })
noncomputable def b0 (self:((List UInt8)×Int)->Y) (e0:(List UInt8)->Y) (a1:Arg) (J:(List UInt8)×Int):Y:=bif decide (J.2 < (a1.1.2.2.2.1.length:Int)) then (if 0<=J.2 then ((a1.1.2.2.2.1[J.2.toNat]?).bind fun a_=>if J.1.length+[UInt8.ofInt a_.1,UInt8.ofInt (a_.2.1.length:Int)].length<=bz then (let Dv:=J.1++[UInt8.ofInt a_.1,UInt8.ofInt (a_.2.1.length:Int)];if Dv.length+a_.2.1.length<=bz then (self (Dv++a_.2.1,af (J.2+(1:Int)))) else none) else none) else none) else e0 J.1
theorem li (k:Nat) (rec:RT Out) (K:KT Out) (a1:Arg) (J:(List UInt8)×Int):D.N k [1,1,0,1,0,0] (T0 a1 J) (ic rec (ey [3,24,25,26] []) K)=b0 (S0 rec a1) (co K a1) a1 J:=by kernel_rfl
noncomputable def T1 (a1:Arg) (eo:List UInt8) (e8:Int) (ci:Int×Int):St:={ n:=72,sl:=[(3,.own (.U u8) (am (.U u8)) [] eo),(6,.val i64 ci.1),(51,.ref 3 [] [0,0]),(52,.val i64 e8),(53,.val i64 ci.2)],vr:=[],aT:=[] }
noncomputable def b1 (self:(Int×Int)->Y) (e2:Int->Y) (a1:Arg) (eo:List UInt8) (e8:Int) (ci:Int×Int):Y:=bif decide (ci.2 < e8) then (if 0<=ci.2/\ci.2 < (eo.length:Int) then ((eo[ci.2.toNat]?).bind fun Ad=>self ((af ((af (ci.1*(31:Int)))+(af (Ad.toNat:Int)))).tmod (65521:Int),af (ci.2+(1:Int)))) else none) else e2 ci.1
noncomputable def q1 (a1:Arg) (eo:List UInt8) (e8:Int) (Ac:Int):Y:=if eo.length+[UInt8.ofInt (Ac.fdiv (2 ^ 8)),UInt8.ofInt Ac].length<=bz then (let Pp:=eo++[UInt8.ofInt (Ac.fdiv (2 ^ 8)),UInt8.ofInt Ac];some (Pp,())) else none
noncomputable def s1 (k:Nat) (a1:Arg):(List UInt8)->Int->(Int×Int)->Y:=fun eo e8=>fun ci=>D.L k [1,1,1,1,1,0,1,0,0] [3,6,51,52,53] [] (ag 2 (ay (D.N k [1,1,1,1,1,1]) D.K0)) (T1 a1 eo e8 ci)
noncomputable def r1 (k:Nat) (a1:Arg):(List UInt8)->Int->(Int×Int)->Y:=fun eo e8=>aq (fun w v=>b1 w (q1 a1 eo e8) a1 eo e8 v) k
theorem lj (k:Nat) (a1:Arg):s1 k a1=r1 k a1:=
 funext fun eo=>funext fun e8=>funext fun ci=>av _ _ _ (T1 a1 eo e8) _ (fun rec v=>by kernel_rfl) k ci
noncomputable def q0 (l1:(List UInt8)->Int->(Int×Int)->Y) (a1:Arg) (dz:(List UInt8)):Y:=if 0<=(0:Int)/\(0:Int) < (dz.length:Int) then ((dz[0]?).bind fun ry=>let Du:=dz.set 0 (UInt8.ofInt (af ((dz.length:Int)+(2:Int))));l1 Du (Du.length:Int) ((1:Int),(0:Int))) else none
noncomputable def Q0 (k:Nat) (a1:Arg) (dz:(List UInt8)):Y:=q0 (r1 k a1) a1 dz
theorem oK (k:Nat) (a1:Arg) (dz:(List UInt8)):co (ag 0 (ay (D.N k [1,1,1]) D.K0)) a1 dz=Q0 k a1 dz:=
 aX (b:=q0 (s1 k a1) a1 dz) (by kernel_rfl) (by rw[lj];rfl)
noncomputable def s0 (k:Nat) (a1:Arg):((List UInt8)×Int)->Y:=fun J=>D.L k [1,1,0,1,0,0] [3,24,25,26] [] (ag 0 (ay (D.N k [1,1,1]) D.K0)) (T0 a1 J)
noncomputable def r0 (k:Nat) (a1:Arg):((List UInt8)×Int)->Y:=aq (fun w v=>b0 w (Q0 k a1) a1 v) k
theorem ax (k:Nat) (a1:Arg):s0 k a1=r0 k a1:=by
 funext J;have h0:co (ag 0 (ay (D.N k [1,1,1]) D.K0)) a1=Q0 k a1:=funext fun z=>oK k a1 z;refine (av _ _ _ (T0 a1) (fun self v=>b0 self (co (ag 0 (ay (D.N k [1,1,1]) D.K0)) a1) a1 v) (fun rec v=>li k rec (ag 0 (ay (D.N k [1,1,1]) D.K0)) a1 v) k J).trans ?_;rw[h0];rfl
noncomputable def p (l0:((List UInt8)×Int)->Y) (a1:Arg):Y:=l0 ([(0:UInt8),UInt8.ofInt a1.1.1,UInt8.ofInt a1.1.2.1,UInt8.ofInt a1.1.2.2.1,UInt8.ofInt (a1.1.2.2.2.1.length:Int)],(0:Int))
theorem ae (k:Nat) (a1:Arg):@Eq Y (D.W k a1) (p (r0 k a1) a1):=
 aX (b:=p (s0 k a1) a1) (by kernel_rfl) (by rw[ax])
theorem ok:Ok prog 379 D.sig:=aw func379 a7 (by kernel_rfl) (ak _)
end ft
namespace kP
abbrev Arg:Type:=(List UInt8)×Unit
abbrev Out:Type:=bf×Int×Unit
abbrev Y:=Option Out
noncomputable def D:FD:={ fn:=f284,tl:=be,ps:=[(.ro,(.U u8))],rs:=[(d_,(am d_)),(i64,(az i64))],gl:=[(215,kj.D.sig),(274,gw.D.sig),(378,d0.D.sig),(379,ft.D.sig)],lv:=[(7,[2,4,5,6,7,52,53])],lx:=[(0,[2,4,5,6,7])],od:=[(4,[0,1,2,3,4,5,6,7,8,9,10,11,12,13,14]),(11,[0,1,2,3,4,5,6,7,8,9,10,11,12,13,14,15,16,17,18,19,20])] }
noncomputable def aa (a:Arg):Y:=@lift Out fun k=>D.W k a
noncomputable def T0 (a1:Arg) (uq:List UInt8) (xd:Int) (zD:Int) (nE:bf×Int×Int):St:={ n:=123,sl:=[(2,.box d_ (am d_) [] ((0:Int),(0:Int),(0:Int),([]:List gi),())),(4,.val (.U u8) uq),(5,.box d_ (am d_) [] nE.1),(6,.val i64 nE.2.1),(7,.val i64 xd),(52,.val i64 zD),(53,.val i64 nE.2.2)],vr:=[],aT:=[] }
noncomputable def b0 (self:(bf×Int×Int)->Y) (e0:(bf×Int)->Y) (a1:Arg) (uq:List UInt8) (xd:Int) (zD:Int) (nE:bf×Int×Int):Y:=bif decide (nE.2.2 < zD) then (bif decide (xd < af (nE.2.1+(2:Int))) then (some (((0:Int),(0:Int),(0:Int),([]:List gi),()),(0:Int),())) else if 0<=af (nE.2.1+(1:Int)) then ((uq[(af (nE.2.1+(1:Int))).toNat]?).bind fun aaY=>bif decide (xd < af ((af (nE.2.1+(2:Int)))+(af (aaY.toNat:Int)))) then (some (((0:Int),(0:Int),(0:Int),([]:List gi),()),(0:Int),())) else if 0<=af (nE.2.1+(1:Int)) then ((uq[(af (nE.2.1+(1:Int))).toNat]?).bind fun PC=>if 0<=nE.2.1 then ((uq[nE.2.1.toNat]?).bind fun Yf=>if 0<=af (nE.2.1+(2:Int))/\af (nE.2.1+(2:Int))<=af ((af (nE.2.1+(2:Int)))+(af (PC.toNat:Int)))/\af ((af (nE.2.1+(2:Int)))+(af (PC.toNat:Int)))<=(uq.length:Int) then ((kj.aa ((uq.take (af ((af (nE.2.1+(2:Int)))+(af (PC.toNat:Int)))).toNat).drop (af (nE.2.1+(2:Int))).toNat,())).bind fun Yg=>if nE.1.2.2.2.1.length+[(af (Yf.toNat:Int),Yg.1,())].length<=bz then (let aaZ:=nE.1.2.2.2.1++[(af (Yf.toNat:Int),Yg.1,())];self ((nE.1.1,nE.1.2.1,nE.1.2.2.1,aaZ,nE.1.2.2.2.2),af (nE.2.1+(af ((2:Int)+(af (PC.toNat:Int))))),af (nE.2.2+(1:Int)))) else none) else none) else none) else none) else none) else e0 (nE.1,nE.2.1)
noncomputable abbrev B0 (_:Nat):=b0
noncomputable def q0 (a1:Arg) (uq:List UInt8) (xd:Int) (zD:Int) (PD:(bf×Int)):Y:=bif !decide (PD.2=xd) then (some (((0:Int),(0:Int),(0:Int),([]:List gi),()),(0:Int),())) else (gw.aa (PD.1,())).bind fun Lh=>bif !decide (Lh.1=(0:Int)) then (some (((0:Int),(0:Int),(0:Int),([]:List gi),()),(0:Int),())) else (ft.aa (PD.1,())).bind fun Li=>(d0.aa (Li.1,uq,())).bind fun aa0=>bif !aa0.1 then (some (((0:Int),(0:Int),(0:Int),([]:List gi),()),(0:Int),())) else some (PD.1,(uq.length:Int),())
noncomputable abbrev Q0 (_:Nat):=q0
noncomputable def s0 (k:Nat) (a1:Arg):(List UInt8)->Int->Int->(bf×Int×Int)->Y:=fun uq xd zD=>fun nE=>D.L k [1,1,1,1,1,0,1,0,0] [2,4,5,6,7,52,53] [] (ag 0 (ay (D.N k [1,1,1,1,1,1]) D.K0)) (T0 a1 uq xd zD nE)
noncomputable def r0 (k:Nat) (a1:Arg):(List UInt8)->Int->Int->(bf×Int×Int)->Y:=fun uq xd zD=>aq (fun w v=>B0 k w (Q0 k a1 uq xd zD) a1 uq xd zD v) k
theorem ax (k:Nat) (a1:Arg):s0 k a1=r0 k a1:=
 funext fun uq=>funext fun xd=>funext fun zD=>funext fun nE=>av _ _ _ (T0 a1 uq xd zD) _ (fun rec v=>by kernel_rfl) k nE
noncomputable def p (l0:(List UInt8)->Int->Int->(bf×Int×Int)->Y) (a1:Arg):Y:=bif decide ((a1.1.length:Int) < (7:Int)) then (some (((0:Int),(0:Int),(0:Int),([]:List gi),()),(0:Int),())) else (a1.1[0]?).bind fun x2=>bif decide ((a1.1.length:Int) < af (x2.toNat:Int)) then (some (((0:Int),(0:Int),(0:Int),([]:List gi),()),(0:Int),())) else (a1.1[0]?).bind fun x3=>bif decide ((x3.toNat:Int) < (7:Int)) then (some (((0:Int),(0:Int),(0:Int),([]:List gi),()),(0:Int),())) else (a1.1[0]?).bind fun x4=>if 0<=(x4.toNat:Int)/\(x4.toNat:Int)<=(a1.1.length:Int) then ((((a1.1.take (x4.toNat:Int).toNat).drop 0)[1]?).bind fun x5=>(((a1.1.take (x4.toNat:Int).toNat).drop 0)[2]?).bind fun x6=>(((a1.1.take (x4.toNat:Int).toNat).drop 0)[3]?).bind fun x7=>(((a1.1.take (x4.toNat:Int).toNat).drop 0)[4]?).bind fun x8=>l0 ((a1.1.take (x4.toNat:Int).toNat).drop 0) (af ((((a1.1.take (x4.toNat:Int).toNat).drop 0).length:Int) - (2:Int))) (af (x8.toNat:Int)) ((af (x5.toNat:Int),af (x6.toNat:Int),af (x7.toNat:Int),([]:List gi),()),(5:Int),(0:Int))) else none
theorem ae (k:Nat) (a1:Arg):@Eq Y (D.W k a1) (p (r0 k a1) a1):=
 aX (b:=p (s0 k a1) a1) (by kernel_rfl) (by rw[ax])
theorem ok:Ok prog 284 D.sig:=aw func284 a7 (by kernel_rfl) (fc kj.ok (fc gw.ok (fc d0.ok (fc ft.ok (ak _)))))
end kP
namespace lS
abbrev Arg:Type:=ep×(List UInt8)×Unit
abbrev Out:Type:=qn×Unit
noncomputable def D:FD:={ fn:=f158,tl:=be,ps:=[(.ro,ka),(.ro,(.U u8))],rs:=[(q9,(.pair (az i64) (.pair (az .bool) (.pair (am nI) (.pair (.pair (am jf) (az (c8 [i64,jf,i64]))) (az .unit))))))],gl:=[(138,jp.D.sig),(284,kP.D.sig)] }
noncomputable def aa (a:Arg):Option Out:=@lift Out fun k=>D.W k a
noncomputable def p (a1:Arg):Option Out:=bif decide ((a1.2.1.length:Int)<=a1.1.2.1) then (some (((4:Int),false,((0:Int),(0:Int),([]:List Change),()),((([]:List (List UInt8)),([]:List Buffer),()),(0:Int),(([]:List (List UInt8)),([]:List Buffer),()),(0:Int),()),()),())) else if 0<=a1.1.2.1/\a1.1.2.1<=(a1.2.1.length:Int) then ((kP.aa ((a1.2.1.take a1.2.1.length).drop a1.1.2.1.toNat,())).bind fun r2=>bif decide (r2.2.1=(0:Int)) then (some (((5:Int),false,((0:Int),(0:Int),([]:List Change),()),((([]:List (List UInt8)),([]:List Buffer),()),(0:Int),(([]:List (List UInt8)),([]:List Buffer),()),(0:Int),()),()),())) else (jp.aa (a1.1.1,r2.1,())).bind fun r3=>bif !decide (r3.1.1=(0:Int)) then (some ((r3.1.1,false,((0:Int),(0:Int),([]:List Change),()),((([]:List (List UInt8)),([]:List Buffer),()),(0:Int),(([]:List (List UInt8)),([]:List Buffer),()),(0:Int),()),()),())) else let j5:=fun (p4:qn)=>(some (p4,()):Option Out);bif r3.1.2.2.1 then (j5 ((0:Int),true,(af (a1.1.2.1+r2.2.1),r3.1.2.2.2.1,r3.1.2.2.2.2.1,()),(r3.1.2.2.2.2.2.1,af (a1.1.2.1+r2.2.1),a1.1.2.2.1,a1.1.2.2.2.1,()),())) else j5 ((0:Int),false,((0:Int),(0:Int),([]:List Change),()),(r3.1.2.2.2.2.2.1,af (a1.1.2.1+r2.2.1),a1.1.2.2.1,a1.1.2.2.2.1,()),())) else none
theorem ae (k:Nat) (a1:Arg):@Eq (Option Out) (D.W k a1) (p a1):=by kernel_rfl
theorem ok:Ok prog 158 D.sig:=aw func158 a7 (by kernel_rfl) (fc jp.ok (fc kP.ok (ak _)))
end lS
namespace qa
abbrev Arg:Type:=ep×Unit
abbrev Out:Type:=ep×Unit
noncomputable def D:FD:={ fn:=f164,tl:=be,ps:=[(.ro,ka)],rs:=[(ka,(am ka))],gl:=[(266,f5.D.sig)],od:=[(1,[0,1,3,4,5,6,8,9,2,7,10,11])] }
noncomputable def aa (a:Arg):Option Out:=@lift Out fun k=>D.W k a
noncomputable def p (a1:Arg):Option Out:=(f5.aa (a1.1.1,())).bind fun r2=>(f5.aa (a1.1.2.2.1,())).bind fun r3=>some ((r2.1,a1.1.2.1,r3.1,a1.1.2.2.2.1,()),())
theorem ae (k:Nat) (a1:Arg):@Eq (Option Out) (D.W k a1) (p a1):=by kernel_rfl
theorem ok:Ok prog 164 D.sig:=aw func164 a7 (by kernel_rfl) (fc f5.ok (ak _))
end qa
namespace mK
abbrev Arg:Type:=ep×(List UInt8)×Unit
abbrev Out:Type:=nx×Unit
abbrev Y:=Option Out
noncomputable def D:FD:={ fn:=f71,tl:=be,ps:=[(.ro,ka),(.ro,(.U u8))],rs:=[(tI,(.pair (az i64) (.pair (.U true (az nI)) (az (c8 [ka])))))],gl:=[(154,n9.D.sig),(156,p_.D.sig),(164,qa.D.sig)],lv:=[(7,[1,4,6])],lf:=[(7,[(6,(.pair .leaf (.pair (.U true (.pair .leaf (.pair .leaf (.pair (.U false (.pair .leaf (.pair (.pair .leaf (.pair .leaf (.pair .leaf (.pair .leaf .leaf)))) (.pair .leaf (.pair (.pair .leaf (.pair .leaf (.pair .leaf (.pair .leaf .leaf)))) .leaf))))) .leaf)))) (.pair (.pair (.pair (.U true (.U true .leaf)) (.pair (.U true (.pair .leaf (.pair (.U false (.pair .leaf (.pair (.pair .leaf (.pair .leaf (.pair .leaf (.pair .leaf .leaf)))) (.pair .leaf (.pair (.pair .leaf (.pair .leaf (.pair .leaf (.pair .leaf .leaf)))) .leaf))))) .leaf))) .leaf)) (.pair .leaf (.pair (.pair (.U true (.U true .leaf)) (.pair (.U true (.pair .leaf (.pair (.U true (.pair .leaf (.pair (.pair .leaf (.pair .leaf (.pair .leaf (.pair .leaf .leaf)))) (.pair .leaf (.pair (.pair .leaf (.pair .leaf (.pair .leaf (.pair .leaf .leaf)))) .leaf))))) .leaf))) .leaf)) (.pair .leaf .leaf)))) .leaf))))])] }
noncomputable def aa (a:Arg):Y:=@lift Out fun k=>D.W k a
noncomputable def T0 (a1:Arg) (kQ:nx):St:={ n:=45,sl:=[(1,.val (.U u8) a1.2.1),(4,.box tI (am tI) [] ((0:Int),([]:List lg),((([]:List (List UInt8)),([]:List Buffer),()),(0:Int),(([]:List (List UInt8)),([]:List Buffer),()),(0:Int),()),())),(6,.box tI (.pair (az i64) (.pair (.U true (az nI)) (.pair (.pair (.pair (am (.U (.U u8))) (.pair (.U true (az et)) (az .unit))) (am (c8 [i64,jf,i64]))) (az .unit)))) [] kQ)],vr:=[],aT:=[] }
noncomputable def b0 (self:nx->Y) (a1:Arg) (kQ:nx):Y:=(p_.aa (kQ.2.2.1,a1.2.1,())).bind fun ja=>bif !decide (ja.1.1=(0:Int)) then (some (kQ,())) else let Yh:=fun (Yi:nx)=>(bif decide ((40:Int) < (Yi.2.1.length:Int)) then (some (((2:Int),([]:List lg),((([]:List (List UInt8)),([]:List Buffer),()),(0:Int),(([]:List (List UInt8)),([]:List Buffer),()),(0:Int),()),()),())) else self Yi:Y);bif ja.1.2.1 then (if kQ.2.1.length+[ja.1.2.2.1].length<=bz then (Yh (kQ.1,kQ.2.1++[ja.1.2.2.1],ja.1.2.2.2.1,kQ.2.2.2)) else none) else Yh (kQ.1,kQ.2.1,ja.1.2.2.2.1,kQ.2.2.2)
noncomputable abbrev B0 (_:Nat):=b0
noncomputable def s0 (k:Nat) (a1:Arg):(nx)->Y:=fun kQ=>D.L k [1,1,1,1,0,0] [1,4,6] [(6,(.pair .leaf (.pair (.U true (.pair .leaf (.pair .leaf (.pair (.U false (.pair .leaf (.pair (.pair .leaf (.pair .leaf (.pair .leaf (.pair .leaf .leaf)))) (.pair .leaf (.pair (.pair .leaf (.pair .leaf (.pair .leaf (.pair .leaf .leaf)))) .leaf))))) .leaf)))) (.pair (.pair (.pair (.U true (.U true .leaf)) (.pair (.U true (.pair .leaf (.pair (.U false (.pair .leaf (.pair (.pair .leaf (.pair .leaf (.pair .leaf (.pair .leaf .leaf)))) (.pair .leaf (.pair (.pair .leaf (.pair .leaf (.pair .leaf (.pair .leaf .leaf)))) .leaf))))) .leaf))) .leaf)) (.pair .leaf (.pair (.pair (.U true (.U true .leaf)) (.pair (.U true (.pair .leaf (.pair (.U true (.pair .leaf (.pair (.pair .leaf (.pair .leaf (.pair .leaf (.pair .leaf .leaf)))) (.pair .leaf (.pair (.pair .leaf (.pair .leaf (.pair .leaf (.pair .leaf .leaf)))) .leaf))))) .leaf))) .leaf)) (.pair .leaf .leaf)))) .leaf))))] (ag 0 D.K0) (T0 a1 kQ)
noncomputable def r0 (k:Nat) (a1:Arg):(nx)->Y:=aq (fun w v=>B0 k w a1 v) k
theorem ax (k:Nat) (a1:Arg):s0 k a1=r0 k a1:=
 funext fun kQ=>av _ _ _ (T0 a1) _ (fun rec v=>by kernel_rfl) k kQ
noncomputable def p (l0:(nx)->Y) (a1:Arg):Y:=(n9.aa (a1.1,())).bind fun r2=>bif !decide (r2.1=(0:Int)) then (some ((r2.1,([]:List lg),((([]:List (List UInt8)),([]:List Buffer),()),(0:Int),(([]:List (List UInt8)),([]:List Buffer),()),(0:Int),()),()),())) else bif decide ((16000:Int) < (a1.2.1.length:Int)) then (some (((2:Int),([]:List lg),((([]:List (List UInt8)),([]:List Buffer),()),(0:Int),(([]:List (List UInt8)),([]:List Buffer),()),(0:Int),()),()),())) else (qa.aa (a1.1,())).bind fun r3=>l0 ((0:Int),([]:List lg),r3.1,())
theorem ae (k:Nat) (a1:Arg):@Eq Y (D.W k a1) (p (r0 k a1) a1):=
 aX (b:=p (s0 k a1) a1) (by kernel_rfl) (by rw[ax])
theorem ok:Ok prog 71 D.sig:=aw func71 a7 (by kernel_rfl) (fc n9.ok (fc p_.ok (fc qa.ok (ak _))))
end mK
namespace jb
abbrev Arg:Type:=ep×(List UInt8)×Unit
abbrev Out:Type:=(List lg)×ep×Int×Unit
abbrev Y:=Option Out
noncomputable def D:FD:={ fn:=f165,tl:=be,ps:=[(.ro,ka),(.ro,(.U u8))],rs:=[((.U nI),(am (.U nI))),(ka,(az ka)),(i64,(az i64))],gl:=[(158,lS.D.sig)],lv:=[(4,[1,2,5,7])],lf:=[(4,[(2,(.pair (.pair (.U false (.U false .leaf)) (.pair (.U false (.pair .leaf (.pair (.U false (.pair .leaf (.pair (.pair .leaf (.pair .leaf (.pair .leaf (.pair .leaf .leaf)))) (.pair .leaf (.pair (.pair .leaf (.pair .leaf (.pair .leaf (.pair .leaf .leaf)))) .leaf))))) .leaf))) .leaf)) (.pair .leaf (.pair (.pair (.U false (.U false .leaf)) (.pair (.U false (.pair .leaf (.pair (.U false (.pair .leaf (.pair (.pair .leaf (.pair .leaf (.pair .leaf (.pair .leaf .leaf)))) (.pair .leaf (.pair (.pair .leaf (.pair .leaf (.pair .leaf (.pair .leaf .leaf)))) .leaf))))) .leaf))) .leaf)) (.pair .leaf .leaf)))))])],od:=[(6,[0,1,2,3,4])] }
noncomputable def aa (a:Arg):Y:=@lift Out fun k=>D.W k a
noncomputable def T0 (a1:Arg) (J:ep×(List lg)):St:={ n:=34,sl:=[(1,.val (.U u8) a1.2.1),(2,.box ka (az ka) [] J.1),(5,.box ka (am ka) [] ((([]:List (List UInt8)),([]:List Buffer),()),(0:Int),(([]:List (List UInt8)),([]:List Buffer),()),(0:Int),())),(7,.own (.U nI) (am (.U nI)) [] J.2)],vr:=[],aT:=[] }
noncomputable def b0 (self:(ep×(List lg))->Y) (a1:Arg) (J:ep×(List lg)):Y:=(lS.aa (J.1,a1.2.1,())).bind fun u7=>bif !decide (u7.1.1=(0:Int)) then (some (J.2,J.1,(0:Int),())) else bif u7.1.2.1 then (bif decide ((40:Int)<=(J.2.length:Int)) then (some (([]:List lg),((([]:List (List UInt8)),([]:List Buffer),()),(0:Int),(([]:List (List UInt8)),([]:List Buffer),()),(0:Int),()),(2:Int),())) else if J.2.length+[u7.1.2.2.1].length<=bz then (self (u7.1.2.2.2.1,J.2++[u7.1.2.2.1])) else none) else self (u7.1.2.2.2.1,J.2)
noncomputable abbrev B0 (_:Nat):=b0
noncomputable def s0 (k:Nat) (a1:Arg):(ep×(List lg))->Y:=fun J=>D.L k [1,1,1,0,0] [1,2,5,7] [(2,(.pair (.pair (.U false (.U false .leaf)) (.pair (.U false (.pair .leaf (.pair (.U false (.pair .leaf (.pair (.pair .leaf (.pair .leaf (.pair .leaf (.pair .leaf .leaf)))) (.pair .leaf (.pair (.pair .leaf (.pair .leaf (.pair .leaf (.pair .leaf .leaf)))) .leaf))))) .leaf))) .leaf)) (.pair .leaf (.pair (.pair (.U false (.U false .leaf)) (.pair (.U false (.pair .leaf (.pair (.U false (.pair .leaf (.pair (.pair .leaf (.pair .leaf (.pair .leaf (.pair .leaf .leaf)))) (.pair .leaf (.pair (.pair .leaf (.pair .leaf (.pair .leaf (.pair .leaf .leaf)))) .leaf))))) .leaf))) .leaf)) (.pair .leaf .leaf)))))] (ag 0 D.K0) (T0 a1 J)
noncomputable def r0 (k:Nat) (a1:Arg):(ep×(List lg))->Y:=aq (fun w v=>B0 k w a1 v) k
theorem ax (k:Nat) (a1:Arg):s0 k a1=r0 k a1:=
 funext fun J=>av _ _ _ (T0 a1) _ (fun rec v=>by kernel_rfl) k J
noncomputable def p (l0:(ep×(List lg))->Y) (a1:Arg):Y:=bif decide ((16000:Int) < (a1.2.1.length:Int)) then (some (([]:List lg),((([]:List (List UInt8)),([]:List Buffer),()),(0:Int),(([]:List (List UInt8)),([]:List Buffer),()),(0:Int),()),(2:Int),())) else l0 (a1.1,([]:List lg))
theorem ae (k:Nat) (a1:Arg):@Eq Y (D.W k a1) (p (r0 k a1) a1):=
 aX (b:=p (s0 k a1) a1) (by kernel_rfl) (by rw[ax])
theorem ok:Ok prog 165 D.sig:=aw func165 a7 (by kernel_rfl) (fc lS.ok (ak _))
end jb
namespace rL
abbrev Arg:Type:=Log×Int×Unit
abbrev Out:Type:=Int×Unit
noncomputable def D:FD:={ fn:=f169,tl:=be,ps:=[(.ro,lN),(.ro,i64)],rs:=[(i64,(az i64))],gl:=[(258,mJ.D.sig)] }
noncomputable def aa (a:Arg):Option Out:=@lift Out fun k=>D.W k a
noncomputable def p (a1:Arg):Option Out:=(mJ.aa (a1.1.1,a1.2.1,())).bind fun r2=>bif decide (r2.1 < (0:Int)) then (some ((-1:Int),())) else (mJ.aa (a1.1.2.1,r2.1,())).bind fun r3=>bif decide (r3.1 < (0:Int)) then (some ((-1:Int),())) else some (r3.1,())
theorem ae (k:Nat) (a1:Arg):@Eq (Option Out) (D.W k a1) (p a1):=by kernel_rfl
theorem ok:Ok prog 169 D.sig:=aw func169 a7 (by kernel_rfl) (fc mJ.ok (ak _))
end rL
namespace qb
abbrev Arg:Type:=kT×Int×Unit
abbrev Out:Type:=Int×Unit
noncomputable def D:FD:={ fn:=f76,tl:=be,ps:=[(.ro,gq),(.ro,i64)],rs:=[(i64,(az i64))],gl:=[(102,jn.D.sig),(127,gz.D.sig),(169,rL.D.sig)] }
noncomputable def aa (a:Arg):Option Out:=@lift Out fun k=>D.W k a
noncomputable def p (a1:Arg):Option Out:=(gz.aa (a1.1.2.1,a1.2.1,())).bind fun r2=>bif decide (r2.1 < (0:Int)) then (some ((-1:Int),())) else (rL.aa (a1.1.2.2.1,r2.1,())).bind fun r3=>bif decide (r3.1 < (0:Int)) then (some ((-1:Int),())) else (jn.aa (a1.1.2.2.2.1,r3.1,())).bind fun r4=>bif decide (r4.1 < (0:Int)) then (some ((-1:Int),())) else some (r4.1,())
theorem ae (k:Nat) (a1:Arg):@Eq (Option Out) (D.W k a1) (p a1):=by kernel_rfl
theorem ok:Ok prog 76 D.sig:=aw func76 a7 (by kernel_rfl) (fc jn.ok (fc gz.ok (fc rL.ok (ak _))))
end qb
namespace jq
abbrev Arg:Type:=(List UInt8)×Unit
abbrev Out:Type:=(List bf)×Int×Unit
abbrev Y:=Option Out
noncomputable def D:FD:={ fn:=f380,tl:=be,ps:=[(.ro,(.U u8))],rs:=[((.U d_),(am (.U d_))),(i64,(az i64))],gl:=[(283,lr.D.sig)],lv:=[(3,[0,4,5])],lx:=[(0,[4,5])] }
noncomputable def aa (a:Arg):Y:=@lift Out fun k=>D.W k a
noncomputable def T0 (a1:Arg) (J:(List bf)×Int):St:={ n:=30,sl:=[(0,.val (.U u8) a1.1),(4,.own (.U d_) (am (.U d_)) [] J.1),(5,.val i64 J.2)],vr:=[],aT:=[] }
noncomputable def b0 (self:((List bf)×Int)->Y) (e0:((List bf)×Int)->Y) (a1:Arg) (J:(List bf)×Int):Y:=bif decide (J.2 < (a1.1.length:Int)) then (if 0<=J.2/\J.2<=(a1.1.length:Int) then ((lr.aa ((a1.1.take a1.1.length).drop J.2.toNat,())).bind fun u7=>bif !decide (u7.1.1=(0:Int)) then (e0 (J.1,J.2)) else if J.1.length+[u7.1.2.2.1].length<=bz then (self (J.1++[u7.1.2.2.1],af (J.2+u7.1.2.1))) else none) else none) else e0 (J.1,J.2)
noncomputable abbrev B0 (_:Nat):=b0
noncomputable def q0 (a1:Arg) (qq:((List bf)×Int)):Y:=some (qq.1,qq.2,())
noncomputable abbrev Q0 (_:Nat):=q0
noncomputable def s0 (k:Nat) (a1:Arg):((List bf)×Int)->Y:=fun J=>D.L k [1,1,1,0,0,0] [0,4,5] [] (ag 0 (ay (D.N k [1,1,1,1]) D.K0)) (T0 a1 J)
noncomputable def r0 (k:Nat) (a1:Arg):((List bf)×Int)->Y:=aq (fun w v=>B0 k w (Q0 k a1) a1 v) k
theorem ax (k:Nat) (a1:Arg):s0 k a1=r0 k a1:=
 funext fun J=>av _ _ _ (T0 a1) _ (fun rec v=>by kernel_rfl) k J
noncomputable def p (l0:((List bf)×Int)->Y) (a1:Arg):Y:=l0 (([]:List bf),(0:Int))
theorem ae (k:Nat) (a1:Arg):@Eq Y (D.W k a1) (p (r0 k a1) a1):=
 aX (b:=p (s0 k a1) a1) (by kernel_rfl) (by rw[ax])
theorem ok:Ok prog 380 D.sig:=aw func380 a7 (by kernel_rfl) (fc lr.ok (ak _))
end jq
namespace qc
abbrev Arg:Type:=Log×Unit
abbrev Out:Type:=Int×Unit
noncomputable def D:FD:={ fn:=f285,tl:=be,ps:=[(.ro,(.ptr lN))],rs:=[(i64,(az i64))],gl:=[(380,jq.D.sig)],od:=[(1,[0,1,2,3,4,5,6,7,8,9,10,11])] }
noncomputable def aa (a:Arg):Option Out:=@lift Out fun k=>D.W k a
noncomputable def p (a1:Arg):Option Out:=bif decide ((16000:Int) < af ((a1.1.1.length:Int)+(a1.1.2.1.length:Int))) then (some ((2:Int),())) else (jq.aa (a1.1.1,())).bind fun r2=>bif !decide (r2.2.1=(a1.1.1.length:Int)) then (some ((5:Int),())) else (jq.aa (a1.1.2.1,())).bind fun r3=>bif !decide (r3.2.1=(a1.1.2.1.length:Int)) then (some ((5:Int),())) else some ((0:Int),())
theorem ae (k:Nat) (a1:Arg):@Eq (Option Out) (D.W k a1) (p a1):=by kernel_rfl
theorem ok:Ok prog 285 D.sig:=aw func285 a7 (by kernel_rfl) (fc jq.ok (ak _))
end qc
namespace mL
abbrev Arg:Type:=(List bf)×Unit
abbrev Out:Type:=(List (List UInt8))×Int×Unit
abbrev Y:=Option Out
noncomputable def D:FD:={ fn:=f286,tl:=be,ps:=[(.ro,(.U d_))],rs:=[((.U (.U u8)),(am (.U (.U u8)))),(i64,(az i64))],gl:=[(362,dq.D.sig)],lv:=[(3,[0,4,5])],lx:=[(0,[4])],od:=[(7,[0,1,2,3])] }
noncomputable def aa (a:Arg):Y:=@lift Out fun k=>D.W k a
noncomputable def T0 (a1:Arg) (J:(List (List UInt8))×Int):St:={ n:=28,sl:=[(0,.val (.U d_) a1.1),(4,.own (.U (.U u8)) (am (.U (.U u8))) [] J.1),(5,.val i64 J.2)],vr:=[],aT:=[] }
noncomputable def b0 (self:((List (List UInt8))×Int)->Y) (e0:(List (List UInt8))->Y) (a1:Arg) (J:(List (List UInt8))×Int):Y:=bif decide (J.2 < (a1.1.length:Int)) then (if 0<=J.2 then ((a1.1[J.2.toNat]?).bind fun a_=>(dq.aa (J.1,a_,())).bind fun dn=>bif !decide (dn.1.1=(0:Int)) then (some (([]:List (List UInt8)),dn.1.1,())) else self (dn.1.2.2.1,af (J.2+(1:Int)))) else none) else e0 J.1
noncomputable def q0 (a1:Arg) (dz:(List (List UInt8))):Y:=some (dz,(0:Int),())
noncomputable def s0 (k:Nat) (a1:Arg):((List (List UInt8))×Int)->Y:=fun J=>D.L k [1,1,0,1,0,0] [0,4,5] [] (ag 0 (ay (D.N k [1,1,1]) D.K0)) (T0 a1 J)
noncomputable def r0 (k:Nat) (a1:Arg):((List (List UInt8))×Int)->Y:=aq (fun w v=>b0 w (q0 a1) a1 v) k
theorem ax (k:Nat) (a1:Arg):s0 k a1=r0 k a1:=
 funext fun J=>av _ _ _ (T0 a1) _ (fun rec v=>by kernel_rfl) k J
noncomputable def p (l0:((List (List UInt8))×Int)->Y) (a1:Arg):Y:=l0 (([]:List (List UInt8)),(0:Int))
theorem ae (k:Nat) (a1:Arg):@Eq Y (D.W k a1) (p (r0 k a1) a1):=
 aX (b:=p (s0 k a1) a1) (by kernel_rfl) (by rw[ax])
theorem ok:Ok prog 286 D.sig:=aw func286 a7 (by kernel_rfl) (fc dq.ok (ak _))
end mL
namespace oT
abbrev Arg:Type:=Log×Unit
abbrev Out:Type:=(List bf)×Unit
noncomputable def D:FD:={ fn:=f287,tl:=be,ps:=[(.ro,(.ptr lN))],rs:=[((.U d_),(am (.U d_)))],gl:=[(171,gj.D.sig),(380,jq.D.sig)],od:=[(1,[0,1,2,3,5,6,7,8,4,9,10,11,12,13,14,15])] }
noncomputable def aa (a:Arg):Option Out:=@lift Out fun k=>D.W k a
noncomputable def p (a1:Arg):Option Out:=(gj.aa (a1.1.1,())).bind fun r2=>if r2.1.length+a1.1.2.1.length<=bz then ((jq.aa (r2.1++a1.1.2.1,())).bind fun r3=>some (r3.1,())) else none
theorem ae (k:Nat) (a1:Arg):@Eq (Option Out) (D.W k a1) (p a1):=by kernel_rfl
theorem ok:Ok prog 287 D.sig:=aw func287 a7 (by kernel_rfl) (fc gj.ok (fc jq.ok (ak _)))
end oT
namespace l_
abbrev Arg:Type:=(List (List UInt8))×(List (List UInt8))×Unit
abbrev Out:Type:=Bool×Unit
abbrev Y:=Option Out
noncomputable def D:FD:={ fn:=f288,tl:=be,ps:=[(.ro,(.U (.U u8))),(.ro,(.U (.U u8)))],rs:=[(.bool,(az .bool))],lv:=[(4,[0,1,5])],lx:=[(0,[])],od:=[(6,[0,1,2,3,4,5,6,7,8,9,10])] }
noncomputable def aa (a:Arg):Y:=@lift Out fun k=>D.W k a
noncomputable def T0 (a1:Arg) (J:Int):St:={ n:=28,sl:=[(0,.val (.U (.U u8)) a1.1),(1,.val (.U (.U u8)) a1.2.1),(5,.val i64 J)],vr:=[],aT:=[] }
noncomputable def b0 (self:Int->Y) (e0:(Unit)->Y) (a1:Arg) (J:Int):Y:=bif decide (J < (a1.1.length:Int)) then (if 0<=J then ((a1.1[J.toNat]?).bind fun a_=>if 0<=J then ((a1.2.1[J.toNat]?).bind fun en=>bif !decide (a_=en) then (some (false,())) else self (af (J+(1:Int)))) else none) else none) else e0 ()
noncomputable def q0 (a1:Arg) (dz:(Unit)):Y:=some (true,())
noncomputable def s0 (k:Nat) (a1:Arg):(Int)->Y:=fun J=>D.L k [1,1,0,1,0,0] [0,1,5] [] (ag 0 (ay (D.N k [1,1,1]) D.K0)) (T0 a1 J)
noncomputable def r0 (k:Nat) (a1:Arg):(Int)->Y:=aq (fun w v=>b0 w (q0 a1) a1 v) k
theorem ax (k:Nat) (a1:Arg):s0 k a1=r0 k a1:=
 funext fun J=>av _ _ _ (T0 a1) _ (fun rec v=>by kernel_rfl) k J
noncomputable def p (l0:(Int)->Y) (a1:Arg):Y:=bif !decide ((a1.1.length:Int)=(a1.2.1.length:Int)) then (some (false,())) else l0 (0:Int)
theorem ae (k:Nat) (a1:Arg):@Eq Y (D.W k a1) (p (r0 k a1) a1):=
 aX (b:=p (s0 k a1) a1) (by kernel_rfl) (by rw[ax])
theorem ok:Ok prog 288 D.sig:=aw func288 a7 (by kernel_rfl) (ak _)
end l_
namespace nv
abbrev Arg:Type:=kT×Unit
abbrev Out:Type:=Int×Unit
noncomputable def D:FD:={ fn:=f170,tl:=be,ps:=[(.ro,(.ptr gq))],rs:=[(i64,(az i64))],gl:=[(104,mH.D.sig),(187,di.D.sig),(189,g_.D.sig),(218,bj.D.sig),(285,qc.D.sig),(286,mL.D.sig),(287,oT.D.sig),(288,l_.D.sig)],od:=[(13,[0,1,2,3,5,6,7,8,9,10,11,12,4,13,14,15])],ar:=[(13,[3,8,12])],pd:=[(13,[14])] }
noncomputable def aa (a:Arg):Option Out:=@lift Out fun k=>D.W k a
noncomputable def p (a1:Arg):Option Out:=(qc.aa (a1.1.2.2.1,())).bind fun r2=>bif !decide (r2.1=(0:Int)) then (some (r2.1,())) else bif !a1.1.1 then (bif decide ((0:Int) < (a1.1.2.1.length:Int)) then (some ((1:Int),())) else bif decide ((0:Int) < (a1.1.2.2.2.1.length:Int)) then (some ((1:Int),())) else bif decide ((0:Int) < (a1.1.2.2.1.2.1.length:Int)) then (some ((1:Int),())) else (bj.aa (a1.1.2.2.2.2.1,(1:Int),(100:Int),())).bind fun r3=>bif !r3.1 then (some ((3:Int),())) else some ((0:Int),())) else (di.aa (a1.1.2.1,())).bind fun r4=>bif !decide (r4.1=(0:Int)) then (some (r4.1,())) else (g_.aa (a1.1.2.1,())).bind fun r5=>(mH.aa ((r5.1,a1.1.2.2.2.1,a1.1.2.2.2.2.1,()),())).bind fun r6=>bif !decide (r6.1=(0:Int)) then (some (r6.1,())) else (oT.aa (a1.1.2.2.1,())).bind fun r7=>(mL.aa (r7.1,())).bind fun r8=>bif !decide (r8.2.1=(0:Int)) then (some ((8:Int),())) else (l_.aa (r8.1,a1.1.2.1,())).bind fun r9=>bif !r9.1 then (some ((8:Int),())) else some ((0:Int),())
theorem ae (k:Nat) (a1:Arg):@Eq (Option Out) (D.W k a1) (p a1):=by kernel_rfl
theorem ok:Ok prog 170 D.sig:=aw func170 a7 (by kernel_rfl) (fc mH.ok (fc di.ok (fc g_.ok (fc bj.ok (fc qc.ok (fc mL.ok (fc oT.ok (fc l_.ok (ak _)))))))))
end nv
namespace qQ
abbrev Arg:Type:=kT×Unit
abbrev Out:Type:=nx×Unit
noncomputable def D:FD:={ fn:=f77,tl:=be,ps:=[(.ro,gq)],rs:=[(tI,(.pair (az i64) (.pair (.U true (az nI)) (am (c8 [ka])))))],gl:=[(71,mK.D.sig),(170,nv.D.sig),(171,gj.D.sig)],fz:=[(4,3,7),(4,7,7)],od:=[(4,[0,1,2,3,5,6,7,4,8,9,10,11])],ar:=[(4,[])],pd:=[(4,[10])],er:=[(4,[(3,12),(7,12)])] }
noncomputable def aa (a:Arg):Option Out:=@lift Out fun k=>D.W k a
noncomputable def p (a1:Arg):Option Out:=(nv.aa (a1.1,())).bind fun r2=>bif !decide (r2.1=(0:Int)) then (some ((r2.1,([]:List lg),((([]:List (List UInt8)),([]:List Buffer),()),(0:Int),(([]:List (List UInt8)),([]:List Buffer),()),(0:Int),()),()),())) else (gj.aa (a1.1.2.2.1.1,())).bind fun r3=>if r3.1.length+a1.1.2.2.1.2.1.length<=bz then ((mK.aa (((([]:List (List UInt8)),([]:List Buffer),()),(0:Int),(([]:List (List UInt8)),([]:List Buffer),()),(0:Int),()),r3.1++a1.1.2.2.1.2.1,())).bind fun r4=>bif !decide (r4.1.1=(0:Int)) then (some ((r4.1.1,([]:List lg),((([]:List (List UInt8)),([]:List Buffer),()),(0:Int),(([]:List (List UInt8)),([]:List Buffer),()),(0:Int),()),()),())) else some (((0:Int),r4.1.2.1,((([]:List (List UInt8)),([]:List Buffer),()),(0:Int),(([]:List (List UInt8)),([]:List Buffer),()),(0:Int),()),()),())) else none
theorem ae (k:Nat) (a1:Arg):@Eq (Option Out) (D.W k a1) (p a1):=by kernel_rfl
theorem ok:Ok prog 77 D.sig:=aw func77 a7 (by kernel_rfl) (fc mK.ok (fc nv.ok (fc gj.ok (ak _))))
end qQ
namespace rM
abbrev Arg:Type:=Log×Unit
abbrev Out:Type:=Log×Unit
noncomputable def D:FD:={ fn:=f172,tl:=be,ps:=[(.ro,lN)],rs:=[(lN,(am lN))],gl:=[(62,gv.D.sig)] }
noncomputable def aa (a:Arg):Option Out:=@lift Out fun k=>D.W k a
noncomputable def p (a1:Arg):Option Out:=(gv.aa (a1.1.1,())).bind fun r2=>(gv.aa (a1.1.2.1,())).bind fun r3=>some ((r2.1,r3.1,()),())
theorem ae (k:Nat) (a1:Arg):@Eq (Option Out) (D.W k a1) (p a1):=by kernel_rfl
theorem ok:Ok prog 172 D.sig:=aw func172 a7 (by kernel_rfl) (fc gv.ok (ak _))
end rM
namespace nT
abbrev Arg:Type:=kT×Unit
abbrev Out:Type:=kT×Unit
noncomputable def D:FD:={ fn:=f78,tl:=be,ps:=[(.ro,gq)],rs:=[(gq,(am gq))],gl:=[(109,kJ.D.sig),(134,jy.D.sig),(172,rM.D.sig)] }
noncomputable def aa (a:Arg):Option Out:=@lift Out fun k=>D.W k a
noncomputable def p (a1:Arg):Option Out:=(jy.aa (a1.1.2.1,())).bind fun r2=>(rM.aa (a1.1.2.2.1,())).bind fun r3=>(kJ.aa (a1.1.2.2.2.1,())).bind fun r4=>some ((a1.1.1,r2.1,r3.1,r4.1,a1.1.2.2.2.2.1,()),())
theorem ae (k:Nat) (a1:Arg):@Eq (Option Out) (D.W k a1) (p a1):=by kernel_rfl
theorem ok:Ok prog 78 D.sig:=aw func78 a7 (by kernel_rfl) (fc kJ.ok (fc jy.ok (fc rM.ok (ak _))))
end nT
namespace pg
abbrev Arg:Type:=Log×Unit
abbrev Out:Type:=Int×Unit
noncomputable def D:FD:={ fn:=f381,tl:=be,ps:=[(.ro,lN)],rs:=[(i64,(az i64))] }
noncomputable def aa (a:Arg):Option Out:=@lift Out fun k=>D.W k a
noncomputable def p (a1:Arg):Option Out:=some (af ((a1.1.1.length:Int)+(a1.1.2.1.length:Int)),())
theorem ae (k:Nat) (a1:Arg):@Eq (Option Out) (D.W k a1) (p a1):=by kernel_rfl
theorem ok:Ok prog 381 D.sig:=aw func381 a7 (by kernel_rfl) (ak _)
end pg
namespace ma
abbrev Arg:Type:=(List UInt8)×Unit
abbrev Out:Type:=(List bf)×Int×Unit
abbrev Y:=Option Out
noncomputable def D:FD:={ fn:=f382,tl:=be,ps:=[(.ro,(.U u8))],rs:=[((.U d_),(am (.U d_))),(i64,(az i64))],gl:=[(284,kP.D.sig)],lv:=[(3,[0,4,5])] }
noncomputable def aa (a:Arg):Y:=@lift Out fun k=>D.W k a
noncomputable def T0 (a1:Arg) (J:(List bf)×Int):St:={ n:=26,sl:=[(0,.val (.U u8) a1.1),(4,.own (.U d_) (am (.U d_)) [] J.1),(5,.val i64 J.2)],vr:=[],aT:=[] }
noncomputable def b0 (self:((List bf)×Int)->Y) (a1:Arg) (J:(List bf)×Int):Y:=if 0<=J.2/\J.2<=(a1.1.length:Int) then ((kP.aa ((a1.1.take a1.1.length).drop J.2.toNat,())).bind fun u7=>bif decide (u7.2.1=(0:Int)) then (some (J.1,J.2,())) else if J.1.length+[u7.1].length<=bz then (self (J.1++[u7.1],af (J.2+u7.2.1))) else none) else none
noncomputable abbrev B0 (_:Nat):=b0
noncomputable def s0 (k:Nat) (a1:Arg):((List bf)×Int)->Y:=fun J=>D.L k [1,1,1,0,0] [0,4,5] [] (ag 0 D.K0) (T0 a1 J)
noncomputable def r0 (k:Nat) (a1:Arg):((List bf)×Int)->Y:=aq (fun w v=>B0 k w a1 v) k
theorem ax (k:Nat) (a1:Arg):s0 k a1=r0 k a1:=
 funext fun J=>av _ _ _ (T0 a1) _ (fun rec v=>by kernel_rfl) k J
noncomputable def p (l0:((List bf)×Int)->Y) (a1:Arg):Y:=l0 (([]:List bf),(0:Int))
theorem ae (k:Nat) (a1:Arg):@Eq Y (D.W k a1) (p (r0 k a1) a1):=
 aX (b:=p (s0 k a1) a1) (by kernel_rfl) (by rw[ax])
theorem ok:Ok prog 382 D.sig:=aw func382 a7 (by kernel_rfl) (fc kP.ok (ak _))
end ma
namespace iN
abbrev Arg:Type:=Log×Unit
abbrev Out:Type:=Int×Unit
abbrev Y:=Option Out
noncomputable def D:FD:={ fn:=f289,tl:=be,ps:=[(.ro,lN)],rs:=[(i64,(az i64))],gl:=[(381,pg.D.sig),(382,ma.D.sig)],lv:=[(4,[14,15,16])],lx:=[(0,[])] }
noncomputable def aa (a:Arg):Y:=@lift Out fun k=>D.W k a
noncomputable def T0 (a1:Arg) (bb:Int):St:={ n:=30,sl:=[(14,.own (.U (.U u8)) (.U true (az (.U u8))) [] [a1.1.1,a1.1.2.1]),(15,.val i64 ([a1.1.1,a1.1.2.1].length:Int)),(16,.val i64 bb)],vr:=[],aT:=[] }
noncomputable def b0 (self:Int->Y) (e0:(Unit)->Y) (a1:Arg) (bb:Int):Y:=bif decide (bb < ([a1.1.1,a1.1.2.1].length:Int)) then (if 0<=bb/\bb < ([a1.1.1,a1.1.2.1].length:Int) then (([a1.1.1,a1.1.2.1][bb.toNat]?).bind fun en=>(ma.aa (en,())).bind fun ja=>bif !decide (ja.2.1=(en.length:Int)) then (some ((5:Int),())) else self (af (bb+(1:Int)))) else none) else e0 ()
noncomputable def q0 (a1:Arg) (lA:(Unit)):Y:=some ((0:Int),())
noncomputable def s0 (k:Nat) (a1:Arg):(Int)->Y:=fun bb=>D.L k [1,1,0,1,0,0] [14,15,16] [] (ag 0 (ay (D.N k [1,1,1]) D.K0)) (T0 a1 bb)
noncomputable def r0 (k:Nat) (a1:Arg):(Int)->Y:=aq (fun w v=>b0 w (q0 a1) a1 v) k
theorem ax (k:Nat) (a1:Arg):s0 k a1=r0 k a1:=
 funext fun bb=>av _ _ _ (T0 a1) _ (fun rec v=>by kernel_rfl) k bb
noncomputable def p (l0:(Int)->Y) (a1:Arg):Y:=(pg.aa (a1.1,())).bind fun r2=>bif decide ((16000:Int) < r2.1) then (some ((2:Int),())) else l0 (0:Int)
theorem ae (k:Nat) (a1:Arg):@Eq Y (D.W k a1) (p (r0 k a1) a1):=
 aX (b:=p (s0 k a1) a1) (by kernel_rfl) (by rw[ax])
theorem ok:Ok prog 289 D.sig:=aw func289 a7 (by kernel_rfl) (fc pg.ok (fc ma.ok (ak _)))
end iN
namespace ph
abbrev Arg:Type:=(List bf)×Unit
abbrev Out:Type:=(List (List UInt8))×Int×Unit
abbrev Y:=Option Out
noncomputable def D:FD:={ fn:=f290,tl:=be,ps:=[(.ro,(.U d_))],rs:=[((.U (.U u8)),(az (.U (.U u8)))),(i64,(az i64))],gl:=[(274,gw.D.sig),(276,lW.D.sig)],lv:=[(3,[4,10,11,12])],lx:=[(0,[4])],lf:=[(3,[(4,(.U false (.U false .leaf)))])] }
noncomputable def aa (a:Arg):Y:=@lift Out fun k=>D.W k a
noncomputable def T0 (a1:Arg) (J:(List (List UInt8))×Int):St:={ n:=33,sl:=[(4,.val (.U (.U u8)) J.1),(10,.val (.U d_) a1.1),(11,.val i64 (a1.1.length:Int)),(12,.val i64 J.2)],vr:=[],aT:=[] }
noncomputable def b0 (self:((List (List UInt8))×Int)->Y) (e0:(List (List UInt8))->Y) (a1:Arg) (J:(List (List UInt8))×Int):Y:=bif decide (J.2 < (a1.1.length:Int)) then (if 0<=J.2 then ((a1.1[J.2.toNat]?).bind fun a_=>(gw.aa (a_,())).bind fun dn=>bif !decide (dn.1=(0:Int)) then (some (([]:List (List UInt8)),dn.1,())) else (lW.aa (J.1,a_,())).bind fun ja=>bif !decide (ja.2.1=(0:Int)) then (some (([]:List (List UInt8)),ja.2.1,())) else self (ja.1,af (J.2+(1:Int)))) else none) else e0 J.1
noncomputable def q0 (a1:Arg) (lA:(List (List UInt8))):Y:=some (lA,(0:Int),())
noncomputable def s0 (k:Nat) (a1:Arg):((List (List UInt8))×Int)->Y:=fun J=>D.L k [1,1,0,1,0,0] [4,10,11,12] [(4,(.U false (.U false .leaf)))] (ag 0 (ay (D.N k [1,1,1]) D.K0)) (T0 a1 J)
noncomputable def r0 (k:Nat) (a1:Arg):((List (List UInt8))×Int)->Y:=aq (fun w v=>b0 w (q0 a1) a1 v) k
theorem ax (k:Nat) (a1:Arg):s0 k a1=r0 k a1:=
 funext fun J=>av _ _ _ (T0 a1) _ (fun rec v=>by kernel_rfl) k J
noncomputable def p (l0:((List (List UInt8))×Int)->Y) (a1:Arg):Y:=l0 (([]:List (List UInt8)),(0:Int))
theorem ae (k:Nat) (a1:Arg):@Eq Y (D.W k a1) (p (r0 k a1) a1):=
 aX (b:=p (s0 k a1) a1) (by kernel_rfl) (by rw[ax])
theorem ok:Ok prog 290 D.sig:=aw func290 a7 (by kernel_rfl) (fc gw.ok (fc lW.ok (ak _)))
end ph
namespace om
abbrev Arg:Type:=Log×Unit
abbrev Out:Type:=(List bf)×Unit
noncomputable def D:FD:={ fn:=f291,tl:=be,ps:=[(.ro,lN)],rs:=[((.U d_),(am (.U d_)))],gl:=[(382,ma.D.sig)] }
noncomputable def aa (a:Arg):Option Out:=@lift Out fun k=>D.W k a
noncomputable def p (a1:Arg):Option Out:=(ma.aa (a1.1.1,())).bind fun r2=>(ma.aa (a1.1.2.1,())).bind fun r3=>if r2.1.length+r3.1.length<=bz then (some (r2.1++r3.1,())) else none
theorem ae (k:Nat) (a1:Arg):@Eq (Option Out) (D.W k a1) (p a1):=by kernel_rfl
theorem ok:Ok prog 291 D.sig:=aw func291 a7 (by kernel_rfl) (fc ma.ok (ak _))
end om
namespace ee
abbrev Arg:Type:=(List (List UInt8))×(List (List UInt8))×(Nat×Int)×Unit
abbrev Out:Type:=Bool×Unit
abbrev Y:=Option Out
noncomputable def D:FD:={ fn:=f383,tl:=be,ps:=[(.ro,(.U (.U u8))),(.ro,(.U (.U u8))),(.fix 378,.fn)],rs:=[(.bool,(az .bool))],gl:=[(378,d0.D.sig)],lv:=[(4,[1,2,15,16,17])],lx:=[(0,[])] }
noncomputable def aa (a:Arg):Y:=@lift Out fun k=>D.W k a
noncomputable def T0 (a1:Arg) (J:Int):St:={ n:=32,sl:=[(1,.val (.U (.U u8)) a1.2.1),(2,.val .fn ((378,a1.2.2.1.2):Nat×Int)),(15,.val (.U (.U u8)) a1.1),(16,.val i64 (a1.1.length:Int)),(17,.val i64 J)],vr:=[],aT:=[] }
noncomputable def b0 (self:Int->Y) (e0:(Unit)->Y) (a1:Arg) (J:Int):Y:=bif decide (J < (a1.1.length:Int)) then (if 0<=J then ((a1.1[J.toNat]?).bind fun a_=>if 0<=J then ((a1.2.1[J.toNat]?).bind fun en=>(d0.aa (a_,en,())).bind fun ja=>bif !ja.1 then (some (false,())) else self (af (J+(1:Int)))) else none) else none) else e0 ()
noncomputable def q0 (a1:Arg) (lA:(Unit)):Y:=some (true,())
noncomputable def s0 (k:Nat) (a1:Arg):(Int)->Y:=fun J=>D.L k [1,1,0,1,0,0] [1,2,15,16,17] [] (ag 0 (ay (D.N k [1,1,1]) D.K0)) (T0 a1 J)
noncomputable def r0 (k:Nat) (a1:Arg):(Int)->Y:=aq (fun w v=>b0 w (q0 a1) a1 v) k
theorem ax (k:Nat) (a1:Arg):s0 k a1=r0 k a1:=
 funext fun J=>av _ _ _ (T0 a1) _ (fun rec v=>by kernel_rfl) k J
noncomputable def p (l0:(Int)->Y) (a1:Arg):Y:=bif !decide ((a1.1.length:Int)=(a1.2.1.length:Int)) then (some (false,())) else l0 (0:Int)
theorem ae (k:Nat) (a1:Arg):@Eq Y (D.W k a1) (p (r0 k a1) a1):=
 aX (b:=p (s0 k a1) a1) (by kernel_rfl) (by rw[ax])
theorem ok:Ok prog 383 D.sig:=aw func383 a7 (by kernel_rfl) (fc d0.ok (ak _))
end ee
namespace pE
abbrev Arg:Type:=(List (List UInt8))×(List (List UInt8))×Unit
abbrev Out:Type:=Bool×Unit
noncomputable def D:FD:={ fn:=f292,tl:=be,ps:=[(.ro,(.U (.U u8))),(.ro,(.U (.U u8)))],rs:=[(.bool,(az .bool))],gl:=[(383,ee.D.sig)] }
noncomputable def aa (a:Arg):Option Out:=@lift Out fun k=>D.W k a
noncomputable def p (a1:Arg):Option Out:=(ee.aa (a1.1,a1.2.1,((378,0):Nat×Int),())).bind fun r2=>some (r2.1,())
theorem ae (k:Nat) (a1:Arg):@Eq (Option Out) (D.W k a1) (p a1):=by kernel_rfl
theorem ok:Ok prog 292 D.sig:=aw func292 a7 (by kernel_rfl) (fc ee.ok (ak _))
end pE
namespace oU
abbrev Arg:Type:=kT×Unit
abbrev Out:Type:=Int×Unit
noncomputable def D:FD:={ fn:=f173,tl:=be,ps:=[(.ro,gq)],rs:=[(i64,(az i64))],gl:=[(98,lk.D.sig),(192,ej.D.sig),(195,lU.D.sig),(214,fb.D.sig),(289,iN.D.sig),(290,ph.D.sig),(291,om.D.sig),(292,pE.D.sig)],od:=[(13,[0,2,3,4,5,1,6,7,8])] }
noncomputable def aa (a:Arg):Option Out:=@lift Out fun k=>D.W k a
noncomputable def p (a1:Arg):Option Out:=(iN.aa (a1.1.2.2.1,())).bind fun r2=>bif !decide (r2.1=(0:Int)) then (some (r2.1,())) else bif !a1.1.1 then (bif decide ((0:Int) < (a1.1.2.1.length:Int)) then (some ((1:Int),())) else bif decide ((0:Int) < (a1.1.2.2.2.1.length:Int)) then (some ((1:Int),())) else bif decide ((0:Int) < (a1.1.2.2.1.2.1.length:Int)) then (some ((1:Int),())) else (fb.aa (a1.1.2.2.2.2.1,(1:Int),(100:Int),())).bind fun r3=>bif !r3.1 then (some ((3:Int),())) else some ((0:Int),())) else (ej.aa (a1.1.2.1,())).bind fun r4=>bif !decide (r4.2.1=(0:Int)) then (some (r4.2.1,())) else (lU.aa (r4.1,())).bind fun r5=>(lk.aa ((r5.1,a1.1.2.2.2.1,a1.1.2.2.2.2.1,()),())).bind fun r6=>bif !decide (r6.1=(0:Int)) then (some (r6.1,())) else (om.aa (a1.1.2.2.1,())).bind fun r7=>(ph.aa (r7.1,())).bind fun r8=>bif !decide (r8.2.1=(0:Int)) then (some ((8:Int),())) else (pE.aa (r8.1,a1.1.2.1,())).bind fun r9=>bif !r9.1 then (some ((8:Int),())) else some ((0:Int),())
theorem ae (k:Nat) (a1:Arg):@Eq (Option Out) (D.W k a1) (p a1):=by kernel_rfl
theorem ok:Ok prog 173 D.sig:=aw func173 a7 (by kernel_rfl) (fc lk.ok (fc ej.ok (fc lU.ok (fc fb.ok (fc iN.ok (fc ph.ok (fc om.ok (fc pE.ok (ak _)))))))))
end oU
namespace qd
abbrev Arg:Type:=Log×Unit
abbrev Out:Type:=(List UInt8)×Unit
noncomputable def D:FD:={ fn:=f293,tl:=be,ps:=[(.ro,lN)],rs:=[((.U u8),(am (.U u8)))],gl:=[(215,kj.D.sig)],od:=[(1,[0,1,3,4,2,5,6])] }
noncomputable def aa (a:Arg):Option Out:=@lift Out fun k=>D.W k a
noncomputable def p (a1:Arg):Option Out:=(kj.aa (a1.1.1,())).bind fun r2=>if r2.1.length+a1.1.2.1.length<=bz then (some (r2.1++a1.1.2.1,())) else none
theorem ae (k:Nat) (a1:Arg):@Eq (Option Out) (D.W k a1) (p a1):=by kernel_rfl
theorem ok:Ok prog 293 D.sig:=aw func293 a7 (by kernel_rfl) (fc kj.ok (ak _))
end qd
namespace nN
abbrev Arg:Type:=kT×Unit
abbrev Out:Type:=(List lg)×Int×Unit
noncomputable def D:FD:={ fn:=f174,tl:=be,ps:=[(.ro,gq)],rs:=[((.U nI),(am (.U nI))),(i64,(az i64))],gl:=[(165,jb.D.sig),(293,qd.D.sig)] }
noncomputable def aa (a:Arg):Option Out:=@lift Out fun k=>D.W k a
noncomputable def p (a1:Arg):Option Out:=(qd.aa (a1.1.2.2.1,())).bind fun r2=>(jb.aa (((([]:List (List UInt8)),([]:List Buffer),()),(0:Int),(([]:List (List UInt8)),([]:List Buffer),()),(0:Int),()),r2.1,())).bind fun r3=>some (r3.1,r3.2.2.1,())
theorem ae (k:Nat) (a1:Arg):@Eq (Option Out) (D.W k a1) (p a1):=by kernel_rfl
theorem ok:Ok prog 174 D.sig:=aw func174 a7 (by kernel_rfl) (fc jb.ok (fc qd.ok (ak _)))
end nN
namespace rN
abbrev Arg:Type:=Log×Log×Unit
abbrev Out:Type:=Bool×Unit
noncomputable def D:FD:={ fn:=f175,tl:=be,ps:=[(.ro,lN),(.ro,lN)],rs:=[(.bool,(az .bool))],gl:=[(66,gx.D.sig)] }
noncomputable def aa (a:Arg):Option Out:=@lift Out fun k=>D.W k a
noncomputable def p (a1:Arg):Option Out:=(gx.aa (a1.1.1,a1.2.1.1,())).bind fun r2=>bif !r2.1 then (some (false,())) else (gx.aa (a1.1.2.1,a1.2.1.2.1,())).bind fun r3=>bif !r3.1 then (some (false,())) else some (true,())
theorem ae (k:Nat) (a1:Arg):@Eq (Option Out) (D.W k a1) (p a1):=by kernel_rfl
theorem ok:Ok prog 175 D.sig:=aw func175 a7 (by kernel_rfl) (fc gx.ok (ak _))
end rN
namespace qe
abbrev Arg:Type:=kT×kT×Unit
abbrev Out:Type:=Bool×Unit
noncomputable def D:FD:={ fn:=f80,tl:=be,ps:=[(.ro,gq),(.ro,gq)],rs:=[(.bool,(az .bool))],gl:=[(118,kL.D.sig),(140,jz.D.sig),(175,rN.D.sig)] }
noncomputable def aa (a:Arg):Option Out:=@lift Out fun k=>D.W k a
noncomputable def p (a1:Arg):Option Out:=bif !(a1.1.1 == a1.2.1.1) then (some (false,())) else (jz.aa (a1.1.2.1,a1.2.1.2.1,())).bind fun r2=>bif !r2.1 then (some (false,())) else (rN.aa (a1.1.2.2.1,a1.2.1.2.2.1,())).bind fun r3=>bif !r3.1 then (some (false,())) else (kL.aa (a1.1.2.2.2.1,a1.2.1.2.2.2.1,())).bind fun r4=>bif !r4.1 then (some (false,())) else bif !decide (a1.1.2.2.2.2.1=a1.2.1.2.2.2.2.1) then (some (false,())) else some (true,())
theorem ae (k:Nat) (a1:Arg):@Eq (Option Out) (D.W k a1) (p a1):=by kernel_rfl
theorem ok:Ok prog 80 D.sig:=aw func80 a7 (by kernel_rfl) (fc kL.ok (fc jz.ok (fc rN.ok (ak _))))
end qe
namespace qf
abbrev Arg:Type:=lg×Unit
abbrev Out:Type:=Int×Unit
noncomputable def D:FD:={ fn:=f294,tl:=be,ps:=[(.ro,(.ptr nI))],rs:=[(i64,(az i64))],gl:=[(218,bj.D.sig),(261,f0.D.sig)] }
noncomputable def aa (a:Arg):Option Out:=@lift Out fun k=>D.W k a
noncomputable def p (a1:Arg):Option Out:=(bj.aa (a1.1.1,(0:Int),(16000:Int),())).bind fun r2=>bif !r2.1 then (some ((3:Int),())) else (bj.aa (a1.1.2.1,(1:Int),(99:Int),())).bind fun r3=>bif !r3.1 then (some ((3:Int),())) else (f0.aa (a1.1.2.2.1,())).bind fun r4=>some (r4.1,())
theorem ae (k:Nat) (a1:Arg):@Eq (Option Out) (D.W k a1) (p a1):=by kernel_rfl
theorem ok:Ok prog 294 D.sig:=aw func294 a7 (by kernel_rfl) (fc bj.ok (fc f0.ok (ak _)))
end qf
namespace fe
abbrev Arg:Type:=(List Row)×(List Change)×Unit
abbrev Out:Type:=dv×Unit
abbrev Y:=Option Out
noncomputable def D:FD:={ fn:=f295,tl:=be,ps:=[(.ro,(.U au)),(.ro,(.U ap))],rs:=[(dg,(am dg))],gl:=[(205,mE.D.sig),(226,fy.D.sig),(237,lh.D.sig)],lv:=[(6,[1,4,6,7])],lx:=[(0,[4,6])] }
noncomputable def aa (a:Arg):Y:=@lift Out fun k=>D.W k a
noncomputable def T0 (a1:Arg) (bb:(List Row)×Int):St:={ n:=52,sl:=[(1,.val (.U ap) a1.2.1),(4,.box dg (am dg) [] ((0:Int),([]:List Row),())),(6,.own (.U au) (am (.U au)) [] bb.1),(7,.val i64 bb.2)],vr:=[],aT:=[] }
noncomputable def b0 (self:((List Row)×Int)->Y) (e0:(List Row)->Y) (a1:Arg) (bb:(List Row)×Int):Y:=bif decide (bb.2 < (a1.2.1.length:Int)) then (if 0<=bb.2 then ((a1.2.1[bb.2.toNat]?).bind fun en=>(mE.aa (en,())).bind fun ja=>bif !decide (ja.1=(0:Int)) then (some ((ja.1,([]:List Row),()),())) else if 0<=bb.2 then ((a1.2.1[bb.2.toNat]?).bind fun ry=>(lh.aa (bb.1,ry,())).bind fun lO=>bif !lO.2.1 then (some (((8:Int),([]:List Row),()),())) else self (lO.1,af (bb.2+(1:Int)))) else none) else none) else e0 bb.1
noncomputable def q0 (a1:Arg) (pr:(List Row)):Y:=bif decide ((60:Int) < (pr.length:Int)) then (some (((2:Int),([]:List Row),()),())) else some (((0:Int),pr,()),())
noncomputable def s0 (k:Nat) (a1:Arg):((List Row)×Int)->Y:=fun bb=>D.L k [1,1,1,0,1,0,0] [1,4,6,7] [] (ag 0 (ay (D.N k [1,1,1,1]) D.K0)) (T0 a1 bb)
noncomputable def r0 (k:Nat) (a1:Arg):((List Row)×Int)->Y:=aq (fun w v=>b0 w (q0 a1) a1 v) k
theorem ax (k:Nat) (a1:Arg):s0 k a1=r0 k a1:=
 funext fun bb=>av _ _ _ (T0 a1) _ (fun rec v=>by kernel_rfl) k bb
noncomputable def p (l0:((List Row)×Int)->Y) (a1:Arg):Y:=(fy.aa (a1.1,())).bind fun r2=>bif !decide (r2.1=(0:Int)) then (some ((r2.1,([]:List Row),()),())) else if ([]:List Row).length+a1.1.length<=bz then (l0 (([]:List Row)++a1.1,(0:Int))) else none
theorem ae (k:Nat) (a1:Arg):@Eq Y (D.W k a1) (p (r0 k a1) a1):=
 aX (b:=p (s0 k a1) a1) (by kernel_rfl) (by rw[ax])
theorem ok:Ok prog 295 D.sig:=aw func295 a7 (by kernel_rfl) (fc mE.ok (fc fy.ok (fc lh.ok (ak _))))
end fe
namespace cy
abbrev Arg:Type:=(List Row)×(List lg)×Unit
abbrev Out:Type:=dv×Unit
abbrev Y:=Option Out
noncomputable def D:FD:={ fn:=f177,tl:=be,ps:=[(.ro,(.U au)),(.ro,(.U nI))],rs:=[(dg,(am dg))],gl:=[(226,fy.D.sig),(294,qf.D.sig),(295,fe.D.sig)],lv:=[(5,[0,1,4,6]),(12,[1,4,8,9])],lx:=[(0,[0,1,4]),(2,[4,8])],od:=[(14,[0,1,2,3,4,5,6,7,8])] }
noncomputable def aa (a:Arg):Y:=@lift Out fun k=>D.W k a
noncomputable def T0 (a1:Arg) (bb:Int):St:={ n:=53,sl:=[(0,.val (.U au) a1.1),(1,.val (.U nI) a1.2.1),(4,.box dg (am dg) [] ((0:Int),([]:List Row),())),(6,.val i64 bb)],vr:=[],aT:=[] }
noncomputable def S0 (rec:RT Out) (a1:Arg):(Int)->Y:=fun bb=>rec (T0 a1 bb)
noncomputable def co (K:KT Out) (a1:Arg):(Unit)->Y:=fun z=>K (.exit 0) ({ n:=53,sl:=[(0,.val (.U au) a1.1),(1,.val (.U nI) a1.2.1),(4,.box dg (am dg) [] ((0:Int),([]:List Row),()))],vr:=[],aT:=[] })
noncomputable def b0 (self:Int->Y) (e0:(Unit)->Y) (a1:Arg) (bb:Int):Y:=bif decide (bb < (a1.2.1.length:Int)) then (if 0<=bb then ((a1.2.1[bb.toNat]?).bind fun en=>(qf.aa (en,())).bind fun ja=>bif !decide (ja.1=(0:Int)) then (some ((ja.1,([]:List Row),()),())) else self (af (bb+(1:Int)))) else none) else e0 ()
theorem li (k:Nat) (rec:RT Out) (K:KT Out) (a1:Arg) (bb:Int):D.N k [1,1,0,1,0,0] (T0 a1 bb) (ic rec (ey [0,1,4,6] []) K)=b0 (S0 rec a1) (co K a1) a1 bb:=by kernel_rfl
noncomputable def T1 (a1:Arg) (mW:dv×Int):St:={ n:=53,sl:=[(1,.val (.U nI) a1.2.1),(4,.box dg (am dg) [] ((0:Int),([]:List Row),())),(8,.box dg (am dg) [] mW.1),(9,.val i64 mW.2)],vr:=[],aT:=[] }
noncomputable def b1 (self:(dv×Int)->Y) (e2:dv->Y) (a1:Arg) (mW:dv×Int):Y:=bif decide (mW.2 < (a1.2.1.length:Int)) then (if 0<=mW.2 then ((a1.2.1[mW.2.toNat]?).bind fun BO=>(fe.aa (mW.1.2.1,BO.2.2.1,())).bind fun BS=>bif !decide (BS.1.1=(0:Int)) then (some (BS.1,())) else self (BS.1,af (mW.2+(1:Int)))) else none) else e2 mW.1
noncomputable def q1 (a1:Arg) (ZH:dv):Y:=some (ZH,())
noncomputable def s1 (k:Nat) (a1:Arg):(dv×Int)->Y:=fun mW=>D.L k [1,1,1,1,0,1,0,0] [1,4,8,9] [] (ag 2 (ay (D.N k [1,1,1,1,1]) D.K0)) (T1 a1 mW)
noncomputable def r1 (k:Nat) (a1:Arg):(dv×Int)->Y:=aq (fun w v=>b1 w (q1 a1) a1 v) k
theorem lj (k:Nat) (a1:Arg):s1 k a1=r1 k a1:=
 funext fun mW=>av _ _ _ (T1 a1) _ (fun rec v=>by kernel_rfl) k mW
noncomputable def q0 (l1:(dv×Int)->Y) (a1:Arg) (lA:(Unit)):Y:=if ([]:List Row).length+a1.1.length<=bz then (l1 (((0:Int),([]:List Row)++a1.1,()),(0:Int))) else none
noncomputable def Q0 (k:Nat) (a1:Arg) (lA:(Unit)):Y:=q0 (r1 k a1) a1 lA
theorem oK (k:Nat) (a1:Arg) (lA:(Unit)):co (ag 0 (ay (D.N k [1,1,1]) D.K0)) a1 lA=Q0 k a1 lA:=
 aX (b:=q0 (s1 k a1) a1 lA) (by kernel_rfl) (by rw[lj];rfl)
noncomputable def s0 (k:Nat) (a1:Arg):(Int)->Y:=fun bb=>D.L k [1,1,0,1,0,0] [0,1,4,6] [] (ag 0 (ay (D.N k [1,1,1]) D.K0)) (T0 a1 bb)
noncomputable def r0 (k:Nat) (a1:Arg):(Int)->Y:=aq (fun w v=>b0 w (Q0 k a1) a1 v) k
theorem ax (k:Nat) (a1:Arg):s0 k a1=r0 k a1:=by
 funext bb;have h0:co (ag 0 (ay (D.N k [1,1,1]) D.K0)) a1=Q0 k a1:=funext fun z=>oK k a1 z;refine (av _ _ _ (T0 a1) (fun self v=>b0 self (co (ag 0 (ay (D.N k [1,1,1]) D.K0)) a1) a1 v) (fun rec v=>li k rec (ag 0 (ay (D.N k [1,1,1]) D.K0)) a1 v) k bb).trans ?_;rw[h0];rfl
noncomputable def p (l0:(Int)->Y) (a1:Arg):Y:=(fy.aa (a1.1,())).bind fun r2=>bif !decide (r2.1=(0:Int)) then (some ((r2.1,([]:List Row),()),())) else l0 (0:Int)
theorem ae (k:Nat) (a1:Arg):@Eq Y (D.W k a1) (p (r0 k a1) a1):=
 aX (b:=p (s0 k a1) a1) (by kernel_rfl) (by rw[ax])
theorem ok:Ok prog 177 D.sig:=aw func177 a7 (by kernel_rfl) (fc fy.ok (fc qf.ok (fc fe.ok (ak _))))
end cy
namespace mc
abbrev Arg:Type:=(List Row)×(List Row)×Unit
abbrev Out:Type:=Bool×Unit
abbrev Y:=Option Out
noncomputable def D:FD:={ fn:=f179,tl:=be,ps:=[(.ro,(.U au)),(.ro,(.U au))],rs:=[(.bool,(az .bool))],lv:=[(4,[0,1,5])],lx:=[(0,[])],od:=[(6,[0,1,2,3,4,5,6,7,8])] }
noncomputable def aa (a:Arg):Y:=@lift Out fun k=>D.W k a
noncomputable def T0 (a1:Arg) (J:Int):St:={ n:=26,sl:=[(0,.val (.U au) a1.1),(1,.val (.U au) a1.2.1),(5,.val i64 J)],vr:=[],aT:=[] }
noncomputable def b0 (self:Int->Y) (e0:(Unit)->Y) (a1:Arg) (J:Int):Y:=bif decide (J < (a1.1.length:Int)) then (if 0<=J then ((a1.1[J.toNat]?).bind fun a_=>if 0<=J then ((a1.2.1[J.toNat]?).bind fun en=>bif !(Ty.eq au a_ en) then (some (false,())) else self (af (J+(1:Int)))) else none) else none) else e0 ()
noncomputable def q0 (a1:Arg) (dz:(Unit)):Y:=some (true,())
noncomputable def s0 (k:Nat) (a1:Arg):(Int)->Y:=fun J=>D.L k [1,1,0,1,0,0] [0,1,5] [] (ag 0 (ay (D.N k [1,1,1]) D.K0)) (T0 a1 J)
noncomputable def r0 (k:Nat) (a1:Arg):(Int)->Y:=aq (fun w v=>b0 w (q0 a1) a1 v) k
theorem ax (k:Nat) (a1:Arg):s0 k a1=r0 k a1:=
 funext fun J=>av _ _ _ (T0 a1) _ (fun rec v=>by kernel_rfl) k J
noncomputable def p (l0:(Int)->Y) (a1:Arg):Y:=bif !decide ((a1.1.length:Int)=(a1.2.1.length:Int)) then (some (false,())) else l0 (0:Int)
theorem ae (k:Nat) (a1:Arg):@Eq Y (D.W k a1) (p (r0 k a1) a1):=
 aX (b:=p (s0 k a1) a1) (by kernel_rfl) (by rw[ax])
theorem ok:Ok prog 179 D.sig:=aw func179 a7 (by kernel_rfl) (ak _)
end mc
namespace pi
abbrev Arg:Type:=kT×Plain×Unit
abbrev Out:Type:=Bool×Unit
noncomputable def D:FD:={ fn:=f82,tl:=be,ps:=[(.ro,gq),(.ro,jZ)],rs:=[(.bool,(az .bool))],gl:=[(77,qQ.D.sig),(104,mH.D.sig),(170,nv.D.sig),(177,cy.D.sig),(178,j0.D.sig),(179,mc.D.sig)] }
noncomputable def aa (a:Arg):Option Out:=@lift Out fun k=>D.W k a
noncomputable def p (a1:Arg):Option Out:=(nv.aa (a1.1,())).bind fun r2=>bif !decide (r2.1=(0:Int)) then (some (false,())) else (mH.aa (a1.2.1,())).bind fun r3=>bif !decide (r3.1=(0:Int)) then (some (false,())) else (qQ.aa (a1.1,())).bind fun r4=>(cy.aa (([]:List Row),r4.1.2.1,())).bind fun r5=>(j0.aa (a1.2.1.1,a1.2.1.2.1,())).bind fun r6=>bif decide (r5.1.1=(0:Int)) then ((mc.aa (r5.1.2.1,r6.1,())).bind fun r7=>some (r7.1,())) else some (false,())
theorem ae (k:Nat) (a1:Arg):@Eq (Option Out) (D.W k a1) (p a1):=by kernel_rfl
theorem ok:Ok prog 82 D.sig:=aw func82 a7 (by kernel_rfl) (fc qQ.ok (fc mH.ok (fc nv.ok (fc cy.ok (fc j0.ok (fc mc.ok (ak _)))))))
end pi
namespace oz
abbrev Arg:Type:=lg×Unit
abbrev Out:Type:=Int×Unit
noncomputable def D:FD:={ fn:=f296,tl:=be,ps:=[(.ro,nI)],rs:=[(i64,(az i64))],gl:=[(214,fb.D.sig),(271,nJ.D.sig),(272,d8.D.sig)] }
noncomputable def aa (a:Arg):Option Out:=@lift Out fun k=>D.W k a
noncomputable def p (a1:Arg):Option Out:=(fb.aa (a1.1.1,(0:Int),(16000:Int),())).bind fun r2=>bif !r2.1 then (some ((3:Int),())) else (nJ.aa (a1.1.2.1,())).bind fun r3=>bif !r3.1 then (some ((3:Int),())) else (d8.aa (a1.1.2.2.1,())).bind fun r4=>some (r4.1,())
theorem ae (k:Nat) (a1:Arg):@Eq (Option Out) (D.W k a1) (p a1):=by kernel_rfl
theorem ok:Ok prog 296 D.sig:=aw func296 a7 (by kernel_rfl) (fc fb.ok (fc nJ.ok (fc d8.ok (ak _))))
end oz
namespace cz
abbrev Arg:Type:=(List Row)×(List lg)×Unit
abbrev Out:Type:=dv×Unit
abbrev Y:=Option Out
noncomputable def D:FD:={ fn:=f180,tl:=be,ps:=[(.ro,(.U au)),(.ro,(.U nI))],rs:=[(dg,(am dg))],gl:=[(207,d6.D.sig),(243,gt.D.sig),(245,dO.D.sig),(296,oz.D.sig)],lv:=[(5,[0,1,4,18,19,20]),(13,[4,9,34,35,36])],lx:=[(0,[0,1,4]),(2,[4,9])] }
noncomputable def aa (a:Arg):Y:=@lift Out fun k=>D.W k a
noncomputable def T0 (a1:Arg) (bb:Int):St:={ n:=51,sl:=[(0,.val (.U au) a1.1),(1,.val (.U nI) a1.2.1),(4,.box dg (am dg) [] ((0:Int),([]:List Row),())),(18,.val (.U nI) a1.2.1),(19,.val i64 (a1.2.1.length:Int)),(20,.val i64 bb)],vr:=[],aT:=[] }
noncomputable def S0 (rec:RT Out) (a1:Arg):(Int)->Y:=fun bb=>rec (T0 a1 bb)
noncomputable def co (K:KT Out) (a1:Arg):(Unit)->Y:=fun z=>K (.exit 0) ({ n:=51,sl:=[(0,.val (.U au) a1.1),(1,.val (.U nI) a1.2.1),(4,.box dg (am dg) [] ((0:Int),([]:List Row),()))],vr:=[],aT:=[] })
noncomputable def b0 (self:Int->Y) (e0:(Unit)->Y) (a1:Arg) (bb:Int):Y:=bif decide (bb < (a1.2.1.length:Int)) then (if 0<=bb then ((a1.2.1[bb.toNat]?).bind fun en=>(oz.aa (en,())).bind fun ja=>bif !decide (ja.1=(0:Int)) then (some ((ja.1,([]:List Row),()),())) else self (af (bb+(1:Int)))) else none) else e0 ()
theorem li (k:Nat) (rec:RT Out) (K:KT Out) (a1:Arg) (bb:Int):D.N k [1,1,0,1,0,0] (T0 a1 bb) (ic rec (ey [0,1,4,18,19,20] []) K)=b0 (S0 rec a1) (co K a1) a1 bb:=by kernel_rfl
noncomputable def T1 (a1:Arg) (ci:dv×Int):St:={ n:=51,sl:=[(4,.box dg (am dg) [] ((0:Int),([]:List Row),())),(9,.box dg (am dg) [] ci.1),(34,.val (.U nI) a1.2.1),(35,.val i64 (a1.2.1.length:Int)),(36,.val i64 ci.2)],vr:=[],aT:=[] }
noncomputable def b1 (self:(dv×Int)->Y) (e2:dv->Y) (a1:Arg) (ci:dv×Int):Y:=bif decide (ci.2 < (a1.2.1.length:Int)) then (if 0<=ci.2 then ((a1.2.1[ci.2.toNat]?).bind fun Ab=>(dO.aa (ci.1.2.1,Ab.2.2.1,())).bind fun uJ=>bif !decide (uJ.1.1=(0:Int)) then (some (uJ.1,())) else self (uJ.1,af (ci.2+(1:Int)))) else none) else e2 ci.1
noncomputable def q1 (a1:Arg) (yu:dv):Y:=some (yu,())
noncomputable def s1 (k:Nat) (a1:Arg):(dv×Int)->Y:=fun ci=>D.L k [1,1,1,1,0,1,0,0] [4,9,34,35,36] [] (ag 2 (ay (D.N k [1,1,1,1,1]) D.K0)) (T1 a1 ci)
noncomputable def r1 (k:Nat) (a1:Arg):(dv×Int)->Y:=aq (fun w v=>b1 w (q1 a1) a1 v) k
theorem lj (k:Nat) (a1:Arg):s1 k a1=r1 k a1:=
 funext fun ci=>av _ _ _ (T1 a1) _ (fun rec v=>by kernel_rfl) k ci
noncomputable def q0 (l1:(dv×Int)->Y) (a1:Arg) (lA:(Unit)):Y:=(gt.aa (a1.1,())).bind fun lO=>l1 (((0:Int),lO.1,()),(0:Int))
noncomputable def Q0 (k:Nat) (a1:Arg) (lA:(Unit)):Y:=q0 (r1 k a1) a1 lA
theorem oK (k:Nat) (a1:Arg) (lA:(Unit)):co (ag 0 (ay (D.N k [1,1,1]) D.K0)) a1 lA=Q0 k a1 lA:=
 aX (b:=q0 (s1 k a1) a1 lA) (by kernel_rfl) (by rw[lj];rfl)
noncomputable def s0 (k:Nat) (a1:Arg):(Int)->Y:=fun bb=>D.L k [1,1,0,1,0,0] [0,1,4,18,19,20] [] (ag 0 (ay (D.N k [1,1,1]) D.K0)) (T0 a1 bb)
noncomputable def r0 (k:Nat) (a1:Arg):(Int)->Y:=aq (fun w v=>b0 w (Q0 k a1) a1 v) k
theorem ax (k:Nat) (a1:Arg):s0 k a1=r0 k a1:=by
 funext bb;have h0:co (ag 0 (ay (D.N k [1,1,1]) D.K0)) a1=Q0 k a1:=funext fun z=>oK k a1 z;refine (av _ _ _ (T0 a1) (fun self v=>b0 self (co (ag 0 (ay (D.N k [1,1,1]) D.K0)) a1) a1 v) (fun rec v=>li k rec (ag 0 (ay (D.N k [1,1,1]) D.K0)) a1 v) k bb).trans ?_;rw[h0];rfl
noncomputable def p (l0:(Int)->Y) (a1:Arg):Y:=(d6.aa (a1.1,())).bind fun r2=>bif !decide (r2.1=(0:Int)) then (some ((r2.1,([]:List Row),()),())) else l0 (0:Int)
theorem ae (k:Nat) (a1:Arg):@Eq Y (D.W k a1) (p (r0 k a1) a1):=
 aX (b:=p (s0 k a1) a1) (by kernel_rfl) (by rw[ax])
theorem ok:Ok prog 180 D.sig:=aw func180 a7 (by kernel_rfl) (fc d6.ok (fc gt.ok (fc dO.ok (fc oz.ok (ak _)))))
end cz
namespace iy
abbrev Arg:Type:=(List Row)×(List Row)×Unit
abbrev Out:Type:=Bool×Unit
abbrev Y:=Option Out
noncomputable def D:FD:={ fn:=f182,tl:=be,ps:=[(.ro,(.U au)),(.ro,(.U au))],rs:=[(.bool,(az .bool))],lv:=[(4,[0,1,12,13])],lx:=[(0,[])],od:=[(6,[0,1,2,3,4,5,6,7,8])] }
noncomputable def aa (a:Arg):Y:=@lift Out fun k=>D.W k a
noncomputable def T0 (a1:Arg) (J:Int):St:={ n:=26,sl:=[(0,.val (.U au) a1.1),(1,.val (.U au) a1.2.1),(12,.val i64 (a1.1.length:Int)),(13,.val i64 J)],vr:=[],aT:=[] }
noncomputable def b0 (self:Int->Y) (e0:(Unit)->Y) (a1:Arg) (J:Int):Y:=bif decide (J < (a1.1.length:Int)) then (if 0<=J then ((a1.1[J.toNat]?).bind fun a_=>if 0<=J then ((a1.2.1[J.toNat]?).bind fun en=>bif !(Ty.eq au a_ en) then (some (false,())) else self (af (J+(1:Int)))) else none) else none) else e0 ()
noncomputable def q0 (a1:Arg) (dz:(Unit)):Y:=some (true,())
noncomputable def s0 (k:Nat) (a1:Arg):(Int)->Y:=fun J=>D.L k [1,1,0,1,0,0] [0,1,12,13] [] (ag 0 (ay (D.N k [1,1,1]) D.K0)) (T0 a1 J)
noncomputable def r0 (k:Nat) (a1:Arg):(Int)->Y:=aq (fun w v=>b0 w (q0 a1) a1 v) k
theorem ax (k:Nat) (a1:Arg):s0 k a1=r0 k a1:=
 funext fun J=>av _ _ _ (T0 a1) _ (fun rec v=>by kernel_rfl) k J
noncomputable def p (l0:(Int)->Y) (a1:Arg):Y:=bif !decide ((a1.1.length:Int)=(a1.2.1.length:Int)) then (some (false,())) else l0 (0:Int)
theorem ae (k:Nat) (a1:Arg):@Eq Y (D.W k a1) (p (r0 k a1) a1):=
 aX (b:=p (s0 k a1) a1) (by kernel_rfl) (by rw[ax])
theorem ok:Ok prog 182 D.sig:=aw func182 a7 (by kernel_rfl) (ak _)
end iy
namespace pj
abbrev Arg:Type:=kT×Plain×Unit
abbrev Out:Type:=Bool×Unit
noncomputable def D:FD:={ fn:=f83,tl:=be,ps:=[(.ro,gq),(.ro,jZ)],rs:=[(.bool,(az .bool))],gl:=[(98,lk.D.sig),(173,oU.D.sig),(174,nN.D.sig),(180,cz.D.sig),(181,fj.D.sig),(182,iy.D.sig)] }
noncomputable def aa (a:Arg):Option Out:=@lift Out fun k=>D.W k a
noncomputable def p (a1:Arg):Option Out:=(oU.aa (a1.1,())).bind fun r2=>bif !decide (r2.1=(0:Int)) then (some (false,())) else (lk.aa (a1.2.1,())).bind fun r3=>bif !decide (r3.1=(0:Int)) then (some (false,())) else (nN.aa (a1.1,())).bind fun r4=>(cz.aa (([]:List Row),r4.1,())).bind fun r5=>(fj.aa (a1.2.1.1,a1.2.1.2.1,())).bind fun r6=>bif decide (r5.1.1=(0:Int)) then ((iy.aa (r5.1.2.1,r6.1,())).bind fun r7=>some (r7.1,())) else some (false,())
theorem ae (k:Nat) (a1:Arg):@Eq (Option Out) (D.W k a1) (p a1):=by kernel_rfl
theorem ok:Ok prog 83 D.sig:=aw func83 a7 (by kernel_rfl) (fc lk.ok (fc oU.ok (fc nN.ok (fc cz.ok (fc fj.ok (fc iy.ok (ak _)))))))
end pj
namespace e_
abbrev Arg:Type:=kT×Plain×Unit
abbrev Out:Type:=Bool×Unit
abbrev ps:PQ:=[(.ro,gq),(.ro,jZ)]
noncomputable def D:FD:={ fn:=f11,tl:=be,ps:=ps,rs:=[(.bool,(az .bool))],gl:=[(15,pX.D.sig),(18,nR.D.sig),(22,pZ.D.sig),(76,qb.D.sig),(78,nT.D.sig),(80,qe.D.sig),(82,pi.D.sig),(83,pj.D.sig)],od:=[(8,[0,2,1,3,4,5]),(14,[0,1,2,3,4]),(16,[0,1,2,3,4])] }
noncomputable def aa (a:Arg):Option Out:=@lift Out fun k=>D.W k a
noncomputable def p (a1:Arg):Option Out:=(qb.aa (a1.1,(1048576:Int),())).bind fun r2=>bif decide (r2.1 < (0:Int)) then (some (true,())) else (pX.aa (a1.2.1,r2.1,())).bind fun r3=>bif decide (r3.1 < (0:Int)) then (some (true,())) else (nT.aa (a1.1,())).bind fun r4=>(nR.aa (a1.2.1,())).bind fun r5=>(pi.aa (r4.1,r5.1,())).bind fun r6=>(nT.aa (a1.1,())).bind fun r7=>(nR.aa (a1.2.1,())).bind fun r8=>(pj.aa (r7.1,r8.1,())).bind fun r9=>bif !(r9.1 == r6.1) then (some (false,())) else (nT.aa (a1.1,())).bind fun Dw=>(qe.aa (r7.1,Dw.1,())).bind fun IT=>bif !IT.1 then (some (false,())) else (nR.aa (a1.2.1,())).bind fun CG=>(pZ.aa (r8.1,CG.1,())).bind fun Ye=>bif !Ye.1 then (some (false,())) else some (true,())
theorem ae (k:Nat) (a1:Arg):@Eq (Option Out) (D.W k a1) (p a1):=by kernel_rfl
theorem ok:Ok prog 11 D.sig:=aw func11 a7 (by kernel_rfl) (fc pX.ok (fc nR.ok (fc pZ.ok (fc qb.ok (fc nT.ok (fc qe.ok (fc pi.ok (fc pj.ok (ak _)))))))))
end e_
end OT
