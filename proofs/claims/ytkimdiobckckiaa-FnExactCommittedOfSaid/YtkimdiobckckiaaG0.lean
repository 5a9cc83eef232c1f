/- Printed by gen.py, a program of this claim: what each Go function computes. -/
import Derived.Test.YtkimdiobckckiaaGa
set_option maxRecDepth 100000
set_option linter.unusedVariables false
namespace OT
open Go
namespace impl_RowsFault
/-! loop example g00408 impl RowsFault -/
abbrev Arg : Type := (List Row) × Unit
abbrev Out : Type := Int × Unit
noncomputable def ps : List (PM × Ty) := [(.ro, (.slc tRow))]
noncomputable def rs : List (Ty × Md) := [(i64, (roMd i64))]
noncomputable def E : Env := { TI := lookN [(28, (.slc tRow)), (48, tRow)], G := lookN [(90, impl_RowFault.sig), (91, impl_IsBefore.sig)], fz := [], lv := [(4, [0, 9, 10, 11])], lx := [(0, [])], lf := [], od := [(9, [0, 1, 2, 3, 4, 5, 6, 7, 8, 9, 10, 11])] }
noncomputable def sem (a : Arg) : Option Out := lift fun k => bodyK E k Go.Proofs.Try.f45 ps rs [] [] a
noncomputable def sig : Sig := { ps := ps, rs := rs, F := fun a => sem a }
noncomputable def C : Code := bodyOf Go.Proofs.Try.f45
noncomputable def fin : St → Option Out := outK ps rs [] (Func.results Go.Proofs.Try.f45).toList (mvs [])
noncomputable def K0 : Ex → St → Option Out := endK fin
noncomputable def S0 (rec : St → Option Out) (a1 : Arg) : (Int) → Option Out := fun v402 => rec ({ n := 34, sl := [(0, .val (.slc tRow) a1.1), (9, .val (.slc tRow) a1.1), (10, .val i64 (a1.1.length : Int)), (11, .val i64 v402)], vr := [], lent := [] })
noncomputable def X0_0 (K : Ex → St → Option Out) (a1 : Arg) : (Unit) → Option Out := fun z => K (.exit 0) ({ n := 34, sl := [], vr := [], lent := [] })
noncomputable def b0 (self : Int → Option Out) (e0 : (Unit) → Option Out) (a1 : Arg) (v402 : Int) : Option Out := bif decide (v402 < (a1.1.length : Int)) then (if 0 ≤ v402 then ((a1.1[v402.toNat]?).bind fun x603 => (impl_RowFault.sem (x603, ())).bind fun r604 => bif !decide (r604.1 = (0 : Int)) then (some (r604.1, ())) else bif decide ((0 : Int) < v402) then (if 0 ≤ w64 (v402 - (1 : Int)) then ((a1.1[(w64 (v402 - (1 : Int))).toNat]?).bind fun x605 => (impl_IsBefore.sem (x605, x603, ())).bind fun r606 => bif !r606.1 then (some ((1 : Int), ())) else self (w64 (v402 + (1 : Int)))) else none) else self (w64 (v402 + (1 : Int)))) else none) else e0 ()
noncomputable def B0 (k : Nat) (self : Int → Option Out) (e0 : (Unit) → Option Out) (a1 : Arg) (v402 : Int) : Option Out := b0 self e0 a1 v402
theorem b0_eq (k : Nat) (rec : St → Option Out) (K : Ex → St → Option Out) (a1 : Arg) (v402 : Int) : codeK E k fin (sub [1, 1, 0, 1, 0, 0] C) ({ n := 34, sl := [(0, .val (.slc tRow) a1.1), (9, .val (.slc tRow) a1.1), (10, .val i64 (a1.1.length : Int)), (11, .val i64 v402)], vr := [], lent := [] }) (loopC rec (keepF [0, 9, 10, 11] []) K) = b0 (S0 rec a1) (X0_0 K a1) a1 v402 := by kernel_rfl
theorem B0_eq (k : Nat) (rec : St → Option Out) (K : Ex → St → Option Out) (a1 : Arg) (v402 : Int) : codeK E k fin (sub [1, 1, 0, 1, 0, 0] C) ({ n := 34, sl := [(0, .val (.slc tRow) a1.1), (9, .val (.slc tRow) a1.1), (10, .val i64 (a1.1.length : Int)), (11, .val i64 v402)], vr := [], lent := [] }) (loopC rec (keepF [0, 9, 10, 11] []) K) = B0 k (S0 rec a1) (X0_0 K a1) a1 v402 := (b0_eq k rec K a1 v402).trans (by rfl)
noncomputable def l0 (k : Nat) (a1 : Arg) (e0 : (Unit) → Option Out) (v : Int) : Option Out := rawIter (fun self v => B0 k self e0 a1 v) k v
theorem l0_eq (k : Nat) (K : Ex → St → Option Out) (a1 : Arg) (v402 : Int) : iterK (codeK E k fin (sub [1, 1, 0, 1, 0, 0] C)) (keepF [0, 9, 10, 11] []) K k ({ n := 34, sl := [(0, .val (.slc tRow) a1.1), (9, .val (.slc tRow) a1.1), (10, .val i64 (a1.1.length : Int)), (11, .val i64 v402)], vr := [], lent := [] }) = l0 k a1 (X0_0 K a1) v402 :=
  iter_raw _ _ K (fun v402 => ({ n := 34, sl := [(0, .val (.slc tRow) a1.1), (9, .val (.slc tRow) a1.1), (10, .val i64 (a1.1.length : Int)), (11, .val i64 v402)], vr := [], lent := [] } : St)) (fun self v => B0 k self (X0_0 K a1) a1 v) (fun rec v => B0_eq k rec K a1 v) k v402
noncomputable def q0 (a1 : Arg) (z607 : (Unit)) : Option Out := some ((0 : Int), ())
noncomputable def Q0 (k : Nat) (a1 : Arg) (z607 : (Unit)) : Option Out := q0 a1 z607
theorem q0_eq (k : Nat) (a1 : Arg) (z607 : (Unit)) : (blockC 0 (seqC (codeK E k fin (sub [1, 1, 1] C)) K0)) (.exit 0) ({ n := 34, sl := [], vr := [], lent := [] }) = q0 a1 z607 := by kernel_rfl
theorem Q0_eq (k : Nat) (a1 : Arg) (z607 : (Unit)) : (blockC 0 (seqC (codeK E k fin (sub [1, 1, 1] C)) K0)) (.exit 0) ({ n := 34, sl := [], vr := [], lent := [] }) = Q0 k a1 z607 := (q0_eq k a1 z607).trans (by rfl)
noncomputable def s0 (k : Nat) (a1 : Arg) : (Int) → Option Out := fun v402 => iterK (codeK E k fin (sub [1, 1, 0, 1, 0, 0] C)) (keepF [0, 9, 10, 11] []) (blockC 0 (seqC (codeK E k fin (sub [1, 1, 1] C)) K0)) k ({ n := 34, sl := [(0, .val (.slc tRow) a1.1), (9, .val (.slc tRow) a1.1), (10, .val i64 (a1.1.length : Int)), (11, .val i64 v402)], vr := [], lent := [] })
noncomputable def r0 (k : Nat) (a1 : Arg) : (Int) → Option Out := fun v402 => l0 k a1 (fun z => Q0 k a1 z) v402
theorem s0_eq (k : Nat) (a1 : Arg) : s0 k a1 = r0 k a1 := by
  funext v402;
  have h0 : X0_0 ((blockC 0 (seqC (codeK E k fin (sub [1, 1, 1] C)) K0))) a1 = fun z => Q0 k a1 z := funext fun z => Q0_eq k a1 z
  refine (l0_eq k ((blockC 0 (seqC (codeK E k fin (sub [1, 1, 1] C)) K0))) a1 v402).trans ?_
  rw [h0]
  rfl
noncomputable def p (l0 : (Int) → Option Out) (a1 : Arg) : Option Out := bif decide ((60 : Int) < (a1.1.length : Int)) then (some ((2 : Int), ())) else l0 (0 : Int)
noncomputable def raw (k : Nat) (a1 : Arg) : Option Out := p (r0 k a1) a1
theorem p_eq (k : Nat) (a1 : Arg) : bodyK E k Go.Proofs.Try.f45 ps rs [] [] a1 = p (s0 k a1) a1 := by kernel_rfl
theorem raw_eq (k : Nat) (a1 : Arg) : bodyK E k Go.Proofs.Try.f45 ps rs [] [] a1 = raw k a1 := (p_eq k a1).trans (by rw [s0_eq]; rfl)
theorem ent : EnterOk Go.Proofs.Try.prog 45 sig.cap := ⟨Go.Proofs.Try.f45, Go.Proofs.Try.func45, by kernel_rfl, by kernel_rfl, by kernel_rfl⟩
theorem env : EnvOk Go.Proofs.Try.prog E := env_ok (tl := [(28, (.slc tRow)), (48, tRow)]) (gl := [(90, impl_RowFault.sig), (91, impl_IsBefore.sig)]) rfl rfl (by kernel_rfl) (by kernel_rfl) (fn_cons impl_RowFault.snd impl_RowFault.ent (fn_cons impl_IsBefore.snd impl_IsBefore.ent (fn_nil _)))
theorem chk : funOk Go.Proofs.Try.prog E Go.Proofs.Try.f45 ps rs [] = true := by kernel_rfl
theorem snd : Sound Go.Proofs.Try.prog 45 sig := sound_of_body env Go.Proofs.Try.func45 rfl (es := []) (fr := []) chk (fun _ _ h => lift_some h)
end impl_RowsFault
namespace impl_isTx
/-! loop example g00408 impl isTx -/
abbrev Arg : Type := Int × Unit
abbrev Out : Type := Bool × Unit
noncomputable def ps : List (PM × Ty) := [(.ro, i64)]
noncomputable def rs : List (Ty × Md) := [(.bool, (roMd .bool))]
noncomputable def E : Env := { TI := lookN [], G := lookN [(47, impl_in.sig)], fz := [], lv := [], lx := [], lf := [], od := [] }
noncomputable def sem (a : Arg) : Option Out := lift fun k => bodyK E k Go.Proofs.Try.f92 ps rs [] [] a
noncomputable def sig : Sig := { ps := ps, rs := rs, F := fun a => sem a }
noncomputable def C : Code := bodyOf Go.Proofs.Try.f92
noncomputable def fin : St → Option Out := outK ps rs [] (Func.results Go.Proofs.Try.f92).toList (mvs [])
noncomputable def K0 : Ex → St → Option Out := endK fin
noncomputable def p (a1 : Arg) : Option Out := (impl_in.sem (a1.1, (1 : Int), (99 : Int), ())).bind fun r2 => some (r2.1, ())
noncomputable def raw (k : Nat) (a1 : Arg) : Option Out := p a1
theorem p_eq (k : Nat) (a1 : Arg) : bodyK E k Go.Proofs.Try.f92 ps rs [] [] a1 = p a1 := by kernel_rfl
theorem raw_eq (k : Nat) (a1 : Arg) : bodyK E k Go.Proofs.Try.f92 ps rs [] [] a1 = raw k a1 := (p_eq k a1).trans (by rfl)
theorem ent : EnterOk Go.Proofs.Try.prog 92 sig.cap := ⟨Go.Proofs.Try.f92, Go.Proofs.Try.func92, by kernel_rfl, by kernel_rfl, by kernel_rfl⟩
theorem env : EnvOk Go.Proofs.Try.prog E := env_ok (tl := []) (gl := [(47, impl_in.sig)]) rfl rfl (by kernel_rfl) (by kernel_rfl) (fn_cons impl_in.snd impl_in.ent (fn_nil _))
theorem chk : funOk Go.Proofs.Try.prog E Go.Proofs.Try.f92 ps rs [] = true := by kernel_rfl
theorem snd : Sound Go.Proofs.Try.prog 92 sig := sound_of_body env Go.Proofs.Try.func92 rfl (es := []) (fr := []) chk (fun _ _ h => lift_some h)
end impl_isTx
namespace impl_order
/-! loop example g00408 impl order -/
abbrev Arg : Type := Row × Row × Unit
abbrev Out : Type := Int × Unit
noncomputable def ps : List (PM × Ty) := [(.ro, tRow), (.ro, tRow)]
noncomputable def rs : List (Ty × Md) := [(i64, (roMd i64))]
noncomputable def E : Env := { TI := lookN [(48, tRow)], G := lookN [(91, impl_IsBefore.sig)], fz := [], lv := [], lx := [], lf := [], od := [] }
noncomputable def sem (a : Arg) : Option Out := lift fun k => bodyK E k Go.Proofs.Try.f123 ps rs [] [] a
noncomputable def sig : Sig := { ps := ps, rs := rs, F := fun a => sem a }
noncomputable def C : Code := bodyOf Go.Proofs.Try.f123
noncomputable def fin : St → Option Out := outK ps rs [] (Func.results Go.Proofs.Try.f123).toList (mvs [])
noncomputable def K0 : Ex → St → Option Out := endK fin
noncomputable def p (a1 : Arg) : Option Out := (impl_IsBefore.sem (a1.1, a1.2.1, ())).bind fun r2 => bif r2.1 then (some ((-1 : Int), ())) else (impl_IsBefore.sem (a1.2.1, a1.1, ())).bind fun r3 => bif r3.1 then (some ((1 : Int), ())) else some ((0 : Int), ())
noncomputable def raw (k : Nat) (a1 : Arg) : Option Out := p a1
theorem p_eq (k : Nat) (a1 : Arg) : bodyK E k Go.Proofs.Try.f123 ps rs [] [] a1 = p a1 := by kernel_rfl
theorem raw_eq (k : Nat) (a1 : Arg) : bodyK E k Go.Proofs.Try.f123 ps rs [] [] a1 = raw k a1 := (p_eq k a1).trans (by rfl)
theorem ent : EnterOk Go.Proofs.Try.prog 123 sig.cap := ⟨Go.Proofs.Try.f123, Go.Proofs.Try.func123, by kernel_rfl, by kernel_rfl, by kernel_rfl⟩
theorem env : EnvOk Go.Proofs.Try.prog E := env_ok (tl := [(48, tRow)]) (gl := [(91, impl_IsBefore.sig)]) rfl rfl (by kernel_rfl) (by kernel_rfl) (fn_cons impl_IsBefore.snd impl_IsBefore.ent (fn_nil _))
theorem chk : funOk Go.Proofs.Try.prog E Go.Proofs.Try.f123 ps rs [] = true := by kernel_rfl
theorem snd : Sound Go.Proofs.Try.prog 123 sig := sound_of_body env Go.Proofs.Try.func123 rfl (es := []) (fr := []) chk (fun _ _ h => lift_some h)
end impl_order
namespace impl_changeFault
/-! loop example g00408 impl changeFault -/
abbrev Arg : Type := Change × Unit
abbrev Out : Type := Int × Unit
noncomputable def ps : List (PM × Ty) := [(.ro, tChange)]
noncomputable def rs : List (Ty × Md) := [(i64, (roMd i64))]
noncomputable def E : Env := { TI := lookN [(4, .bool), (48, tRow), (50, tChange)], G := lookN [(90, impl_RowFault.sig), (123, impl_order.sig)], fz := [], lv := [], lx := [], lf := [], od := [] }
noncomputable def sem (a : Arg) : Option Out := lift fun k => bodyK E k Go.Proofs.Try.f147 ps rs [] [] a
noncomputable def sig : Sig := { ps := ps, rs := rs, F := fun a => sem a }
noncomputable def C : Code := bodyOf Go.Proofs.Try.f147
noncomputable def fin : St → Option Out := outK ps rs [] (Func.results Go.Proofs.Try.f147).toList (mvs [])
noncomputable def K0 : Ex → St → Option Out := endK fin
noncomputable def p (a1 : Arg) : Option Out := let j7 : Option Out := bif a1.1.1 then ((impl_RowFault.sem (a1.1.2.1, ())).bind fun r8 => bif !decide (r8.1 = (0 : Int)) then (some (r8.1, ())) else bif a1.1.2.2.1 then ((impl_RowFault.sem (a1.1.2.2.2.1, ())).bind fun r10 => some (r10.1, ())) else some ((0 : Int), ())) else bif a1.1.2.2.1 then ((impl_RowFault.sem (a1.1.2.2.2.1, ())).bind fun r11 => some (r11.1, ())) else some ((0 : Int), ()); bif !a1.1.1 then (bif !a1.1.2.2.1 then (some ((1 : Int), ())) else bif a1.1.1 then (bif a1.1.2.2.1 then ((impl_order.sem (a1.1.2.1, a1.1.2.2.2.1, ())).bind fun r2 => bif !decide (r2.1 = (0 : Int)) then (some ((1 : Int), ())) else j7) else j7) else j7) else bif a1.1.1 then (bif a1.1.2.2.1 then ((impl_order.sem (a1.1.2.1, a1.1.2.2.2.1, ())).bind fun r3 => bif !decide (r3.1 = (0 : Int)) then (some ((1 : Int), ())) else j7) else j7) else j7
noncomputable def raw (k : Nat) (a1 : Arg) : Option Out := p a1
theorem p_eq (k : Nat) (a1 : Arg) : bodyK E k Go.Proofs.Try.f147 ps rs [] [] a1 = p a1 := by kernel_rfl
theorem raw_eq (k : Nat) (a1 : Arg) : bodyK E k Go.Proofs.Try.f147 ps rs [] [] a1 = raw k a1 := (p_eq k a1).trans (by rfl)
theorem ent : EnterOk Go.Proofs.Try.prog 147 sig.cap := ⟨Go.Proofs.Try.f147, Go.Proofs.Try.func147, by kernel_rfl, by kernel_rfl, by kernel_rfl⟩
theorem env : EnvOk Go.Proofs.Try.prog E := env_ok (tl := [(4, .bool), (48, tRow), (50, tChange)]) (gl := [(90, impl_RowFault.sig), (123, impl_order.sig)]) rfl rfl (by kernel_rfl) (by kernel_rfl) (fn_cons impl_RowFault.snd impl_RowFault.ent (fn_cons impl_order.snd impl_order.ent (fn_nil _)))
theorem chk : funOk Go.Proofs.Try.prog E Go.Proofs.Try.f147 ps rs [] = true := by kernel_rfl
theorem snd : Sound Go.Proofs.Try.prog 147 sig := sound_of_body env Go.Proofs.Try.func147 rfl (es := []) (fr := []) chk (fun _ _ h => lift_some h)
end impl_changeFault
namespace impl_singleFault
/-! loop example g00408 impl singleFault -/
abbrev Arg : Type := Change × Unit
abbrev Out : Type := Int × Unit
noncomputable def ps : List (PM × Ty) := [(.ro, tChange)]
noncomputable def rs : List (Ty × Md) := [(i64, (roMd i64))]
noncomputable def E : Env := { TI := lookN [(4, .bool), (48, tRow), (50, tChange)], G := lookN [(147, impl_changeFault.sig)], fz := [], lv := [], lx := [], lf := [], od := [] }
noncomputable def sem (a : Arg) : Option Out := lift fun k => bodyK E k Go.Proofs.Try.f143 ps rs [] [] a
noncomputable def sig : Sig := { ps := ps, rs := rs, F := fun a => sem a }
noncomputable def C : Code := bodyOf Go.Proofs.Try.f143
noncomputable def fin : St → Option Out := outK ps rs [] (Func.results Go.Proofs.Try.f143).toList (mvs [])
noncomputable def K0 : Ex → St → Option Out := endK fin
noncomputable def p (a1 : Arg) : Option Out := (impl_changeFault.sem (a1.1, ())).bind fun r2 => bif !decide (r2.1 = (0 : Int)) then (some (r2.1, ())) else bif a1.1.1 then (bif a1.1.2.2.1 then (bif (Ty.eq tRow a1.1.2.1 a1.1.2.2.2.1) then (some ((1 : Int), ())) else some ((0 : Int), ())) else some ((0 : Int), ())) else some ((0 : Int), ())
noncomputable def raw (k : Nat) (a1 : Arg) : Option Out := p a1
theorem p_eq (k : Nat) (a1 : Arg) : bodyK E k Go.Proofs.Try.f143 ps rs [] [] a1 = p a1 := by kernel_rfl
theorem raw_eq (k : Nat) (a1 : Arg) : bodyK E k Go.Proofs.Try.f143 ps rs [] [] a1 = raw k a1 := (p_eq k a1).trans (by rfl)
theorem ent : EnterOk Go.Proofs.Try.prog 143 sig.cap := ⟨Go.Proofs.Try.f143, Go.Proofs.Try.func143, by kernel_rfl, by kernel_rfl, by kernel_rfl⟩
theorem env : EnvOk Go.Proofs.Try.prog E := env_ok (tl := [(4, .bool), (48, tRow), (50, tChange)]) (gl := [(147, impl_changeFault.sig)]) rfl rfl (by kernel_rfl) (by kernel_rfl) (fn_cons impl_changeFault.snd impl_changeFault.ent (fn_nil _))
theorem chk : funOk Go.Proofs.Try.prog E Go.Proofs.Try.f143 ps rs [] = true := by kernel_rfl
theorem snd : Sound Go.Proofs.Try.prog 143 sig := sound_of_body env Go.Proofs.Try.func143 rfl (es := []) (fr := []) chk (fun _ _ h => lift_some h)
end impl_singleFault
namespace slices_Index
/-! slices Index   loop example g00408 impl Key loop example g00408 impl Key  -/
abbrev Arg : Type := (List Key) × Key × Unit
abbrev Out : Type := Int × Unit
noncomputable def ps : List (PM × Ty) := [(.ro, (.slc tKey)), (.ro, tKey)]
noncomputable def rs : List (Ty × Md) := [(i64, (roMd i64))]
noncomputable def E : Env := { TI := lookN [(97, (.slc tKey)), (146, tKey)], G := lookN [], fz := [], lv := [(2, [0, 3, 7, 8])], lx := [(0, [])], lf := [], od := [(4, [0, 1, 2, 3, 4, 5])] }
noncomputable def sem (a : Arg) : Option Out := lift fun k => bodyK E k Go.Proofs.Try.f189 ps rs [] [] a
noncomputable def sig : Sig := { ps := ps, rs := rs, F := fun a => sem a }
noncomputable def C : Code := bodyOf Go.Proofs.Try.f189
noncomputable def fin : St → Option Out := outK ps rs [] (Func.results Go.Proofs.Try.f189).toList (mvs [])
noncomputable def K0 : Ex → St → Option Out := endK fin
noncomputable def S0 (rec : St → Option Out) (a1 : Arg) : (Int) → Option Out := fun v402 => rec ({ n := 19, sl := [(0, .val (.slc tKey) a1.1), (3, .box tKey (roMd tKey) [] a1.2.1), (7, .val i64 (a1.1.length : Int)), (8, .val i64 v402)], vr := [], lent := [] })
noncomputable def X0_0 (K : Ex → St → Option Out) (a1 : Arg) : (Unit) → Option Out := fun z => K (.exit 0) ({ n := 19, sl := [], vr := [], lent := [] })
noncomputable def b0 (self : Int → Option Out) (e0 : (Unit) → Option Out) (a1 : Arg) (v402 : Int) : Option Out := bif decide (v402 < (a1.1.length : Int)) then (if 0 ≤ v402 then ((a1.1[v402.toNat]?).bind fun x603 => bif (Ty.eq tKey a1.2.1 x603) then (some (v402, ())) else self (w64 (v402 + (1 : Int)))) else none) else e0 ()
noncomputable def B0 (k : Nat) (self : Int → Option Out) (e0 : (Unit) → Option Out) (a1 : Arg) (v402 : Int) : Option Out := b0 self e0 a1 v402
theorem b0_eq (k : Nat) (rec : St → Option Out) (K : Ex → St → Option Out) (a1 : Arg) (v402 : Int) : codeK E k fin (sub [1, 0, 1, 0, 0] C) ({ n := 19, sl := [(0, .val (.slc tKey) a1.1), (3, .box tKey (roMd tKey) [] a1.2.1), (7, .val i64 (a1.1.length : Int)), (8, .val i64 v402)], vr := [], lent := [] }) (loopC rec (keepF [0, 3, 7, 8] []) K) = b0 (S0 rec a1) (X0_0 K a1) a1 v402 := by kernel_rfl
theorem B0_eq (k : Nat) (rec : St → Option Out) (K : Ex → St → Option Out) (a1 : Arg) (v402 : Int) : codeK E k fin (sub [1, 0, 1, 0, 0] C) ({ n := 19, sl := [(0, .val (.slc tKey) a1.1), (3, .box tKey (roMd tKey) [] a1.2.1), (7, .val i64 (a1.1.length : Int)), (8, .val i64 v402)], vr := [], lent := [] }) (loopC rec (keepF [0, 3, 7, 8] []) K) = B0 k (S0 rec a1) (X0_0 K a1) a1 v402 := (b0_eq k rec K a1 v402).trans (by rfl)
noncomputable def l0 (k : Nat) (a1 : Arg) (e0 : (Unit) → Option Out) (v : Int) : Option Out := rawIter (fun self v => B0 k self e0 a1 v) k v
theorem l0_eq (k : Nat) (K : Ex → St → Option Out) (a1 : Arg) (v402 : Int) : iterK (codeK E k fin (sub [1, 0, 1, 0, 0] C)) (keepF [0, 3, 7, 8] []) K k ({ n := 19, sl := [(0, .val (.slc tKey) a1.1), (3, .box tKey (roMd tKey) [] a1.2.1), (7, .val i64 (a1.1.length : Int)), (8, .val i64 v402)], vr := [], lent := [] }) = l0 k a1 (X0_0 K a1) v402 :=
  iter_raw _ _ K (fun v402 => ({ n := 19, sl := [(0, .val (.slc tKey) a1.1), (3, .box tKey (roMd tKey) [] a1.2.1), (7, .val i64 (a1.1.length : Int)), (8, .val i64 v402)], vr := [], lent := [] } : St)) (fun self v => B0 k self (X0_0 K a1) a1 v) (fun rec v => B0_eq k rec K a1 v) k v402
noncomputable def q0 (a1 : Arg) (z604 : (Unit)) : Option Out := some ((-1 : Int), ())
noncomputable def Q0 (k : Nat) (a1 : Arg) (z604 : (Unit)) : Option Out := q0 a1 z604
theorem q0_eq (k : Nat) (a1 : Arg) (z604 : (Unit)) : (blockC 0 (seqC (codeK E k fin (sub [1, 1] C)) K0)) (.exit 0) ({ n := 19, sl := [], vr := [], lent := [] }) = q0 a1 z604 := by kernel_rfl
theorem Q0_eq (k : Nat) (a1 : Arg) (z604 : (Unit)) : (blockC 0 (seqC (codeK E k fin (sub [1, 1] C)) K0)) (.exit 0) ({ n := 19, sl := [], vr := [], lent := [] }) = Q0 k a1 z604 := (q0_eq k a1 z604).trans (by rfl)
noncomputable def s0 (k : Nat) (a1 : Arg) : (Int) → Option Out := fun v402 => iterK (codeK E k fin (sub [1, 0, 1, 0, 0] C)) (keepF [0, 3, 7, 8] []) (blockC 0 (seqC (codeK E k fin (sub [1, 1] C)) K0)) k ({ n := 19, sl := [(0, .val (.slc tKey) a1.1), (3, .box tKey (roMd tKey) [] a1.2.1), (7, .val i64 (a1.1.length : Int)), (8, .val i64 v402)], vr := [], lent := [] })
noncomputable def r0 (k : Nat) (a1 : Arg) : (Int) → Option Out := fun v402 => l0 k a1 (fun z => Q0 k a1 z) v402
theorem s0_eq (k : Nat) (a1 : Arg) : s0 k a1 = r0 k a1 := by
  funext v402;
  have h0 : X0_0 ((blockC 0 (seqC (codeK E k fin (sub [1, 1] C)) K0))) a1 = fun z => Q0 k a1 z := funext fun z => Q0_eq k a1 z
  refine (l0_eq k ((blockC 0 (seqC (codeK E k fin (sub [1, 1] C)) K0))) a1 v402).trans ?_
  rw [h0]
  rfl
noncomputable def p (l0 : (Int) → Option Out) (a1 : Arg) : Option Out := l0 (0 : Int)
noncomputable def raw (k : Nat) (a1 : Arg) : Option Out := p (r0 k a1) a1
theorem p_eq (k : Nat) (a1 : Arg) : bodyK E k Go.Proofs.Try.f189 ps rs [] [] a1 = p (s0 k a1) a1 := by kernel_rfl
theorem raw_eq (k : Nat) (a1 : Arg) : bodyK E k Go.Proofs.Try.f189 ps rs [] [] a1 = raw k a1 := (p_eq k a1).trans (by rw [s0_eq]; rfl)
theorem ent : EnterOk Go.Proofs.Try.prog 189 sig.cap := ⟨Go.Proofs.Try.f189, Go.Proofs.Try.func189, by kernel_rfl, by kernel_rfl, by kernel_rfl⟩
theorem env : EnvOk Go.Proofs.Try.prog E := env_ok (tl := [(97, (.slc tKey)), (146, tKey)]) (gl := []) rfl rfl (by kernel_rfl) (by kernel_rfl) (fn_nil _)
theorem chk : funOk Go.Proofs.Try.prog E Go.Proofs.Try.f189 ps rs [] = true := by kernel_rfl
theorem snd : Sound Go.Proofs.Try.prog 189 sig := sound_of_body env Go.Proofs.Try.func189 rfl (es := []) (fr := []) chk (fun _ _ h => lift_some h)
end slices_Index
namespace slices_Contains
/-! slices Contains   loop example g00408 impl Key loop example g00408 impl Key  -/
abbrev Arg : Type := (List Key) × Key × Unit
abbrev Out : Type := Bool × Unit
noncomputable def ps : List (PM × Ty) := [(.ro, (.slc tKey)), (.ro, tKey)]
noncomputable def rs : List (Ty × Md) := [(.bool, (roMd .bool))]
noncomputable def E : Env := { TI := lookN [(146, tKey)], G := lookN [(189, slices_Index.sig)], fz := [], lv := [], lx := [], lf := [], od := [] }
noncomputable def sem (a : Arg) : Option Out := lift fun k => bodyK E k Go.Proofs.Try.f144 ps rs [] [] a
noncomputable def sig : Sig := { ps := ps, rs := rs, F := fun a => sem a }
noncomputable def C : Code := bodyOf Go.Proofs.Try.f144
noncomputable def fin : St → Option Out := outK ps rs [] (Func.results Go.Proofs.Try.f144).toList (mvs [])
noncomputable def K0 : Ex → St → Option Out := endK fin
noncomputable def p (a1 : Arg) : Option Out := (slices_Index.sem (a1.1, a1.2.1, ())).bind fun r2 => some (decide ((0 : Int) ≤ r2.1), ())
noncomputable def raw (k : Nat) (a1 : Arg) : Option Out := p a1
theorem p_eq (k : Nat) (a1 : Arg) : bodyK E k Go.Proofs.Try.f144 ps rs [] [] a1 = p a1 := by kernel_rfl
theorem raw_eq (k : Nat) (a1 : Arg) : bodyK E k Go.Proofs.Try.f144 ps rs [] [] a1 = raw k a1 := (p_eq k a1).trans (by rfl)
theorem ent : EnterOk Go.Proofs.Try.prog 144 sig.cap := ⟨Go.Proofs.Try.f144, Go.Proofs.Try.func144, by kernel_rfl, by kernel_rfl, by kernel_rfl⟩
theorem env : EnvOk Go.Proofs.Try.prog E := env_ok (tl := [(146, tKey)]) (gl := [(189, slices_Index.sig)]) rfl rfl (by kernel_rfl) (by kernel_rfl) (fn_cons slices_Index.snd slices_Index.ent (fn_nil _))
theorem chk : funOk Go.Proofs.Try.prog E Go.Proofs.Try.f144 ps rs [] = true := by kernel_rfl
theorem snd : Sound Go.Proofs.Try.prog 144 sig := sound_of_body env Go.Proofs.Try.func144 rfl (es := []) (fr := []) chk (fun _ _ h => lift_some h)
end slices_Contains
namespace impl_Change_key
/-!  loop example g00408 impl Change  key -/
abbrev Arg : Type := Change × Unit
abbrev Out : Type := Row × Unit
noncomputable def ps : List (PM × Ty) := [(.ro, tChange)]
noncomputable def rs : List (Ty × Md) := [(tRow, (roMd tRow))]
noncomputable def E : Env := { TI := lookN [(4, .bool), (48, tRow), (50, tChange)], G := lookN [], fz := [], lv := [], lx := [], lf := [], od := [] }
noncomputable def sem (a : Arg) : Option Out := lift fun k => bodyK E k Go.Proofs.Try.f164 ps rs [] [] a
noncomputable def sig : Sig := { ps := ps, rs := rs, F := fun a => sem a }
noncomputable def C : Code := bodyOf Go.Proofs.Try.f164
noncomputable def fin : St → Option Out := outK ps rs [] (Func.results Go.Proofs.Try.f164).toList (mvs [])
noncomputable def K0 : Ex → St → Option Out := endK fin
noncomputable def p (a1 : Arg) : Option Out := bif a1.1.2.2.1 then (some (a1.1.2.2.2.1, ())) else some (a1.1.2.1, ())
noncomputable def raw (k : Nat) (a1 : Arg) : Option Out := p a1
theorem p_eq (k : Nat) (a1 : Arg) : bodyK E k Go.Proofs.Try.f164 ps rs [] [] a1 = p a1 := by kernel_rfl
theorem raw_eq (k : Nat) (a1 : Arg) : bodyK E k Go.Proofs.Try.f164 ps rs [] [] a1 = raw k a1 := (p_eq k a1).trans (by rfl)
theorem ent : EnterOk Go.Proofs.Try.prog 164 sig.cap := ⟨Go.Proofs.Try.f164, Go.Proofs.Try.func164, by kernel_rfl, by kernel_rfl, by kernel_rfl⟩
theorem env : EnvOk Go.Proofs.Try.prog E := env_ok (tl := [(4, .bool), (48, tRow), (50, tChange)]) (gl := []) rfl rfl (by kernel_rfl) (by kernel_rfl) (fn_nil _)
theorem chk : funOk Go.Proofs.Try.prog E Go.Proofs.Try.f164 ps rs [] = true := by kernel_rfl
theorem snd : Sound Go.Proofs.Try.prog 164 sig := sound_of_body env Go.Proofs.Try.func164 rfl (es := []) (fr := []) chk (fun _ _ h => lift_some h)
end impl_Change_key
namespace impl_Change_lock
/-!  loop example g00408 impl Change  lock -/
abbrev Arg : Type := Change × Unit
abbrev Out : Type := Key × Unit
noncomputable def ps : List (PM × Ty) := [(.ro, tChange)]
noncomputable def rs : List (Ty × Md) := [(tKey, (roMd tKey))]
noncomputable def E : Env := { TI := lookN [(48, tRow), (50, tChange), (146, tKey)], G := lookN [(164, impl_Change_key.sig)], fz := [], lv := [], lx := [], lf := [], od := [(1, [0, 3, 1, 2, 4, 5, 6, 7])] }
noncomputable def sem (a : Arg) : Option Out := lift fun k => bodyK E k Go.Proofs.Try.f145 ps rs [] [] a
noncomputable def sig : Sig := { ps := ps, rs := rs, F := fun a => sem a }
noncomputable def C : Code := bodyOf Go.Proofs.Try.f145
noncomputable def fin : St → Option Out := outK ps rs [] (Func.results Go.Proofs.Try.f145).toList (mvs [])
noncomputable def K0 : Ex → St → Option Out := endK fin
noncomputable def p (a1 : Arg) : Option Out := (impl_Change_key.sem (a1.1, ())).bind fun r2 => (impl_Change_key.sem (a1.1, ())).bind fun r3 => some ((r2.1.1, r3.1.2.1, ()), ())
noncomputable def raw (k : Nat) (a1 : Arg) : Option Out := p a1
theorem p_eq (k : Nat) (a1 : Arg) : bodyK E k Go.Proofs.Try.f145 ps rs [] [] a1 = p a1 := by kernel_rfl
theorem raw_eq (k : Nat) (a1 : Arg) : bodyK E k Go.Proofs.Try.f145 ps rs [] [] a1 = raw k a1 := (p_eq k a1).trans (by rfl)
theorem ent : EnterOk Go.Proofs.Try.prog 145 sig.cap := ⟨Go.Proofs.Try.f145, Go.Proofs.Try.func145, by kernel_rfl, by kernel_rfl, by kernel_rfl⟩
theorem env : EnvOk Go.Proofs.Try.prog E := env_ok (tl := [(48, tRow), (50, tChange), (146, tKey)]) (gl := [(164, impl_Change_key.sig)]) rfl rfl (by kernel_rfl) (by kernel_rfl) (fn_cons impl_Change_key.snd impl_Change_key.ent (fn_nil _))
theorem chk : funOk Go.Proofs.Try.prog E Go.Proofs.Try.f145 ps rs [] = true := by kernel_rfl
theorem snd : Sound Go.Proofs.Try.prog 145 sig := sound_of_body env Go.Proofs.Try.func145 rfl (es := []) (fr := []) chk (fun _ _ h => lift_some h)
end impl_Change_lock
namespace impl_isKey
/-! loop example g00408 impl isKey -/
abbrev Arg : Type := Int × Int × Unit
abbrev Out : Type := Bool × Unit
noncomputable def ps : List (PM × Ty) := [(.ro, i64), (.ro, i64)]
noncomputable def rs : List (Ty × Md) := [(.bool, (roMd .bool))]
noncomputable def E : Env := { TI := lookN [], G := lookN [(47, impl_in.sig)], fz := [], lv := [], lx := [], lf := [], od := [] }
noncomputable def sem (a : Arg) : Option Out := lift fun k => bodyK E k Go.Proofs.Try.f146 ps rs [] [] a
noncomputable def sig : Sig := { ps := ps, rs := rs, F := fun a => sem a }
noncomputable def C : Code := bodyOf Go.Proofs.Try.f146
noncomputable def fin : St → Option Out := outK ps rs [] (Func.results Go.Proofs.Try.f146).toList (mvs [])
noncomputable def K0 : Ex → St → Option Out := endK fin
noncomputable def p (a1 : Arg) : Option Out := (impl_in.sem (a1.1, (0 : Int), (3 : Int), ())).bind fun r2 => bif r2.1 then ((impl_in.sem (a1.2.1, (1 : Int), (99 : Int), ())).bind fun r3 => some (r3.1, ())) else some (false, ())
noncomputable def raw (k : Nat) (a1 : Arg) : Option Out := p a1
theorem p_eq (k : Nat) (a1 : Arg) : bodyK E k Go.Proofs.Try.f146 ps rs [] [] a1 = p a1 := by kernel_rfl
theorem raw_eq (k : Nat) (a1 : Arg) : bodyK E k Go.Proofs.Try.f146 ps rs [] [] a1 = raw k a1 := (p_eq k a1).trans (by rfl)
theorem ent : EnterOk Go.Proofs.Try.prog 146 sig.cap := ⟨Go.Proofs.Try.f146, Go.Proofs.Try.func146, by kernel_rfl, by kernel_rfl, by kernel_rfl⟩
theorem env : EnvOk Go.Proofs.Try.prog E := env_ok (tl := []) (gl := [(47, impl_in.sig)]) rfl rfl (by kernel_rfl) (by kernel_rfl) (fn_cons impl_in.snd impl_in.ent (fn_nil _))
theorem chk : funOk Go.Proofs.Try.prog E Go.Proofs.Try.f146 ps rs [] = true := by kernel_rfl
theorem snd : Sound Go.Proofs.Try.prog 146 sig := sound_of_body env Go.Proofs.Try.func146 rfl (es := []) (fr := []) chk (fun _ _ h => lift_some h)
end impl_isKey
namespace impl_txFault
/-! loop example g00408 impl txFault -/
abbrev Arg : Type := Tx × Unit
abbrev Out : Type := Int × Unit
noncomputable def ps : List (PM × Ty) := [(.ro, tTx)]
noncomputable def rs : List (Ty × Md) := [(i64, (roMd i64))]
noncomputable def E : Env := { TI := lookN [(2, i64), (50, tChange), (65, (.slc tChange)), (96, (.slc i64)), (97, (.slc tKey)), (99, tTx), (146, tKey)], G := lookN [(47, impl_in.sig), (143, impl_singleFault.sig), (144, slices_Contains.sig), (145, impl_Change_lock.sig), (146, impl_isKey.sig)], fz := [], lv := [(2, [1, 12, 13, 14]), (14, [1, 6, 41, 42, 43]), (21, [1, 57, 58, 59])], lx := [(0, [1]), (2, [1]), (4, [])], lf := [], od := [(7, [0, 1, 2, 3, 4, 5]), (25, [0, 1, 2, 3, 4, 5])] }
noncomputable def sem (a : Arg) : Option Out := lift fun k => bodyK E k Go.Proofs.Try.f93 ps rs [] [] a
noncomputable def sig : Sig := { ps := ps, rs := rs, F := fun a => sem a }
noncomputable def C : Code := bodyOf Go.Proofs.Try.f93
noncomputable def fin : St → Option Out := outK ps rs [] (Func.results Go.Proofs.Try.f93).toList (mvs [])
noncomputable def K0 : Ex → St → Option Out := endK fin
noncomputable def S0 (rec : St → Option Out) (a1 : Arg) : (Int) → Option Out := fun v402 => rec ({ n := 77, sl := [(1, .box tTx (roMd tTx) [] a1.1), (12, .val (.slc tChange) a1.1.2.1), (13, .val i64 (a1.1.2.1.length : Int)), (14, .val i64 v402)], vr := [], lent := [] })
noncomputable def X0_0 (K : Ex → St → Option Out) (a1 : Arg) : (Unit) → Option Out := fun z => K (.exit 0) ({ n := 77, sl := [(1, .box tTx (roMd tTx) [] a1.1)], vr := [], lent := [] })
noncomputable def b0 (self : Int → Option Out) (e0 : (Unit) → Option Out) (a1 : Arg) (v402 : Int) : Option Out := bif decide (v402 < (a1.1.2.1.length : Int)) then (if 0 ≤ v402 then ((a1.1.2.1[v402.toNat]?).bind fun x603 => (impl_singleFault.sem (x603, ())).bind fun r604 => bif !decide (r604.1 = (0 : Int)) then (some (r604.1, ())) else (impl_Change_lock.sem (x603, ())).bind fun r605 => (slices_Contains.sem (a1.1.2.2.2.1, r605.1, ())).bind fun r606 => bif !r606.1 then (some ((8 : Int), ())) else self (w64 (v402 + (1 : Int)))) else none) else e0 ()
noncomputable def B0 (k : Nat) (self : Int → Option Out) (e0 : (Unit) → Option Out) (a1 : Arg) (v402 : Int) : Option Out := b0 self e0 a1 v402
theorem b0_eq (k : Nat) (rec : St → Option Out) (K : Ex → St → Option Out) (a1 : Arg) (v402 : Int) : codeK E k fin (sub [1, 0, 1, 0, 0] C) ({ n := 77, sl := [(1, .box tTx (roMd tTx) [] a1.1), (12, .val (.slc tChange) a1.1.2.1), (13, .val i64 (a1.1.2.1.length : Int)), (14, .val i64 v402)], vr := [], lent := [] }) (loopC rec (keepF [1, 12, 13, 14] []) K) = b0 (S0 rec a1) (X0_0 K a1) a1 v402 := by kernel_rfl
theorem B0_eq (k : Nat) (rec : St → Option Out) (K : Ex → St → Option Out) (a1 : Arg) (v402 : Int) : codeK E k fin (sub [1, 0, 1, 0, 0] C) ({ n := 77, sl := [(1, .box tTx (roMd tTx) [] a1.1), (12, .val (.slc tChange) a1.1.2.1), (13, .val i64 (a1.1.2.1.length : Int)), (14, .val i64 v402)], vr := [], lent := [] }) (loopC rec (keepF [1, 12, 13, 14] []) K) = B0 k (S0 rec a1) (X0_0 K a1) a1 v402 := (b0_eq k rec K a1 v402).trans (by rfl)
noncomputable def l0 (k : Nat) (a1 : Arg) (e0 : (Unit) → Option Out) (v : Int) : Option Out := rawIter (fun self v => B0 k self e0 a1 v) k v
theorem l0_eq (k : Nat) (K : Ex → St → Option Out) (a1 : Arg) (v402 : Int) : iterK (codeK E k fin (sub [1, 0, 1, 0, 0] C)) (keepF [1, 12, 13, 14] []) K k ({ n := 77, sl := [(1, .box tTx (roMd tTx) [] a1.1), (12, .val (.slc tChange) a1.1.2.1), (13, .val i64 (a1.1.2.1.length : Int)), (14, .val i64 v402)], vr := [], lent := [] }) = l0 k a1 (X0_0 K a1) v402 :=
  iter_raw _ _ K (fun v402 => ({ n := 77, sl := [(1, .box tTx (roMd tTx) [] a1.1), (12, .val (.slc tChange) a1.1.2.1), (13, .val i64 (a1.1.2.1.length : Int)), (14, .val i64 v402)], vr := [], lent := [] } : St)) (fun self v => B0 k self (X0_0 K a1) a1 v) (fun rec v => B0_eq k rec K a1 v) k v402
noncomputable def S1 (rec : St → Option Out) (a1 : Arg) : (Int × Int) → Option Out := fun v1008 => rec ({ n := 77, sl := [(1, .box tTx (roMd tTx) [] a1.1), (6, .val i64 v1008.1), (41, .val (.slc i64) a1.1.2.2.1), (42, .val i64 (a1.1.2.2.1.length : Int)), (43, .val i64 v1008.2)], vr := [], lent := [] })
noncomputable def X1_2 (K : Ex → St → Option Out) (a1 : Arg) : (Unit) → Option Out := fun z => K (.exit 2) ({ n := 77, sl := [(1, .box tTx (roMd tTx) [] a1.1)], vr := [], lent := [] })
noncomputable def b1 (self : (Int × Int) → Option Out) (e2 : (Unit) → Option Out) (a1 : Arg) (v1008 : Int × Int) : Option Out := bif decide (v1008.2 < (a1.1.2.2.1.length : Int)) then (if 0 ≤ v1008.2 then ((a1.1.2.2.1[v1008.2.toNat]?).bind fun x1209 => (impl_in.sem (x1209, v1008.1, (a1.1.2.1.length : Int), ())).bind fun r1210 => bif !r1210.1 then (some ((3 : Int), ())) else self (x1209, w64 (v1008.2 + (1 : Int)))) else none) else e2 ()
noncomputable def B1 (k : Nat) (self : (Int × Int) → Option Out) (e2 : (Unit) → Option Out) (a1 : Arg) (v1008 : Int × Int) : Option Out := b1 self e2 a1 v1008
theorem b1_eq (k : Nat) (rec : St → Option Out) (K : Ex → St → Option Out) (a1 : Arg) (v1008 : Int × Int) : codeK E k fin (sub [1, 1, 1, 1, 0, 1, 0, 0] C) ({ n := 77, sl := [(1, .box tTx (roMd tTx) [] a1.1), (6, .val i64 v1008.1), (41, .val (.slc i64) a1.1.2.2.1), (42, .val i64 (a1.1.2.2.1.length : Int)), (43, .val i64 v1008.2)], vr := [], lent := [] }) (loopC rec (keepF [1, 6, 41, 42, 43] []) K) = b1 (S1 rec a1) (X1_2 K a1) a1 v1008 := by kernel_rfl
theorem B1_eq (k : Nat) (rec : St → Option Out) (K : Ex → St → Option Out) (a1 : Arg) (v1008 : Int × Int) : codeK E k fin (sub [1, 1, 1, 1, 0, 1, 0, 0] C) ({ n := 77, sl := [(1, .box tTx (roMd tTx) [] a1.1), (6, .val i64 v1008.1), (41, .val (.slc i64) a1.1.2.2.1), (42, .val i64 (a1.1.2.2.1.length : Int)), (43, .val i64 v1008.2)], vr := [], lent := [] }) (loopC rec (keepF [1, 6, 41, 42, 43] []) K) = B1 k (S1 rec a1) (X1_2 K a1) a1 v1008 := (b1_eq k rec K a1 v1008).trans (by rfl)
noncomputable def l1 (k : Nat) (a1 : Arg) (e2 : (Unit) → Option Out) (v : Int × Int) : Option Out := rawIter (fun self v => B1 k self e2 a1 v) k v
theorem l1_eq (k : Nat) (K : Ex → St → Option Out) (a1 : Arg) (v1008 : Int × Int) : iterK (codeK E k fin (sub [1, 1, 1, 1, 0, 1, 0, 0] C)) (keepF [1, 6, 41, 42, 43] []) K k ({ n := 77, sl := [(1, .box tTx (roMd tTx) [] a1.1), (6, .val i64 v1008.1), (41, .val (.slc i64) a1.1.2.2.1), (42, .val i64 (a1.1.2.2.1.length : Int)), (43, .val i64 v1008.2)], vr := [], lent := [] }) = l1 k a1 (X1_2 K a1) v1008 :=
  iter_raw _ _ K (fun v1008 => ({ n := 77, sl := [(1, .box tTx (roMd tTx) [] a1.1), (6, .val i64 v1008.1), (41, .val (.slc i64) a1.1.2.2.1), (42, .val i64 (a1.1.2.2.1.length : Int)), (43, .val i64 v1008.2)], vr := [], lent := [] } : St)) (fun self v => B1 k self (X1_2 K a1) a1 v) (fun rec v => B1_eq k rec K a1 v) k v1008
noncomputable def S2 (rec : St → Option Out) (a1 : Arg) : (Int) → Option Out := fun v1612 => rec ({ n := 77, sl := [(1, .box tTx (roMd tTx) [] a1.1), (57, .val (.slc tKey) a1.1.2.2.2.1), (58, .val i64 (a1.1.2.2.2.1.length : Int)), (59, .val i64 v1612)], vr := [], lent := [] })
noncomputable def X2_4 (K : Ex → St → Option Out) (a1 : Arg) : (Unit) → Option Out := fun z => K (.exit 4) ({ n := 77, sl := [], vr := [], lent := [] })
noncomputable def b2 (self : Int → Option Out) (e4 : (Unit) → Option Out) (a1 : Arg) (v1612 : Int) : Option Out := bif decide (v1612 < (a1.1.2.2.2.1.length : Int)) then (if 0 ≤ v1612 then ((a1.1.2.2.2.1[v1612.toNat]?).bind fun x1813 => (impl_isKey.sem (x1813.1, x1813.2.1, ())).bind fun r1814 => bif !r1814.1 then (some ((3 : Int), ())) else if 0 ≤ v1612 ∧ v1612 ≤ (a1.1.2.2.2.1.length : Int) then ((slices_Contains.sem ((a1.1.2.2.2.1.take v1612.toNat).drop 0, x1813, ())).bind fun r1815 => bif r1815.1 then (some ((6 : Int), ())) else self (w64 (v1612 + (1 : Int)))) else none) else none) else e4 ()
noncomputable def B2 (k : Nat) (self : Int → Option Out) (e4 : (Unit) → Option Out) (a1 : Arg) (v1612 : Int) : Option Out := b2 self e4 a1 v1612
theorem b2_eq (k : Nat) (rec : St → Option Out) (K : Ex → St → Option Out) (a1 : Arg) (v1612 : Int) : codeK E k fin (sub [1, 1, 1, 1, 1, 0, 1, 0, 0] C) ({ n := 77, sl := [(1, .box tTx (roMd tTx) [] a1.1), (57, .val (.slc tKey) a1.1.2.2.2.1), (58, .val i64 (a1.1.2.2.2.1.length : Int)), (59, .val i64 v1612)], vr := [], lent := [] }) (loopC rec (keepF [1, 57, 58, 59] []) K) = b2 (S2 rec a1) (X2_4 K a1) a1 v1612 := by kernel_rfl
theorem B2_eq (k : Nat) (rec : St → Option Out) (K : Ex → St → Option Out) (a1 : Arg) (v1612 : Int) : codeK E k fin (sub [1, 1, 1, 1, 1, 0, 1, 0, 0] C) ({ n := 77, sl := [(1, .box tTx (roMd tTx) [] a1.1), (57, .val (.slc tKey) a1.1.2.2.2.1), (58, .val i64 (a1.1.2.2.2.1.length : Int)), (59, .val i64 v1612)], vr := [], lent := [] }) (loopC rec (keepF [1, 57, 58, 59] []) K) = B2 k (S2 rec a1) (X2_4 K a1) a1 v1612 := (b2_eq k rec K a1 v1612).trans (by rfl)
noncomputable def l2 (k : Nat) (a1 : Arg) (e4 : (Unit) → Option Out) (v : Int) : Option Out := rawIter (fun self v => B2 k self e4 a1 v) k v
theorem l2_eq (k : Nat) (K : Ex → St → Option Out) (a1 : Arg) (v1612 : Int) : iterK (codeK E k fin (sub [1, 1, 1, 1, 1, 0, 1, 0, 0] C)) (keepF [1, 57, 58, 59] []) K k ({ n := 77, sl := [(1, .box tTx (roMd tTx) [] a1.1), (57, .val (.slc tKey) a1.1.2.2.2.1), (58, .val i64 (a1.1.2.2.2.1.length : Int)), (59, .val i64 v1612)], vr := [], lent := [] }) = l2 k a1 (X2_4 K a1) v1612 :=
  iter_raw _ _ K (fun v1612 => ({ n := 77, sl := [(1, .box tTx (roMd tTx) [] a1.1), (57, .val (.slc tKey) a1.1.2.2.2.1), (58, .val i64 (a1.1.2.2.2.1.length : Int)), (59, .val i64 v1612)], vr := [], lent := [] } : St)) (fun self v => B2 k self (X2_4 K a1) a1 v) (fun rec v => B2_eq k rec K a1 v) k v1612
noncomputable def q2 (a1 : Arg) (z1816 : (Unit)) : Option Out := some ((0 : Int), ())
noncomputable def Q2 (k : Nat) (a1 : Arg) (z1816 : (Unit)) : Option Out := q2 a1 z1816
theorem q2_eq (k : Nat) (a1 : Arg) (z1816 : (Unit)) : (blockC 4 (seqC (codeK E k fin (sub [1, 1, 1, 1, 1, 1] C)) K0)) (.exit 4) ({ n := 77, sl := [], vr := [], lent := [] }) = q2 a1 z1816 := by kernel_rfl
theorem Q2_eq (k : Nat) (a1 : Arg) (z1816 : (Unit)) : (blockC 4 (seqC (codeK E k fin (sub [1, 1, 1, 1, 1, 1] C)) K0)) (.exit 4) ({ n := 77, sl := [], vr := [], lent := [] }) = Q2 k a1 z1816 := (q2_eq k a1 z1816).trans (by rfl)
noncomputable def s2 (k : Nat) (a1 : Arg) : (Int) → Option Out := fun v1612 => iterK (codeK E k fin (sub [1, 1, 1, 1, 1, 0, 1, 0, 0] C)) (keepF [1, 57, 58, 59] []) (blockC 4 (seqC (codeK E k fin (sub [1, 1, 1, 1, 1, 1] C)) K0)) k ({ n := 77, sl := [(1, .box tTx (roMd tTx) [] a1.1), (57, .val (.slc tKey) a1.1.2.2.2.1), (58, .val i64 (a1.1.2.2.2.1.length : Int)), (59, .val i64 v1612)], vr := [], lent := [] })
noncomputable def r2 (k : Nat) (a1 : Arg) : (Int) → Option Out := fun v1612 => l2 k a1 (fun z => Q2 k a1 z) v1612
theorem s2_eq (k : Nat) (a1 : Arg) : s2 k a1 = r2 k a1 := by
  funext v1612;
  have h4 : X2_4 ((blockC 4 (seqC (codeK E k fin (sub [1, 1, 1, 1, 1, 1] C)) K0))) a1 = fun z => Q2 k a1 z := funext fun z => Q2_eq k a1 z
  refine (l2_eq k ((blockC 4 (seqC (codeK E k fin (sub [1, 1, 1, 1, 1, 1] C)) K0))) a1 v1612).trans ?_
  rw [h4]
  rfl
noncomputable def q1 (l2 : (Int) → Option Out) (a1 : Arg) (z1211 : (Unit)) : Option Out := l2 (0 : Int)
noncomputable def Q1 (k : Nat) (a1 : Arg) (z1211 : (Unit)) : Option Out := q1 (r2 k a1) a1 z1211
theorem q1_eq (k : Nat) (a1 : Arg) (z1211 : (Unit)) : (blockC 2 (seqC (codeK E k fin (sub [1, 1, 1, 1, 1] C)) K0)) (.exit 2) ({ n := 77, sl := [(1, .box tTx (roMd tTx) [] a1.1)], vr := [], lent := [] }) = q1 (s2 k a1) a1 z1211 := by kernel_rfl
theorem Q1_eq (k : Nat) (a1 : Arg) (z1211 : (Unit)) : (blockC 2 (seqC (codeK E k fin (sub [1, 1, 1, 1, 1] C)) K0)) (.exit 2) ({ n := 77, sl := [(1, .box tTx (roMd tTx) [] a1.1)], vr := [], lent := [] }) = Q1 k a1 z1211 := (q1_eq k a1 z1211).trans (by rw [s2_eq]; rfl)
noncomputable def s1 (k : Nat) (a1 : Arg) : (Int × Int) → Option Out := fun v1008 => iterK (codeK E k fin (sub [1, 1, 1, 1, 0, 1, 0, 0] C)) (keepF [1, 6, 41, 42, 43] []) (blockC 2 (seqC (codeK E k fin (sub [1, 1, 1, 1, 1] C)) K0)) k ({ n := 77, sl := [(1, .box tTx (roMd tTx) [] a1.1), (6, .val i64 v1008.1), (41, .val (.slc i64) a1.1.2.2.1), (42, .val i64 (a1.1.2.2.1.length : Int)), (43, .val i64 v1008.2)], vr := [], lent := [] })
noncomputable def r1 (k : Nat) (a1 : Arg) : (Int × Int) → Option Out := fun v1008 => l1 k a1 (fun z => Q1 k a1 z) v1008
theorem s1_eq (k : Nat) (a1 : Arg) : s1 k a1 = r1 k a1 := by
  funext v1008;
  have h2 : X1_2 ((blockC 2 (seqC (codeK E k fin (sub [1, 1, 1, 1, 1] C)) K0))) a1 = fun z => Q1 k a1 z := funext fun z => Q1_eq k a1 z
  refine (l1_eq k ((blockC 2 (seqC (codeK E k fin (sub [1, 1, 1, 1, 1] C)) K0))) a1 v1008).trans ?_
  rw [h2]
  rfl
noncomputable def q0 (l1 : (Int × Int) → Option Out) (a1 : Arg) (z607 : (Unit)) : Option Out := bif decide ((8 : Int) < (a1.1.2.2.1.length : Int)) then (some ((2 : Int), ())) else bif decide ((12 : Int) < (a1.1.2.2.2.1.length : Int)) then (some ((2 : Int), ())) else l1 ((0 : Int), (0 : Int))
noncomputable def Q0 (k : Nat) (a1 : Arg) (z607 : (Unit)) : Option Out := q0 (r1 k a1) a1 z607
theorem q0_eq (k : Nat) (a1 : Arg) (z607 : (Unit)) : (blockC 0 (seqC (codeK E k fin (sub [1, 1] C)) K0)) (.exit 0) ({ n := 77, sl := [(1, .box tTx (roMd tTx) [] a1.1)], vr := [], lent := [] }) = q0 (s1 k a1) a1 z607 := by kernel_rfl
theorem Q0_eq (k : Nat) (a1 : Arg) (z607 : (Unit)) : (blockC 0 (seqC (codeK E k fin (sub [1, 1] C)) K0)) (.exit 0) ({ n := 77, sl := [(1, .box tTx (roMd tTx) [] a1.1)], vr := [], lent := [] }) = Q0 k a1 z607 := (q0_eq k a1 z607).trans (by rw [s1_eq]; rfl)
noncomputable def s0 (k : Nat) (a1 : Arg) : (Int) → Option Out := fun v402 => iterK (codeK E k fin (sub [1, 0, 1, 0, 0] C)) (keepF [1, 12, 13, 14] []) (blockC 0 (seqC (codeK E k fin (sub [1, 1] C)) K0)) k ({ n := 77, sl := [(1, .box tTx (roMd tTx) [] a1.1), (12, .val (.slc tChange) a1.1.2.1), (13, .val i64 (a1.1.2.1.length : Int)), (14, .val i64 v402)], vr := [], lent := [] })
noncomputable def r0 (k : Nat) (a1 : Arg) : (Int) → Option Out := fun v402 => l0 k a1 (fun z => Q0 k a1 z) v402
theorem s0_eq (k : Nat) (a1 : Arg) : s0 k a1 = r0 k a1 := by
  funext v402;
  have h0 : X0_0 ((blockC 0 (seqC (codeK E k fin (sub [1, 1] C)) K0))) a1 = fun z => Q0 k a1 z := funext fun z => Q0_eq k a1 z
  refine (l0_eq k ((blockC 0 (seqC (codeK E k fin (sub [1, 1] C)) K0))) a1 v402).trans ?_
  rw [h0]
  rfl
noncomputable def p (l0 : (Int) → Option Out) (a1 : Arg) : Option Out := l0 (0 : Int)
noncomputable def raw (k : Nat) (a1 : Arg) : Option Out := p (r0 k a1) a1
theorem p_eq (k : Nat) (a1 : Arg) : bodyK E k Go.Proofs.Try.f93 ps rs [] [] a1 = p (s0 k a1) a1 := by kernel_rfl
theorem raw_eq (k : Nat) (a1 : Arg) : bodyK E k Go.Proofs.Try.f93 ps rs [] [] a1 = raw k a1 := (p_eq k a1).trans (by rw [s0_eq]; rfl)
theorem ent : EnterOk Go.Proofs.Try.prog 93 sig.cap := ⟨Go.Proofs.Try.f93, Go.Proofs.Try.func93, by kernel_rfl, by kernel_rfl, by kernel_rfl⟩
theorem env : EnvOk Go.Proofs.Try.prog E := env_ok (tl := [(2, i64), (50, tChange), (65, (.slc tChange)), (96, (.slc i64)), (97, (.slc tKey)), (99, tTx), (146, tKey)]) (gl := [(47, impl_in.sig), (143, impl_singleFault.sig), (144, slices_Contains.sig), (145, impl_Change_lock.sig), (146, impl_isKey.sig)]) rfl rfl (by kernel_rfl) (by kernel_rfl) (fn_cons impl_in.snd impl_in.ent (fn_cons impl_singleFault.snd impl_singleFault.ent (fn_cons slices_Contains.snd slices_Contains.ent (fn_cons impl_Change_lock.snd impl_Change_lock.ent (fn_cons impl_isKey.snd impl_isKey.ent (fn_nil _))))))
theorem chk : funOk Go.Proofs.Try.prog E Go.Proofs.Try.f93 ps rs [] = true := by kernel_rfl
theorem snd : Sound Go.Proofs.Try.prog 93 sig := sound_of_body env Go.Proofs.Try.func93 rfl (es := []) (fr := []) chk (fun _ _ h => lift_some h)
end impl_txFault
namespace impl_undone
/-! loop example g00408 impl undone -/
abbrev Arg : Type := (List Tx) × Unit
abbrev Out : Type := Int × Unit
noncomputable def ps : List (PM × Ty) := [(.ro, (.slc tTx))]
noncomputable def rs : List (Ty × Md) := [(i64, (roMd i64))]
noncomputable def E : Env := { TI := lookN [(29, (.slc tTx)), (65, (.slc tChange)), (99, tTx)], G := lookN [], fz := [], lv := [(3, [3, 6, 7, 8])], lx := [(0, [3])], lf := [], od := [] }
noncomputable def sem (a : Arg) : Option Out := lift fun k => bodyK E k Go.Proofs.Try.f94 ps rs [] [] a
noncomputable def sig : Sig := { ps := ps, rs := rs, F := fun a => sem a }
noncomputable def C : Code := bodyOf Go.Proofs.Try.f94
noncomputable def fin : St → Option Out := outK ps rs [] (Func.results Go.Proofs.Try.f94).toList (mvs [])
noncomputable def K0 : Ex → St → Option Out := endK fin
noncomputable def S0 (rec : St → Option Out) (a1 : Arg) : (Int × Int) → Option Out := fun v402 => rec ({ n := 19, sl := [(3, .val i64 v402.1), (6, .val (.slc tTx) a1.1), (7, .val i64 (a1.1.length : Int)), (8, .val i64 v402.2)], vr := [], lent := [] })
noncomputable def X0_0 (K : Ex → St → Option Out) (a1 : Arg) : Int → Option Out := fun z => K (.exit 0) ({ n := 19, sl := [(3, .val i64 z)], vr := [], lent := [] })
noncomputable def b0 (self : (Int × Int) → Option Out) (e0 : Int → Option Out) (a1 : Arg) (v402 : Int × Int) : Option Out := bif decide (v402.2 < (a1.1.length : Int)) then (if 0 ≤ v402.2 then ((a1.1[v402.2.toNat]?).bind fun x603 => self (w64 (v402.1 + (x603.2.1.length : Int)), w64 (v402.2 + (1 : Int)))) else none) else e0 v402.1
noncomputable def B0 (k : Nat) (self : (Int × Int) → Option Out) (e0 : Int → Option Out) (a1 : Arg) (v402 : Int × Int) : Option Out := b0 self e0 a1 v402
theorem b0_eq (k : Nat) (rec : St → Option Out) (K : Ex → St → Option Out) (a1 : Arg) (v402 : Int × Int) : codeK E k fin (sub [1, 1, 0, 1, 0, 0] C) ({ n := 19, sl := [(3, .val i64 v402.1), (6, .val (.slc tTx) a1.1), (7, .val i64 (a1.1.length : Int)), (8, .val i64 v402.2)], vr := [], lent := [] }) (loopC rec (keepF [3, 6, 7, 8] []) K) = b0 (S0 rec a1) (X0_0 K a1) a1 v402 := by kernel_rfl
theorem B0_eq (k : Nat) (rec : St → Option Out) (K : Ex → St → Option Out) (a1 : Arg) (v402 : Int × Int) : codeK E k fin (sub [1, 1, 0, 1, 0, 0] C) ({ n := 19, sl := [(3, .val i64 v402.1), (6, .val (.slc tTx) a1.1), (7, .val i64 (a1.1.length : Int)), (8, .val i64 v402.2)], vr := [], lent := [] }) (loopC rec (keepF [3, 6, 7, 8] []) K) = B0 k (S0 rec a1) (X0_0 K a1) a1 v402 := (b0_eq k rec K a1 v402).trans (by rfl)
noncomputable def l0 (k : Nat) (a1 : Arg) (e0 : Int → Option Out) (v : Int × Int) : Option Out := rawIter (fun self v => B0 k self e0 a1 v) k v
theorem l0_eq (k : Nat) (K : Ex → St → Option Out) (a1 : Arg) (v402 : Int × Int) : iterK (codeK E k fin (sub [1, 1, 0, 1, 0, 0] C)) (keepF [3, 6, 7, 8] []) K k ({ n := 19, sl := [(3, .val i64 v402.1), (6, .val (.slc tTx) a1.1), (7, .val i64 (a1.1.length : Int)), (8, .val i64 v402.2)], vr := [], lent := [] }) = l0 k a1 (X0_0 K a1) v402 :=
  iter_raw _ _ K (fun v402 => ({ n := 19, sl := [(3, .val i64 v402.1), (6, .val (.slc tTx) a1.1), (7, .val i64 (a1.1.length : Int)), (8, .val i64 v402.2)], vr := [], lent := [] } : St)) (fun self v => B0 k self (X0_0 K a1) a1 v) (fun rec v => B0_eq k rec K a1 v) k v402
noncomputable def q0 (a1 : Arg) (z604 : Int) : Option Out := some (z604, ())
noncomputable def Q0 (k : Nat) (a1 : Arg) (z604 : Int) : Option Out := q0 a1 z604
theorem q0_eq (k : Nat) (a1 : Arg) (z604 : Int) : (blockC 0 (seqC (codeK E k fin (sub [1, 1, 1] C)) K0)) (.exit 0) ({ n := 19, sl := [(3, .val i64 z604)], vr := [], lent := [] }) = q0 a1 z604 := by kernel_rfl
theorem Q0_eq (k : Nat) (a1 : Arg) (z604 : Int) : (blockC 0 (seqC (codeK E k fin (sub [1, 1, 1] C)) K0)) (.exit 0) ({ n := 19, sl := [(3, .val i64 z604)], vr := [], lent := [] }) = Q0 k a1 z604 := (q0_eq k a1 z604).trans (by rfl)
noncomputable def s0 (k : Nat) (a1 : Arg) : (Int × Int) → Option Out := fun v402 => iterK (codeK E k fin (sub [1, 1, 0, 1, 0, 0] C)) (keepF [3, 6, 7, 8] []) (blockC 0 (seqC (codeK E k fin (sub [1, 1, 1] C)) K0)) k ({ n := 19, sl := [(3, .val i64 v402.1), (6, .val (.slc tTx) a1.1), (7, .val i64 (a1.1.length : Int)), (8, .val i64 v402.2)], vr := [], lent := [] })
noncomputable def r0 (k : Nat) (a1 : Arg) : (Int × Int) → Option Out := fun v402 => l0 k a1 (fun z => Q0 k a1 z) v402
theorem s0_eq (k : Nat) (a1 : Arg) : s0 k a1 = r0 k a1 := by
  funext v402;
  have h0 : X0_0 ((blockC 0 (seqC (codeK E k fin (sub [1, 1, 1] C)) K0))) a1 = fun z => Q0 k a1 z := funext fun z => Q0_eq k a1 z
  refine (l0_eq k ((blockC 0 (seqC (codeK E k fin (sub [1, 1, 1] C)) K0))) a1 v402).trans ?_
  rw [h0]
  rfl
noncomputable def p (l0 : (Int × Int) → Option Out) (a1 : Arg) : Option Out := l0 ((0 : Int), (0 : Int))
noncomputable def raw (k : Nat) (a1 : Arg) : Option Out := p (r0 k a1) a1
theorem p_eq (k : Nat) (a1 : Arg) : bodyK E k Go.Proofs.Try.f94 ps rs [] [] a1 = p (s0 k a1) a1 := by kernel_rfl
theorem raw_eq (k : Nat) (a1 : Arg) : bodyK E k Go.Proofs.Try.f94 ps rs [] [] a1 = raw k a1 := (p_eq k a1).trans (by rw [s0_eq]; rfl)
theorem ent : EnterOk Go.Proofs.Try.prog 94 sig.cap := ⟨Go.Proofs.Try.f94, Go.Proofs.Try.func94, by kernel_rfl, by kernel_rfl, by kernel_rfl⟩
theorem env : EnvOk Go.Proofs.Try.prog E := env_ok (tl := [(29, (.slc tTx)), (65, (.slc tChange)), (99, tTx)]) (gl := []) rfl rfl (by kernel_rfl) (by kernel_rfl) (fn_nil _)
theorem chk : funOk Go.Proofs.Try.prog E Go.Proofs.Try.f94 ps rs [] = true := by kernel_rfl
theorem snd : Sound Go.Proofs.Try.prog 94 sig := sound_of_body env Go.Proofs.Try.func94 rfl (es := []) (fr := []) chk (fun _ _ h => lift_some h)
end impl_undone
namespace impl_TxsFault
/-! loop example g00408 impl TxsFault -/
abbrev Arg : Type := (List Tx) × Unit
abbrev Out : Type := Int × Unit
noncomputable def ps : List (PM × Ty) := [(.ro, (.slc tTx))]
noncomputable def rs : List (Ty × Md) := [(i64, (roMd i64))]
noncomputable def E : Env := { TI := lookN [(2, i64), (29, (.slc tTx)), (97, (.slc tKey)), (99, tTx), (100, (.map tKey .bool)), (146, tKey)], G := lookN [(92, impl_isTx.sig), (93, impl_txFault.sig), (94, impl_undone.sig)], fz := [], lv := [(4, [0, 14, 15, 16]), (16, [0, 6, 45, 46, 47]), (19, [0, 6, 45, 46, 47, 52, 53, 54])], lx := [(0, [0]), (2, [0]), (4, [0, 6, 45, 46, 47])], lf := [], od := [(8, [0, 1, 2, 3, 4, 5, 6, 7, 8, 9, 10, 11, 12])] }
noncomputable def sem (a : Arg) : Option Out := lift fun k => bodyK E k Go.Proofs.Try.f46 ps rs [] [] a
noncomputable def sig : Sig := { ps := ps, rs := rs, F := fun a => sem a }
noncomputable def C : Code := bodyOf Go.Proofs.Try.f46
noncomputable def fin : St → Option Out := outK ps rs [] (Func.results Go.Proofs.Try.f46).toList (mvs [])
noncomputable def K0 : Ex → St → Option Out := endK fin
noncomputable def S0 (rec : St → Option Out) (a1 : Arg) : (Int) → Option Out := fun v402 => rec ({ n := 68, sl := [(0, .val (.slc tTx) a1.1), (14, .val (.slc tTx) a1.1), (15, .val i64 (a1.1.length : Int)), (16, .val i64 v402)], vr := [], lent := [] })
noncomputable def X0_0 (K : Ex → St → Option Out) (a1 : Arg) : (Unit) → Option Out := fun z => K (.exit 0) ({ n := 68, sl := [(0, .val (.slc tTx) a1.1)], vr := [], lent := [] })
noncomputable def b0 (self : Int → Option Out) (e0 : (Unit) → Option Out) (a1 : Arg) (v402 : Int) : Option Out := bif decide (v402 < (a1.1.length : Int)) then (if 0 ≤ v402 then ((a1.1[v402.toNat]?).bind fun x603 => (impl_isTx.sem (x603.1, ())).bind fun r604 => bif !r604.1 then (some ((3 : Int), ())) else bif decide ((0 : Int) < v402) then (if 0 ≤ w64 (v402 - (1 : Int)) then ((a1.1[(w64 (v402 - (1 : Int))).toNat]?).bind fun x605 => bif decide (x603.1 ≤ x605.1) then (some ((1 : Int), ())) else (impl_txFault.sem (x603, ())).bind fun r607 => bif !decide (r607.1 = (0 : Int)) then (some (r607.1, ())) else self (w64 (v402 + (1 : Int)))) else none) else (impl_txFault.sem (x603, ())).bind fun r608 => bif !decide (r608.1 = (0 : Int)) then (some (r608.1, ())) else self (w64 (v402 + (1 : Int)))) else none) else e0 ()
noncomputable def B0 (k : Nat) (self : Int → Option Out) (e0 : (Unit) → Option Out) (a1 : Arg) (v402 : Int) : Option Out := b0 self e0 a1 v402
theorem b0_eq (k : Nat) (rec : St → Option Out) (K : Ex → St → Option Out) (a1 : Arg) (v402 : Int) : codeK E k fin (sub [1, 1, 0, 1, 0, 0] C) ({ n := 68, sl := [(0, .val (.slc tTx) a1.1), (14, .val (.slc tTx) a1.1), (15, .val i64 (a1.1.length : Int)), (16, .val i64 v402)], vr := [], lent := [] }) (loopC rec (keepF [0, 14, 15, 16] []) K) = b0 (S0 rec a1) (X0_0 K a1) a1 v402 := by kernel_rfl
theorem B0_eq (k : Nat) (rec : St → Option Out) (K : Ex → St → Option Out) (a1 : Arg) (v402 : Int) : codeK E k fin (sub [1, 1, 0, 1, 0, 0] C) ({ n := 68, sl := [(0, .val (.slc tTx) a1.1), (14, .val (.slc tTx) a1.1), (15, .val i64 (a1.1.length : Int)), (16, .val i64 v402)], vr := [], lent := [] }) (loopC rec (keepF [0, 14, 15, 16] []) K) = B0 k (S0 rec a1) (X0_0 K a1) a1 v402 := (b0_eq k rec K a1 v402).trans (by rfl)
noncomputable def l0 (k : Nat) (a1 : Arg) (e0 : (Unit) → Option Out) (v : Int) : Option Out := rawIter (fun self v => B0 k self e0 a1 v) k v
theorem l0_eq (k : Nat) (K : Ex → St → Option Out) (a1 : Arg) (v402 : Int) : iterK (codeK E k fin (sub [1, 1, 0, 1, 0, 0] C)) (keepF [0, 14, 15, 16] []) K k ({ n := 68, sl := [(0, .val (.slc tTx) a1.1), (14, .val (.slc tTx) a1.1), (15, .val i64 (a1.1.length : Int)), (16, .val i64 v402)], vr := [], lent := [] }) = l0 k a1 (X0_0 K a1) v402 :=
  iter_raw _ _ K (fun v402 => ({ n := 68, sl := [(0, .val (.slc tTx) a1.1), (14, .val (.slc tTx) a1.1), (15, .val i64 (a1.1.length : Int)), (16, .val i64 v402)], vr := [], lent := [] } : St)) (fun self v => B0 k self (X0_0 K a1) a1 v) (fun rec v => B0_eq k rec K a1 v) k v402
noncomputable def S1 (rec : St → Option Out) (a1 : Arg) : ((List Tx) × (List (Key × Bool)) × (List Tx) × Int × Int) → Option Out := fun v1010 => rec ({ n := 68, sl := [(0, .val (.slc tTx) v1010.1), (6, .own (.map tKey .bool) (ownMd (.map tKey .bool)) [] v1010.2.1), (45, .val (.slc tTx) v1010.2.2.1), (46, .val i64 v1010.2.2.2.1), (47, .val i64 v1010.2.2.2.2)], vr := [], lent := [] })
noncomputable def X1_2 (K : Ex → St → Option Out) (a1 : Arg) : (List Tx) → Option Out := fun z => K (.exit 2) ({ n := 68, sl := [(0, .val (.slc tTx) z)], vr := [], lent := [] })
noncomputable def S2 (rec : St → Option Out) (a1 : Arg) (c1613 : List Tx) (c1614 : List Tx) (c1615 : Int) (c1616 : Int) (c1617 : List Key) (c1618 : Int) : ((List (Key × Bool)) × Int) → Option Out := fun v1612 => rec ({ n := 68, sl := [(0, .val (.slc tTx) c1613), (6, .own (.map tKey .bool) (ownMd (.map tKey .bool)) [] v1612.1), (45, .val (.slc tTx) c1614), (46, .val i64 c1615), (47, .val i64 c1616), (52, .val (.slc tKey) c1617), (53, .val i64 c1618), (54, .val i64 v1612.2)], vr := [], lent := [] })
noncomputable def X2_4 (K : Ex → St → Option Out) (a1 : Arg) (c1613 : List Tx) (c1614 : List Tx) (c1615 : Int) (c1616 : Int) (c1617 : List Key) (c1618 : Int) : (List (Key × Bool)) → Option Out := fun z => K (.exit 4) ({ n := 68, sl := [(0, .val (.slc tTx) c1613), (6, .own (.map tKey .bool) (ownMd (.map tKey .bool)) [] z), (45, .val (.slc tTx) c1614), (46, .val i64 c1615), (47, .val i64 c1616)], vr := [], lent := [] })
noncomputable def b2 (self : ((List (Key × Bool)) × Int) → Option Out) (e4 : (List (Key × Bool)) → Option Out) (a1 : Arg) (c1613 : List Tx) (c1614 : List Tx) (c1615 : Int) (c1616 : Int) (c1617 : List Key) (c1618 : Int) (v1612 : (List (Key × Bool)) × Int) : Option Out := bif decide (v1612.2 < c1618) then (if 0 ≤ v1612.2 then ((c1617[v1612.2.toNat]?).bind fun x1819 => bif orZ (mapGet tKey v1612.1 x1819) false then (some ((7 : Int), ())) else self (mapPut tKey v1612.1 x1819 true, w64 (v1612.2 + (1 : Int)))) else none) else e4 v1612.1
noncomputable def B2 (k : Nat) (self : ((List (Key × Bool)) × Int) → Option Out) (e4 : (List (Key × Bool)) → Option Out) (a1 : Arg) (c1613 : List Tx) (c1614 : List Tx) (c1615 : Int) (c1616 : Int) (c1617 : List Key) (c1618 : Int) (v1612 : (List (Key × Bool)) × Int) : Option Out := b2 self e4 a1 c1613 c1614 c1615 c1616 c1617 c1618 v1612
theorem b2_eq (k : Nat) (rec : St → Option Out) (K : Ex → St → Option Out) (a1 : Arg) (c1613 : List Tx) (c1614 : List Tx) (c1615 : Int) (c1616 : Int) (c1617 : List Key) (c1618 : Int) (v1612 : (List (Key × Bool)) × Int) : codeK E k fin (sub [1, 1, 1, 1, 0, 1, 0, 0, 1, 1, 0, 0, 1, 1, 0, 0] C) ({ n := 68, sl := [(0, .val (.slc tTx) c1613), (6, .own (.map tKey .bool) (ownMd (.map tKey .bool)) [] v1612.1), (45, .val (.slc tTx) c1614), (46, .val i64 c1615), (47, .val i64 c1616), (52, .val (.slc tKey) c1617), (53, .val i64 c1618), (54, .val i64 v1612.2)], vr := [], lent := [] }) (loopC rec (keepF [0, 6, 45, 46, 47, 52, 53, 54] []) K) = b2 (S2 rec a1 c1613 c1614 c1615 c1616 c1617 c1618) (X2_4 K a1 c1613 c1614 c1615 c1616 c1617 c1618) a1 c1613 c1614 c1615 c1616 c1617 c1618 v1612 := by kernel_rfl
theorem B2_eq (k : Nat) (rec : St → Option Out) (K : Ex → St → Option Out) (a1 : Arg) (c1613 : List Tx) (c1614 : List Tx) (c1615 : Int) (c1616 : Int) (c1617 : List Key) (c1618 : Int) (v1612 : (List (Key × Bool)) × Int) : codeK E k fin (sub [1, 1, 1, 1, 0, 1, 0, 0, 1, 1, 0, 0, 1, 1, 0, 0] C) ({ n := 68, sl := [(0, .val (.slc tTx) c1613), (6, .own (.map tKey .bool) (ownMd (.map tKey .bool)) [] v1612.1), (45, .val (.slc tTx) c1614), (46, .val i64 c1615), (47, .val i64 c1616), (52, .val (.slc tKey) c1617), (53, .val i64 c1618), (54, .val i64 v1612.2)], vr := [], lent := [] }) (loopC rec (keepF [0, 6, 45, 46, 47, 52, 53, 54] []) K) = B2 k (S2 rec a1 c1613 c1614 c1615 c1616 c1617 c1618) (X2_4 K a1 c1613 c1614 c1615 c1616 c1617 c1618) a1 c1613 c1614 c1615 c1616 c1617 c1618 v1612 := (b2_eq k rec K a1 c1613 c1614 c1615 c1616 c1617 c1618 v1612).trans (by rfl)
noncomputable def l2 (k : Nat) (a1 : Arg) (c1613 : List Tx) (c1614 : List Tx) (c1615 : Int) (c1616 : Int) (c1617 : List Key) (c1618 : Int) (e4 : (List (Key × Bool)) → Option Out) (v : (List (Key × Bool)) × Int) : Option Out := rawIter (fun self v => B2 k self e4 a1 c1613 c1614 c1615 c1616 c1617 c1618 v) k v
theorem l2_eq (k : Nat) (K : Ex → St → Option Out) (a1 : Arg) (c1613 : List Tx) (c1614 : List Tx) (c1615 : Int) (c1616 : Int) (c1617 : List Key) (c1618 : Int) (v1612 : (List (Key × Bool)) × Int) : iterK (codeK E k fin (sub [1, 1, 1, 1, 0, 1, 0, 0, 1, 1, 0, 0, 1, 1, 0, 0] C)) (keepF [0, 6, 45, 46, 47, 52, 53, 54] []) K k ({ n := 68, sl := [(0, .val (.slc tTx) c1613), (6, .own (.map tKey .bool) (ownMd (.map tKey .bool)) [] v1612.1), (45, .val (.slc tTx) c1614), (46, .val i64 c1615), (47, .val i64 c1616), (52, .val (.slc tKey) c1617), (53, .val i64 c1618), (54, .val i64 v1612.2)], vr := [], lent := [] }) = l2 k a1 c1613 c1614 c1615 c1616 c1617 c1618 (X2_4 K a1 c1613 c1614 c1615 c1616 c1617 c1618) v1612 :=
  iter_raw _ _ K (fun v1612 => ({ n := 68, sl := [(0, .val (.slc tTx) c1613), (6, .own (.map tKey .bool) (ownMd (.map tKey .bool)) [] v1612.1), (45, .val (.slc tTx) c1614), (46, .val i64 c1615), (47, .val i64 c1616), (52, .val (.slc tKey) c1617), (53, .val i64 c1618), (54, .val i64 v1612.2)], vr := [], lent := [] } : St)) (fun self v => B2 k self (X2_4 K a1 c1613 c1614 c1615 c1616 c1617 c1618) a1 c1613 c1614 c1615 c1616 c1617 c1618 v) (fun rec v => B2_eq k rec K a1 c1613 c1614 c1615 c1616 c1617 c1618 v) k v1612
noncomputable def q1 (self : ((List Tx) × (List (Key × Bool)) × (List Tx) × Int × Int) → Option Out) (e2 : (List Tx) → Option Out) (a1 : Arg) (c1613 : List Tx) (c1614 : List Tx) (c1615 : Int) (c1616 : Int) (c1617 : List Key) (c1618 : Int) (z1820 : (List (Key × Bool))) : Option Out := self (c1613, z1820, c1614, c1615, w64 (c1616 + (1 : Int)))
noncomputable def Q1 (k : Nat) (self : ((List Tx) × (List (Key × Bool)) × (List Tx) × Int × Int) → Option Out) (e2 : (List Tx) → Option Out) (a1 : Arg) (c1613 : List Tx) (c1614 : List Tx) (c1615 : Int) (c1616 : Int) (c1617 : List Key) (c1618 : Int) (z1820 : (List (Key × Bool))) : Option Out := q1 self e2 a1 c1613 c1614 c1615 c1616 c1617 c1618 z1820
theorem q1_eq (k : Nat) (rec : St → Option Out) (K : Ex → St → Option Out) (a1 : Arg) (c1613 : List Tx) (c1614 : List Tx) (c1615 : Int) (c1616 : Int) (c1617 : List Key) (c1618 : Int) (z1820 : (List (Key × Bool))) : (blockC 4 (blockC 3 (seqC (codeK E k fin (sub [1, 1, 1, 1, 0, 1, 0, 0, 1, 1, 1] C)) (loopC rec (keepF [0, 6, 45, 46, 47] []) K)))) (.exit 4) ({ n := 68, sl := [(0, .val (.slc tTx) c1613), (6, .own (.map tKey .bool) (ownMd (.map tKey .bool)) [] z1820), (45, .val (.slc tTx) c1614), (46, .val i64 c1615), (47, .val i64 c1616)], vr := [], lent := [] }) = q1 (S1 rec a1) (X1_2 K a1) a1 c1613 c1614 c1615 c1616 c1617 c1618 z1820 := by kernel_rfl
theorem Q1_eq (k : Nat) (rec : St → Option Out) (K : Ex → St → Option Out) (a1 : Arg) (c1613 : List Tx) (c1614 : List Tx) (c1615 : Int) (c1616 : Int) (c1617 : List Key) (c1618 : Int) (z1820 : (List (Key × Bool))) : (blockC 4 (blockC 3 (seqC (codeK E k fin (sub [1, 1, 1, 1, 0, 1, 0, 0, 1, 1, 1] C)) (loopC rec (keepF [0, 6, 45, 46, 47] []) K)))) (.exit 4) ({ n := 68, sl := [(0, .val (.slc tTx) c1613), (6, .own (.map tKey .bool) (ownMd (.map tKey .bool)) [] z1820), (45, .val (.slc tTx) c1614), (46, .val i64 c1615), (47, .val i64 c1616)], vr := [], lent := [] }) = Q1 k (S1 rec a1) (X1_2 K a1) a1 c1613 c1614 c1615 c1616 c1617 c1618 z1820 := (q1_eq k rec K a1 c1613 c1614 c1615 c1616 c1617 c1618 z1820).trans (by rfl)
noncomputable def s2 (k : Nat) (rec : St → Option Out) (K : Ex → St → Option Out) (a1 : Arg) : (List Tx) → (List Tx) → Int → Int → (List Key) → Int → ((List (Key × Bool)) × Int) → Option Out := fun c1613 c1614 c1615 c1616 c1617 c1618 v1612 => iterK (codeK E k fin (sub [1, 1, 1, 1, 0, 1, 0, 0, 1, 1, 0, 0, 1, 1, 0, 0] C)) (keepF [0, 6, 45, 46, 47, 52, 53, 54] []) (blockC 4 (blockC 3 (seqC (codeK E k fin (sub [1, 1, 1, 1, 0, 1, 0, 0, 1, 1, 1] C)) (loopC rec (keepF [0, 6, 45, 46, 47] []) K)))) k ({ n := 68, sl := [(0, .val (.slc tTx) c1613), (6, .own (.map tKey .bool) (ownMd (.map tKey .bool)) [] v1612.1), (45, .val (.slc tTx) c1614), (46, .val i64 c1615), (47, .val i64 c1616), (52, .val (.slc tKey) c1617), (53, .val i64 c1618), (54, .val i64 v1612.2)], vr := [], lent := [] })
noncomputable def r2 (k : Nat) (self : ((List Tx) × (List (Key × Bool)) × (List Tx) × Int × Int) → Option Out) (e2 : (List Tx) → Option Out) (a1 : Arg) : (List Tx) → (List Tx) → Int → Int → (List Key) → Int → ((List (Key × Bool)) × Int) → Option Out := fun c1613 c1614 c1615 c1616 c1617 c1618 v1612 => l2 k a1 c1613 c1614 c1615 c1616 c1617 c1618 (fun z => Q1 k self e2 a1 c1613 c1614 c1615 c1616 c1617 c1618 z) v1612
theorem s2_eq (k : Nat) (rec : St → Option Out) (K : Ex → St → Option Out) (a1 : Arg) : s2 k rec K a1 = r2 k (S1 rec a1) (X1_2 K a1) a1 := by
  funext c1613; funext c1614; funext c1615; funext c1616; funext c1617; funext c1618; funext v1612;
  have h4 : X2_4 ((blockC 4 (blockC 3 (seqC (codeK E k fin (sub [1, 1, 1, 1, 0, 1, 0, 0, 1, 1, 1] C)) (loopC rec (keepF [0, 6, 45, 46, 47] []) K))))) a1 c1613 c1614 c1615 c1616 c1617 c1618 = fun z => Q1 k (S1 rec a1) (X1_2 K a1) a1 c1613 c1614 c1615 c1616 c1617 c1618 z := funext fun z => Q1_eq k rec K a1 c1613 c1614 c1615 c1616 c1617 c1618 z
  refine (l2_eq k ((blockC 4 (blockC 3 (seqC (codeK E k fin (sub [1, 1, 1, 1, 0, 1, 0, 0, 1, 1, 1] C)) (loopC rec (keepF [0, 6, 45, 46, 47] []) K))))) a1 c1613 c1614 c1615 c1616 c1617 c1618 v1612).trans ?_
  rw [h4]
  rfl
noncomputable def b1 (self : ((List Tx) × (List (Key × Bool)) × (List Tx) × Int × Int) → Option Out) (e2 : (List Tx) → Option Out) (l2 : (List Tx) → (List Tx) → Int → Int → (List Key) → Int → ((List (Key × Bool)) × Int) → Option Out) (a1 : Arg) (v1010 : (List Tx) × (List (Key × Bool)) × (List Tx) × Int × Int) : Option Out := bif decide (v1010.2.2.2.2 < v1010.2.2.2.1) then (if 0 ≤ v1010.2.2.2.2 then ((v1010.2.2.1[v1010.2.2.2.2.toNat]?).bind fun x1211 => l2 v1010.1 v1010.2.2.1 v1010.2.2.2.1 v1010.2.2.2.2 x1211.2.2.2.1 (x1211.2.2.2.1.length : Int) (v1010.2.1, (0 : Int))) else none) else e2 v1010.1
noncomputable def B1 (k : Nat) (self : ((List Tx) × (List (Key × Bool)) × (List Tx) × Int × Int) → Option Out) (e2 : (List Tx) → Option Out) (a1 : Arg) (v1010 : (List Tx) × (List (Key × Bool)) × (List Tx) × Int × Int) : Option Out := b1 self e2 (r2 k self e2 a1) a1 v1010
theorem b1_eq (k : Nat) (rec : St → Option Out) (K : Ex → St → Option Out) (a1 : Arg) (v1010 : (List Tx) × (List (Key × Bool)) × (List Tx) × Int × Int) : codeK E k fin (sub [1, 1, 1, 1, 0, 1, 0, 0] C) ({ n := 68, sl := [(0, .val (.slc tTx) v1010.1), (6, .own (.map tKey .bool) (ownMd (.map tKey .bool)) [] v1010.2.1), (45, .val (.slc tTx) v1010.2.2.1), (46, .val i64 v1010.2.2.2.1), (47, .val i64 v1010.2.2.2.2)], vr := [], lent := [] }) (loopC rec (keepF [0, 6, 45, 46, 47] []) K) = b1 (S1 rec a1) (X1_2 K a1) (s2 k rec K a1) a1 v1010 := by kernel_rfl
theorem B1_eq (k : Nat) (rec : St → Option Out) (K : Ex → St → Option Out) (a1 : Arg) (v1010 : (List Tx) × (List (Key × Bool)) × (List Tx) × Int × Int) : codeK E k fin (sub [1, 1, 1, 1, 0, 1, 0, 0] C) ({ n := 68, sl := [(0, .val (.slc tTx) v1010.1), (6, .own (.map tKey .bool) (ownMd (.map tKey .bool)) [] v1010.2.1), (45, .val (.slc tTx) v1010.2.2.1), (46, .val i64 v1010.2.2.2.1), (47, .val i64 v1010.2.2.2.2)], vr := [], lent := [] }) (loopC rec (keepF [0, 6, 45, 46, 47] []) K) = B1 k (S1 rec a1) (X1_2 K a1) a1 v1010 := (b1_eq k rec K a1 v1010).trans (by rw [s2_eq]; rfl)
noncomputable def l1 (k : Nat) (a1 : Arg) (e2 : (List Tx) → Option Out) (v : (List Tx) × (List (Key × Bool)) × (List Tx) × Int × Int) : Option Out := rawIter (fun self v => B1 k self e2 a1 v) k v
theorem l1_eq (k : Nat) (K : Ex → St → Option Out) (a1 : Arg) (v1010 : (List Tx) × (List (Key × Bool)) × (List Tx) × Int × Int) : iterK (codeK E k fin (sub [1, 1, 1, 1, 0, 1, 0, 0] C)) (keepF [0, 6, 45, 46, 47] []) K k ({ n := 68, sl := [(0, .val (.slc tTx) v1010.1), (6, .own (.map tKey .bool) (ownMd (.map tKey .bool)) [] v1010.2.1), (45, .val (.slc tTx) v1010.2.2.1), (46, .val i64 v1010.2.2.2.1), (47, .val i64 v1010.2.2.2.2)], vr := [], lent := [] }) = l1 k a1 (X1_2 K a1) v1010 :=
  iter_raw _ _ K (fun v1010 => ({ n := 68, sl := [(0, .val (.slc tTx) v1010.1), (6, .own (.map tKey .bool) (ownMd (.map tKey .bool)) [] v1010.2.1), (45, .val (.slc tTx) v1010.2.2.1), (46, .val i64 v1010.2.2.2.1), (47, .val i64 v1010.2.2.2.2)], vr := [], lent := [] } : St)) (fun self v => B1 k self (X1_2 K a1) a1 v) (fun rec v => B1_eq k rec K a1 v) k v1010
noncomputable def q2 (a1 : Arg) (z1821 : (List Tx)) : Option Out := (impl_undone.sem (z1821, ())).bind fun r1822 => bif decide ((12 : Int) < r1822.1) then (some ((2 : Int), ())) else some ((0 : Int), ())
noncomputable def Q2 (k : Nat) (a1 : Arg) (z1821 : (List Tx)) : Option Out := q2 a1 z1821
theorem q2_eq (k : Nat) (a1 : Arg) (z1821 : (List Tx)) : (blockC 2 (seqC (codeK E k fin (sub [1, 1, 1, 1, 1] C)) K0)) (.exit 2) ({ n := 68, sl := [(0, .val (.slc tTx) z1821)], vr := [], lent := [] }) = q2 a1 z1821 := by kernel_rfl
theorem Q2_eq (k : Nat) (a1 : Arg) (z1821 : (List Tx)) : (blockC 2 (seqC (codeK E k fin (sub [1, 1, 1, 1, 1] C)) K0)) (.exit 2) ({ n := 68, sl := [(0, .val (.slc tTx) z1821)], vr := [], lent := [] }) = Q2 k a1 z1821 := (q2_eq k a1 z1821).trans (by rfl)
noncomputable def s1 (k : Nat) (a1 : Arg) : ((List Tx) × (List (Key × Bool)) × (List Tx) × Int × Int) → Option Out := fun v1010 => iterK (codeK E k fin (sub [1, 1, 1, 1, 0, 1, 0, 0] C)) (keepF [0, 6, 45, 46, 47] []) (blockC 2 (seqC (codeK E k fin (sub [1, 1, 1, 1, 1] C)) K0)) k ({ n := 68, sl := [(0, .val (.slc tTx) v1010.1), (6, .own (.map tKey .bool) (ownMd (.map tKey .bool)) [] v1010.2.1), (45, .val (.slc tTx) v1010.2.2.1), (46, .val i64 v1010.2.2.2.1), (47, .val i64 v1010.2.2.2.2)], vr := [], lent := [] })
noncomputable def r1 (k : Nat) (a1 : Arg) : ((List Tx) × (List (Key × Bool)) × (List Tx) × Int × Int) → Option Out := fun v1010 => l1 k a1 (fun z => Q2 k a1 z) v1010
theorem s1_eq (k : Nat) (a1 : Arg) : s1 k a1 = r1 k a1 := by
  funext v1010;
  have h2 : X1_2 ((blockC 2 (seqC (codeK E k fin (sub [1, 1, 1, 1, 1] C)) K0))) a1 = fun z => Q2 k a1 z := funext fun z => Q2_eq k a1 z
  refine (l1_eq k ((blockC 2 (seqC (codeK E k fin (sub [1, 1, 1, 1, 1] C)) K0))) a1 v1010).trans ?_
  rw [h2]
  rfl
noncomputable def q0 (l1 : ((List Tx) × (List (Key × Bool)) × (List Tx) × Int × Int) → Option Out) (a1 : Arg) (z609 : (Unit)) : Option Out := l1 (a1.1, ([] : List (Key × Bool)), a1.1, (a1.1.length : Int), (0 : Int))
noncomputable def Q0 (k : Nat) (a1 : Arg) (z609 : (Unit)) : Option Out := q0 (r1 k a1) a1 z609
theorem q0_eq (k : Nat) (a1 : Arg) (z609 : (Unit)) : (blockC 0 (seqC (codeK E k fin (sub [1, 1, 1] C)) K0)) (.exit 0) ({ n := 68, sl := [(0, .val (.slc tTx) a1.1)], vr := [], lent := [] }) = q0 (s1 k a1) a1 z609 := by kernel_rfl
theorem Q0_eq (k : Nat) (a1 : Arg) (z609 : (Unit)) : (blockC 0 (seqC (codeK E k fin (sub [1, 1, 1] C)) K0)) (.exit 0) ({ n := 68, sl := [(0, .val (.slc tTx) a1.1)], vr := [], lent := [] }) = Q0 k a1 z609 := (q0_eq k a1 z609).trans (by rw [s1_eq]; rfl)
noncomputable def s0 (k : Nat) (a1 : Arg) : (Int) → Option Out := fun v402 => iterK (codeK E k fin (sub [1, 1, 0, 1, 0, 0] C)) (keepF [0, 14, 15, 16] []) (blockC 0 (seqC (codeK E k fin (sub [1, 1, 1] C)) K0)) k ({ n := 68, sl := [(0, .val (.slc tTx) a1.1), (14, .val (.slc tTx) a1.1), (15, .val i64 (a1.1.length : Int)), (16, .val i64 v402)], vr := [], lent := [] })
noncomputable def r0 (k : Nat) (a1 : Arg) : (Int) → Option Out := fun v402 => l0 k a1 (fun z => Q0 k a1 z) v402
theorem s0_eq (k : Nat) (a1 : Arg) : s0 k a1 = r0 k a1 := by
  funext v402;
  have h0 : X0_0 ((blockC 0 (seqC (codeK E k fin (sub [1, 1, 1] C)) K0))) a1 = fun z => Q0 k a1 z := funext fun z => Q0_eq k a1 z
  refine (l0_eq k ((blockC 0 (seqC (codeK E k fin (sub [1, 1, 1] C)) K0))) a1 v402).trans ?_
  rw [h0]
  rfl
noncomputable def p (l0 : (Int) → Option Out) (a1 : Arg) : Option Out := bif decide ((4 : Int) < (a1.1.length : Int)) then (some ((2 : Int), ())) else l0 (0 : Int)
noncomputable def raw (k : Nat) (a1 : Arg) : Option Out := p (r0 k a1) a1
theorem p_eq (k : Nat) (a1 : Arg) : bodyK E k Go.Proofs.Try.f46 ps rs [] [] a1 = p (s0 k a1) a1 := by kernel_rfl
theorem raw_eq (k : Nat) (a1 : Arg) : bodyK E k Go.Proofs.Try.f46 ps rs [] [] a1 = raw k a1 := (p_eq k a1).trans (by rw [s0_eq]; rfl)
theorem ent : EnterOk Go.Proofs.Try.prog 46 sig.cap := ⟨Go.Proofs.Try.f46, Go.Proofs.Try.func46, by kernel_rfl, by kernel_rfl, by kernel_rfl⟩
theorem env : EnvOk Go.Proofs.Try.prog E := env_ok (tl := [(2, i64), (29, (.slc tTx)), (97, (.slc tKey)), (99, tTx), (100, (.map tKey .bool)), (146, tKey)]) (gl := [(92, impl_isTx.sig), (93, impl_txFault.sig), (94, impl_undone.sig)]) rfl rfl (by kernel_rfl) (by kernel_rfl) (fn_cons impl_isTx.snd impl_isTx.ent (fn_cons impl_txFault.snd impl_txFault.ent (fn_cons impl_undone.snd impl_undone.ent (fn_nil _))))
theorem chk : funOk Go.Proofs.Try.prog E Go.Proofs.Try.f46 ps rs [] = true := by kernel_rfl
theorem snd : Sound Go.Proofs.Try.prog 46 sig := sound_of_body env Go.Proofs.Try.func46 rfl (es := []) (fr := []) chk (fun _ _ h => lift_some h)
end impl_TxsFault
namespace impl_keysOf
/-! loop example g00408 impl keysOf -/
abbrev Arg : Type := (List Row) × (List Tx) × Unit
abbrev Out : Type := (List (Key × Bool)) × Unit
noncomputable def ps : List (PM × Ty) := [(.ro, (.slc tRow)), (.ro, (.slc tTx))]
noncomputable def rs : List (Ty × Md) := [((.map tKey .bool), (ownMd (.map tKey .bool)))]
noncomputable def E : Env := { TI := lookN [(2, i64), (28, (.slc tRow)), (29, (.slc tTx)), (48, tRow), (97, (.slc tKey)), (99, tTx), (100, (.map tKey .bool)), (146, tKey)], G := lookN [], fz := [], lv := [(3, [1, 5, 13, 14, 15]), (8, [5, 26, 27, 28]), (11, [5, 26, 27, 28, 33, 34, 35])], lx := [(0, [1, 5]), (2, [5]), (4, [5, 26, 27, 28])], lf := [], od := [] }
noncomputable def sem (a : Arg) : Option Out := lift fun k => bodyK E k Go.Proofs.Try.f48 ps rs [] [] a
noncomputable def sig : Sig := { ps := ps, rs := rs, F := fun a => sem a }
noncomputable def C : Code := bodyOf Go.Proofs.Try.f48
noncomputable def fin : St → Option Out := outK ps rs [] (Func.results Go.Proofs.Try.f48).toList (mvs [])
noncomputable def K0 : Ex → St → Option Out := endK fin
noncomputable def S0 (rec : St → Option Out) (a1 : Arg) : ((List (Key × Bool)) × Int) → Option Out := fun v402 => rec ({ n := 44, sl := [(1, .val (.slc tTx) a1.2.1), (5, .own (.map tKey .bool) (ownMd (.map tKey .bool)) [] v402.1), (13, .val (.slc tRow) a1.1), (14, .val i64 (a1.1.length : Int)), (15, .val i64 v402.2)], vr := [], lent := [] })
noncomputable def X0_0 (K : Ex → St → Option Out) (a1 : Arg) : (List (Key × Bool)) → Option Out := fun z => K (.exit 0) ({ n := 44, sl := [(1, .val (.slc tTx) a1.2.1), (5, .own (.map tKey .bool) (ownMd (.map tKey .bool)) [] z)], vr := [], lent := [] })
noncomputable def b0 (self : ((List (Key × Bool)) × Int) → Option Out) (e0 : (List (Key × Bool)) → Option Out) (a1 : Arg) (v402 : (List (Key × Bool)) × Int) : Option Out := bif decide (v402.2 < (a1.1.length : Int)) then (if 0 ≤ v402.2 then ((a1.1[v402.2.toNat]?).bind fun x603 => let y604 := mapPut tKey v402.1 (x603.1, x603.2.1, ()) true; self (y604, w64 (v402.2 + (1 : Int)))) else none) else e0 v402.1
noncomputable def B0 (k : Nat) (self : ((List (Key × Bool)) × Int) → Option Out) (e0 : (List (Key × Bool)) → Option Out) (a1 : Arg) (v402 : (List (Key × Bool)) × Int) : Option Out := b0 self e0 a1 v402
theorem b0_eq (k : Nat) (rec : St → Option Out) (K : Ex → St → Option Out) (a1 : Arg) (v402 : (List (Key × Bool)) × Int) : codeK E k fin (sub [1, 1, 0, 1, 0, 0] C) ({ n := 44, sl := [(1, .val (.slc tTx) a1.2.1), (5, .own (.map tKey .bool) (ownMd (.map tKey .bool)) [] v402.1), (13, .val (.slc tRow) a1.1), (14, .val i64 (a1.1.length : Int)), (15, .val i64 v402.2)], vr := [], lent := [] }) (loopC rec (keepF [1, 5, 13, 14, 15] []) K) = b0 (S0 rec a1) (X0_0 K a1) a1 v402 := by kernel_rfl
theorem B0_eq (k : Nat) (rec : St → Option Out) (K : Ex → St → Option Out) (a1 : Arg) (v402 : (List (Key × Bool)) × Int) : codeK E k fin (sub [1, 1, 0, 1, 0, 0] C) ({ n := 44, sl := [(1, .val (.slc tTx) a1.2.1), (5, .own (.map tKey .bool) (ownMd (.map tKey .bool)) [] v402.1), (13, .val (.slc tRow) a1.1), (14, .val i64 (a1.1.length : Int)), (15, .val i64 v402.2)], vr := [], lent := [] }) (loopC rec (keepF [1, 5, 13, 14, 15] []) K) = B0 k (S0 rec a1) (X0_0 K a1) a1 v402 := (b0_eq k rec K a1 v402).trans (by rfl)
noncomputable def l0 (k : Nat) (a1 : Arg) (e0 : (List (Key × Bool)) → Option Out) (v : (List (Key × Bool)) × Int) : Option Out := rawIter (fun self v => B0 k self e0 a1 v) k v
theorem l0_eq (k : Nat) (K : Ex → St → Option Out) (a1 : Arg) (v402 : (List (Key × Bool)) × Int) : iterK (codeK E k fin (sub [1, 1, 0, 1, 0, 0] C)) (keepF [1, 5, 13, 14, 15] []) K k ({ n := 44, sl := [(1, .val (.slc tTx) a1.2.1), (5, .own (.map tKey .bool) (ownMd (.map tKey .bool)) [] v402.1), (13, .val (.slc tRow) a1.1), (14, .val i64 (a1.1.length : Int)), (15, .val i64 v402.2)], vr := [], lent := [] }) = l0 k a1 (X0_0 K a1) v402 :=
  iter_raw _ _ K (fun v402 => ({ n := 44, sl := [(1, .val (.slc tTx) a1.2.1), (5, .own (.map tKey .bool) (ownMd (.map tKey .bool)) [] v402.1), (13, .val (.slc tRow) a1.1), (14, .val i64 (a1.1.length : Int)), (15, .val i64 v402.2)], vr := [], lent := [] } : St)) (fun self v => B0 k self (X0_0 K a1) a1 v) (fun rec v => B0_eq k rec K a1 v) k v402
noncomputable def S1 (rec : St → Option Out) (a1 : Arg) : ((List (Key × Bool)) × (List Tx) × Int × Int) → Option Out := fun v1006 => rec ({ n := 44, sl := [(5, .own (.map tKey .bool) (ownMd (.map tKey .bool)) [] v1006.1), (26, .val (.slc tTx) v1006.2.1), (27, .val i64 v1006.2.2.1), (28, .val i64 v1006.2.2.2)], vr := [], lent := [] })
noncomputable def X1_2 (K : Ex → St → Option Out) (a1 : Arg) : (List (Key × Bool)) → Option Out := fun z => K (.exit 2) ({ n := 44, sl := [(5, .own (.map tKey .bool) (ownMd (.map tKey .bool)) [] z)], vr := [], lent := [] })
noncomputable def S2 (rec : St → Option Out) (a1 : Arg) (c1609 : List Tx) (c1610 : Int) (c1611 : Int) (c1612 : List Key) (c1613 : Int) : ((List (Key × Bool)) × Int) → Option Out := fun v1608 => rec ({ n := 44, sl := [(5, .own (.map tKey .bool) (ownMd (.map tKey .bool)) [] v1608.1), (26, .val (.slc tTx) c1609), (27, .val i64 c1610), (28, .val i64 c1611), (33, .val (.slc tKey) c1612), (34, .val i64 c1613), (35, .val i64 v1608.2)], vr := [], lent := [] })
noncomputable def X2_4 (K : Ex → St → Option Out) (a1 : Arg) (c1609 : List Tx) (c1610 : Int) (c1611 : Int) (c1612 : List Key) (c1613 : Int) : (List (Key × Bool)) → Option Out := fun z => K (.exit 4) ({ n := 44, sl := [(5, .own (.map tKey .bool) (ownMd (.map tKey .bool)) [] z), (26, .val (.slc tTx) c1609), (27, .val i64 c1610), (28, .val i64 c1611)], vr := [], lent := [] })
noncomputable def b2 (self : ((List (Key × Bool)) × Int) → Option Out) (e4 : (List (Key × Bool)) → Option Out) (a1 : Arg) (c1609 : List Tx) (c1610 : Int) (c1611 : Int) (c1612 : List Key) (c1613 : Int) (v1608 : (List (Key × Bool)) × Int) : Option Out := bif decide (v1608.2 < c1613) then (if 0 ≤ v1608.2 then ((c1612[v1608.2.toNat]?).bind fun x1814 => self (mapPut tKey v1608.1 x1814 true, w64 (v1608.2 + (1 : Int)))) else none) else e4 v1608.1
noncomputable def B2 (k : Nat) (self : ((List (Key × Bool)) × Int) → Option Out) (e4 : (List (Key × Bool)) → Option Out) (a1 : Arg) (c1609 : List Tx) (c1610 : Int) (c1611 : Int) (c1612 : List Key) (c1613 : Int) (v1608 : (List (Key × Bool)) × Int) : Option Out := b2 self e4 a1 c1609 c1610 c1611 c1612 c1613 v1608
theorem b2_eq (k : Nat) (rec : St → Option Out) (K : Ex → St → Option Out) (a1 : Arg) (c1609 : List Tx) (c1610 : Int) (c1611 : Int) (c1612 : List Key) (c1613 : Int) (v1608 : (List (Key × Bool)) × Int) : codeK E k fin (sub [1, 1, 1, 0, 1, 0, 0, 1, 1, 0, 0, 1, 1, 0, 0] C) ({ n := 44, sl := [(5, .own (.map tKey .bool) (ownMd (.map tKey .bool)) [] v1608.1), (26, .val (.slc tTx) c1609), (27, .val i64 c1610), (28, .val i64 c1611), (33, .val (.slc tKey) c1612), (34, .val i64 c1613), (35, .val i64 v1608.2)], vr := [], lent := [] }) (loopC rec (keepF [5, 26, 27, 28, 33, 34, 35] []) K) = b2 (S2 rec a1 c1609 c1610 c1611 c1612 c1613) (X2_4 K a1 c1609 c1610 c1611 c1612 c1613) a1 c1609 c1610 c1611 c1612 c1613 v1608 := by kernel_rfl
theorem B2_eq (k : Nat) (rec : St → Option Out) (K : Ex → St → Option Out) (a1 : Arg) (c1609 : List Tx) (c1610 : Int) (c1611 : Int) (c1612 : List Key) (c1613 : Int) (v1608 : (List (Key × Bool)) × Int) : codeK E k fin (sub [1, 1, 1, 0, 1, 0, 0, 1, 1, 0, 0, 1, 1, 0, 0] C) ({ n := 44, sl := [(5, .own (.map tKey .bool) (ownMd (.map tKey .bool)) [] v1608.1), (26, .val (.slc tTx) c1609), (27, .val i64 c1610), (28, .val i64 c1611), (33, .val (.slc tKey) c1612), (34, .val i64 c1613), (35, .val i64 v1608.2)], vr := [], lent := [] }) (loopC rec (keepF [5, 26, 27, 28, 33, 34, 35] []) K) = B2 k (S2 rec a1 c1609 c1610 c1611 c1612 c1613) (X2_4 K a1 c1609 c1610 c1611 c1612 c1613) a1 c1609 c1610 c1611 c1612 c1613 v1608 := (b2_eq k rec K a1 c1609 c1610 c1611 c1612 c1613 v1608).trans (by rfl)
noncomputable def l2 (k : Nat) (a1 : Arg) (c1609 : List Tx) (c1610 : Int) (c1611 : Int) (c1612 : List Key) (c1613 : Int) (e4 : (List (Key × Bool)) → Option Out) (v : (List (Key × Bool)) × Int) : Option Out := rawIter (fun self v => B2 k self e4 a1 c1609 c1610 c1611 c1612 c1613 v) k v
theorem l2_eq (k : Nat) (K : Ex → St → Option Out) (a1 : Arg) (c1609 : List Tx) (c1610 : Int) (c1611 : Int) (c1612 : List Key) (c1613 : Int) (v1608 : (List (Key × Bool)) × Int) : iterK (codeK E k fin (sub [1, 1, 1, 0, 1, 0, 0, 1, 1, 0, 0, 1, 1, 0, 0] C)) (keepF [5, 26, 27, 28, 33, 34, 35] []) K k ({ n := 44, sl := [(5, .own (.map tKey .bool) (ownMd (.map tKey .bool)) [] v1608.1), (26, .val (.slc tTx) c1609), (27, .val i64 c1610), (28, .val i64 c1611), (33, .val (.slc tKey) c1612), (34, .val i64 c1613), (35, .val i64 v1608.2)], vr := [], lent := [] }) = l2 k a1 c1609 c1610 c1611 c1612 c1613 (X2_4 K a1 c1609 c1610 c1611 c1612 c1613) v1608 :=
  iter_raw _ _ K (fun v1608 => ({ n := 44, sl := [(5, .own (.map tKey .bool) (ownMd (.map tKey .bool)) [] v1608.1), (26, .val (.slc tTx) c1609), (27, .val i64 c1610), (28, .val i64 c1611), (33, .val (.slc tKey) c1612), (34, .val i64 c1613), (35, .val i64 v1608.2)], vr := [], lent := [] } : St)) (fun self v => B2 k self (X2_4 K a1 c1609 c1610 c1611 c1612 c1613) a1 c1609 c1610 c1611 c1612 c1613 v) (fun rec v => B2_eq k rec K a1 c1609 c1610 c1611 c1612 c1613 v) k v1608
noncomputable def q1 (self : ((List (Key × Bool)) × (List Tx) × Int × Int) → Option Out) (e2 : (List (Key × Bool)) → Option Out) (a1 : Arg) (c1609 : List Tx) (c1610 : Int) (c1611 : Int) (c1612 : List Key) (c1613 : Int) (z1815 : (List (Key × Bool))) : Option Out := self (z1815, c1609, c1610, w64 (c1611 + (1 : Int)))
noncomputable def Q1 (k : Nat) (self : ((List (Key × Bool)) × (List Tx) × Int × Int) → Option Out) (e2 : (List (Key × Bool)) → Option Out) (a1 : Arg) (c1609 : List Tx) (c1610 : Int) (c1611 : Int) (c1612 : List Key) (c1613 : Int) (z1815 : (List (Key × Bool))) : Option Out := q1 self e2 a1 c1609 c1610 c1611 c1612 c1613 z1815
theorem q1_eq (k : Nat) (rec : St → Option Out) (K : Ex → St → Option Out) (a1 : Arg) (c1609 : List Tx) (c1610 : Int) (c1611 : Int) (c1612 : List Key) (c1613 : Int) (z1815 : (List (Key × Bool))) : (blockC 4 (blockC 3 (seqC (codeK E k fin (sub [1, 1, 1, 0, 1, 0, 0, 1, 1, 1] C)) (loopC rec (keepF [5, 26, 27, 28] []) K)))) (.exit 4) ({ n := 44, sl := [(5, .own (.map tKey .bool) (ownMd (.map tKey .bool)) [] z1815), (26, .val (.slc tTx) c1609), (27, .val i64 c1610), (28, .val i64 c1611)], vr := [], lent := [] }) = q1 (S1 rec a1) (X1_2 K a1) a1 c1609 c1610 c1611 c1612 c1613 z1815 := by kernel_rfl
theorem Q1_eq (k : Nat) (rec : St → Option Out) (K : Ex → St → Option Out) (a1 : Arg) (c1609 : List Tx) (c1610 : Int) (c1611 : Int) (c1612 : List Key) (c1613 : Int) (z1815 : (List (Key × Bool))) : (blockC 4 (blockC 3 (seqC (codeK E k fin (sub [1, 1, 1, 0, 1, 0, 0, 1, 1, 1] C)) (loopC rec (keepF [5, 26, 27, 28] []) K)))) (.exit 4) ({ n := 44, sl := [(5, .own (.map tKey .bool) (ownMd (.map tKey .bool)) [] z1815), (26, .val (.slc tTx) c1609), (27, .val i64 c1610), (28, .val i64 c1611)], vr := [], lent := [] }) = Q1 k (S1 rec a1) (X1_2 K a1) a1 c1609 c1610 c1611 c1612 c1613 z1815 := (q1_eq k rec K a1 c1609 c1610 c1611 c1612 c1613 z1815).trans (by rfl)
noncomputable def s2 (k : Nat) (rec : St → Option Out) (K : Ex → St → Option Out) (a1 : Arg) : (List Tx) → Int → Int → (List Key) → Int → ((List (Key × Bool)) × Int) → Option Out := fun c1609 c1610 c1611 c1612 c1613 v1608 => iterK (codeK E k fin (sub [1, 1, 1, 0, 1, 0, 0, 1, 1, 0, 0, 1, 1, 0, 0] C)) (keepF [5, 26, 27, 28, 33, 34, 35] []) (blockC 4 (blockC 3 (seqC (codeK E k fin (sub [1, 1, 1, 0, 1, 0, 0, 1, 1, 1] C)) (loopC rec (keepF [5, 26, 27, 28] []) K)))) k ({ n := 44, sl := [(5, .own (.map tKey .bool) (ownMd (.map tKey .bool)) [] v1608.1), (26, .val (.slc tTx) c1609), (27, .val i64 c1610), (28, .val i64 c1611), (33, .val (.slc tKey) c1612), (34, .val i64 c1613), (35, .val i64 v1608.2)], vr := [], lent := [] })
noncomputable def r2 (k : Nat) (self : ((List (Key × Bool)) × (List Tx) × Int × Int) → Option Out) (e2 : (List (Key × Bool)) → Option Out) (a1 : Arg) : (List Tx) → Int → Int → (List Key) → Int → ((List (Key × Bool)) × Int) → Option Out := fun c1609 c1610 c1611 c1612 c1613 v1608 => l2 k a1 c1609 c1610 c1611 c1612 c1613 (fun z => Q1 k self e2 a1 c1609 c1610 c1611 c1612 c1613 z) v1608
theorem s2_eq (k : Nat) (rec : St → Option Out) (K : Ex → St → Option Out) (a1 : Arg) : s2 k rec K a1 = r2 k (S1 rec a1) (X1_2 K a1) a1 := by
  funext c1609; funext c1610; funext c1611; funext c1612; funext c1613; funext v1608;
  have h4 : X2_4 ((blockC 4 (blockC 3 (seqC (codeK E k fin (sub [1, 1, 1, 0, 1, 0, 0, 1, 1, 1] C)) (loopC rec (keepF [5, 26, 27, 28] []) K))))) a1 c1609 c1610 c1611 c1612 c1613 = fun z => Q1 k (S1 rec a1) (X1_2 K a1) a1 c1609 c1610 c1611 c1612 c1613 z := funext fun z => Q1_eq k rec K a1 c1609 c1610 c1611 c1612 c1613 z
  refine (l2_eq k ((blockC 4 (blockC 3 (seqC (codeK E k fin (sub [1, 1, 1, 0, 1, 0, 0, 1, 1, 1] C)) (loopC rec (keepF [5, 26, 27, 28] []) K))))) a1 c1609 c1610 c1611 c1612 c1613 v1608).trans ?_
  rw [h4]
  rfl
noncomputable def b1 (self : ((List (Key × Bool)) × (List Tx) × Int × Int) → Option Out) (e2 : (List (Key × Bool)) → Option Out) (l2 : (List Tx) → Int → Int → (List Key) → Int → ((List (Key × Bool)) × Int) → Option Out) (a1 : Arg) (v1006 : (List (Key × Bool)) × (List Tx) × Int × Int) : Option Out := bif decide (v1006.2.2.2 < v1006.2.2.1) then (if 0 ≤ v1006.2.2.2 then ((v1006.2.1[v1006.2.2.2.toNat]?).bind fun x1207 => l2 v1006.2.1 v1006.2.2.1 v1006.2.2.2 x1207.2.2.2.1 (x1207.2.2.2.1.length : Int) (v1006.1, (0 : Int))) else none) else e2 v1006.1
noncomputable def B1 (k : Nat) (self : ((List (Key × Bool)) × (List Tx) × Int × Int) → Option Out) (e2 : (List (Key × Bool)) → Option Out) (a1 : Arg) (v1006 : (List (Key × Bool)) × (List Tx) × Int × Int) : Option Out := b1 self e2 (r2 k self e2 a1) a1 v1006
theorem b1_eq (k : Nat) (rec : St → Option Out) (K : Ex → St → Option Out) (a1 : Arg) (v1006 : (List (Key × Bool)) × (List Tx) × Int × Int) : codeK E k fin (sub [1, 1, 1, 0, 1, 0, 0] C) ({ n := 44, sl := [(5, .own (.map tKey .bool) (ownMd (.map tKey .bool)) [] v1006.1), (26, .val (.slc tTx) v1006.2.1), (27, .val i64 v1006.2.2.1), (28, .val i64 v1006.2.2.2)], vr := [], lent := [] }) (loopC rec (keepF [5, 26, 27, 28] []) K) = b1 (S1 rec a1) (X1_2 K a1) (s2 k rec K a1) a1 v1006 := by kernel_rfl
theorem B1_eq (k : Nat) (rec : St → Option Out) (K : Ex → St → Option Out) (a1 : Arg) (v1006 : (List (Key × Bool)) × (List Tx) × Int × Int) : codeK E k fin (sub [1, 1, 1, 0, 1, 0, 0] C) ({ n := 44, sl := [(5, .own (.map tKey .bool) (ownMd (.map tKey .bool)) [] v1006.1), (26, .val (.slc tTx) v1006.2.1), (27, .val i64 v1006.2.2.1), (28, .val i64 v1006.2.2.2)], vr := [], lent := [] }) (loopC rec (keepF [5, 26, 27, 28] []) K) = B1 k (S1 rec a1) (X1_2 K a1) a1 v1006 := (b1_eq k rec K a1 v1006).trans (by rw [s2_eq]; rfl)
noncomputable def l1 (k : Nat) (a1 : Arg) (e2 : (List (Key × Bool)) → Option Out) (v : (List (Key × Bool)) × (List Tx) × Int × Int) : Option Out := rawIter (fun self v => B1 k self e2 a1 v) k v
theorem l1_eq (k : Nat) (K : Ex → St → Option Out) (a1 : Arg) (v1006 : (List (Key × Bool)) × (List Tx) × Int × Int) : iterK (codeK E k fin (sub [1, 1, 1, 0, 1, 0, 0] C)) (keepF [5, 26, 27, 28] []) K k ({ n := 44, sl := [(5, .own (.map tKey .bool) (ownMd (.map tKey .bool)) [] v1006.1), (26, .val (.slc tTx) v1006.2.1), (27, .val i64 v1006.2.2.1), (28, .val i64 v1006.2.2.2)], vr := [], lent := [] }) = l1 k a1 (X1_2 K a1) v1006 :=
  iter_raw _ _ K (fun v1006 => ({ n := 44, sl := [(5, .own (.map tKey .bool) (ownMd (.map tKey .bool)) [] v1006.1), (26, .val (.slc tTx) v1006.2.1), (27, .val i64 v1006.2.2.1), (28, .val i64 v1006.2.2.2)], vr := [], lent := [] } : St)) (fun self v => B1 k self (X1_2 K a1) a1 v) (fun rec v => B1_eq k rec K a1 v) k v1006
noncomputable def q2 (a1 : Arg) (z1816 : (List (Key × Bool))) : Option Out := some (z1816, ())
noncomputable def Q2 (k : Nat) (a1 : Arg) (z1816 : (List (Key × Bool))) : Option Out := q2 a1 z1816
theorem q2_eq (k : Nat) (a1 : Arg) (z1816 : (List (Key × Bool))) : (blockC 2 (seqC (codeK E k fin (sub [1, 1, 1, 1] C)) K0)) (.exit 2) ({ n := 44, sl := [(5, .own (.map tKey .bool) (ownMd (.map tKey .bool)) [] z1816)], vr := [], lent := [] }) = q2 a1 z1816 := by kernel_rfl
theorem Q2_eq (k : Nat) (a1 : Arg) (z1816 : (List (Key × Bool))) : (blockC 2 (seqC (codeK E k fin (sub [1, 1, 1, 1] C)) K0)) (.exit 2) ({ n := 44, sl := [(5, .own (.map tKey .bool) (ownMd (.map tKey .bool)) [] z1816)], vr := [], lent := [] }) = Q2 k a1 z1816 := (q2_eq k a1 z1816).trans (by rfl)
noncomputable def s1 (k : Nat) (a1 : Arg) : ((List (Key × Bool)) × (List Tx) × Int × Int) → Option Out := fun v1006 => iterK (codeK E k fin (sub [1, 1, 1, 0, 1, 0, 0] C)) (keepF [5, 26, 27, 28] []) (blockC 2 (seqC (codeK E k fin (sub [1, 1, 1, 1] C)) K0)) k ({ n := 44, sl := [(5, .own (.map tKey .bool) (ownMd (.map tKey .bool)) [] v1006.1), (26, .val (.slc tTx) v1006.2.1), (27, .val i64 v1006.2.2.1), (28, .val i64 v1006.2.2.2)], vr := [], lent := [] })
noncomputable def r1 (k : Nat) (a1 : Arg) : ((List (Key × Bool)) × (List Tx) × Int × Int) → Option Out := fun v1006 => l1 k a1 (fun z => Q2 k a1 z) v1006
theorem s1_eq (k : Nat) (a1 : Arg) : s1 k a1 = r1 k a1 := by
  funext v1006;
  have h2 : X1_2 ((blockC 2 (seqC (codeK E k fin (sub [1, 1, 1, 1] C)) K0))) a1 = fun z => Q2 k a1 z := funext fun z => Q2_eq k a1 z
  refine (l1_eq k ((blockC 2 (seqC (codeK E k fin (sub [1, 1, 1, 1] C)) K0))) a1 v1006).trans ?_
  rw [h2]
  rfl
noncomputable def q0 (l1 : ((List (Key × Bool)) × (List Tx) × Int × Int) → Option Out) (a1 : Arg) (z605 : (List (Key × Bool))) : Option Out := l1 (z605, a1.2.1, (a1.2.1.length : Int), (0 : Int))
noncomputable def Q0 (k : Nat) (a1 : Arg) (z605 : (List (Key × Bool))) : Option Out := q0 (r1 k a1) a1 z605
theorem q0_eq (k : Nat) (a1 : Arg) (z605 : (List (Key × Bool))) : (blockC 0 (seqC (codeK E k fin (sub [1, 1, 1] C)) K0)) (.exit 0) ({ n := 44, sl := [(1, .val (.slc tTx) a1.2.1), (5, .own (.map tKey .bool) (ownMd (.map tKey .bool)) [] z605)], vr := [], lent := [] }) = q0 (s1 k a1) a1 z605 := by kernel_rfl
theorem Q0_eq (k : Nat) (a1 : Arg) (z605 : (List (Key × Bool))) : (blockC 0 (seqC (codeK E k fin (sub [1, 1, 1] C)) K0)) (.exit 0) ({ n := 44, sl := [(1, .val (.slc tTx) a1.2.1), (5, .own (.map tKey .bool) (ownMd (.map tKey .bool)) [] z605)], vr := [], lent := [] }) = Q0 k a1 z605 := (q0_eq k a1 z605).trans (by rw [s1_eq]; rfl)
noncomputable def s0 (k : Nat) (a1 : Arg) : ((List (Key × Bool)) × Int) → Option Out := fun v402 => iterK (codeK E k fin (sub [1, 1, 0, 1, 0, 0] C)) (keepF [1, 5, 13, 14, 15] []) (blockC 0 (seqC (codeK E k fin (sub [1, 1, 1] C)) K0)) k ({ n := 44, sl := [(1, .val (.slc tTx) a1.2.1), (5, .own (.map tKey .bool) (ownMd (.map tKey .bool)) [] v402.1), (13, .val (.slc tRow) a1.1), (14, .val i64 (a1.1.length : Int)), (15, .val i64 v402.2)], vr := [], lent := [] })
noncomputable def r0 (k : Nat) (a1 : Arg) : ((List (Key × Bool)) × Int) → Option Out := fun v402 => l0 k a1 (fun z => Q0 k a1 z) v402
theorem s0_eq (k : Nat) (a1 : Arg) : s0 k a1 = r0 k a1 := by
  funext v402;
  have h0 : X0_0 ((blockC 0 (seqC (codeK E k fin (sub [1, 1, 1] C)) K0))) a1 = fun z => Q0 k a1 z := funext fun z => Q0_eq k a1 z
  refine (l0_eq k ((blockC 0 (seqC (codeK E k fin (sub [1, 1, 1] C)) K0))) a1 v402).trans ?_
  rw [h0]
  rfl
noncomputable def p (l0 : ((List (Key × Bool)) × Int) → Option Out) (a1 : Arg) : Option Out := l0 (([] : List (Key × Bool)), (0 : Int))
noncomputable def raw (k : Nat) (a1 : Arg) : Option Out := p (r0 k a1) a1
theorem p_eq (k : Nat) (a1 : Arg) : bodyK E k Go.Proofs.Try.f48 ps rs [] [] a1 = p (s0 k a1) a1 := by kernel_rfl
theorem raw_eq (k : Nat) (a1 : Arg) : bodyK E k Go.Proofs.Try.f48 ps rs [] [] a1 = raw k a1 := (p_eq k a1).trans (by rw [s0_eq]; rfl)
theorem ent : EnterOk Go.Proofs.Try.prog 48 sig.cap := ⟨Go.Proofs.Try.f48, Go.Proofs.Try.func48, by kernel_rfl, by kernel_rfl, by kernel_rfl⟩
theorem env : EnvOk Go.Proofs.Try.prog E := env_ok (tl := [(2, i64), (28, (.slc tRow)), (29, (.slc tTx)), (48, tRow), (97, (.slc tKey)), (99, tTx), (100, (.map tKey .bool)), (146, tKey)]) (gl := []) rfl rfl (by kernel_rfl) (by kernel_rfl) (fn_nil _)
theorem chk : funOk Go.Proofs.Try.prog E Go.Proofs.Try.f48 ps rs [] = true := by kernel_rfl
theorem snd : Sound Go.Proofs.Try.prog 48 sig := sound_of_body env Go.Proofs.Try.func48 rfl (es := []) (fr := []) chk (fun _ _ h => lift_some h)
end impl_keysOf
namespace slices_Clone
/-! slices Clone   loop example g00408 impl Row loop example g00408 impl Row  -/
abbrev Arg : Type := (List Row) × Unit
abbrev Out : Type := (List Row) × Unit
noncomputable def ps : List (PM × Ty) := [(.ro, (.slc tRow))]
noncomputable def rs : List (Ty × Md) := [((.slc tRow), (ownMd (.slc tRow)))]
noncomputable def E : Env := { TI := lookN [(28, (.slc tRow))], G := lookN [], fz := [], lv := [], lx := [], lf := [], od := [] }
noncomputable def sem (a : Arg) : Option Out := lift fun k => bodyK E k Go.Proofs.Try.f97 ps rs [] [] a
noncomputable def sig : Sig := { ps := ps, rs := rs, F := fun a => sem a }
noncomputable def C : Code := bodyOf Go.Proofs.Try.f97
noncomputable def fin : St → Option Out := outK ps rs [] (Func.results Go.Proofs.Try.f97).toList (mvs [])
noncomputable def K0 : Ex → St → Option Out := endK fin
noncomputable def p (a1 : Arg) : Option Out := nilB a1.1 (some (([] : List Row), ())) (if ([] : List Row).length + a1.1.length ≤ CAP then (some (([] : List Row) ++ a1.1, ())) else none)
noncomputable def raw (k : Nat) (a1 : Arg) : Option Out := p a1
theorem p_eq (k : Nat) (a1 : Arg) : bodyK E k Go.Proofs.Try.f97 ps rs [] [] a1 = p a1 := by kernel_rfl
theorem raw_eq (k : Nat) (a1 : Arg) : bodyK E k Go.Proofs.Try.f97 ps rs [] [] a1 = raw k a1 := (p_eq k a1).trans (by rfl)
theorem ent : EnterOk Go.Proofs.Try.prog 97 sig.cap := ⟨Go.Proofs.Try.f97, Go.Proofs.Try.func97, by kernel_rfl, by kernel_rfl, by kernel_rfl⟩
theorem env : EnvOk Go.Proofs.Try.prog E := env_ok (tl := [(28, (.slc tRow))]) (gl := []) rfl rfl (by kernel_rfl) (by kernel_rfl) (fn_nil _)
theorem chk : funOk Go.Proofs.Try.prog E Go.Proofs.Try.f97 ps rs [] = true := by kernel_rfl
theorem snd : Sound Go.Proofs.Try.prog 97 sig := sound_of_body env Go.Proofs.Try.func97 rfl (es := []) (fr := []) chk (fun _ _ h => lift_some h)
end slices_Clone
namespace slices_BinarySearchFunc
/-! slices BinarySearchFunc   loop example g00408 impl Row loop example g00408 impl Row loop example g00408 impl Row  -/
abbrev Arg : Type := (List Row) × Row × (Nat × Int) × Unit
abbrev Out : Type := Int × Bool × Unit
noncomputable def ps : List (PM × Ty) := [(.ro, (.slc tRow)), (.ro, tRow), (.fix 123, .fn)]
noncomputable def rs : List (Ty × Md) := [(i64, (roMd i64)), (.bool, (roMd .bool))]
noncomputable def E : Env := { TI := lookN [(3, i64), (28, (.slc tRow)), (48, tRow), (220, (.int .u64))], G := lookN [(123, impl_order.sig)], fz := [], lv := [(3, [0, 2, 4, 8, 9, 10])], lx := [(0, [0, 2, 4, 8, 9])], lf := [], od := [(5, [0, 1, 2, 3, 4, 5, 6, 7]), (8, [0, 1, 2, 3, 4, 5, 6, 7, 8, 9, 10, 11, 12, 13, 14, 15])] }
noncomputable def sem (a : Arg) : Option Out := lift fun k => bodyK E k Go.Proofs.Try.f122 ps rs [] [] a
noncomputable def sig : Sig := { ps := ps, rs := rs, F := fun a => sem a }
noncomputable def C : Code := bodyOf Go.Proofs.Try.f122
noncomputable def fin : St → Option Out := outK ps rs [] (Func.results Go.Proofs.Try.f122).toList (mvs [])
noncomputable def K0 : Ex → St → Option Out := endK fin
noncomputable def S0 (rec : St → Option Out) (a1 : Arg) : (Int × Int) → Option Out := fun v402 => rec ({ n := 49, sl := [(0, .val (.slc tRow) a1.1), (2, .val .fn ((123, a1.2.2.1.2) : Nat × Int)), (4, .box tRow (roMd tRow) [] a1.2.1), (8, .val i64 (a1.1.length : Int)), (9, .val i64 v402.1), (10, .val i64 v402.2)], vr := [], lent := [] })
noncomputable def X0_0 (K : Ex → St → Option Out) (a1 : Arg) : Int → Option Out := fun z => K (.exit 0) ({ n := 49, sl := [(0, .val (.slc tRow) a1.1), (2, .val .fn ((123, a1.2.2.1.2) : Nat × Int)), (4, .box tRow (roMd tRow) [] a1.2.1), (8, .val i64 (a1.1.length : Int)), (9, .val i64 z)], vr := [], lent := [] })
noncomputable def b0 (self : (Int × Int) → Option Out) (e0 : Int → Option Out) (a1 : Arg) (v402 : Int × Int) : Option Out := bif decide (v402.1 < v402.2) then (if 0 ≤ w64 ((IntKind.wrap .u64 (w64 (v402.1 + v402.2))).fdiv (2 ^ 1)) then ((a1.1[(w64 ((IntKind.wrap .u64 (w64 (v402.1 + v402.2))).fdiv (2 ^ 1))).toNat]?).bind fun x603 => (impl_order.sem (x603, a1.2.1, ())).bind fun r604 => bif decide (r604.1 < (0 : Int)) then (self (w64 ((w64 ((IntKind.wrap .u64 (w64 (v402.1 + v402.2))).fdiv (2 ^ 1))) + (1 : Int)), v402.2)) else self (v402.1, w64 ((IntKind.wrap .u64 (w64 (v402.1 + v402.2))).fdiv (2 ^ 1)))) else none) else e0 v402.1
noncomputable def B0 (k : Nat) (self : (Int × Int) → Option Out) (e0 : Int → Option Out) (a1 : Arg) (v402 : Int × Int) : Option Out := b0 self e0 a1 v402
theorem b0_eq (k : Nat) (rec : St → Option Out) (K : Ex → St → Option Out) (a1 : Arg) (v402 : Int × Int) : codeK E k fin (sub [1, 1, 1, 0, 0, 0] C) ({ n := 49, sl := [(0, .val (.slc tRow) a1.1), (2, .val .fn ((123, a1.2.2.1.2) : Nat × Int)), (4, .box tRow (roMd tRow) [] a1.2.1), (8, .val i64 (a1.1.length : Int)), (9, .val i64 v402.1), (10, .val i64 v402.2)], vr := [], lent := [] }) (loopC rec (keepF [0, 2, 4, 8, 9, 10] []) K) = b0 (S0 rec a1) (X0_0 K a1) a1 v402 := by kernel_rfl
theorem B0_eq (k : Nat) (rec : St → Option Out) (K : Ex → St → Option Out) (a1 : Arg) (v402 : Int × Int) : codeK E k fin (sub [1, 1, 1, 0, 0, 0] C) ({ n := 49, sl := [(0, .val (.slc tRow) a1.1), (2, .val .fn ((123, a1.2.2.1.2) : Nat × Int)), (4, .box tRow (roMd tRow) [] a1.2.1), (8, .val i64 (a1.1.length : Int)), (9, .val i64 v402.1), (10, .val i64 v402.2)], vr := [], lent := [] }) (loopC rec (keepF [0, 2, 4, 8, 9, 10] []) K) = B0 k (S0 rec a1) (X0_0 K a1) a1 v402 := (b0_eq k rec K a1 v402).trans (by rfl)
noncomputable def l0 (k : Nat) (a1 : Arg) (e0 : Int → Option Out) (v : Int × Int) : Option Out := rawIter (fun self v => B0 k self e0 a1 v) k v
theorem l0_eq (k : Nat) (K : Ex → St → Option Out) (a1 : Arg) (v402 : Int × Int) : iterK (codeK E k fin (sub [1, 1, 1, 0, 0, 0] C)) (keepF [0, 2, 4, 8, 9, 10] []) K k ({ n := 49, sl := [(0, .val (.slc tRow) a1.1), (2, .val .fn ((123, a1.2.2.1.2) : Nat × Int)), (4, .box tRow (roMd tRow) [] a1.2.1), (8, .val i64 (a1.1.length : Int)), (9, .val i64 v402.1), (10, .val i64 v402.2)], vr := [], lent := [] }) = l0 k a1 (X0_0 K a1) v402 :=
  iter_raw _ _ K (fun v402 => ({ n := 49, sl := [(0, .val (.slc tRow) a1.1), (2, .val .fn ((123, a1.2.2.1.2) : Nat × Int)), (4, .box tRow (roMd tRow) [] a1.2.1), (8, .val i64 (a1.1.length : Int)), (9, .val i64 v402.1), (10, .val i64 v402.2)], vr := [], lent := [] } : St)) (fun self v => B0 k self (X0_0 K a1) a1 v) (fun rec v => B0_eq k rec K a1 v) k v402
noncomputable def q0 (a1 : Arg) (z605 : Int) : Option Out := bif decide (z605 < (a1.1.length : Int)) then (if 0 ≤ z605 then ((a1.1[z605.toNat]?).bind fun x606 => (impl_order.sem (x606, a1.2.1, ())).bind fun r607 => some (z605, decide (r607.1 = (0 : Int)), ())) else none) else some (z605, false, ())
noncomputable def Q0 (k : Nat) (a1 : Arg) (z605 : Int) : Option Out := q0 a1 z605
theorem q0_eq (k : Nat) (a1 : Arg) (z605 : Int) : (blockC 0 (seqC (codeK E k fin (sub [1, 1, 1, 1] C)) K0)) (.exit 0) ({ n := 49, sl := [(0, .val (.slc tRow) a1.1), (2, .val .fn ((123, a1.2.2.1.2) : Nat × Int)), (4, .box tRow (roMd tRow) [] a1.2.1), (8, .val i64 (a1.1.length : Int)), (9, .val i64 z605)], vr := [], lent := [] }) = q0 a1 z605 := by kernel_rfl
theorem Q0_eq (k : Nat) (a1 : Arg) (z605 : Int) : (blockC 0 (seqC (codeK E k fin (sub [1, 1, 1, 1] C)) K0)) (.exit 0) ({ n := 49, sl := [(0, .val (.slc tRow) a1.1), (2, .val .fn ((123, a1.2.2.1.2) : Nat × Int)), (4, .box tRow (roMd tRow) [] a1.2.1), (8, .val i64 (a1.1.length : Int)), (9, .val i64 z605)], vr := [], lent := [] }) = Q0 k a1 z605 := (q0_eq k a1 z605).trans (by rfl)
noncomputable def s0 (k : Nat) (a1 : Arg) : (Int × Int) → Option Out := fun v402 => iterK (codeK E k fin (sub [1, 1, 1, 0, 0, 0] C)) (keepF [0, 2, 4, 8, 9, 10] []) (blockC 0 (seqC (codeK E k fin (sub [1, 1, 1, 1] C)) K0)) k ({ n := 49, sl := [(0, .val (.slc tRow) a1.1), (2, .val .fn ((123, a1.2.2.1.2) : Nat × Int)), (4, .box tRow (roMd tRow) [] a1.2.1), (8, .val i64 (a1.1.length : Int)), (9, .val i64 v402.1), (10, .val i64 v402.2)], vr := [], lent := [] })
noncomputable def r0 (k : Nat) (a1 : Arg) : (Int × Int) → Option Out := fun v402 => l0 k a1 (fun z => Q0 k a1 z) v402
theorem s0_eq (k : Nat) (a1 : Arg) : s0 k a1 = r0 k a1 := by
  funext v402;
  have h0 : X0_0 ((blockC 0 (seqC (codeK E k fin (sub [1, 1, 1, 1] C)) K0))) a1 = fun z => Q0 k a1 z := funext fun z => Q0_eq k a1 z
  refine (l0_eq k ((blockC 0 (seqC (codeK E k fin (sub [1, 1, 1, 1] C)) K0))) a1 v402).trans ?_
  rw [h0]
  rfl
noncomputable def p (l0 : (Int × Int) → Option Out) (a1 : Arg) : Option Out := l0 ((0 : Int), (a1.1.length : Int))
noncomputable def raw (k : Nat) (a1 : Arg) : Option Out := p (r0 k a1) a1
theorem p_eq (k : Nat) (a1 : Arg) : bodyK E k Go.Proofs.Try.f122 ps rs [] [] a1 = p (s0 k a1) a1 := by kernel_rfl
theorem raw_eq (k : Nat) (a1 : Arg) : bodyK E k Go.Proofs.Try.f122 ps rs [] [] a1 = raw k a1 := (p_eq k a1).trans (by rw [s0_eq]; rfl)
theorem ent : EnterOk Go.Proofs.Try.prog 122 sig.cap := ⟨Go.Proofs.Try.f122, Go.Proofs.Try.func122, by kernel_rfl, by kernel_rfl, by kernel_rfl⟩
theorem env : EnvOk Go.Proofs.Try.prog E := env_ok (tl := [(3, i64), (28, (.slc tRow)), (48, tRow), (220, (.int .u64))]) (gl := [(123, impl_order.sig)]) rfl rfl (by kernel_rfl) (by kernel_rfl) (fn_cons impl_order.snd impl_order.ent (fn_nil _))
theorem chk : funOk Go.Proofs.Try.prog E Go.Proofs.Try.f122 ps rs [] = true := by kernel_rfl
theorem snd : Sound Go.Proofs.Try.prog 122 sig := sound_of_body env Go.Proofs.Try.func122 rfl (es := []) (fr := []) chk (fun _ _ h => lift_some h)
end slices_BinarySearchFunc
namespace impl_Change_fitsTo
/-!  loop example g00408 impl Change  fitsTo -/
abbrev Arg : Type := Change × (List Row) × Unit
abbrev Out : Type := Bool × Unit
noncomputable def ps : List (PM × Ty) := [(.ro, tChange), (.ro, (.slc tRow))]
noncomputable def rs : List (Ty × Md) := [(.bool, (roMd .bool))]
noncomputable def E : Env := { TI := lookN [(4, .bool), (28, (.slc tRow)), (48, tRow), (50, tChange)], G := lookN [(122, slices_BinarySearchFunc.sig), (164, impl_Change_key.sig)], fz := [], lv := [], lx := [], lf := [], od := [(2, [0, 1, 2, 3, 4, 5, 6, 7, 8, 9, 10, 11, 12, 13, 14, 15, 16, 17])] }
noncomputable def sem (a : Arg) : Option Out := lift fun k => bodyK E k Go.Proofs.Try.f148 ps rs [] [] a
noncomputable def sig : Sig := { ps := ps, rs := rs, F := fun a => sem a }
noncomputable def C : Code := bodyOf Go.Proofs.Try.f148
noncomputable def fin : St → Option Out := outK ps rs [] (Func.results Go.Proofs.Try.f148).toList (mvs [])
noncomputable def K0 : Ex → St → Option Out := endK fin
noncomputable def p (a1 : Arg) : Option Out := (impl_Change_key.sem (a1.1, ())).bind fun r2 => (slices_BinarySearchFunc.sem (a1.2.1, r2.1, ((123, 0) : Nat × Int), ())).bind fun r3 => bif (r3.2.1 == a1.1.1) then (bif !r3.2.1 then (some (true, ())) else if 0 ≤ r3.1 then ((a1.2.1[r3.1.toNat]?).bind fun x4 => some ((Ty.eq tRow x4 a1.1.2.1), ())) else none) else some (false, ())
noncomputable def raw (k : Nat) (a1 : Arg) : Option Out := p a1
theorem p_eq (k : Nat) (a1 : Arg) : bodyK E k Go.Proofs.Try.f148 ps rs [] [] a1 = p a1 := by kernel_rfl
theorem raw_eq (k : Nat) (a1 : Arg) : bodyK E k Go.Proofs.Try.f148 ps rs [] [] a1 = raw k a1 := (p_eq k a1).trans (by rfl)
theorem ent : EnterOk Go.Proofs.Try.prog 148 sig.cap := ⟨Go.Proofs.Try.f148, Go.Proofs.Try.func148, by kernel_rfl, by kernel_rfl, by kernel_rfl⟩
theorem env : EnvOk Go.Proofs.Try.prog E := env_ok (tl := [(4, .bool), (28, (.slc tRow)), (48, tRow), (50, tChange)]) (gl := [(122, slices_BinarySearchFunc.sig), (164, impl_Change_key.sig)]) rfl rfl (by kernel_rfl) (by kernel_rfl) (fn_cons slices_BinarySearchFunc.snd slices_BinarySearchFunc.ent (fn_cons impl_Change_key.snd impl_Change_key.ent (fn_nil _)))
theorem chk : funOk Go.Proofs.Try.prog E Go.Proofs.Try.f148 ps rs [] = true := by kernel_rfl
theorem snd : Sound Go.Proofs.Try.prog 148 sig := sound_of_body env Go.Proofs.Try.func148 rfl (es := []) (fr := []) chk (fun _ _ h => lift_some h)
end impl_Change_fitsTo
namespace impl_changed
/-! loop example g00408 impl changed -/
abbrev Arg : Type := (List Row) × Change × Unit
abbrev Out : Type := (List Row) × Unit
noncomputable def ps : List (PM × Ty) := [(.ro, (.slc tRow)), (.ro, tChange)]
noncomputable def rs : List (Ty × Md) := [((.slc tRow), (ownMd (.slc tRow)))]
noncomputable def E : Env := { TI := lookN [(4, .bool), (28, (.slc tRow)), (48, tRow), (50, tChange)], G := lookN [(122, slices_BinarySearchFunc.sig), (164, impl_Change_key.sig)], fz := [], lv := [], lx := [], lf := [], od := [] }
noncomputable def sem (a : Arg) : Option Out := lift fun k => bodyK E k Go.Proofs.Try.f149 ps rs [] [] a
noncomputable def sig : Sig := { ps := ps, rs := rs, F := fun a => sem a }
noncomputable def C : Code := bodyOf Go.Proofs.Try.f149
noncomputable def fin : St → Option Out := outK ps rs [] (Func.results Go.Proofs.Try.f149).toList (mvs [])
noncomputable def K0 : Ex → St → Option Out := endK fin
noncomputable def p (a1 : Arg) : Option Out := (impl_Change_key.sem (a1.2.1, ())).bind fun r2 => (slices_BinarySearchFunc.sem (a1.1, r2.1, ((123, 0) : Nat × Int), ())).bind fun r3 => if 0 ≤ r3.1 ∧ r3.1 ≤ (a1.1.length : Int) then (if ([] : List Row).length + ((a1.1.take r3.1.toNat).drop 0).length ≤ CAP then (let y4 := ([] : List Row) ++ ((a1.1.take r3.1.toNat).drop 0); let j8 := fun (p7 : List Row) => (let j11 := fun (p10 : Int) => (if 0 ≤ p10 ∧ p10 ≤ (a1.1.length : Int) then (if p7.length + ((a1.1.take a1.1.length).drop p10.toNat).length ≤ CAP then (let y12 := p7 ++ ((a1.1.take a1.1.length).drop p10.toNat); some (y12, ())) else none) else none : Option Out); bif r3.2.1 then (j11 (w64 (r3.1 + (1 : Int)))) else j11 r3.1 : Option Out); bif a1.2.1.2.2.1 then (if y4.length + [a1.2.1.2.2.2.1].length ≤ CAP then (j8 (y4 ++ [a1.2.1.2.2.2.1])) else none) else j8 y4) else none) else none
noncomputable def raw (k : Nat) (a1 : Arg) : Option Out := p a1
theorem p_eq (k : Nat) (a1 : Arg) : bodyK E k Go.Proofs.Try.f149 ps rs [] [] a1 = p a1 := by kernel_rfl
theorem raw_eq (k : Nat) (a1 : Arg) : bodyK E k Go.Proofs.Try.f149 ps rs [] [] a1 = raw k a1 := (p_eq k a1).trans (by rfl)
theorem ent : EnterOk Go.Proofs.Try.prog 149 sig.cap := ⟨Go.Proofs.Try.f149, Go.Proofs.Try.func149, by kernel_rfl, by kernel_rfl, by kernel_rfl⟩
theorem env : EnvOk Go.Proofs.Try.prog E := env_ok (tl := [(4, .bool), (28, (.slc tRow)), (48, tRow), (50, tChange)]) (gl := [(122, slices_BinarySearchFunc.sig), (164, impl_Change_key.sig)]) rfl rfl (by kernel_rfl) (by kernel_rfl) (fn_cons slices_BinarySearchFunc.snd slices_BinarySearchFunc.ent (fn_cons impl_Change_key.snd impl_Change_key.ent (fn_nil _)))
theorem chk : funOk Go.Proofs.Try.prog E Go.Proofs.Try.f149 ps rs [] = true := by kernel_rfl
theorem snd : Sound Go.Proofs.Try.prog 149 sig := sound_of_body env Go.Proofs.Try.func149 rfl (es := []) (fr := []) chk (fun _ _ h => lift_some h)
end impl_changed
namespace impl_ApplyChanges
/-! loop example g00408 impl ApplyChanges -/
abbrev Arg : Type := (List Row) × (List Change) × Unit
abbrev Out : Type := RowsResult × Unit
noncomputable def ps : List (PM × Ty) := [(.ro, (.slc tRow)), (.ro, (.slc tChange))]
noncomputable def rs : List (Ty × Md) := [(tRowsResult, (ownMd tRowsResult))]
noncomputable def E : Env := { TI := lookN [(28, (.slc tRow)), (36, tRowsResult), (50, tChange), (65, (.slc tChange))], G := lookN [(45, impl_RowsFault.sig), (97, slices_Clone.sig), (147, impl_changeFault.sig), (148, impl_Change_fitsTo.sig), (149, impl_changed.sig)], fz := [], lv := [(6, [4, 6, 18, 19, 20])], lx := [(0, [4, 6])], lf := [], od := [] }
noncomputable def sem (a : Arg) : Option Out := lift fun k => bodyK E k Go.Proofs.Try.f95 ps rs [] [] a
noncomputable def sig : Sig := { ps := ps, rs := rs, F := fun a => sem a }
noncomputable def C : Code := bodyOf Go.Proofs.Try.f95
noncomputable def fin : St → Option Out := outK ps rs [] (Func.results Go.Proofs.Try.f95).toList (mvs [])
noncomputable def K0 : Ex → St → Option Out := endK fin
noncomputable def S0 (rec : St → Option Out) (a1 : Arg) : ((List Row) × Int) → Option Out := fun v404 => rec ({ n := 45, sl := [(4, .box tRowsResult (ownMd tRowsResult) [] ((0 : Int), ([] : List Row), ())), (6, .own (.slc tRow) (ownMd (.slc tRow)) [] v404.1), (18, .val (.slc tChange) a1.2.1), (19, .val i64 (a1.2.1.length : Int)), (20, .val i64 v404.2)], vr := [], lent := [] })
noncomputable def X0_0 (K : Ex → St → Option Out) (a1 : Arg) : (List Row) → Option Out := fun z => K (.exit 0) ({ n := 45, sl := [(4, .box tRowsResult (ownMd tRowsResult) [] ((0 : Int), ([] : List Row), ())), (6, .own (.slc tRow) (ownMd (.slc tRow)) [] z)], vr := [], lent := [] })
noncomputable def b0 (self : ((List Row) × Int) → Option Out) (e0 : (List Row) → Option Out) (a1 : Arg) (v404 : (List Row) × Int) : Option Out := bif decide (v404.2 < (a1.2.1.length : Int)) then (if 0 ≤ v404.2 then ((a1.2.1[v404.2.toNat]?).bind fun x605 => (impl_changeFault.sem (x605, ())).bind fun r606 => bif !decide (r606.1 = (0 : Int)) then (some ((r606.1, ([] : List Row), ()), ())) else (impl_Change_fitsTo.sem (x605, v404.1, ())).bind fun r607 => bif !r607.1 then (some (((8 : Int), ([] : List Row), ()), ())) else (impl_changed.sem (v404.1, x605, ())).bind fun r608 => self (r608.1, w64 (v404.2 + (1 : Int)))) else none) else e0 v404.1
noncomputable def B0 (k : Nat) (self : ((List Row) × Int) → Option Out) (e0 : (List Row) → Option Out) (a1 : Arg) (v404 : (List Row) × Int) : Option Out := b0 self e0 a1 v404
theorem b0_eq (k : Nat) (rec : St → Option Out) (K : Ex → St → Option Out) (a1 : Arg) (v404 : (List Row) × Int) : codeK E k fin (sub [1, 1, 1, 0, 1, 0, 0] C) ({ n := 45, sl := [(4, .box tRowsResult (ownMd tRowsResult) [] ((0 : Int), ([] : List Row), ())), (6, .own (.slc tRow) (ownMd (.slc tRow)) [] v404.1), (18, .val (.slc tChange) a1.2.1), (19, .val i64 (a1.2.1.length : Int)), (20, .val i64 v404.2)], vr := [], lent := [] }) (loopC rec (keepF [4, 6, 18, 19, 20] []) K) = b0 (S0 rec a1) (X0_0 K a1) a1 v404 := by kernel_rfl
theorem B0_eq (k : Nat) (rec : St → Option Out) (K : Ex → St → Option Out) (a1 : Arg) (v404 : (List Row) × Int) : codeK E k fin (sub [1, 1, 1, 0, 1, 0, 0] C) ({ n := 45, sl := [(4, .box tRowsResult (ownMd tRowsResult) [] ((0 : Int), ([] : List Row), ())), (6, .own (.slc tRow) (ownMd (.slc tRow)) [] v404.1), (18, .val (.slc tChange) a1.2.1), (19, .val i64 (a1.2.1.length : Int)), (20, .val i64 v404.2)], vr := [], lent := [] }) (loopC rec (keepF [4, 6, 18, 19, 20] []) K) = B0 k (S0 rec a1) (X0_0 K a1) a1 v404 := (b0_eq k rec K a1 v404).trans (by rfl)
noncomputable def l0 (k : Nat) (a1 : Arg) (e0 : (List Row) → Option Out) (v : (List Row) × Int) : Option Out := rawIter (fun self v => B0 k self e0 a1 v) k v
theorem l0_eq (k : Nat) (K : Ex → St → Option Out) (a1 : Arg) (v404 : (List Row) × Int) : iterK (codeK E k fin (sub [1, 1, 1, 0, 1, 0, 0] C)) (keepF [4, 6, 18, 19, 20] []) K k ({ n := 45, sl := [(4, .box tRowsResult (ownMd tRowsResult) [] ((0 : Int), ([] : List Row), ())), (6, .own (.slc tRow) (ownMd (.slc tRow)) [] v404.1), (18, .val (.slc tChange) a1.2.1), (19, .val i64 (a1.2.1.length : Int)), (20, .val i64 v404.2)], vr := [], lent := [] }) = l0 k a1 (X0_0 K a1) v404 :=
  iter_raw _ _ K (fun v404 => ({ n := 45, sl := [(4, .box tRowsResult (ownMd tRowsResult) [] ((0 : Int), ([] : List Row), ())), (6, .own (.slc tRow) (ownMd (.slc tRow)) [] v404.1), (18, .val (.slc tChange) a1.2.1), (19, .val i64 (a1.2.1.length : Int)), (20, .val i64 v404.2)], vr := [], lent := [] } : St)) (fun self v => B0 k self (X0_0 K a1) a1 v) (fun rec v => B0_eq k rec K a1 v) k v404
noncomputable def q0 (a1 : Arg) (z609 : (List Row)) : Option Out := bif decide ((60 : Int) < (z609.length : Int)) then (some (((2 : Int), ([] : List Row), ()), ())) else some (((0 : Int), z609, ()), ())
noncomputable def Q0 (k : Nat) (a1 : Arg) (z609 : (List Row)) : Option Out := q0 a1 z609
theorem q0_eq (k : Nat) (a1 : Arg) (z609 : (List Row)) : (blockC 0 (seqC (codeK E k fin (sub [1, 1, 1, 1] C)) K0)) (.exit 0) ({ n := 45, sl := [(4, .box tRowsResult (ownMd tRowsResult) [] ((0 : Int), ([] : List Row), ())), (6, .own (.slc tRow) (ownMd (.slc tRow)) [] z609)], vr := [], lent := [] }) = q0 a1 z609 := by kernel_rfl
theorem Q0_eq (k : Nat) (a1 : Arg) (z609 : (List Row)) : (blockC 0 (seqC (codeK E k fin (sub [1, 1, 1, 1] C)) K0)) (.exit 0) ({ n := 45, sl := [(4, .box tRowsResult (ownMd tRowsResult) [] ((0 : Int), ([] : List Row), ())), (6, .own (.slc tRow) (ownMd (.slc tRow)) [] z609)], vr := [], lent := [] }) = Q0 k a1 z609 := (q0_eq k a1 z609).trans (by rfl)
noncomputable def s0 (k : Nat) (a1 : Arg) : ((List Row) × Int) → Option Out := fun v404 => iterK (codeK E k fin (sub [1, 1, 1, 0, 1, 0, 0] C)) (keepF [4, 6, 18, 19, 20] []) (blockC 0 (seqC (codeK E k fin (sub [1, 1, 1, 1] C)) K0)) k ({ n := 45, sl := [(4, .box tRowsResult (ownMd tRowsResult) [] ((0 : Int), ([] : List Row), ())), (6, .own (.slc tRow) (ownMd (.slc tRow)) [] v404.1), (18, .val (.slc tChange) a1.2.1), (19, .val i64 (a1.2.1.length : Int)), (20, .val i64 v404.2)], vr := [], lent := [] })
noncomputable def r0 (k : Nat) (a1 : Arg) : ((List Row) × Int) → Option Out := fun v404 => l0 k a1 (fun z => Q0 k a1 z) v404
theorem s0_eq (k : Nat) (a1 : Arg) : s0 k a1 = r0 k a1 := by
  funext v404;
  have h0 : X0_0 ((blockC 0 (seqC (codeK E k fin (sub [1, 1, 1, 1] C)) K0))) a1 = fun z => Q0 k a1 z := funext fun z => Q0_eq k a1 z
  refine (l0_eq k ((blockC 0 (seqC (codeK E k fin (sub [1, 1, 1, 1] C)) K0))) a1 v404).trans ?_
  rw [h0]
  rfl
noncomputable def p (l0 : ((List Row) × Int) → Option Out) (a1 : Arg) : Option Out := (impl_RowsFault.sem (a1.1, ())).bind fun r2 => bif !decide (r2.1 = (0 : Int)) then (some ((r2.1, ([] : List Row), ()), ())) else (slices_Clone.sem (a1.1, ())).bind fun r3 => l0 (r3.1, (0 : Int))
noncomputable def raw (k : Nat) (a1 : Arg) : Option Out := p (r0 k a1) a1
theorem p_eq (k : Nat) (a1 : Arg) : bodyK E k Go.Proofs.Try.f95 ps rs [] [] a1 = p (s0 k a1) a1 := by kernel_rfl
theorem raw_eq (k : Nat) (a1 : Arg) : bodyK E k Go.Proofs.Try.f95 ps rs [] [] a1 = raw k a1 := (p_eq k a1).trans (by rw [s0_eq]; rfl)
theorem ent : EnterOk Go.Proofs.Try.prog 95 sig.cap := ⟨Go.Proofs.Try.f95, Go.Proofs.Try.func95, by kernel_rfl, by kernel_rfl, by kernel_rfl⟩
theorem env : EnvOk Go.Proofs.Try.prog E := env_ok (tl := [(28, (.slc tRow)), (36, tRowsResult), (50, tChange), (65, (.slc tChange))]) (gl := [(45, impl_RowsFault.sig), (97, slices_Clone.sig), (147, impl_changeFault.sig), (148, impl_Change_fitsTo.sig), (149, impl_changed.sig)]) rfl rfl (by kernel_rfl) (by kernel_rfl) (fn_cons impl_RowsFault.snd impl_RowsFault.ent (fn_cons slices_Clone.snd slices_Clone.ent (fn_cons impl_changeFault.snd impl_changeFault.ent (fn_cons impl_Change_fitsTo.snd impl_Change_fitsTo.ent (fn_cons impl_changed.snd impl_changed.ent (fn_nil _))))))
theorem chk : funOk Go.Proofs.Try.prog E Go.Proofs.Try.f95 ps rs [] = true := by kernel_rfl
theorem snd : Sound Go.Proofs.Try.prog 95 sig := sound_of_body env Go.Proofs.Try.func95 rfl (es := []) (fr := []) chk (fun _ _ h => lift_some h)
end impl_ApplyChanges
namespace impl_inverse
/-! loop example g00408 impl inverse -/
abbrev Arg : Type := (List Change) × Unit
abbrev Out : Type := (List Change) × Unit
noncomputable def ps : List (PM × Ty) := [(.ro, (.slc tChange))]
noncomputable def rs : List (Ty × Md) := [((.slc tChange), (ownMd (.slc tChange)))]
noncomputable def E : Env := { TI := lookN [(4, .bool), (48, tRow), (50, tChange), (65, (.slc tChange))], G := lookN [], fz := [], lv := [(3, [0, 3, 4])], lx := [(0, [3])], lf := [], od := [] }
noncomputable def sem (a : Arg) : Option Out := lift fun k => bodyK E k Go.Proofs.Try.f96 ps rs [] [] a
noncomputable def sig : Sig := { ps := ps, rs := rs, F := fun a => sem a }
noncomputable def C : Code := bodyOf Go.Proofs.Try.f96
noncomputable def fin : St → Option Out := outK ps rs [] (Func.results Go.Proofs.Try.f96).toList (mvs [])
noncomputable def K0 : Ex → St → Option Out := endK fin
noncomputable def S0 (rec : St → Option Out) (a1 : Arg) : ((List Change) × Int) → Option Out := fun v402 => rec ({ n := 30, sl := [(0, .val (.slc tChange) a1.1), (3, .own (.slc tChange) (ownMd (.slc tChange)) [] v402.1), (4, .val i64 v402.2)], vr := [], lent := [] })
noncomputable def X0_0 (K : Ex → St → Option Out) (a1 : Arg) : (List Change) → Option Out := fun z => K (.exit 0) ({ n := 30, sl := [(3, .own (.slc tChange) (ownMd (.slc tChange)) [] z)], vr := [], lent := [] })
noncomputable def b0 (self : ((List Change) × Int) → Option Out) (e0 : (List Change) → Option Out) (a1 : Arg) (v402 : (List Change) × Int) : Option Out := bif decide ((0 : Int) ≤ v402.2) then (if 0 ≤ v402.2 then ((a1.1[v402.2.toNat]?).bind fun x603 => if v402.1.length + [(x603.2.2.1, x603.2.2.2.1, x603.1, x603.2.1, ())].length ≤ CAP then (let y604 := v402.1 ++ [(x603.2.2.1, x603.2.2.2.1, x603.1, x603.2.1, ())]; self (y604, w64 (v402.2 - (1 : Int)))) else none) else none) else e0 v402.1
noncomputable def B0 (k : Nat) (self : ((List Change) × Int) → Option Out) (e0 : (List Change) → Option Out) (a1 : Arg) (v402 : (List Change) × Int) : Option Out := b0 self e0 a1 v402
theorem b0_eq (k : Nat) (rec : St → Option Out) (K : Ex → St → Option Out) (a1 : Arg) (v402 : (List Change) × Int) : codeK E k fin (sub [1, 1, 0, 1, 0, 0] C) ({ n := 30, sl := [(0, .val (.slc tChange) a1.1), (3, .own (.slc tChange) (ownMd (.slc tChange)) [] v402.1), (4, .val i64 v402.2)], vr := [], lent := [] }) (loopC rec (keepF [0, 3, 4] []) K) = b0 (S0 rec a1) (X0_0 K a1) a1 v402 := by kernel_rfl
theorem B0_eq (k : Nat) (rec : St → Option Out) (K : Ex → St → Option Out) (a1 : Arg) (v402 : (List Change) × Int) : codeK E k fin (sub [1, 1, 0, 1, 0, 0] C) ({ n := 30, sl := [(0, .val (.slc tChange) a1.1), (3, .own (.slc tChange) (ownMd (.slc tChange)) [] v402.1), (4, .val i64 v402.2)], vr := [], lent := [] }) (loopC rec (keepF [0, 3, 4] []) K) = B0 k (S0 rec a1) (X0_0 K a1) a1 v402 := (b0_eq k rec K a1 v402).trans (by rfl)
noncomputable def l0 (k : Nat) (a1 : Arg) (e0 : (List Change) → Option Out) (v : (List Change) × Int) : Option Out := rawIter (fun self v => B0 k self e0 a1 v) k v
theorem l0_eq (k : Nat) (K : Ex → St → Option Out) (a1 : Arg) (v402 : (List Change) × Int) : iterK (codeK E k fin (sub [1, 1, 0, 1, 0, 0] C)) (keepF [0, 3, 4] []) K k ({ n := 30, sl := [(0, .val (.slc tChange) a1.1), (3, .own (.slc tChange) (ownMd (.slc tChange)) [] v402.1), (4, .val i64 v402.2)], vr := [], lent := [] }) = l0 k a1 (X0_0 K a1) v402 :=
  iter_raw _ _ K (fun v402 => ({ n := 30, sl := [(0, .val (.slc tChange) a1.1), (3, .own (.slc tChange) (ownMd (.slc tChange)) [] v402.1), (4, .val i64 v402.2)], vr := [], lent := [] } : St)) (fun self v => B0 k self (X0_0 K a1) a1 v) (fun rec v => B0_eq k rec K a1 v) k v402
noncomputable def q0 (a1 : Arg) (z605 : (List Change)) : Option Out := some (z605, ())
noncomputable def Q0 (k : Nat) (a1 : Arg) (z605 : (List Change)) : Option Out := q0 a1 z605
theorem q0_eq (k : Nat) (a1 : Arg) (z605 : (List Change)) : (blockC 0 (seqC (codeK E k fin (sub [1, 1, 1] C)) K0)) (.exit 0) ({ n := 30, sl := [(3, .own (.slc tChange) (ownMd (.slc tChange)) [] z605)], vr := [], lent := [] }) = q0 a1 z605 := by kernel_rfl
theorem Q0_eq (k : Nat) (a1 : Arg) (z605 : (List Change)) : (blockC 0 (seqC (codeK E k fin (sub [1, 1, 1] C)) K0)) (.exit 0) ({ n := 30, sl := [(3, .own (.slc tChange) (ownMd (.slc tChange)) [] z605)], vr := [], lent := [] }) = Q0 k a1 z605 := (q0_eq k a1 z605).trans (by rfl)
noncomputable def s0 (k : Nat) (a1 : Arg) : ((List Change) × Int) → Option Out := fun v402 => iterK (codeK E k fin (sub [1, 1, 0, 1, 0, 0] C)) (keepF [0, 3, 4] []) (blockC 0 (seqC (codeK E k fin (sub [1, 1, 1] C)) K0)) k ({ n := 30, sl := [(0, .val (.slc tChange) a1.1), (3, .own (.slc tChange) (ownMd (.slc tChange)) [] v402.1), (4, .val i64 v402.2)], vr := [], lent := [] })
noncomputable def r0 (k : Nat) (a1 : Arg) : ((List Change) × Int) → Option Out := fun v402 => l0 k a1 (fun z => Q0 k a1 z) v402
theorem s0_eq (k : Nat) (a1 : Arg) : s0 k a1 = r0 k a1 := by
  funext v402;
  have h0 : X0_0 ((blockC 0 (seqC (codeK E k fin (sub [1, 1, 1] C)) K0))) a1 = fun z => Q0 k a1 z := funext fun z => Q0_eq k a1 z
  refine (l0_eq k ((blockC 0 (seqC (codeK E k fin (sub [1, 1, 1] C)) K0))) a1 v402).trans ?_
  rw [h0]
  rfl
noncomputable def p (l0 : ((List Change) × Int) → Option Out) (a1 : Arg) : Option Out := l0 (([] : List Change), w64 ((a1.1.length : Int) - (1 : Int)))
noncomputable def raw (k : Nat) (a1 : Arg) : Option Out := p (r0 k a1) a1
theorem p_eq (k : Nat) (a1 : Arg) : bodyK E k Go.Proofs.Try.f96 ps rs [] [] a1 = p (s0 k a1) a1 := by kernel_rfl
theorem raw_eq (k : Nat) (a1 : Arg) : bodyK E k Go.Proofs.Try.f96 ps rs [] [] a1 = raw k a1 := (p_eq k a1).trans (by rw [s0_eq]; rfl)
theorem ent : EnterOk Go.Proofs.Try.prog 96 sig.cap := ⟨Go.Proofs.Try.f96, Go.Proofs.Try.func96, by kernel_rfl, by kernel_rfl, by kernel_rfl⟩
theorem env : EnvOk Go.Proofs.Try.prog E := env_ok (tl := [(4, .bool), (48, tRow), (50, tChange), (65, (.slc tChange))]) (gl := []) rfl rfl (by kernel_rfl) (by kernel_rfl) (fn_nil _)
theorem chk : funOk Go.Proofs.Try.prog E Go.Proofs.Try.f96 ps rs [] = true := by kernel_rfl
theorem snd : Sound Go.Proofs.Try.prog 96 sig := sound_of_body env Go.Proofs.Try.func96 rfl (es := []) (fr := []) chk (fun _ _ h => lift_some h)
end impl_inverse
namespace impl_committed
/-! loop example g00408 impl committed -/
abbrev Arg : Type := (List Row) × (List Tx) × Unit
abbrev Out : Type := (List Row) × Int × Unit
noncomputable def ps : List (PM × Ty) := [(.ro, (.slc tRow)), (.ro, (.slc tTx))]
noncomputable def rs : List (Ty × Md) := [((.slc tRow), (ownMd (.slc tRow))), (i64, (roMd i64))]
noncomputable def E : Env := { TI := lookN [(2, i64), (28, (.slc tRow)), (29, (.slc tTx)), (36, tRowsResult), (65, (.slc tChange)), (99, tTx)], G := lookN [(95, impl_ApplyChanges.sig), (96, impl_inverse.sig), (97, slices_Clone.sig)], fz := [], lv := [(2, [0, 9, 10, 11])], lx := [(0, [0])], lf := [(2, [(0, (.slc false (.pair .leaf (.pair .leaf (.pair .leaf (.pair .leaf .leaf))))))])], od := [(6, [0, 1, 2, 3])] }
noncomputable def sem (a : Arg) : Option Out := lift fun k => bodyK E k Go.Proofs.Try.f49 ps rs [] [] a
noncomputable def sig : Sig := { ps := ps, rs := rs, F := fun a => sem a }
noncomputable def C : Code := bodyOf Go.Proofs.Try.f49
noncomputable def fin : St → Option Out := outK ps rs [] (Func.results Go.Proofs.Try.f49).toList (mvs [])
noncomputable def K0 : Ex → St → Option Out := endK fin
noncomputable def S0 (rec : St → Option Out) (a1 : Arg) : ((List Row) × Int) → Option Out := fun v402 => rec ({ n := 30, sl := [(0, .val (.slc tRow) v402.1), (9, .val (.slc tTx) a1.2.1), (10, .val i64 (a1.2.1.length : Int)), (11, .val i64 v402.2)], vr := [], lent := [] })
noncomputable def X0_0 (K : Ex → St → Option Out) (a1 : Arg) : (List Row) → Option Out := fun z => K (.exit 0) ({ n := 30, sl := [(0, .val (.slc tRow) z)], vr := [], lent := [] })
noncomputable def b0 (self : ((List Row) × Int) → Option Out) (e0 : (List Row) → Option Out) (a1 : Arg) (v402 : (List Row) × Int) : Option Out := bif decide (v402.2 < (a1.2.1.length : Int)) then (if 0 ≤ v402.2 then ((a1.2.1[v402.2.toNat]?).bind fun x603 => (impl_inverse.sem (x603.2.1, ())).bind fun r604 => (impl_ApplyChanges.sem (v402.1, r604.1, ())).bind fun r605 => bif !decide (r605.1.1 = (0 : Int)) then (some (([] : List Row), r605.1.1, ())) else self (r605.1.2.1, w64 (v402.2 + (1 : Int)))) else none) else e0 v402.1
noncomputable def B0 (k : Nat) (self : ((List Row) × Int) → Option Out) (e0 : (List Row) → Option Out) (a1 : Arg) (v402 : (List Row) × Int) : Option Out := b0 self e0 a1 v402
theorem b0_eq (k : Nat) (rec : St → Option Out) (K : Ex → St → Option Out) (a1 : Arg) (v402 : (List Row) × Int) : codeK E k fin (sub [1, 0, 1, 0, 0] C) ({ n := 30, sl := [(0, .val (.slc tRow) v402.1), (9, .val (.slc tTx) a1.2.1), (10, .val i64 (a1.2.1.length : Int)), (11, .val i64 v402.2)], vr := [], lent := [] }) (loopC rec (keepF [0, 9, 10, 11] [(0, (.slc false (.pair .leaf (.pair .leaf (.pair .leaf (.pair .leaf .leaf))))))]) K) = b0 (S0 rec a1) (X0_0 K a1) a1 v402 := by kernel_rfl
theorem B0_eq (k : Nat) (rec : St → Option Out) (K : Ex → St → Option Out) (a1 : Arg) (v402 : (List Row) × Int) : codeK E k fin (sub [1, 0, 1, 0, 0] C) ({ n := 30, sl := [(0, .val (.slc tRow) v402.1), (9, .val (.slc tTx) a1.2.1), (10, .val i64 (a1.2.1.length : Int)), (11, .val i64 v402.2)], vr := [], lent := [] }) (loopC rec (keepF [0, 9, 10, 11] [(0, (.slc false (.pair .leaf (.pair .leaf (.pair .leaf (.pair .leaf .leaf))))))]) K) = B0 k (S0 rec a1) (X0_0 K a1) a1 v402 := (b0_eq k rec K a1 v402).trans (by rfl)
noncomputable def l0 (k : Nat) (a1 : Arg) (e0 : (List Row) → Option Out) (v : (List Row) × Int) : Option Out := rawIter (fun self v => B0 k self e0 a1 v) k v
theorem l0_eq (k : Nat) (K : Ex → St → Option Out) (a1 : Arg) (v402 : (List Row) × Int) : iterK (codeK E k fin (sub [1, 0, 1, 0, 0] C)) (keepF [0, 9, 10, 11] [(0, (.slc false (.pair .leaf (.pair .leaf (.pair .leaf (.pair .leaf .leaf))))))]) K k ({ n := 30, sl := [(0, .val (.slc tRow) v402.1), (9, .val (.slc tTx) a1.2.1), (10, .val i64 (a1.2.1.length : Int)), (11, .val i64 v402.2)], vr := [], lent := [] }) = l0 k a1 (X0_0 K a1) v402 :=
  iter_raw _ _ K (fun v402 => ({ n := 30, sl := [(0, .val (.slc tRow) v402.1), (9, .val (.slc tTx) a1.2.1), (10, .val i64 (a1.2.1.length : Int)), (11, .val i64 v402.2)], vr := [], lent := [] } : St)) (fun self v => B0 k self (X0_0 K a1) a1 v) (fun rec v => B0_eq k rec K a1 v) k v402
noncomputable def q0 (a1 : Arg) (z606 : (List Row)) : Option Out := (slices_Clone.sem (z606, ())).bind fun r607 => some (r607.1, (0 : Int), ())
noncomputable def Q0 (k : Nat) (a1 : Arg) (z606 : (List Row)) : Option Out := q0 a1 z606
theorem q0_eq (k : Nat) (a1 : Arg) (z606 : (List Row)) : (blockC 0 (seqC (codeK E k fin (sub [1, 1] C)) K0)) (.exit 0) ({ n := 30, sl := [(0, .val (.slc tRow) z606)], vr := [], lent := [] }) = q0 a1 z606 := by kernel_rfl
theorem Q0_eq (k : Nat) (a1 : Arg) (z606 : (List Row)) : (blockC 0 (seqC (codeK E k fin (sub [1, 1] C)) K0)) (.exit 0) ({ n := 30, sl := [(0, .val (.slc tRow) z606)], vr := [], lent := [] }) = Q0 k a1 z606 := (q0_eq k a1 z606).trans (by rfl)
noncomputable def s0 (k : Nat) (a1 : Arg) : ((List Row) × Int) → Option Out := fun v402 => iterK (codeK E k fin (sub [1, 0, 1, 0, 0] C)) (keepF [0, 9, 10, 11] [(0, (.slc false (.pair .leaf (.pair .leaf (.pair .leaf (.pair .leaf .leaf))))))]) (blockC 0 (seqC (codeK E k fin (sub [1, 1] C)) K0)) k ({ n := 30, sl := [(0, .val (.slc tRow) v402.1), (9, .val (.slc tTx) a1.2.1), (10, .val i64 (a1.2.1.length : Int)), (11, .val i64 v402.2)], vr := [], lent := [] })
noncomputable def r0 (k : Nat) (a1 : Arg) : ((List Row) × Int) → Option Out := fun v402 => l0 k a1 (fun z => Q0 k a1 z) v402
theorem s0_eq (k : Nat) (a1 : Arg) : s0 k a1 = r0 k a1 := by
  funext v402;
  have h0 : X0_0 ((blockC 0 (seqC (codeK E k fin (sub [1, 1] C)) K0))) a1 = fun z => Q0 k a1 z := funext fun z => Q0_eq k a1 z
  refine (l0_eq k ((blockC 0 (seqC (codeK E k fin (sub [1, 1] C)) K0))) a1 v402).trans ?_
  rw [h0]
  rfl
noncomputable def p (l0 : ((List Row) × Int) → Option Out) (a1 : Arg) : Option Out := l0 (a1.1, (0 : Int))
noncomputable def raw (k : Nat) (a1 : Arg) : Option Out := p (r0 k a1) a1
theorem p_eq (k : Nat) (a1 : Arg) : bodyK E k Go.Proofs.Try.f49 ps rs [] [] a1 = p (s0 k a1) a1 := by kernel_rfl
theorem raw_eq (k : Nat) (a1 : Arg) : bodyK E k Go.Proofs.Try.f49 ps rs [] [] a1 = raw k a1 := (p_eq k a1).trans (by rw [s0_eq]; rfl)
theorem ent : EnterOk Go.Proofs.Try.prog 49 sig.cap := ⟨Go.Proofs.Try.f49, Go.Proofs.Try.func49, by kernel_rfl, by kernel_rfl, by kernel_rfl⟩
theorem env : EnvOk Go.Proofs.Try.prog E := env_ok (tl := [(2, i64), (28, (.slc tRow)), (29, (.slc tTx)), (36, tRowsResult), (65, (.slc tChange)), (99, tTx)]) (gl := [(95, impl_ApplyChanges.sig), (96, impl_inverse.sig), (97, slices_Clone.sig)]) rfl rfl (by kernel_rfl) (by kernel_rfl) (fn_cons impl_ApplyChanges.snd impl_ApplyChanges.ent (fn_cons impl_inverse.snd impl_inverse.ent (fn_cons slices_Clone.snd slices_Clone.ent (fn_nil _))))
theorem chk : funOk Go.Proofs.Try.prog E Go.Proofs.Try.f49 ps rs [] = true := by kernel_rfl
theorem snd : Sound Go.Proofs.Try.prog 49 sig := sound_of_body env Go.Proofs.Try.func49 rfl (es := []) (fr := []) chk (fun _ _ h => lift_some h)
end impl_committed
namespace impl_PlainFault
/-! loop example g00408 impl PlainFault -/
abbrev Arg : Type := Plain × Unit
abbrev Out : Type := Int × Unit
noncomputable def ps : List (PM × Ty) := [(.ro, tPlain)]
noncomputable def rs : List (Ty × Md) := [(i64, (roMd i64))]
noncomputable def E : Env := { TI := lookN [(2, i64), (28, (.slc tRow)), (29, (.slc tTx)), (31, tPlain), (99, tTx), (100, (.map tKey .bool))], G := lookN [(45, impl_RowsFault.sig), (46, impl_TxsFault.sig), (47, impl_in.sig), (48, impl_keysOf.sig), (49, impl_committed.sig)], fz := [], lv := [], lx := [], lf := [], od := [(7, [0, 1, 2, 3, 4, 5, 6, 7, 8, 9, 10, 11, 12, 13, 14, 15, 16, 17, 18, 19, 20, 21, 22, 23])], ar := [(7, [1, 6, 11, 13, 18, 20])], bx := [(7, [1])] }
noncomputable def sem (a : Arg) : Option Out := lift fun k => bodyK E k Go.Proofs.Try.f11 ps rs [] [] a
noncomputable def sig : Sig := { ps := ps, rs := rs, F := fun a => sem a }
noncomputable def C : Code := bodyOf Go.Proofs.Try.f11
noncomputable def fin : St → Option Out := outK ps rs [] (Func.results Go.Proofs.Try.f11).toList (mvs [])
noncomputable def K0 : Ex → St → Option Out := endK fin
noncomputable def p (a1 : Arg) : Option Out := (impl_RowsFault.sem (a1.1.1, ())).bind fun r2 => bif !decide (r2.1 = (0 : Int)) then (some (r2.1, ())) else (impl_TxsFault.sem (a1.1.2.1, ())).bind fun r3 => bif !decide (r3.1 = (0 : Int)) then (some (r3.1, ())) else let j8 : Option Out := (impl_keysOf.sem (a1.1.1, a1.1.2.1, ())).bind fun r9 => bif decide ((12 : Int) < (r9.1.length : Int)) then (some ((2 : Int), ())) else (impl_committed.sem (a1.1.1, a1.1.2.1, ())).bind fun r10 => bif !decide (r10.2.1 = (0 : Int)) then (some ((8 : Int), ())) else some ((0 : Int), ()); (impl_in.sem (a1.1.2.2.1, (1 : Int), (100 : Int), ())).bind fun r4 => bif !r4.1 then (some ((3 : Int), ())) else bif decide ((0 : Int) < (a1.1.2.1.length : Int)) then (if 0 ≤ w64 ((a1.1.2.1.length : Int) - (1 : Int)) then ((a1.1.2.1[(w64 ((a1.1.2.1.length : Int) - (1 : Int))).toNat]?).bind fun x5 => bif decide (a1.1.2.2.1 ≤ x5.1) then (some ((3 : Int), ())) else j8) else none) else j8
noncomputable def raw (k : Nat) (a1 : Arg) : Option Out := p a1
theorem p_eq (k : Nat) (a1 : Arg) : bodyK E k Go.Proofs.Try.f11 ps rs [] [] a1 = p a1 := by kernel_rfl
theorem raw_eq (k : Nat) (a1 : Arg) : bodyK E k Go.Proofs.Try.f11 ps rs [] [] a1 = raw k a1 := (p_eq k a1).trans (by rfl)
theorem ent : EnterOk Go.Proofs.Try.prog 11 sig.cap := ⟨Go.Proofs.Try.f11, Go.Proofs.Try.func11, by kernel_rfl, by kernel_rfl, by kernel_rfl⟩
theorem env : EnvOk Go.Proofs.Try.prog E := env_ok (tl := [(2, i64), (28, (.slc tRow)), (29, (.slc tTx)), (31, tPlain), (99, tTx), (100, (.map tKey .bool))]) (gl := [(45, impl_RowsFault.sig), (46, impl_TxsFault.sig), (47, impl_in.sig), (48, impl_keysOf.sig), (49, impl_committed.sig)]) rfl rfl (by kernel_rfl) (by kernel_rfl) (fn_cons impl_RowsFault.snd impl_RowsFault.ent (fn_cons impl_TxsFault.snd impl_TxsFault.ent (fn_cons impl_in.snd impl_in.ent (fn_cons impl_keysOf.snd impl_keysOf.ent (fn_cons impl_committed.snd impl_committed.ent (fn_nil _))))))
theorem chk : funOk Go.Proofs.Try.prog E Go.Proofs.Try.f11 ps rs [] = true := by kernel_rfl
theorem snd : Sound Go.Proofs.Try.prog 11 sig := sound_of_body env Go.Proofs.Try.func11 rfl (es := []) (fr := []) chk (fun _ _ h => lift_some h)
end impl_PlainFault
namespace laws_eqRow
/-! loop example g00408 laws eqRow -/
abbrev Arg : Type := Row × Row × Unit
abbrev Out : Type := Bool × Unit
noncomputable def ps : List (PM × Ty) := [(.ro, tRow), (.ro, tRow)]
noncomputable def rs : List (Ty × Md) := [(.bool, (roMd .bool))]
noncomputable def E : Env := { TI := lookN [(2, i64), (9, .str), (48, tRow)], G := lookN [], fz := [], lv := [], lx := [], lf := [], od := [] }
noncomputable def sem (a : Arg) : Option Out := lift fun k => bodyK E k Go.Proofs.Try.f67 ps rs [] [] a
noncomputable def sig : Sig := { ps := ps, rs := rs, F := fun a => sem a }
noncomputable def C : Code := bodyOf Go.Proofs.Try.f67
noncomputable def fin : St → Option Out := outK ps rs [] (Func.results Go.Proofs.Try.f67).toList (mvs [])
noncomputable def K0 : Ex → St → Option Out := endK fin
noncomputable def p (a1 : Arg) : Option Out := bif !decide (a1.1.1 = a1.2.1.1) then (some (false, ())) else bif !decide (a1.1.2.1 = a1.2.1.2.1) then (some (false, ())) else bif !decide (a1.1.2.2.1 = a1.2.1.2.2.1) then (some (false, ())) else bif !decide (a1.1.2.2.2.1 = a1.2.1.2.2.2.1) then (some (false, ())) else some (true, ())
noncomputable def raw (k : Nat) (a1 : Arg) : Option Out := p a1
theorem p_eq (k : Nat) (a1 : Arg) : bodyK E k Go.Proofs.Try.f67 ps rs [] [] a1 = p a1 := by kernel_rfl
theorem raw_eq (k : Nat) (a1 : Arg) : bodyK E k Go.Proofs.Try.f67 ps rs [] [] a1 = raw k a1 := (p_eq k a1).trans (by rfl)
theorem ent : EnterOk Go.Proofs.Try.prog 67 sig.cap := ⟨Go.Proofs.Try.f67, Go.Proofs.Try.func67, by kernel_rfl, by kernel_rfl, by kernel_rfl⟩
theorem env : EnvOk Go.Proofs.Try.prog E := env_ok (tl := [(2, i64), (9, .str), (48, tRow)]) (gl := []) rfl rfl (by kernel_rfl) (by kernel_rfl) (fn_nil _)
theorem chk : funOk Go.Proofs.Try.prog E Go.Proofs.Try.f67 ps rs [] = true := by kernel_rfl
theorem snd : Sound Go.Proofs.Try.prog 67 sig := sound_of_body env Go.Proofs.Try.func67 rfl (es := []) (fr := []) chk (fun _ _ h => lift_some h)
end laws_eqRow
namespace laws_eqRowS
/-! loop example g00408 laws eqRowS -/
abbrev Arg : Type := (List Row) × (List Row) × Unit
abbrev Out : Type := Bool × Unit
noncomputable def ps : List (PM × Ty) := [(.ro, (.slc tRow)), (.ro, (.slc tRow))]
noncomputable def rs : List (Ty × Md) := [(.bool, (roMd .bool))]
noncomputable def E : Env := { TI := lookN [(28, (.slc tRow)), (48, tRow)], G := lookN [(67, laws_eqRow.sig)], fz := [], lv := [(4, [0, 1, 5])], lx := [(0, [])], lf := [], od := [(6, [0, 1, 2, 3, 4, 5, 6, 7, 8, 9])] }
noncomputable def sem (a : Arg) : Option Out := lift fun k => bodyK E k Go.Proofs.Try.f28 ps rs [] [] a
noncomputable def sig : Sig := { ps := ps, rs := rs, F := fun a => sem a }
noncomputable def C : Code := bodyOf Go.Proofs.Try.f28
noncomputable def fin : St → Option Out := outK ps rs [] (Func.results Go.Proofs.Try.f28).toList (mvs [])
noncomputable def K0 : Ex → St → Option Out := endK fin
noncomputable def S0 (rec : St → Option Out) (a1 : Arg) : (Int) → Option Out := fun v402 => rec ({ n := 27, sl := [(0, .val (.slc tRow) a1.1), (1, .val (.slc tRow) a1.2.1), (5, .val i64 v402)], vr := [], lent := [] })
noncomputable def X0_0 (K : Ex → St → Option Out) (a1 : Arg) : (Unit) → Option Out := fun z => K (.exit 0) ({ n := 27, sl := [], vr := [], lent := [] })
noncomputable def b0 (self : Int → Option Out) (e0 : (Unit) → Option Out) (a1 : Arg) (v402 : Int) : Option Out := bif decide (v402 < (a1.1.length : Int)) then (if 0 ≤ v402 then ((a1.1[v402.toNat]?).bind fun x603 => if 0 ≤ v402 then ((a1.2.1[v402.toNat]?).bind fun x604 => (laws_eqRow.sem (x603, x604, ())).bind fun r605 => bif !r605.1 then (some (false, ())) else self (w64 (v402 + (1 : Int)))) else none) else none) else e0 ()
noncomputable def B0 (k : Nat) (self : Int → Option Out) (e0 : (Unit) → Option Out) (a1 : Arg) (v402 : Int) : Option Out := b0 self e0 a1 v402
theorem b0_eq (k : Nat) (rec : St → Option Out) (K : Ex → St → Option Out) (a1 : Arg) (v402 : Int) : codeK E k fin (sub [1, 1, 0, 1, 0, 0] C) ({ n := 27, sl := [(0, .val (.slc tRow) a1.1), (1, .val (.slc tRow) a1.2.1), (5, .val i64 v402)], vr := [], lent := [] }) (loopC rec (keepF [0, 1, 5] []) K) = b0 (S0 rec a1) (X0_0 K a1) a1 v402 := by kernel_rfl
theorem B0_eq (k : Nat) (rec : St → Option Out) (K : Ex → St → Option Out) (a1 : Arg) (v402 : Int) : codeK E k fin (sub [1, 1, 0, 1, 0, 0] C) ({ n := 27, sl := [(0, .val (.slc tRow) a1.1), (1, .val (.slc tRow) a1.2.1), (5, .val i64 v402)], vr := [], lent := [] }) (loopC rec (keepF [0, 1, 5] []) K) = B0 k (S0 rec a1) (X0_0 K a1) a1 v402 := (b0_eq k rec K a1 v402).trans (by rfl)
noncomputable def l0 (k : Nat) (a1 : Arg) (e0 : (Unit) → Option Out) (v : Int) : Option Out := rawIter (fun self v => B0 k self e0 a1 v) k v
theorem l0_eq (k : Nat) (K : Ex → St → Option Out) (a1 : Arg) (v402 : Int) : iterK (codeK E k fin (sub [1, 1, 0, 1, 0, 0] C)) (keepF [0, 1, 5] []) K k ({ n := 27, sl := [(0, .val (.slc tRow) a1.1), (1, .val (.slc tRow) a1.2.1), (5, .val i64 v402)], vr := [], lent := [] }) = l0 k a1 (X0_0 K a1) v402 :=
  iter_raw _ _ K (fun v402 => ({ n := 27, sl := [(0, .val (.slc tRow) a1.1), (1, .val (.slc tRow) a1.2.1), (5, .val i64 v402)], vr := [], lent := [] } : St)) (fun self v => B0 k self (X0_0 K a1) a1 v) (fun rec v => B0_eq k rec K a1 v) k v402
noncomputable def q0 (a1 : Arg) (z606 : (Unit)) : Option Out := some (true, ())
noncomputable def Q0 (k : Nat) (a1 : Arg) (z606 : (Unit)) : Option Out := q0 a1 z606
theorem q0_eq (k : Nat) (a1 : Arg) (z606 : (Unit)) : (blockC 0 (seqC (codeK E k fin (sub [1, 1, 1] C)) K0)) (.exit 0) ({ n := 27, sl := [], vr := [], lent := [] }) = q0 a1 z606 := by kernel_rfl
theorem Q0_eq (k : Nat) (a1 : Arg) (z606 : (Unit)) : (blockC 0 (seqC (codeK E k fin (sub [1, 1, 1] C)) K0)) (.exit 0) ({ n := 27, sl := [], vr := [], lent := [] }) = Q0 k a1 z606 := (q0_eq k a1 z606).trans (by rfl)
noncomputable def s0 (k : Nat) (a1 : Arg) : (Int) → Option Out := fun v402 => iterK (codeK E k fin (sub [1, 1, 0, 1, 0, 0] C)) (keepF [0, 1, 5] []) (blockC 0 (seqC (codeK E k fin (sub [1, 1, 1] C)) K0)) k ({ n := 27, sl := [(0, .val (.slc tRow) a1.1), (1, .val (.slc tRow) a1.2.1), (5, .val i64 v402)], vr := [], lent := [] })
noncomputable def r0 (k : Nat) (a1 : Arg) : (Int) → Option Out := fun v402 => l0 k a1 (fun z => Q0 k a1 z) v402
theorem s0_eq (k : Nat) (a1 : Arg) : s0 k a1 = r0 k a1 := by
  funext v402;
  have h0 : X0_0 ((blockC 0 (seqC (codeK E k fin (sub [1, 1, 1] C)) K0))) a1 = fun z => Q0 k a1 z := funext fun z => Q0_eq k a1 z
  refine (l0_eq k ((blockC 0 (seqC (codeK E k fin (sub [1, 1, 1] C)) K0))) a1 v402).trans ?_
  rw [h0]
  rfl
noncomputable def p (l0 : (Int) → Option Out) (a1 : Arg) : Option Out := bif !decide ((a1.1.length : Int) = (a1.2.1.length : Int)) then (some (false, ())) else l0 (0 : Int)
noncomputable def raw (k : Nat) (a1 : Arg) : Option Out := p (r0 k a1) a1
theorem p_eq (k : Nat) (a1 : Arg) : bodyK E k Go.Proofs.Try.f28 ps rs [] [] a1 = p (s0 k a1) a1 := by kernel_rfl
theorem raw_eq (k : Nat) (a1 : Arg) : bodyK E k Go.Proofs.Try.f28 ps rs [] [] a1 = raw k a1 := (p_eq k a1).trans (by rw [s0_eq]; rfl)
theorem ent : EnterOk Go.Proofs.Try.prog 28 sig.cap := ⟨Go.Proofs.Try.f28, Go.Proofs.Try.func28, by kernel_rfl, by kernel_rfl, by kernel_rfl⟩
theorem env : EnvOk Go.Proofs.Try.prog E := env_ok (tl := [(28, (.slc tRow)), (48, tRow)]) (gl := [(67, laws_eqRow.sig)]) rfl rfl (by kernel_rfl) (by kernel_rfl) (fn_cons laws_eqRow.snd laws_eqRow.ent (fn_nil _))
theorem chk : funOk Go.Proofs.Try.prog E Go.Proofs.Try.f28 ps rs [] = true := by kernel_rfl
theorem snd : Sound Go.Proofs.Try.prog 28 sig := sound_of_body env Go.Proofs.Try.func28 rfl (es := []) (fr := []) chk (fun _ _ h => lift_some h)
end laws_eqRowS
namespace laws_eqChange
/-! loop example g00408 laws eqChange -/
abbrev Arg : Type := Change × Change × Unit
abbrev Out : Type := Bool × Unit
noncomputable def ps : List (PM × Ty) := [(.ro, tChange), (.ro, tChange)]
noncomputable def rs : List (Ty × Md) := [(.bool, (roMd .bool))]
noncomputable def E : Env := { TI := lookN [(4, .bool), (48, tRow), (50, tChange)], G := lookN [(67, laws_eqRow.sig)], fz := [], lv := [], lx := [], lf := [], od := [] }
noncomputable def sem (a : Arg) : Option Out := lift fun k => bodyK E k Go.Proofs.Try.f66 ps rs [] [] a
noncomputable def sig : Sig := { ps := ps, rs := rs, F := fun a => sem a }
noncomputable def C : Code := bodyOf Go.Proofs.Try.f66
noncomputable def fin : St → Option Out := outK ps rs [] (Func.results Go.Proofs.Try.f66).toList (mvs [])
noncomputable def K0 : Ex → St → Option Out := endK fin
noncomputable def p (a1 : Arg) : Option Out := bif !(a1.1.1 == a1.2.1.1) then (some (false, ())) else (laws_eqRow.sem (a1.1.2.1, a1.2.1.2.1, ())).bind fun r2 => bif !r2.1 then (some (false, ())) else bif !(a1.1.2.2.1 == a1.2.1.2.2.1) then (some (false, ())) else (laws_eqRow.sem (a1.1.2.2.2.1, a1.2.1.2.2.2.1, ())).bind fun r3 => bif !r3.1 then (some (false, ())) else some (true, ())
noncomputable def raw (k : Nat) (a1 : Arg) : Option Out := p a1
theorem p_eq (k : Nat) (a1 : Arg) : bodyK E k Go.Proofs.Try.f66 ps rs [] [] a1 = p a1 := by kernel_rfl
theorem raw_eq (k : Nat) (a1 : Arg) : bodyK E k Go.Proofs.Try.f66 ps rs [] [] a1 = raw k a1 := (p_eq k a1).trans (by rfl)
theorem ent : EnterOk Go.Proofs.Try.prog 66 sig.cap := ⟨Go.Proofs.Try.f66, Go.Proofs.Try.func66, by kernel_rfl, by kernel_rfl, by kernel_rfl⟩
theorem env : EnvOk Go.Proofs.Try.prog E := env_ok (tl := [(4, .bool), (48, tRow), (50, tChange)]) (gl := [(67, laws_eqRow.sig)]) rfl rfl (by kernel_rfl) (by kernel_rfl) (fn_cons laws_eqRow.snd laws_eqRow.ent (fn_nil _))
theorem chk : funOk Go.Proofs.Try.prog E Go.Proofs.Try.f66 ps rs [] = true := by kernel_rfl
theorem snd : Sound Go.Proofs.Try.prog 66 sig := sound_of_body env Go.Proofs.Try.func66 rfl (es := []) (fr := []) chk (fun _ _ h => lift_some h)
end laws_eqChange
namespace laws_eqChangeS
/-! loop example g00408 laws eqChangeS -/
abbrev Arg : Type := (List Change) × (List Change) × Unit
abbrev Out : Type := Bool × Unit
noncomputable def ps : List (PM × Ty) := [(.ro, (.slc tChange)), (.ro, (.slc tChange))]
noncomputable def rs : List (Ty × Md) := [(.bool, (roMd .bool))]
noncomputable def E : Env := { TI := lookN [(50, tChange), (65, (.slc tChange))], G := lookN [(66, laws_eqChange.sig)], fz := [], lv := [(4, [0, 1, 5])], lx := [(0, [])], lf := [], od := [(6, [0, 1, 2, 3, 4, 5, 6, 7, 8, 9])] }
noncomputable def sem (a : Arg) : Option Out := lift fun k => bodyK E k Go.Proofs.Try.f125 ps rs [] [] a
noncomputable def sig : Sig := { ps := ps, rs := rs, F := fun a => sem a }
noncomputable def C : Code := bodyOf Go.Proofs.Try.f125
noncomputable def fin : St → Option Out := outK ps rs [] (Func.results Go.Proofs.Try.f125).toList (mvs [])
noncomputable def K0 : Ex → St → Option Out := endK fin
noncomputable def S0 (rec : St → Option Out) (a1 : Arg) : (Int) → Option Out := fun v402 => rec ({ n := 27, sl := [(0, .val (.slc tChange) a1.1), (1, .val (.slc tChange) a1.2.1), (5, .val i64 v402)], vr := [], lent := [] })
noncomputable def X0_0 (K : Ex → St → Option Out) (a1 : Arg) : (Unit) → Option Out := fun z => K (.exit 0) ({ n := 27, sl := [], vr := [], lent := [] })
noncomputable def b0 (self : Int → Option Out) (e0 : (Unit) → Option Out) (a1 : Arg) (v402 : Int) : Option Out := bif decide (v402 < (a1.1.length : Int)) then (if 0 ≤ v402 then ((a1.1[v402.toNat]?).bind fun x603 => if 0 ≤ v402 then ((a1.2.1[v402.toNat]?).bind fun x604 => (laws_eqChange.sem (x603, x604, ())).bind fun r605 => bif !r605.1 then (some (false, ())) else self (w64 (v402 + (1 : Int)))) else none) else none) else e0 ()
noncomputable def B0 (k : Nat) (self : Int → Option Out) (e0 : (Unit) → Option Out) (a1 : Arg) (v402 : Int) : Option Out := b0 self e0 a1 v402
theorem b0_eq (k : Nat) (rec : St → Option Out) (K : Ex → St → Option Out) (a1 : Arg) (v402 : Int) : codeK E k fin (sub [1, 1, 0, 1, 0, 0] C) ({ n := 27, sl := [(0, .val (.slc tChange) a1.1), (1, .val (.slc tChange) a1.2.1), (5, .val i64 v402)], vr := [], lent := [] }) (loopC rec (keepF [0, 1, 5] []) K) = b0 (S0 rec a1) (X0_0 K a1) a1 v402 := by kernel_rfl
theorem B0_eq (k : Nat) (rec : St → Option Out) (K : Ex → St → Option Out) (a1 : Arg) (v402 : Int) : codeK E k fin (sub [1, 1, 0, 1, 0, 0] C) ({ n := 27, sl := [(0, .val (.slc tChange) a1.1), (1, .val (.slc tChange) a1.2.1), (5, .val i64 v402)], vr := [], lent := [] }) (loopC rec (keepF [0, 1, 5] []) K) = B0 k (S0 rec a1) (X0_0 K a1) a1 v402 := (b0_eq k rec K a1 v402).trans (by rfl)
noncomputable def l0 (k : Nat) (a1 : Arg) (e0 : (Unit) → Option Out) (v : Int) : Option Out := rawIter (fun self v => B0 k self e0 a1 v) k v
theorem l0_eq (k : Nat) (K : Ex → St → Option Out) (a1 : Arg) (v402 : Int) : iterK (codeK E k fin (sub [1, 1, 0, 1, 0, 0] C)) (keepF [0, 1, 5] []) K k ({ n := 27, sl := [(0, .val (.slc tChange) a1.1), (1, .val (.slc tChange) a1.2.1), (5, .val i64 v402)], vr := [], lent := [] }) = l0 k a1 (X0_0 K a1) v402 :=
  iter_raw _ _ K (fun v402 => ({ n := 27, sl := [(0, .val (.slc tChange) a1.1), (1, .val (.slc tChange) a1.2.1), (5, .val i64 v402)], vr := [], lent := [] } : St)) (fun self v => B0 k self (X0_0 K a1) a1 v) (fun rec v => B0_eq k rec K a1 v) k v402
noncomputable def q0 (a1 : Arg) (z606 : (Unit)) : Option Out := some (true, ())
noncomputable def Q0 (k : Nat) (a1 : Arg) (z606 : (Unit)) : Option Out := q0 a1 z606
theorem q0_eq (k : Nat) (a1 : Arg) (z606 : (Unit)) : (blockC 0 (seqC (codeK E k fin (sub [1, 1, 1] C)) K0)) (.exit 0) ({ n := 27, sl := [], vr := [], lent := [] }) = q0 a1 z606 := by kernel_rfl
theorem Q0_eq (k : Nat) (a1 : Arg) (z606 : (Unit)) : (blockC 0 (seqC (codeK E k fin (sub [1, 1, 1] C)) K0)) (.exit 0) ({ n := 27, sl := [], vr := [], lent := [] }) = Q0 k a1 z606 := (q0_eq k a1 z606).trans (by rfl)
noncomputable def s0 (k : Nat) (a1 : Arg) : (Int) → Option Out := fun v402 => iterK (codeK E k fin (sub [1, 1, 0, 1, 0, 0] C)) (keepF [0, 1, 5] []) (blockC 0 (seqC (codeK E k fin (sub [1, 1, 1] C)) K0)) k ({ n := 27, sl := [(0, .val (.slc tChange) a1.1), (1, .val (.slc tChange) a1.2.1), (5, .val i64 v402)], vr := [], lent := [] })
noncomputable def r0 (k : Nat) (a1 : Arg) : (Int) → Option Out := fun v402 => l0 k a1 (fun z => Q0 k a1 z) v402
theorem s0_eq (k : Nat) (a1 : Arg) : s0 k a1 = r0 k a1 := by
  funext v402;
  have h0 : X0_0 ((blockC 0 (seqC (codeK E k fin (sub [1, 1, 1] C)) K0))) a1 = fun z => Q0 k a1 z := funext fun z => Q0_eq k a1 z
  refine (l0_eq k ((blockC 0 (seqC (codeK E k fin (sub [1, 1, 1] C)) K0))) a1 v402).trans ?_
  rw [h0]
  rfl
noncomputable def p (l0 : (Int) → Option Out) (a1 : Arg) : Option Out := bif !decide ((a1.1.length : Int) = (a1.2.1.length : Int)) then (some (false, ())) else l0 (0 : Int)
noncomputable def raw (k : Nat) (a1 : Arg) : Option Out := p (r0 k a1) a1
theorem p_eq (k : Nat) (a1 : Arg) : bodyK E k Go.Proofs.Try.f125 ps rs [] [] a1 = p (s0 k a1) a1 := by kernel_rfl
theorem raw_eq (k : Nat) (a1 : Arg) : bodyK E k Go.Proofs.Try.f125 ps rs [] [] a1 = raw k a1 := (p_eq k a1).trans (by rw [s0_eq]; rfl)
theorem ent : EnterOk Go.Proofs.Try.prog 125 sig.cap := ⟨Go.Proofs.Try.f125, Go.Proofs.Try.func125, by kernel_rfl, by kernel_rfl, by kernel_rfl⟩
theorem env : EnvOk Go.Proofs.Try.prog E := env_ok (tl := [(50, tChange), (65, (.slc tChange))]) (gl := [(66, laws_eqChange.sig)]) rfl rfl (by kernel_rfl) (by kernel_rfl) (fn_cons laws_eqChange.snd laws_eqChange.ent (fn_nil _))
theorem chk : funOk Go.Proofs.Try.prog E Go.Proofs.Try.f125 ps rs [] = true := by kernel_rfl
theorem snd : Sound Go.Proofs.Try.prog 125 sig := sound_of_body env Go.Proofs.Try.func125 rfl (es := []) (fr := []) chk (fun _ _ h => lift_some h)
end laws_eqChangeS
namespace laws_eqInt64S
/-! loop example g00408 laws eqInt64S -/
abbrev Arg : Type := (List Int) × (List Int) × Unit
abbrev Out : Type := Bool × Unit
noncomputable def ps : List (PM × Ty) := [(.ro, (.slc i64)), (.ro, (.slc i64))]
noncomputable def rs : List (Ty × Md) := [(.bool, (roMd .bool))]
noncomputable def E : Env := { TI := lookN [(2, i64), (96, (.slc i64))], G := lookN [], fz := [], lv := [(4, [0, 1, 5])], lx := [(0, [])], lf := [], od := [(6, [0, 1, 2, 3, 4, 5, 6, 7, 8])] }
noncomputable def sem (a : Arg) : Option Out := lift fun k => bodyK E k Go.Proofs.Try.f126 ps rs [] [] a
noncomputable def sig : Sig := { ps := ps, rs := rs, F := fun a => sem a }
noncomputable def C : Code := bodyOf Go.Proofs.Try.f126
noncomputable def fin : St → Option Out := outK ps rs [] (Func.results Go.Proofs.Try.f126).toList (mvs [])
noncomputable def K0 : Ex → St → Option Out := endK fin
noncomputable def S0 (rec : St → Option Out) (a1 : Arg) : (Int) → Option Out := fun v402 => rec ({ n := 26, sl := [(0, .val (.slc i64) a1.1), (1, .val (.slc i64) a1.2.1), (5, .val i64 v402)], vr := [], lent := [] })
noncomputable def X0_0 (K : Ex → St → Option Out) (a1 : Arg) : (Unit) → Option Out := fun z => K (.exit 0) ({ n := 26, sl := [], vr := [], lent := [] })
noncomputable def b0 (self : Int → Option Out) (e0 : (Unit) → Option Out) (a1 : Arg) (v402 : Int) : Option Out := bif decide (v402 < (a1.1.length : Int)) then (if 0 ≤ v402 then ((a1.1[v402.toNat]?).bind fun x603 => if 0 ≤ v402 then ((a1.2.1[v402.toNat]?).bind fun x604 => bif !decide (x603 = x604) then (some (false, ())) else self (w64 (v402 + (1 : Int)))) else none) else none) else e0 ()
noncomputable def B0 (k : Nat) (self : Int → Option Out) (e0 : (Unit) → Option Out) (a1 : Arg) (v402 : Int) : Option Out := b0 self e0 a1 v402
theorem b0_eq (k : Nat) (rec : St → Option Out) (K : Ex → St → Option Out) (a1 : Arg) (v402 : Int) : codeK E k fin (sub [1, 1, 0, 1, 0, 0] C) ({ n := 26, sl := [(0, .val (.slc i64) a1.1), (1, .val (.slc i64) a1.2.1), (5, .val i64 v402)], vr := [], lent := [] }) (loopC rec (keepF [0, 1, 5] []) K) = b0 (S0 rec a1) (X0_0 K a1) a1 v402 := by kernel_rfl
theorem B0_eq (k : Nat) (rec : St → Option Out) (K : Ex → St → Option Out) (a1 : Arg) (v402 : Int) : codeK E k fin (sub [1, 1, 0, 1, 0, 0] C) ({ n := 26, sl := [(0, .val (.slc i64) a1.1), (1, .val (.slc i64) a1.2.1), (5, .val i64 v402)], vr := [], lent := [] }) (loopC rec (keepF [0, 1, 5] []) K) = B0 k (S0 rec a1) (X0_0 K a1) a1 v402 := (b0_eq k rec K a1 v402).trans (by rfl)
noncomputable def l0 (k : Nat) (a1 : Arg) (e0 : (Unit) → Option Out) (v : Int) : Option Out := rawIter (fun self v => B0 k self e0 a1 v) k v
theorem l0_eq (k : Nat) (K : Ex → St → Option Out) (a1 : Arg) (v402 : Int) : iterK (codeK E k fin (sub [1, 1, 0, 1, 0, 0] C)) (keepF [0, 1, 5] []) K k ({ n := 26, sl := [(0, .val (.slc i64) a1.1), (1, .val (.slc i64) a1.2.1), (5, .val i64 v402)], vr := [], lent := [] }) = l0 k a1 (X0_0 K a1) v402 :=
  iter_raw _ _ K (fun v402 => ({ n := 26, sl := [(0, .val (.slc i64) a1.1), (1, .val (.slc i64) a1.2.1), (5, .val i64 v402)], vr := [], lent := [] } : St)) (fun self v => B0 k self (X0_0 K a1) a1 v) (fun rec v => B0_eq k rec K a1 v) k v402
noncomputable def q0 (a1 : Arg) (z605 : (Unit)) : Option Out := some (true, ())
noncomputable def Q0 (k : Nat) (a1 : Arg) (z605 : (Unit)) : Option Out := q0 a1 z605
theorem q0_eq (k : Nat) (a1 : Arg) (z605 : (Unit)) : (blockC 0 (seqC (codeK E k fin (sub [1, 1, 1] C)) K0)) (.exit 0) ({ n := 26, sl := [], vr := [], lent := [] }) = q0 a1 z605 := by kernel_rfl
theorem Q0_eq (k : Nat) (a1 : Arg) (z605 : (Unit)) : (blockC 0 (seqC (codeK E k fin (sub [1, 1, 1] C)) K0)) (.exit 0) ({ n := 26, sl := [], vr := [], lent := [] }) = Q0 k a1 z605 := (q0_eq k a1 z605).trans (by rfl)
noncomputable def s0 (k : Nat) (a1 : Arg) : (Int) → Option Out := fun v402 => iterK (codeK E k fin (sub [1, 1, 0, 1, 0, 0] C)) (keepF [0, 1, 5] []) (blockC 0 (seqC (codeK E k fin (sub [1, 1, 1] C)) K0)) k ({ n := 26, sl := [(0, .val (.slc i64) a1.1), (1, .val (.slc i64) a1.2.1), (5, .val i64 v402)], vr := [], lent := [] })
noncomputable def r0 (k : Nat) (a1 : Arg) : (Int) → Option Out := fun v402 => l0 k a1 (fun z => Q0 k a1 z) v402
theorem s0_eq (k : Nat) (a1 : Arg) : s0 k a1 = r0 k a1 := by
  funext v402;
  have h0 : X0_0 ((blockC 0 (seqC (codeK E k fin (sub [1, 1, 1] C)) K0))) a1 = fun z => Q0 k a1 z := funext fun z => Q0_eq k a1 z
  refine (l0_eq k ((blockC 0 (seqC (codeK E k fin (sub [1, 1, 1] C)) K0))) a1 v402).trans ?_
  rw [h0]
  rfl
noncomputable def p (l0 : (Int) → Option Out) (a1 : Arg) : Option Out := bif !decide ((a1.1.length : Int) = (a1.2.1.length : Int)) then (some (false, ())) else l0 (0 : Int)
noncomputable def raw (k : Nat) (a1 : Arg) : Option Out := p (r0 k a1) a1
theorem p_eq (k : Nat) (a1 : Arg) : bodyK E k Go.Proofs.Try.f126 ps rs [] [] a1 = p (s0 k a1) a1 := by kernel_rfl
theorem raw_eq (k : Nat) (a1 : Arg) : bodyK E k Go.Proofs.Try.f126 ps rs [] [] a1 = raw k a1 := (p_eq k a1).trans (by rw [s0_eq]; rfl)
theorem ent : EnterOk Go.Proofs.Try.prog 126 sig.cap := ⟨Go.Proofs.Try.f126, Go.Proofs.Try.func126, by kernel_rfl, by kernel_rfl, by kernel_rfl⟩
theorem env : EnvOk Go.Proofs.Try.prog E := env_ok (tl := [(2, i64), (96, (.slc i64))]) (gl := []) rfl rfl (by kernel_rfl) (by kernel_rfl) (fn_nil _)
theorem chk : funOk Go.Proofs.Try.prog E Go.Proofs.Try.f126 ps rs [] = true := by kernel_rfl
theorem snd : Sound Go.Proofs.Try.prog 126 sig := sound_of_body env Go.Proofs.Try.func126 rfl (es := []) (fr := []) chk (fun _ _ h => lift_some h)
end laws_eqInt64S
namespace laws_eqKey
/-! loop example g00408 laws eqKey -/
abbrev Arg : Type := Key × Key × Unit
abbrev Out : Type := Bool × Unit
noncomputable def ps : List (PM × Ty) := [(.ro, tKey), (.ro, tKey)]
noncomputable def rs : List (Ty × Md) := [(.bool, (roMd .bool))]
noncomputable def E : Env := { TI := lookN [(2, i64), (146, tKey)], G := lookN [], fz := [], lv := [], lx := [], lf := [], od := [] }
noncomputable def sem (a : Arg) : Option Out := lift fun k => bodyK E k Go.Proofs.Try.f167 ps rs [] [] a
noncomputable def sig : Sig := { ps := ps, rs := rs, F := fun a => sem a }
noncomputable def C : Code := bodyOf Go.Proofs.Try.f167
noncomputable def fin : St → Option Out := outK ps rs [] (Func.results Go.Proofs.Try.f167).toList (mvs [])
noncomputable def K0 : Ex → St → Option Out := endK fin
noncomputable def p (a1 : Arg) : Option Out := bif !decide (a1.1.1 = a1.2.1.1) then (some (false, ())) else bif !decide (a1.1.2.1 = a1.2.1.2.1) then (some (false, ())) else some (true, ())
noncomputable def raw (k : Nat) (a1 : Arg) : Option Out := p a1
theorem p_eq (k : Nat) (a1 : Arg) : bodyK E k Go.Proofs.Try.f167 ps rs [] [] a1 = p a1 := by kernel_rfl
theorem raw_eq (k : Nat) (a1 : Arg) : bodyK E k Go.Proofs.Try.f167 ps rs [] [] a1 = raw k a1 := (p_eq k a1).trans (by rfl)
theorem ent : EnterOk Go.Proofs.Try.prog 167 sig.cap := ⟨Go.Proofs.Try.f167, Go.Proofs.Try.func167, by kernel_rfl, by kernel_rfl, by kernel_rfl⟩
theorem env : EnvOk Go.Proofs.Try.prog E := env_ok (tl := [(2, i64), (146, tKey)]) (gl := []) rfl rfl (by kernel_rfl) (by kernel_rfl) (fn_nil _)
theorem chk : funOk Go.Proofs.Try.prog E Go.Proofs.Try.f167 ps rs [] = true := by kernel_rfl
theorem snd : Sound Go.Proofs.Try.prog 167 sig := sound_of_body env Go.Proofs.Try.func167 rfl (es := []) (fr := []) chk (fun _ _ h => lift_some h)
end laws_eqKey
namespace laws_eqKeyS
/-! loop example g00408 laws eqKeyS -/
abbrev Arg : Type := (List Key) × (List Key) × Unit
abbrev Out : Type := Bool × Unit
noncomputable def ps : List (PM × Ty) := [(.ro, (.slc tKey)), (.ro, (.slc tKey))]
noncomputable def rs : List (Ty × Md) := [(.bool, (roMd .bool))]
noncomputable def E : Env := { TI := lookN [(97, (.slc tKey)), (146, tKey)], G := lookN [(167, laws_eqKey.sig)], fz := [], lv := [(4, [0, 1, 5])], lx := [(0, [])], lf := [], od := [(6, [0, 1, 2, 3, 4, 5, 6, 7, 8, 9])] }
noncomputable def sem (a : Arg) : Option Out := lift fun k => bodyK E k Go.Proofs.Try.f127 ps rs [] [] a
noncomputable def sig : Sig := { ps := ps, rs := rs, F := fun a => sem a }
noncomputable def C : Code := bodyOf Go.Proofs.Try.f127
noncomputable def fin : St → Option Out := outK ps rs [] (Func.results Go.Proofs.Try.f127).toList (mvs [])
noncomputable def K0 : Ex → St → Option Out := endK fin
noncomputable def S0 (rec : St → Option Out) (a1 : Arg) : (Int) → Option Out := fun v402 => rec ({ n := 27, sl := [(0, .val (.slc tKey) a1.1), (1, .val (.slc tKey) a1.2.1), (5, .val i64 v402)], vr := [], lent := [] })
noncomputable def X0_0 (K : Ex → St → Option Out) (a1 : Arg) : (Unit) → Option Out := fun z => K (.exit 0) ({ n := 27, sl := [], vr := [], lent := [] })
noncomputable def b0 (self : Int → Option Out) (e0 : (Unit) → Option Out) (a1 : Arg) (v402 : Int) : Option Out := bif decide (v402 < (a1.1.length : Int)) then (if 0 ≤ v402 then ((a1.1[v402.toNat]?).bind fun x603 => if 0 ≤ v402 then ((a1.2.1[v402.toNat]?).bind fun x604 => (laws_eqKey.sem (x603, x604, ())).bind fun r605 => bif !r605.1 then (some (false, ())) else self (w64 (v402 + (1 : Int)))) else none) else none) else e0 ()
noncomputable def B0 (k : Nat) (self : Int → Option Out) (e0 : (Unit) → Option Out) (a1 : Arg) (v402 : Int) : Option Out := b0 self e0 a1 v402
theorem b0_eq (k : Nat) (rec : St → Option Out) (K : Ex → St → Option Out) (a1 : Arg) (v402 : Int) : codeK E k fin (sub [1, 1, 0, 1, 0, 0] C) ({ n := 27, sl := [(0, .val (.slc tKey) a1.1), (1, .val (.slc tKey) a1.2.1), (5, .val i64 v402)], vr := [], lent := [] }) (loopC rec (keepF [0, 1, 5] []) K) = b0 (S0 rec a1) (X0_0 K a1) a1 v402 := by kernel_rfl
theorem B0_eq (k : Nat) (rec : St → Option Out) (K : Ex → St → Option Out) (a1 : Arg) (v402 : Int) : codeK E k fin (sub [1, 1, 0, 1, 0, 0] C) ({ n := 27, sl := [(0, .val (.slc tKey) a1.1), (1, .val (.slc tKey) a1.2.1), (5, .val i64 v402)], vr := [], lent := [] }) (loopC rec (keepF [0, 1, 5] []) K) = B0 k (S0 rec a1) (X0_0 K a1) a1 v402 := (b0_eq k rec K a1 v402).trans (by rfl)
noncomputable def l0 (k : Nat) (a1 : Arg) (e0 : (Unit) → Option Out) (v : Int) : Option Out := rawIter (fun self v => B0 k self e0 a1 v) k v
theorem l0_eq (k : Nat) (K : Ex → St → Option Out) (a1 : Arg) (v402 : Int) : iterK (codeK E k fin (sub [1, 1, 0, 1, 0, 0] C)) (keepF [0, 1, 5] []) K k ({ n := 27, sl := [(0, .val (.slc tKey) a1.1), (1, .val (.slc tKey) a1.2.1), (5, .val i64 v402)], vr := [], lent := [] }) = l0 k a1 (X0_0 K a1) v402 :=
  iter_raw _ _ K (fun v402 => ({ n := 27, sl := [(0, .val (.slc tKey) a1.1), (1, .val (.slc tKey) a1.2.1), (5, .val i64 v402)], vr := [], lent := [] } : St)) (fun self v => B0 k self (X0_0 K a1) a1 v) (fun rec v => B0_eq k rec K a1 v) k v402
noncomputable def q0 (a1 : Arg) (z606 : (Unit)) : Option Out := some (true, ())
noncomputable def Q0 (k : Nat) (a1 : Arg) (z606 : (Unit)) : Option Out := q0 a1 z606
theorem q0_eq (k : Nat) (a1 : Arg) (z606 : (Unit)) : (blockC 0 (seqC (codeK E k fin (sub [1, 1, 1] C)) K0)) (.exit 0) ({ n := 27, sl := [], vr := [], lent := [] }) = q0 a1 z606 := by kernel_rfl
theorem Q0_eq (k : Nat) (a1 : Arg) (z606 : (Unit)) : (blockC 0 (seqC (codeK E k fin (sub [1, 1, 1] C)) K0)) (.exit 0) ({ n := 27, sl := [], vr := [], lent := [] }) = Q0 k a1 z606 := (q0_eq k a1 z606).trans (by rfl)
noncomputable def s0 (k : Nat) (a1 : Arg) : (Int) → Option Out := fun v402 => iterK (codeK E k fin (sub [1, 1, 0, 1, 0, 0] C)) (keepF [0, 1, 5] []) (blockC 0 (seqC (codeK E k fin (sub [1, 1, 1] C)) K0)) k ({ n := 27, sl := [(0, .val (.slc tKey) a1.1), (1, .val (.slc tKey) a1.2.1), (5, .val i64 v402)], vr := [], lent := [] })
noncomputable def r0 (k : Nat) (a1 : Arg) : (Int) → Option Out := fun v402 => l0 k a1 (fun z => Q0 k a1 z) v402
theorem s0_eq (k : Nat) (a1 : Arg) : s0 k a1 = r0 k a1 := by
  funext v402;
  have h0 : X0_0 ((blockC 0 (seqC (codeK E k fin (sub [1, 1, 1] C)) K0))) a1 = fun z => Q0 k a1 z := funext fun z => Q0_eq k a1 z
  refine (l0_eq k ((blockC 0 (seqC (codeK E k fin (sub [1, 1, 1] C)) K0))) a1 v402).trans ?_
  rw [h0]
  rfl
noncomputable def p (l0 : (Int) → Option Out) (a1 : Arg) : Option Out := bif !decide ((a1.1.length : Int) = (a1.2.1.length : Int)) then (some (false, ())) else l0 (0 : Int)
noncomputable def raw (k : Nat) (a1 : Arg) : Option Out := p (r0 k a1) a1
theorem p_eq (k : Nat) (a1 : Arg) : bodyK E k Go.Proofs.Try.f127 ps rs [] [] a1 = p (s0 k a1) a1 := by kernel_rfl
theorem raw_eq (k : Nat) (a1 : Arg) : bodyK E k Go.Proofs.Try.f127 ps rs [] [] a1 = raw k a1 := (p_eq k a1).trans (by rw [s0_eq]; rfl)
theorem ent : EnterOk Go.Proofs.Try.prog 127 sig.cap := ⟨Go.Proofs.Try.f127, Go.Proofs.Try.func127, by kernel_rfl, by kernel_rfl, by kernel_rfl⟩
theorem env : EnvOk Go.Proofs.Try.prog E := env_ok (tl := [(97, (.slc tKey)), (146, tKey)]) (gl := [(167, laws_eqKey.sig)]) rfl rfl (by kernel_rfl) (by kernel_rfl) (fn_cons laws_eqKey.snd laws_eqKey.ent (fn_nil _))
theorem chk : funOk Go.Proofs.Try.prog E Go.Proofs.Try.f127 ps rs [] = true := by kernel_rfl
theorem snd : Sound Go.Proofs.Try.prog 127 sig := sound_of_body env Go.Proofs.Try.func127 rfl (es := []) (fr := []) chk (fun _ _ h => lift_some h)
end laws_eqKeyS
namespace laws_eqTx
/-! loop example g00408 laws eqTx -/
abbrev Arg : Type := Tx × Tx × Unit
abbrev Out : Type := Bool × Unit
noncomputable def ps : List (PM × Ty) := [(.ro, tTx), (.ro, tTx)]
noncomputable def rs : List (Ty × Md) := [(.bool, (roMd .bool))]
noncomputable def E : Env := { TI := lookN [(2, i64), (65, (.slc tChange)), (96, (.slc i64)), (97, (.slc tKey)), (99, tTx)], G := lookN [(125, laws_eqChangeS.sig), (126, laws_eqInt64S.sig), (127, laws_eqKeyS.sig)], fz := [], lv := [], lx := [], lf := [], od := [] }
noncomputable def sem (a : Arg) : Option Out := lift fun k => bodyK E k Go.Proofs.Try.f68 ps rs [] [] a
noncomputable def sig : Sig := { ps := ps, rs := rs, F := fun a => sem a }
noncomputable def C : Code := bodyOf Go.Proofs.Try.f68
noncomputable def fin : St → Option Out := outK ps rs [] (Func.results Go.Proofs.Try.f68).toList (mvs [])
noncomputable def K0 : Ex → St → Option Out := endK fin
noncomputable def p (a1 : Arg) : Option Out := bif !decide (a1.1.1 = a1.2.1.1) then (some (false, ())) else (laws_eqChangeS.sem (a1.1.2.1, a1.2.1.2.1, ())).bind fun r2 => bif !r2.1 then (some (false, ())) else (laws_eqInt64S.sem (a1.1.2.2.1, a1.2.1.2.2.1, ())).bind fun r3 => bif !r3.1 then (some (false, ())) else (laws_eqKeyS.sem (a1.1.2.2.2.1, a1.2.1.2.2.2.1, ())).bind fun r4 => bif !r4.1 then (some (false, ())) else some (true, ())
noncomputable def raw (k : Nat) (a1 : Arg) : Option Out := p a1
theorem p_eq (k : Nat) (a1 : Arg) : bodyK E k Go.Proofs.Try.f68 ps rs [] [] a1 = p a1 := by kernel_rfl
theorem raw_eq (k : Nat) (a1 : Arg) : bodyK E k Go.Proofs.Try.f68 ps rs [] [] a1 = raw k a1 := (p_eq k a1).trans (by rfl)
theorem ent : EnterOk Go.Proofs.Try.prog 68 sig.cap := ⟨Go.Proofs.Try.f68, Go.Proofs.Try.func68, by kernel_rfl, by kernel_rfl, by kernel_rfl⟩
theorem env : EnvOk Go.Proofs.Try.prog E := env_ok (tl := [(2, i64), (65, (.slc tChange)), (96, (.slc i64)), (97, (.slc tKey)), (99, tTx)]) (gl := [(125, laws_eqChangeS.sig), (126, laws_eqInt64S.sig), (127, laws_eqKeyS.sig)]) rfl rfl (by kernel_rfl) (by kernel_rfl) (fn_cons laws_eqChangeS.snd laws_eqChangeS.ent (fn_cons laws_eqInt64S.snd laws_eqInt64S.ent (fn_cons laws_eqKeyS.snd laws_eqKeyS.ent (fn_nil _))))
theorem chk : funOk Go.Proofs.Try.prog E Go.Proofs.Try.f68 ps rs [] = true := by kernel_rfl
theorem snd : Sound Go.Proofs.Try.prog 68 sig := sound_of_body env Go.Proofs.Try.func68 rfl (es := []) (fr := []) chk (fun _ _ h => lift_some h)
end laws_eqTx
namespace laws_eqTxS
/-! loop example g00408 laws eqTxS -/
abbrev Arg : Type := (List Tx) × (List Tx) × Unit
abbrev Out : Type := Bool × Unit
noncomputable def ps : List (PM × Ty) := [(.ro, (.slc tTx)), (.ro, (.slc tTx))]
noncomputable def rs : List (Ty × Md) := [(.bool, (roMd .bool))]
noncomputable def E : Env := { TI := lookN [(29, (.slc tTx)), (99, tTx)], G := lookN [(68, laws_eqTx.sig)], fz := [], lv := [(4, [0, 1, 5])], lx := [(0, [])], lf := [], od := [(6, [0, 1, 2, 3, 4, 5, 6, 7, 8, 9])] }
noncomputable def sem (a : Arg) : Option Out := lift fun k => bodyK E k Go.Proofs.Try.f29 ps rs [] [] a
noncomputable def sig : Sig := { ps := ps, rs := rs, F := fun a => sem a }
noncomputable def C : Code := bodyOf Go.Proofs.Try.f29
noncomputable def fin : St → Option Out := outK ps rs [] (Func.results Go.Proofs.Try.f29).toList (mvs [])
noncomputable def K0 : Ex → St → Option Out := endK fin
noncomputable def S0 (rec : St → Option Out) (a1 : Arg) : (Int) → Option Out := fun v402 => rec ({ n := 27, sl := [(0, .val (.slc tTx) a1.1), (1, .val (.slc tTx) a1.2.1), (5, .val i64 v402)], vr := [], lent := [] })
noncomputable def X0_0 (K : Ex → St → Option Out) (a1 : Arg) : (Unit) → Option Out := fun z => K (.exit 0) ({ n := 27, sl := [], vr := [], lent := [] })
noncomputable def b0 (self : Int → Option Out) (e0 : (Unit) → Option Out) (a1 : Arg) (v402 : Int) : Option Out := bif decide (v402 < (a1.1.length : Int)) then (if 0 ≤ v402 then ((a1.1[v402.toNat]?).bind fun x603 => if 0 ≤ v402 then ((a1.2.1[v402.toNat]?).bind fun x604 => (laws_eqTx.sem (x603, x604, ())).bind fun r605 => bif !r605.1 then (some (false, ())) else self (w64 (v402 + (1 : Int)))) else none) else none) else e0 ()
noncomputable def B0 (k : Nat) (self : Int → Option Out) (e0 : (Unit) → Option Out) (a1 : Arg) (v402 : Int) : Option Out := b0 self e0 a1 v402
theorem b0_eq (k : Nat) (rec : St → Option Out) (K : Ex → St → Option Out) (a1 : Arg) (v402 : Int) : codeK E k fin (sub [1, 1, 0, 1, 0, 0] C) ({ n := 27, sl := [(0, .val (.slc tTx) a1.1), (1, .val (.slc tTx) a1.2.1), (5, .val i64 v402)], vr := [], lent := [] }) (loopC rec (keepF [0, 1, 5] []) K) = b0 (S0 rec a1) (X0_0 K a1) a1 v402 := by kernel_rfl
theorem B0_eq (k : Nat) (rec : St → Option Out) (K : Ex → St → Option Out) (a1 : Arg) (v402 : Int) : codeK E k fin (sub [1, 1, 0, 1, 0, 0] C) ({ n := 27, sl := [(0, .val (.slc tTx) a1.1), (1, .val (.slc tTx) a1.2.1), (5, .val i64 v402)], vr := [], lent := [] }) (loopC rec (keepF [0, 1, 5] []) K) = B0 k (S0 rec a1) (X0_0 K a1) a1 v402 := (b0_eq k rec K a1 v402).trans (by rfl)
noncomputable def l0 (k : Nat) (a1 : Arg) (e0 : (Unit) → Option Out) (v : Int) : Option Out := rawIter (fun self v => B0 k self e0 a1 v) k v
theorem l0_eq (k : Nat) (K : Ex → St → Option Out) (a1 : Arg) (v402 : Int) : iterK (codeK E k fin (sub [1, 1, 0, 1, 0, 0] C)) (keepF [0, 1, 5] []) K k ({ n := 27, sl := [(0, .val (.slc tTx) a1.1), (1, .val (.slc tTx) a1.2.1), (5, .val i64 v402)], vr := [], lent := [] }) = l0 k a1 (X0_0 K a1) v402 :=
  iter_raw _ _ K (fun v402 => ({ n := 27, sl := [(0, .val (.slc tTx) a1.1), (1, .val (.slc tTx) a1.2.1), (5, .val i64 v402)], vr := [], lent := [] } : St)) (fun self v => B0 k self (X0_0 K a1) a1 v) (fun rec v => B0_eq k rec K a1 v) k v402
noncomputable def q0 (a1 : Arg) (z606 : (Unit)) : Option Out := some (true, ())
noncomputable def Q0 (k : Nat) (a1 : Arg) (z606 : (Unit)) : Option Out := q0 a1 z606
theorem q0_eq (k : Nat) (a1 : Arg) (z606 : (Unit)) : (blockC 0 (seqC (codeK E k fin (sub [1, 1, 1] C)) K0)) (.exit 0) ({ n := 27, sl := [], vr := [], lent := [] }) = q0 a1 z606 := by kernel_rfl
theorem Q0_eq (k : Nat) (a1 : Arg) (z606 : (Unit)) : (blockC 0 (seqC (codeK E k fin (sub [1, 1, 1] C)) K0)) (.exit 0) ({ n := 27, sl := [], vr := [], lent := [] }) = Q0 k a1 z606 := (q0_eq k a1 z606).trans (by rfl)
noncomputable def s0 (k : Nat) (a1 : Arg) : (Int) → Option Out := fun v402 => iterK (codeK E k fin (sub [1, 1, 0, 1, 0, 0] C)) (keepF [0, 1, 5] []) (blockC 0 (seqC (codeK E k fin (sub [1, 1, 1] C)) K0)) k ({ n := 27, sl := [(0, .val (.slc tTx) a1.1), (1, .val (.slc tTx) a1.2.1), (5, .val i64 v402)], vr := [], lent := [] })
noncomputable def r0 (k : Nat) (a1 : Arg) : (Int) → Option Out := fun v402 => l0 k a1 (fun z => Q0 k a1 z) v402
theorem s0_eq (k : Nat) (a1 : Arg) : s0 k a1 = r0 k a1 := by
  funext v402;
  have h0 : X0_0 ((blockC 0 (seqC (codeK E k fin (sub [1, 1, 1] C)) K0))) a1 = fun z => Q0 k a1 z := funext fun z => Q0_eq k a1 z
  refine (l0_eq k ((blockC 0 (seqC (codeK E k fin (sub [1, 1, 1] C)) K0))) a1 v402).trans ?_
  rw [h0]
  rfl
noncomputable def p (l0 : (Int) → Option Out) (a1 : Arg) : Option Out := bif !decide ((a1.1.length : Int) = (a1.2.1.length : Int)) then (some (false, ())) else l0 (0 : Int)
noncomputable def raw (k : Nat) (a1 : Arg) : Option Out := p (r0 k a1) a1
theorem p_eq (k : Nat) (a1 : Arg) : bodyK E k Go.Proofs.Try.f29 ps rs [] [] a1 = p (s0 k a1) a1 := by kernel_rfl
theorem raw_eq (k : Nat) (a1 : Arg) : bodyK E k Go.Proofs.Try.f29 ps rs [] [] a1 = raw k a1 := (p_eq k a1).trans (by rw [s0_eq]; rfl)
theorem ent : EnterOk Go.Proofs.Try.prog 29 sig.cap := ⟨Go.Proofs.Try.f29, Go.Proofs.Try.func29, by kernel_rfl, by kernel_rfl, by kernel_rfl⟩
theorem env : EnvOk Go.Proofs.Try.prog E := env_ok (tl := [(29, (.slc tTx)), (99, tTx)]) (gl := [(68, laws_eqTx.sig)]) rfl rfl (by kernel_rfl) (by kernel_rfl) (fn_cons laws_eqTx.snd laws_eqTx.ent (fn_nil _))
theorem chk : funOk Go.Proofs.Try.prog E Go.Proofs.Try.f29 ps rs [] = true := by kernel_rfl
theorem snd : Sound Go.Proofs.Try.prog 29 sig := sound_of_body env Go.Proofs.Try.func29 rfl (es := []) (fr := []) chk (fun _ _ h => lift_some h)
end laws_eqTxS
namespace laws_eqPlain
/-! loop example g00408 laws eqPlain -/
abbrev Arg : Type := Plain × Plain × Unit
abbrev Out : Type := Bool × Unit
noncomputable def ps : List (PM × Ty) := [(.ro, tPlain), (.ro, tPlain)]
noncomputable def rs : List (Ty × Md) := [(.bool, (roMd .bool))]
noncomputable def E : Env := { TI := lookN [(2, i64), (28, (.slc tRow)), (29, (.slc tTx)), (31, tPlain)], G := lookN [(28, laws_eqRowS.sig), (29, laws_eqTxS.sig)], fz := [], lv := [], lx := [], lf := [], od := [] }
noncomputable def sem (a : Arg) : Option Out := lift fun k => bodyK E k Go.Proofs.Try.f12 ps rs [] [] a
noncomputable def sig : Sig := { ps := ps, rs := rs, F := fun a => sem a }
noncomputable def C : Code := bodyOf Go.Proofs.Try.f12
noncomputable def fin : St → Option Out := outK ps rs [] (Func.results Go.Proofs.Try.f12).toList (mvs [])
noncomputable def K0 : Ex → St → Option Out := endK fin
noncomputable def p (a1 : Arg) : Option Out := (laws_eqRowS.sem (a1.1.1, a1.2.1.1, ())).bind fun r2 => bif !r2.1 then (some (false, ())) else (laws_eqTxS.sem (a1.1.2.1, a1.2.1.2.1, ())).bind fun r3 => bif !r3.1 then (some (false, ())) else bif !decide (a1.1.2.2.1 = a1.2.1.2.2.1) then (some (false, ())) else some (true, ())
noncomputable def raw (k : Nat) (a1 : Arg) : Option Out := p a1
theorem p_eq (k : Nat) (a1 : Arg) : bodyK E k Go.Proofs.Try.f12 ps rs [] [] a1 = p a1 := by kernel_rfl
theorem raw_eq (k : Nat) (a1 : Arg) : bodyK E k Go.Proofs.Try.f12 ps rs [] [] a1 = raw k a1 := (p_eq k a1).trans (by rfl)
theorem ent : EnterOk Go.Proofs.Try.prog 12 sig.cap := ⟨Go.Proofs.Try.f12, Go.Proofs.Try.func12, by kernel_rfl, by kernel_rfl, by kernel_rfl⟩
theorem env : EnvOk Go.Proofs.Try.prog E := env_ok (tl := [(2, i64), (28, (.slc tRow)), (29, (.slc tTx)), (31, tPlain)]) (gl := [(28, laws_eqRowS.sig), (29, laws_eqTxS.sig)]) rfl rfl (by kernel_rfl) (by kernel_rfl) (fn_cons laws_eqRowS.snd laws_eqRowS.ent (fn_cons laws_eqTxS.snd laws_eqTxS.ent (fn_nil _)))
theorem chk : funOk Go.Proofs.Try.prog E Go.Proofs.Try.f12 ps rs [] = true := by kernel_rfl
theorem snd : Sound Go.Proofs.Try.prog 12 sig := sound_of_body env Go.Proofs.Try.func12 rfl (es := []) (fr := []) chk (fun _ _ h => lift_some h)
end laws_eqPlain
namespace spec_CommittedOf
/-! loop example g00408 spec CommittedOf -/
abbrev Arg : Type := Plain × Unit
abbrev Out : Type := RowsResult × Unit
noncomputable def ps : List (PM × Ty) := [(.ro, tPlain)]
noncomputable def rs : List (Ty × Md) := [(tRowsResult, (roMd tRowsResult))]
noncomputable def E : Env := { TI := lookN [(28, (.slc tRow)), (29, (.slc tTx)), (31, tPlain), (36, tRowsResult)], G := lookN [(44, spec_l11Fault.sig), (50, spec_l11Back.sig)], fz := [], lv := [], lx := [], lf := [], od := [] }
noncomputable def sem (a : Arg) : Option Out := lift fun k => bodyK E k Go.Proofs.Try.f13 ps rs [] [] a
noncomputable def sig : Sig := { ps := ps, rs := rs, F := fun a => sem a }
noncomputable def C : Code := bodyOf Go.Proofs.Try.f13
noncomputable def fin : St → Option Out := outK ps rs [] (Func.results Go.Proofs.Try.f13).toList (mvs [])
noncomputable def K0 : Ex → St → Option Out := endK fin
noncomputable def p (a1 : Arg) : Option Out := (spec_l11Fault.sem (a1.1, ())).bind fun r2 => bif !decide (r2.1 = (0 : Int)) then (some ((r2.1, ([] : List Row), ()), ())) else (spec_l11Back.sem (a1.1.1, a1.1.2.1, ())).bind fun r3 => some (((0 : Int), r3.1, ()), ())
noncomputable def raw (k : Nat) (a1 : Arg) : Option Out := p a1
theorem p_eq (k : Nat) (a1 : Arg) : bodyK E k Go.Proofs.Try.f13 ps rs [] [] a1 = p a1 := by kernel_rfl
theorem raw_eq (k : Nat) (a1 : Arg) : bodyK E k Go.Proofs.Try.f13 ps rs [] [] a1 = raw k a1 := (p_eq k a1).trans (by rfl)
theorem ent : EnterOk Go.Proofs.Try.prog 13 sig.cap := ⟨Go.Proofs.Try.f13, Go.Proofs.Try.func13, by kernel_rfl, by kernel_rfl, by kernel_rfl⟩
theorem env : EnvOk Go.Proofs.Try.prog E := env_ok (tl := [(28, (.slc tRow)), (29, (.slc tTx)), (31, tPlain), (36, tRowsResult)]) (gl := [(44, spec_l11Fault.sig), (50, spec_l11Back.sig)]) rfl rfl (by kernel_rfl) (by kernel_rfl) (fn_cons spec_l11Fault.snd spec_l11Fault.ent (fn_cons spec_l11Back.snd spec_l11Back.ent (fn_nil _)))
theorem chk : funOk Go.Proofs.Try.prog E Go.Proofs.Try.f13 ps rs [] = true := by kernel_rfl
theorem snd : Sound Go.Proofs.Try.prog 13 sig := sound_of_body env Go.Proofs.Try.func13 rfl (es := []) (fr := []) chk (fun _ _ h => lift_some h)
end spec_CommittedOf
namespace impl_CommittedOf
/-! loop example g00408 impl CommittedOf -/
abbrev Arg : Type := Plain × Unit
abbrev Out : Type := RowsResult × Unit
noncomputable def ps : List (PM × Ty) := [(.ro, tPlain)]
noncomputable def rs : List (Ty × Md) := [(tRowsResult, (ownMd tRowsResult))]
noncomputable def E : Env := { TI := lookN [(28, (.slc tRow)), (29, (.slc tTx)), (31, tPlain), (36, tRowsResult)], G := lookN [(11, impl_PlainFault.sig), (49, impl_committed.sig)], fz := [], lv := [], lx := [], lf := [], od := [] }
noncomputable def sem (a : Arg) : Option Out := lift fun k => bodyK E k Go.Proofs.Try.f14 ps rs [] [] a
noncomputable def sig : Sig := { ps := ps, rs := rs, F := fun a => sem a }
noncomputable def C : Code := bodyOf Go.Proofs.Try.f14
noncomputable def fin : St → Option Out := outK ps rs [] (Func.results Go.Proofs.Try.f14).toList (mvs [])
noncomputable def K0 : Ex → St → Option Out := endK fin
noncomputable def p (a1 : Arg) : Option Out := (impl_PlainFault.sem (a1.1, ())).bind fun r2 => bif !decide (r2.1 = (0 : Int)) then (some ((r2.1, ([] : List Row), ()), ())) else (impl_committed.sem (a1.1.1, a1.1.2.1, ())).bind fun r3 => some (((0 : Int), r3.1, ()), ())
noncomputable def raw (k : Nat) (a1 : Arg) : Option Out := p a1
theorem p_eq (k : Nat) (a1 : Arg) : bodyK E k Go.Proofs.Try.f14 ps rs [] [] a1 = p a1 := by kernel_rfl
theorem raw_eq (k : Nat) (a1 : Arg) : bodyK E k Go.Proofs.Try.f14 ps rs [] [] a1 = raw k a1 := (p_eq k a1).trans (by rfl)
theorem ent : EnterOk Go.Proofs.Try.prog 14 sig.cap := ⟨Go.Proofs.Try.f14, Go.Proofs.Try.func14, by kernel_rfl, by kernel_rfl, by kernel_rfl⟩
theorem env : EnvOk Go.Proofs.Try.prog E := env_ok (tl := [(28, (.slc tRow)), (29, (.slc tTx)), (31, tPlain), (36, tRowsResult)]) (gl := [(11, impl_PlainFault.sig), (49, impl_committed.sig)]) rfl rfl (by kernel_rfl) (by kernel_rfl) (fn_cons impl_PlainFault.snd impl_PlainFault.ent (fn_cons impl_committed.snd impl_committed.ent (fn_nil _)))
theorem chk : funOk Go.Proofs.Try.prog E Go.Proofs.Try.f14 ps rs [] = true := by kernel_rfl
theorem snd : Sound Go.Proofs.Try.prog 14 sig := sound_of_body env Go.Proofs.Try.func14 rfl (es := []) (fr := []) chk (fun _ _ h => lift_some h)
end impl_CommittedOf
namespace laws_eqRowsResult
/-! loop example g00408 laws eqRowsResult -/
abbrev Arg : Type := RowsResult × RowsResult × Unit
abbrev Out : Type := Bool × Unit
noncomputable def ps : List (PM × Ty) := [(.ro, tRowsResult), (.ro, tRowsResult)]
noncomputable def rs : List (Ty × Md) := [(.bool, (roMd .bool))]
noncomputable def E : Env := { TI := lookN [(2, i64), (28, (.slc tRow)), (36, tRowsResult)], G := lookN [(28, laws_eqRowS.sig)], fz := [], lv := [], lx := [], lf := [], od := [] }
noncomputable def sem (a : Arg) : Option Out := lift fun k => bodyK E k Go.Proofs.Try.f15 ps rs [] [] a
noncomputable def sig : Sig := { ps := ps, rs := rs, F := fun a => sem a }
noncomputable def C : Code := bodyOf Go.Proofs.Try.f15
noncomputable def fin : St → Option Out := outK ps rs [] (Func.results Go.Proofs.Try.f15).toList (mvs [])
noncomputable def K0 : Ex → St → Option Out := endK fin
noncomputable def p (a1 : Arg) : Option Out := bif !decide (a1.1.1 = a1.2.1.1) then (some (false, ())) else (laws_eqRowS.sem (a1.1.2.1, a1.2.1.2.1, ())).bind fun r2 => bif !r2.1 then (some (false, ())) else some (true, ())
noncomputable def raw (k : Nat) (a1 : Arg) : Option Out := p a1
theorem p_eq (k : Nat) (a1 : Arg) : bodyK E k Go.Proofs.Try.f15 ps rs [] [] a1 = p a1 := by kernel_rfl
theorem raw_eq (k : Nat) (a1 : Arg) : bodyK E k Go.Proofs.Try.f15 ps rs [] [] a1 = raw k a1 := (p_eq k a1).trans (by rfl)
theorem ent : EnterOk Go.Proofs.Try.prog 15 sig.cap := ⟨Go.Proofs.Try.f15, Go.Proofs.Try.func15, by kernel_rfl, by kernel_rfl, by kernel_rfl⟩
theorem env : EnvOk Go.Proofs.Try.prog E := env_ok (tl := [(2, i64), (28, (.slc tRow)), (36, tRowsResult)]) (gl := [(28, laws_eqRowS.sig)]) rfl rfl (by kernel_rfl) (by kernel_rfl) (fn_cons laws_eqRowS.snd laws_eqRowS.ent (fn_nil _))
theorem chk : funOk Go.Proofs.Try.prog E Go.Proofs.Try.f15 ps rs [] = true := by kernel_rfl
theorem snd : Sound Go.Proofs.Try.prog 15 sig := sound_of_body env Go.Proofs.Try.func15 rfl (es := []) (fr := []) chk (fun _ _ h => lift_some h)
end laws_eqRowsResult
namespace laws_markText
/-! loop example g00408 laws markText -/
abbrev Arg : Type := Int × Unit
abbrev Out : Type := (List UInt8) × Unit
noncomputable def ps : List (PM × Ty) := [(.ro, i64)]
noncomputable def rs : List (Ty × Md) := [(.str, (roMd .str))]
noncomputable def E : Env := { TI := lookN [(3, i64), (5, u8), (9, .str), (126, (.slc u8))], G := lookN [], fz := [], lv := [(4, [0, 3])], lx := [(0, [3])], lf := [], od := [] }
noncomputable def sem (a : Arg) : Option Out := lift fun k => bodyK E k Go.Proofs.Try.f99 ps rs [] [] a
noncomputable def sig : Sig := { ps := ps, rs := rs, F := fun a => sem a }
noncomputable def C : Code := bodyOf Go.Proofs.Try.f99
noncomputable def fin : St → Option Out := outK ps rs [] (Func.results Go.Proofs.Try.f99).toList (mvs [])
noncomputable def K0 : Ex → St → Option Out := endK fin
noncomputable def S0 (rec : St → Option Out) (a1 : Arg) : (Int × (List UInt8)) → Option Out := fun v402 => rec ({ n := 20, sl := [(0, .val i64 v402.1), (3, .val .str v402.2)], vr := [], lent := [] })
noncomputable def X0_0 (K : Ex → St → Option Out) (a1 : Arg) : (List UInt8) → Option Out := fun z => K (.exit 0) ({ n := 20, sl := [(3, .val .str z)], vr := [], lent := [] })
noncomputable def b0 (self : (Int × (List UInt8)) → Option Out) (e0 : (List UInt8) → Option Out) (a1 : Arg) (v402 : Int × (List UInt8)) : Option Out := bif decide ((0 : Int) < v402.1) then (if [UInt8.ofInt (w64 ((48 : Int) + (v402.1.tmod (10 : Int))))].length + v402.2.length ≤ CAP then (self (w64 (v402.1.tdiv (10 : Int)), [UInt8.ofInt (w64 ((48 : Int) + (v402.1.tmod (10 : Int))))] ++ v402.2)) else none) else e0 v402.2
noncomputable def B0 (k : Nat) (self : (Int × (List UInt8)) → Option Out) (e0 : (List UInt8) → Option Out) (a1 : Arg) (v402 : Int × (List UInt8)) : Option Out := b0 self e0 a1 v402
theorem b0_eq (k : Nat) (rec : St → Option Out) (K : Ex → St → Option Out) (a1 : Arg) (v402 : Int × (List UInt8)) : codeK E k fin (sub [1, 1, 1, 0, 0, 0] C) ({ n := 20, sl := [(0, .val i64 v402.1), (3, .val .str v402.2)], vr := [], lent := [] }) (loopC rec (keepF [0, 3] []) K) = b0 (S0 rec a1) (X0_0 K a1) a1 v402 := by kernel_rfl
theorem B0_eq (k : Nat) (rec : St → Option Out) (K : Ex → St → Option Out) (a1 : Arg) (v402 : Int × (List UInt8)) : codeK E k fin (sub [1, 1, 1, 0, 0, 0] C) ({ n := 20, sl := [(0, .val i64 v402.1), (3, .val .str v402.2)], vr := [], lent := [] }) (loopC rec (keepF [0, 3] []) K) = B0 k (S0 rec a1) (X0_0 K a1) a1 v402 := (b0_eq k rec K a1 v402).trans (by rfl)
noncomputable def l0 (k : Nat) (a1 : Arg) (e0 : (List UInt8) → Option Out) (v : Int × (List UInt8)) : Option Out := rawIter (fun self v => B0 k self e0 a1 v) k v
theorem l0_eq (k : Nat) (K : Ex → St → Option Out) (a1 : Arg) (v402 : Int × (List UInt8)) : iterK (codeK E k fin (sub [1, 1, 1, 0, 0, 0] C)) (keepF [0, 3] []) K k ({ n := 20, sl := [(0, .val i64 v402.1), (3, .val .str v402.2)], vr := [], lent := [] }) = l0 k a1 (X0_0 K a1) v402 :=
  iter_raw _ _ K (fun v402 => ({ n := 20, sl := [(0, .val i64 v402.1), (3, .val .str v402.2)], vr := [], lent := [] } : St)) (fun self v => B0 k self (X0_0 K a1) a1 v) (fun rec v => B0_eq k rec K a1 v) k v402
noncomputable def q0 (a1 : Arg) (z603 : (List UInt8)) : Option Out := if ([109] : List UInt8).length + z603.length ≤ CAP then (some (([109] : List UInt8) ++ z603, ())) else none
noncomputable def Q0 (k : Nat) (a1 : Arg) (z603 : (List UInt8)) : Option Out := q0 a1 z603
theorem q0_eq (k : Nat) (a1 : Arg) (z603 : (List UInt8)) : (blockC 0 (seqC (codeK E k fin (sub [1, 1, 1, 1] C)) K0)) (.exit 0) ({ n := 20, sl := [(3, .val .str z603)], vr := [], lent := [] }) = q0 a1 z603 := by kernel_rfl
theorem Q0_eq (k : Nat) (a1 : Arg) (z603 : (List UInt8)) : (blockC 0 (seqC (codeK E k fin (sub [1, 1, 1, 1] C)) K0)) (.exit 0) ({ n := 20, sl := [(3, .val .str z603)], vr := [], lent := [] }) = Q0 k a1 z603 := (q0_eq k a1 z603).trans (by rfl)
noncomputable def s0 (k : Nat) (a1 : Arg) : (Int × (List UInt8)) → Option Out := fun v402 => iterK (codeK E k fin (sub [1, 1, 1, 0, 0, 0] C)) (keepF [0, 3] []) (blockC 0 (seqC (codeK E k fin (sub [1, 1, 1, 1] C)) K0)) k ({ n := 20, sl := [(0, .val i64 v402.1), (3, .val .str v402.2)], vr := [], lent := [] })
noncomputable def r0 (k : Nat) (a1 : Arg) : (Int × (List UInt8)) → Option Out := fun v402 => l0 k a1 (fun z => Q0 k a1 z) v402
theorem s0_eq (k : Nat) (a1 : Arg) : s0 k a1 = r0 k a1 := by
  funext v402;
  have h0 : X0_0 ((blockC 0 (seqC (codeK E k fin (sub [1, 1, 1, 1] C)) K0))) a1 = fun z => Q0 k a1 z := funext fun z => Q0_eq k a1 z
  refine (l0_eq k ((blockC 0 (seqC (codeK E k fin (sub [1, 1, 1, 1] C)) K0))) a1 v402).trans ?_
  rw [h0]
  rfl
noncomputable def p (l0 : (Int × (List UInt8)) → Option Out) (a1 : Arg) : Option Out := bif decide (a1.1 ≤ (0 : Int)) then (some (([109, 48] : List UInt8), ())) else l0 (a1.1, ([] : List UInt8))
noncomputable def raw (k : Nat) (a1 : Arg) : Option Out := p (r0 k a1) a1
theorem p_eq (k : Nat) (a1 : Arg) : bodyK E k Go.Proofs.Try.f99 ps rs [] [] a1 = p (s0 k a1) a1 := by kernel_rfl
theorem raw_eq (k : Nat) (a1 : Arg) : bodyK E k Go.Proofs.Try.f99 ps rs [] [] a1 = raw k a1 := (p_eq k a1).trans (by rw [s0_eq]; rfl)
theorem ent : EnterOk Go.Proofs.Try.prog 99 sig.cap := ⟨Go.Proofs.Try.f99, Go.Proofs.Try.func99, by kernel_rfl, by kernel_rfl, by kernel_rfl⟩
theorem env : EnvOk Go.Proofs.Try.prog E := env_ok (tl := [(3, i64), (5, u8), (9, .str), (126, (.slc u8))]) (gl := []) rfl rfl (by kernel_rfl) (by kernel_rfl) (fn_nil _)
theorem chk : funOk Go.Proofs.Try.prog E Go.Proofs.Try.f99 ps rs [] = true := by kernel_rfl
theorem snd : Sound Go.Proofs.Try.prog 99 sig := sound_of_body env Go.Proofs.Try.func99 rfl (es := []) (fr := []) chk (fun _ _ h => lift_some h)
end laws_markText
namespace laws_markRowS
/-! loop example g00408 laws markRowS -/
abbrev Arg : Type := (List Row) × Int × Unit
abbrev Out : Type := Int × (List Row) × Unit
noncomputable def ps : List (PM × Ty) := [(.muts (ownMd (.slc tRow)), (.slc tRow)), (.ro, i64)]
noncomputable def rs : List (Ty × Md) := [(i64, (roMd i64))]
noncomputable def E : Env := { TI := lookN [(2, i64), (9, .str), (28, (.slc tRow)), (48, tRow)], G := lookN [(99, laws_markText.sig)], fz := [], lv := [(2, [0, 1, 5])], lx := [(0, [0, 1])], lf := [], od := [] }
noncomputable def sem (a : Arg) : Option Out := lift fun k => bodyK E k Go.Proofs.Try.f51 ps rs [0] [] a
noncomputable def sig : Sig := { ps := ps, rs := rs, F := fun a => sem a }
noncomputable def C : Code := bodyOf Go.Proofs.Try.f51
noncomputable def fin : St → Option Out := outK ps rs [0] (Func.results Go.Proofs.Try.f51).toList (mvs [])
noncomputable def K0 : Ex → St → Option Out := endK fin
noncomputable def S0 (rec : St → Option Out) (a1 : Arg) : ((List Row) × Int × Int) → Option Out := fun v402 => rec ({ n := 42, sl := [(0, .own (.slc tRow) (ownMd (.slc tRow)) [] v402.1), (1, .val i64 v402.2.1), (5, .val i64 v402.2.2)], vr := [], lent := [(0, 0, true)] })
noncomputable def X0_0 (K : Ex → St → Option Out) (a1 : Arg) : ((List Row) × Int) → Option Out := fun z => K (.exit 0) ({ n := 42, sl := [(0, .own (.slc tRow) (ownMd (.slc tRow)) [] z.1), (1, .val i64 z.2)], vr := [], lent := [(0, 0, true)] })
noncomputable def b0 (self : ((List Row) × Int × Int) → Option Out) (e0 : ((List Row) × Int) → Option Out) (a1 : Arg) (v402 : (List Row) × Int × Int) : Option Out := bif decide (v402.2.2 < (v402.1.length : Int)) then (if 0 ≤ v402.2.2 ∧ v402.2.2 < (v402.1.length : Int) then ((v402.1[v402.2.2.toNat]?).bind fun x603 => let y604 := v402.1.set v402.2.2.toNat (v402.2.1, x603.2); if 0 ≤ v402.2.2 ∧ v402.2.2 < (y604.length : Int) then ((y604[v402.2.2.toNat]?).bind fun x605 => let y606 := y604.set v402.2.2.toNat (x605.1, w64 (v402.2.1 + (1 : Int)), x605.2.2); if 0 ≤ v402.2.2 ∧ v402.2.2 < (y606.length : Int) then ((y606[v402.2.2.toNat]?).bind fun x607 => let y608 := y606.set v402.2.2.toNat (x607.1, x607.2.1, w64 ((w64 (v402.2.1 + (1 : Int))) + (1 : Int)), x607.2.2.2); (laws_markText.sem (w64 ((w64 ((w64 (v402.2.1 + (1 : Int))) + (1 : Int))) + (1 : Int)), ())).bind fun r609 => if 0 ≤ v402.2.2 ∧ v402.2.2 < (y608.length : Int) then ((y608[v402.2.2.toNat]?).bind fun x610 => let y611 := y608.set v402.2.2.toNat (x610.1, x610.2.1, x610.2.2.1, r609.1, x610.2.2.2.2); self (y611, w64 ((w64 ((w64 ((w64 (v402.2.1 + (1 : Int))) + (1 : Int))) + (1 : Int))) + (1 : Int)), w64 (v402.2.2 + (1 : Int)))) else none) else none) else none) else none) else e0 (v402.1, v402.2.1)
noncomputable def B0 (k : Nat) (self : ((List Row) × Int × Int) → Option Out) (e0 : ((List Row) × Int) → Option Out) (a1 : Arg) (v402 : (List Row) × Int × Int) : Option Out := b0 self e0 a1 v402
theorem b0_eq (k : Nat) (rec : St → Option Out) (K : Ex → St → Option Out) (a1 : Arg) (v402 : (List Row) × Int × Int) : codeK E k fin (sub [1, 0, 1, 0, 0] C) ({ n := 42, sl := [(0, .own (.slc tRow) (ownMd (.slc tRow)) [] v402.1), (1, .val i64 v402.2.1), (5, .val i64 v402.2.2)], vr := [], lent := [(0, 0, true)] }) (loopC rec (keepF [0, 1, 5] []) K) = b0 (S0 rec a1) (X0_0 K a1) a1 v402 := by kernel_rfl
theorem B0_eq (k : Nat) (rec : St → Option Out) (K : Ex → St → Option Out) (a1 : Arg) (v402 : (List Row) × Int × Int) : codeK E k fin (sub [1, 0, 1, 0, 0] C) ({ n := 42, sl := [(0, .own (.slc tRow) (ownMd (.slc tRow)) [] v402.1), (1, .val i64 v402.2.1), (5, .val i64 v402.2.2)], vr := [], lent := [(0, 0, true)] }) (loopC rec (keepF [0, 1, 5] []) K) = B0 k (S0 rec a1) (X0_0 K a1) a1 v402 := (b0_eq k rec K a1 v402).trans (by rfl)
noncomputable def l0 (k : Nat) (a1 : Arg) (e0 : ((List Row) × Int) → Option Out) (v : (List Row) × Int × Int) : Option Out := rawIter (fun self v => B0 k self e0 a1 v) k v
theorem l0_eq (k : Nat) (K : Ex → St → Option Out) (a1 : Arg) (v402 : (List Row) × Int × Int) : iterK (codeK E k fin (sub [1, 0, 1, 0, 0] C)) (keepF [0, 1, 5] []) K k ({ n := 42, sl := [(0, .own (.slc tRow) (ownMd (.slc tRow)) [] v402.1), (1, .val i64 v402.2.1), (5, .val i64 v402.2.2)], vr := [], lent := [(0, 0, true)] }) = l0 k a1 (X0_0 K a1) v402 :=
  iter_raw _ _ K (fun v402 => ({ n := 42, sl := [(0, .own (.slc tRow) (ownMd (.slc tRow)) [] v402.1), (1, .val i64 v402.2.1), (5, .val i64 v402.2.2)], vr := [], lent := [(0, 0, true)] } : St)) (fun self v => B0 k self (X0_0 K a1) a1 v) (fun rec v => B0_eq k rec K a1 v) k v402
noncomputable def q0 (a1 : Arg) (z612 : ((List Row) × Int)) : Option Out := some (z612.2, z612.1, ())
noncomputable def Q0 (k : Nat) (a1 : Arg) (z612 : ((List Row) × Int)) : Option Out := q0 a1 z612
theorem q0_eq (k : Nat) (a1 : Arg) (z612 : ((List Row) × Int)) : (blockC 0 (seqC (codeK E k fin (sub [1, 1] C)) K0)) (.exit 0) ({ n := 42, sl := [(0, .own (.slc tRow) (ownMd (.slc tRow)) [] z612.1), (1, .val i64 z612.2)], vr := [], lent := [(0, 0, true)] }) = q0 a1 z612 := by kernel_rfl
theorem Q0_eq (k : Nat) (a1 : Arg) (z612 : ((List Row) × Int)) : (blockC 0 (seqC (codeK E k fin (sub [1, 1] C)) K0)) (.exit 0) ({ n := 42, sl := [(0, .own (.slc tRow) (ownMd (.slc tRow)) [] z612.1), (1, .val i64 z612.2)], vr := [], lent := [(0, 0, true)] }) = Q0 k a1 z612 := (q0_eq k a1 z612).trans (by rfl)
noncomputable def s0 (k : Nat) (a1 : Arg) : ((List Row) × Int × Int) → Option Out := fun v402 => iterK (codeK E k fin (sub [1, 0, 1, 0, 0] C)) (keepF [0, 1, 5] []) (blockC 0 (seqC (codeK E k fin (sub [1, 1] C)) K0)) k ({ n := 42, sl := [(0, .own (.slc tRow) (ownMd (.slc tRow)) [] v402.1), (1, .val i64 v402.2.1), (5, .val i64 v402.2.2)], vr := [], lent := [(0, 0, true)] })
noncomputable def r0 (k : Nat) (a1 : Arg) : ((List Row) × Int × Int) → Option Out := fun v402 => l0 k a1 (fun z => Q0 k a1 z) v402
theorem s0_eq (k : Nat) (a1 : Arg) : s0 k a1 = r0 k a1 := by
  funext v402;
  have h0 : X0_0 ((blockC 0 (seqC (codeK E k fin (sub [1, 1] C)) K0))) a1 = fun z => Q0 k a1 z := funext fun z => Q0_eq k a1 z
  refine (l0_eq k ((blockC 0 (seqC (codeK E k fin (sub [1, 1] C)) K0))) a1 v402).trans ?_
  rw [h0]
  rfl
noncomputable def p (l0 : ((List Row) × Int × Int) → Option Out) (a1 : Arg) : Option Out := l0 (a1.1, a1.2.1, (0 : Int))
noncomputable def raw (k : Nat) (a1 : Arg) : Option Out := p (r0 k a1) a1
theorem p_eq (k : Nat) (a1 : Arg) : bodyK E k Go.Proofs.Try.f51 ps rs [0] [] a1 = p (s0 k a1) a1 := by kernel_rfl
theorem raw_eq (k : Nat) (a1 : Arg) : bodyK E k Go.Proofs.Try.f51 ps rs [0] [] a1 = raw k a1 := (p_eq k a1).trans (by rw [s0_eq]; rfl)
theorem ent : EnterOk Go.Proofs.Try.prog 51 sig.cap := ⟨Go.Proofs.Try.f51, Go.Proofs.Try.func51, by kernel_rfl, by kernel_rfl, by kernel_rfl⟩
theorem env : EnvOk Go.Proofs.Try.prog E := env_ok (tl := [(2, i64), (9, .str), (28, (.slc tRow)), (48, tRow)]) (gl := [(99, laws_markText.sig)]) rfl rfl (by kernel_rfl) (by kernel_rfl) (fn_cons laws_markText.snd laws_markText.ent (fn_nil _))
theorem chk : funOk Go.Proofs.Try.prog E Go.Proofs.Try.f51 ps rs [0] = true := by kernel_rfl
theorem snd : Sound Go.Proofs.Try.prog 51 sig := sound_of_body env Go.Proofs.Try.func51 rfl (es := [0]) (fr := []) chk (fun _ _ h => lift_some h)
end laws_markRowS
namespace laws_markChangeS
/-! loop example g00408 laws markChangeS -/
abbrev Arg : Type := (List Change) × Int × Unit
abbrev Out : Type := Int × (List Change) × Unit
noncomputable def ps : List (PM × Ty) := [(.muts (ownMd (.slc tChange)), (.slc tChange)), (.ro, i64)]
noncomputable def rs : List (Ty × Md) := [(i64, (roMd i64))]
noncomputable def E : Env := { TI := lookN [(2, i64), (4, .bool), (9, .str), (48, tRow), (50, tChange), (65, (.slc tChange))], G := lookN [(99, laws_markText.sig)], fz := [], lv := [(2, [0, 1, 5])], lx := [(0, [0, 1])], lf := [], od := [] }
noncomputable def sem (a : Arg) : Option Out := lift fun k => bodyK E k Go.Proofs.Try.f100 ps rs [0] [] a
noncomputable def sig : Sig := { ps := ps, rs := rs, F := fun a => sem a }
noncomputable def C : Code := bodyOf Go.Proofs.Try.f100
noncomputable def fin : St → Option Out := outK ps rs [0] (Func.results Go.Proofs.Try.f100).toList (mvs [])
noncomputable def K0 : Ex → St → Option Out := endK fin
noncomputable def S0 (rec : St → Option Out) (a1 : Arg) : ((List Change) × Int × Int) → Option Out := fun v402 => rec ({ n := 97, sl := [(0, .own (.slc tChange) (ownMd (.slc tChange)) [] v402.1), (1, .val i64 v402.2.1), (5, .val i64 v402.2.2)], vr := [], lent := [(0, 0, true)] })
noncomputable def X0_0 (K : Ex → St → Option Out) (a1 : Arg) : ((List Change) × Int) → Option Out := fun z => K (.exit 0) ({ n := 97, sl := [(0, .own (.slc tChange) (ownMd (.slc tChange)) [] z.1), (1, .val i64 z.2)], vr := [], lent := [(0, 0, true)] })
noncomputable def b0 (self : ((List Change) × Int × Int) → Option Out) (e0 : ((List Change) × Int) → Option Out) (a1 : Arg) (v402 : (List Change) × Int × Int) : Option Out := bif decide (v402.2.2 < (v402.1.length : Int)) then (if 0 ≤ v402.2.2 ∧ v402.2.2 < (v402.1.length : Int) then ((v402.1[v402.2.2.toNat]?).bind fun x603 => let y604 := v402.1.set v402.2.2.toNat (decide (v402.2.1.tmod (3 : Int) = (0 : Int)), x603.2); if 0 ≤ v402.2.2 ∧ v402.2.2 < (y604.length : Int) then ((y604[v402.2.2.toNat]?).bind fun x605 => let y606 := y604.set v402.2.2.toNat (x605.1, (w64 (v402.2.1 + (1 : Int)), x605.2.1.2), x605.2.2); if 0 ≤ v402.2.2 ∧ v402.2.2 < (y606.length : Int) then ((y606[v402.2.2.toNat]?).bind fun x607 => let y608 := y606.set v402.2.2.toNat (x607.1, (x607.2.1.1, w64 ((w64 (v402.2.1 + (1 : Int))) + (1 : Int)), x607.2.1.2.2), x607.2.2); if 0 ≤ v402.2.2 ∧ v402.2.2 < (y608.length : Int) then ((y608[v402.2.2.toNat]?).bind fun x609 => let y610 := y608.set v402.2.2.toNat (x609.1, (x609.2.1.1, x609.2.1.2.1, w64 ((w64 ((w64 (v402.2.1 + (1 : Int))) + (1 : Int))) + (1 : Int)), x609.2.1.2.2.2), x609.2.2); (laws_markText.sem (w64 ((w64 ((w64 ((w64 (v402.2.1 + (1 : Int))) + (1 : Int))) + (1 : Int))) + (1 : Int)), ())).bind fun r611 => if 0 ≤ v402.2.2 ∧ v402.2.2 < (y610.length : Int) then ((y610[v402.2.2.toNat]?).bind fun x612 => let y613 := y610.set v402.2.2.toNat (x612.1, (x612.2.1.1, x612.2.1.2.1, x612.2.1.2.2.1, r611.1, x612.2.1.2.2.2.2), x612.2.2); if 0 ≤ v402.2.2 ∧ v402.2.2 < (y613.length : Int) then ((y613[v402.2.2.toNat]?).bind fun x614 => let y615 := y613.set v402.2.2.toNat (x614.1, x614.2.1, decide ((w64 ((w64 ((w64 ((w64 ((w64 (v402.2.1 + (1 : Int))) + (1 : Int))) + (1 : Int))) + (1 : Int))) + (1 : Int))).tmod (3 : Int) = (0 : Int)), x614.2.2.2); if 0 ≤ v402.2.2 ∧ v402.2.2 < (y615.length : Int) then ((y615[v402.2.2.toNat]?).bind fun x616 => let y617 := y615.set v402.2.2.toNat (x616.1, x616.2.1, x616.2.2.1, (w64 ((w64 ((w64 ((w64 ((w64 ((w64 (v402.2.1 + (1 : Int))) + (1 : Int))) + (1 : Int))) + (1 : Int))) + (1 : Int))) + (1 : Int)), x616.2.2.2.1.2), x616.2.2.2.2); if 0 ≤ v402.2.2 ∧ v402.2.2 < (y617.length : Int) then ((y617[v402.2.2.toNat]?).bind fun x618 => let y619 := y617.set v402.2.2.toNat (x618.1, x618.2.1, x618.2.2.1, (x618.2.2.2.1.1, w64 ((w64 ((w64 ((w64 ((w64 ((w64 ((w64 (v402.2.1 + (1 : Int))) + (1 : Int))) + (1 : Int))) + (1 : Int))) + (1 : Int))) + (1 : Int))) + (1 : Int)), x618.2.2.2.1.2.2), x618.2.2.2.2); if 0 ≤ v402.2.2 ∧ v402.2.2 < (y619.length : Int) then ((y619[v402.2.2.toNat]?).bind fun x620 => let y621 := y619.set v402.2.2.toNat (x620.1, x620.2.1, x620.2.2.1, (x620.2.2.2.1.1, x620.2.2.2.1.2.1, w64 ((w64 ((w64 ((w64 ((w64 ((w64 ((w64 ((w64 (v402.2.1 + (1 : Int))) + (1 : Int))) + (1 : Int))) + (1 : Int))) + (1 : Int))) + (1 : Int))) + (1 : Int))) + (1 : Int)), x620.2.2.2.1.2.2.2), x620.2.2.2.2); (laws_markText.sem (w64 ((w64 ((w64 ((w64 ((w64 ((w64 ((w64 ((w64 ((w64 (v402.2.1 + (1 : Int))) + (1 : Int))) + (1 : Int))) + (1 : Int))) + (1 : Int))) + (1 : Int))) + (1 : Int))) + (1 : Int))) + (1 : Int)), ())).bind fun r622 => if 0 ≤ v402.2.2 ∧ v402.2.2 < (y621.length : Int) then ((y621[v402.2.2.toNat]?).bind fun x623 => let y624 := y621.set v402.2.2.toNat (x623.1, x623.2.1, x623.2.2.1, (x623.2.2.2.1.1, x623.2.2.2.1.2.1, x623.2.2.2.1.2.2.1, r622.1, x623.2.2.2.1.2.2.2.2), x623.2.2.2.2); self (y624, w64 ((w64 ((w64 ((w64 ((w64 ((w64 ((w64 ((w64 ((w64 ((w64 (v402.2.1 + (1 : Int))) + (1 : Int))) + (1 : Int))) + (1 : Int))) + (1 : Int))) + (1 : Int))) + (1 : Int))) + (1 : Int))) + (1 : Int))) + (1 : Int)), w64 (v402.2.2 + (1 : Int)))) else none) else none) else none) else none) else none) else none) else none) else none) else none) else none) else e0 (v402.1, v402.2.1)
noncomputable def B0 (k : Nat) (self : ((List Change) × Int × Int) → Option Out) (e0 : ((List Change) × Int) → Option Out) (a1 : Arg) (v402 : (List Change) × Int × Int) : Option Out := b0 self e0 a1 v402
theorem b0_eq (k : Nat) (rec : St → Option Out) (K : Ex → St → Option Out) (a1 : Arg) (v402 : (List Change) × Int × Int) : codeK E k fin (sub [1, 0, 1, 0, 0] C) ({ n := 97, sl := [(0, .own (.slc tChange) (ownMd (.slc tChange)) [] v402.1), (1, .val i64 v402.2.1), (5, .val i64 v402.2.2)], vr := [], lent := [(0, 0, true)] }) (loopC rec (keepF [0, 1, 5] []) K) = b0 (S0 rec a1) (X0_0 K a1) a1 v402 := by kernel_rfl
theorem B0_eq (k : Nat) (rec : St → Option Out) (K : Ex → St → Option Out) (a1 : Arg) (v402 : (List Change) × Int × Int) : codeK E k fin (sub [1, 0, 1, 0, 0] C) ({ n := 97, sl := [(0, .own (.slc tChange) (ownMd (.slc tChange)) [] v402.1), (1, .val i64 v402.2.1), (5, .val i64 v402.2.2)], vr := [], lent := [(0, 0, true)] }) (loopC rec (keepF [0, 1, 5] []) K) = B0 k (S0 rec a1) (X0_0 K a1) a1 v402 := (b0_eq k rec K a1 v402).trans (by rfl)
noncomputable def l0 (k : Nat) (a1 : Arg) (e0 : ((List Change) × Int) → Option Out) (v : (List Change) × Int × Int) : Option Out := rawIter (fun self v => B0 k self e0 a1 v) k v
theorem l0_eq (k : Nat) (K : Ex → St → Option Out) (a1 : Arg) (v402 : (List Change) × Int × Int) : iterK (codeK E k fin (sub [1, 0, 1, 0, 0] C)) (keepF [0, 1, 5] []) K k ({ n := 97, sl := [(0, .own (.slc tChange) (ownMd (.slc tChange)) [] v402.1), (1, .val i64 v402.2.1), (5, .val i64 v402.2.2)], vr := [], lent := [(0, 0, true)] }) = l0 k a1 (X0_0 K a1) v402 :=
  iter_raw _ _ K (fun v402 => ({ n := 97, sl := [(0, .own (.slc tChange) (ownMd (.slc tChange)) [] v402.1), (1, .val i64 v402.2.1), (5, .val i64 v402.2.2)], vr := [], lent := [(0, 0, true)] } : St)) (fun self v => B0 k self (X0_0 K a1) a1 v) (fun rec v => B0_eq k rec K a1 v) k v402
noncomputable def q0 (a1 : Arg) (z625 : ((List Change) × Int)) : Option Out := some (z625.2, z625.1, ())
noncomputable def Q0 (k : Nat) (a1 : Arg) (z625 : ((List Change) × Int)) : Option Out := q0 a1 z625
theorem q0_eq (k : Nat) (a1 : Arg) (z625 : ((List Change) × Int)) : (blockC 0 (seqC (codeK E k fin (sub [1, 1] C)) K0)) (.exit 0) ({ n := 97, sl := [(0, .own (.slc tChange) (ownMd (.slc tChange)) [] z625.1), (1, .val i64 z625.2)], vr := [], lent := [(0, 0, true)] }) = q0 a1 z625 := by kernel_rfl
theorem Q0_eq (k : Nat) (a1 : Arg) (z625 : ((List Change) × Int)) : (blockC 0 (seqC (codeK E k fin (sub [1, 1] C)) K0)) (.exit 0) ({ n := 97, sl := [(0, .own (.slc tChange) (ownMd (.slc tChange)) [] z625.1), (1, .val i64 z625.2)], vr := [], lent := [(0, 0, true)] }) = Q0 k a1 z625 := (q0_eq k a1 z625).trans (by rfl)
noncomputable def s0 (k : Nat) (a1 : Arg) : ((List Change) × Int × Int) → Option Out := fun v402 => iterK (codeK E k fin (sub [1, 0, 1, 0, 0] C)) (keepF [0, 1, 5] []) (blockC 0 (seqC (codeK E k fin (sub [1, 1] C)) K0)) k ({ n := 97, sl := [(0, .own (.slc tChange) (ownMd (.slc tChange)) [] v402.1), (1, .val i64 v402.2.1), (5, .val i64 v402.2.2)], vr := [], lent := [(0, 0, true)] })
noncomputable def r0 (k : Nat) (a1 : Arg) : ((List Change) × Int × Int) → Option Out := fun v402 => l0 k a1 (fun z => Q0 k a1 z) v402
theorem s0_eq (k : Nat) (a1 : Arg) : s0 k a1 = r0 k a1 := by
  funext v402;
  have h0 : X0_0 ((blockC 0 (seqC (codeK E k fin (sub [1, 1] C)) K0))) a1 = fun z => Q0 k a1 z := funext fun z => Q0_eq k a1 z
  refine (l0_eq k ((blockC 0 (seqC (codeK E k fin (sub [1, 1] C)) K0))) a1 v402).trans ?_
  rw [h0]
  rfl
noncomputable def p (l0 : ((List Change) × Int × Int) → Option Out) (a1 : Arg) : Option Out := l0 (a1.1, a1.2.1, (0 : Int))
noncomputable def raw (k : Nat) (a1 : Arg) : Option Out := p (r0 k a1) a1
theorem p_eq (k : Nat) (a1 : Arg) : bodyK E k Go.Proofs.Try.f100 ps rs [0] [] a1 = p (s0 k a1) a1 := by kernel_rfl
theorem raw_eq (k : Nat) (a1 : Arg) : bodyK E k Go.Proofs.Try.f100 ps rs [0] [] a1 = raw k a1 := (p_eq k a1).trans (by rw [s0_eq]; rfl)
theorem ent : EnterOk Go.Proofs.Try.prog 100 sig.cap := ⟨Go.Proofs.Try.f100, Go.Proofs.Try.func100, by kernel_rfl, by kernel_rfl, by kernel_rfl⟩
theorem env : EnvOk Go.Proofs.Try.prog E := env_ok (tl := [(2, i64), (4, .bool), (9, .str), (48, tRow), (50, tChange), (65, (.slc tChange))]) (gl := [(99, laws_markText.sig)]) rfl rfl (by kernel_rfl) (by kernel_rfl) (fn_cons laws_markText.snd laws_markText.ent (fn_nil _))
theorem chk : funOk Go.Proofs.Try.prog E Go.Proofs.Try.f100 ps rs [0] = true := by kernel_rfl
theorem snd : Sound Go.Proofs.Try.prog 100 sig := sound_of_body env Go.Proofs.Try.func100 rfl (es := [0]) (fr := []) chk (fun _ _ h => lift_some h)
end laws_markChangeS
namespace laws_markInt64S
/-! loop example g00408 laws markInt64S -/
abbrev Arg : Type := (List Int) × Int × Unit
abbrev Out : Type := Int × (List Int) × Unit
noncomputable def ps : List (PM × Ty) := [(.muts (ownMd (.slc i64)), (.slc i64)), (.ro, i64)]
noncomputable def rs : List (Ty × Md) := [(i64, (roMd i64))]
noncomputable def E : Env := { TI := lookN [(2, i64), (96, (.slc i64))], G := lookN [], fz := [], lv := [(2, [0, 1, 5])], lx := [(0, [0, 1])], lf := [], od := [] }
noncomputable def sem (a : Arg) : Option Out := lift fun k => bodyK E k Go.Proofs.Try.f101 ps rs [0] [] a
noncomputable def sig : Sig := { ps := ps, rs := rs, F := fun a => sem a }
noncomputable def C : Code := bodyOf Go.Proofs.Try.f101
noncomputable def fin : St → Option Out := outK ps rs [0] (Func.results Go.Proofs.Try.f101).toList (mvs [])
noncomputable def K0 : Ex → St → Option Out := endK fin
noncomputable def S0 (rec : St → Option Out) (a1 : Arg) : ((List Int) × Int × Int) → Option Out := fun v402 => rec ({ n := 19, sl := [(0, .own (.slc i64) (ownMd (.slc i64)) [] v402.1), (1, .val i64 v402.2.1), (5, .val i64 v402.2.2)], vr := [], lent := [(0, 0, true)] })
noncomputable def X0_0 (K : Ex → St → Option Out) (a1 : Arg) : ((List Int) × Int) → Option Out := fun z => K (.exit 0) ({ n := 19, sl := [(0, .own (.slc i64) (ownMd (.slc i64)) [] z.1), (1, .val i64 z.2)], vr := [], lent := [(0, 0, true)] })
noncomputable def b0 (self : ((List Int) × Int × Int) → Option Out) (e0 : ((List Int) × Int) → Option Out) (a1 : Arg) (v402 : (List Int) × Int × Int) : Option Out := bif decide (v402.2.2 < (v402.1.length : Int)) then (if 0 ≤ v402.2.2 ∧ v402.2.2 < (v402.1.length : Int) then ((v402.1[v402.2.2.toNat]?).bind fun x603 => self (v402.1.set v402.2.2.toNat v402.2.1, w64 (v402.2.1 + (1 : Int)), w64 (v402.2.2 + (1 : Int)))) else none) else e0 (v402.1, v402.2.1)
noncomputable def B0 (k : Nat) (self : ((List Int) × Int × Int) → Option Out) (e0 : ((List Int) × Int) → Option Out) (a1 : Arg) (v402 : (List Int) × Int × Int) : Option Out := b0 self e0 a1 v402
theorem b0_eq (k : Nat) (rec : St → Option Out) (K : Ex → St → Option Out) (a1 : Arg) (v402 : (List Int) × Int × Int) : codeK E k fin (sub [1, 0, 1, 0, 0] C) ({ n := 19, sl := [(0, .own (.slc i64) (ownMd (.slc i64)) [] v402.1), (1, .val i64 v402.2.1), (5, .val i64 v402.2.2)], vr := [], lent := [(0, 0, true)] }) (loopC rec (keepF [0, 1, 5] []) K) = b0 (S0 rec a1) (X0_0 K a1) a1 v402 := by kernel_rfl
theorem B0_eq (k : Nat) (rec : St → Option Out) (K : Ex → St → Option Out) (a1 : Arg) (v402 : (List Int) × Int × Int) : codeK E k fin (sub [1, 0, 1, 0, 0] C) ({ n := 19, sl := [(0, .own (.slc i64) (ownMd (.slc i64)) [] v402.1), (1, .val i64 v402.2.1), (5, .val i64 v402.2.2)], vr := [], lent := [(0, 0, true)] }) (loopC rec (keepF [0, 1, 5] []) K) = B0 k (S0 rec a1) (X0_0 K a1) a1 v402 := (b0_eq k rec K a1 v402).trans (by rfl)
noncomputable def l0 (k : Nat) (a1 : Arg) (e0 : ((List Int) × Int) → Option Out) (v : (List Int) × Int × Int) : Option Out := rawIter (fun self v => B0 k self e0 a1 v) k v
theorem l0_eq (k : Nat) (K : Ex → St → Option Out) (a1 : Arg) (v402 : (List Int) × Int × Int) : iterK (codeK E k fin (sub [1, 0, 1, 0, 0] C)) (keepF [0, 1, 5] []) K k ({ n := 19, sl := [(0, .own (.slc i64) (ownMd (.slc i64)) [] v402.1), (1, .val i64 v402.2.1), (5, .val i64 v402.2.2)], vr := [], lent := [(0, 0, true)] }) = l0 k a1 (X0_0 K a1) v402 :=
  iter_raw _ _ K (fun v402 => ({ n := 19, sl := [(0, .own (.slc i64) (ownMd (.slc i64)) [] v402.1), (1, .val i64 v402.2.1), (5, .val i64 v402.2.2)], vr := [], lent := [(0, 0, true)] } : St)) (fun self v => B0 k self (X0_0 K a1) a1 v) (fun rec v => B0_eq k rec K a1 v) k v402
noncomputable def q0 (a1 : Arg) (z604 : ((List Int) × Int)) : Option Out := some (z604.2, z604.1, ())
noncomputable def Q0 (k : Nat) (a1 : Arg) (z604 : ((List Int) × Int)) : Option Out := q0 a1 z604
theorem q0_eq (k : Nat) (a1 : Arg) (z604 : ((List Int) × Int)) : (blockC 0 (seqC (codeK E k fin (sub [1, 1] C)) K0)) (.exit 0) ({ n := 19, sl := [(0, .own (.slc i64) (ownMd (.slc i64)) [] z604.1), (1, .val i64 z604.2)], vr := [], lent := [(0, 0, true)] }) = q0 a1 z604 := by kernel_rfl
theorem Q0_eq (k : Nat) (a1 : Arg) (z604 : ((List Int) × Int)) : (blockC 0 (seqC (codeK E k fin (sub [1, 1] C)) K0)) (.exit 0) ({ n := 19, sl := [(0, .own (.slc i64) (ownMd (.slc i64)) [] z604.1), (1, .val i64 z604.2)], vr := [], lent := [(0, 0, true)] }) = Q0 k a1 z604 := (q0_eq k a1 z604).trans (by rfl)
noncomputable def s0 (k : Nat) (a1 : Arg) : ((List Int) × Int × Int) → Option Out := fun v402 => iterK (codeK E k fin (sub [1, 0, 1, 0, 0] C)) (keepF [0, 1, 5] []) (blockC 0 (seqC (codeK E k fin (sub [1, 1] C)) K0)) k ({ n := 19, sl := [(0, .own (.slc i64) (ownMd (.slc i64)) [] v402.1), (1, .val i64 v402.2.1), (5, .val i64 v402.2.2)], vr := [], lent := [(0, 0, true)] })
noncomputable def r0 (k : Nat) (a1 : Arg) : ((List Int) × Int × Int) → Option Out := fun v402 => l0 k a1 (fun z => Q0 k a1 z) v402
theorem s0_eq (k : Nat) (a1 : Arg) : s0 k a1 = r0 k a1 := by
  funext v402;
  have h0 : X0_0 ((blockC 0 (seqC (codeK E k fin (sub [1, 1] C)) K0))) a1 = fun z => Q0 k a1 z := funext fun z => Q0_eq k a1 z
  refine (l0_eq k ((blockC 0 (seqC (codeK E k fin (sub [1, 1] C)) K0))) a1 v402).trans ?_
  rw [h0]
  rfl
noncomputable def p (l0 : ((List Int) × Int × Int) → Option Out) (a1 : Arg) : Option Out := l0 (a1.1, a1.2.1, (0 : Int))
noncomputable def raw (k : Nat) (a1 : Arg) : Option Out := p (r0 k a1) a1
theorem p_eq (k : Nat) (a1 : Arg) : bodyK E k Go.Proofs.Try.f101 ps rs [0] [] a1 = p (s0 k a1) a1 := by kernel_rfl
theorem raw_eq (k : Nat) (a1 : Arg) : bodyK E k Go.Proofs.Try.f101 ps rs [0] [] a1 = raw k a1 := (p_eq k a1).trans (by rw [s0_eq]; rfl)
theorem ent : EnterOk Go.Proofs.Try.prog 101 sig.cap := ⟨Go.Proofs.Try.f101, Go.Proofs.Try.func101, by kernel_rfl, by kernel_rfl, by kernel_rfl⟩
theorem env : EnvOk Go.Proofs.Try.prog E := env_ok (tl := [(2, i64), (96, (.slc i64))]) (gl := []) rfl rfl (by kernel_rfl) (by kernel_rfl) (fn_nil _)
theorem chk : funOk Go.Proofs.Try.prog E Go.Proofs.Try.f101 ps rs [0] = true := by kernel_rfl
theorem snd : Sound Go.Proofs.Try.prog 101 sig := sound_of_body env Go.Proofs.Try.func101 rfl (es := [0]) (fr := []) chk (fun _ _ h => lift_some h)
end laws_markInt64S
namespace laws_markKeyS
/-! loop example g00408 laws markKeyS -/
abbrev Arg : Type := (List Key) × Int × Unit
abbrev Out : Type := Int × (List Key) × Unit
noncomputable def ps : List (PM × Ty) := [(.muts (ownMd (.slc tKey)), (.slc tKey)), (.ro, i64)]
noncomputable def rs : List (Ty × Md) := [(i64, (roMd i64))]
noncomputable def E : Env := { TI := lookN [(2, i64), (97, (.slc tKey)), (146, tKey)], G := lookN [], fz := [], lv := [(2, [0, 1, 5])], lx := [(0, [0, 1])], lf := [], od := [] }
noncomputable def sem (a : Arg) : Option Out := lift fun k => bodyK E k Go.Proofs.Try.f102 ps rs [0] [] a
noncomputable def sig : Sig := { ps := ps, rs := rs, F := fun a => sem a }
noncomputable def C : Code := bodyOf Go.Proofs.Try.f102
noncomputable def fin : St → Option Out := outK ps rs [0] (Func.results Go.Proofs.Try.f102).toList (mvs [])
noncomputable def K0 : Ex → St → Option Out := endK fin
noncomputable def S0 (rec : St → Option Out) (a1 : Arg) : ((List Key) × Int × Int) → Option Out := fun v402 => rec ({ n := 27, sl := [(0, .own (.slc tKey) (ownMd (.slc tKey)) [] v402.1), (1, .val i64 v402.2.1), (5, .val i64 v402.2.2)], vr := [], lent := [(0, 0, true)] })
noncomputable def X0_0 (K : Ex → St → Option Out) (a1 : Arg) : ((List Key) × Int) → Option Out := fun z => K (.exit 0) ({ n := 27, sl := [(0, .own (.slc tKey) (ownMd (.slc tKey)) [] z.1), (1, .val i64 z.2)], vr := [], lent := [(0, 0, true)] })
noncomputable def b0 (self : ((List Key) × Int × Int) → Option Out) (e0 : ((List Key) × Int) → Option Out) (a1 : Arg) (v402 : (List Key) × Int × Int) : Option Out := bif decide (v402.2.2 < (v402.1.length : Int)) then (if 0 ≤ v402.2.2 ∧ v402.2.2 < (v402.1.length : Int) then ((v402.1[v402.2.2.toNat]?).bind fun x603 => let y604 := v402.1.set v402.2.2.toNat (v402.2.1, x603.2); if 0 ≤ v402.2.2 ∧ v402.2.2 < (y604.length : Int) then ((y604[v402.2.2.toNat]?).bind fun x605 => let y606 := y604.set v402.2.2.toNat (x605.1, w64 (v402.2.1 + (1 : Int)), x605.2.2); self (y606, w64 ((w64 (v402.2.1 + (1 : Int))) + (1 : Int)), w64 (v402.2.2 + (1 : Int)))) else none) else none) else e0 (v402.1, v402.2.1)
noncomputable def B0 (k : Nat) (self : ((List Key) × Int × Int) → Option Out) (e0 : ((List Key) × Int) → Option Out) (a1 : Arg) (v402 : (List Key) × Int × Int) : Option Out := b0 self e0 a1 v402
theorem b0_eq (k : Nat) (rec : St → Option Out) (K : Ex → St → Option Out) (a1 : Arg) (v402 : (List Key) × Int × Int) : codeK E k fin (sub [1, 0, 1, 0, 0] C) ({ n := 27, sl := [(0, .own (.slc tKey) (ownMd (.slc tKey)) [] v402.1), (1, .val i64 v402.2.1), (5, .val i64 v402.2.2)], vr := [], lent := [(0, 0, true)] }) (loopC rec (keepF [0, 1, 5] []) K) = b0 (S0 rec a1) (X0_0 K a1) a1 v402 := by kernel_rfl
theorem B0_eq (k : Nat) (rec : St → Option Out) (K : Ex → St → Option Out) (a1 : Arg) (v402 : (List Key) × Int × Int) : codeK E k fin (sub [1, 0, 1, 0, 0] C) ({ n := 27, sl := [(0, .own (.slc tKey) (ownMd (.slc tKey)) [] v402.1), (1, .val i64 v402.2.1), (5, .val i64 v402.2.2)], vr := [], lent := [(0, 0, true)] }) (loopC rec (keepF [0, 1, 5] []) K) = B0 k (S0 rec a1) (X0_0 K a1) a1 v402 := (b0_eq k rec K a1 v402).trans (by rfl)
noncomputable def l0 (k : Nat) (a1 : Arg) (e0 : ((List Key) × Int) → Option Out) (v : (List Key) × Int × Int) : Option Out := rawIter (fun self v => B0 k self e0 a1 v) k v
theorem l0_eq (k : Nat) (K : Ex → St → Option Out) (a1 : Arg) (v402 : (List Key) × Int × Int) : iterK (codeK E k fin (sub [1, 0, 1, 0, 0] C)) (keepF [0, 1, 5] []) K k ({ n := 27, sl := [(0, .own (.slc tKey) (ownMd (.slc tKey)) [] v402.1), (1, .val i64 v402.2.1), (5, .val i64 v402.2.2)], vr := [], lent := [(0, 0, true)] }) = l0 k a1 (X0_0 K a1) v402 :=
  iter_raw _ _ K (fun v402 => ({ n := 27, sl := [(0, .own (.slc tKey) (ownMd (.slc tKey)) [] v402.1), (1, .val i64 v402.2.1), (5, .val i64 v402.2.2)], vr := [], lent := [(0, 0, true)] } : St)) (fun self v => B0 k self (X0_0 K a1) a1 v) (fun rec v => B0_eq k rec K a1 v) k v402
noncomputable def q0 (a1 : Arg) (z607 : ((List Key) × Int)) : Option Out := some (z607.2, z607.1, ())
noncomputable def Q0 (k : Nat) (a1 : Arg) (z607 : ((List Key) × Int)) : Option Out := q0 a1 z607
theorem q0_eq (k : Nat) (a1 : Arg) (z607 : ((List Key) × Int)) : (blockC 0 (seqC (codeK E k fin (sub [1, 1] C)) K0)) (.exit 0) ({ n := 27, sl := [(0, .own (.slc tKey) (ownMd (.slc tKey)) [] z607.1), (1, .val i64 z607.2)], vr := [], lent := [(0, 0, true)] }) = q0 a1 z607 := by kernel_rfl
theorem Q0_eq (k : Nat) (a1 : Arg) (z607 : ((List Key) × Int)) : (blockC 0 (seqC (codeK E k fin (sub [1, 1] C)) K0)) (.exit 0) ({ n := 27, sl := [(0, .own (.slc tKey) (ownMd (.slc tKey)) [] z607.1), (1, .val i64 z607.2)], vr := [], lent := [(0, 0, true)] }) = Q0 k a1 z607 := (q0_eq k a1 z607).trans (by rfl)
noncomputable def s0 (k : Nat) (a1 : Arg) : ((List Key) × Int × Int) → Option Out := fun v402 => iterK (codeK E k fin (sub [1, 0, 1, 0, 0] C)) (keepF [0, 1, 5] []) (blockC 0 (seqC (codeK E k fin (sub [1, 1] C)) K0)) k ({ n := 27, sl := [(0, .own (.slc tKey) (ownMd (.slc tKey)) [] v402.1), (1, .val i64 v402.2.1), (5, .val i64 v402.2.2)], vr := [], lent := [(0, 0, true)] })
noncomputable def r0 (k : Nat) (a1 : Arg) : ((List Key) × Int × Int) → Option Out := fun v402 => l0 k a1 (fun z => Q0 k a1 z) v402
theorem s0_eq (k : Nat) (a1 : Arg) : s0 k a1 = r0 k a1 := by
  funext v402;
  have h0 : X0_0 ((blockC 0 (seqC (codeK E k fin (sub [1, 1] C)) K0))) a1 = fun z => Q0 k a1 z := funext fun z => Q0_eq k a1 z
  refine (l0_eq k ((blockC 0 (seqC (codeK E k fin (sub [1, 1] C)) K0))) a1 v402).trans ?_
  rw [h0]
  rfl
noncomputable def p (l0 : ((List Key) × Int × Int) → Option Out) (a1 : Arg) : Option Out := l0 (a1.1, a1.2.1, (0 : Int))
noncomputable def raw (k : Nat) (a1 : Arg) : Option Out := p (r0 k a1) a1
theorem p_eq (k : Nat) (a1 : Arg) : bodyK E k Go.Proofs.Try.f102 ps rs [0] [] a1 = p (s0 k a1) a1 := by kernel_rfl
theorem raw_eq (k : Nat) (a1 : Arg) : bodyK E k Go.Proofs.Try.f102 ps rs [0] [] a1 = raw k a1 := (p_eq k a1).trans (by rw [s0_eq]; rfl)
theorem ent : EnterOk Go.Proofs.Try.prog 102 sig.cap := ⟨Go.Proofs.Try.f102, Go.Proofs.Try.func102, by kernel_rfl, by kernel_rfl, by kernel_rfl⟩
theorem env : EnvOk Go.Proofs.Try.prog E := env_ok (tl := [(2, i64), (97, (.slc tKey)), (146, tKey)]) (gl := []) rfl rfl (by kernel_rfl) (by kernel_rfl) (fn_nil _)
theorem chk : funOk Go.Proofs.Try.prog E Go.Proofs.Try.f102 ps rs [0] = true := by kernel_rfl
theorem snd : Sound Go.Proofs.Try.prog 102 sig := sound_of_body env Go.Proofs.Try.func102 rfl (es := [0]) (fr := []) chk (fun _ _ h => lift_some h)
end laws_markKeyS
namespace laws_markTxS
/-! loop example g00408 laws markTxS -/
abbrev Arg : Type := (List Tx) × Int × Unit
abbrev Out : Type := Int × (List Tx) × Unit
noncomputable def ps : List (PM × Ty) := [(.muts (ownMd (.slc tTx)), (.slc tTx)), (.ro, i64)]
noncomputable def rs : List (Ty × Md) := [(i64, (roMd i64))]
noncomputable def E : Env := { TI := lookN [(2, i64), (29, (.slc tTx)), (65, (.slc tChange)), (96, (.slc i64)), (97, (.slc tKey)), (99, tTx)], G := lookN [(100, laws_markChangeS.sig), (101, laws_markInt64S.sig), (102, laws_markKeyS.sig)], fz := [], lv := [(2, [0, 1, 5])], lx := [(0, [0, 1])], lf := [], od := [] }
noncomputable def sem (a : Arg) : Option Out := lift fun k => bodyK E k Go.Proofs.Try.f52 ps rs [0] [] a
noncomputable def sig : Sig := { ps := ps, rs := rs, F := fun a => sem a }
noncomputable def C : Code := bodyOf Go.Proofs.Try.f52
noncomputable def fin : St → Option Out := outK ps rs [0] (Func.results Go.Proofs.Try.f52).toList (mvs [])
noncomputable def K0 : Ex → St → Option Out := endK fin
noncomputable def S0 (rec : St → Option Out) (a1 : Arg) : ((List Tx) × Int × Int) → Option Out := fun v402 => rec ({ n := 41, sl := [(0, .own (.slc tTx) (ownMd (.slc tTx)) [] v402.1), (1, .val i64 v402.2.1), (5, .val i64 v402.2.2)], vr := [], lent := [(0, 0, true)] })
noncomputable def X0_0 (K : Ex → St → Option Out) (a1 : Arg) : ((List Tx) × Int) → Option Out := fun z => K (.exit 0) ({ n := 41, sl := [(0, .own (.slc tTx) (ownMd (.slc tTx)) [] z.1), (1, .val i64 z.2)], vr := [], lent := [(0, 0, true)] })
noncomputable def b0 (self : ((List Tx) × Int × Int) → Option Out) (e0 : ((List Tx) × Int) → Option Out) (a1 : Arg) (v402 : (List Tx) × Int × Int) : Option Out := bif decide (v402.2.2 < (v402.1.length : Int)) then (if 0 ≤ v402.2.2 ∧ v402.2.2 < (v402.1.length : Int) then ((v402.1[v402.2.2.toNat]?).bind fun x603 => let y604 := v402.1.set v402.2.2.toNat (v402.2.1, x603.2); if 0 ≤ v402.2.2 ∧ v402.2.2 < (y604.length : Int) then ((y604[v402.2.2.toNat]?).bind fun x605 => (y604[v402.2.2.toNat]?).bind fun x606 => (y604[v402.2.2.toNat]?).bind fun x607 => (laws_markChangeS.sem (x607.2.1, w64 (v402.2.1 + (1 : Int)), ())).bind fun r608 => (y604[v402.2.2.toNat]?).bind fun x609 => let y610 := y604.set v402.2.2.toNat (x609.1, r608.2.1, x609.2.2); if 0 ≤ v402.2.2 ∧ v402.2.2 < (y610.length : Int) then ((y610[v402.2.2.toNat]?).bind fun x611 => (y610[v402.2.2.toNat]?).bind fun x612 => (y610[v402.2.2.toNat]?).bind fun x613 => (laws_markInt64S.sem (x613.2.2.1, r608.1, ())).bind fun r614 => (y610[v402.2.2.toNat]?).bind fun x615 => let y616 := y610.set v402.2.2.toNat (x615.1, x615.2.1, r614.2.1, x615.2.2.2); if 0 ≤ v402.2.2 ∧ v402.2.2 < (y616.length : Int) then ((y616[v402.2.2.toNat]?).bind fun x617 => (y616[v402.2.2.toNat]?).bind fun x618 => (y616[v402.2.2.toNat]?).bind fun x619 => (laws_markKeyS.sem (x619.2.2.2.1, r614.1, ())).bind fun r620 => (y616[v402.2.2.toNat]?).bind fun x621 => let y622 := y616.set v402.2.2.toNat (x621.1, x621.2.1, x621.2.2.1, r620.2.1, x621.2.2.2.2); self (y622, r620.1, w64 (v402.2.2 + (1 : Int)))) else none) else none) else none) else none) else e0 (v402.1, v402.2.1)
noncomputable def B0 (k : Nat) (self : ((List Tx) × Int × Int) → Option Out) (e0 : ((List Tx) × Int) → Option Out) (a1 : Arg) (v402 : (List Tx) × Int × Int) : Option Out := b0 self e0 a1 v402
theorem b0_eq (k : Nat) (rec : St → Option Out) (K : Ex → St → Option Out) (a1 : Arg) (v402 : (List Tx) × Int × Int) : codeK E k fin (sub [1, 0, 1, 0, 0] C) ({ n := 41, sl := [(0, .own (.slc tTx) (ownMd (.slc tTx)) [] v402.1), (1, .val i64 v402.2.1), (5, .val i64 v402.2.2)], vr := [], lent := [(0, 0, true)] }) (loopC rec (keepF [0, 1, 5] []) K) = b0 (S0 rec a1) (X0_0 K a1) a1 v402 := by kernel_rfl
theorem B0_eq (k : Nat) (rec : St → Option Out) (K : Ex → St → Option Out) (a1 : Arg) (v402 : (List Tx) × Int × Int) : codeK E k fin (sub [1, 0, 1, 0, 0] C) ({ n := 41, sl := [(0, .own (.slc tTx) (ownMd (.slc tTx)) [] v402.1), (1, .val i64 v402.2.1), (5, .val i64 v402.2.2)], vr := [], lent := [(0, 0, true)] }) (loopC rec (keepF [0, 1, 5] []) K) = B0 k (S0 rec a1) (X0_0 K a1) a1 v402 := (b0_eq k rec K a1 v402).trans (by rfl)
noncomputable def l0 (k : Nat) (a1 : Arg) (e0 : ((List Tx) × Int) → Option Out) (v : (List Tx) × Int × Int) : Option Out := rawIter (fun self v => B0 k self e0 a1 v) k v
theorem l0_eq (k : Nat) (K : Ex → St → Option Out) (a1 : Arg) (v402 : (List Tx) × Int × Int) : iterK (codeK E k fin (sub [1, 0, 1, 0, 0] C)) (keepF [0, 1, 5] []) K k ({ n := 41, sl := [(0, .own (.slc tTx) (ownMd (.slc tTx)) [] v402.1), (1, .val i64 v402.2.1), (5, .val i64 v402.2.2)], vr := [], lent := [(0, 0, true)] }) = l0 k a1 (X0_0 K a1) v402 :=
  iter_raw _ _ K (fun v402 => ({ n := 41, sl := [(0, .own (.slc tTx) (ownMd (.slc tTx)) [] v402.1), (1, .val i64 v402.2.1), (5, .val i64 v402.2.2)], vr := [], lent := [(0, 0, true)] } : St)) (fun self v => B0 k self (X0_0 K a1) a1 v) (fun rec v => B0_eq k rec K a1 v) k v402
noncomputable def q0 (a1 : Arg) (z623 : ((List Tx) × Int)) : Option Out := some (z623.2, z623.1, ())
noncomputable def Q0 (k : Nat) (a1 : Arg) (z623 : ((List Tx) × Int)) : Option Out := q0 a1 z623
theorem q0_eq (k : Nat) (a1 : Arg) (z623 : ((List Tx) × Int)) : (blockC 0 (seqC (codeK E k fin (sub [1, 1] C)) K0)) (.exit 0) ({ n := 41, sl := [(0, .own (.slc tTx) (ownMd (.slc tTx)) [] z623.1), (1, .val i64 z623.2)], vr := [], lent := [(0, 0, true)] }) = q0 a1 z623 := by kernel_rfl
theorem Q0_eq (k : Nat) (a1 : Arg) (z623 : ((List Tx) × Int)) : (blockC 0 (seqC (codeK E k fin (sub [1, 1] C)) K0)) (.exit 0) ({ n := 41, sl := [(0, .own (.slc tTx) (ownMd (.slc tTx)) [] z623.1), (1, .val i64 z623.2)], vr := [], lent := [(0, 0, true)] }) = Q0 k a1 z623 := (q0_eq k a1 z623).trans (by rfl)
noncomputable def s0 (k : Nat) (a1 : Arg) : ((List Tx) × Int × Int) → Option Out := fun v402 => iterK (codeK E k fin (sub [1, 0, 1, 0, 0] C)) (keepF [0, 1, 5] []) (blockC 0 (seqC (codeK E k fin (sub [1, 1] C)) K0)) k ({ n := 41, sl := [(0, .own (.slc tTx) (ownMd (.slc tTx)) [] v402.1), (1, .val i64 v402.2.1), (5, .val i64 v402.2.2)], vr := [], lent := [(0, 0, true)] })
noncomputable def r0 (k : Nat) (a1 : Arg) : ((List Tx) × Int × Int) → Option Out := fun v402 => l0 k a1 (fun z => Q0 k a1 z) v402
theorem s0_eq (k : Nat) (a1 : Arg) : s0 k a1 = r0 k a1 := by
  funext v402;
  have h0 : X0_0 ((blockC 0 (seqC (codeK E k fin (sub [1, 1] C)) K0))) a1 = fun z => Q0 k a1 z := funext fun z => Q0_eq k a1 z
  refine (l0_eq k ((blockC 0 (seqC (codeK E k fin (sub [1, 1] C)) K0))) a1 v402).trans ?_
  rw [h0]
  rfl
noncomputable def p (l0 : ((List Tx) × Int × Int) → Option Out) (a1 : Arg) : Option Out := l0 (a1.1, a1.2.1, (0 : Int))
noncomputable def raw (k : Nat) (a1 : Arg) : Option Out := p (r0 k a1) a1
theorem p_eq (k : Nat) (a1 : Arg) : bodyK E k Go.Proofs.Try.f52 ps rs [0] [] a1 = p (s0 k a1) a1 := by kernel_rfl
theorem raw_eq (k : Nat) (a1 : Arg) : bodyK E k Go.Proofs.Try.f52 ps rs [0] [] a1 = raw k a1 := (p_eq k a1).trans (by rw [s0_eq]; rfl)
theorem ent : EnterOk Go.Proofs.Try.prog 52 sig.cap := ⟨Go.Proofs.Try.f52, Go.Proofs.Try.func52, by kernel_rfl, by kernel_rfl, by kernel_rfl⟩
theorem env : EnvOk Go.Proofs.Try.prog E := env_ok (tl := [(2, i64), (29, (.slc tTx)), (65, (.slc tChange)), (96, (.slc i64)), (97, (.slc tKey)), (99, tTx)]) (gl := [(100, laws_markChangeS.sig), (101, laws_markInt64S.sig), (102, laws_markKeyS.sig)]) rfl rfl (by kernel_rfl) (by kernel_rfl) (fn_cons laws_markChangeS.snd laws_markChangeS.ent (fn_cons laws_markInt64S.snd laws_markInt64S.ent (fn_cons laws_markKeyS.snd laws_markKeyS.ent (fn_nil _))))
theorem chk : funOk Go.Proofs.Try.prog E Go.Proofs.Try.f52 ps rs [0] = true := by kernel_rfl
theorem snd : Sound Go.Proofs.Try.prog 52 sig := sound_of_body env Go.Proofs.Try.func52 rfl (es := [0]) (fr := []) chk (fun _ _ h => lift_some h)
end laws_markTxS
namespace laws_markPlain
/-! loop example g00408 laws markPlain -/
abbrev Arg : Type := Plain × Int × Unit
abbrev Out : Type := Int × Plain × Unit
noncomputable def ps : List (PM × Ty) := [(.muts (ownMd tPlain), tPlain), (.ro, i64)]
noncomputable def rs : List (Ty × Md) := [(i64, (roMd i64))]
noncomputable def E : Env := { TI := lookN [(28, (.slc tRow)), (29, (.slc tTx)), (31, tPlain)], G := lookN [(51, laws_markRowS.sig), (52, laws_markTxS.sig)], fz := [], lv := [], lx := [], lf := [], od := [] }
noncomputable def sem (a : Arg) : Option Out := lift fun k => bodyK E k Go.Proofs.Try.f16 ps rs [2] [] a
noncomputable def sig : Sig := { ps := ps, rs := rs, F := fun a => sem a }
noncomputable def C : Code := bodyOf Go.Proofs.Try.f16
noncomputable def fin : St → Option Out := outK ps rs [2] (Func.results Go.Proofs.Try.f16).toList (mvs [])
noncomputable def K0 : Ex → St → Option Out := endK fin
noncomputable def p (a1 : Arg) : Option Out := (laws_markRowS.sem (a1.1.1, a1.2.1, ())).bind fun r2 => (laws_markTxS.sem (a1.1.2.1, r2.1, ())).bind fun r3 => some (r3.1, (r2.2.1, r3.2.1, a1.1.2.2), ())
noncomputable def raw (k : Nat) (a1 : Arg) : Option Out := p a1
theorem p_eq (k : Nat) (a1 : Arg) : bodyK E k Go.Proofs.Try.f16 ps rs [2] [] a1 = p a1 := by kernel_rfl
theorem raw_eq (k : Nat) (a1 : Arg) : bodyK E k Go.Proofs.Try.f16 ps rs [2] [] a1 = raw k a1 := (p_eq k a1).trans (by rfl)
theorem ent : EnterOk Go.Proofs.Try.prog 16 sig.cap := ⟨Go.Proofs.Try.f16, Go.Proofs.Try.func16, by kernel_rfl, by kernel_rfl, by kernel_rfl⟩
theorem env : EnvOk Go.Proofs.Try.prog E := env_ok (tl := [(28, (.slc tRow)), (29, (.slc tTx)), (31, tPlain)]) (gl := [(51, laws_markRowS.sig), (52, laws_markTxS.sig)]) rfl rfl (by kernel_rfl) (by kernel_rfl) (fn_cons laws_markRowS.snd laws_markRowS.ent (fn_cons laws_markTxS.snd laws_markTxS.ent (fn_nil _)))
theorem chk : funOk Go.Proofs.Try.prog E Go.Proofs.Try.f16 ps rs [2] = true := by kernel_rfl
theorem snd : Sound Go.Proofs.Try.prog 16 sig := sound_of_body env Go.Proofs.Try.func16 rfl (es := [2]) (fr := []) chk (fun _ _ h => lift_some h)
end laws_markPlain
namespace laws_markRowsResult
/-! loop example g00408 laws markRowsResult -/
abbrev Arg : Type := RowsResult × Int × Unit
abbrev Out : Type := Int × RowsResult × Unit
noncomputable def ps : List (PM × Ty) := [(.muts (ownMd tRowsResult), tRowsResult), (.ro, i64)]
noncomputable def rs : List (Ty × Md) := [(i64, (roMd i64))]
noncomputable def E : Env := { TI := lookN [(28, (.slc tRow)), (36, tRowsResult)], G := lookN [(51, laws_markRowS.sig)], fz := [], lv := [], lx := [], lf := [], od := [] }
noncomputable def sem (a : Arg) : Option Out := lift fun k => bodyK E k Go.Proofs.Try.f17 ps rs [2] [] a
noncomputable def sig : Sig := { ps := ps, rs := rs, F := fun a => sem a }
noncomputable def C : Code := bodyOf Go.Proofs.Try.f17
noncomputable def fin : St → Option Out := outK ps rs [2] (Func.results Go.Proofs.Try.f17).toList (mvs [])
noncomputable def K0 : Ex → St → Option Out := endK fin
noncomputable def p (a1 : Arg) : Option Out := (laws_markRowS.sem (a1.1.2.1, a1.2.1, ())).bind fun r2 => some (r2.1, (a1.1.1, r2.2.1, a1.1.2.2), ())
noncomputable def raw (k : Nat) (a1 : Arg) : Option Out := p a1
theorem p_eq (k : Nat) (a1 : Arg) : bodyK E k Go.Proofs.Try.f17 ps rs [2] [] a1 = p a1 := by kernel_rfl
theorem raw_eq (k : Nat) (a1 : Arg) : bodyK E k Go.Proofs.Try.f17 ps rs [2] [] a1 = raw k a1 := (p_eq k a1).trans (by rfl)
theorem ent : EnterOk Go.Proofs.Try.prog 17 sig.cap := ⟨Go.Proofs.Try.f17, Go.Proofs.Try.func17, by kernel_rfl, by kernel_rfl, by kernel_rfl⟩
theorem env : EnvOk Go.Proofs.Try.prog E := env_ok (tl := [(28, (.slc tRow)), (36, tRowsResult)]) (gl := [(51, laws_markRowS.sig)]) rfl rfl (by kernel_rfl) (by kernel_rfl) (fn_cons laws_markRowS.snd laws_markRowS.ent (fn_nil _))
theorem chk : funOk Go.Proofs.Try.prog E Go.Proofs.Try.f17 ps rs [2] = true := by kernel_rfl
theorem snd : Sound Go.Proofs.Try.prog 17 sig := sound_of_body env Go.Proofs.Try.func17 rfl (es := [2]) (fr := []) chk (fun _ _ h => lift_some h)
end laws_markRowsResult
namespace laws_heldRowS
/-! loop example g00408 laws heldRowS -/
abbrev Arg : Type := (List Row) × Int × Unit
abbrev Out : Type := Int × Unit
noncomputable def ps : List (PM × Ty) := [(.ro, (.slc tRow)), (.ro, i64)]
noncomputable def rs : List (Ty × Md) := [(i64, (roMd i64))]
noncomputable def E : Env := { TI := lookN [(2, i64), (9, .str), (28, (.slc tRow)), (48, tRow)], G := lookN [(99, laws_markText.sig)], fz := [], lv := [(2, [0, 1, 5])], lx := [(0, [1])], lf := [], od := [(13, [0, 1, 2, 3, 4, 5, 6, 7])] }
noncomputable def sem (a : Arg) : Option Out := lift fun k => bodyK E k Go.Proofs.Try.f53 ps rs [] [] a
noncomputable def sig : Sig := { ps := ps, rs := rs, F := fun a => sem a }
noncomputable def C : Code := bodyOf Go.Proofs.Try.f53
noncomputable def fin : St → Option Out := outK ps rs [] (Func.results Go.Proofs.Try.f53).toList (mvs [])
noncomputable def K0 : Ex → St → Option Out := endK fin
noncomputable def S0 (rec : St → Option Out) (a1 : Arg) : (Int × Int) → Option Out := fun v402 => rec ({ n := 50, sl := [(0, .val (.slc tRow) a1.1), (1, .val i64 v402.1), (5, .val i64 v402.2)], vr := [], lent := [] })
noncomputable def X0_0 (K : Ex → St → Option Out) (a1 : Arg) : Int → Option Out := fun z => K (.exit 0) ({ n := 50, sl := [(1, .val i64 z)], vr := [], lent := [] })
noncomputable def b0 (self : (Int × Int) → Option Out) (e0 : Int → Option Out) (a1 : Arg) (v402 : Int × Int) : Option Out := bif decide (v402.2 < (a1.1.length : Int)) then (if 0 ≤ v402.2 then ((a1.1[v402.2.toNat]?).bind fun x603 => bif !decide (x603.1 = v402.1) then (some ((-1 : Int), ())) else if 0 ≤ v402.2 then ((a1.1[v402.2.toNat]?).bind fun x604 => bif !decide (x604.2.1 = w64 (v402.1 + (1 : Int))) then (some ((-1 : Int), ())) else if 0 ≤ v402.2 then ((a1.1[v402.2.toNat]?).bind fun x605 => bif !decide (x605.2.2.1 = w64 ((w64 (v402.1 + (1 : Int))) + (1 : Int))) then (some ((-1 : Int), ())) else if 0 ≤ v402.2 then ((a1.1[v402.2.toNat]?).bind fun x606 => (laws_markText.sem (w64 ((w64 ((w64 (v402.1 + (1 : Int))) + (1 : Int))) + (1 : Int)), ())).bind fun r607 => bif !decide (x606.2.2.2.1 = r607.1) then (some ((-1 : Int), ())) else self (w64 ((w64 ((w64 ((w64 (v402.1 + (1 : Int))) + (1 : Int))) + (1 : Int))) + (1 : Int)), w64 (v402.2 + (1 : Int)))) else none) else none) else none) else none) else e0 v402.1
noncomputable def B0 (k : Nat) (self : (Int × Int) → Option Out) (e0 : Int → Option Out) (a1 : Arg) (v402 : Int × Int) : Option Out := b0 self e0 a1 v402
theorem b0_eq (k : Nat) (rec : St → Option Out) (K : Ex → St → Option Out) (a1 : Arg) (v402 : Int × Int) : codeK E k fin (sub [1, 0, 1, 0, 0] C) ({ n := 50, sl := [(0, .val (.slc tRow) a1.1), (1, .val i64 v402.1), (5, .val i64 v402.2)], vr := [], lent := [] }) (loopC rec (keepF [0, 1, 5] []) K) = b0 (S0 rec a1) (X0_0 K a1) a1 v402 := by kernel_rfl
theorem B0_eq (k : Nat) (rec : St → Option Out) (K : Ex → St → Option Out) (a1 : Arg) (v402 : Int × Int) : codeK E k fin (sub [1, 0, 1, 0, 0] C) ({ n := 50, sl := [(0, .val (.slc tRow) a1.1), (1, .val i64 v402.1), (5, .val i64 v402.2)], vr := [], lent := [] }) (loopC rec (keepF [0, 1, 5] []) K) = B0 k (S0 rec a1) (X0_0 K a1) a1 v402 := (b0_eq k rec K a1 v402).trans (by rfl)
noncomputable def l0 (k : Nat) (a1 : Arg) (e0 : Int → Option Out) (v : Int × Int) : Option Out := rawIter (fun self v => B0 k self e0 a1 v) k v
theorem l0_eq (k : Nat) (K : Ex → St → Option Out) (a1 : Arg) (v402 : Int × Int) : iterK (codeK E k fin (sub [1, 0, 1, 0, 0] C)) (keepF [0, 1, 5] []) K k ({ n := 50, sl := [(0, .val (.slc tRow) a1.1), (1, .val i64 v402.1), (5, .val i64 v402.2)], vr := [], lent := [] }) = l0 k a1 (X0_0 K a1) v402 :=
  iter_raw _ _ K (fun v402 => ({ n := 50, sl := [(0, .val (.slc tRow) a1.1), (1, .val i64 v402.1), (5, .val i64 v402.2)], vr := [], lent := [] } : St)) (fun self v => B0 k self (X0_0 K a1) a1 v) (fun rec v => B0_eq k rec K a1 v) k v402
noncomputable def q0 (a1 : Arg) (z608 : Int) : Option Out := some (z608, ())
noncomputable def Q0 (k : Nat) (a1 : Arg) (z608 : Int) : Option Out := q0 a1 z608
theorem q0_eq (k : Nat) (a1 : Arg) (z608 : Int) : (blockC 0 (seqC (codeK E k fin (sub [1, 1] C)) K0)) (.exit 0) ({ n := 50, sl := [(1, .val i64 z608)], vr := [], lent := [] }) = q0 a1 z608 := by kernel_rfl
theorem Q0_eq (k : Nat) (a1 : Arg) (z608 : Int) : (blockC 0 (seqC (codeK E k fin (sub [1, 1] C)) K0)) (.exit 0) ({ n := 50, sl := [(1, .val i64 z608)], vr := [], lent := [] }) = Q0 k a1 z608 := (q0_eq k a1 z608).trans (by rfl)
noncomputable def s0 (k : Nat) (a1 : Arg) : (Int × Int) → Option Out := fun v402 => iterK (codeK E k fin (sub [1, 0, 1, 0, 0] C)) (keepF [0, 1, 5] []) (blockC 0 (seqC (codeK E k fin (sub [1, 1] C)) K0)) k ({ n := 50, sl := [(0, .val (.slc tRow) a1.1), (1, .val i64 v402.1), (5, .val i64 v402.2)], vr := [], lent := [] })
noncomputable def r0 (k : Nat) (a1 : Arg) : (Int × Int) → Option Out := fun v402 => l0 k a1 (fun z => Q0 k a1 z) v402
theorem s0_eq (k : Nat) (a1 : Arg) : s0 k a1 = r0 k a1 := by
  funext v402;
  have h0 : X0_0 ((blockC 0 (seqC (codeK E k fin (sub [1, 1] C)) K0))) a1 = fun z => Q0 k a1 z := funext fun z => Q0_eq k a1 z
  refine (l0_eq k ((blockC 0 (seqC (codeK E k fin (sub [1, 1] C)) K0))) a1 v402).trans ?_
  rw [h0]
  rfl
noncomputable def p (l0 : (Int × Int) → Option Out) (a1 : Arg) : Option Out := l0 (a1.2.1, (0 : Int))
noncomputable def raw (k : Nat) (a1 : Arg) : Option Out := p (r0 k a1) a1
theorem p_eq (k : Nat) (a1 : Arg) : bodyK E k Go.Proofs.Try.f53 ps rs [] [] a1 = p (s0 k a1) a1 := by kernel_rfl
theorem raw_eq (k : Nat) (a1 : Arg) : bodyK E k Go.Proofs.Try.f53 ps rs [] [] a1 = raw k a1 := (p_eq k a1).trans (by rw [s0_eq]; rfl)
theorem ent : EnterOk Go.Proofs.Try.prog 53 sig.cap := ⟨Go.Proofs.Try.f53, Go.Proofs.Try.func53, by kernel_rfl, by kernel_rfl, by kernel_rfl⟩
theorem env : EnvOk Go.Proofs.Try.prog E := env_ok (tl := [(2, i64), (9, .str), (28, (.slc tRow)), (48, tRow)]) (gl := [(99, laws_markText.sig)]) rfl rfl (by kernel_rfl) (by kernel_rfl) (fn_cons laws_markText.snd laws_markText.ent (fn_nil _))
theorem chk : funOk Go.Proofs.Try.prog E Go.Proofs.Try.f53 ps rs [] = true := by kernel_rfl
theorem snd : Sound Go.Proofs.Try.prog 53 sig := sound_of_body env Go.Proofs.Try.func53 rfl (es := []) (fr := []) chk (fun _ _ h => lift_some h)
end laws_heldRowS
namespace laws_heldRowsResult
/-! loop example g00408 laws heldRowsResult -/
abbrev Arg : Type := RowsResult × Int × Unit
abbrev Out : Type := Int × Unit
noncomputable def ps : List (PM × Ty) := [(.ro, tRowsResult), (.ro, i64)]
noncomputable def rs : List (Ty × Md) := [(i64, (roMd i64))]
noncomputable def E : Env := { TI := lookN [(28, (.slc tRow)), (36, tRowsResult)], G := lookN [(53, laws_heldRowS.sig)], fz := [], lv := [], lx := [], lf := [], od := [] }
noncomputable def sem (a : Arg) : Option Out := lift fun k => bodyK E k Go.Proofs.Try.f18 ps rs [] [] a
noncomputable def sig : Sig := { ps := ps, rs := rs, F := fun a => sem a }
noncomputable def C : Code := bodyOf Go.Proofs.Try.f18
noncomputable def fin : St → Option Out := outK ps rs [] (Func.results Go.Proofs.Try.f18).toList (mvs [])
noncomputable def K0 : Ex → St → Option Out := endK fin
noncomputable def p (a1 : Arg) : Option Out := (laws_heldRowS.sem (a1.1.2.1, a1.2.1, ())).bind fun r2 => bif decide (r2.1 < (0 : Int)) then (some ((-1 : Int), ())) else some (r2.1, ())
noncomputable def raw (k : Nat) (a1 : Arg) : Option Out := p a1
theorem p_eq (k : Nat) (a1 : Arg) : bodyK E k Go.Proofs.Try.f18 ps rs [] [] a1 = p a1 := by kernel_rfl
theorem raw_eq (k : Nat) (a1 : Arg) : bodyK E k Go.Proofs.Try.f18 ps rs [] [] a1 = raw k a1 := (p_eq k a1).trans (by rfl)
theorem ent : EnterOk Go.Proofs.Try.prog 18 sig.cap := ⟨Go.Proofs.Try.f18, Go.Proofs.Try.func18, by kernel_rfl, by kernel_rfl, by kernel_rfl⟩
theorem env : EnvOk Go.Proofs.Try.prog E := env_ok (tl := [(28, (.slc tRow)), (36, tRowsResult)]) (gl := [(53, laws_heldRowS.sig)]) rfl rfl (by kernel_rfl) (by kernel_rfl) (fn_cons laws_heldRowS.snd laws_heldRowS.ent (fn_nil _))
theorem chk : funOk Go.Proofs.Try.prog E Go.Proofs.Try.f18 ps rs [] = true := by kernel_rfl
theorem snd : Sound Go.Proofs.Try.prog 18 sig := sound_of_body env Go.Proofs.Try.func18 rfl (es := []) (fr := []) chk (fun _ _ h => lift_some h)
end laws_heldRowsResult
namespace laws_FnExactCommittedOf
/-! loop example g00408 laws FnExactCommittedOf -/
abbrev Arg : Type := Plain × Unit
abbrev Out : Type := Bool × Unit
noncomputable def ps : List (PM × Ty) := [(.ro, tPlain)]
noncomputable def rs : List (Ty × Md) := [(.bool, (roMd .bool))]
noncomputable def E : Env := { TI := lookN [(25, tPlain), (31, tPlain), (36, tRowsResult)], G := lookN [(8, laws_szPlain.sig), (10, laws_toPlain.sig), (12, laws_eqPlain.sig), (13, spec_CommittedOf.sig), (14, impl_CommittedOf.sig), (15, laws_eqRowsResult.sig), (16, laws_markPlain.sig), (17, laws_markRowsResult.sig), (18, laws_heldRowsResult.sig)], fz := [], lv := [], lx := [], lf := [], od := [(10, [0, 1, 2, 3, 4])] }
noncomputable def sem (a : Arg) : Option Out := lift fun k => bodyK E k Go.Proofs.Try.f4 ps rs [] [] a
noncomputable def sig : Sig := { ps := ps, rs := rs, F := fun a => sem a }
noncomputable def C : Code := bodyOf Go.Proofs.Try.f4
noncomputable def fin : St → Option Out := outK ps rs [] (Func.results Go.Proofs.Try.f4).toList (mvs [])
noncomputable def K0 : Ex → St → Option Out := endK fin
noncomputable def p (a1 : Arg) : Option Out := (laws_szPlain.sem (a1.1, (1048576 : Int), ())).bind fun r2 => bif decide (r2.1 < (0 : Int)) then (some (true, ())) else (laws_toPlain.sem (a1.1, ())).bind fun r3 => (spec_CommittedOf.sem (r3.1, ())).bind fun r4 => (laws_toPlain.sem (a1.1, ())).bind fun r5 => (impl_CommittedOf.sem (r5.1, ())).bind fun r6 => (laws_eqRowsResult.sem (r6.1, r4.1, ())).bind fun r7 => bif !r7.1 then (some (false, ())) else (laws_toPlain.sem (a1.1, ())).bind fun r8 => (laws_eqPlain.sem (r5.1, r8.1, ())).bind fun r9 => bif !r9.1 then (some (false, ())) else (laws_markPlain.sem (r5.1, (1 : Int), ())).bind fun r10 => bif decide (r10.1 < (0 : Int)) then (some (false, ())) else (laws_eqRowsResult.sem (r6.1, r4.1, ())).bind fun r11 => bif !r11.1 then (some (false, ())) else (laws_markRowsResult.sem (r6.1, (1 : Int), ())).bind fun r12 => (laws_heldRowsResult.sem (r12.2.1, (1 : Int), ())).bind fun r13 => bif decide (r13.1 < (0 : Int)) then (some (false, ())) else bif !decide (r13.1 = r12.1) then (some (false, ())) else (laws_toPlain.sem (a1.1, ())).bind fun r14 => (impl_CommittedOf.sem (r14.1, ())).bind fun r15 => (laws_eqRowsResult.sem (r15.1, r4.1, ())).bind fun r16 => bif !r16.1 then (some (false, ())) else (laws_heldRowsResult.sem (r12.2.1, (1 : Int), ())).bind fun r17 => bif decide (r17.1 < (0 : Int)) then (some (false, ())) else bif !decide (r17.1 = r12.1) then (some (false, ())) else some (true, ())
noncomputable def raw (k : Nat) (a1 : Arg) : Option Out := p a1
theorem p_eq (k : Nat) (a1 : Arg) : bodyK E k Go.Proofs.Try.f4 ps rs [] [] a1 = p a1 := by kernel_rfl
theorem raw_eq (k : Nat) (a1 : Arg) : bodyK E k Go.Proofs.Try.f4 ps rs [] [] a1 = raw k a1 := (p_eq k a1).trans (by rfl)
theorem ent : EnterOk Go.Proofs.Try.prog 4 sig.cap := ⟨Go.Proofs.Try.f4, Go.Proofs.Try.func4, by kernel_rfl, by kernel_rfl, by kernel_rfl⟩
theorem env : EnvOk Go.Proofs.Try.prog E := env_ok (tl := [(25, tPlain), (31, tPlain), (36, tRowsResult)]) (gl := [(8, laws_szPlain.sig), (10, laws_toPlain.sig), (12, laws_eqPlain.sig), (13, spec_CommittedOf.sig), (14, impl_CommittedOf.sig), (15, laws_eqRowsResult.sig), (16, laws_markPlain.sig), (17, laws_markRowsResult.sig), (18, laws_heldRowsResult.sig)]) rfl rfl (by kernel_rfl) (by kernel_rfl) (fn_cons laws_szPlain.snd laws_szPlain.ent (fn_cons laws_toPlain.snd laws_toPlain.ent (fn_cons laws_eqPlain.snd laws_eqPlain.ent (fn_cons spec_CommittedOf.snd spec_CommittedOf.ent (fn_cons impl_CommittedOf.snd impl_CommittedOf.ent (fn_cons laws_eqRowsResult.snd laws_eqRowsResult.ent (fn_cons laws_markPlain.snd laws_markPlain.ent (fn_cons laws_markRowsResult.snd laws_markRowsResult.ent (fn_cons laws_heldRowsResult.snd laws_heldRowsResult.ent (fn_nil _))))))))))
theorem chk : funOk Go.Proofs.Try.prog E Go.Proofs.Try.f4 ps rs [] = true := by kernel_rfl
theorem snd : Sound Go.Proofs.Try.prog 4 sig := sound_of_body env Go.Proofs.Try.func4 rfl (es := []) (fr := []) chk (fun _ _ h => lift_some h)
end laws_FnExactCommittedOf
end OT
